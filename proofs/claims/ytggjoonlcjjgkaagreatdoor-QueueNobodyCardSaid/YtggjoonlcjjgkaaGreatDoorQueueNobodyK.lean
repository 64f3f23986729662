/- Part 11 of what QueueNobody leans on: my own lemmas, merged by shake.py. -/
import Derived.Test.YtggjoonlcjjgkaaGreatDoorQueueNobodyJ
namespace Go.Proofs.YtggjoonlcjjgkaaGreatDoor
open _root_.Go.Proofs.Tryz
set_option maxHeartbeats 12800000
set_option maxRecDepth 100000
open Go.RowKit Go.Shelf Word
variable{g g':Gph}{c:HCf}{s s':HSt}{a kd:Int}{f:Int->Option Value}{rs:List Int}{L:List Ob}{b64 b65 base j m mm n nb p p1 p2 q r x y:Nat}{S:Nat->Prop}{u' v:Vm}{A B W5 w w' w1 w2:World}
def HSt.cut(s:HSt)(w:World):HSt:={s with X:=AD s.X w}
theorem HIn.cut(h:HIn w c g s):HIn w c g (s.cut w):=⟨h.com.sub (λ_ _ hk=>hk.1),h.mem.cut,h.img,h.gok,h.cok,h.bt,h.bs,h.sl⟩
structure DJ(s s':HSt):Prop where
 lf:s'.lf<=s.lf
 cyc:s'.cyc=if s.lf≠0/\s'.lf=0 then wrap64 (s.cyc+1)else s.cyc
theorem DJ.same(s:HSt):DJ s s:=⟨ϑ _,by omega⟩
def HOp(w:World)(c:HCf)(s:HSt)(g':Gph)(w':World):Prop:=∃s',BB w c s g' s' w'/\DJ s s'
theorem HOp.same(h:HIn w c g s)(hn:s.o=none↔s.lf=0)(gr:Gr w w'):HOp w c s g w':=⟨s,⟨gr.touch _,h.gr gr,rfl,λ_ h=>.inl h,hn⟩,DJ.same s⟩
theorem YKV(h:HIn w c g s)(hn:s.o=none↔s.lf=0)(gr:Gr w w1)(hW:((s.cut w).sp c).W u' (s.cut w).X w1 w2)(hi:Img u' g' s.F s.base s.top)(hg:g'.Ok)(hS:g'.S=g.S):
  Calls prog 43 #[pP s.A.hp] w2 λe w3=>e=.returned (.tuple #[])/\∃s',BB w c s g' s' w3/\DJ s s'/\HKp s s'/\AB (λk=>k=s.A.hp) w2 w3:=by
 refine(Zis (h.cut.gr gr) hW hi hg hS).mono ?_;rintro e w3 ⟨rfl,s',hr,hA,hl,hc,hF,hT⟩;refine⟨rfl,s',⟨(gr.touch _).trans' (hr.t.mono (λk _ hk=>hk.imp (λh=>h.1) id)) (λ_ _ h=>h),hr.i,hr.hp,λk hk=>?_,hr.o⟩,⟨hl,?_⟩,⟨hF.F,hF.base,hF.top⟩,hT⟩
 ·rcases hr.S k hk with h1|h1
  ·exact .inl (h1.imp (λh=>h.1) id)
  ·exact .inr (δ gr.size h1)
 ·rw[hc];by_cases h0:s.lf=0
  ·rw[ψ (λhh=>hh.1 (hn.2 h0)),ψ (λhh=>hh.1 h0)];rfl
  ·have Y:(s.cut w).o≠none:=λe=>h0 (hn.1 e);by_cases h1:s'.lf=0
   ·rw[θ ⟨Y,h1⟩,θ ⟨h0,h1⟩];rfl
   ·rw[ψ (λhh=>h1 hh.2),ψ (λhh=>h1 hh.2)];rfl
theorem ZWm(h:HIn w c g s)(hn:s.o=none↔s.lf=0)(gr:Gr w w1)(hW:((s.cut w).sp c).W u' (s.cut w).X w1 w2)(hi:Img u' g' s.F s.base s.top)(hg:g'.Ok)(hS:g'.S=g.S):
  Calls prog 43 #[pP s.A.hp] w2 λe w3=>e=.returned (.tuple #[])/\∃s',BB w c s g' s' w3/\DJ s s'/\HKp s s':=
 (YKV h hn gr hW hi hg hS).mono λ_ _ ⟨h1,s',h2,h3,h4,_⟩=>⟨h1,s',h2,h3,h4⟩
theorem LC(h:HIn w c g s)(hn:s.o=none↔s.lf=0)(gr:Gr w w1)(hW:((s.cut w).sp c).W u' (s.cut w).X w1 w2)(hi:Img u' g' s.F s.base s.top)(hg:g'.Ok)(hS:g'.S=g.S):
  Calls prog 43 #[pP s.A.hp] w2 λe w3=>e=.returned (.tuple #[])/\HOp w c s g' w3:=
 (ZWm h hn gr hW hi hg hS).mono λ_ _ ⟨h1,s',h2,h3,_⟩=>⟨h1,s',h2,h3⟩
theorem HIn.rdP(h:HIn w c g s)(hx:g.Ro x):0<((s.F x:Nat):Int)->(s.sp c).P (s.F x:Nat):=λh0=>by
 have h1:=h.img.z;rcases hx with rfl|hx
 ·omega
 ·have h2:=h.img.lo x hx;have h3:1<=(g.ob x).size:=by unfold GOb.size;omega
  exact⟨s.F x,rfl,h2.1,by omega⟩
theorem HIn.fdP(h:HIn w c g s)(hx:g.Ro x)(i:Int)(hk:kd≠0):s.u.plE (s.F x:Nat) i kd=0->(s.sp c).P ((s.F x:Nat)+1+i):=λh0=>by
 rw[h.img.plE hx i hk]at h0;obtain⟨-,n,-,-,-,e,h1,h2⟩:=h.img.inP h.gok hx hk h0;exact⟨s.F x+1+n,e,h1,h2⟩
theorem NI(h:HIn w c g s)(a:Int):(g.sl a=false->Calls prog 56 #[pP s.A.hp,.slice (some ⟨w.heap.size,0,none⟩) 1 1] (w.alloc (.cells #[.int .i64 a] 3)) λe w'=>e=.returned (.tuple #[.slice none 0 0,iI 17])/\Gr w w') ∧
  (g.sl a=true->Calls prog 56 #[pP s.A.hp,.slice (some ⟨w.heap.size,0,none⟩) 1 1] (w.alloc (.cells #[.int .i64 a] 3)) λe w'=>∃gb cp,e=.returned (.tuple #[.slice (some ⟨gb,0,none⟩) 1 cp,iI 0])/\Gr w w'/\w.heap.size<=gb/\w'.cell? ⟨gb,0,none⟩=some (iI (s.F (g.at a):Nat))):=by
 have X:=(Gr.refl w).alloc (.cells #[.int .i64 a] 3)
 have hf:=XEM (h.gr X) (b:=w.heap.size) (l:=[a]) (by simp) (λj hj=>by
  have:j=0:=by simpa using hj
  simp_all) (by simp)
 refine⟨λhs=>hf.mono ?_,λhs=>hf.mono ?_⟩
 ·rintro e w' ⟨hg,(⟨h1,-⟩|⟨-,h1⟩)⟩
  ·simp_all
  ·exact⟨h1,X.trans hg⟩
 ·rintro e w' ⟨hg,(⟨-,v,rfl,ho⟩|⟨⟨x,hx,h1⟩,-⟩)⟩
  ·obtain⟨gb,cp,rfl,h2,-,-,-⟩:=EU ho (by simp);exact⟨gb,cp,rfl,X.trans hg,δ X.size h2,BU ho (j:=0) rfl⟩
  simp_all
theorem J4u(h:HIn w c g s)(hn:s.o=none↔s.lf=0)(a i:Int):Calls prog 65 #[pP s.A.hp,iI a,iI i] w λe w'=>e=.returned (.tuple #[uU (g.fdV a i 3:Nat),iI (g.fdE a i 3)])/\HOp w c s g w':=by
 obtain⟨F0,F1⟩:=NI h a;have HN:=hn;cases hsl:g.sl a with
 | false=>
  have HF:=(F0 hsl)
  have HE:Hid (g.fdE a i 3=17/\g.fdV a i 3=0):=⟨by
   have e:g.fdE a i 3=17:=by unfold Gph.fdE;rw[hsl];rfl
   exact⟨e,by unfold Gph.fdV;rw[e];rfl⟩⟩
  generalize s.A.hp=ap at HF⊢;go_enter func65,ntmps65;go_wp2_with(go_at_call 56;refine(HF).mono ?_;rintro e w1 ⟨rfl,hg⟩;have HG:=hg);go_ret2;exact⟨BG (congrArg (λn:Nat=>uU (n:Int)) HE.o.2.symm) (BJ HE.o.1.symm),HOp.same h HN HG⟩
 | true=>
  have HF:=(F1 hsl);have Y:=Gph.at_ro hsl;have U:=(λ(W:World) (gg:Gr w W)=>KY (h.cut.gr gg));have Z:=(λ(W:World) (gg:Gr w W)=>QV8 (ID ..) (h.cut.gr gg).sp (s.F (g.at a):Nat) i (h.cut.rdP Y) (h.cut.fdP Y i (by decide)));have e1:s.u.gtE (s.F (g.at a):Nat) i 3=g.fdE a i 3:=by rw[h.img.gtE h.gok Y i (by decide),Gph.fdE_er hsl]
  have e2:s.u.gtV (s.F (g.at a):Nat) i 3=g.fdV a i 3:=by rw[h.img.gtV h.gok Y i (by decide) (by decide)];unfold Gph.fdV;rw[Gph.fdE_er hsl]
  have e3:(s.cut w).u=s.u:=rfl;rw[e3,e1,e2]at Z;have I:(s.cut w).A.hp=s.A.hp:=rfl;rw[I]at U;have G:=(λ(w1 w2:World) (gr:Gr w w1) (he:((s.cut w).sp c).E s.u (s.cut w).X w1 w2)=>LC h hn gr he.toW h.img h.gok rfl);generalize g.fdV a i 3=rv at Z⊢;generalize g.fdE a i 3=re at Z⊢;skip;generalize (s.F (g.at a):Nat)=ad at HF Z;obtain⟨ap,hp⟩:∃ap,ap=s.A.hp:=⟨_,rfl⟩;rw[<-hp]at HF U G⊢;clear hn hsl F0 F1 Y e1 e2 e3 I hp;go_enter func65,ntmps65;go_upto_region 4 with(go_at_call 56;refine(HF).mono ?_;rintro e w1 ⟨gb,cp,rfl,M,L,N⟩;have J:=N;have Xb:=L;clear N L);obtain⟨Sx,O,HS⟩:=AA.start λW'=>W'.cell? ⟨gb,0,none⟩=some (iI (ad:Nat));have y0:=AA.fact O λ_ h=>h;have V:=HS.o (w1.drew) (J);have B:Inhabited (AA Sx):=⟨⟨_,V⟩⟩;clear O;refine AW Sx 12 [([0,2,3,4,5],1),([],6)] [7,8,9,10,11] V ?_;refine AI ?_;go_wp2_with((go_at_call 58;refine AM (U _ M.drew) ?_));refine⟨.inr (AA.of (HS.o _ (J))),?_⟩;refine AI ?_;go_wp2_with((go_at_call 106;refine(Z _ M.drew).mono ?_;rintro e w2 ⟨rfl,he⟩;have D:=he;clear he));refine⟨.inr (AA.of (HS.o _ ((D.1.cell (AT J) (λhk=>ζP _ (τ hk.2.2 Xb)) 0).trans J))),?_⟩;refine BE ?_;clear y0 V B;clear HS Sx;go_wp2_with(go_at_call 43;refine(G _ _ M.drew D).mono ?_;rintro e w3 ⟨rfl,ho⟩;have Xa:=ho;clear ho);go_ret2;exact⟨rfl,Xa⟩
theorem QNL(h:HIn w c g s)(hn:s.o=none↔s.lf=0)(a i:Int):Calls prog 64 #[pP s.A.hp,iI a,iI i] w λe w'=>e=.returned (.tuple #[.float .f64 (g.fdV a i 2),iI (g.fdE a i 2)])/\HOp w c s g w':=by
 obtain⟨F0,F1⟩:=NI h a;have HN:=hn;cases hsl:g.sl a with
 | false=>
  have HF:=(F0 hsl)
  have HE:Hid (g.fdE a i 2=17/\g.fdV a i 2=0):=⟨by
   have e:g.fdE a i 2=17:=by unfold Gph.fdE;rw[hsl];rfl
   exact⟨e,by unfold Gph.fdV;rw[e];rfl⟩⟩
  generalize s.A.hp=ap at HF⊢;clear hn hsl F0 F1;go_enter func64,ntmps64;go_wp2_with(go_at_call 56;refine(HF).mono ?_;rintro e w1 ⟨rfl,hg⟩;have HG:=hg;clear hg);go_ret2;exact⟨BG (congrArg (λn:Nat=>Value.float .f64 n) HE.o.2.symm) (BJ HE.o.1.symm),HOp.same h HN HG⟩
 | true=>
  have HF:=(F1 hsl);have Y:=Gph.at_ro hsl;have U:=(λ(W:World) (gg:Gr w W)=>KY (h.cut.gr gg));have Z:=(λ(W:World) (gg:Gr w W)=>QUr (ID ..) (h.cut.gr gg).sp (s.F (g.at a):Nat) i (h.cut.rdP Y) (h.cut.fdP Y i (by decide)));have e1:s.u.gtE (s.F (g.at a):Nat) i 2=g.fdE a i 2:=by rw[h.img.gtE h.gok Y i (by decide),Gph.fdE_er hsl]
  have e2:s.u.gtV (s.F (g.at a):Nat) i 2=g.fdV a i 2:=by rw[h.img.gtV h.gok Y i (by decide) (by decide)];unfold Gph.fdV;rw[Gph.fdE_er hsl]
  have e3:(s.cut w).u=s.u:=rfl;rw[e3,e1,e2]at Z;have I:(s.cut w).A.hp=s.A.hp:=rfl;rw[I]at U;have G:=(λ(w1 w2:World) (gr:Gr w w1) (he:((s.cut w).sp c).E s.u (s.cut w).X w1 w2)=>LC h hn gr he.toW h.img h.gok rfl);generalize g.fdV a i 2=rv at Z⊢;generalize g.fdE a i 2=re at Z⊢;skip;generalize (s.F (g.at a):Nat)=ad at HF Z;obtain⟨ap,hp⟩:∃ap,ap=s.A.hp:=⟨_,rfl⟩;rw[<-hp]at HF U G⊢;clear hn hsl F0 F1 Y e1 e2 e3 I hp;go_enter func64,ntmps64;go_upto_region 4 with(go_at_call 56;refine(HF).mono ?_;rintro e w1 ⟨gb,cp,rfl,M,L,N⟩;have J:=N;have Xb:=L;clear N L);obtain⟨Sx,O,HS⟩:=AA.start λW'=>W'.cell? ⟨gb,0,none⟩=some (iI (ad:Nat));have y0:=AA.fact O λ_ h=>h;have V:=HS.o (w1.drew) (J);have B:Inhabited (AA Sx):=⟨⟨_,V⟩⟩;clear O;refine AW Sx 12 [([0,2,3,4,5],1),([],6)] [7,8,9,10,11] V ?_;refine AI ?_;go_wp2_with((go_at_call 58;refine AM (U _ M.drew) ?_));refine⟨.inr (AA.of (HS.o _ (J))),?_⟩;refine AI ?_;go_wp2_with((go_at_call 105;refine(Z _ M.drew).mono ?_;rintro e w2 ⟨rfl,he⟩;have D:=he;clear he));refine⟨.inr (AA.of (HS.o _ ((D.1.cell (AT J) (λhk=>ζP _ (τ hk.2.2 Xb)) 0).trans J))),?_⟩;refine BE ?_;clear y0 V B;clear HS Sx;go_wp2_with(go_at_call 43;refine(G _ _ M.drew D).mono ?_;rintro e w3 ⟨rfl,ho⟩;have Xa:=ho;clear ho);go_ret2;exact⟨rfl,Xa⟩
theorem XO(g:Gph)(a i kd:Int)(x:Nat):(g.wrG a i kd x).S=g.S:=by unfold Gph.wrG;split <;> rfl
theorem HIn.wrI(h:HIn w c g s)(hs:g.sl a=true)(i:Int)(hk:kd≠0)(hk1:kd≠1)(x:Nat):Img (s.u.seV (s.F (g.at a):Nat) i kd x) (g.wrG a i kd x) s.F s.base s.top:=by
 have X:=Gph.at_ro hs;unfold Gph.wrG;by_cases he:g.fdE a i kd=0
 ·rw[θ he];have Y:g.erE (g.at a) i kd=0:=by rw[<-Gph.fdE_er hs];exact he
  have:=h.img.seV h.mem.ok h.gok X i hk x (λe=>absurd e hk1) (by have:=h.hi;have:=h.bt;omega) Y;rw[ψ hk1]at this;exact this
 ·rw[ψ he]
  have e:s.u.seV (s.F (g.at a):Nat) i kd x=s.u:=by
   unfold Vm.seV;rw[h.img.plE X i hk,<-Gph.fdE_er hs,ψ he]
  rw[e];exact h.img
theorem HIn.wrO(h:HIn w c g s)(hs:g.sl a=true)(i:Int)(hk:kd≠0)(hk1:kd≠1)(x:Nat):(g.wrG a i kd x).Ok:=by
 have X:=Gph.at_ro hs;unfold Gph.wrG;by_cases he:g.fdE a i kd=0
 ·rw[θ he];have Y:g.erE (g.at a) i kd=0:=by rw[<-Gph.fdE_er hs];exact he
  obtain⟨hr,n,rfl,h1,h2,-⟩:=h.img.inP h.gok X hk Y;obtain⟨q1,q2⟩:=h.gok.rd hr;exact h.gok.put q1 q2 (λhn=>absurd (h2.2 Ω) hk1)
 ·rw[ψ he];exact h.gok
theorem Vld(h:HIn w c g s)(hn:s.o=none↔s.lf=0)(a i:Int)(hx:x<18446744073709551616):Calls prog 34 #[pP s.A.hp,iI a,iI i,uU x] w λe w'=>e=.returned (iI (g.fdE a i 3))/\HOp w c s (g.wrG a i 3 x) w':=by
 obtain⟨F0,F1⟩:=NI h a;have HN:=hn;cases hsl:g.sl a with
 | false=>
  have HF:=(F0 hsl)
  have HE:Hid (g.fdE a i 3=17/\g.wrG a i 3 x=g):=⟨by
   have e:g.fdE a i 3=17:=by unfold Gph.fdE;rw[hsl];rfl
   exact⟨e,by unfold Gph.wrG;rw[e];rfl⟩⟩
  generalize s.A.hp=ap at HF⊢;clear hn hsl F0 F1 hx;go_enter func34,ntmps34;go_wp2_with(go_at_call 56;refine(HF).mono ?_;rintro e w1 ⟨rfl,hg⟩;have HG:=hg;clear hg);go_ret;exact⟨AL HE.o.1.symm,by rw[HE.o.2];exact HOp.same h HN HG⟩
 | true=>
  have HF:=(F1 hsl);have Z:=Gph.at_ro hsl;have V:=(λ(W:World) (gg:Gr w W)=>KY (h.cut.gr gg));have Y:=(λ(W:World) (gg:Gr w W)=>XXd (ID ..) (VB ..) (h.cut.gr gg).sp (s.F (g.at a):Nat) i (h.cut.rdP Z) (h.cut.fdP Z i (by decide)) hx);have e1:s.u.gtE (s.F (g.at a):Nat) i 3=g.fdE a i 3:=by rw[h.img.gtE h.gok Z i (by decide),Gph.fdE_er hsl]
  have e3:(s.cut w).u=s.u:=rfl;rw[e3,e1]at Y;have E:(s.cut w).A.hp=s.A.hp:=rfl;rw[E]at V;have U:=(λ(w1 w2:World) (gr:Gr w w1) (he:((s.cut w).sp c).W (s.u.seV (s.F (g.at a):Nat) i 3 x) (s.cut w).X w1 w2)=>LC h hn gr he (h.wrI hsl i (by decide) (by decide) x) (h.wrO hsl i (by decide) (by decide) x) (XO ..));generalize g.fdE a i 3=re at Y⊢;generalize s.u.seV (s.F (g.at a):Nat) i 3 x=un at Y U;generalize (s.F (g.at a):Nat)=ad at HF Y;obtain⟨ap,hp⟩:∃ap,ap=s.A.hp:=⟨_,rfl⟩;rw[<-hp]at HF V U⊢;clear hn hsl F0 F1 Z e1 e3 E hp hx;go_enter func34,ntmps34;go_upto_region 4 with(go_at_call 56;refine(HF).mono ?_;rintro e w1 ⟨gb,cp,rfl,N,L,O⟩;have J:=O;have Xa:=L;clear O L);obtain⟨Sx,I,HS⟩:=AA.start λW'=>W'.cell? ⟨gb,0,none⟩=some (iI (ad:Nat));have y0:=AA.fact I λ_ h=>h;have M:=HS.o (w1.drew) (J);have G:Inhabited (AA Sx):=⟨⟨_,M⟩⟩;clear I;refine AW Sx 9 [([0,2,3,4,5,6],1),([],7)] [8] M ?_;refine AI ?_;go_wp2_with((go_at_call 58;refine AM (V _ N.drew) ?_));refine⟨.inr (AA.of (HS.o _ (J))),?_⟩;refine AI ?_;go_wp2_with((go_at_call 74;refine(Y _ N.drew).mono ?_;rintro e w2 ⟨rfl,he⟩;have D:=he;clear he));refine⟨.inr (AA.of (HS.o _ ((D.1.cell (AT J) (λhk=>ζP _ (τ hk.2 Xa)) 0).trans J))),?_⟩;refine BE ?_;clear y0 M G;clear HS Sx;go_wp2_with(go_at_call 43;refine(U _ _ N.drew D).mono ?_;rintro e w3 ⟨rfl,ho⟩;have B:=ho;clear ho);go_ret;exact⟨rfl,B⟩
theorem Xe2(h:HIn w c g s)(hn:s.o=none↔s.lf=0)(a i:Int)(hx:x<18446744073709551616):Calls prog 33 #[pP s.A.hp,iI a,iI i,.float .f64 x] w λe w'=>e=.returned (iI (g.fdE a i 2))/\HOp w c s (g.wrG a i 2 x) w':=by
 obtain⟨F0,F1⟩:=NI h a;have HN:=hn;cases hsl:g.sl a with
 | false=>
  have HF:=(F0 hsl)
  have HE:Hid (g.fdE a i 2=17/\g.wrG a i 2 x=g):=⟨by
   have e:g.fdE a i 2=17:=by unfold Gph.fdE;rw[hsl];rfl
   exact⟨e,by unfold Gph.wrG;rw[e];rfl⟩⟩
  generalize s.A.hp=ap at HF⊢;clear hn hsl F0 F1 hx;go_enter func33,ntmps33;go_wp2_with(go_at_call 56;refine(HF).mono ?_;rintro e w1 ⟨rfl,hg⟩;have HG:=hg;clear hg);go_ret;exact⟨AL HE.o.1.symm,by rw[HE.o.2];exact HOp.same h HN HG⟩
 | true=>
  have HF:=(F1 hsl);have Z:=Gph.at_ro hsl;have V:=(λ(W:World) (gg:Gr w W)=>KY (h.cut.gr gg));have Y:=(λ(W:World) (gg:Gr w W)=>Ycv (ID ..) (VB ..) (h.cut.gr gg).sp (s.F (g.at a):Nat) i (h.cut.rdP Z) (h.cut.fdP Z i (by decide)) hx);have e1:s.u.gtE (s.F (g.at a):Nat) i 2=g.fdE a i 2:=by rw[h.img.gtE h.gok Z i (by decide),Gph.fdE_er hsl]
  have e3:(s.cut w).u=s.u:=rfl;rw[e3,e1]at Y;have E:(s.cut w).A.hp=s.A.hp:=rfl;rw[E]at V;have U:=(λ(w1 w2:World) (gr:Gr w w1) (he:((s.cut w).sp c).W (s.u.seV (s.F (g.at a):Nat) i 2 x) (s.cut w).X w1 w2)=>LC h hn gr he (h.wrI hsl i (by decide) (by decide) x) (h.wrO hsl i (by decide) (by decide) x) (XO ..));generalize g.fdE a i 2=re at Y⊢;generalize s.u.seV (s.F (g.at a):Nat) i 2 x=un at Y U;generalize (s.F (g.at a):Nat)=ad at HF Y;obtain⟨ap,hp⟩:∃ap,ap=s.A.hp:=⟨_,rfl⟩;rw[<-hp]at HF V U⊢;clear hn hsl F0 F1 Z e1 e3 E hp hx;go_enter func33,ntmps33;go_upto_region 4 with(go_at_call 56;refine(HF).mono ?_;rintro e w1 ⟨gb,cp,rfl,N,L,O⟩;have J:=O;have Xa:=L;clear O L);obtain⟨Sx,I,HS⟩:=AA.start λW'=>W'.cell? ⟨gb,0,none⟩=some (iI (ad:Nat));have y0:=AA.fact I λ_ h=>h;have M:=HS.o (w1.drew) (J);have G:Inhabited (AA Sx):=⟨⟨_,M⟩⟩;clear I;refine AW Sx 9 [([0,2,3,4,5,6],1),([],7)] [8] M ?_;refine AI ?_;go_wp2_with((go_at_call 58;refine AM (V _ N.drew) ?_));refine⟨.inr (AA.of (HS.o _ (J))),?_⟩;refine AI ?_;go_wp2_with((go_at_call 73;refine(Y _ N.drew).mono ?_;rintro e w2 ⟨rfl,he⟩;have D:=he;clear he));refine⟨.inr (AA.of (HS.o _ ((D.1.cell (AT J) (λhk=>ζP _ (τ hk.2 Xa)) 0).trans J))),?_⟩;refine BE ?_;clear y0 M G;clear HS Sx;go_wp2_with(go_at_call 43;refine(U _ _ N.drew D).mono ?_;rintro e w3 ⟨rfl,ho⟩;have B:=ho;clear ho);go_ret;exact⟨rfl,B⟩
theorem VXS(h:HIn w c g s)(a b:Int):((g.sl a&&g.sl b)=false->Calls prog 56 #[pP s.A.hp,.slice (some ⟨w.heap.size,0,none⟩) 2 2] (w.alloc (.cells #[.int .i64 a,.int .i64 b] 3)) λe w'=>e=.returned (.tuple #[.slice none 0 0,iI 17])/\Gr w w') ∧
  ((g.sl a&&g.sl b)=true->Calls prog 56 #[pP s.A.hp,.slice (some ⟨w.heap.size,0,none⟩) 2 2] (w.alloc (.cells #[.int .i64 a,.int .i64 b] 3)) λe w'=>∃gb cp,e=.returned (.tuple #[.slice (some ⟨gb,0,none⟩) 2 cp,iI 0])/\Gr w w'/\w.heap.size<=gb/\w'.cell? ⟨gb,0,none⟩=some (iI (s.F (g.at a):Nat))/\w'.cell? ⟨gb,1,none⟩=some (iI (s.F (g.at b):Nat))):=by
 have X:=(Gr.refl w).alloc (.cells #[.int .i64 a,.int .i64 b] 3);have hr:=Rec.new w 3 [iI a,iI b]
 have hf:=XEM (h.gr X) (b:=w.heap.size) (l:=[a,b]) (by simp) (λj hj=>by
  have:j=0\/j=1:=by have:j<2:=hj;omega
  rcases this with rfl|rfl
  ·exact hr.cc 0
  simp_all) (by simp)
 refine⟨λhs=>hf.mono ?_,λhs=>hf.mono ?_⟩
 ·rintro e w' ⟨hg,(⟨h1,-⟩|⟨-,h1⟩)⟩
  ·simp_all
  ·exact⟨h1,X.trans hg⟩
 ·rintro e w' ⟨hg,(⟨-,v,rfl,ho⟩|⟨⟨x,hx,h1⟩,-⟩)⟩
  ·obtain⟨gb,cp,rfl,h2,-,-,-⟩:=EU ho (by simp);exact⟨gb,cp,rfl,X.trans hg,δ X.size h2,BU ho (j:=0) rfl,BU ho (j:=1) rfl⟩
  grind
theorem Gph.Ro.le(ho:g.Ok)(hy:g.Ro y):y<=g.L.length:=by
 rcases hy with rfl|hy
 ·omega
 ·exact(ho.rd hy).2
theorem XR(h:HIn w c g s)(ha:g.sl a=true)(hy:g.Ro y):Calls prog 55 #[pP s.A.r,iI a,iI (s.F y:Nat)] w λe w'=>e=.returned (iI 0)/\AB (λk=>k=s.A.g) w w'/\HIn w' c (g.setSl a y) s:=by
 obtain⟨n,rfl,h1,h2⟩:=L2 ha;refine(Z4 h.com.rt (i:=n) (by rw[s.len];exact h1) (ξ8 _)).mono ?_;rintro e w' ⟨rfl,t,hr⟩
 have X:s.rs (g.setSl n y)=(s.rs g).set n (s.F y:Nat):=by
  unfold HSt.rs Gph.setSl
  simp_all
 refine⟨rfl,t,?_,h.mem.touch t (λk hk e=>⟨λhx=>h.com.x.2.2.1 (by simp_all),λe2=>h.com.n3.2.1 Ω⟩) (λ_ h=>h),h.img.slot hy,h.gok.slot (hy.le h.gok),h.cok,h.bt,h.bs,?_⟩
 ·rw[X];exact h.com.root t hr
 ·show (g.S.set _ _).length=c.sl
  rw[ω];exact h.sl
theorem HIn.rcell(h:HIn w c g s):w.cell? ⟨s.A.hp,9,none⟩=some (pP s.A.r):=h.com.row.cc 9
theorem BB.slot(h:BB w c s g s' w')(t:AB (λk=>k=s'.A.g) w' w2)(hi:HIn w2 c g' s'):BB w c s g' s' w2:=
 ⟨h.t.trans' t (λk hk e=>by
  have:=h.S k (.inr (.inr (.inl e)));rcases this with h1|h1
  ·exact h1
  ·omega),hi,h.hp,h.S,h.o⟩
theorem V9V(h:HIn w c g s)(hn:s.o=none↔s.lf=0)(a b i:Int):Calls prog 25 #[pP s.A.hp,iI a,iI b,iI i] w λe w'=>e=.returned (iI (g.loE a b i))/\HOp w c s (g.loG a b i) w':=by
 obtain⟨F0,F1⟩:=VXS h a b;have H:=h;have HN:=hn;cases hsl:(g.sl a&&g.sl b)with
 | false=>
  have HF:=(F0 hsl)
  have HE:Hid (g.loE a b i=17/\g.loG a b i=g):=⟨by
   have e:g.loE a b i=17:=by unfold Gph.loE Gph.two;rw[hsl];rfl
   exact⟨e,by unfold Gph.loG;rw[e];rfl⟩⟩
  generalize s.A.hp=ap at HF⊢;clear h hn hsl F0 F1;go_enter func25,ntmps25;go_wp2_with(go_at_call 56;refine(HF).mono ?_;rintro e w1 ⟨rfl,hg⟩;have HG:=hg;clear hg);go_ret;exact⟨AL HE.o.1.symm,by rw[HE.o.2];exact HOp.same H HN HG⟩
 | true=>
  have HF:=(F1 hsl);have hE:g.loE a b i=g.fdE b i 1:=by unfold Gph.loE Gph.two;rw[θ hsl]
  have hG:g.loG a b i=if g.fdE b i 1=0 then g.setSl a (g.fdV b i 1)else g:=by unfold Gph.loG;rw[hE]
  rw[hE,hG];rw[ζd]at hsl;have U:=Gph.at_ro hsl.2;have M:=(λ(W:World) (gg:Gr w W)=>KY (h.cut.gr gg));have Y:=(λ(W:World) (gg:Gr w W)=>WW (ID ..) (h.cut.gr gg).sp (s.F (g.at b):Nat) i (h.cut.rdP U) (h.cut.fdP U i (by decide)));obtain⟨q1,q2⟩:=h.img.ptE h.gok U i;have e1:s.u.ptE (s.F (g.at b):Nat) i=g.fdE b i 1:=by rw[q1,Gph.fdE_er hsl.2]
  have e3:(s.cut w).u=s.u:=rfl;rw[e3,e1]at Y;have B:(s.cut w).A.hp=s.A.hp:=rfl;rw[B]at M;have V:=(λ(w1 w2:World) (gr:Gr w w1) (he:((s.cut w).sp c).E s.u (s.cut w).X w1 w2)=>ZWm h hn gr he.toW h.img h.gok rfl)
  have HQ:=ι (λ(hz:g.fdE b i 1=0)=>(by
   have h0:g.erE (g.at b) i 1=0:=by rw[<-Gph.fdE_er hsl.2];exact hz
   have:=q2 h0;have e:g.fdV b i 1=(g.ob (g.at b)).w.getD i.toNat 0:=by unfold Gph.fdV;rw[θ hz]
   rw[<-e]at this
   exact this:s.u.ptV (s.F (g.at b):Nat) i=s.F (g.fdV b i 1)/\g.Ro (g.fdV b i 1)))
  have HA:=ι hsl.1;generalize s.u.ptV (s.F (g.at b):Nat) i=rv at Y HQ;generalize g.fdV b i 1=y at HQ⊢;generalize g.fdE b i 1=re at Y HQ⊢;generalize (s.F (g.at b):Nat)=ad at HF Y;generalize (s.F (g.at a):Nat)=ad2 at HF;obtain⟨ap,hp⟩:∃ap,ap=s.A.hp:=⟨_,rfl⟩;rw[<-hp]at HF M V⊢;have HP:=ι hp;obtain⟨gx,N⟩:∃gx,gx=if re=0 then g.setSl a y else g:=⟨_,rfl⟩
  rw[<-N];have Xf:=ι N;clear h hn hsl F0 F1 U e1 e3 B hp hE hG q1 q2 N;go_enter func25,ntmps25;go_upto_region 4 with(go_at_call 56;refine(HF).mono ?_;rintro e w1 ⟨gb,cp,rfl,Xc,Xa,-,Xe⟩;have Z:=ι Xc;have J:=ι Xe;have Xh:=ι Xa;clear Xc Xe Xa);obtain⟨Sx,L,HS⟩:=AA.start λW'=>W'.cell? ⟨gb,1,none⟩=some (iI (ad:Nat));have y0:=AA.fact L λ_ h=>h;have I:=HS.o (w1.drew) (J.o);have Xb:Inhabited (AA Sx):=⟨⟨_,I⟩⟩;clear L;refine AW Sx 12 [([0,2,3,4,5],1),([],6)] [7,8,9,10,11] I ?_;refine AI ?_;go_wp2_with((go_at_call 58;refine AM (M _ Z.o.drew) ?_));refine⟨.inr (AA.of (HS.o _ (J.o))),?_⟩;refine AI ?_;go_wp2_with((go_at_call 57;refine(Y _ Z.o.drew).mono ?_;rintro e w2 ⟨rfl,he⟩;have O:=ι he;clear he));refine⟨.inr (AA.of (HS.o _ ((O.o.1.cell (AT J.o) (λhk=>ζP _ (τ hk.2.2 Xh.o)) 1).trans J.o))),?_⟩;refine BE ?_;clear y0 I Xb;clear HS Sx;by_cases hz:re=0
  ·subst hz;obtain⟨z1,z2⟩:=HQ.o rfl;have Xg:=ι z2;subst z1;clear z2;go_upto_region 8 with(go_at_call 43;refine(V _ _ Z.o.drew O.o).mono ?_;rintro e w3 ⟨rfl,s',hr,hs,hF⟩;have HR:=ι (ξ hr (ξ hs hF));clear hr hs hF);have y9:=HR.o.1.i.rcell;rw[HR.o.1.hp,<-HP.o]at y9;have G:=ι (XR HR.o.1.i HA.o Xg.o);rw[HR.o.2.2.F]at G;go_wp2_with(go_at_call 55;refine(G.o).mono ?_;rintro e w4 ⟨rfl,t4,h4⟩;have Xd:=ι (ξ t4 h4);clear t4 h4);go_ret;rw[show gx=g.setSl a y from by have:=Xf.o;simpa using this];exact⟨rfl,s',HR.o.1.slot Xd.o.1 Xd.o.2,HR.o.2.1⟩
  ·have d1:(re==0)=false:=by simpa using hz
   have D:=ι hz;go_wp2_with(go_at_call 43;refine(V _ _ Z.o.drew O.o).mono ?_;rintro e w3 ⟨rfl,s',hr,hs,hF⟩;have HR:=ι (ξ hr (ξ hs hF));clear hr hs hF);go_ret;rw[show gx=g from by have:=Xf.o;rw[ψ D.o]at this;exact this];exact⟨rfl,s',HR.o.1,HR.o.2.1⟩
theorem HIn.wrP(h:HIn w c g s)(hs:g.sl a=true)(i:Int)(hy:g.Ro y):g.fdE a i 1=0->Img (s.u.seV (s.F (g.at a):Nat) i 1 (s.F y)) (g.setFd a i y) s.F s.base s.top:=λhe=>by
 have X:=Gph.at_ro hs;have Y:g.erE (g.at a) i 1=0:=by rw[<-Gph.fdE_er hs];exact he
 have:=h.img.seV h.mem.ok h.gok X i (kd:=1) (by decide) y (λ_=>hy) (by have:=h.hi;have:=h.bt;omega) Y;exact this
theorem HIn.wrPO(h:HIn w c g s)(hs:g.sl a=true)(i:Int)(hy:g.Ro y):g.fdE a i 1=0->(g.setFd a i y).Ok:=λhe=>by
 have X:=Gph.at_ro hs;have Y:g.erE (g.at a) i 1=0:=by rw[<-Gph.fdE_er hs];exact he
 obtain⟨hr,n,rfl,h1,h2,-⟩:=h.img.inP h.gok X (by decide) Y;obtain⟨q1,q2⟩:=h.gok.rd hr;exact h.gok.put q1 q2 (λ_=>hy.le h.gok)
theorem HIn.adr(h:HIn w c g s)(hy:g.Ro y):s.F y<=2147483647:=by
 rcases hy with rfl|hy
 ·rw[h.img.z];omega
 ·have h1:=h.img.lo y hy;have:=h.hi;have:=h.bt;omega
theorem QmE(h:HIn w c g s)(hn:s.o=none↔s.lf=0)(a i b:Int):Calls prog 59 #[pP s.A.hp,iI a,iI i,iI b] w λe w'=>e=.returned (iI (g.stE a i b))/\HOp w c s (g.stG a i b) w':=by
 obtain⟨F0,F1⟩:=VXS h a b;have HN:=hn;cases hsl:(g.sl a&&g.sl b)with
 | false=>
  have HF:=(F0 hsl)
  have HE:Hid (g.stE a i b=17/\g.stG a i b=g):=⟨by
   have e:g.stE a i b=17:=by unfold Gph.stE Gph.two;rw[hsl];rfl
   exact⟨e,by unfold Gph.stG;rw[e];rfl⟩⟩
  generalize s.A.hp=ap at HF⊢;clear hn hsl F0 F1;go_enter func59,ntmps59;go_wp2_with(go_at_call 56;refine(HF).mono ?_;rintro e w1 ⟨rfl,hg⟩;have HG:=hg;clear hg);go_ret;exact⟨AL HE.o.1.symm,by rw[HE.o.2];exact HOp.same h HN HG⟩
 | true=>
  have HF:=(F1 hsl);have hE:g.stE a i b=g.fdE a i 1:=by unfold Gph.stE Gph.two;rw[θ hsl]
  have hG:g.stG a i b=if g.fdE a i 1=0 then g.setFd a i (g.at b)else g:=by unfold Gph.stG;rw[hE]
  rw[hE,hG];rw[ζd]at hsl;have J:=Gph.at_ro hsl.1;have V:=Gph.at_ro hsl.2;have O:=(λ(W:World) (gg:Gr w W)=>KY (h.cut.gr gg));have Z:=(λ(W:World) (gg:Gr w W)=>Xz9 (ID ..) (VB ..) (h.cut.gr gg).sp (s.F (g.at a):Nat) i (h.cut.rdP J) (h.cut.fdP J i (by decide)) (h.adr V));have e1:s.u.gtE (s.F (g.at a):Nat) i 1=g.fdE a i 1:=by rw[h.img.gtE h.gok J i (by decide),Gph.fdE_er hsl.1]
  have e3:(s.cut w).u=s.u:=rfl;rw[e3,e1]at Z;have D:(s.cut w).A.hp=s.A.hp:=rfl;rw[D]at O
  have U:=(λ(w1 w2:World) (gr:Gr w w1) (he:((s.cut w).sp c).W (s.u.seV (s.F (g.at a):Nat) i 1 (s.F (g.at b))) (s.cut w).X w1 w2)=>(by
   by_cases hz:g.fdE a i 1=0
   ·rw[θ hz];exact LC h hn gr he (h.wrP hsl.1 i V hz) (h.wrPO hsl.1 i V hz) rfl
   ·rw[ψ hz]
    have e:s.u.seV (s.F (g.at a):Nat) i 1 (s.F (g.at b))=s.u:=by
     unfold Vm.seV;rw[h.img.plE J i (by decide),<-Gph.fdE_er hsl.1,ψ hz]
    rw[e]at he
    exact LC h hn gr he h.img h.gok rfl:Calls prog 43 #[pP s.A.hp] w2 λe w3=>e=.returned (.tuple #[])/\HOp w c s (if g.fdE a i 1=0 then g.setFd a i (g.at b)else g) w3))
  generalize (if g.fdE a i 1=0 then g.setFd a i (g.at b)else g)=gx at U⊢;generalize g.fdE a i 1=re at Z⊢;generalize s.u.seV (s.F (g.at a):Nat) i 1 (s.F (g.at b))=un at Z U;generalize (s.F (g.at a):Nat)=ad at HF Z;generalize (s.F (g.at b):Nat)=Xc at HF Z;obtain⟨ap,hp⟩:∃ap,ap=s.A.hp:=⟨_,rfl⟩;rw[<-hp]at HF O U⊢;clear hn hsl F0 F1 J V e1 e3 D hp hE hG;go_enter func59,ntmps59;go_upto_region 4 with(go_at_call 56;refine(HF).mono ?_;rintro e w1 ⟨gb,cp,rfl,E,B,L,G⟩;have Y:=(ξ L G);have Xa:=B;clear L G B);obtain⟨Sx,M,HS⟩:=AA.start λW'=>(W'.cell? ⟨gb,0,none⟩=some (iI (ad:Nat))/\W'.cell? ⟨gb,1,none⟩=some (iI (Xc:Nat)))
  have y0:=AA.fact M λ_ h=>h.1;have y1:=AA.fact M λ_ h=>h.2;have I:=HS.o (w1.drew) (Y);have Xb:Inhabited (AA Sx):=⟨⟨_,I⟩⟩;clear M;refine AW Sx 11 [([0,2,3,4,5,6,7,8],1),([],9)] [10] I ?_;refine AI ?_;go_wp2_with((go_at_call 58;refine AM (O _ E.drew) ?_));refine⟨.inr (AA.of (HS.o _ (Y))),?_⟩;refine AI ?_;go_wp2_with((go_at_call 102;refine(Z _ E.drew).mono ?_;rintro e w2 ⟨rfl,he⟩;have N:=he;clear he));refine⟨.inr (AA.of (HS.o _ (⟨(N.1.cell (AT Y.1) (λhk=>ζP _ (τ hk.2 Xa)) 0).trans Y.1,(N.1.cell (AT Y.1) (λhk=>ζP _ (τ hk.2 Xa)) 1).trans Y.2⟩))),?_⟩;refine BE ?_;clear y0 y1 I Xb;clear HS Sx;go_wp2_with(go_at_call 43;refine(U _ _ E.drew N).mono ?_;rintro e w3 ⟨rfl,ho⟩;have Xd:=ho;clear ho);go_ret;exact⟨rfl,Xd⟩
theorem HOp.of(hn:s.o=none↔s.lf=0)(t:AB (λk=>k=s.A.g) w w')(hi:HIn w' c g' s):HOp w c s g' w':=
 ⟨s,⟨t.mono (λ_ _ e=>.inr (.inr (.inl e))),hi,rfl,λ_ h=>.inl h,hn⟩,DJ.same s⟩
theorem HIn.rcpy(h:HIn w c g s)(a b:Int):Calls prog 103 #[pP s.A.r,iI a,iI b] w λe w'=>e=.returned (iI (g.two a b 0))/\AB (λk=>k=s.A.g) w w'/\HIn w' c (g.cpG a b) s:=by
 refine(Jv2 h.com.rt a b).mono ?_;rintro e w' ⟨rfl,t,hr⟩;have Y:EJ w' s.X s.A c s.base s.top s.u s.o s.lf s.nb:=h.mem.touch t (λk hk e=>⟨λhx=>h.com.x.2.2.1 (by simp_all),λe2=>h.com.n3.2.1 Ω⟩) (λ_ h=>h);rw[KV,KV];unfold OF at hr;rw[KV,KV]at hr;unfold Gph.two Gph.cpG;cases ha:g.sl a with
 | false=>
  rw[ha]at hr;exact⟨by simp,t,h.com.root t (by simp_all),Y,h.img,h.gok,h.cok,h.bt,h.bs,h.sl⟩
 | true=>
  cases hb:g.sl b with
  | false=>
   rw[ha,hb]at hr;exact⟨by simp,t,h.com.root t (by simp_all),Y,by simpa using h.img,by simpa using h.gok,h.cok,h.bt,h.bs,by simpa using h.sl⟩
  | true=>
   obtain⟨n,rfl,h1,h2⟩:=L2 ha;obtain⟨m,rfl,h3,h4⟩:=L2 hb;rw[ha,hb]at hr;simp only[if_true,and_self,χ,Bool.and_self]at hr⊢;have hy:=Gph.at_ro hb
   have Z:s.rs (g.setSl n (g.at m))=(s.rs g).set n ((s.rs g).getD m 0):=by
    rw[β,η (by rw[s.len];exact h3),s.get g h3,<-h4];unfold HSt.rs Gph.setSl
    simp_all
   refine⟨trivial,t,?_,Y,h.img.slot hy,h.gok.slot (hy.le h.gok),h.cok,h.bt,h.bs,?_⟩
   ·rw[Z];exact h.com.root t hr
   ·show (g.S.set _ _).length=c.sl
    rw[ω];exact h.sl
theorem Xxc(h:HIn w c g s)(hn:s.o=none↔s.lf=0)(a b:Int):Calls prog 60 #[pP s.A.hp,iI a,iI b] w λe w'=>e=.returned (iI (g.two a b 0))/\HOp w c s (g.cpG a b) w':=by
 have HN:=(G4 h);have HC:=(h.rcpy a b);have c9:=h.rcell;generalize s.A.hp=ap at HN c9⊢;go_enter func60,ntmps60;go_upto_region 3 with(go_at_call 41;refine AM (HN) ?_);go_wp2_with(go_at_call 103;refine(HC).mono ?_;rintro e w1 ⟨rfl,ht,hi⟩;have HT:=(ξ ht hi));go_ret;exact⟨rfl,HOp.of hn HT.1 HT.2⟩
theorem HIn.rclr(h:HIn w c g s)(a:Int):Calls prog 55 #[pP s.A.r,iI a,iI 0] w λe w'=>e=.returned (iI (g.slE a))/\AB (λk=>k=s.A.g) w w'/\HIn w' c (g.clG a) s:=by
 unfold Gph.slE Gph.clG;cases ha:g.sl a with
 | false=>
  refine(QST h.com.rt (i:=a) (by rw[KV,ha];decide) 0).mono ?_;rintro e w' ⟨rfl,gr⟩;exact⟨rfl,gr.touch _,by grind [gr]⟩
 | true=>
  have:=XR h ha (y:=0) (.inl rfl);rw[h.img.z]at this
  assumption
theorem JfK(h:HIn w c g s)(hn:s.o=none↔s.lf=0)(a:Int):Calls prog 23 #[pP s.A.hp,iI a] w λe w'=>e=.returned (iI (g.slE a))/\HOp w c s (g.clG a) w':=by
 have HN:=(G4 h);have HC:=(h.rclr a);have c9:=h.rcell;generalize s.A.hp=ap at HN c9⊢;go_enter func23,ntmps23;go_upto_region 3 with(go_at_call 41;refine AM (HN) ?_);go_wp2_with(go_at_call 55;refine(HC).mono ?_;rintro e w1 ⟨rfl,ht,hi⟩;have HT:=(ξ ht hi));go_ret;exact⟨rfl,HOp.of hn HT.1 HT.2⟩
theorem BB.trans{g1 g2:Gph}{s1 s2:HSt}(h:BB w c s g1 s1 w1)(k:BB w1 c s1 g2 s2 w2):BB w c s g2 s2 w2:=
 ⟨h.t.trans' k.t (λb hb e=>(h.S b e).elim id (λh2=>by omega)),k.i,k.hp.trans h.hp,λb hb=>by
  rcases k.S b hb with h1|h1
  ·exact h.S b h1
  ·exact .inr (δ h.t.size h1),k.o⟩
theorem BB.gr{s':HSt}(h:BB w c s g' s' w'){w2:World}(gr:Gr w' w2):BB w c s g' s' w2:=⟨h.t.trans (gr.touch _),h.i.gr gr,h.hp,h.S,h.o⟩
theorem BB.refl(h:HIn w c g s)(hn:s.o=none↔s.lf=0):BB w c s g s w:=⟨AB.refl _ _,h,rfl,λ_ h=>.inl h,hn⟩
theorem DJ.trans{s1 s2:HSt}(h:DJ s s1)(k:DJ s1 s2):DJ s s2:=by
 have h1:=h.lf;have h2:=k.lf;refine⟨δ h2 h1,?_⟩;rw[k.cyc,h.cyc]
 grind
theorem GQ.stp{X:Nat->Prop}{A:HAd}{top:Nat}{u:Vm}{z:BZ}{sl:Sl}{v':Vm}{R Sv:Nat->Prop}(h:GQ w X A c base top u y z sl v R Sv)(hf:I3 w w' R Sv y A.q z (HpB c.fr top u) sl.step v'):GQ w' (plus X w) A c base top u y z sl.step v' R (plus Sv w):=by
 have hl:=h.cy.od.lt;have J:=h.tab.lt;have Z:=hf.ok;refine⟨hf.cy,hf.vm,⟨?_,?_,?_⟩,hf.ok,hf.j.1,λk hk=>?_,λk hk Y=>?_,hf.t.tab J (λhk=>hk.elim h.t1 h.t2) h.tab,h.t1,λhk=>hk.elim h.t2 (λhk=>by omega),h.bs,h.lm,h.bk,h.ah,h.kd⟩
 ·rw[Z.mid.n,<-h.hv.n,h.ok.mid.n];rfl
 ·rw[Z.mid.pg,<-h.hv.pg,h.ok.mid.pg];rfl
 ·exact hf.j.2
 ·rcases hk with hk|hk|hk
  ·exact .inl (h.x k (.inl hk))
  ·exact .inl (h.x k (.inr hk))
  ·exact .inr hk
 ·rcases Y with Y|Y
  ·exact h.d k hk Y
  grind
def YF5(w:World)(c:HCf)(g:Gph)(s:HSt)(w':World):Prop:=∃s',BB w c s g s' w'/\DJ s s'/\HKp s s'/\s'.lf+1=s.lf
theorem HIn.stp(h:HIn w c g s)(hn:s.o=none↔s.lf=0)(hl:s.lf≠0):∃y,s.o=some y/\Calls prog 42 #[pP y] w λe w1=>e=.returned (.tuple #[.bool true,iI 0]) ∧
  Calls prog 43 #[pP s.A.hp] w1 λe w'=>e=.returned (.tuple #[])/\YF5 w c g s w':=by
 have hm:=h.mem;cases ho:s.o with
 | none=>simp_all
 | some y=>
  rw[ho]at hm;obtain⟨z,sl,v,R,Sv,Y,e1,e2⟩:=hm;refine⟨y,rfl,(W8 (TM c.fr s.top s.u) Y.cy Y.ok ⟨Y.a,Y.hv.rm⟩ Y.tab Y.t2 Y.t1 Y.vm Y.d).mono ?_⟩;rintro e w1 ⟨v',rfl,hf⟩
  have Z:sl.ft<sl.mv.length:=by
   refine Decidable.byContradiction λhh=>hl ?_;rw[<-e1];exact sl.lf_zero.2 hh
  have J:=Sl.lf_step Z;rw[φ Z];refine⟨rfl,?_⟩;have t1:AB s.X w w1:=hf.t.mono (λk _ hk=>Y.x k hk)
  have hI:HIn w1 c g {s with X:=plus s.X w,lf:=sl.step.lf}:=by
   refine⟨h.com.mem t1,?_,h.img,h.gok,h.cok,h.bt,h.bs,h.sl⟩;rw[ho];exact⟨z,sl.step,v',R,plus Sv w,Y.stp hf,rfl,by show (CV sl.mv).length=s.nb;rw[QL];exact e2⟩
  refine(TZ hI).mono ?_;rintro e w2 ⟨rfl,s',h1⟩;refine⟨rfl,s',⟨?_,h1.i,by rw[h1.A],λk hk=>?_,h1.o⟩,⟨?_,?_⟩,⟨h1.K.F,h1.K.base,h1.K.top⟩,?_⟩
  ·exact(t1.mono (λk _ hk=>.inl hk)).trans' h1.t (λk _ hk=>.inr (.inl hk))
  ·rcases hk with hk|hk|hk|hk|hk
   ·rcases h1.X k hk with h2|h2
    ·exact .inl (.inl h2)
    ·exact .inr h2
   ·rw[h1.A]at hk;exact .inl (.inr (.inl hk))
   ·rw[h1.A]at hk;exact .inl (.inr (.inr (.inl hk)))
   ·rw[h1.A]at hk;exact .inl (.inr (.inr (.inr (.inl hk))))
   ·rw[h1.A]at hk;exact .inl (.inr (.inr (.inr (.inr hk))))
  ·rw[h1.lf,<-e1];grind
  ·rw[h1.cyc,h1.lf]
   simp_all
  ·rw[h1.lf,<-e1];exact J
theorem YFI(h:HIn w c g s)(hn:s.o=none↔s.lf=0)(hl:s.lf≠0):Calls prog 15 #[pP s.A.hp] w λe w'=>e=.returned (.bool true)/\YF5 w c g s w':=by
 have HN:=(G4 h);obtain⟨y,hy,hs⟩:=h.stp hn hl;have c11:=h.cc 11;go_enter func15,ntmps15;go_upto_region 3 with(go_at_call 41;refine AM (HN) ?_);go_upto_region 4 with(go_at_call 42;refine(hs).mono ?_;rintro e w1 ⟨rfl,he⟩;have HE:=he);go_wp2_with(go_at_call 43;refine(HE).mono ?_;rintro e w2 ⟨rfl,h2⟩;have HH:=h2);go_ret
 simp_all
theorem QNw(h:HIn w c g s)(hn:s.o=none↔s.lf=0)(hl:s.lf=0):cQ 15 #[pP s.A.hp] w (.bool false):=by
 have HN:=(G4 h);have X:=h.cc 11;rw[hn.2 hl]at X;go_enter func15,ntmps15;go_wp2_with(go_at_call 41;refine AM (HN) ?_);go_ret
 simp_all
def QI(w:World)(ap:Nat):Nat:=match w.cell? ⟨ap,11,none⟩with
 | some (.pointer (some a))=>KW w a.block 11
 | _=>0
theorem HIn.left(h:HIn w c g s):QI w s.A.hp=s.lf:=by
 have X:=h.cc 11;have hm:=h.mem;unfold QI;cases ho:s.o with
 | none=>
  rw[ho]at X hm;rw[X];exact hm.2.2.2.symm
 | some y=>
  rw[ho]at X hm;obtain⟨z,sl,v,R,Sv,Y,e1,e2⟩:=hm;have c:=Y.cy.rc.cc 11;rw[X]
  show KW w y 11=s.lf
  unfold KW;rw[c,<-e1];rfl
theorem WZ(h:HIn w c g s)(hn:s.o=none↔s.lf=0):Calls prog 92 #[pP s.A.hp] w λe w'=>e=.returned (.tuple #[])/\∃s',BB w c s g s' w'/\DJ s s'/\HKp s s'/\s'.lf=0:=by
 have H0:Hid (BB w c s g s w/\DJ s s/\HKp s s):=⟨BB.refl h hn,DJ.same s,HKp.refl s⟩;obtain⟨ap,hp⟩:∃ap,ap=s.A.hp:=⟨_,rfl⟩;have HP:=ι hp;rw[<-hp];clear h hn hp;go_enter func92,ntmps92;go_wp2
 go_loopw [] (λwr=>∃s',Hid (BB w c s g s' wr/\DJ s s'/\HKp s s')) (λwr=>QI wr ap)
 case atStart=>exact⟨s,H0⟩
 case round=>
  obtain⟨s',HR⟩:=hrel;have Y:ap=s'.A.hp:=HP.o.trans HR.o.1.hp.symm;by_cases hl:s'.lf=0
  ·have HZ:=(QNw HR.o.1.i HR.o.1.o hl);rw[<-Y]at HZ;clear Y;go_wp2_with(go_at_call 15;refine AM (HZ) ?_);refine ζx (ζk rfl _ _ _) rfl ?_;exact⟨rfl,s',HR.o.1,HR.o.2.1,HR.o.2.2,hl⟩
  ·have HZ:=(YFI HR.o.1.i HR.o.1.o hl);have hl:=(HR.o.1.i.left);rw[<-Y]at HZ hl;have Z:=ι Y;clear Y;go_wp2_with(go_at_call 15;refine(HZ).mono ?_;rintro e w1 ⟨rfl,s2,h1,h2,h3,h4⟩;have X:=(ξ h1 (ξ h2 (ξ h3 h4)));clear h1 h2 h3 h4);go_round
   case rel=>exact⟨s2,⟨HR.o.1.trans X.1,HR.o.2.1.trans X.2.1,HR.o.2.2.trans X.2.2.1⟩⟩
   case measure=>
    have e1:=X.1.i.left;rw[X.1.hp,<-Z.o]at e1;have:=hl;have:=X.2.2.2;omega
section
attribute [local go_sem] Oper.semAt_some
structure Z8(w wx:World)(S:Nat->Prop)(q m p1 b1 p2 b2:Nat)(v:Vm)(rs:List Int)(c:Cf)(why:Int):Prop where
 t:AB S w wx
 vm:AC wx (AD S w) q v
 rs:(why=0/\∃L,Ext wx m p1 b1 p2 b2 v.n L/\BF v rs v.n L)\/(why=25/\¬CE v rs v.n)
 bx:Rec wx w.heap.size 143 [iI c.fr,iI c.tp,iI c.to,iI c.lm,iI c.bk,iI c.st,iI c.ah]
 r6:Rec wx (w.heap.size+1) 93 [.pointer none]
 r7:Rec wx (w.heap.size+2) 27 [iI 0]
 lm:w.heap.size+3<=m
 l1:w.heap.size+3<=p1
 l2:w.heap.size+3<=b1
 l3:w.heap.size+3<=p2
 l4:w.heap.size+3<=b2
section
variable{g:Nat}{c:Cf}
theorem YeD(hV:AC w S q v)(hn1:1<=v.n)(hR:AR w r g rs)(hT:AP w)(htS:¬S 1)(hst:1<=c.st/\c.st<=4096):
  Calls prog 157 #[pP q,pP r,cfV c] w (Zt3 w S q v rs c.fr c.tp):=by
 have HV:=hV.cut;have HR:=hR;have HT:=hT;have Je:=htS;have Jo:=hT.lt;have hn2:=hV.ok.n2;have Jt:rs.length≠0:=λe=>hR.ne (ζv e);have Jy:=hR.le;have HX:=(λW=>QG v.n hn1 Ω W);have Jm:=hst;obtain⟨n,Yj⟩:∃n,n=rs.length:=⟨_,rfl⟩;have HN:=ι Yj;rw[<-Yj]at Jt Jy;have g1:Gr w (((w.alloc (.cells #[.int .i64 c.fr,.int .i64 c.tp,.int .i64 c.to,.int .i64 c.lm,.int .i64 c.bk,.int .i64 c.st,.int .i64 c.ah] 143)).alloc (.cells #[.pointer none] 93)).alloc (.cells #[.int .i64 0] 27)):=(((Gr.refl w).alloc _).alloc _).alloc _;have Zs:=ι g1;clear hV hR hT htS hst Yj g1;refine(π (n:=5)).1 ?_;refine callsIn_of_wp_marks func157 rfl trivial ?_ rfl;simp only[ntmps157,ζS,ζz,ζ6,Nat.reduceAdd,Nat.reduceSub,ζJ,ζI,ζX,ζO,ζV,ζq];unfold cfV;gi_upto_region 1 with(fail);obtain⟨W0,Xj⟩:∃W0,W0=(((w.alloc (.cells #[.int .i64 c.fr,.int .i64 c.tp,.int .i64 c.to,.int .i64 c.lm,.int .i64 c.bk,.int .i64 c.st,.int .i64 c.ah] 143)).alloc (.cells #[.pointer none] 93)).alloc (.cells #[.int .i64 0] 27)):=⟨_,rfl⟩;have Jb:W0.heap.size=w.heap.size+3:=by rw[Xj];simp only[γ]
 have Zt:Gr w W0:=by rw[Xj];exact Zs.o
 have rb:Rec W0 w.heap.size 143 [iI c.fr,iI c.tp,iI c.to,iI c.lm,iI c.bk,iI c.st,iI c.ah]:=by rw[Xj];exact(Rec.new w _ [iI c.fr,iI c.tp,iI c.to,iI c.lm,iI c.bk,iI c.st,iI c.ah]).gr (((Gr.refl _).alloc _).alloc _)
 have r6:Rec W0 (w.heap.size+1) 93 [.pointer none]:=by rw[Xj];exact(J9 w _ 93 [.pointer none]).gr ((Gr.refl _).alloc _)
 have r7:Rec W0 (w.heap.size+2) 27 [iI 0]:=by
  rw[Xj];have:=J9 (w.alloc (.cells #[.int .i64 c.fr,.int .i64 c.tp,.int .i64 c.to,.int .i64 c.lm,.int .i64 c.bk,.int .i64 c.st,.int .i64 c.ah] 143)) (.cells #[.pointer none] 93) 27 [iI 0];rw[γ]at this;exact this
 rw[<-Xj];clear Xj Zs;have Jc:=ι Zt;have Zw:=ι rb;have Zg:=ι r6;have Zk:=ι r7;have Jk:=ι (λ(W:World) (g:Gr w W)=>KQ (HV.gr g));clear rb r6 r7 Zt
 gi_upto_region 2 with(first
  | (refine⟨trivial,?_⟩;gi_at_call 47;refine(π.2 (Jk.o _ Jc.o)).mono ?_;rintro e w2 ⟨rfl,rfl⟩)
  | (refine⟨trivial,?_⟩;gi_at_call 46;refine(π.2 (HX _)).mono ?_;rintro e w3 ⟨m,p1,b1,p2,b2,rfl,Zm,Zo,Xg,Xq,Xf,Xr,Xh⟩;have Yb:=ι Zm;have I:=ι (Jc.o.trans Zm);have Xo:=ι Zo;have HB:=ι (ξ Xg (ξ Xq (ξ Xf (ξ Xr Xh))));clear Zm Zo Xg Xq Xf Xr Xh))
 gi_cut [10,11]from 14 (λs10 s11 wx=>∃(Xn:Nat) (X:Int),s10=pP Xn/\s11=iI X/\Hid (Z8 w wx S q m p1 b1 p2 b2 v rs c X))
 case first=>
  have Jq:=HB.o;obtain⟨Xg,Xq,Xf,Xr,Xh⟩:=Jq;rw[Jb]at Xg Xq Xf Xr Xh;have Zd:=Xo.o.hm;have Za:=Xo.o.v1.hp;have Yg:=Xo.o.v1.hb;have Yz:=Xo.o.v2.hp;have Yi:=Xo.o.v2.hb
  have Xk:∀i,AS m b1 b2 i->w.heap.size+3<=i/\i<w3.heap.size:=λi hi=>by
   rcases hi with rfl|rfl|rfl
   ·exact⟨Xg,Zd⟩
   ·exact⟨Xf,Yg⟩
   ·exact⟨Xh,Yi⟩
  have Zb:=ι Xk;have Ym:=ι (λ(W:World) (g:Gr w3 W)=>WQ (HR.gr ((I.o).trans g)));rw[<-HN.o]at Ym
  have Yf:Hid (∀(W:World) (g1 cp:Nat),Gr w3 W->w3.heap.size<=g1->W.ownsRow 0 3 1 (.slice (some ⟨g1,0,none⟩) n cp) n (zs rs)->Calls prog 48 #[.iface 78 (pP q),.slice (some ⟨g1,0,none⟩) n cp,pP m,iI c.st] W λe w'=>
    ∃(a1 a2 a3 a4 X:Int),e=.returned (.tuple #[.agg #[iI a1,iI a2,iI a3,iI a4],iI X])/\AB (λi=>AS m b1 b2 i\/AD S w i) W w'/\AC w' (AD S w) q v/\((X=0/\∃L,Ext w' m p1 b1 p2 b2 v.n L/\BF v rs v.n L)\/(X=25/\¬CE v rs v.n))):=⟨λW g1 cp hg U ho=>by
   rw[HN.o]at ho⊢;have Yt:=I.o.trans hg;refine(UY (HV.gr Yt) (Xo.o.gr hg) (Yt.tab HT.lt HT) (λi hi=>?_) (by unfold maxLen;have:=HN.o;omega) (λi hi h=>by have:=(Xk i h).1;have:=hi.2;omega) (λh=>by have:=h.2;omega) (λh=>by have:=h.2;omega) (λh=>Je h.1) (λh=>by have:=(Xk _ h).1;omega) (c.st:Int)).mono ?_
   ·exact⟨g1,0,rfl,(BH ho rfl).2,λh=>by have:=(Xk _ h).2;omega,by rw[ξE];exact BU ho (MS hi)⟩
   ·rintro e w' (⟨h,-⟩|⟨-,-,ht,hv,(⟨L,r',vi,rfl,he,hm,-⟩|⟨rfl,-,hs⟩)⟩)
    ·have:=Jm;omega
    ·exact⟨_,_,r',vi,0,rfl,ht,hv,.inl ⟨rfl,L,he,hm⟩⟩
    ·exact⟨0,0,0,0,25,rfl,ht,hv,.inr ⟨rfl,hs⟩⟩⟩
  have G:Hid (∀(W1 W2 W3:World) (Xn:Nat) (X:Int),Gr w3 W1->AB (λi=>AS m b1 b2 i\/AD S w i) W1 W2->AC W2 (AD S w) q v->((X=0/\∃L,Ext W2 m p1 b1 p2 b2 v.n L/\BF v rs v.n L)\/(X=25/\¬CE v rs v.n))->AB (λi=>i=Xn) W2 W3->w3.heap.size<=Xn →
    Z8 w W3 S q m p1 b1 p2 b2 v rs c X):=⟨λW1 W2 W3 Xn X hg ht hv hres O hb=>by
   have Jh:=I.o.size;have hz13:=Yb.o.size;have Yt:=I.o.trans hg
   have Xb:∀i,i<w.heap.size+3->w.heap.size<=i->¬(AS m b1 b2 i\/AD S w i):=λi h1 h2 h=>by
    rcases h with h|h
    ·have:=(Xk i h).1;omega
    ·have:=h.2;omega
   refine⟨((Yt.touch _).trans (ht.mono (T:=λi=>AS m b1 b2 i\/S i) (λi _ h=>h.imp id (λh=>h.1)))).trans' (T:=λi=>i=Xn) O (λi hi h=>by omega) |>.mono (λi hi h=>h.elim (λh=>by have:=(Xk i h).1;omega) id),hv.touch O (λi hi _ h=>by have:=hi.2;omega),?_,?_,?_,?_,Xg,Xq,Xf,Xr,Xh⟩
   ·rcases hres with⟨h,L,he,hm⟩|h
    ·exact .inl ⟨h,L,he.touch O Ω Ω Ω Ω Ω,hm⟩
    ·exact .inr h
   ·exact((Zw.o.gr (Yb.o.trans hg)).touch ht (Xb _ Ω Ω)).touch O Ω
   ·exact((Zg.o.gr (Yb.o.trans hg)).touch ht (Xb _ Ω Ω)).touch O Ω
   ·exact((Zk.o.gr (Yb.o.trans hg)).touch ht (Xb _ Ω Ω)).touch O Ω⟩
  have Zj:=Zw.o.gr Yb.o;have x5:=Zj.cc 5;have Zi:=Zj.lt;have KS:Hid (∀W',Gr w3 W'->W'.cell? ⟨w.heap.size,5,none⟩=some (iI c.st)):=⟨λW' h=>(h.cell Zi 5).trans x5⟩
  have KT:Hid (∀W1 W',Gr w3 W1->AB (λi=>AS m b1 b2 i\/AD S w i) W1 W'->W'.cell? ⟨w.heap.size,5,none⟩=some (iI c.st)):=⟨λW1 W' h t=>(t.cell (τ Zi h.size) (λh=>by
   rcases h with h|h
   ·have:=(Zb.o _ h).1;omega
   ·have:=h.2;omega) 5).trans ((h.cell Zi 5).trans x5)⟩
  obtain⟨Sx,Yr⟩:∃Sx:World->Prop,Sx=λW'=>W'.cell? ⟨w.heap.size,5,none⟩=some (iI c.st):=⟨_,rfl⟩;have y1:∀p':AA Sx,p'.w.cell? ⟨w.heap.size,5,none⟩=some (iI c.st):=λp=>AA.get Yr p;have Zv:Sx w3.drew:=by rw[Yr];exact x5
  have M:=ι Yr;have inst:Inhabited (AA Sx):=⟨⟨_,Zv⟩⟩;clear Yr x5 Zj Xk Xg Xq Xf Xr Xh Zd Za Yg Yz Yi;refine YL Sx (.two [0,1,2,4,5,6] 3 (.two [] 7 (.one [8,9,10] 11 (.one [] 12 (.fin [13]))) 11 (.one [] 7 (.one [8,9,10] 12 (.fin [13])))) 11 (.one [] 3 (.one [] 7 (.one [8,9,10] 12 (.fin [13]))))) GB Zv ?_;refine PQ ?_;simp only[AF,μ,ν]
  repeat(go_big_quiet_step (fail))
  refine ζb ⟨?_,?_⟩
  ·gi_wp2_with(refine⟨trivial,?_⟩;gi_at_call 49;refine(π.2 (Ym.o _ (Gr.refl w3).drew)).mono ?_;rintro e w4 ⟨g1,c1,rfl,Xp,Xx,Yh⟩;have Y:=ι ((Gr.refl w3).drew.trans Xp);have Yo:=ι Yh;have Yu:=ι Xx;clear Xp Yh Xx);refine⟨AA.of (by rw[M.o];exact KS.o _ Y.o),?_⟩;refine PQ ?_;simp only[AF,μ,ν];refine ζb ⟨?_,?_⟩
   ·gi_wp2_with(refine⟨trivial,?_⟩;gi_at_call 48;refine(π.2 (Yf.o _ g1 c1 Y.o Yu.o Yo.o)).mono ?_;rintro e w5 ⟨a1,a2,a3,a4,X,rfl,N,Xc,Xe⟩;have Z:=ι N;have Yc:=ι Xc;have Xy:=ι Xe;clear N Xc Xe);refine⟨AA.of (by rw[M.o];exact KT.o _ _ Y.o Z.o),?_⟩;refine LH ?_;have u5:=KT.o _ _ Y.o Z.o;have Zq:=AT u5;gi_wp2;refine⟨AA.of (by rw[M.o];exact(((Gr.refl w5).alloc _).cell Zq 5).trans u5),?_⟩;refine IN ?_;simp only[AF,μ,ν];refine ζb ?_;gi_wp2;refine⟨AA.of (by rw[M.o];exact(((Gr.refl w5).alloc _).cell Zq 5).trans u5),?_⟩;refine MH ?_;gi_wp2
    gi_meet
    exact⟨_,X,rfl,rfl,⟨G.o _ _ _ _ X Y.o Z.o Yc.o Xy.o (((Gr.refl w5).alloc _).touch _) (δ Y.o.size Z.o.size)⟩⟩
   ·have x4:=KS.o _ Y.o;have Zx:=AT x4;gi_wp2;refine⟨AA.of (by rw[M.o];exact(((Gr.refl w4).alloc _).cell Zx 5).trans x4),?_⟩;refine IN ?_;simp only[AF,μ,ν];refine ζb ?_;have E:=ι (Rec.new w4 97 [iI 0,iI 0,iI 0,iI 0]);have V:=ι (Y.o.alloc (.cells #[.int .i64 0,.int .i64 0,.int .i64 0,.int .i64 0] 97))
    have Xz:Hid (¬(AS m b1 b2 w4.heap.size\/AD S w w4.heap.size)):=⟨λh=>by
     have:=Y.o.size;rcases h with h|h
     ·have:=(Zb.o _ h).2;omega
     ·have:=h.2;have:=(I.o).size;omega⟩
    have Ya:Hid (¬w.heap.size=w4.heap.size):=⟨by have:=Y.o.size;omega⟩;have Zp:=ι (CU Yo.o ((Gr.refl w4).alloc (.cells #[.int .i64 0,.int .i64 0,.int .i64 0,.int .i64 0] 97)));have Yk:Hid (w3.heap.size<=w4.heap.size):=⟨Y.o.size⟩;obtain⟨bA,Xm⟩:∃bA,bA=w4.heap.size:=⟨_,rfl⟩;obtain⟨WA,Xi⟩:∃WA,WA=w4.alloc (.cells #[.int .i64 0,.int .i64 0,.int .i64 0,.int .i64 0] 97):=⟨_,rfl⟩;rw[show w4.alloc (.cells ([.int .i64 0,.int .i64 0,.int .i64 0,.int .i64 0]:List Value).toArray 97)=WA from Xi.symm]at E;rw[<-Xi]at V Zp⊢;rw[<-Xm]at E Xz Ya Yk⊢;clear Xm Xi x4 Zx;gi_wp2_with(refine⟨trivial,?_⟩;gi_at_call 48;refine(π.2 (Yf.o _ g1 c1 V.o Yu.o Zp.o)).mono ?_;rintro e w5 ⟨a1,a2,a3,a4,X,rfl,N,Xc,Xe⟩;have Z:=ι N;have Yc:=ι Xc;have Xy:=ι Xe;have J:=ι (E.o.touch N (Xz.o));have q0:=J.o.cc 0;have q1:=J.o.cc 1;have q2:=J.o.cc 2;have q3:=J.o.cc 3;have qf:=J.o.free;have ql:=J.o.lt;clear N Xc Xe);refine⟨AA.of (by rw[M.o];exact KT.o _ _ V.o Z.o),?_⟩;refine LH ?_;gi_wp2;have t5:=L6 w5 bA (iI a1) (iI a2) (iI a3) (iI a4);have KF:=(t5.cell (AT (KT.o _ _ V.o Z.o)) Ya.o 5).trans (KT.o _ _ V.o Z.o);refine⟨AA.of (by rw[M.o];exact KF),?_⟩;refine MH ?_;gi_wp2
    gi_meet
    exact⟨_,X,rfl,rfl,⟨G.o _ _ _ _ X V.o Z.o Yc.o Xy.o t5 Yk.o⟩⟩
  ·gi_wp2;have x3:=KS.o _ (Gr.refl w3);have Ju:=AT x3;refine⟨AA.of (by rw[M.o];exact KS.o _ ((Gr.refl w3).alloc _).drew),?_⟩;refine IN ?_;simp only[AF,μ,ν];refine ζb ?_;have E:=ι ((Rec.new w3 97 [iI 0,iI 0,iI 0,iI 0]).gr (Gr.refl _).drew);have V:=ι ((Gr.refl w3).alloc (.cells #[.int .i64 0,.int .i64 0,.int .i64 0,.int .i64 0] 97)).drew
   have Xz:Hid (¬(AS m b1 b2 w3.heap.size\/AD S w w3.heap.size)):=⟨λh=>by
    rcases h with h|h
    ·have:=(Zb.o _ h).2;omega
    ·have:=h.2;have:=(I.o).size;omega⟩
   have Ya:Hid (¬w.heap.size=w3.heap.size):=⟨by omega⟩;have Yk:Hid (w3.heap.size<=w3.heap.size):=⟨ϑ _⟩;obtain⟨WA,Xi⟩:∃WA,WA=(w3.alloc (.cells #[.int .i64 0,.int .i64 0,.int .i64 0,.int .i64 0] 97)).drew:=⟨_,rfl⟩;rw[show (w3.alloc (.cells ([.int .i64 0,.int .i64 0,.int .i64 0,.int .i64 0]:List Value).toArray 97)).drew=WA from Xi.symm]at E;rw[<-Xi]at V⊢;clear Xi;obtain⟨bA,Xm⟩:∃bA,bA=w3.heap.size:=⟨_,rfl⟩;rw[<-Xm]at E Xz Ya;rw[show w3.heap.size<=w3.heap.size↔w3.heap.size<=bA by rw[Xm]]at Yk;rw[show w3.heap.size=bA from Xm.symm];clear Xm x3 Ju;gi_wp2_with(refine⟨trivial,?_⟩;gi_at_call 49;refine(π.2 (Ym.o _ V.o)).mono ?_;rintro e w4 ⟨g1,c1,rfl,Xp,Xx,Yh⟩;have Y:=ι (V.o.trans Xp);have Ja:=ι (E.o.gr Xp);have Yo:=ι Yh;have Yu:=ι (δ V.o.size Xx);clear Xp Yh Xx);refine⟨AA.of (by rw[M.o];exact KS.o _ Y.o),?_⟩;refine IN ?_;simp only[AF,μ,ν];refine ζb ?_;gi_wp2_with(refine⟨trivial,?_⟩;gi_at_call 48;refine(π.2 (Yf.o _ g1 c1 Y.o Yu.o Yo.o)).mono ?_;rintro e w5 ⟨a1,a2,a3,a4,X,rfl,N,Xc,Xe⟩;have Z:=ι N;have Yc:=ι Xc;have Xy:=ι Xe;have J:=ι (Ja.o.touch N (Xz.o));have q0:=J.o.cc 0;have q1:=J.o.cc 1;have q2:=J.o.cc 2;have q3:=J.o.cc 3;have qf:=J.o.free;have ql:=J.o.lt;clear N Xc Xe);refine⟨AA.of (by rw[M.o];exact KT.o _ _ Y.o Z.o),?_⟩;refine LH ?_;gi_wp2;have t5:=L6 w5 bA (iI a1) (iI a2) (iI a3) (iI a4);have KF:=(t5.cell (AT (KT.o _ _ Y.o Z.o)) Ya.o 5).trans (KT.o _ _ Y.o Z.o);refine⟨AA.of (by rw[M.o];exact KF),?_⟩;refine MH ?_;gi_wp2
   gi_meet
   exact⟨_,X,rfl,rfl,⟨G.o _ _ _ _ X Y.o Z.o Yc.o Xy.o t5 Yk.o⟩⟩
 case rest=>
  obtain⟨Xn,X,rfl,rfl,HI⟩:=hcut;have Xt:=HI.o.r6;have Xl:=HI.o.r7;have Ze:=HI.o.bx;have hwz:=HI.o.t.size;have hr7l:=Xl.lt;rcases HI.o.rs with⟨rfl,L,hex,Jd⟩|⟨rfl,Zz⟩
  ·have Zc:=ι hex;have Zn:=ι Jd;clear Xt Xl hex Jd;gi_wp2_with(refine⟨trivial,?_⟩;gi_at_call 144;refine(π.2 (JR (some ⟨m,0,none⟩))).mono ?_;rintro e w1 ⟨rfl,rfl⟩);obtain⟨W1,Xw⟩:∃W1,W1=wc.alloc (.cells #[.pointer (some ⟨m,0,none⟩)] 93):=⟨_,rfl⟩;have U:Gr wc W1:=by rw[Xw];exact(Gr.refl wc).alloc _
   have Zr:W1.heap.size=wc.heap.size+1:=by rw[Xw,γ]
   have k4:W1.cell? ⟨wc.heap.size,0,none⟩=some (pP m):=by
    rw[Xw];exact(Boxed.new wc 93 (pP m)).cell
   rw[<-Xw];have hex:=Zc.o;have Zd:=hex.hm;have Za:=hex.v1.hp;have Yg:=hex.v1.hb;have Yz:=hex.v2.hp;have Yi:=hex.v2.hb;have Jf:Hid (AP wc):=⟨HI.o.t.tab Jo Je HT⟩;have Jg:=Jf.o.lt;have hrl:=Ze.lt;have Jv:=ι hex.good;clear Xw hex;have tI:∀(j:Nat) A B,(AB (λi=>W1.heap.size<=i) W1 A/\j<=L.length/\∀i (h:i<L.length),i<j->c.fr<=L[i].1/\L[i].1+L[i].2<=c.tp)->AB (λi=>W1.heap.size<=i/\i<W1.heap.size+2+4) A B->(AB (λi=>W1.heap.size<=i) W1 B/\j<=L.length/\∀i (h:i<L.length),i<j->c.fr<=L[i].1/\L[i].1+L[i].2<=c.tp):=λj A B h t=>⟨h.1.trans (t.mono (λi _ h=>h.1)),h.2⟩
   refine LD (K:=4) (s0:=0) rfl Ω (gf:=187) (lb:=#[pP wc.heap.size]) rfl trivial (enters_of func187 (by kernel_rfl) rfl)
    (OB _ wc.heap.size m p1 b1 p2 b2 v.n L _) (λ_=>rfl)
    (λ(j:Nat) A=>AB (λi=>W1.heap.size<=i) W1 A/\j<=L.length/\∀i (h:i<L.length),i<j->c.fr<=L[i].1/\L[i].1+L[i].2<=c.tp)
    (λcd A=>cd=.ret/\AB (λi=>(i=w.heap.size+1\/i=w.heap.size+2)\/W1.heap.size<=i) W1 A/\A.cell? ⟨w.heap.size+1,0,none⟩=some (.pointer none)/\A.cell? ⟨w.heap.size+2,0,none⟩=some (iI 25)/\∃o∈L,¬(c.fr<=o.1/\o.1+o.2<=c.tp))
    tI
    (λcd A B h t=>⟨h.1,h.2.1.trans (t.mono (λi _ h=>.inr h.1)),(t.cell (AT h.2.2.1) (by show ¬(W1.heap.size<=w.heap.size+1/\_);omega) 0).trans h.2.2.1,(t.cell (AT h.2.2.2.1) (by show ¬(W1.heap.size<=w.heap.size+2/\_);omega) 0).trans h.2.2.2.1,h.2.2.2.2⟩)
    (λj A h=>⟨(Zc.o.gr U).touch h.1 Ω Ω Ω Ω Ω,(U.tab Jg Jf.o).touch' h.1 Ω,(h.1.cell Ω Ω 0).trans k4,h.2.1⟩)
    ⟨AB.refl _ _,ζg _,λi _ h=>absurd h (ζQ _)⟩ ?round ?done ?stop
   case round=>
    have Yw:=ι Zr;clear Zr;intro lp j x W3 hsz3 Xd Xa;dsimp only[GG];gi_wp2;refine⟨Gr.refl _,λW4 ht4 hI4=>?_⟩
    have Yy:j<L.length:=by
     rcases υ j L.length with h|h
     ·exact h
     ·unfold EH at Xa;rw[ζF h]at Xa;cases Xa
    obtain rfl:x=L[j]:=by unfold EH at Xa;rw[η Yy]at Xa;exact(Option.some.inj Xa).symm
    have Yl:=(Ze.gr U).touch hI4.1 (by have:=Yw.o;omega);obtain⟨c0,c1,cl⟩:=Yl.k2;have Jp:=(Jv.o.sz _ (κ Yy)).2;have Zu:=ι (κ Yy);obtain⟨sa,Yn⟩:∃s,s=L[j].1:=⟨_,rfl⟩;obtain⟨sz,Yx⟩:∃s,s=L[j].2:=⟨_,rfl⟩;have Yq:=ι (ξ Yn Yx);rw[<-Yn,<-Yx]at Jp⊢;have Zh:=ι hI4;have Xu:=(HI.o.r6.gr U).touch hI4.1 (by have:=Yw.o;omega);have Xs:=(HI.o.r7.gr U).touch hI4.1 (by have:=Yw.o;omega);have Jw:=ι Yy;by_cases Xv:c.fr<=sa/\sa+sz<=c.tp
    ·have e0:decide ((sa:Int)<(c.fr:Int))=false:=ζ Ω;have e1:decide ((c.tp:Int)<(sa:Int)+(sz:Int))=false:=ζ Ω;have e2:decide (sa<c.fr)=false:=ζ Ω;have Jl:=ι Xv;clear Xd hI4 Xa ht4 Yn Yx Xv Xu Xs;gi_wp2;refine⟨AB.refl _ _,j+1,rfl,Zh.o.1,Jw.o,λi h hij=>?_⟩;rcases υ i j with h'|h'
     ·exact Zh.o.2.2 i h h'
     ·obtain rfl:i=j:=Ω
      rw[<-Yq.o.1,<-Yq.o.2];exact Jl.o
    ·have Jn:Hid (∃o∈L,¬(c.fr<=o.1/\o.1+o.2<=c.tp)):=⟨L[j],Zu.o,by rw[<-Yq.o.1,<-Yq.o.2];exact Xv⟩;have Js:=ι Xu;have Jx:=ι Xs;have z6:=Xu.cc 0;have z7:=Xs.cc 0;have zf6:=Xu.free 0;have zf7:=Xs.free 0;have zl7:=Xs.lt
     have G:Hid (∀W5,W5=(W4.setCell ⟨w.heap.size+1,0,none⟩ (.pointer none)).setCell ⟨w.heap.size+1+1,0,none⟩ (.int .i64 25)->AB (λk=>k<W1.heap.size\/W1.heap.size+(2+4)<=k) W4 W5/\(AB (λi=>(i=w.heap.size+1\/i=w.heap.size+2)\/W1.heap.size<=i) W1 W5/\W5.cell? ⟨w.heap.size+1,0,none⟩=some (.pointer none)/\W5.cell? ⟨w.heap.size+2,0,none⟩=some (iI 25)/\∃o∈L,¬(c.fr<=o.1/\o.1+o.2<=c.tp))):=⟨λW5 hW5=>by
      have tg:AB (λi=>i=w.heap.size+1\/i=w.heap.size+2) W4 W5:=by
       rw[hW5];exact((AB.refl _ W4).setCell (a:=⟨w.heap.size+1,0,none⟩) (λ_=>.inl rfl) _).setCell (a:=⟨w.heap.size+1+1,0,none⟩) (λ_=>.inr rfl) _
      have b6:Rec W5 (w.heap.size+1) 93 [.pointer none]:=by
       rw[hW5];exact(Js.o.set 0 (.pointer none)).touch ((AB.refl (λi=>i=w.heap.size+1+1) _).setCell (a:=⟨w.heap.size+1+1,0,none⟩) (λ_=>rfl) _) Ω
      have b7:Rec W5 (w.heap.size+2) 27 [iI 25]:=by
       rw[hW5];exact(Jx.o.touch ((AB.refl (λi=>i=w.heap.size+1) W4).setCell (a:=⟨w.heap.size+1,0,none⟩) (λ_=>rfl) (.pointer none)) Ω).set 0 (iI 25)
      refine⟨tg.mono (λb _ h=>.inl (by have:=Yw.o;omega)),(Zh.o.1.mono (λ_ _ h=>.inr h)).trans (tg.mono (λ_ _ h=>.inl h)),b6.cc 0,b7.cc 0,Jn.o⟩⟩
     clear Xd hI4 Xa ht4 Xu Xs Yn Yx;by_cases Ys:sa<c.fr
     ·have e0:decide ((sa:Int)<(c.fr:Int))=true:=φ Ω;have e2:decide (sa<c.fr)=true:=φ Ys;clear Xv Ys;gi_wp2;exact⟨(G.o _ rfl).1,rfl,(G.o _ rfl).2⟩
     ·have e0:decide ((sa:Int)<(c.fr:Int))=false:=ζ Ω;have e2:decide (sa<c.fr)=false:=ζ Ys;have e1:decide ((c.tp:Int)<(sa:Int)+(sz:Int))=true:=φ Ω;clear Xv Ys;gi_wp2;exact⟨(G.o _ rfl).1,rfl,(G.o _ rfl).2⟩
   case done=>
    rintro D j W3 hD rfl Xd hK;have Ye:=(HI.o.r6.gr U).touch Xd.1 (by have:=HI.o.r6.lt;omega);have Yd:=(HI.o.r7.gr U).touch Xd.1 (by have:=HI.o.r7.lt;omega);have q0:=Ye.cc 0;have q1:=Ye.free 0;have ql:=Ye.lt;have p0:=Yd.cc 0;have Jz:=Yd.free 0;have pl:=Yd.lt;have HK:=ι hK;have HD:=ι hD;have Yv:=ι Xd;have E:=ι Ye;have Ji:=ι Yd;have hs3:=Xd.1.size;clear hK hD Xd Ye Yd;gi_wp2
    have tg:AB (λi=>i=w.heap.size+1\/i=w.heap.size+2) W3 ((W3.setCell ⟨w.heap.size+1,0,none⟩ (.pointer (some ⟨m,0,none⟩))).setCell ⟨w.heap.size+1+1,0,none⟩ (.int .i64 0)):=
     ((AB.refl _ W3).setCell (a:=⟨w.heap.size+1,0,none⟩) (λ_=>.inl rfl) _).setCell (a:=⟨w.heap.size+1+1,0,none⟩) (λ_=>.inr rfl) _
    have b6:Rec ((W3.setCell ⟨w.heap.size+1,0,none⟩ (.pointer (some ⟨m,0,none⟩))).setCell ⟨w.heap.size+1+1,0,none⟩ (.int .i64 0)) (w.heap.size+1) 93 [pP m]:=
     (E.o.set 0 (pP m)).touch ((AB.refl (λi=>i=w.heap.size+1+1) _).setCell (a:=⟨w.heap.size+1+1,0,none⟩) (λ_=>rfl) _) Ω
    have b7:Rec ((W3.setCell ⟨w.heap.size+1,0,none⟩ (.pointer (some ⟨m,0,none⟩))).setCell ⟨w.heap.size+1+1,0,none⟩ (.int .i64 0)) (w.heap.size+2) 27 [iI 0]:=
     (Ji.o.touch ((AB.refl (λi=>i=w.heap.size+1) W3).setCell (a:=⟨w.heap.size+1,0,none⟩) (λ_=>rfl) (pP m)) Ω).set 0 (iI 0)
    have hD:=HD.o;have Zf:=(tg.block D (ζn.1 HK.o).1 Ω).trans HK.o;generalize ((W3.setCell ⟨w.heap.size+1,0,none⟩ (.pointer (some ⟨m,0,none⟩))).setCell ⟨w.heap.size+1+1,0,none⟩ (.int .i64 0))=W5 at *
    have k6:=b6.cc 0;have k7:=b7.cc 0;rw[show w.heap.size+2=w.heap.size+1+1 from rfl]at k7;refine⟨by simp,.inl ⟨_,_,rfl,run_takeDeferred Zf,?_⟩⟩;have Zl:=cell_kept k6 (grownBy_putObj' _ D (.deferred none)) (λr e=>by cases e;exact⟨_,Zf,rfl⟩);have Yp:=cell_kept k7 (grownBy_putObj' _ D (.deferred none)) (λr e=>by cases e;exact⟨_,Zf,rfl⟩);have tD:AB (λi=>W1.heap.size<=i) W5 (W5.putObj D (.deferred none)):=C5 _ D _ Ω;refine⟨.tuple #[pP m,iI 0],?_,?_,?_,.inl ⟨L,m,p1,b1,p2,b2,⟨Zn.o,λo ho=>?_⟩,rfl,?_,?_⟩⟩
    ·simp[results,f157,go_sem,Zl,Yp]
    ·exact(((HI.o.t.trans (U.touch _)).trans' Yv.o.1 (λi hi h=>by omega)).trans' tg (λi hi h=>by omega)).trans' tD (λi hi h=>by omega)
    ·exact(((HI.o.vm.gr U).touch Yv.o.1 (λi hi _ h=>by have:=hi.2;omega)).touch tg (λi hi _ h=>by have:=hi.2;omega)).touch tD (λi hi _ h=>by have:=hi.2;omega)
    ·obtain⟨i,hi,rfl⟩:=ζo ho;have:=Yv.o.2.2 i hi hi;omega
    ·have hl:=HI.o;have l0:=hl.lm;have l1:=hl.l1;have l2:=hl.l2;have l3:=hl.l3;have l4:=hl.l4;exact((((Zc.o.gr U).touch Yv.o.1 Ω Ω Ω Ω Ω)).touch tg Ω Ω Ω Ω Ω).touch tD Ω Ω Ω Ω Ω
    ·have hl:=HI.o;have l0:=hl.lm;have l1:=hl.l1;have l2:=hl.l2;have l3:=hl.l3;have l4:=hl.l4;omega
   case stop=>
    rintro D cd W3 hD ⟨rfl,O,h1,h2,Xb⟩ hK;have Jr:=ι Xb;have HK:=ι hK;have Zy:=ι O;have Jh:=O.size;clear Xb hK O;gi_wp2;refine⟨by simp,.inl ⟨_,_,rfl,run_takeDeferred HK.o,?_⟩⟩;have Zl:=cell_kept h1 (grownBy_putObj' _ D (.deferred none)) (λr e=>by cases e;exact⟨_,HK.o,rfl⟩);have Yp:=cell_kept h2 (grownBy_putObj' _ D (.deferred none)) (λr e=>by cases e;exact⟨_,HK.o,rfl⟩);rw[show w.heap.size+2=w.heap.size+1+1 from rfl]at Yp;have tD:AB (λi=>W1.heap.size<=i) W3 (W3.putObj D (.deferred none)):=C5 _ D _ Ω;refine⟨.tuple #[.pointer none,iI 25],?_,?_,?_,.inr ⟨λL' h=>?_,rfl⟩⟩
    ·simp[results,f157,go_sem,Zl,Yp]
    ·exact(((HI.o.t.trans (U.touch _)).trans' Zy.o (λi hi h=>by omega))).trans' tD (λi hi h=>by omega)
    ·exact((HI.o.vm.gr U).touch Zy.o (λi hi _ h=>by have:=hi.2;omega)).touch tD (λi hi _ h=>by have:=hi.2;omega)
    ·have e:=h.1.unique Zn.o;subst e;obtain⟨o,ho,Xb⟩:=Jr.o;have:=h.2 o ho;exact Xb Ω
  ·have q0:=Xt.cc 0;have q1:=Xt.free 0;have ql:=Xt.lt;have p0:=Xl.cc 0;have Jz:=Xl.free 0;have pl:=Xl.lt;have Jj:=ι Zz;have Zg:=ι Xt;have Zk:=ι Xl;clear Xt Xl Zz Ze;gi_wp2
   have tg:AB (λi=>i=w.heap.size+1\/i=w.heap.size+2) wc ((wc.setCell ⟨w.heap.size+1,0,none⟩ (.pointer none)).setCell ⟨w.heap.size+1+1,0,none⟩ (.int .i64 25)):=
    ((AB.refl _ wc).setCell (a:=⟨w.heap.size+1,0,none⟩) (λ_=>.inl rfl) _).setCell (a:=⟨w.heap.size+1+1,0,none⟩) (λ_=>.inr rfl) _
   have b6:Rec ((wc.setCell ⟨w.heap.size+1,0,none⟩ (.pointer none)).setCell ⟨w.heap.size+1+1,0,none⟩ (.int .i64 25)) (w.heap.size+1) 93 [.pointer none]:=
    (Zg.o.set 0 (.pointer none)).touch ((AB.refl (λi=>i=w.heap.size+1+1) _).setCell (a:=⟨w.heap.size+1+1,0,none⟩) (λ_=>rfl) _) Ω
   have b7:Rec ((wc.setCell ⟨w.heap.size+1,0,none⟩ (.pointer none)).setCell ⟨w.heap.size+1+1,0,none⟩ (.int .i64 25)) (w.heap.size+2) 27 [iI 25]:=
    (Zk.o.touch ((AB.refl (λi=>i=w.heap.size+1) wc).setCell (a:=⟨w.heap.size+1,0,none⟩) (λ_=>rfl) (.pointer none)) Ω).set 0 (iI 25)
   generalize ((wc.setCell ⟨w.heap.size+1,0,none⟩ (.pointer none)).setCell ⟨w.heap.size+1+1,0,none⟩ (.int .i64 25))=W5 at *
   have k6:=b6.cc 0;have k7:=b7.cc 0;rw[show w.heap.size+2=w.heap.size+1+1 from rfl]at k7;refine⟨.tuple #[.pointer none,iI 25],?_,?_,?_,.inr ⟨λL' h=>Jj.o h.1.sound,rfl⟩⟩
   ·simp[results,f157,go_sem,k6,k7]
   ·exact HI.o.t.trans' tg (λi hi h=>by omega)
   ·exact HI.o.vm.touch tg (λi hi _ h=>by have:=hi.2;omega)
end
end
section
attribute [local go_sem] Oper.semAt_some
theorem Qkw{b1 b2:Nat}(hE:Ext w m p1 b1 p2 b2 n L)(hT:AP w){B:Nat}(hB:BI B=true)(hb:base<2147483648):
  Calls prog 158 #[pP m,iI B,iI base] w λe w'=>∃p,e=.returned (.tuple #[pP p,iI 0])/\Gr w w'/\Pln w' w.heap.size p n B base L:=by
 have hbp:=DA hB;refine(YGs hE hT (B:Int) (base:Int) Ω).mono ?_;have hbo:FP (base:Int)=true:=by unfold FP;grind
 rintro e w' ⟨hg,(⟨h,-⟩|⟨-,p,B',base',e1,e2,rfl,hP⟩)⟩
 ·simp_all
 grind
def PM(w:World)(S:Nat->Prop)(q r g:Nat)(v:Vm)(rs:List Int)(c:Cf)(e:Ending)(w':World):Prop:=
 AB (λb=>b=g\/S b) w w' ∧
  (((∀L,¬EY v rs c.fr c.tp L)/\e=.returned (.tuple #[.pointer none,iI 25])/\AC w' S q v/\AR w' r g rs) ∨
  ∃L,EY v rs c.fr c.tp L ∧
   ((c.lm-c.to<sizes L/\e=.returned (.tuple #[.pointer none,iI 21])/\AC w' S q v/\AR w' r g rs) ∨
   (sizes L<=c.lm-c.to/\∃(y:Nat) (z:BZ) (R S':Nat->Prop) (v':Vm) (j:Nat),e=.returned (.tuple #[pP y,iI 0])/\Cyc w' R y q z (AX v c L)/\AC w' S' q v'/\(∀b,S' b->S b\/w.heap.size<=b)/\(∀b,R b->w.heap.size<=b/\¬S' b) ∧
    EN (AX v c L) v v' (c.fr/v.pl.pg) j/\c.tp<=(c.fr/v.pl.pg+j)*v.pl.pg/\(∀i,i<j->(c.fr/v.pl.pg+i)*v.pl.pg<c.tp)/\AR w' r g (rs.map (toV L c.to)))))
theorem ZHF:(prog.info? 4).map (λi=>(i.zero,i.size,i.bytes))=some (some (.bool false),1,1):=by kernel_rfl
structure OpJ(wa w:World)(D:Nat->Bool)(q p m nb:Nat)(c:Cf)(v55 v56 v57 v58 v59 v60 v61 v62 v63 v64 v65 v66 v67 v13:Value):Prop where
 e55:v55=pP q
 e56:v56=.agg #[iI c.fr,iI c.tp,iI c.to,iI c.lm,iI c.bk,iI c.st,iI c.ah]
 e57:v57=pP p
 e58:v58=pP m
 e59:v59=pP p
 e62:v62=pP p
 e60:D 5=true->v60=iI nb
 e61:D 6=true->∃b,v61=.slice (some ⟨b,0,none⟩) nb nb/\w.ownsRow 0 4 1 v61 nb (List.replicate nb (.bool false))/\wa.heap.size<=b
 e63:D 8=true->v63=iI nb
 e64:D 9=true->∃b,v64=.map (some b)/\BC prog 3 w b 0 (λ_=>none)/\wa.heap.size<=b
 e65:D 10=true->∃b,v65=.map (some b)/\BC prog 3 w b 0 (λ_=>none)/\wa.heap.size<=b
 ne:D 9=true->D 10=true->v64≠v65
 e66:D 11=true->D 6=true/\D 8=true/\D 9=true/\D 10=true/\v66=.agg #[v55,iI c.fr,iI c.tp,iI c.to,iI c.lm,iI c.bk,iI c.st,iI c.ah,v57,v58,v61,v63,iI 0,iI 0,v64,v65]
 e67:D 12=true->D 11=true/\∃b,v67=pP b/\wa.heap.size<=b/\Rec w b 149 [v55,iI c.fr,iI c.tp,iI c.to,iI c.lm,iI c.bk,iI c.st,iI c.ah,v57,v58,v61,v63,iI 0,iI 0,v64,v65]
 e13:D 13=true->∃b,v13=pP b/\wa.heap.size<=b/\Rec w b 81 [if D 14 then v67 else .pointer none]
 d14:D 14=true->D 12=true/\D 13=true
 t:AB (λi=>wa.heap.size<=i) wa w
theorem OpJ.gr{wa:World}{D:Nat->Bool}{c:Cf}{v55 v56 v57 v58 v59 v60 v61 v62 v63 v64 v65 v66 v67 v13:Value}(h:OpJ wa w D q p m nb c v55 v56 v57 v58 v59 v60 v61 v62 v63 v64 v65 v66 v67 v13)(g:Gr w w'):OpJ wa w' D q p m nb c v55 v56 v57 v58 v59 v60 v61 v62 v63 v64 v65 v66 v67 v13:=
 ⟨h.e55,h.e56,h.e57,h.e58,h.e59,h.e62,h.e60,λd=>by obtain⟨b,h1,h2,h3⟩:=h.e61 d;exact⟨b,h1,CU h2 g,h3⟩,h.e63,λd=>by obtain⟨b,h1,h2,h3⟩:=h.e64 d;exact⟨b,h1,h2.gr g,h3⟩,λd=>by obtain⟨b,h1,h2,h3⟩:=h.e65 d;exact⟨b,h1,h2.gr g,h3⟩,h.ne,h.e66,
  λd=>by obtain⟨h0,b,h1,h2,h3⟩:=h.e67 d;exact⟨h0,b,h1,h2,h3.gr g⟩,λd=>by obtain⟨b,h1,h2,h3⟩:=h.e13 d;exact⟨b,h1,h2,h3.gr g⟩,h.d14,h.t.trans (g.touch _)⟩
def OpI(wa:World)(q p m nb:Nat)(c:Cf)(a0:Act)(D:Nat->Bool)(a:Act)(w:World):Prop:=
 ∃v55 v56 v57 v58 v59 v60 v61 v62 v63 v64 v65 v66 v67 v13:Value,a=(((((((((((((a0.put (some 55) v55).put (some 56) v56).put (some 57) v57).put (some 58) v58).put (some 59) v59).put (some 60) v60).put (some 61) v61).put (some 62) v62).put (some 63) v63).put (some 64) v64).put (some 65) v65).put (some 66) v66).put (some 67) v67).put (some 13) v13/\OpJ wa w D q p m nb c v55 v56 v57 v58 v59 v60 v61 v62 v63 v64 v65 v66 v67 v13
theorem Sl.on_next(s:Sl)(hm:mm<sizes s.L)(q:Nat):s.on (λi=>decide (i<mm+1)) q=s.on (λi=>decide (i<mm)) q+(if AG s.L mm/s.pg=q then 1 else 0):=by
 have h:=Sl.on_but (s:=s) (U:=λi=>decide (i<mm+1)) (i:=mm) (q:=q) hm (by simp)
 have e:s.on (but (λi=>decide (i<mm+1)) mm) q=s.on (λi=>decide (i<mm)) q:=Sl.on_congr λj _=>by
  unfold but
  grind
 omega
theorem Y0x(hg:AO n L):L.length<=sizes L:=by
 have:∀l:List Ob,(∀o∈l,1<=o.2)->l.length<=sizes l:=λl=>by
  induction l with
  | nil=>simp_all
  | cons o r ih=>
   intro h;have h1:=ih (λx hx=>h x (ζl _ hx));have h2:=h o (ζh ..);simp only[ζz,sizes];omega
 exact this L (λo ho=>(hg.sz o ho).1)
structure OpA(W5 A:World)(b64 b65:Nat)(v:Vm)(s:Sl)(j mm:Nat):Prop where
 t:AB (λi=>(i=b64\/i=b65)\/W5.heap.size<=i) W5 A
 sh:∃n f,BC prog 3 A b65 n f/\n<=j/\∀i (h:i<s.L.length),i<j->f (s.L[i].1:Nat)=some (AJ (v.rdH (s.L[i].1:Nat)))
 wd:∃n f,BC prog 3 A b64 n f/\n<=mm/\∀q:Nat,(f (q:Nat)).getD (iI 0)=iI (s.on (λi=>decide (i<mm)) q:Nat)
theorem OpA.win{s:Sl}{K:Nat}(h:OpA W5 A b64 b65 v s j mm)(h4:b64<W5.heap.size)(h5:b65<W5.heap.size)(t:AB (λk=>W5.heap.size<=k/\k<K) A B):OpA W5 B b64 b65 v s j mm:=by
 obtain⟨n1,f1,a1,a2,a3⟩:=h.sh;obtain⟨n2,f2,c1,c2,c3⟩:=h.wd;exact⟨h.t.trans (t.mono (λi _ h=>.inr h.1)),⟨n1,f1,a1.touch t (λh=>by omega),a2,a3⟩,⟨n2,f2,c1.touch t (λh=>by omega),c2,c3⟩⟩
theorem OpA.zero{s:Sl}(h4:BC prog 3 W5 b64 0 (λ_=>none))(h5:BC prog 3 W5 b65 0 (λ_=>none)):OpA W5 W5 b64 b65 v s 0 0:=
 ⟨AB.refl _ _,⟨0,_,h5,ϑ _,λi _ h=>absurd h (ζQ _)⟩,⟨0,_,h4,ϑ _,λq=>by
  have:s.on (λi=>decide (i<0)) q=0:=Sl.on_iff.2 (λj _ h=>by simp at h)
  simp_all⟩⟩
theorem OpA.hdr{s:Sl}(h:OpA W5 A b64 b65 v s j mm)(hj:j<s.L.length)(hne:b64≠b65)(hn:n<=j)(hf:∀i (h:i<s.L.length),i<j->f (s.L[i].1:Nat)=some (AJ (v.rdH (s.L[i].1:Nat))))(hg:AO s.n s.L)
  (hm:BC prog 3 B b65 (n+1) (λy=>if y=((s.L[j].1:Nat):Int)then some (AJ (v.rdH (s.L[j].1:Nat)))else f y)) (t:AB (λi=>i=b65) A B):OpA W5 B b64 b65 v s (j+1) mm:=by
 obtain⟨n2,f2,c1,c2,c3⟩:=h.wd;refine⟨h.t.trans (t.mono (λi _ h=>.inl (.inr h))),⟨n+1,_,hm,by omega,λi hi hij=>?_⟩,⟨n2,f2,c1.touch t hne,c2,c3⟩⟩
 grind
theorem OpA.word{s:Sl}(h:OpA W5 A b64 b65 v s j mm)(hm:mm<sizes s.L)(hne:b64≠b65)(hn:n<=mm)(hf:∀q:Nat,(f (q:Nat)).getD (iI 0)=iI (s.on (λi=>decide (i<mm)) q:Nat))
  (hx:x=s.on (λi=>decide (i<mm)) (AG s.L mm/s.pg)+1) (hM:BC prog 3 B b64 (n+1) (λy=>if y=((AG s.L mm/s.pg:Nat):Int)then some (iI x)else f y)) (t:AB (λi=>i=b64) A B):OpA W5 B b64 b65 v s j (mm+1):=by
 obtain⟨n1,f1,a1,a2,a3⟩:=h.sh;refine⟨h.t.trans (t.mono (λi _ h=>.inl (.inl h))),⟨n1,f1,a1.touch t (λe=>hne e.symm),a2,a3⟩,⟨n+1,_,hM,by omega,λq=>?_⟩⟩;rw[s.on_next hm q];by_cases e:AG s.L mm/s.pg=q
 ·simp_all
 grind
theorem VLI{w3 W7:World}{b1 b2 b61 lo:Nat}{c:Cf}{T:Nat->Prop}
  (hE2:Ext w2 m p1 b1 p2 b2 v.n L) (hg:Gr w2 w3) (hP:Pln w3 w2.heap.size p v.n c.bk c.to L) (hlo:lo<=w2.heap.size/\lo<=m/\lo<=p1/\lo<=b1/\lo<=p2/\lo<=b2)
  (t3:AB (λi=>w3.heap.size<=i) w3 W5) (hge:w3.heap.size<=y/\w3.heap.size<=b61/\w3.heap.size<=b64/\w3.heap.size<=b65) (hnb:nb=nbl (sizes L) c.bk)
  (hY:Rec W5 y 149 [pP q,iI c.fr,iI c.tp,iI c.to,iI c.lm,iI c.bk,iI c.st,iI c.ah,pP p,pP m,.slice (some ⟨b61,0,none⟩) nb nb,iI nb,iI 0,iI 0,.map (some b64),.map (some b65)])
  (hO:W5.ownsRow 0 4 1 (.slice (some ⟨b61,0,none⟩) nb nb) nb (List.replicate nb (.bool false))) (h4:BC prog 3 W5 b64 0 (λ_=>none)) (h5:BC prog 3 W5 b65 0 (λ_=>none)) (hne:b64≠b65)
  (hA:OpA W5 W7 b64 b65 v (AX v c L) L.length (sizes L)) (hT:∀i,i<W5.heap.size->i≠b64->i≠b65->¬T i) (t7:AB T W5 W7):
  Cyc W7 (λb=>lo<=b/\b<W5.heap.size) y q ⟨w2.heap.size,w3.heap.size,p,m,p1,b1,p2,b2,b65,b61,nb,b64⟩ (AX v c L):=by
 obtain⟨l1,l2,l3,l4,l5,l6⟩:=hlo;obtain⟨g1,g2,g3,g4⟩:=hge;have I:=hg.size;have s35:=t3.size;have s57:=t7.size;have hm:=hE2.hm;have E:=hE2.v1.hp;have N:=hE2.v1.hb;have G:=hE2.v2.hp;have D:=hE2.v2.hb;have J:=hY.lt;have Y:=(BH hO rfl).2;have V:=h4.lt;have Z:=h5.lt;have n1:b61≠y:=AN hO hY (by decide) rfl rfl;have n2:=h4.ne (H8 hY);have n3:=h5.ne (H8 hY);obtain⟨U,X⟩:=PP hO rfl;have n4:=h4.ne (q:=b61) ⟨U,_,X⟩;have n5:=h5.ne (q:=b61) ⟨U,_,X⟩;have M:Gr w3 W5:=(t3.mono (T:=λ_=>False) (λi hi h=>absurd hi (ξe h))).gr;obtain⟨nh,fh,a1,a2,a3⟩:=hA.sh;obtain⟨nw,fw,d1,d2,d3⟩:=hA.wd;refine⟨⟨hm,E,N,G,D,I,by show w3.heap.size<=_;omega,g1,g2,g3,g4,n1.symm,n2.symm,n3.symm,n4.symm,n5.symm,hne,⟨by omega,J⟩,⟨by show lo<=b61;omega,Y⟩,⟨by show lo<=b64;omega,V⟩,⟨by show lo<=b65;omega,Z⟩,⟨l2,by show m<_;omega⟩,⟨l3,by show p1<_;omega⟩,⟨l4,by show b1<_;omega⟩,⟨l5,by show p2<_;omega⟩,⟨l6,by show b2<_;omega⟩,λk h1 h2=>⟨by have:w2.heap.size<=k:=h1;omega,by have:k<w3.heap.size:=h2;omega⟩,λk hk=>by omega⟩,?_,λW tW=>hP.touch ((t3.mono (λi _ h=>.inr h)).trans ((t7.mono (λi hi h=>?_)).trans tW)) (λk h1 h2 h=>by rcases h with h|h;(have:k<w2.heap.size:=h;omega);(have:w3.heap.size<=k:=h;omega)),?_,⟨nh,fh,a1,λj hj=>a3 j hj hj⟩,⟨nw,fw,d1,?_,λqq=>?_⟩,?_⟩
 ·have h:=hY.touch t7 (hT _ J n2.symm n3.symm);rw[X9,Q20,RA];have hl:(AX v c L).mv.length=nb:=by rw[hnb];exact ζE
  rw[hl,<-hnb];exact h
 ·right
  show w3.heap.size<=i
  refine ξS λh'=>?_;exact hT i Ω Ω Ω h
 ·exact(((hE2.gr hg).gr M).touch t7 (hT _ Ω Ω Ω) (hT _ Ω Ω Ω) (hT _ Ω Ω Ω) (hT _ Ω Ω Ω) (hT _ Ω Ω Ω))
 ·have h1:cnt (λi=>!(AX v c L).is i) (sizes (AX v c L).L)<=sizes (AX v c L).L:=DZ _ _;have h2:nw<=sizes (AX v c L).L:=d2;omega
 ·rw[d3 qq]
  have:(AX v c L).on (λi=>decide (i<sizes L)) qq=(AX v c L).on (λi=>!(AX v c L).is i) qq:=Sl.on_congr λi hi=>by
   have O:i<sizes L:=hi;rw[LE,φ O];rfl
  rw[this]
 ·have h:=BX hO t7 (λg hg=>by cases hg;exact hT _ Y n4.symm n5.symm);have hl:(AX v c L).mv.length=nb:=by rw[hnb];exact ζE
  have hb:bls (AX v c L).mv=List.replicate nb (.bool false):=by
   show (List.replicate (nbl (sizes L) c.bk) false).map Value.bool=_
   rw[List.map_replicate,hnb]
  rw[hl,hb];exact h
structure UmO(w8 wx:World)(S5:Nat->Prop)(q:Nat)(s:Sl)(v:Vm)(q0 j pg tp:Nat):Prop where
 t:AB S5 w8 wx
 vm:∃Sj v',(∀b,Sj b->plus S5 w8 b)/\AC wx Sj q v'/\EN s v v' q0 j
 q1:∀i,i<j->(q0+i)*pg<tp
section
variable{g:Nat}{c:Cf}
theorem VBz(hV:AC w S q v)(hR:AR w r g rs)(hT:AP w)(htS:¬S 1)(hrS:¬S r)(hgS:¬S g)(hcf:GX v.pl.pg v.n c)(htr:1≠g):
  Calls prog 112 #[pP q,pP r,cfV c] w (PM w S q r g v rs c):=by
 have HV:=ι hV.cut;have HR:=ι hR;have HT:=ι hT;have Ya:=ι (ξ htS (ξ hrS (ξ hgS htr)));have Nv:=hT.lt;have hrl:=hR.lt;have hn2:=hV.ok.n2;have Ms:=hV.ok.page;have Mz:=ι hV.ok;have Vo:=ι hcf;have Ec:1<=v.n:=by have:=hcf.fr;have:=hcf.tp;have:=hcf.tn;omega
 have Vs:rs.length≠0:=λe=>hR.ne (ζv e);have Li:=hR.le;have hcb:c.lm<=v.n/\c.to<=c.lm/\c.fr<=c.tp/\c.tp<=v.n:=⟨hcf.ln,hcf.lm,hcf.tp,hcf.tn⟩;have Ui:=ι (λ(W:World) (gW:Gr w W)=>VX (hR.gr gW));have Nu:=ι (λ(W:World) (gW:Gr w W)=>ZP (hV.gr gW) hcf);have Ia:=ι (λ(W:World) (gW:Gr w W)=>YeD (c:=c) (hV.cut.gr gW) Ec (hR.gr gW) (gW.tab Nv hT) (λh=>htS h.1) hcf.st);unfold cfV at Nu Ia⊢;obtain⟨n,Uz⟩:∃n,n=rs.length:=⟨_,rfl⟩;have HN:=ι Uz;rw[<-Uz]at Vs Li Ui;have d0:((n:Int)==0)=false:=by simp;omega
 have Ne:=ι (((Gr.refl w).alloc (.cells #[.pointer (some ⟨q,0,none⟩)] 78)).alloc (.cells #[.int .i64 c.fr,.int .i64 c.tp,.int .i64 c.to,.int .i64 c.lm,.int .i64 c.bk,.int .i64 c.st,.int .i64 c.ah] 143));have Oy:=(Rec.new w 78 [pP q]).gr ((Gr.refl _).alloc (.cells #[.int .i64 c.fr,.int .i64 c.tp,.int .i64 c.to,.int .i64 c.lm,.int .i64 c.bk,.int .i64 c.st,.int .i64 c.ah] 143));have Ot:=J9 w (.cells #[.pointer (some ⟨q,0,none⟩)] 78) 143 [.int .i64 c.fr,.int .i64 c.tp,.int .i64 c.to,.int .i64 c.lm,.int .i64 c.bk,.int .i64 c.st,.int .i64 c.ah];obtain⟨W0,Zi⟩:∃W0,W0=(w.alloc (.cells #[.pointer (some ⟨q,0,none⟩)] 78)).alloc (.cells #[.int .i64 c.fr,.int .i64 c.tp,.int .i64 c.to,.int .i64 c.lm,.int .i64 c.bk,.int .i64 c.st,.int .i64 c.ah] 143):=⟨_,rfl⟩;have Up:W0.heap.size=w.heap.size+2:=by rw[Zi];simp only[γ]
 have Vh:Hid (Rec W0 w.heap.size 78 [pP q]):=⟨by rw[Zi];exact Oy⟩;have Yg:Hid (Rec W0 (w.heap.size+1) 143 [.int .i64 c.fr,.int .i64 c.tp,.int .i64 c.to,.int .i64 c.lm,.int .i64 c.bk,.int .i64 c.st,.int .i64 c.ah]):=⟨by rw[Zi];exact Ot⟩;have Vv:Hid (Gr w W0):=⟨by rw[Zi];exact Ne.o⟩;have HS0:=ι Up;clear hV hR hT htS hrS hgS htr hcf Uz Oy Ot Ne Up;refine(π (n:=5)).1 ?_;refine callsIn_of_wp_marks func112 rfl trivial ?_ rfl;simp only[ntmps112,ζS,ζz,ζ6,Nat.reduceAdd,Nat.reduceSub,ζJ,ζI,ζX,ζO,ζV,ζq];gi_upto_region 1 with(fail);rw[<-Zi];clear Zi;have z3:=Vh.o.cc 0;have Jj:=Yg.o.cc 0;have Jr:=Yg.o.cc 1;have Zg:=Yg.o.cc 2;have Jg:=Yg.o.cc 3;have Zl:=Yg.o.cc 4;have Jl:=Yg.o.cc 5;have Ji:=Yg.o.cc 6;have Jk:=Vh.o.lt;have Zf:=Yg.o.lt
 gi_upto_region 6 with(first
  | (refine⟨trivial,?_⟩;gi_at_call 155;refine(π.2 (Ui.o _ Vv.o)).mono ?_;rintro e w1 ⟨rfl,rfl⟩)
  | (refine⟨trivial,?_⟩;gi_at_call 156;refine(π.2 (Nu.o _ Vv.o)).mono ?_;rintro e w1 ⟨rfl,Jp⟩;have Xp:=ι (Vv.o.trans Jp);have Jc:=ι (Vh.o.gr Jp);have Xo:=ι (Yg.o.gr Jp);clear Jp))
 clear z3 Jj Jr Zg Jg Zl Jl Ji Jk Zf;have z3:=Jc.o.cc 0;have Jj:=Xo.o.cc 0;have Jr:=Xo.o.cc 1;have Zg:=Xo.o.cc 2;have Jg:=Xo.o.cc 3;have Zl:=Xo.o.cc 4;have Jl:=Xo.o.cc 5;have Ji:=Xo.o.cc 6;have Jk:=Jc.o.lt;have Zf:=Xo.o.lt;have Mf:=Xp.o.size;gi_upto_region 7 with(refine⟨trivial,?_⟩;gi_at_call 157;refine(π.2 (Ia.o _ Xp.o)).mono ?_;rintro e w2 ⟨Mw,Nd,(⟨L,m,p1,b1,p2,b2,hI,rfl,hE,Ox,Mc,Nb,Zk,Jd⟩|⟨Oc,rfl⟩)⟩ <;> (have Xz:=ι Mw;have Va:=ι Nd;clear Mw Nd))
 ·clear z3 Jj Jr Zg Jg Zl Jl Ji Jk Zf;have HI:=ι hI;have HX:=ι hE;have Zu:=ι (ξ Ox (ξ Mc (ξ Nb (ξ Zk Jd))));clear hI hE Ox Mc Nb Zk Jd;have Ug:=ι (Jc.o.touch Xz.o (λh=>by have:=h.2;omega));have Yw:=ι (Xo.o.touch Xz.o (λh=>by have:=h.2;omega));have Yn:Hid (AP w2):=⟨(Xp.o.tab Nv HT.o).touch' Xz.o (λh=>Ya.o.1 h.1)⟩;have Et:=ι (Qkw HX.o Yn.o Vo.o.bk (base:=c.to) Ω);have z3:=Ug.o.cc 0;have Zg:=Yw.o.cc 2;have Zl:=Yw.o.cc 4;have Zf:=Yw.o.lt;have Ev:=Xz.o.size;gi_upto_region 10 with(refine⟨trivial,?_⟩;gi_at_call 158;refine(π.2 (Et.o)).mono ?_;rintro e w3 ⟨p,rfl,If,hP⟩;have Xr:=ι If;have Vi:=ι hP;clear If hP);clear z3 Zg Zl Zf;have Yc:=ι (Ug.o.gr Xr.o);have I:=ι (Yw.o.gr Xr.o);obtain⟨Vt,Ea,Iq,f,c0,c1,hF⟩:=Vi.o;have Ow:=ι (λ(W:World) (gW:Gr w3 W)=>VT ((gW.cell Vt 0).trans c0));have Mb:=ι (λ(W:World) (gW:Gr w3 W)=>YJ (hF.gr gW));obtain⟨N,hN⟩:∃N,N=sizes L:=⟨_,rfl⟩;have Jm:=ι hN;have hNb:N<=1048576:=by rw[hN];have:=FJ HX.o.good;omega
  rw[<-hN]at Mb;have x3:=I.o.cc 3;have x2:=I.o.cc 2;have xl:=I.o.lt;have hpl:=Vt;clear Vt Ea Iq c0 c1 hF hN;by_cases Yx:c.lm-c.to<N
  ·have d9:decide ((c.lm:Int)-(c.to:Int)<(N:Int))=true:=φ Ω;have Zc:=ι Yx;clear Yx;obtain⟨Sx,Y,HS⟩:=AA.start λW'=>W'.cell? ⟨w.heap.size+1,3,none⟩=some (.int .i64 c.lm)/\W'.cell? ⟨w.heap.size+1,2,none⟩=some (.int .i64 c.to);have y1:=AA.fact Y λ_ h=>h.1;have y2:=AA.fact Y λ_ h=>h.2;have J:=HS.o (w3.drew) (⟨x3,x2⟩);have M:Inhabited (AA Sx):=⟨⟨_,J⟩⟩;clear Y;refine F5 Sx 9 [([0,3,4,5,6,7],1),([],2)] [8] GB J ?_;refine DN ?_;gi_wp2_with((refine⟨trivial,?_⟩;gi_at_call 159;refine(π.2 (Ow.o _ (Gr.refl w3).drew)).mono ?_;rintro e w4 ⟨rfl,rfl⟩));refine⟨.inr (AA.of (HS.o _ (⟨x3,x2⟩))),?_⟩;refine DN ?_;gi_wp2_with((refine⟨trivial,?_⟩;gi_at_call 160;refine(π.2 (Mb.o _ (Gr.refl w3).drew)).mono ?_;rintro e w4 ⟨rfl,rfl⟩));refine⟨.inr (AA.of (HS.o _ (⟨x3,x2⟩))),?_⟩;refine FY ?_;clear y1 y2 J M;clear HS Sx;clear x3 x2 xl;gi_wp2;have Iy:=((HR.o.gr Xp.o).touch Xz.o (λh=>Ya.o.2.1 h.1) (λh=>Ya.o.2.2.1 h.1)).gr Xr.o;refine⟨.tuple #[.pointer none,.int .i64 21],?_,?_,.inr ⟨L,HI.o,.inl ⟨by rw[<-Jm.o];exact Zc.o,rfl,((Va.o.gr Xr.o).gr (Gr.refl w3).drew).mono (λb hb=>hb.1.1),Iy.gr (Gr.refl w3).drew⟩⟩⟩
   ·simp[results,f112,go_sem]
   ·have a1:AB (λb=>b=g\/S b) w w1:=Xp.o.touch _;have a2:=a1.trans (Xz.o.mono (λi _ h=>.inr h.1));exact a2.trans ((Xr.o.trans (Gr.refl w3).drew).touch _)
  ·have d9:decide ((c.lm:Int)-(c.to:Int)<(N:Int))=false:=ζ Ω;have Zc:=ι Yx;clear Yx;obtain⟨Sx,Y,HS⟩:=AA.start λW'=>W'.cell? ⟨w.heap.size+1,3,none⟩=some (.int .i64 c.lm)/\W'.cell? ⟨w.heap.size+1,2,none⟩=some (.int .i64 c.to);have y1:=AA.fact Y λ_ h=>h.1;have y2:=AA.fact Y λ_ h=>h.2;have J:=HS.o (w3.drew) (⟨x3,x2⟩);have M:Inhabited (AA Sx):=⟨⟨_,J⟩⟩;clear Y;refine F5 Sx 9 [([0,3,4,5,6,7],1),([],2)] [8] GB J ?_;refine DN ?_;gi_wp2_with((refine⟨trivial,?_⟩;gi_at_call 159;refine(π.2 (Ow.o _ (Gr.refl w3).drew)).mono ?_;rintro e w4 ⟨rfl,rfl⟩));refine⟨.inr (AA.of (HS.o _ (⟨x3,x2⟩))),?_⟩;refine DN ?_;gi_wp2_with((refine⟨trivial,?_⟩;gi_at_call 160;refine(π.2 (Mb.o _ (Gr.refl w3).drew)).mono ?_;rintro e w4 ⟨rfl,rfl⟩));refine⟨.inr (AA.of (HS.o _ (⟨x3,x2⟩))),?_⟩;refine FY ?_;clear y1 y2 J M;clear HS Sx;clear x3 x2 xl;gi_upto_region 12 with(fail);obtain⟨nb,Vp⟩:∃nb,nb=nbl (sizes L) c.bk:=⟨_,rfl⟩;have Il:=ι Vp
   have hnbb:nb<=1048576:=by
    have:=Vo.o.bk;have h1:=DA this;have h2:=K8 (n:=sizes L) (B:=c.bk) Ω;have h3:=Jm.o;omega
   have Zy:=ι (λ(W:World) (gW:Gr w3 W)=>V2 (Vi.o.gr gW));rw[<-Vp]at Zy;clear Vp;have HTW:Hid (∀(W:World),AB (λi=>w3.drew.heap.size<=i) w3.drew W->Gr w3 W):=⟨λW t=>(Gr.refl w3).drew.trans (t.mono (T:=λ_=>False) (λi hi h=>absurd hi (ξe h))).gr⟩;have x3:=Yc.o.cc 0;have Mt:=I.o.cc 0;have Ml:=I.o.cc 1;have Ni:=I.o.cc 2;have Nt:=I.o.cc 3;have Ig:=I.o.cc 4;have Os:=I.o.cc 5;have Oa:=I.o.cc 6;obtain⟨Sx,Y⟩:∃Sx:World->Prop,Sx=λW'=>(W'.cell? ⟨w.heap.size,0,none⟩=some (pP q)/\W'.cell? ⟨w.heap.size+1,0,none⟩=some (.int .i64 c.fr))/\(W'.cell? ⟨w.heap.size+1,1,none⟩=some (.int .i64 c.tp)/\W'.cell? ⟨w.heap.size+1,2,none⟩=some (.int .i64 c.to))/\(W'.cell? ⟨w.heap.size+1,3,none⟩=some (.int .i64 c.lm)/\W'.cell? ⟨w.heap.size+1,4,none⟩=some (.int .i64 c.bk))/\W'.cell? ⟨w.heap.size+1,5,none⟩=some (.int .i64 c.st)/\W'.cell? ⟨w.heap.size+1,6,none⟩=some (.int .i64 c.ah):=⟨_,rfl⟩;have y3:∀p':AA Sx,p'.w.cell? ⟨w.heap.size,0,none⟩=some (pP q):=λp=>(AA.get Y p).1.1;have Im:∀p':AA Sx,p'.w.cell? ⟨w.heap.size+1,0,none⟩=some (.int .i64 c.fr):=λp=>(AA.get Y p).1.2;have Ih:∀p':AA Sx,p'.w.cell? ⟨w.heap.size+1,1,none⟩=some (.int .i64 c.tp):=λp=>(AA.get Y p).2.1.1;have Ek:∀p':AA Sx,p'.w.cell? ⟨w.heap.size+1,2,none⟩=some (.int .i64 c.to):=λp=>(AA.get Y p).2.1.2;have Iz:∀p':AA Sx,p'.w.cell? ⟨w.heap.size+1,3,none⟩=some (.int .i64 c.lm):=λp=>(AA.get Y p).2.2.1.1;have Ey:∀p':AA Sx,p'.w.cell? ⟨w.heap.size+1,4,none⟩=some (.int .i64 c.bk):=λp=>(AA.get Y p).2.2.1.2;have Iu:∀p':AA Sx,p'.w.cell? ⟨w.heap.size+1,5,none⟩=some (.int .i64 c.st):=λp=>(AA.get Y p).2.2.2.1;have Lk:∀p':AA Sx,p'.w.cell? ⟨w.heap.size+1,6,none⟩=some (.int .i64 c.ah):=λp=>(AA.get Y p).2.2.2.2;have Em:=ι Y
   have Uy:Hid (∀W,Gr w3 W->∃p:AA Sx,W=p.w):=⟨λW gW=>by
    have l3:=Yc.o.lt;have l5:=I.o.lt;refine AA.of ?_;rw[Em.o]
    exact⟨⟨(gW.cell l3 0).trans x3,(gW.cell l5 0).trans Mt⟩,⟨(gW.cell l5 1).trans Ml,(gW.cell l5 2).trans Ni⟩,⟨(gW.cell l5 3).trans Nt,(gW.cell l5 4).trans Ig⟩,(gW.cell l5 5).trans Os,(gW.cell l5 6).trans Oa⟩⟩
   have Ye:Hid (∀W,AB (λi=>w3.heap.size<=i) w3 W->∃p:AA Sx,W=p.w):=⟨λW tW=>Uy.o W ((tW.mono (T:=λ_=>False) (λi hi h=>absurd hi (ξe h))).gr)⟩;have Xi:Hid (∀W,AB (λi=>w3.heap.size<=i) w3 W->Gr w3 W):=⟨λW tW=>(tW.mono (T:=λ_=>False) (λi hi h=>absurd hi (ξe h))).gr⟩;obtain⟨i0,Ez,Er,Mf,Ok⟩:=info_parts ZHF;have Eo:Hid (i0.bytes*nb<=281474976710656):=⟨by rw[Ok];omega⟩;have Ex:Hid (nb<=maxLen):=⟨by unfold maxLen;omega⟩;have Mj:Hid (nb*1<=16777216):=⟨by omega⟩;have J:Sx w3.drew:=by obtain⟨p,hp⟩:=Uy.o _ (Gr.refl w3).drew;rw[hp];exact p.h
   have M:Inhabited (AA Sx):=⟨⟨_,J⟩⟩;have Ng:Sx w3.drew.drew:=by obtain⟨p,hp⟩:=Uy.o _ ((Gr.refl w3).drew.drew);rw[hp];exact p.h
   clear Y x3 Mt Ml Ni Nt Ig Os Oa;refine VMF Sx [0,1,2,3,4,7] #[true,true,true,true,true,false,false,true,false,false,false,false,false,false,false] [(5,[]),(6,[5]),(8,[5]),(9,[]),(10,[]),(11,[6,8,9,10]),(12,[11]),(13,[]),(14,[12,13])] (OpI w3 q p m nb c) GB (by kernel_rfl) (by kernel_rfl) Ng ?_ ⟨?_,?_,?_,?_,?_,?_,?_,?_,?_,trivial⟩ ?_
   ·refine Vqh ?_;refine⟨pP q,.agg #[.int .i64 c.fr,.int .i64 c.tp,.int .i64 c.to,.int .i64 c.lm,.int .i64 c.bk,.int .i64 c.st,.int .i64 c.ah],pP p,pP m,pP p,undef,undef,pP p,undef,undef,undef,undef,undef,undef,by simp only[Act.put,ζe,ζp,ζr],?_⟩;refine⟨rfl,rfl,rfl,rfl,rfl,rfl,(λh=>by cases h),(λh=>by cases h),(λh=>by cases h),(λh=>by cases h),(λh=>by cases h),(λh=>by cases h),(λh=>by cases h),(λh=>by cases h),(λh=>by cases h),(λh=>by cases h),?_⟩;exact((Gr.refl w3).drew.drew).touch _
   ·rintro D a W ⟨Xe,Xf,Xb,Xh,Xa,Xc,Xk,G,Xm,Xl,Xn,Xg,Xd,Xj,rfl,hJ⟩ O hk hd;clear O;simp only[AF,μ,ν,Act.put,ζe,ζp,ζr];have HJ:=ι hJ;have HK:=ι hk;have HD:=ι hd;have Xq:=ι (Xi.o W hJ.t);obtain rfl:=hJ.e59;clear hJ hk hd;gi_wp2_with(refine⟨trivial,?_⟩;gi_at_call 161;refine(π.2 (Zy.o W Xq.o)).mono ?_;rintro e w4 ⟨rfl,E⟩);refine⟨Ye.o _ ?_,Xe,Xf,Xb,Xh,pP p,.int .i64 nb,Xk,G,Xm,Xl,Xn,Xg,Xd,Xj,by simp only[Act.put,ζe,ζp,ζr],?_⟩
    ·exact HJ.o.t.trans (E.touch _)
    ·have X:=HJ.o.gr E;have hk:=HK.o;have hd:=HD.o;exact⟨X.e55,X.e56,X.e57,X.e58,X.e59,X.e62,(λ_=>rfl),X.e61,X.e63,X.e64,X.e65,X.ne,X.e66,X.e67,X.e13,X.d14,X.t⟩
   ·rintro D a W ⟨Xe,Xf,Xb,Xh,Xa,Xc,Xk,G,Xm,Xl,Xn,Xg,Xd,Xj,rfl,hJ⟩ O hk hd;clear O;simp only[AF,μ,ν,Act.put,ζe,ζp,ζr];have HJ:=ι hJ;have HK:=ι hk;have HD:=ι hd;have Xq:=ι (Xi.o W hJ.t);obtain rfl:=hJ.e60 (hd 5 (by simp));clear hJ hk hd;gi_wp2_with(gi_at_make;refine V63 _ rfl _ _ 145 rfl 0 4 i0 (.bool false) 1 underlying145 Ez Er Mf .i64 .i64 nb rfl rfl Mj.o Eo.o Ex.o (ζg _) ?_;intro w4 Je Zn);have E:Gr W w4:=(JP Zn (λ_=>False) (λk e _=>by cases e)).gr;rw[show (Value.bool false).cells=#[.bool false]from rfl,J0U,ξy]at Je;have In:=ι Je;clear Je Zn;gi_wp2;refine⟨Ye.o _ ?_,Xe,Xf,Xb,Xh,Xa,.int .i64 nb,.slice (some ⟨W.heap.size,0,none⟩) nb nb,G,Xm,Xl,Xn,Xg,Xd,Xj,by simp only[Act.put,ζe,ζp,ζr],?_⟩
    ·exact HJ.o.t.trans (E.touch _)
    ·have X:=HJ.o.gr E;have hk:=HK.o;have hd:=HD.o;exact⟨X.e55,X.e56,X.e57,X.e58,X.e59,X.e62,X.e60,(λ_=>⟨W.heap.size,rfl,In.o,Xq.o.size⟩),X.e63,X.e64,X.e65,X.ne,(λd=>by have h:=(HJ.o.e66 d).1;rw[hk]at h;cases h),(λd=>by have h:=(HJ.o.e66 (HJ.o.e67 d).1).1;rw[hk]at h;cases h),X.e13,X.d14,X.t⟩
   ·rintro D a W ⟨Xe,Xf,Xb,Xh,Xa,Xc,Xk,G,Xm,Xl,Xn,Xg,Xd,Xj,rfl,hJ⟩ O hk hd;clear O;simp only[AF,μ,ν,Act.put,ζe,ζp,ζr];have HJ:=ι hJ;have HK:=ι hk;have HD:=ι hd;have Xq:=ι (Xi.o W hJ.t);obtain rfl:=hJ.e62;clear hJ hk hd;gi_wp2_with(refine⟨trivial,?_⟩;gi_at_call 161;refine(π.2 (Zy.o W Xq.o)).mono ?_;rintro e w4 ⟨rfl,E⟩);refine⟨Ye.o _ ?_,Xe,Xf,Xb,Xh,Xa,Xc,Xk,pP p,.int .i64 nb,Xl,Xn,Xg,Xd,Xj,by simp only[Act.put,ζe,ζp,ζr],?_⟩
    ·exact HJ.o.t.trans (E.touch _)
    ·have X:=HJ.o.gr E;have hk:=HK.o;have hd:=HD.o;exact⟨X.e55,X.e56,X.e57,X.e58,X.e59,X.e62,X.e60,X.e61,(λ_=>rfl),X.e64,X.e65,X.ne,(λd=>by have h:=(HJ.o.e66 d).2.1;rw[hk]at h;cases h),(λd=>by have h:=(HJ.o.e66 (HJ.o.e67 d).1).2.1;rw[hk]at h;cases h),X.e13,X.d14,X.t⟩
   ·rintro D a W ⟨Xe,Xf,Xb,Xh,Xa,Xc,Xk,G,Xm,Xl,Xn,Xg,Xd,Xj,rfl,hJ⟩ O hk hd;clear O;simp only[AF,μ,ν,Act.put,ζe,ζp,ζr];have HJ:=ι hJ;have HK:=ι hk;have HD:=ι hd;have Xq:=ι (Xi.o W hJ.t);clear hJ hk hd;refine Ya9 W rfl _ rfl ?_;gi_wp2;have E:Gr W (W.alloc (.map #[] 0)):=(Gr.refl W).alloc _;refine⟨Ye.o _ ?_,Xe,Xf,Xb,Xh,Xa,Xc,Xk,G,Xm,.map (some W.heap.size),Xn,Xg,Xd,Xj,by simp only[Act.put,ζe,ζp,ζr],?_⟩
    ·exact HJ.o.t.trans (E.touch _)
    ·have X:=HJ.o.gr E;have hk:=HK.o;have hd:=HD.o;exact⟨X.e55,X.e56,X.e57,X.e58,X.e59,X.e62,X.e60,X.e61,X.e63,(λ_=>⟨W.heap.size,rfl,BC.made W,Xq.o.size⟩),X.e65,(λ_ d e=>by obtain⟨b,h1,h2,-⟩:=HJ.o.e65 d;rw[h1]at e;have:=h2.lt;simp only[Value.map.injEq,Option.some.injEq]at e;omega),(λd=>by have h:=(HJ.o.e66 d).2.2.1;rw[hk]at h;cases h),(λd=>by have h:=(HJ.o.e66 (HJ.o.e67 d).1).2.2.1;rw[hk]at h;cases h),X.e13,X.d14,X.t⟩
   ·rintro D a W ⟨Xe,Xf,Xb,Xh,Xa,Xc,Xk,G,Xm,Xl,Xn,Xg,Xd,Xj,rfl,hJ⟩ O hk hd;clear O;simp only[AF,μ,ν,Act.put,ζe,ζp,ζr];have HJ:=ι hJ;have HK:=ι hk;have HD:=ι hd;have Xq:=ι (Xi.o W hJ.t);clear hJ hk hd;refine Ya9 W rfl _ rfl ?_;gi_wp2;have E:Gr W (W.alloc (.map #[] 0)):=(Gr.refl W).alloc _;refine⟨Ye.o _ ?_,Xe,Xf,Xb,Xh,Xa,Xc,Xk,G,Xm,Xl,.map (some W.heap.size),Xg,Xd,Xj,by simp only[Act.put,ζe,ζp,ζr],?_⟩
    ·exact HJ.o.t.trans (E.touch _)
    ·have X:=HJ.o.gr E;have hk:=HK.o;have hd:=HD.o;exact⟨X.e55,X.e56,X.e57,X.e58,X.e59,X.e62,X.e60,X.e61,X.e63,X.e64,(λ_=>⟨W.heap.size,rfl,BC.made W,Xq.o.size⟩),(λd _ e=>by obtain⟨b,h1,h2,-⟩:=HJ.o.e64 d;rw[h1]at e;have:=h2.lt;simp only[Value.map.injEq,Option.some.injEq]at e;omega),(λd=>by have h:=(HJ.o.e66 d).2.2.2.1;rw[hk]at h;cases h),(λd=>by have h:=(HJ.o.e66 (HJ.o.e67 d).1).2.2.2.1;rw[hk]at h;cases h),X.e13,X.d14,X.t⟩
   ·rintro D a W ⟨Xe,Xf,Xb,Xh,Xa,Xc,Xk,G,Xm,Xl,Xn,Xg,Xd,Xj,rfl,hJ⟩ O hk hd;clear O;simp only[AF,μ,ν,Act.put,ζe,ζp,ζr];have HJ:=ι hJ;have HK:=ι hk;have HD:=ι hd;have Xq:=ι (Xi.o W hJ.t);obtain rfl:=hJ.e56;obtain rfl:=hJ.e55;obtain rfl:=hJ.e57;obtain rfl:=hJ.e58;obtain rfl:=hJ.e63 (hd 8 (by simp));obtain⟨Yh,rfl,-,-⟩:=hJ.e61 (hd 6 (by simp));obtain⟨Z,rfl,-,-⟩:=hJ.e64 (hd 9 (by simp));obtain⟨U,rfl,-,-⟩:=hJ.e65 (hd 10 (by simp));clear hJ hk hd;gi_wp2;have E:Gr W W:=Gr.refl W;refine⟨Ye.o _ ?_,pP q,.agg #[.int .i64 c.fr,.int .i64 c.tp,.int .i64 c.to,.int .i64 c.lm,.int .i64 c.bk,.int .i64 c.st,.int .i64 c.ah],pP p,pP m,Xa,Xc,.slice (some ⟨Yh,0,none⟩) nb nb,G,.int .i64 nb,.map (some Z),.map (some U),.agg #[pP q,.int .i64 c.fr,.int .i64 c.tp,.int .i64 c.to,.int .i64 c.lm,.int .i64 c.bk,.int .i64 c.st,.int .i64 c.ah,pP p,pP m,.slice (some ⟨Yh,0,none⟩) nb nb,.int .i64 nb,.int .i64 0,.int .i64 0,.map (some Z),.map (some U)],Xd,Xj,by simp only[Act.put,ζe,ζp,ζr],?_⟩
    ·exact HJ.o.t.trans (E.touch _)
    ·have X:=HJ.o.gr E;have hk:=HK.o;have hd:=HD.o;exact⟨X.e55,X.e56,X.e57,X.e58,X.e59,X.e62,X.e60,X.e61,X.e63,X.e64,X.e65,X.ne,(λ_=>⟨hd 6 (by simp),hd 8 (by simp),hd 9 (by simp),hd 10 (by simp),rfl⟩),(λd=>by have h:=(HJ.o.e67 d).1;rw[hk]at h;cases h),X.e13,X.d14,X.t⟩
   ·rintro D a W ⟨Xe,Xf,Xb,Xh,Xa,Xc,Xk,G,Xm,Xl,Xn,Xg,Xd,Xj,rfl,hJ⟩ O hk hd;clear O;simp only[AF,μ,ν,Act.put,ζe,ζp,ζr];have HJ:=ι hJ;have HK:=ι hk;have HD:=ι hd;have Xq:=ι (Xi.o W hJ.t);obtain⟨d6,d8,Nk,Mo,rfl⟩:=hJ.e66 (hd 11 (by simp));obtain rfl:=hJ.e56;obtain rfl:=hJ.e55;obtain rfl:=hJ.e57;obtain rfl:=hJ.e58;obtain rfl:=hJ.e63 d8;obtain⟨Yh,rfl,-,-⟩:=hJ.e61 d6;obtain⟨Z,rfl,-,-⟩:=hJ.e64 Nk;obtain⟨U,rfl,-,-⟩:=hJ.e65 Mo;have Vr:=ι (Rec.new W 149 [pP q,.int .i64 c.fr,.int .i64 c.tp,.int .i64 c.to,.int .i64 c.lm,.int .i64 c.bk,.int .i64 c.st,.int .i64 c.ah,pP p,pP m,.slice (some ⟨Yh,0,none⟩) nb nb,.int .i64 nb,.int .i64 0,.int .i64 0,.map (some Z),.map (some U)]);have Zt:=ι ((Gr.refl W).alloc (.cells #[.pointer (some ⟨q,0,none⟩),.int .i64 c.fr,.int .i64 c.tp,.int .i64 c.to,.int .i64 c.lm,.int .i64 c.bk,.int .i64 c.st,.int .i64 c.ah,.pointer (some ⟨p,0,none⟩),.pointer (some ⟨m,0,none⟩),.slice (some ⟨Yh,0,none⟩) nb nb,.int .i64 nb,.int .i64 0,.int .i64 0,.map (some Z),.map (some U)] 149));clear d6 d8 Nk Mo;clear hJ hk hd;gi_wp2;refine⟨Ye.o _ ?_,pP q,.agg #[.int .i64 c.fr,.int .i64 c.tp,.int .i64 c.to,.int .i64 c.lm,.int .i64 c.bk,.int .i64 c.st,.int .i64 c.ah],pP p,pP m,Xa,Xc,.slice (some ⟨Yh,0,none⟩) nb nb,G,.int .i64 nb,.map (some Z),.map (some U),.agg #[pP q,.int .i64 c.fr,.int .i64 c.tp,.int .i64 c.to,.int .i64 c.lm,.int .i64 c.bk,.int .i64 c.st,.int .i64 c.ah,pP p,pP m,.slice (some ⟨Yh,0,none⟩) nb nb,.int .i64 nb,.int .i64 0,.int .i64 0,.map (some Z),.map (some U)],pP W.heap.size,Xj,by simp only[Act.put,ζe,ζp,ζr],?_⟩
    ·exact HJ.o.t.trans (Zt.o.touch _)
    ·have X:=HJ.o.gr Zt.o;have hk:=HK.o;have hd:=HD.o;exact⟨X.e55,X.e56,X.e57,X.e58,X.e59,X.e62,X.e60,X.e61,X.e63,X.e64,X.e65,X.ne,X.e66,(λ_=>⟨hd 11 (by simp),W.heap.size,rfl,Xq.o.size,Vr.o⟩),(λd=>by obtain⟨b,h1,h2,h3⟩:=X.e13 d;refine⟨b,h1,h2,?_⟩;cases h14:D 14 with|true=>(have:=(HJ.o.d14 h14).1;rw[hk]at this;cases this)|false=>(have e:upD D 12 14=false:=h14;rw[h14]at h3;rw[e];exact h3)),(λd=>⟨rfl,(X.d14 d).2⟩),X.t⟩
   ·rintro D a W ⟨Xe,Xf,Xb,Xh,Xa,Xc,Xk,G,Xm,Xl,Xn,Xg,Xd,Xj,rfl,hJ⟩ O hk hd;clear O;simp only[AF,μ,ν,Act.put,ζe,ζp,ζr];have HJ:=ι hJ;have HK:=ι hk;have HD:=ι hd;have Xq:=ι (Xi.o W hJ.t);have Vr:=ι (Rec.new W 81 [.pointer none]);have Zt:=ι ((Gr.refl W).alloc (.cells #[.pointer none] 81));clear hJ hk hd;gi_wp2;refine⟨Ye.o _ ?_,Xe,Xf,Xb,Xh,Xa,Xc,Xk,G,Xm,Xl,Xn,Xg,Xd,pP W.heap.size,by simp only[Act.put,ζe,ζp,ζr],?_⟩
    ·exact HJ.o.t.trans (Zt.o.touch _)
    ·have X:=HJ.o.gr Zt.o;have hk:=HK.o;have hd:=HD.o;exact⟨X.e55,X.e56,X.e57,X.e58,X.e59,X.e62,X.e60,X.e61,X.e63,X.e64,X.e65,X.ne,X.e66,X.e67,(λ_=>⟨W.heap.size,rfl,Xq.o.size,by cases h14:D 14 with|true=>(have:=(HJ.o.d14 h14).2;rw[hk]at this;cases this)|false=>(have e:upD D 13 14=false:=h14;rw[e];exact Vr.o)⟩),(λd=>⟨(X.d14 d).1,rfl⟩),X.t⟩
   ·rintro D a W ⟨Xe,Xf,Xb,Xh,Xa,Xc,Xk,G,Xm,Xl,Xn,Xg,Xd,Xj,rfl,hJ⟩ O hk hd;clear O;simp only[AF,μ,ν,Act.put,ζe,ζp,ζr];have HJ:=ι hJ;have HK:=ι hk;have HD:=ι hd;obtain⟨Yr,rfl,Ua,Yd⟩:=hJ.e13 (hd 13 (by simp));obtain⟨Ej,Jf,rfl,Mg,Me⟩:=hJ.e67 (hd 12 (by simp));have Ym:=ι Yd;rw[hk]at Yd;have q0:=Yd.cc 0;have qf:=Yd.free 0;have ql:=Yd.lt;have Un:=ι Ua;clear hJ hk hd Yd Me Ej Mg Ua;gi_wp2;have tS:AB (λi=>i=Yr) W (W.setCell ⟨Yr,0,none⟩ (.pointer (some ⟨Jf,0,none⟩))):=(AB.refl (λi=>i=Yr) W).setCell (a:=⟨Yr,0,none⟩) (λ_=>rfl) _;have Ed:=Ym.o.set 0 (pP Jf);have tT:AB (λi=>w3.heap.size<=i) w3 (W.setCell ⟨Yr,0,none⟩ (.pointer (some ⟨Jf,0,none⟩))):=HJ.o.t.trans (tS.mono (λi _ h=>by rw[h];exact Un.o));have hJ:=HJ.o;refine⟨Ye.o _ tT,Xe,Xf,Xb,Xh,Xa,Xc,Xk,G,Xm,Xl,Xn,Xg,pP Jf,pP Yr,by simp only[Act.put,ζe,ζp,ζr],?_⟩;exact⟨hJ.e55,hJ.e56,hJ.e57,hJ.e58,hJ.e59,hJ.e62,hJ.e60,(λd=>by obtain⟨b,h1,h2,h3⟩:=hJ.e61 d;exact⟨b,h1,BX h2 tS (λg' hg=>by rw[h1]at hg;cases hg;exact AN (by rw[h1]at h2;exact h2) Ym.o (by decide) rfl rfl),h3⟩),hJ.e63,(λd=>by obtain⟨b,h1,h2,h3⟩:=hJ.e64 d;exact⟨b,h1,h2.touch tS (h2.ne (H8 Ym.o)),h3⟩),(λd=>by obtain⟨b,h1,h2,h3⟩:=hJ.e65 d;exact⟨b,h1,h2.touch tS (h2.ne (H8 Ym.o)),h3⟩),hJ.ne,hJ.e66,(λd=>by obtain⟨h0,b,h1,h2,h3⟩:=hJ.e67 d;exact⟨h0,b,h1,h2,h3.touch tS (AN h3 Ym.o (by decide) rfl rfl)⟩),(λ_=>⟨Yr,rfl,Un.o,Ed⟩),(λ_=>⟨HD.o 12 (by simp),HD.o 13 (by simp)⟩),tT⟩
   ·rintro D a W ⟨Xe,Xf,Xb,Xh,Xa,Xc,Xk,G,Xm,Xl,Xn,Xg,Xd,Xj,rfl,hJ⟩ O Um;clear O;have V:∀j,j<15->D j=true:=Um;obtain⟨Yh,rfl,Uq,Jx⟩:=hJ.e61 (V 6 Ω);obtain rfl:=hJ.e60 (V 5 Ω);obtain rfl:=hJ.e63 (V 8 Ω);obtain⟨Z,rfl,Uj,Ub⟩:=hJ.e64 (V 9 Ω);obtain⟨U,rfl,Uo,Jw⟩:=hJ.e65 (V 10 Ω);obtain⟨-,-,-,-,rfl⟩:=hJ.e66 (V 11 Ω);obtain⟨-,y,rfl,Np,Nr⟩:=hJ.e67 (V 12 Ω);obtain⟨bx,rfl,Ny,Vb⟩:=hJ.e13 (V 13 Ω);rw[V 14 Ω]at Vb;obtain rfl:=hJ.e55;obtain rfl:=hJ.e56;obtain rfl:=hJ.e57;obtain rfl:=hJ.e58;obtain rfl:=hJ.e59;obtain rfl:=hJ.e62;have Ju:Z≠U:=λe=>hJ.ne (V 9 Ω) (V 10 Ω) (by rw[e]);have Jo:=ι hJ.t;have Mu:=ι Uq;have Yi:=ι Uj;have Yl:=ι Uo;have Zs:=ι Nr;have Yq:=ι Vb;have Le:=ι (ξ Jx (ξ Ub (ξ Jw (ξ Np (ξ Ny Ju)))));clear hJ Um V Uq Jx Uj Ub Uo Jw Np Nr Ny Vb Ju;refine ζA ?_;simp only[Act.put,ζe,ζp,ζr];clear y3 Im Ih Ek Iz Ey Iu Lk J M Ng;have hzW:=Jo.o.size;have HG3W:Hid (Gr w3 W):=⟨Xi.o W Jo.o⟩;have Ve:=Yq.o.cc 0;have Uw:=Yq.o.lt;gi_wp2_with(refine⟨trivial,?_⟩;gi_at_call 144;refine(π.2 (JR (some ⟨m,0,none⟩))).mono ?_;rintro e w5 ⟨rfl,rfl⟩);obtain⟨W5,Ja⟩:∃W5,W5=W.alloc (.cells #[.pointer (some ⟨m,0,none⟩)] 93):=⟨_,rfl⟩;have Xv:Gr W W5:=by rw[Ja];exact(Gr.refl W).alloc _
    have hs5:W5.heap.size=W.heap.size+1:=by rw[Ja,γ]
    have k5:W5.cell? ⟨W.heap.size,0,none⟩=some (pP m):=by rw[Ja];exact(Boxed.new W 93 (pP m)).cell
    rw[<-Ja];clear Ja Ve Uw;obtain⟨Lh,It,Iw,gy,gx,Vs⟩:=Le.o;have l64:=Yi.o.lt;have l65:=Yl.o.lt;have ly:=Zs.o.lt;have lx:=Yq.o.lt;have n64y:=Yi.o.ne (H8 Zs.o);have n65y:=Yl.o.ne (H8 Zs.o);have n64x:=Yi.o.ne (H8 Yq.o);have n65x:=Yl.o.ne (H8 Yq.o);have hml:=HX.o.hm;have hp1l:=HX.o.v1.hp;have hb1l:=HX.o.v1.hb;have hp2l:=HX.o.v2.hp;have hb2l:=HX.o.v2.hb;have hz3:=Xr.o.size;obtain⟨s,Zw⟩:∃s,s=AX v c L:=⟨_,rfl⟩;have Vk:s.L=L:=by rw[Zw];rfl
    have Us:s.pg=v.pl.pg:=by rw[Zw];rfl
    have Ma:s.n=v.n:=by rw[Zw];rfl
    have Zh:=ι (ξ Vk (ξ Us (ξ Ma Zw)));have Ou:Hid (AO s.n s.L):=⟨by rw[Ma,Vk];exact HX.o.good⟩;have Ep:=ι (Va.o.gr Xr.o);have Yt:Hid (∀A,AB (λi=>(i=Z\/i=U)\/W5.heap.size<=i) W5 A->AB (λi=>w3.heap.size<=i) w3 A):=⟨λA t=>(Jo.o.trans (Xv.touch _)).trans (t.mono (λi _ h=>by omega))⟩
    have HK:Hid (∀A,AB (λi=>(i=Z\/i=U)\/W5.heap.size<=i) W5 A->((A.cell? ⟨bx,0,none⟩=some (pP y)/\A.cell? ⟨y,14,none⟩=some (.map (some Z)))/\A.cell? ⟨y,15,none⟩=some (.map (some U))/\A.cell? ⟨w.heap.size,0,none⟩=some (pP q))):=⟨λA t=>by
     have r1:=(Yq.o.gr Xv).touch t Ω;have r2:=(Zs.o.gr Xv).touch t Ω;have g3:=Xi.o A (Yt.o A t)
     exact⟨⟨r1.cc 0,r2.cc 14⟩,r2.cc 15,(g3.cell Yc.o.lt 0).trans (Yc.o.cc 0)⟩⟩
    have Vu:Hid (∀A,AB (λi=>(i=Z\/i=U)\/W5.heap.size<=i) W5 A->AC A (AD (AD S w) w1) q v):=⟨λA t=>Ep.o.gr (Xi.o A (Yt.o A t))⟩
    have Od:Hid (∀A,AB (λi=>(i=Z\/i=U)\/W5.heap.size<=i) W5 A->Ext A m p1 b1 p2 b2 v.n L/\AP A):=⟨λA t=>by
     have g3:=Xi.o A (Yt.o A t)
     exact⟨(HX.o.gr Xr.o).gr g3,g3.tab (Xr.o.tab Yn.o.lt Yn.o).lt (Xr.o.tab Yn.o.lt Yn.o)⟩⟩
    have Es:Hid (OpA W5 W5 Z U v s 0 0):=⟨OpA.zero (Yi.o.gr Xv) (Yl.o.gr Xv)⟩;have Yp:Hid (Z<W5.heap.size/\U<W5.heap.size/\Z≠U):=⟨by omega⟩;have HZ0:Hid (sizes (L.take 0)=0):=⟨rfl⟩;have Eh:=ι k5;have hwl:w.heap.size<w3.heap.size:=Yc.o.lt;clear Zw Vk Us Ma k5
    refine LD (K:=4) (s0:=0) rfl Ω (gf:=187) (lb:=#[pP W.heap.size]) rfl trivial (enters_of func187 (by kernel_rfl) rfl)
     (OB _ W.heap.size m p1 b1 p2 b2 v.n L _) (λ_=>rfl)
     (λ(j:Nat) A=>j<=L.length/\OpA W5 A Z U v s j (sizes (L.take j))) (λ_ _=>False) (λj A B h t=>⟨h.1,h.2.win Yp.o.1 Yp.o.2.1 t⟩) (λ_ _ _ h _=>h)
     (λj A h=>⟨(Od.o A h.2.t).1,(Od.o A h.2.t).2,(h.2.t.cell Ω Ω 0).trans Eh.o,h.1⟩)
     ⟨ζg _,Es.o⟩ ?round ?done (λ_ _ _ _ h _=>h.elim)
    case round=>
     intro lp j x W6 Ol Lf Ys;dsimp only[GG];gi_wp2;refine⟨Gr.refl _,λW7 ht7 Ze=>?_⟩
     have Yb:j<L.length:=by
      rcases υ j L.length with h|h
      ·exact h
      ·unfold EH at Ys;rw[ζF h]at Ys;cases Ys
     obtain rfl:x=L[j]:=by unfold EH at Ys;rw[η Yb]at Ys;exact(Option.some.inj Ys).symm
     obtain⟨Og,Zz,-⟩:=HI.o.1.mkd.ats _ (κ Yb);obtain⟨-,-,Ld,Ee,Ix,Vd,Ij⟩:=FR Zz;have Yo:=ι Ze.2;have Vl:=(HX.o.good.sz _ (κ Yb)).2;have Xy:=ι (E3 Yb);have Nh:j<s.L.length:=by rw[Zh.o.1];exact Yb
     have Eu:=ι Nh;have No:s.L[j]=L[j]:=by simp only[Zh.o.1]
     have Za:Hid (∀t,t<L[j].2->AG s.L (sizes (L.take j)+t)=L[j].1+t/\sizes (L.take j)+t<sizes s.L):=⟨λt ht=>by
      have h1:=I9 Yb;rw[Zh.o.1]
      exact⟨YZF Yb ht,by omega⟩⟩
     obtain⟨n5,f5,Jd,Mp,Na⟩:=Ze.2.sh;have Lj:=ι Jd;have My:=ι (ξ Mp Na);have Zq:∀B,BC prog 3 B U (n5+1) (λy=>if y=((L[j].1:Nat):Int)then some (AJ (v.rdH (L[j].1:Nat)))else f5 y)->AB (λi=>i=U) W7 B->OpA W5 B Z U v s (j+1) (sizes (L.take j)):=λB hm t=>Yo.o.hdr Eu.o Yp.o.2.2 My.o.1 My.o.2 Ou.o (by rw[No];exact hm) t;rw[Vd]at Zq;have Zo:=ι Zq;have Zr:=ι (λ(W:World) (gW:Gr W7 W)=>OQ ((Vu.o W7 Yo.o.t).gr gW) ((L[j].1:Nat):Int));rw[Zz,Vd]at Zr;unfold AJ at Zr;unfold spV at Zr
     have hn5b:n5<=1048576:=by
      have h2:=FJ HX.o.good;have h4:=Y0x HX.o.good;omega
     have Nz:Hid (n5<maxLen):=⟨by unfold maxLen;omega⟩;have Zm:Hid (sizes (L.take j)+L[j].2<=1048576):=⟨by have h1:=I9 Yb;have h2:=FJ HX.o.good;omega⟩;obtain⟨sa,Uv⟩:∃sa,sa=L[j].1:=⟨_,rfl⟩;obtain⟨sz,Jq⟩:∃sz,sz=L[j].2:=⟨_,rfl⟩;obtain⟨mm,Vc⟩:∃mm,mm=sizes (L.take j):=⟨_,rfl⟩;have HSA:=ι (ξ Uv (ξ Jq Vc));rw[<-Uv]at Zr Za Zo Vl⊢;rw[<-Jq]at Za Vl Xy Zm⊢;rw[<-Vc]at Za Zo Xy Zm Yo;have Mi:Hid ((Lit.int .i64 (sa:Int)).wf=true):=⟨WalkArith.wf_i64 Ω⟩;have Mr:=ι (ξ Ol ht7.size);have HJL:=ι Yb;have hsab:sa+sz<=524288:=Ω
     clear Lf Ze Ys ht7 Uv Jq Vc Nh No Og Zz Vd Ij Jd Mp Na Zq Vl;have kk:=HK.o _ Yo.o.t;have k1:=kk.1.1;have k3:=kk.2.1;have k4:=kk.2.2;clear kk
     have Ic:Hid (∀W',Gr W7 W'->W'.cell? ⟨bx,0,none⟩=some (pP y)/\W'.cell? ⟨y,15,none⟩=some (.map (some U))/\W'.cell? ⟨w.heap.size,0,none⟩=some (pP q)):=⟨λW' gW=>by
      have h:=HK.o W' (Yo.o.t.trans (gW.touch _))
      exact⟨h.1.1,h.2⟩⟩
     gi_upto_region 16 with(fail);obtain⟨Sx,Y,HS⟩:=AA.start λW'=>W'.cell? ⟨bx,0,none⟩=some (pP y)/\W'.cell? ⟨y,15,none⟩=some (.map (some U))/\W'.cell? ⟨w.heap.size,0,none⟩=some (pP q);have y1:=AA.fact Y λ_ h=>h.1;have y2:=AA.fact Y λ_ h=>h.2.1;have y3:=AA.fact Y λ_ h=>h.2.2;have J:=HS.o (W7.drew) (Ic.o _ (Gr.refl W7).drew);have M:Inhabited (AA Sx):=⟨⟨_,J⟩⟩;clear Y;refine F5 Sx 13 [([0,1,2,3,4,5,6,7],8),([9,10,11],12)] [] (λ_=>trivial) J ?_;refine DN ?_;gi_wp2_with((refine⟨trivial,?_⟩;gi_at_call 104;refine(CallsIn.inRound lp (π.2 (Zr.o _ (Gr.refl W7).drew))).mono ?_;rintro e w8 ⟨rfl,Mn⟩;have Jb:=ι ((Gr.refl W7).drew.trans Mn);clear Mn));refine⟨.inr (AA.of (HS.o _ (Ic.o _ Jb.o))),?_⟩;refine DN ?_;gi_wp2_with((gi_at_mapUpdate;refine Y7w _ rfl _ _ _ 147 rfl 3 72 IZ underlying147 underlying3 U n5 f5 rfl (Lj.o.gr Jb.o) Nz.o (sa:Int) (.agg #[.int .i64 Ld,.int .i64 Ee,.int .i64 Ix]) rfl rfl Mi.o ?_;intro w9 Md Nj;have El:=ι Md;have Vg:=ι Nj;clear Md Nj));refine⟨.inr (AA.of (HS.o _ ((by have h:=HK.o w9 (Yo.o.t.trans ((Jb.o.touch _).trans (Vg.o.mono (λi _ h=>.inl (.inr h)))));exact⟨h.1.1,h.2⟩)))),?_⟩;refine FY ?_;clear y1 y2 y3 J M;clear HS Sx;clear k1 k3 k4;have Eg:Hid (OpA W5 w9 Z U v s (j+1) (mm+0)):=⟨Zo.o w9 El.o ((Jb.o.touch _).trans Vg.o)⟩;have Oz:Hid (AB (λi=>i=Z\/i=U) W7 w9):=⟨(Jb.o.touch _).trans (Vg.o.mono (λi _ h=>.inr h))⟩;gi_wp2
     gi_loopw [16] (λs16 wr=>∃t A:Nat,t<=sz/\Hid (A=sa+t)/\Hid (OpA W5 wr Z U v s (j+1) (mm+t))/\Hid (AB (λi=>i=Z\/i=U) W7 wr)/\s16=.int .i64 A) (λs16 _=>sa+sz-(intOf s16).toNat)
     case atStart=>exact⟨0,sa,ζg _,⟨rfl⟩,Eg,Oz,rfl⟩
     case round=>
      obtain⟨t,A,ht,Zj,HA,Nf,rfl⟩:=hrel;by_cases Xw:t<sz
      ·have Yf:=ι Xw;have Ip:(A:Int)<(sa:Int)+(sz:Int):=by have:=Zj.o;omega
       have Eq:A<=1048576:=by have:=Zj.o;omega
       obtain⟨e1,e2⟩:=Za.o t Xw;obtain⟨n4,f4,Zk,Oq,Ux⟩:=HA.o.wd;have Id:=ι (λ(W:World) (gW:Gr wr W)=>IJ ((Vu.o wr HA.o.t).gr gW));obtain⟨pg,Xt⟩:∃pg,pg=v.pl.pg:=⟨_,rfl⟩;rw[<-Xt]at Id Ms;obtain⟨Q,hQ⟩:∃Q,Q=A/pg:=⟨_,rfl⟩;have g1:((A:Int).tdiv (pg:Int))=(Q:Int):=by rw[hQ];rfl
       have g2:((A:Int)/(pg:Int))=(Q:Int):=by rw[hQ];rfl
       have Ns:(pg:Int)≠0:=Ω
       have hQb:Q<=1048576:=by rw[hQ];exact δ (ζ1 _ _) Eq
       have Uu:AG s.L (mm+t)/s.pg=Q:=by rw[e1,hQ,Zj.o,Xt,Zh.o.2.1]
       obtain⟨N1,Yk⟩:∃N1,N1=s.on (λi=>decide (i<mm+t)) Q:=⟨_,rfl⟩
       have hN1b:N1<=1048576:=by
        rw[Yk];have h1:=s.on_le (λi=>decide (i<mm+t)) Q;have h2:=FJ Ou.o;have h3:=Zh.o.2.2.1;omega
       have Vy:Hid (∀W',Gr wr W'->(Instr.lookup 146 (.map (some Z)) (.int .i64 Q) false).run prog W'=.ok (.int .i64 N1) W'):=⟨λW' gW=>by
        rw[(Zk.gr gW).look IZ underlying146 underlying3 (V5 W') (WalkArith.wf_i64 Ω),Ux Q,Yk]⟩
       have Mm:Hid (∀B,BC prog 3 B Z (n4+1) (λy=>if y=(Q:Int)then some (.int .i64 ((N1+1:Nat):Int))else f4 y)->AB (λi=>i=Z) wr B->OpA W5 B Z U v s (j+1) (mm+(t+1))):=⟨λB hmB tB=>by
        have:=HA.o.word e2 Yp.o.2.2 Oq Ux (x:=N1+1) (B:=B) (by rw[Uu,Yk]) (by rw[Uu];exact hmB) tB
        rw[<-ξO];exact this⟩
       have Io:=ι Zk;have Nn:Hid (n4<maxLen):=⟨by have:=Zm.o;unfold maxLen;omega⟩;have Of:Hid ((Lit.int .i64 (Q:Int)).wf=true):=⟨WalkArith.wf_i64 Ω⟩;have Lc:(N1:Int)+1=((N1+1:Nat):Int):=by push_cast;rfl
       obtain⟨N2,Ur⟩:∃N2,N2=N1+1:=⟨_,rfl⟩;rw[<-Ur]at Lc Mm
       have Nl:Hid (∀W',Gr wr W'->(W'.cell? ⟨bx,0,none⟩=some (pP y)/\W'.cell? ⟨y,14,none⟩=some (.map (some Z)))/\W'.cell? ⟨w.heap.size,0,none⟩=some (pP q)/\(Instr.lookup 146 (.map (some Z)) (.int .i64 Q) false).run prog W'=.ok (.int .i64 N1) W'):=⟨λW' gW=>by
        have h:=HK.o W' (HA.o.t.trans (gW.touch _))
        exact⟨h.1,h.2.2,Vy.o W' gW⟩⟩
       clear e1 e2 Zk Oq Ux Xt hQ Uu Yk Ur Xw;gi_upto_region 20 with(fail);obtain⟨Sx,Y,HS⟩:=AA.start λW'=>(W'.cell? ⟨bx,0,none⟩=some (pP y)/\W'.cell? ⟨y,14,none⟩=some (.map (some Z)))/\W'.cell? ⟨w.heap.size,0,none⟩=some (pP q)/\(Instr.lookup 146 (.map (some Z)) (.int .i64 Q) false).run prog W'=.ok (.int .i64 N1) W';have y1:=AA.fact Y λ_ h=>h.1.1;have y2:=AA.fact Y λ_ h=>h.1.2;have y3:=AA.fact Y λ_ h=>h.2.1;have y4:∀p:AA Sx,(Instr.lookup 146 (.map (some Z)) (.int .i64 Q) false).run prog p.w=.ok (.int .i64 N1) p.w:=λp=>by have h:=AA.get Y p;exact h.2.2
       have J:=HS.o (wr.drew) (Nl.o _ (Gr.refl wr).drew);have M:Inhabited (AA Sx):=⟨⟨_,J⟩⟩;clear Y;refine F5 Sx 10 [([0,1,2,3,4,5],6),([7,8,9],10)] [] (λ_=>trivial) J ?_;refine DN ?_;gi_wp2_with((refine⟨trivial,?_⟩;gi_at_call 138;refine(CallsIn.inRound lp (π.2 (Id.o _ (Gr.refl wr).drew))).mono ?_;rintro e w8 ⟨rfl,rfl⟩));refine⟨.inr (AA.of (HS.o _ (Nl.o _ (Gr.refl wr).drew))),?_⟩;refine DN ?_;gi_wp2_with((gi_at_mapUpdate;refine Y7w _ rfl _ _ _ 146 rfl 3 3 IZ underlying146 underlying3 Z n4 f4 rfl (Io.o.gr (Gr.refl wr).drew) Nn.o (Q:Int) (.int .i64 N2) rfl rfl Of.o ?_;intro Jh Uc Js;have Nx:=ι Uc;have Oe:=ι Js;clear Uc Js));refine⟨.inl trivial,?_⟩;refine FY ?_;clear y1 y2 y3 y4 J M;clear HS Sx;have Yv:Hid (AB (λi=>i=Z) wr Jh):=⟨((Gr.refl wr).drew.touch _).trans Oe.o⟩;gi_wp2;go_roundw
       case rel=>exact⟨t+1,A+1,Yf.o,⟨by have:=Zj.o;omega⟩,⟨Mm.o Jh Nx.o Yv.o⟩,⟨Nf.o.trans (Yv.o.mono (λi _ h=>.inl h))⟩,by go_num⟩
       case measure=>have:=Zj.o;have:=Yf.o;simp[intOf];omega
      ·obtain rfl:t=sz:=Ω
       have Ip:¬(A:Int)<(sa:Int)+(t:Int):=by have:=Zj.o;omega
       clear Xw;gi_wp2;have Jq:=Mr.o;have l4:=Yp.o;refine⟨Nf.o.mono (λi _ h=>.inl (by rcases h with rfl|rfl <;> omega)),j+1,rfl,Yb,?_⟩;rw[Xy.o];exact HA.o
    case done=>
     rintro D j W7 hD rfl Ze hK;have Xu:=Ze.2;rw[ζ7]at Xu;have Yo:=ι Xu;have HKK:=ι (HK.o W7 Xu.t);have hz7:=Xu.t.size;have Ef:=ι Zh.o.2.2.2
     have Mh:Hid (Cyc W7 (λb=>w1.heap.size<=b/\b<W5.heap.size) y q ⟨w2.heap.size,w3.heap.size,p,m,p1,b1,p2,b2,U,Yh,nb,Z⟩ (AX v c L)):=⟨by
      have hA:=Xu;rw[Ef.o]at hA
      exact VLI HX.o Xr.o Vi.o ⟨Ev,Zu.o.1,Zu.o.2.1,Zu.o.2.2.1,Zu.o.2.2.2.1,Zu.o.2.2.2.2⟩ (Jo.o.trans (Xv.touch _)) ⟨gy,Lh,It,Iw⟩ Il.o (Zs.o.gr Xv) (CU Mu.o Xv) (Yi.o.gr Xv) (Yl.o.gr Xv) Vs hA (λi h1 h2 h3 h=>by omega) hA.t⟩
     have La:Hid (AR W7 r g rs):=⟨by
      have h1:=(HR.o.gr Xp.o).touch Xz.o (λh=>Ya.o.2.1 h.1) (λh=>Ya.o.2.2.1 h.1)
      exact(h1.gr Xr.o).gr (Xi.o W7 (Yt.o W7 Xu.t))⟩
     have Ir:=ι (OT Mz.o Vo.o HI.o (by rw[<-Jm.o];exact ξS Zc.o));have hgl:g<w1.heap.size:=Ω
     have Is:=ι (X9b (λW tW=>Mh.o.touch tW (λk hk e=>by have:=hk.1;omega)) Ir.o La.o);have hmf:∀(fn:Fn) (first cap:Array Value) (w:World),(Instr.makeFunc fn first cap).run prog w=.ok (.func fn first cap) w:=λ_ _ _ _=>rfl;have Jt:=Vu.o W7 Xu.t;have Lb:=ι Jt;have Ul:=(Yc.o.gr (Xi.o W7 (Yt.o W7 Xu.t)));have Jy:=(I.o.gr (Xi.o W7 (Yt.o W7 Xu.t)));have Zb:=(Yq.o.gr Xv).touch Xu.t Ω;have Iv:=ι (ξ Ul (ξ Jy Zb));have Ve:=Zb.cc 0;have Uw:=Zb.lt;have Om:=ι hK;have Mv:Hid (D=W5.heap.size):=⟨hD⟩;clear Xu Ze Jt Ul Jy Zb hK hD;gi_upto_region 22 with(refine⟨trivial,?_⟩;gi_at_call 135;refine(π.2 (Is.o)).mono ?_;rintro e w8 ⟨rfl,Oh,Nw⟩;have Yj:=ι Oh;have En:=ι Nw;clear Oh Nw);clear Ve Uw;obtain⟨Oi,Mq,Ib⟩:=Iv.o;have Jv:=ι (Oi.touch Yj.o (λh=>by omega));have Uh:=ι (Mq.touch Yj.o (λh=>by omega));have Ei:=ι (Ib.touch Yj.o (λh=>by omega));have Mx:=ι (Mh.o.touch Yj.o (λk hk e=>by have:=hk.1;omega));have hz8:=Yj.o.size;obtain⟨S5,Vq⟩:∃S5,S5=AD (AD S w) w1:=⟨_,rfl⟩;have Xx:Hid (∀b,S5 b->S b/\b<w.heap.size):=⟨λb hb=>by rw[Vq]at hb;exact hb.1⟩;have Or:AC w8 S5 q v:=by rw[Vq];exact Lb.o.touch Yj.o (λb hb _ h=>Ya.o.2.2.1 (h▸hb.1.1))
     have Nm:=ι Or
     have Jn:Hid (w8.heap[D]?=some (.deferred (some []))/\D<w8.heap.size/\W5.heap.size<=D):=⟨by
      have h1:=(ζn.1 Om.o).1;have h2:=Mv.o
      exact⟨(Yj.o.block D h1 Ω).trans Om.o,by omega,by omega⟩⟩
     have Oj:=ι (λ(W:World) (g':Gr w8 W)=>IJ (Nm.o.gr g'));obtain⟨pg,Xt⟩:∃pg,pg=v.pl.pg:=⟨_,rfl⟩;have Yu:=ι Xt;rw[<-Xt]at Oj Ms;obtain⟨q0,Zx⟩:∃q0,q0=c.fr/pg:=⟨_,rfl⟩;have Ut:q0*pg<=c.fr:=by rw[Zx];exact ζj c.fr pg
     have Vj:=ι Zx;have Ii:=ι Ut;have g1:((c.fr:Int).tdiv (pg:Int))=(q0:Int):=by rw[Zx];rfl
     have g2:((c.fr:Int)/(pg:Int))=(q0:Int):=by rw[Zx];rfl
     have Ns:(pg:Int)≠0:=Ω
     have hq0n:q0<=524288:=by have:=ζ1 c.fr pg;omega
     have Nq:Hid (UmO w8 w8.drew S5 q (AX v c L) v q0 0 pg c.tp):=⟨(Gr.refl w8).drew.touch _,⟨S5,v,λb h=>.inl h,Nm.o.gr (Gr.refl w8).drew,EN.zero Mz.o q0⟩,λi hi=>absurd hi (ζQ _)⟩;have u1:=Jv.o.cc 0;have u2:=Uh.o.cc 0;clear Oi Mq Ib Or Xt Zx Ut Vq;obtain⟨Sx,Y,HS⟩:=AA.start λW'=>W'.cell? ⟨w.heap.size,0,none⟩=some (pP q)/\W'.cell? ⟨w.heap.size+1,0,none⟩=some (.int .i64 c.fr);have x1:=AA.fact Y λ_ h=>h.1;have x2:=AA.fact Y λ_ h=>h.2;have J:=HS.o (w8.drew) (⟨u1,u2⟩);have M:Inhabited (AA Sx):=⟨⟨_,J⟩⟩;clear Y;refine F5 Sx 6 [([0,1,2],3)] [4,5] GB J ?_;refine DN ?_;gi_wp2_with((refine⟨trivial,?_⟩;gi_at_call 138;refine(π.2 (Oj.o _ (Gr.refl w8).drew)).mono ?_;rintro e w9 ⟨rfl,rfl⟩));refine⟨.inr (AA.of (HS.o _ (⟨u1,u2⟩))),?_⟩;refine FY ?_;clear x1 x2 J M;clear HS Sx;clear u1 u2;gi_wp2
     gi_loopw [17] (λs17 wx=>∃j:Nat,Hid (UmO w8 wx S5 q (AX v c L) v q0 j pg c.tp)/\s17=.int .i64 ((q0+j:Nat):Int)) (λs17 _=>c.tp-(intOf s17).toNat*pg)
     case atStart=>exact⟨0,Nq,rfl⟩
     case round=>
      clear Nq;obtain⟨j,HU,rfl⟩:=hrel;obtain⟨Sj,v',Oo,Vw,Vf⟩:=HU.o.vm;have Vn:=λ(W:World) (g':Gr wr W)=>IJ (Vw.gr g');rw[Vf.pg,<-Yu.o]at Vn;have Uf:=ι Vn;have Vz:=ι Vw;have Xy:=ι Oo;have Vx:=ι Vf;have Uk:=ι (Jv.o.touch HU.o.t (λh=>by have:=(Xx.o _ h).2;omega));have Ie:=ι (Uh.o.touch HU.o.t (λh=>by have:=(Xx.o _ h).2;omega));have Yz:=ι (Ei.o.touch HU.o.t (λh=>by have:=(Xx.o _ h).2;omega));have Yy:=ι (Mx.o.touch HU.o.t (λk hk h=>by have:=hk.1;have:=(Xx.o _ h).2;omega));obtain⟨qq,Zv⟩:∃qq,qq=q0+j:=⟨_,rfl⟩;obtain⟨pp,Zd⟩:∃pp,pp=qq*pg:=⟨_,rfl⟩
      have hppb:pp<=1048576:=by
       rcases ζB j with h0|h0
       ·rw[Zd,Zv,h0,ξo];have:=Ii.o;omega
       ·have:=HU.o.q1 (j-1) Ω;have e:pp=(q0+(j-1))*pg+pg:=by rw[Zd,Zv,show q0+j=(q0+(j-1))+1 by omega,ξf,ξx]
        omega
      have hqb:qq<=pp:=by rw[Zd];exact ξY _ Ω
      have hmul:((qq:Int)*(pg:Int))=(pp:Int):=by rw[Zd];push_cast;rfl
      have Xs:=ι (ξ Zv Zd);rw[<-Zv];have u1:=Uk.o.cc 0;have u2:=Ie.o.cc 1;clear Vn Vw Oo Zv Zd Vf;by_cases Xw:pp<c.tp
      ·have e1:decide ((pp:Int)<(c.tp:Int))=true:=φ Ω;have e2:decide (pp<c.tp)=true:=φ Xw;have Yf:=ι Xw;have Zp:=SJ (Yy.o.gr (Gr.refl wr).drew).wd (q:=qq) Ω;have On:(AX v c L).on (λi=>!(AX v c L).is i) qq=(AX v c L).on (λ_=>true) qq:=Sl.on_congr λi _=>by rw[LE];rfl
       rw[On]at Zp;obtain⟨N1,Yk⟩:∃N1,N1=(AX v c L).on (λ_=>true) qq:=⟨_,rfl⟩;have Nc:=ι Yk;rw[<-Yk]at Zp;have Vy:=ι Zp;clear Xw Yk On Zp;gi_upto_region 23 with(fail);obtain⟨Sx,Y,HS⟩:=AA.start λW'=>W'.cell? ⟨w.heap.size,0,none⟩=some (pP q)/\W'.cell? ⟨w.heap.size+1,1,none⟩=some (.int .i64 c.tp);have x1:=AA.fact Y λ_ h=>h.1;have x2:=AA.fact Y λ_ h=>h.2;have J:=HS.o (wr.drew) (⟨u1,u2⟩);have M:Inhabited (AA Sx):=⟨⟨_,J⟩⟩;clear Y;refine F5 Sx 7 [([0,1,4,5],2)] [3,6] GB J ?_;refine DN ?_;gi_wp2_with((refine⟨trivial,?_⟩;gi_at_call 138;refine(π.2 (Uf.o _ (Gr.refl wr).drew)).mono ?_;rintro e Jh ⟨rfl,rfl⟩));refine⟨.inr (AA.of (HS.o _ (⟨u1,u2⟩))),?_⟩;refine FY ?_;clear x1 x2 J M;clear HS Sx;have z1:=(Yz.o.gr (Gr.refl wr).drew).cell (j:=0) rfl;have zl:=(Yz.o.gr (Gr.refl wr).drew).lt;have z2:=(Yy.o.gr (Gr.refl wr).drew).rc.cell (j:=14) rfl;have zl2:=(Yy.o.gr (Gr.refl wr).drew).rc.lt;have Zp:=Vy.o;have u3:=Uk.o.lt;have Ew:=(Gr.refl wr).drew.size;have Ik:=HU.o.t.size;by_cases hz:N1=0
       ·have d0:((N1:Int)==0)=true:=by simp[hz]
        have HZ:=ι hz;clear hz;gi_wp2_with(refine⟨trivial,?_⟩;gi_at_call 139;refine(π.2 (MP (Vz.o.gr (Gr.refl wr).drew) (qq:Int))).mono ?_;rintro e w11 ⟨rfl,Ud,Jz⟩;have Yv:=ι Ud;have Op:=ι Jz;clear Ud Jz);go_roundw
        case rel=>
         refine⟨j+1,⟨⟨?_,⟨plus Sj wr.drew,_,λb hb=>?_,Op.o,?_⟩,λi hi=>?_⟩⟩,?_⟩
         ·exact(HU.o.t.trans ((Gr.refl wr).drew.touch _)).trans' Yv.o (λb hb h=>(Xy.o b h).elim id (λh=>by omega))
         ·rcases hb with h|h
          ·exact Xy.o b h
          ·right;omega
         ·have:=Vx.o.drop (j:=j) (by rw[<-Xs.o.1,<-Nc.o];exact HZ.o);rw[<-Xs.o.1]at this;exact this
         ·rcases υ i j with h|h
          ·exact HU.o.q1 i h
          ·obtain rfl:i=j:=Ω
           rw[<-Xs.o.1,<-Xs.o.2];exact Yf.o
         ·rw[show q0+(j+1)=qq+1 by rw[Xs.o.1];omega]
          go_num
        case measure=>
         have h1:=Yf.o;have h2:=Xs.o.2;simp only[intOf];rw[show ((qq:Int)+1).toNat=qq+1 by omega,χ,ξf,ξx,<-h2];omega
       ·have d0:((N1:Int)==0)=false:=by simp;exact hz
        have HZ:=ι hz;clear hz;gi_wp2;go_roundw
        case rel=>
         refine⟨j+1,⟨⟨HU.o.t.trans ((Gr.refl wr).drew.touch _),⟨Sj,_,Xy.o,Vz.o.gr (Gr.refl wr).drew,?_⟩,λi hi=>?_⟩⟩,?_⟩
         ·exact Vx.o.keep (j:=j) (by rw[<-Xs.o.1,<-Nc.o];exact HZ.o)
         ·rcases υ i j with h|h
          ·exact HU.o.q1 i h
          ·obtain rfl:i=j:=Ω
           rw[<-Xs.o.1,<-Xs.o.2];exact Yf.o
         ·rw[show q0+(j+1)=qq+1 by rw[Xs.o.1];omega]
          go_num
        case measure=>
         have h1:=Yf.o;have h2:=Xs.o.2;simp only[intOf];rw[show ((qq:Int)+1).toNat=qq+1 by omega,χ,ξf,ξx,<-h2];omega
      ·have e1:decide ((pp:Int)<(c.tp:Int))=false:=ζ Ω;have e2:decide (pp<c.tp)=false:=ζ Xw;have Yf:=ι Xw;clear Xw;gi_upto_region 23 with(fail);obtain⟨Sx,Y,HS⟩:=AA.start λW'=>W'.cell? ⟨w.heap.size,0,none⟩=some (pP q)/\W'.cell? ⟨w.heap.size+1,1,none⟩=some (.int .i64 c.tp);have x1:=AA.fact Y λ_ h=>h.1;have x2:=AA.fact Y λ_ h=>h.2;have J:=HS.o (wr.drew) (⟨u1,u2⟩);have M:Inhabited (AA Sx):=⟨⟨_,J⟩⟩;clear Y;refine F5 Sx 7 [([0,1,4,5],2)] [3,6] GB J ?_;refine DN ?_;gi_wp2_with((refine⟨trivial,?_⟩;gi_at_call 138;refine(π.2 (Uf.o _ (Gr.refl wr).drew)).mono ?_;rintro e Jh ⟨rfl,rfl⟩));refine⟨.inr (AA.of (HS.o _ (⟨u1,u2⟩))),?_⟩;refine FY ?_;clear x1 x2 J M;clear HS Sx;clear u1 u2;have z1:=(Yz.o.gr (Gr.refl wr).drew).cell (j:=0) rfl;have zl:=(Yz.o.gr (Gr.refl wr).drew).lt;gi_wp2;have Ik:=HU.o.t.size;have Ew:=(Gr.refl wr).drew.size;have Ue:¬S5 D:=λh=>by have:=(Xx.o _ h).2;have:=Jn.o.2.2;omega
       have Eb:wr.drew.heap[D]?=some (.deferred (some [])):=by
        have h2:=Jn.o.2.1;rw[(Gr.refl wr).drew.block Ω,HU.o.t.block D h2 Ue];exact Jn.o.1
       refine⟨by simp,.inl ⟨_,_,rfl,run_takeDeferred Eb,?_⟩⟩;have tt:=DO wr.drew D (.deferred none);have hD0:=Mv.o;refine⟨.tuple #[pP y,.int .i64 0],?_,?_,.inr ⟨L,HI.o,.inr ⟨by have h1:=Zc.o;have h2:=Jm.o;omega,y,_,_,Sj,v',j,rfl,(Yy.o.gr (Gr.refl wr).drew).touch tt (λk hk e=>by have:=hk.2;omega),(Vz.o.gr (Gr.refl wr).drew).touch tt (λb hb _ h=>?_),λb hb=>?_,λb hb=>⟨?_,λh=>?_⟩,?_,?_,?_,?_⟩⟩⟩
       ·simp[results,f112,go_sem]
       ·have a1:AB (λb=>b=g\/S b) w w1:=Xp.o.touch _;have a2:=a1.trans (Xz.o.mono (λi _ h=>.inr h.1));have a3:=a2.trans ((Xr.o.trans (Xi.o W7 (Yt.o W7 Yo.o.t))).touch _);have a4:=a3.trans (Yj.o.mono (λi _ h=>.inl h));have a5:=a4.trans (HU.o.t.mono (λi _ h=>.inr (Xx.o i h).1));exact(a5.trans ((Gr.refl wr).drew.touch _)).trans' tt (λb hb h=>by omega)
       ·rcases Xy.o b hb with h'|h'
        ·exact Ue (h▸h')
        ·have:=Jn.o.2.1;omega
       ·rcases Xy.o b hb with h'|h'
        ·exact .inl (Xx.o b h').1
        ·right;omega
       ·have:=hb.1;omega
       ·rcases Xy.o b h with h'|h'
        ·have:=(Xx.o b h').2;have:=hb.1;omega
        ·have:=hb.2;omega
       ·rw[<-Yu.o,<-Vj.o];exact Vx.o
       ·rw[<-Yu.o,<-Vj.o,<-Xs.o.1,<-Xs.o.2];have:=Yf.o;omega
       ·intro i hi;rw[<-Yu.o,<-Vj.o];exact HU.o.q1 i hi
       ·exact((En.o.touch HU.o.t (λh=>Ya.o.2.1 (Xx.o r h).1) (λh=>Ya.o.2.2.1 (Xx.o g h).1)).gr (Gr.refl wr).drew).touch tt (λh=>by omega) (λh=>by omega)
 ·clear z3 Jj Jr Zg Jg Zl Jl Ji Jk Zf;have Ov:=ι Oc;clear Oc;gi_wp2;refine⟨.tuple #[.pointer none,.int .i64 25],?_,?_,.inl ⟨Ov.o,rfl,Va.o.mono (λb hb=>hb.1.1),(HR.o.gr Xp.o).touch Xz.o (λh=>Ya.o.2.1 h.1) (λh=>Ya.o.2.2.1 h.1)⟩⟩
  ·simp[results,f112,go_sem]
  ·have a1:AB (λb=>b=g\/S b) w w1:=Xp.o.touch _;exact a1.trans (Xz.o.mono (λi _ h=>.inr h.1))
end
end
end Go.Proofs.YtggjoonlcjjgkaaGreatDoor
