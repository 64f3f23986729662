/- Part 11 of what QueueNobody leans on: my own lemmas, merged by shake.py. -/
import Derived.Test.YtggjoonlcjjgkaaGreatDoorQueueNobodyJ
namespace Go.Proofs.YtggjoonlcjjgkaaGreatDoor
open _root_.Go.Proofs.Tryz
set_option maxHeartbeats 12800000
set_option maxRecDepth 100000
open Go.RowKit Go.Shelf Word
variable{g g':Gph}{c:HCf}{s s':HSt}{a kd:Int}{f:Int->Option Value}{rs:List Int}{L:List Ob}{b64 b65 base j m mm n nb p p1 p2 q r x y:Nat}{S:Nat->Prop}{u' v:Vm}{A B W5 w w' w1 w2:World}
def HSt.cut(s:HSt)(w:World):HSt:={s with X:=AE s.X w}
theorem HIn.cut(h:HIn w c g s):HIn w c g (s.cut w):=⟨h.com.sub (λ_ _ hk=>hk.1),h.mem.cut,h.img,h.gok,h.cok,h.bt,h.bs,h.sl⟩
structure DK(s s':HSt):Prop where
 lf:s'.lf<=s.lf
 cyc:s'.cyc=if s.lf≠0/\s'.lf=0 then wrap64 (s.cyc+1)else s.cyc
theorem DK.same(s:HSt):DK s s:=⟨ν _,by omega⟩
def HOp(w:World)(c:HCf)(s:HSt)(g':Gph)(w':World):Prop:=∃s',BA w c s g' s' w'/\DK s s'
theorem HOp.same(h:HIn w c g s)(hn:s.o=none↔s.lf=0)(gr:Gr w w'):HOp w c s g w':=⟨s,⟨gr.touch _,h.gr gr,rfl,λ_ h=>.inl h,hn⟩,DK.same s⟩
theorem YKV(h:HIn w c g s)(hn:s.o=none↔s.lf=0)(gr:Gr w w1)(hW:((s.cut w).sp c).W u' (s.cut w).X w1 w2)(hi:Img u' g' s.F s.base s.top)(hg:g'.Ok)(hS:g'.S=g.S):
  Calls prog 43 #[pP s.A.hp] w2 λe w3=>e=.returned (.tuple #[])/\∃s',BA w c s g' s' w3/\DK s s'/\HKp s s'/\AB (λk=>k=s.A.hp) w2 w3:=by
 refine(Zis (h.cut.gr gr) hW hi hg hS).mono ?_;rintro e w3 ⟨rfl,s',hr,hA,hl,hc,hF,hT⟩;refine⟨rfl,s',⟨(gr.touch _).trans' (hr.t.mono (λk _ hk=>hk.imp (λh=>h.1) id)) (λ_ _ h=>h),hr.i,hr.hp,λk hk=>?_,hr.o⟩,⟨hl,?_⟩,⟨hF.F,hF.base,hF.top⟩,hT⟩
 ·rcases hr.S k hk with h1|h1
  ·exact .inl (h1.imp (λh=>h.1) id)
  ·exact .inr (γ gr.size h1)
 ·rw[hc];by_cases h0:s.lf=0
  ·rw[ϑ (λhh=>hh.1 (hn.2 h0)),ϑ (λhh=>hh.1 h0)];rfl
  ·have Y:(s.cut w).o≠none:=λe=>h0 (hn.1 e);by_cases h1:s'.lf=0
   ·rw[μ ⟨Y,h1⟩,μ ⟨h0,h1⟩];rfl
   ·rw[ϑ (λhh=>h1 hh.2),ϑ (λhh=>h1 hh.2)];rfl
theorem ZWm(h:HIn w c g s)(hn:s.o=none↔s.lf=0)(gr:Gr w w1)(hW:((s.cut w).sp c).W u' (s.cut w).X w1 w2)(hi:Img u' g' s.F s.base s.top)(hg:g'.Ok)(hS:g'.S=g.S):
  Calls prog 43 #[pP s.A.hp] w2 λe w3=>e=.returned (.tuple #[])/\∃s',BA w c s g' s' w3/\DK s s'/\HKp s s':=
 (YKV h hn gr hW hi hg hS).mono λ_ _ ⟨h1,s',h2,h3,h4,_⟩=>⟨h1,s',h2,h3,h4⟩
theorem LA(h:HIn w c g s)(hn:s.o=none↔s.lf=0)(gr:Gr w w1)(hW:((s.cut w).sp c).W u' (s.cut w).X w1 w2)(hi:Img u' g' s.F s.base s.top)(hg:g'.Ok)(hS:g'.S=g.S):
  Calls prog 43 #[pP s.A.hp] w2 λe w3=>e=.returned (.tuple #[])/\HOp w c s g' w3:=
 (ZWm h hn gr hW hi hg hS).mono λ_ _ ⟨h1,s',h2,h3,_⟩=>⟨h1,s',h2,h3⟩
theorem HIn.rdP(h:HIn w c g s)(hx:g.Ro x):0<((s.F x:Nat):Int)->(s.sp c).P (s.F x:Nat):=λh0=>by
 have h1:=h.img.z;rcases hx with rfl|hx
 ·omega
 ·have h2:=h.img.lo x hx;have h3:1<=(g.ob x).size:=by unfold GOb.size;omega
  exact⟨s.F x,rfl,h2.1,by omega⟩
theorem HIn.fdP(h:HIn w c g s)(hx:g.Ro x)(i:Int)(hk:kd≠0):s.u.plE (s.F x:Nat) i kd=0->(s.sp c).P ((s.F x:Nat)+1+i):=λh0=>by
 rw[h.img.plE hx i hk]at h0;obtain⟨-,n,-,-,-,e,h1,h2⟩:=h.img.inP h.gok hx hk h0;exact⟨s.F x+1+n,e,h1,h2⟩
theorem NG(h:HIn w c g s)(a:Int):(g.sl a=false->Calls prog 56 #[pP s.A.hp,.slice (some ⟨w.heap.size,0,none⟩) 1 1] (w.alloc (.cells #[.int .i64 a] 3)) λe w'=>e=.returned (.tuple #[.slice none 0 0,iI 17])/\Gr w w') ∧
  (g.sl a=true->Calls prog 56 #[pP s.A.hp,.slice (some ⟨w.heap.size,0,none⟩) 1 1] (w.alloc (.cells #[.int .i64 a] 3)) λe w'=>∃gb cp,e=.returned (.tuple #[.slice (some ⟨gb,0,none⟩) 1 cp,iI 0])/\Gr w w'/\w.heap.size<=gb/\w'.cell? ⟨gb,0,none⟩=some (iI (s.F (g.at a):Nat))):=by
 have X:=(Gr.refl w).alloc (.cells #[.int .i64 a] 3)
 have hf:=XEM (h.gr X) (b:=w.heap.size) (l:=[a]) (by simp) (λj hj=>by
  have:j=0:=by simpa using hj
  simp_all) (by simp)
 refine⟨λhs=>hf.mono ?_,λhs=>hf.mono ?_⟩
 ·rintro e w' ⟨hg,(⟨h1,-⟩|⟨-,h1⟩)⟩
  ·simp_all
  ·exact⟨h1,X.trans hg⟩
 ·rintro e w' ⟨hg,(⟨-,v,rfl,ho⟩|⟨⟨x,hx,h1⟩,-⟩)⟩
  ·obtain⟨gb,cp,rfl,h2,-,-,-⟩:=ET ho (by simp);exact⟨gb,cp,rfl,X.trans hg,γ X.size h2,BU ho (j:=0) rfl⟩
  simp_all
theorem J4u(h:HIn w c g s)(hn:s.o=none↔s.lf=0)(a i:Int):Calls prog 65 #[pP s.A.hp,iI a,iI i] w λe w'=>e=.returned (.tuple #[uU (g.fdV a i 3:Nat),iI (g.fdE a i 3)])/\HOp w c s g w':=by
 obtain⟨F0,F1⟩:=NG h a;have HN:=hn;cases hsl:g.sl a with
 | false=>
  have HF:=(F0 hsl)
  have HE:Hid (g.fdE a i 3=17/\g.fdV a i 3=0):=⟨by
   have e:g.fdE a i 3=17:=by unfold Gph.fdE;rw[hsl];rfl
   exact⟨e,by unfold Gph.fdV;rw[e];rfl⟩⟩
  generalize s.A.hp=ap at HF⊢;go_enter func65,ntmps65;go_wp2_with(go_at_call 56;refine(HF).mono ?_;rintro e w1 ⟨rfl,hg⟩;have HG:=hg);go_ret2;exact⟨BE (congrArg (λn:Nat=>uU (n:Int)) HE.o.2.symm) (BH HE.o.1.symm),HOp.same h HN HG⟩
 | true=>
  have HF:=(F1 hsl);have Y:=Gph.at_ro hsl;have U:=(λ(W:World) (gg:Gr w W)=>KV (h.cut.gr gg));have Z:=(λ(W:World) (gg:Gr w W)=>QV8 (ID ..) (h.cut.gr gg).sp (s.F (g.at a):Nat) i (h.cut.rdP Y) (h.cut.fdP Y i (by decide)));have e1:s.u.gtE (s.F (g.at a):Nat) i 3=g.fdE a i 3:=by rw[h.img.gtE h.gok Y i (by decide),Gph.fdE_er hsl]
  have e2:s.u.gtV (s.F (g.at a):Nat) i 3=g.fdV a i 3:=by rw[h.img.gtV h.gok Y i (by decide) (by decide)];unfold Gph.fdV;rw[Gph.fdE_er hsl]
  have e3:(s.cut w).u=s.u:=rfl;rw[e3,e1,e2]at Z;have B:(s.cut w).A.hp=s.A.hp:=rfl;rw[B]at U;have O:=(λ(w1 w2:World) (gr:Gr w w1) (he:((s.cut w).sp c).E s.u (s.cut w).X w1 w2)=>LA h hn gr he.toW h.img h.gok rfl);generalize g.fdV a i 3=rv at Z⊢;generalize g.fdE a i 3=re at Z⊢;skip;generalize (s.F (g.at a):Nat)=ad at HF Z;obtain⟨ap,hp⟩:∃ap,ap=s.A.hp:=⟨_,rfl⟩;rw[<-hp]at HF U O⊢;clear hn hsl F0 F1 Y e1 e2 e3 B hp;go_enter func65,ntmps65;go_upto_region 4 with(go_at_call 56;refine(HF).mono ?_;rintro e w1 ⟨gb,cp,rfl,M,I,N⟩;have J:=N;have Xb:=I;clear N I);obtain⟨Sx,D,HS⟩:=AA.start λW'=>W'.cell? ⟨gb,0,none⟩=some (iI (ad:Nat));have y0:=AA.fact D λ_ h=>h;have V:=HS.o (w1.drew) (J);have G:Inhabited (AA Sx):=⟨⟨_,V⟩⟩;clear D;refine AW Sx 12 [([0,2,3,4,5],1),([],6)] [7,8,9,10,11] (by kernel_rfl) (by kernel_rfl) V ?_;refine AH ?_
  try simp only[AC,ζ,ξ]
  repeat(go_big_quiet_step (fail))
  refine ψ ?_;go_wp2_with((go_at_call 58;refine AM (U _ M.drew) ?_));refine⟨.inr (AA.of (HS.o _ (J))),?_⟩;refine AH ?_
  try simp only[AC,ζ,ξ]
  repeat(go_big_quiet_step (fail))
  refine ψ ?_;go_wp2_with((go_at_call 106;refine(Z _ M.drew).mono ?_;rintro e w2 ⟨rfl,he⟩;have L:=he;clear he));refine⟨.inr (AA.of (HS.o _ ((L.1.cell (AT J) (λhk=>ζP _ (υ hk.2.2 Xb)) 0).trans J))),?_⟩;refine BO ?_
  try simp only[AC,ζ,ξ]
  repeat(go_big_quiet_step (fail))
  refine ψ ?_;refine ζb ?_;clear y0 V G;clear HS Sx;go_wp2_with(go_at_call 43;refine(O _ _ M.drew L).mono ?_;rintro e w3 ⟨rfl,ho⟩;have Xa:=ho;clear ho);go_ret2;exact⟨rfl,Xa⟩
theorem QNL(h:HIn w c g s)(hn:s.o=none↔s.lf=0)(a i:Int):Calls prog 64 #[pP s.A.hp,iI a,iI i] w λe w'=>e=.returned (.tuple #[.float .f64 (g.fdV a i 2),iI (g.fdE a i 2)])/\HOp w c s g w':=by
 obtain⟨F0,F1⟩:=NG h a;have HN:=hn;cases hsl:g.sl a with
 | false=>
  have HF:=(F0 hsl)
  have HE:Hid (g.fdE a i 2=17/\g.fdV a i 2=0):=⟨by
   have e:g.fdE a i 2=17:=by unfold Gph.fdE;rw[hsl];rfl
   exact⟨e,by unfold Gph.fdV;rw[e];rfl⟩⟩
  generalize s.A.hp=ap at HF⊢;clear hn hsl F0 F1;go_enter func64,ntmps64;go_wp2_with(go_at_call 56;refine(HF).mono ?_;rintro e w1 ⟨rfl,hg⟩;have HG:=hg;clear hg);go_ret2;exact⟨BE (congrArg (λn:Nat=>Value.float .f64 n) HE.o.2.symm) (BH HE.o.1.symm),HOp.same h HN HG⟩
 | true=>
  have HF:=(F1 hsl);have Y:=Gph.at_ro hsl;have U:=(λ(W:World) (gg:Gr w W)=>KV (h.cut.gr gg));have Z:=(λ(W:World) (gg:Gr w W)=>QUr (ID ..) (h.cut.gr gg).sp (s.F (g.at a):Nat) i (h.cut.rdP Y) (h.cut.fdP Y i (by decide)));have e1:s.u.gtE (s.F (g.at a):Nat) i 2=g.fdE a i 2:=by rw[h.img.gtE h.gok Y i (by decide),Gph.fdE_er hsl]
  have e2:s.u.gtV (s.F (g.at a):Nat) i 2=g.fdV a i 2:=by rw[h.img.gtV h.gok Y i (by decide) (by decide)];unfold Gph.fdV;rw[Gph.fdE_er hsl]
  have e3:(s.cut w).u=s.u:=rfl;rw[e3,e1,e2]at Z;have B:(s.cut w).A.hp=s.A.hp:=rfl;rw[B]at U;have O:=(λ(w1 w2:World) (gr:Gr w w1) (he:((s.cut w).sp c).E s.u (s.cut w).X w1 w2)=>LA h hn gr he.toW h.img h.gok rfl);generalize g.fdV a i 2=rv at Z⊢;generalize g.fdE a i 2=re at Z⊢;skip;generalize (s.F (g.at a):Nat)=ad at HF Z;obtain⟨ap,hp⟩:∃ap,ap=s.A.hp:=⟨_,rfl⟩;rw[<-hp]at HF U O⊢;clear hn hsl F0 F1 Y e1 e2 e3 B hp;go_enter func64,ntmps64;go_upto_region 4 with(go_at_call 56;refine(HF).mono ?_;rintro e w1 ⟨gb,cp,rfl,M,I,N⟩;have J:=N;have Xb:=I;clear N I);obtain⟨Sx,D,HS⟩:=AA.start λW'=>W'.cell? ⟨gb,0,none⟩=some (iI (ad:Nat));have y0:=AA.fact D λ_ h=>h;have V:=HS.o (w1.drew) (J);have G:Inhabited (AA Sx):=⟨⟨_,V⟩⟩;clear D;refine AW Sx 12 [([0,2,3,4,5],1),([],6)] [7,8,9,10,11] (by kernel_rfl) (by kernel_rfl) V ?_;refine AH ?_
  try simp only[AC,ζ,ξ]
  repeat(go_big_quiet_step (fail))
  refine ψ ?_;go_wp2_with((go_at_call 58;refine AM (U _ M.drew) ?_));refine⟨.inr (AA.of (HS.o _ (J))),?_⟩;refine AH ?_
  try simp only[AC,ζ,ξ]
  repeat(go_big_quiet_step (fail))
  refine ψ ?_;go_wp2_with((go_at_call 105;refine(Z _ M.drew).mono ?_;rintro e w2 ⟨rfl,he⟩;have L:=he;clear he));refine⟨.inr (AA.of (HS.o _ ((L.1.cell (AT J) (λhk=>ζP _ (υ hk.2.2 Xb)) 0).trans J))),?_⟩;refine BO ?_
  try simp only[AC,ζ,ξ]
  repeat(go_big_quiet_step (fail))
  refine ψ ?_;refine ζb ?_;clear y0 V G;clear HS Sx;go_wp2_with(go_at_call 43;refine(O _ _ M.drew L).mono ?_;rintro e w3 ⟨rfl,ho⟩;have Xa:=ho;clear ho);go_ret2;exact⟨rfl,Xa⟩
theorem XJ(g:Gph)(a i kd:Int)(x:Nat):(g.wrG a i kd x).S=g.S:=by unfold Gph.wrG;split <;> rfl
theorem HIn.wrI(h:HIn w c g s)(hs:g.sl a=true)(i:Int)(hk:kd≠0)(hk1:kd≠1)(x:Nat):Img (s.u.seV (s.F (g.at a):Nat) i kd x) (g.wrG a i kd x) s.F s.base s.top:=by
 have X:=Gph.at_ro hs;unfold Gph.wrG;by_cases he:g.fdE a i kd=0
 ·rw[μ he];have Y:g.erE (g.at a) i kd=0:=by rw[<-Gph.fdE_er hs];exact he
  have:=h.img.seV h.mem.ok h.gok X i hk x (λe=>absurd e hk1) (by have:=h.hi;have:=h.bt;omega) Y;rw[ϑ hk1]at this;exact this
 ·rw[ϑ he]
  have e:s.u.seV (s.F (g.at a):Nat) i kd x=s.u:=by
   unfold Vm.seV;rw[h.img.plE X i hk,<-Gph.fdE_er hs,ϑ he]
  rw[e];exact h.img
theorem HIn.wrO(h:HIn w c g s)(hs:g.sl a=true)(i:Int)(hk:kd≠0)(hk1:kd≠1)(x:Nat):(g.wrG a i kd x).Ok:=by
 have Y:=Gph.at_ro hs;unfold Gph.wrG;by_cases he:g.fdE a i kd=0
 ·rw[μ he];have X:g.erE (g.at a) i kd=0:=by rw[<-Gph.fdE_er hs];exact he
  obtain⟨hr,n,rfl,h1,h2,-⟩:=h.img.inP h.gok Y hk X;obtain⟨q1,q2⟩:=h.gok.rd hr;exact h.gok.put q1 q2 (λhn=>absurd (h2.2 Ω) hk1)
 ·rw[ϑ he];exact h.gok
theorem Vld(h:HIn w c g s)(hn:s.o=none↔s.lf=0)(a i:Int)(hx:x<18446744073709551616):Calls prog 34 #[pP s.A.hp,iI a,iI i,uU x] w λe w'=>e=.returned (iI (g.fdE a i 3))/\HOp w c s (g.wrG a i 3 x) w':=by
 obtain⟨F0,F1⟩:=NG h a;have HN:=hn;cases hsl:g.sl a with
 | false=>
  have HF:=(F0 hsl)
  have HE:Hid (g.fdE a i 3=17/\g.wrG a i 3 x=g):=⟨by
   have e:g.fdE a i 3=17:=by unfold Gph.fdE;rw[hsl];rfl
   exact⟨e,by unfold Gph.wrG;rw[e];rfl⟩⟩
  generalize s.A.hp=ap at HF⊢;clear hn hsl F0 F1 hx;go_enter func34,ntmps34;go_wp2_with(go_at_call 56;refine(HF).mono ?_;rintro e w1 ⟨rfl,hg⟩;have HG:=hg;clear hg);go_ret;exact⟨AL HE.o.1.symm,by rw[HE.o.2];exact HOp.same h HN HG⟩
 | true=>
  have HF:=(F1 hsl);have Z:=Gph.at_ro hsl;have U:=(λ(W:World) (gg:Gr w W)=>KV (h.cut.gr gg));have Y:=(λ(W:World) (gg:Gr w W)=>XXd (ID ..) (U7 ..) (h.cut.gr gg).sp (s.F (g.at a):Nat) i (h.cut.rdP Z) (h.cut.fdP Z i (by decide)) hx);have e1:s.u.gtE (s.F (g.at a):Nat) i 3=g.fdE a i 3:=by rw[h.img.gtE h.gok Z i (by decide),Gph.fdE_er hsl]
  have e3:(s.cut w).u=s.u:=rfl;rw[e3,e1]at Y;have G:(s.cut w).A.hp=s.A.hp:=rfl;rw[G]at U;have V:=(λ(w1 w2:World) (gr:Gr w w1) (he:((s.cut w).sp c).W (s.u.seV (s.F (g.at a):Nat) i 3 x) (s.cut w).X w1 w2)=>LA h hn gr he (h.wrI hsl i (by decide) (by decide) x) (h.wrO hsl i (by decide) (by decide) x) (XJ ..));generalize g.fdE a i 3=re at Y⊢;generalize s.u.seV (s.F (g.at a):Nat) i 3 x=un at Y V;generalize (s.F (g.at a):Nat)=ad at HF Y;obtain⟨ap,hp⟩:∃ap,ap=s.A.hp:=⟨_,rfl⟩;rw[<-hp]at HF U V⊢;clear hn hsl F0 F1 Z e1 e3 G hp hx;go_enter func34,ntmps34;go_upto_region 4 with(go_at_call 56;refine(HF).mono ?_;rintro e w1 ⟨gb,cp,rfl,N,I,O⟩;have J:=O;have Xa:=I;clear O I);obtain⟨Sx,L,HS⟩:=AA.start λW'=>W'.cell? ⟨gb,0,none⟩=some (iI (ad:Nat));have y0:=AA.fact L λ_ h=>h;have M:=HS.o (w1.drew) (J);have D:Inhabited (AA Sx):=⟨⟨_,M⟩⟩;clear L;refine AW Sx 9 [([0,2,3,4,5,6],1),([],7)] [8] (by kernel_rfl) (by kernel_rfl) M ?_;refine AH ?_
  try simp only[AC,ζ,ξ]
  repeat(go_big_quiet_step (fail))
  refine ψ ?_;go_wp2_with((go_at_call 58;refine AM (U _ N.drew) ?_));refine⟨.inr (AA.of (HS.o _ (J))),?_⟩;refine AH ?_
  try simp only[AC,ζ,ξ]
  repeat(go_big_quiet_step (fail))
  refine ψ ?_;go_wp2_with((go_at_call 74;refine(Y _ N.drew).mono ?_;rintro e w2 ⟨rfl,he⟩;have E:=he;clear he));refine⟨.inr (AA.of (HS.o _ ((E.1.cell (AT J) (λhk=>ζP _ (υ hk.2 Xa)) 0).trans J))),?_⟩;refine BO ?_
  try simp only[AC,ζ,ξ]
  repeat(go_big_quiet_step (fail))
  refine ψ ?_;refine ζb ?_;clear y0 M D;clear HS Sx;go_wp2_with(go_at_call 43;refine(V _ _ N.drew E).mono ?_;rintro e w3 ⟨rfl,ho⟩;have B:=ho;clear ho);go_ret;exact⟨rfl,B⟩
theorem Xe2(h:HIn w c g s)(hn:s.o=none↔s.lf=0)(a i:Int)(hx:x<18446744073709551616):Calls prog 33 #[pP s.A.hp,iI a,iI i,.float .f64 x] w λe w'=>e=.returned (iI (g.fdE a i 2))/\HOp w c s (g.wrG a i 2 x) w':=by
 obtain⟨F0,F1⟩:=NG h a;have HN:=hn;cases hsl:g.sl a with
 | false=>
  have HF:=(F0 hsl)
  have HE:Hid (g.fdE a i 2=17/\g.wrG a i 2 x=g):=⟨by
   have e:g.fdE a i 2=17:=by unfold Gph.fdE;rw[hsl];rfl
   exact⟨e,by unfold Gph.wrG;rw[e];rfl⟩⟩
  generalize s.A.hp=ap at HF⊢;clear hn hsl F0 F1 hx;go_enter func33,ntmps33;go_wp2_with(go_at_call 56;refine(HF).mono ?_;rintro e w1 ⟨rfl,hg⟩;have HG:=hg;clear hg);go_ret;exact⟨AL HE.o.1.symm,by rw[HE.o.2];exact HOp.same h HN HG⟩
 | true=>
  have HF:=(F1 hsl);have Z:=Gph.at_ro hsl;have U:=(λ(W:World) (gg:Gr w W)=>KV (h.cut.gr gg));have Y:=(λ(W:World) (gg:Gr w W)=>Ycv (ID ..) (U7 ..) (h.cut.gr gg).sp (s.F (g.at a):Nat) i (h.cut.rdP Z) (h.cut.fdP Z i (by decide)) hx);have e1:s.u.gtE (s.F (g.at a):Nat) i 2=g.fdE a i 2:=by rw[h.img.gtE h.gok Z i (by decide),Gph.fdE_er hsl]
  have e3:(s.cut w).u=s.u:=rfl;rw[e3,e1]at Y;have G:(s.cut w).A.hp=s.A.hp:=rfl;rw[G]at U;have V:=(λ(w1 w2:World) (gr:Gr w w1) (he:((s.cut w).sp c).W (s.u.seV (s.F (g.at a):Nat) i 2 x) (s.cut w).X w1 w2)=>LA h hn gr he (h.wrI hsl i (by decide) (by decide) x) (h.wrO hsl i (by decide) (by decide) x) (XJ ..));generalize g.fdE a i 2=re at Y⊢;generalize s.u.seV (s.F (g.at a):Nat) i 2 x=un at Y V;generalize (s.F (g.at a):Nat)=ad at HF Y;obtain⟨ap,hp⟩:∃ap,ap=s.A.hp:=⟨_,rfl⟩;rw[<-hp]at HF U V⊢;clear hn hsl F0 F1 Z e1 e3 G hp hx;go_enter func33,ntmps33;go_upto_region 4 with(go_at_call 56;refine(HF).mono ?_;rintro e w1 ⟨gb,cp,rfl,N,I,O⟩;have J:=O;have Xa:=I;clear O I);obtain⟨Sx,L,HS⟩:=AA.start λW'=>W'.cell? ⟨gb,0,none⟩=some (iI (ad:Nat));have y0:=AA.fact L λ_ h=>h;have M:=HS.o (w1.drew) (J);have D:Inhabited (AA Sx):=⟨⟨_,M⟩⟩;clear L;refine AW Sx 9 [([0,2,3,4,5,6],1),([],7)] [8] (by kernel_rfl) (by kernel_rfl) M ?_;refine AH ?_
  try simp only[AC,ζ,ξ]
  repeat(go_big_quiet_step (fail))
  refine ψ ?_;go_wp2_with((go_at_call 58;refine AM (U _ N.drew) ?_));refine⟨.inr (AA.of (HS.o _ (J))),?_⟩;refine AH ?_
  try simp only[AC,ζ,ξ]
  repeat(go_big_quiet_step (fail))
  refine ψ ?_;go_wp2_with((go_at_call 73;refine(Y _ N.drew).mono ?_;rintro e w2 ⟨rfl,he⟩;have E:=he;clear he));refine⟨.inr (AA.of (HS.o _ ((E.1.cell (AT J) (λhk=>ζP _ (υ hk.2 Xa)) 0).trans J))),?_⟩;refine BO ?_
  try simp only[AC,ζ,ξ]
  repeat(go_big_quiet_step (fail))
  refine ψ ?_;refine ζb ?_;clear y0 M D;clear HS Sx;go_wp2_with(go_at_call 43;refine(V _ _ N.drew E).mono ?_;rintro e w3 ⟨rfl,ho⟩;have B:=ho;clear ho);go_ret;exact⟨rfl,B⟩
theorem VXS(h:HIn w c g s)(a b:Int):((g.sl a&&g.sl b)=false->Calls prog 56 #[pP s.A.hp,.slice (some ⟨w.heap.size,0,none⟩) 2 2] (w.alloc (.cells #[.int .i64 a,.int .i64 b] 3)) λe w'=>e=.returned (.tuple #[.slice none 0 0,iI 17])/\Gr w w') ∧
  ((g.sl a&&g.sl b)=true->Calls prog 56 #[pP s.A.hp,.slice (some ⟨w.heap.size,0,none⟩) 2 2] (w.alloc (.cells #[.int .i64 a,.int .i64 b] 3)) λe w'=>∃gb cp,e=.returned (.tuple #[.slice (some ⟨gb,0,none⟩) 2 cp,iI 0])/\Gr w w'/\w.heap.size<=gb/\w'.cell? ⟨gb,0,none⟩=some (iI (s.F (g.at a):Nat))/\w'.cell? ⟨gb,1,none⟩=some (iI (s.F (g.at b):Nat))):=by
 have X:=(Gr.refl w).alloc (.cells #[.int .i64 a,.int .i64 b] 3);have hr:=Rec.new w 3 [iI a,iI b]
 have hf:=XEM (h.gr X) (b:=w.heap.size) (l:=[a,b]) (by simp) (λj hj=>by
  have:j=0\/j=1:=by have:j<2:=hj;omega
  rcases this with rfl|rfl
  ·exact hr.cc 0
  simp_all) (by simp)
 refine⟨λhs=>hf.mono ?_,λhs=>hf.mono ?_⟩
 ·rintro e w' ⟨hg,(⟨h1,-⟩|⟨-,h1⟩)⟩
  ·simp_all
  ·exact⟨h1,X.trans hg⟩
 ·rintro e w' ⟨hg,(⟨-,v,rfl,ho⟩|⟨⟨x,hx,h1⟩,-⟩)⟩
  ·obtain⟨gb,cp,rfl,h2,-,-,-⟩:=ET ho (by simp);exact⟨gb,cp,rfl,X.trans hg,γ X.size h2,BU ho (j:=0) rfl,BU ho (j:=1) rfl⟩
  grind
theorem Gph.Ro.le(ho:g.Ok)(hy:g.Ro y):y<=g.L.length:=by
 rcases hy with rfl|hy
 ·omega
 ·exact(ho.rd hy).2
theorem XM(h:HIn w c g s)(ha:g.sl a=true)(hy:g.Ro y):Calls prog 55 #[pP s.A.r,iI a,iI (s.F y:Nat)] w λe w'=>e=.returned (iI 0)/\AB (λk=>k=s.A.g) w w'/\HIn w' c (g.setSl a y) s:=by
 obtain⟨n,rfl,h1,h2⟩:=L1 ha;refine(Z0 h.com.rt (i:=n) (by rw[s.len];exact h1) (ξ8 _)).mono ?_;rintro e w' ⟨rfl,t,hr⟩
 have X:s.rs (g.setSl n y)=(s.rs g).set n (s.F y:Nat):=by
  unfold HSt.rs Gph.setSl
  simp_all
 refine⟨rfl,t,?_,h.mem.touch t (λk hk e=>⟨λhx=>h.com.x.2.2.1 (by simp_all),λe2=>h.com.n3.2.1 Ω⟩) (λ_ h=>h),h.img.slot hy,h.gok.slot (hy.le h.gok),h.cok,h.bt,h.bs,?_⟩
 ·rw[X];exact h.com.root t hr
 ·show (g.S.set _ _).length=c.sl
  rw[η];exact h.sl
theorem HIn.rcell(h:HIn w c g s):w.cell? ⟨s.A.hp,9,none⟩=some (pP s.A.r):=h.com.row.cc 9
theorem BA.slot(h:BA w c s g s' w')(t:AB (λk=>k=s'.A.g) w' w2)(hi:HIn w2 c g' s'):BA w c s g' s' w2:=
 ⟨h.t.trans' t (λk hk e=>by
  have:=h.S k (.inr (.inr (.inl e)));rcases this with h1|h1
  ·exact h1
  ·omega),hi,h.hp,h.S,h.o⟩
theorem V9V(h:HIn w c g s)(hn:s.o=none↔s.lf=0)(a b i:Int):Calls prog 25 #[pP s.A.hp,iI a,iI b,iI i] w λe w'=>e=.returned (iI (g.loE a b i))/\HOp w c s (g.loG a b i) w':=by
 obtain⟨F0,F1⟩:=VXS h a b;have H:=h;have HN:=hn;cases hsl:(g.sl a&&g.sl b)with
 | false=>
  have HF:=(F0 hsl)
  have HE:Hid (g.loE a b i=17/\g.loG a b i=g):=⟨by
   have e:g.loE a b i=17:=by unfold Gph.loE Gph.two;rw[hsl];rfl
   exact⟨e,by unfold Gph.loG;rw[e];rfl⟩⟩
  generalize s.A.hp=ap at HF⊢;clear h hn hsl F0 F1;go_enter func25,ntmps25;go_wp2_with(go_at_call 56;refine(HF).mono ?_;rintro e w1 ⟨rfl,hg⟩;have HG:=hg;clear hg);go_ret;exact⟨AL HE.o.1.symm,by rw[HE.o.2];exact HOp.same H HN HG⟩
 | true=>
  have HF:=(F1 hsl);have hE:g.loE a b i=g.fdE b i 1:=by unfold Gph.loE Gph.two;rw[μ hsl]
  have hG:g.loG a b i=if g.fdE b i 1=0 then g.setSl a (g.fdV b i 1)else g:=by unfold Gph.loG;rw[hE]
  rw[hE,hG];rw[ζe]at hsl;have Z:=Gph.at_ro hsl.2;have M:=(λ(W:World) (gg:Gr w W)=>KV (h.cut.gr gg));have Y:=(λ(W:World) (gg:Gr w W)=>WS (ID ..) (h.cut.gr gg).sp (s.F (g.at b):Nat) i (h.cut.rdP Z) (h.cut.fdP Z i (by decide)));obtain⟨q1,q2⟩:=h.img.ptE h.gok Z i;have e1:s.u.ptE (s.F (g.at b):Nat) i=g.fdE b i 1:=by rw[q1,Gph.fdE_er hsl.2]
  have e3:(s.cut w).u=s.u:=rfl;rw[e3,e1]at Y;have Xa:(s.cut w).A.hp=s.A.hp:=rfl;rw[Xa]at M;have O:=(λ(w1 w2:World) (gr:Gr w w1) (he:((s.cut w).sp c).E s.u (s.cut w).X w1 w2)=>ZWm h hn gr he.toW h.img h.gok rfl)
  have HQ:=ι (λ(hz:g.fdE b i 1=0)=>(by
   have h0:g.erE (g.at b) i 1=0:=by rw[<-Gph.fdE_er hsl.2];exact hz
   have:=q2 h0;have e:g.fdV b i 1=(g.ob (g.at b)).w.getD i.toNat 0:=by unfold Gph.fdV;rw[μ hz]
   rw[<-e]at this
   exact this:s.u.ptV (s.F (g.at b):Nat) i=s.F (g.fdV b i 1)/\g.Ro (g.fdV b i 1)))
  have HA:=ι hsl.1;generalize s.u.ptV (s.F (g.at b):Nat) i=rv at Y HQ;generalize g.fdV b i 1=y at HQ⊢;generalize g.fdE b i 1=re at Y HQ⊢;generalize (s.F (g.at b):Nat)=ad at HF Y;generalize (s.F (g.at a):Nat)=ad2 at HF;obtain⟨ap,hp⟩:∃ap,ap=s.A.hp:=⟨_,rfl⟩;rw[<-hp]at HF M O⊢;have HP:=ι hp;obtain⟨gx,I⟩:∃gx,gx=if re=0 then g.setSl a y else g:=⟨_,rfl⟩
  rw[<-I];have G:=ι I;clear h hn hsl F0 F1 Z e1 e3 Xa hp hE hG q1 q2 I;go_enter func25,ntmps25;go_upto_region 4 with(go_at_call 56;refine(HF).mono ?_;rintro e w1 ⟨gb,cp,rfl,Xc,L,-,Xd⟩;have J:=ι Xc;have U:=ι Xd;have Xh:=ι L;clear Xc Xd L);obtain⟨Sx,Xe,HS⟩:=AA.start λW'=>W'.cell? ⟨gb,1,none⟩=some (iI (ad:Nat));have y0:=AA.fact Xe λ_ h=>h;have N:=HS.o (w1.drew) (U.o);have B:Inhabited (AA Sx):=⟨⟨_,N⟩⟩;clear Xe;refine AW Sx 12 [([0,2,3,4,5],1),([],6)] [7,8,9,10,11] (by kernel_rfl) (by kernel_rfl) N ?_;refine AH ?_
  try simp only[AC,ζ,ξ]
  repeat(go_big_quiet_step (fail))
  refine ψ ?_;go_wp2_with((go_at_call 58;refine AM (M _ J.o.drew) ?_));refine⟨.inr (AA.of (HS.o _ (U.o))),?_⟩;refine AH ?_
  try simp only[AC,ζ,ξ]
  repeat(go_big_quiet_step (fail))
  refine ψ ?_;go_wp2_with((go_at_call 57;refine(Y _ J.o.drew).mono ?_;rintro e w2 ⟨rfl,he⟩;have V:=ι he;clear he));refine⟨.inr (AA.of (HS.o _ ((V.o.1.cell (AT U.o) (λhk=>ζP _ (υ hk.2.2 Xh.o)) 1).trans U.o))),?_⟩;refine BO ?_
  try simp only[AC,ζ,ξ]
  repeat(go_big_quiet_step (fail))
  refine ψ ?_;refine ζb ?_;clear y0 N B;clear HS Sx;by_cases hz:re=0
  ·subst hz;obtain⟨z1,z2⟩:=HQ.o rfl;have Xg:=ι z2;subst z1;clear z2;go_upto_region 8 with(go_at_call 43;refine(O _ _ J.o.drew V.o).mono ?_;rintro e w3 ⟨rfl,s',hr,hs,hF⟩;have HR:=ι (θ hr (θ hs hF));clear hr hs hF);have y9:=HR.o.1.i.rcell;rw[HR.o.1.hp,<-HP.o]at y9;have Xf:=ι (XM HR.o.1.i HA.o Xg.o);rw[HR.o.2.2.F]at Xf;go_wp2_with(go_at_call 55;refine(Xf.o).mono ?_;rintro e w4 ⟨rfl,t4,h4⟩;have Xb:=ι (θ t4 h4);clear t4 h4);go_ret;rw[show gx=g.setSl a y from by have:=G.o;simpa using this];exact⟨rfl,s',HR.o.1.slot Xb.o.1 Xb.o.2,HR.o.2.1⟩
  ·have d1:(re==0)=false:=by simpa using hz
   have D:=ι hz;go_wp2_with(go_at_call 43;refine(O _ _ J.o.drew V.o).mono ?_;rintro e w3 ⟨rfl,s',hr,hs,hF⟩;have HR:=ι (θ hr (θ hs hF));clear hr hs hF);go_ret;rw[show gx=g from by have:=G.o;rw[ϑ D.o]at this;exact this];exact⟨rfl,s',HR.o.1,HR.o.2.1⟩
theorem HIn.wrP(h:HIn w c g s)(hs:g.sl a=true)(i:Int)(hy:g.Ro y):g.fdE a i 1=0->Img (s.u.seV (s.F (g.at a):Nat) i 1 (s.F y)) (g.setFd a i y) s.F s.base s.top:=λhe=>by
 have Y:=Gph.at_ro hs;have X:g.erE (g.at a) i 1=0:=by rw[<-Gph.fdE_er hs];exact he
 have:=h.img.seV h.mem.ok h.gok Y i (kd:=1) (by decide) y (λ_=>hy) (by have:=h.hi;have:=h.bt;omega) X;exact this
theorem HIn.wrPO(h:HIn w c g s)(hs:g.sl a=true)(i:Int)(hy:g.Ro y):g.fdE a i 1=0->(g.setFd a i y).Ok:=λhe=>by
 have Y:=Gph.at_ro hs;have X:g.erE (g.at a) i 1=0:=by rw[<-Gph.fdE_er hs];exact he
 obtain⟨hr,n,rfl,h1,h2,-⟩:=h.img.inP h.gok Y (by decide) X;obtain⟨q1,q2⟩:=h.gok.rd hr;exact h.gok.put q1 q2 (λ_=>hy.le h.gok)
theorem HIn.adr(h:HIn w c g s)(hy:g.Ro y):s.F y<=2147483647:=by
 rcases hy with rfl|hy
 ·rw[h.img.z];omega
 ·have h1:=h.img.lo y hy;have:=h.hi;have:=h.bt;omega
theorem QmE(h:HIn w c g s)(hn:s.o=none↔s.lf=0)(a i b:Int):Calls prog 59 #[pP s.A.hp,iI a,iI i,iI b] w λe w'=>e=.returned (iI (g.stE a i b))/\HOp w c s (g.stG a i b) w':=by
 obtain⟨F0,F1⟩:=VXS h a b;have HN:=hn;cases hsl:(g.sl a&&g.sl b)with
 | false=>
  have HF:=(F0 hsl)
  have HE:Hid (g.stE a i b=17/\g.stG a i b=g):=⟨by
   have e:g.stE a i b=17:=by unfold Gph.stE Gph.two;rw[hsl];rfl
   exact⟨e,by unfold Gph.stG;rw[e];rfl⟩⟩
  generalize s.A.hp=ap at HF⊢;clear hn hsl F0 F1;go_enter func59,ntmps59;go_wp2_with(go_at_call 56;refine(HF).mono ?_;rintro e w1 ⟨rfl,hg⟩;have HG:=hg;clear hg);go_ret;exact⟨AL HE.o.1.symm,by rw[HE.o.2];exact HOp.same h HN HG⟩
 | true=>
  have HF:=(F1 hsl);have hE:g.stE a i b=g.fdE a i 1:=by unfold Gph.stE Gph.two;rw[μ hsl]
  have hG:g.stG a i b=if g.fdE a i 1=0 then g.setFd a i (g.at b)else g:=by unfold Gph.stG;rw[hE]
  rw[hE,hG];rw[ζe]at hsl;have J:=Gph.at_ro hsl.1;have V:=Gph.at_ro hsl.2;have M:=(λ(W:World) (gg:Gr w W)=>KV (h.cut.gr gg));have Y:=(λ(W:World) (gg:Gr w W)=>Xz9 (ID ..) (U7 ..) (h.cut.gr gg).sp (s.F (g.at a):Nat) i (h.cut.rdP J) (h.cut.fdP J i (by decide)) (h.adr V));have e1:s.u.gtE (s.F (g.at a):Nat) i 1=g.fdE a i 1:=by rw[h.img.gtE h.gok J i (by decide),Gph.fdE_er hsl.1]
  have e3:(s.cut w).u=s.u:=rfl;rw[e3,e1]at Y;have Xa:(s.cut w).A.hp=s.A.hp:=rfl;rw[Xa]at M
  have U:=(λ(w1 w2:World) (gr:Gr w w1) (he:((s.cut w).sp c).W (s.u.seV (s.F (g.at a):Nat) i 1 (s.F (g.at b))) (s.cut w).X w1 w2)=>(by
   by_cases hz:g.fdE a i 1=0
   ·rw[μ hz];exact LA h hn gr he (h.wrP hsl.1 i V hz) (h.wrPO hsl.1 i V hz) rfl
   ·rw[ϑ hz]
    have e:s.u.seV (s.F (g.at a):Nat) i 1 (s.F (g.at b))=s.u:=by
     unfold Vm.seV;rw[h.img.plE J i (by decide),<-Gph.fdE_er hsl.1,ϑ hz]
    rw[e]at he
    exact LA h hn gr he h.img h.gok rfl:Calls prog 43 #[pP s.A.hp] w2 λe w3=>e=.returned (.tuple #[])/\HOp w c s (if g.fdE a i 1=0 then g.setFd a i (g.at b)else g) w3))
  generalize (if g.fdE a i 1=0 then g.setFd a i (g.at b)else g)=gx at U⊢;generalize g.fdE a i 1=re at Y⊢;generalize s.u.seV (s.F (g.at a):Nat) i 1 (s.F (g.at b))=un at Y U;generalize (s.F (g.at a):Nat)=ad at HF Y;generalize (s.F (g.at b):Nat)=Xc at HF Y;obtain⟨ap,hp⟩:∃ap,ap=s.A.hp:=⟨_,rfl⟩;rw[<-hp]at HF M U⊢;clear hn hsl F0 F1 J V e1 e3 Xa hp hE hG;go_enter func59,ntmps59;go_upto_region 4 with(go_at_call 56;refine(HF).mono ?_;rintro e w1 ⟨gb,cp,rfl,I,G,D,L⟩;have Z:=(θ D L);have Xb:=G;clear D L G);obtain⟨Sx,E,HS⟩:=AA.start λW'=>(W'.cell? ⟨gb,0,none⟩=some (iI (ad:Nat))/\W'.cell? ⟨gb,1,none⟩=some (iI (Xc:Nat)))
  have y0:=AA.fact E λ_ h=>h.1;have y1:=AA.fact E λ_ h=>h.2;have N:=HS.o (w1.drew) (Z);have B:Inhabited (AA Sx):=⟨⟨_,N⟩⟩;clear E;refine AW Sx 11 [([0,2,3,4,5,6,7,8],1),([],9)] [10] (by kernel_rfl) (by kernel_rfl) N ?_;refine AH ?_
  try simp only[AC,ζ,ξ]
  repeat(go_big_quiet_step (fail))
  refine ψ ?_;go_wp2_with((go_at_call 58;refine AM (M _ I.drew) ?_));refine⟨.inr (AA.of (HS.o _ (Z))),?_⟩;refine AH ?_
  try simp only[AC,ζ,ξ]
  repeat(go_big_quiet_step (fail))
  refine ψ ?_;go_wp2_with((go_at_call 102;refine(Y _ I.drew).mono ?_;rintro e w2 ⟨rfl,he⟩;have O:=he;clear he));refine⟨.inr (AA.of (HS.o _ (⟨(O.1.cell (AT Z.1) (λhk=>ζP _ (υ hk.2 Xb)) 0).trans Z.1,(O.1.cell (AT Z.1) (λhk=>ζP _ (υ hk.2 Xb)) 1).trans Z.2⟩))),?_⟩;refine BO ?_
  try simp only[AC,ζ,ξ]
  repeat(go_big_quiet_step (fail))
  refine ψ ?_;refine ζb ?_;clear y0 y1 N B;clear HS Sx;go_wp2_with(go_at_call 43;refine(U _ _ I.drew O).mono ?_;rintro e w3 ⟨rfl,ho⟩;have Xd:=ho;clear ho);go_ret;exact⟨rfl,Xd⟩
theorem HOp.of(hn:s.o=none↔s.lf=0)(t:AB (λk=>k=s.A.g) w w')(hi:HIn w' c g' s):HOp w c s g' w':=
 ⟨s,⟨t.mono (λ_ _ e=>.inr (.inr (.inl e))),hi,rfl,λ_ h=>.inl h,hn⟩,DK.same s⟩
theorem HIn.rcpy(h:HIn w c g s)(a b:Int):Calls prog 103 #[pP s.A.r,iI a,iI b] w λe w'=>e=.returned (iI (g.two a b 0))/\AB (λk=>k=s.A.g) w w'/\HIn w' c (g.cpG a b) s:=by
 refine(Jv2 h.com.rt a b).mono ?_;rintro e w' ⟨rfl,t,hr⟩;have Y:EJ w' s.X s.A c s.base s.top s.u s.o s.lf s.nb:=h.mem.touch t (λk hk e=>⟨λhx=>h.com.x.2.2.1 (by simp_all),λe2=>h.com.n3.2.1 Ω⟩) (λ_ h=>h);rw[KR,KR];unfold OC at hr;rw[KR,KR]at hr;unfold Gph.two Gph.cpG;cases ha:g.sl a with
 | false=>
  rw[ha]at hr;exact⟨by simp,t,h.com.root t (by simp_all),Y,h.img,h.gok,h.cok,h.bt,h.bs,h.sl⟩
 | true=>
  cases hb:g.sl b with
  | false=>
   rw[ha,hb]at hr;exact⟨by simp,t,h.com.root t (by simp_all),Y,by simpa using h.img,by simpa using h.gok,h.cok,h.bt,h.bs,by simpa using h.sl⟩
  | true=>
   obtain⟨n,rfl,h1,h2⟩:=L1 ha;obtain⟨m,rfl,h3,h4⟩:=L1 hb;rw[ha,hb]at hr;simp only[if_true,and_self,δ,Bool.and_self]at hr⊢;have hy:=Gph.at_ro hb
   have Z:s.rs (g.setSl n (g.at m))=(s.rs g).set n ((s.rs g).getD m 0):=by
    rw[ω,ζa (by rw[s.len];exact h3),s.get g h3,<-h4];unfold HSt.rs Gph.setSl
    simp_all
   refine⟨trivial,t,?_,Y,h.img.slot hy,h.gok.slot (hy.le h.gok),h.cok,h.bt,h.bs,?_⟩
   ·rw[Z];exact h.com.root t hr
   ·show (g.S.set _ _).length=c.sl
    rw[η];exact h.sl
theorem Xxc(h:HIn w c g s)(hn:s.o=none↔s.lf=0)(a b:Int):Calls prog 60 #[pP s.A.hp,iI a,iI b] w λe w'=>e=.returned (iI (g.two a b 0))/\HOp w c s (g.cpG a b) w':=by
 have HN:=(G4 h);have HC:=(h.rcpy a b);have c9:=h.rcell;generalize s.A.hp=ap at HN c9⊢;go_enter func60,ntmps60;go_upto_region 3 with(go_at_call 41;refine AM (HN) ?_);go_wp2_with(go_at_call 103;refine(HC).mono ?_;rintro e w1 ⟨rfl,ht,hi⟩;have HT:=(θ ht hi));go_ret;exact⟨rfl,HOp.of hn HT.1 HT.2⟩
theorem HIn.rclr(h:HIn w c g s)(a:Int):Calls prog 55 #[pP s.A.r,iI a,iI 0] w λe w'=>e=.returned (iI (g.slE a))/\AB (λk=>k=s.A.g) w w'/\HIn w' c (g.clG a) s:=by
 unfold Gph.slE Gph.clG;cases ha:g.sl a with
 | false=>
  refine(QST h.com.rt (i:=a) (by rw[KR,ha];decide) 0).mono ?_;rintro e w' ⟨rfl,gr⟩;exact⟨rfl,gr.touch _,by grind [gr]⟩
 | true=>
  have:=XM h ha (y:=0) (.inl rfl);rw[h.img.z]at this
  assumption
theorem JfK(h:HIn w c g s)(hn:s.o=none↔s.lf=0)(a:Int):Calls prog 23 #[pP s.A.hp,iI a] w λe w'=>e=.returned (iI (g.slE a))/\HOp w c s (g.clG a) w':=by
 have HN:=(G4 h);have HC:=(h.rclr a);have c9:=h.rcell;generalize s.A.hp=ap at HN c9⊢;go_enter func23,ntmps23;go_upto_region 3 with(go_at_call 41;refine AM (HN) ?_);go_wp2_with(go_at_call 55;refine(HC).mono ?_;rintro e w1 ⟨rfl,ht,hi⟩;have HT:=(θ ht hi));go_ret;exact⟨rfl,HOp.of hn HT.1 HT.2⟩
theorem BA.trans{g1 g2:Gph}{s1 s2:HSt}(h:BA w c s g1 s1 w1)(k:BA w1 c s1 g2 s2 w2):BA w c s g2 s2 w2:=
 ⟨h.t.trans' k.t (λb hb e=>(h.S b e).elim id (λh2=>by omega)),k.i,k.hp.trans h.hp,λb hb=>by
  rcases k.S b hb with h1|h1
  ·exact h.S b h1
  ·exact .inr (γ h.t.size h1),k.o⟩
theorem BA.gr{s':HSt}(h:BA w c s g' s' w'){w2:World}(gr:Gr w' w2):BA w c s g' s' w2:=⟨h.t.trans (gr.touch _),h.i.gr gr,h.hp,h.S,h.o⟩
theorem BA.refl(h:HIn w c g s)(hn:s.o=none↔s.lf=0):BA w c s g s w:=⟨AB.refl _ _,h,rfl,λ_ h=>.inl h,hn⟩
theorem DK.trans{s1 s2:HSt}(h:DK s s1)(k:DK s1 s2):DK s s2:=by
 have h1:=h.lf;have h2:=k.lf;refine⟨γ h2 h1,?_⟩;rw[k.cyc,h.cyc]
 grind
theorem GQ.stp{X:Nat->Prop}{A:HAd}{top:Nat}{u:Vm}{z:BZ}{sl:Sl}{v':Vm}{R Sv:Nat->Prop}(h:GQ w X A c base top u y z sl v R Sv)(hf:I3 w w' R Sv y A.q z (HpB c.fr top u) sl.step v'):GQ w' (plus X w) A c base top u y z sl.step v' R (plus Sv w):=by
 have hl:=h.cy.od.lt;have J:=h.tab.lt;have Z:=hf.ok;refine⟨hf.cy,hf.vm,⟨?_,?_,?_⟩,hf.ok,hf.j.1,λk hk=>?_,λk hk Y=>?_,hf.t.tab J (λhk=>hk.elim h.t1 h.t2) h.tab,h.t1,λhk=>hk.elim h.t2 (λhk=>by omega),h.bs,h.lm,h.bk,h.ah,h.kd⟩
 ·rw[Z.mid.n,<-h.hv.n,h.ok.mid.n];rfl
 ·rw[Z.mid.pg,<-h.hv.pg,h.ok.mid.pg];rfl
 ·exact hf.j.2
 ·rcases hk with hk|hk|hk
  ·exact .inl (h.x k (.inl hk))
  ·exact .inl (h.x k (.inr hk))
  ·exact .inr hk
 ·rcases Y with Y|Y
  ·exact h.d k hk Y
  grind
def YF5(w:World)(c:HCf)(g:Gph)(s:HSt)(w':World):Prop:=∃s',BA w c s g s' w'/\DK s s'/\HKp s s'/\s'.lf+1=s.lf
theorem HIn.stp(h:HIn w c g s)(hn:s.o=none↔s.lf=0)(hl:s.lf≠0):∃y,s.o=some y/\Calls prog 42 #[pP y] w λe w1=>e=.returned (.tuple #[.bool true,iI 0]) ∧
  Calls prog 43 #[pP s.A.hp] w1 λe w'=>e=.returned (.tuple #[])/\YF5 w c g s w':=by
 have hm:=h.mem;cases ho:s.o with
 | none=>simp_all
 | some y=>
  rw[ho]at hm;obtain⟨z,sl,v,R,Sv,Y,e1,e2⟩:=hm;refine⟨y,rfl,(WW (TI c.fr s.top s.u) Y.cy Y.ok ⟨Y.a,Y.hv.rm⟩ Y.tab Y.t2 Y.t1 Y.vm Y.d).mono ?_⟩;rintro e w1 ⟨v',rfl,hf⟩
  have Z:sl.ft<sl.mv.length:=by
   refine Decidable.byContradiction λhh=>hl ?_;rw[<-e1];exact sl.lf_zero.2 hh
  have J:=Sl.lf_step Z;rw[κ Z];refine⟨rfl,?_⟩;have t1:AB s.X w w1:=hf.t.mono (λk _ hk=>Y.x k hk)
  have hI:HIn w1 c g {s with X:=plus s.X w,lf:=sl.step.lf}:=by
   refine⟨h.com.mem t1,?_,h.img,h.gok,h.cok,h.bt,h.bs,h.sl⟩;rw[ho];exact⟨z,sl.step,v',R,plus Sv w,Y.stp hf,rfl,by show (CW sl.mv).length=s.nb;rw[QI];exact e2⟩
  refine(TT hI).mono ?_;rintro e w2 ⟨rfl,s',h1⟩;refine⟨rfl,s',⟨?_,h1.i,by rw[h1.A],λk hk=>?_,h1.o⟩,⟨?_,?_⟩,⟨h1.K.F,h1.K.base,h1.K.top⟩,?_⟩
  ·exact(t1.mono (λk _ hk=>.inl hk)).trans' h1.t (λk _ hk=>.inr (.inl hk))
  ·rcases hk with hk|hk|hk|hk|hk
   ·rcases h1.X k hk with h2|h2
    ·exact .inl (.inl h2)
    ·exact .inr h2
   ·rw[h1.A]at hk;exact .inl (.inr (.inl hk))
   ·rw[h1.A]at hk;exact .inl (.inr (.inr (.inl hk)))
   ·rw[h1.A]at hk;exact .inl (.inr (.inr (.inr (.inl hk))))
   ·rw[h1.A]at hk;exact .inl (.inr (.inr (.inr (.inr hk))))
  ·rw[h1.lf,<-e1];grind
  ·rw[h1.cyc,h1.lf]
   simp_all
  ·rw[h1.lf,<-e1];exact J
theorem YFI(h:HIn w c g s)(hn:s.o=none↔s.lf=0)(hl:s.lf≠0):Calls prog 15 #[pP s.A.hp] w λe w'=>e=.returned (.bool true)/\YF5 w c g s w':=by
 have HN:=(G4 h);obtain⟨y,hy,hs⟩:=h.stp hn hl;have c11:=h.cc 11;go_enter func15,ntmps15;go_upto_region 3 with(go_at_call 41;refine AM (HN) ?_);go_upto_region 4 with(go_at_call 42;refine(hs).mono ?_;rintro e w1 ⟨rfl,he⟩;have HE:=he);go_wp2_with(go_at_call 43;refine(HE).mono ?_;rintro e w2 ⟨rfl,h2⟩;have HH:=h2);go_ret
 simp_all
theorem QNw(h:HIn w c g s)(hn:s.o=none↔s.lf=0)(hl:s.lf=0):cQ 15 #[pP s.A.hp] w (.bool false):=by
 have HN:=(G4 h);have X:=h.cc 11;rw[hn.2 hl]at X;go_enter func15,ntmps15;go_wp2_with(go_at_call 41;refine AM (HN) ?_);go_ret
 simp_all
def QF(w:World)(ap:Nat):Nat:=match w.cell? ⟨ap,11,none⟩with
 | some (.pointer (some a))=>KU w a.block 11
 | _=>0
theorem HIn.left(h:HIn w c g s):QF w s.A.hp=s.lf:=by
 have X:=h.cc 11;have hm:=h.mem;unfold QF;cases ho:s.o with
 | none=>
  rw[ho]at X hm;rw[X];exact hm.2.2.2.symm
 | some y=>
  rw[ho]at X hm;obtain⟨z,sl,v,R,Sv,Y,e1,e2⟩:=hm;have c:=Y.cy.rc.cc 11;rw[X]
  show KU w y 11=s.lf
  unfold KU;rw[c,<-e1];rfl
theorem WV(h:HIn w c g s)(hn:s.o=none↔s.lf=0):Calls prog 92 #[pP s.A.hp] w λe w'=>e=.returned (.tuple #[])/\∃s',BA w c s g s' w'/\DK s s'/\HKp s s'/\s'.lf=0:=by
 have H0:Hid (BA w c s g s w/\DK s s/\HKp s s):=⟨BA.refl h hn,DK.same s,HKp.refl s⟩;obtain⟨ap,hp⟩:∃ap,ap=s.A.hp:=⟨_,rfl⟩;have HP:=ι hp;rw[<-hp];clear h hn hp;go_enter func92,ntmps92;go_wp2
 go_loopw [] (λwr=>∃s',Hid (BA w c s g s' wr/\DK s s'/\HKp s s')) (λwr=>QF wr ap)
 case atStart=>exact⟨s,H0⟩
 case round=>
  obtain⟨s',HR⟩:=hrel;have Y:ap=s'.A.hp:=HP.o.trans HR.o.1.hp.symm;by_cases hl:s'.lf=0
  ·have HZ:=(QNw HR.o.1.i HR.o.1.o hl);rw[<-Y]at HZ;clear Y;go_wp2_with(go_at_call 15;refine AM (HZ) ?_);refine ζy (ζl rfl _ _ _) rfl ?_;exact⟨rfl,s',HR.o.1,HR.o.2.1,HR.o.2.2,hl⟩
  ·have HZ:=(YFI HR.o.1.i HR.o.1.o hl);have hl:=(HR.o.1.i.left);rw[<-Y]at HZ hl;have Z:=ι Y;clear Y;go_wp2_with(go_at_call 15;refine(HZ).mono ?_;rintro e w1 ⟨rfl,s2,h1,h2,h3,h4⟩;have X:=(θ h1 (θ h2 (θ h3 h4)));clear h1 h2 h3 h4);go_round
   case rel=>exact⟨s2,⟨HR.o.1.trans X.1,HR.o.2.1.trans X.2.1,HR.o.2.2.trans X.2.2.1⟩⟩
   case measure=>
    have e1:=X.1.i.left;rw[X.1.hp,<-Z.o]at e1;have:=hl;have:=X.2.2.2;omega
section
attribute [local go_sem] Oper.semAt_some
structure Z4(w wx:World)(S:Nat->Prop)(q m p1 b1 p2 b2:Nat)(v:Vm)(rs:List Int)(c:Cf)(why:Int):Prop where
 t:AB S w wx
 vm:AD wx (AE S w) q v
 rs:(why=0/\∃L,Ext wx m p1 b1 p2 b2 v.n L/\BD v rs v.n L)\/(why=25/\¬CE v rs v.n)
 bx:Rec wx w.heap.size 143 [iI c.fr,iI c.tp,iI c.to,iI c.lm,iI c.bk,iI c.st,iI c.ah]
 r6:Rec wx (w.heap.size+1) 93 [.pointer none]
 r7:Rec wx (w.heap.size+2) 27 [iI 0]
 lm:w.heap.size+3<=m
 l1:w.heap.size+3<=p1
 l2:w.heap.size+3<=b1
 l3:w.heap.size+3<=p2
 l4:w.heap.size+3<=b2
section
variable{g:Nat}{c:Cf}
theorem YeD(hV:AD w S q v)(hn1:1<=v.n)(hR:AR w r g rs)(hT:AP w)(htS:¬S 1)(hst:1<=c.st/\c.st<=4096):
  Calls prog 157 #[pP q,pP r,cfV c] w (Zt3 w S q v rs c.fr c.tp):=by
 have HV:=hV.cut;have HR:=hR;have HT:=hT;have Zw:=htS;have Jr:=hT.lt;have hn2:=hV.ok.n2;have Js:rs.length≠0:=λe=>hR.ne (ζw e);have Jn:=hR.le;have HX:=(λW=>QD v.n hn1 Ω W);have Jx:=hst;obtain⟨n,Ym⟩:∃n,n=rs.length:=⟨_,rfl⟩;have HN:=ι Ym;rw[<-Ym]at Js Jn;have g1:Gr w (((w.alloc (.cells #[.int .i64 c.fr,.int .i64 c.tp,.int .i64 c.to,.int .i64 c.lm,.int .i64 c.bk,.int .i64 c.st,.int .i64 c.ah] 143)).alloc (.cells #[.pointer none] 93)).alloc (.cells #[.int .i64 0] 27)):=(((Gr.refl w).alloc _).alloc _).alloc _;have Zs:=ι g1;clear hV hR hT htS hst Ym g1;refine(τ (n:=5)).1 ?_;refine callsIn_of_wp_marks func157 rfl trivial ?_ rfl;simp only[ntmps157,ζS,ζA,ζ6,Nat.reduceAdd,Nat.reduceSub,ζJ,ζI,ζX,ζO,ζV,ζr];unfold cfV;gi_upto_region 1 with(fail);obtain⟨W0,Xj⟩:∃W0,W0=(((w.alloc (.cells #[.int .i64 c.fr,.int .i64 c.tp,.int .i64 c.to,.int .i64 c.lm,.int .i64 c.bk,.int .i64 c.st,.int .i64 c.ah] 143)).alloc (.cells #[.pointer none] 93)).alloc (.cells #[.int .i64 0] 27)):=⟨_,rfl⟩;have Zo:W0.heap.size=w.heap.size+3:=by rw[Xj];simp only[β]
 have Jf:Gr w W0:=by rw[Xj];exact Zs.o
 have rb:Rec W0 w.heap.size 143 [iI c.fr,iI c.tp,iI c.to,iI c.lm,iI c.bk,iI c.st,iI c.ah]:=by rw[Xj];exact(Rec.new w _ [iI c.fr,iI c.tp,iI c.to,iI c.lm,iI c.bk,iI c.st,iI c.ah]).gr (((Gr.refl _).alloc _).alloc _)
 have r6:Rec W0 (w.heap.size+1) 93 [.pointer none]:=by rw[Xj];exact(J7 w _ 93 [.pointer none]).gr ((Gr.refl _).alloc _)
 have r7:Rec W0 (w.heap.size+2) 27 [iI 0]:=by
  rw[Xj];have:=J7 (w.alloc (.cells #[.int .i64 c.fr,.int .i64 c.tp,.int .i64 c.to,.int .i64 c.lm,.int .i64 c.bk,.int .i64 c.st,.int .i64 c.ah] 143)) (.cells #[.pointer none] 93) 27 [iI 0];rw[β]at this;exact this
 rw[<-Xj];clear Xj Zs;have Zn:=ι Jf;have Je:=ι rb;have Zl:=ι r6;have Zb:=ι r7;have Jh:=ι (λ(W:World) (g:Gr w W)=>KN (HV.gr g));clear rb r6 r7 Jf
 gi_upto_region 2 with(first
  | (refine⟨trivial,?_⟩;gi_at_call 47;refine(τ.2 (Jh.o _ Zn.o)).mono ?_;rintro e w2 ⟨rfl,rfl⟩)
  | (refine⟨trivial,?_⟩;gi_at_call 46;refine(τ.2 (HX _)).mono ?_;rintro e w3 ⟨m,p1,b1,p2,b2,rfl,Zg,Jg,Xi,Xo,Xf,Xt,Xg⟩;have Yc:=ι Zg;have I:=ι (Zn.o.trans Zg);have Xr:=ι Jg;have HB:=ι (θ Xi (θ Xo (θ Xf (θ Xt Xg))));clear Zg Jg Xi Xo Xf Xt Xg))
 gi_cut [10,11]from 14 (λs10 s11 wx=>∃(Xh:Nat) (X:Int),s10=pP Xh/\s11=iI X/\Hid (Z4 w wx S q m p1 b1 p2 b2 v rs c X))
 case first=>
  have Jq:=HB.o;obtain⟨Xi,Xo,Xf,Xt,Xg⟩:=Jq;rw[Zo]at Xi Xo Xf Xt Xg;have Zd:=Xr.o.hm;have Za:=Xr.o.v1.hp;have Yd:=Xr.o.v1.hb;have Yz:=Xr.o.v2.hp;have Xw:=Xr.o.v2.hb
  have Xl:∀i,AS m b1 b2 i->w.heap.size+3<=i/\i<w3.heap.size:=λi hi=>by
   rcases hi with rfl|rfl|rfl
   ·exact⟨Xi,Zd⟩
   ·exact⟨Xf,Yd⟩
   ·exact⟨Xg,Xw⟩
  have Zk:=ι Xl;have Yi:=ι (λ(W:World) (g:Gr w3 W)=>WM (HR.gr ((I.o).trans g)));rw[<-HN.o]at Yi
  have Xv:Hid (∀(W:World) (g1 cp:Nat),Gr w3 W->w3.heap.size<=g1->W.ownsRow 0 3 1 (.slice (some ⟨g1,0,none⟩) n cp) n (zs rs)->Calls prog 48 #[.iface 78 (pP q),.slice (some ⟨g1,0,none⟩) n cp,pP m,iI c.st] W λe w'=>
    ∃(a1 a2 a3 a4 X:Int),e=.returned (.tuple #[.agg #[iI a1,iI a2,iI a3,iI a4],iI X])/\AB (λi=>AS m b1 b2 i\/AE S w i) W w'/\AD w' (AE S w) q v/\((X=0/\∃L,Ext w' m p1 b1 p2 b2 v.n L/\BD v rs v.n L)\/(X=25/\¬CE v rs v.n))):=⟨λW g1 cp hg J ho=>by
   rw[HN.o]at ho⊢;have Yu:=I.o.trans hg;refine(UU (HV.gr Yu) (Xr.o.gr hg) (Yu.tab HT.lt HT) (λi hi=>?_) (by unfold maxLen;have:=HN.o;omega) (λi hi h=>by have:=(Xl i h).1;have:=hi.2;omega) (λh=>by have:=h.2;omega) (λh=>by have:=h.2;omega) (λh=>Zw h.1) (λh=>by have:=(Xl _ h).1;omega) (c.st:Int)).mono ?_
   ·exact⟨g1,0,rfl,(BF ho rfl).2,λh=>by have:=(Xl _ h).2;omega,by rw[ξE];exact BU ho (MS hi)⟩
   ·rintro e w' (⟨h,-⟩|⟨-,-,ht,hv,(⟨L,r',vi,rfl,he,hm,-⟩|⟨rfl,-,hs⟩)⟩)
    ·have:=Jx;omega
    ·exact⟨_,_,r',vi,0,rfl,ht,hv,.inl ⟨rfl,L,he,hm⟩⟩
    ·exact⟨0,0,0,0,25,rfl,ht,hv,.inr ⟨rfl,hs⟩⟩⟩
  have Xb:Hid (∀(W1 W2 W3:World) (Xh:Nat) (X:Int),Gr w3 W1->AB (λi=>AS m b1 b2 i\/AE S w i) W1 W2->AD W2 (AE S w) q v->((X=0/\∃L,Ext W2 m p1 b1 p2 b2 v.n L/\BD v rs v.n L)\/(X=25/\¬CE v rs v.n))->AB (λi=>i=Xh) W2 W3->w3.heap.size<=Xh →
    Z4 w W3 S q m p1 b1 p2 b2 v rs c X):=⟨λW1 W2 W3 Xh X hg ht hv hres N hb=>by
   have Jo:=I.o.size;have hz13:=Yc.o.size;have Yu:=I.o.trans hg
   have Xa:∀i,i<w.heap.size+3->w.heap.size<=i->¬(AS m b1 b2 i\/AE S w i):=λi h1 h2 h=>by
    rcases h with h|h
    ·have:=(Xl i h).1;omega
    ·have:=h.2;omega
   refine⟨((Yu.touch _).trans (ht.mono (T:=λi=>AS m b1 b2 i\/S i) (λi _ h=>h.imp id (λh=>h.1)))).trans' (T:=λi=>i=Xh) N (λi hi h=>by omega) |>.mono (λi hi h=>h.elim (λh=>by have:=(Xl i h).1;omega) id),hv.touch N (λi hi _ h=>by have:=hi.2;omega),?_,?_,?_,?_,Xi,Xo,Xf,Xt,Xg⟩
   ·rcases hres with⟨h,L,he,hm⟩|h
    ·exact .inl ⟨h,L,he.touch N Ω Ω Ω Ω Ω,hm⟩
    ·exact .inr h
   ·exact((Je.o.gr (Yc.o.trans hg)).touch ht (Xa _ Ω Ω)).touch N Ω
   ·exact((Zl.o.gr (Yc.o.trans hg)).touch ht (Xa _ Ω Ω)).touch N Ω
   ·exact((Zb.o.gr (Yc.o.trans hg)).touch ht (Xa _ Ω Ω)).touch N Ω⟩
  have Zc:=Je.o.gr Yc.o;have x5:=Zc.cc 5;have Zi:=Zc.lt;have KS:Hid (∀W',Gr w3 W'->W'.cell? ⟨w.heap.size,5,none⟩=some (iI c.st)):=⟨λW' h=>(h.cell Zi 5).trans x5⟩
  have KT:Hid (∀W1 W',Gr w3 W1->AB (λi=>AS m b1 b2 i\/AE S w i) W1 W'->W'.cell? ⟨w.heap.size,5,none⟩=some (iI c.st)):=⟨λW1 W' h t=>(t.cell (υ Zi h.size) (λh=>by
   rcases h with h|h
   ·have:=(Zk.o _ h).1;omega
   ·have:=h.2;omega) 5).trans ((h.cell Zi 5).trans x5)⟩
  obtain⟨Sx,Yy⟩:∃Sx:World->Prop,Sx=λW'=>W'.cell? ⟨w.heap.size,5,none⟩=some (iI c.st):=⟨_,rfl⟩;have y1:∀p':AA Sx,p'.w.cell? ⟨w.heap.size,5,none⟩=some (iI c.st):=λp=>AA.get Yy p;have Zt:Sx w3.drew:=by rw[Yy];exact x5
  have V:=ι Yy;have inst:Inhabited (AA Sx):=⟨⟨_,Zt⟩⟩;clear Yy x5 Zc Xl Xi Xo Xf Xt Xg Zd Za Yd Yz Xw;refine XX Sx (.two [0,1,2,4,5,6] 3 (.two [] 7 (.one [8,9,10] 11 (.one [] 12 (.fin [13]))) 11 (.one [] 7 (.one [8,9,10] 12 (.fin [13])))) 11 (.one [] 3 (.one [] 7 (.one [8,9,10] 12 (.fin [13]))))) F8 (by kernel_rfl) (by kernel_rfl) Zt ?_;refine PN ?_;simp only[AC,ζ,ξ]
  repeat(go_big_quiet_step (fail))
  refine ψ ⟨?_,?_⟩
  ·gi_wp2_with(refine⟨trivial,?_⟩;gi_at_call 49;refine(τ.2 (Yi.o _ (Gr.refl w3).drew)).mono ?_;rintro e w4 ⟨g1,c1,rfl,Xs,Yk,Xy⟩;have Y:=ι ((Gr.refl w3).drew.trans Xs);have Yv:=ι Xy;have Ys:=ι Yk;clear Xs Xy Yk);refine⟨AA.of (by rw[V.o];exact KS.o _ Y.o),?_⟩;refine PN ?_;simp only[AC,ζ,ξ];refine ψ ⟨?_,?_⟩
   ·gi_wp2_with(refine⟨trivial,?_⟩;gi_at_call 48;refine(τ.2 (Xv.o _ g1 c1 Y.o Ys.o Yv.o)).mono ?_;rintro e w5 ⟨a1,a2,a3,a4,X,rfl,O,Xe,G⟩;have Z:=ι O;have Yj:=ι Xe;have Yf:=ι G;clear O Xe G);refine⟨AA.of (by rw[V.o];exact KT.o _ _ Y.o Z.o),?_⟩;refine E5 ?_;simp only[AC,ζ,ξ]
    repeat(go_big_quiet_step (fail))
    refine ψ ?_;have u5:=KT.o _ _ Y.o Z.o;have Zq:=AT u5;gi_wp2;refine⟨AA.of (by rw[V.o];exact(((Gr.refl w5).alloc _).cell Zq 5).trans u5),?_⟩;refine E5 ?_;simp only[AC,ζ,ξ];refine ψ ?_;gi_wp2;refine⟨AA.of (by rw[V.o];exact(((Gr.refl w5).alloc _).cell Zq 5).trans u5),?_⟩;refine L5 ?_;simp only[AC,ζ,ξ]
    repeat(go_big_quiet_step (fail))
    refine ψ ?_;refine ζb ?_;gi_wp2
    gi_meet
    exact⟨_,X,rfl,rfl,⟨Xb.o _ _ _ _ X Y.o Z.o Yj.o Yf.o (((Gr.refl w5).alloc _).touch _) (γ Y.o.size Z.o.size)⟩⟩
   ·have x4:=KS.o _ Y.o;have Zx:=AT x4;gi_wp2;refine⟨AA.of (by rw[V.o];exact(((Gr.refl w4).alloc _).cell Zx 5).trans x4),?_⟩;refine E5 ?_;simp only[AC,ζ,ξ];refine ψ ?_;have E:=ι (Rec.new w4 97 [iI 0,iI 0,iI 0,iI 0]);have M:=ι (Y.o.alloc (.cells #[.int .i64 0,.int .i64 0,.int .i64 0,.int .i64 0] 97))
    have Xx:Hid (¬(AS m b1 b2 w4.heap.size\/AE S w w4.heap.size)):=⟨λh=>by
     have:=Y.o.size;rcases h with h|h
     ·have:=(Zk.o _ h).2;omega
     ·have:=h.2;have:=(I.o).size;omega⟩
    have Yg:Hid (¬w.heap.size=w4.heap.size):=⟨by have:=Y.o.size;omega⟩;have Zy:=ι (CU Yv.o ((Gr.refl w4).alloc (.cells #[.int .i64 0,.int .i64 0,.int .i64 0,.int .i64 0] 97)));have Xz:Hid (w3.heap.size<=w4.heap.size):=⟨Y.o.size⟩;obtain⟨bA,Xn⟩:∃bA,bA=w4.heap.size:=⟨_,rfl⟩;obtain⟨WA,Xk⟩:∃WA,WA=w4.alloc (.cells #[.int .i64 0,.int .i64 0,.int .i64 0,.int .i64 0] 97):=⟨_,rfl⟩;rw[show w4.alloc (.cells ([.int .i64 0,.int .i64 0,.int .i64 0,.int .i64 0]:List Value).toArray 97)=WA from Xk.symm]at E;rw[<-Xk]at M Zy⊢;rw[<-Xn]at E Xx Yg Xz⊢;clear Xn Xk x4 Zx;gi_wp2_with(refine⟨trivial,?_⟩;gi_at_call 48;refine(τ.2 (Xv.o _ g1 c1 M.o Ys.o Zy.o)).mono ?_;rintro e w5 ⟨a1,a2,a3,a4,X,rfl,O,Xe,G⟩;have Z:=ι O;have Yj:=ι Xe;have Yf:=ι G;have U:=ι (E.o.touch O (Xx.o));have q0:=U.o.cc 0;have q1:=U.o.cc 1;have q2:=U.o.cc 2;have q3:=U.o.cc 3;have qf:=U.o.free;have ql:=U.o.lt;clear O Xe G);refine⟨AA.of (by rw[V.o];exact KT.o _ _ M.o Z.o),?_⟩;refine E5 ?_;simp only[AC,ζ,ξ]
    repeat(go_big_quiet_step (fail))
    refine ψ ?_;gi_wp2;have t5:=L6 w5 bA (iI a1) (iI a2) (iI a3) (iI a4);have KF:=(t5.cell (AT (KT.o _ _ M.o Z.o)) Yg.o 5).trans (KT.o _ _ M.o Z.o);refine⟨AA.of (by rw[V.o];exact KF),?_⟩;refine L5 ?_;simp only[AC,ζ,ξ]
    repeat(go_big_quiet_step (fail))
    refine ψ ?_;refine ζb ?_;gi_wp2
    gi_meet
    exact⟨_,X,rfl,rfl,⟨Xb.o _ _ _ _ X M.o Z.o Yj.o Yf.o t5 Xz.o⟩⟩
  ·gi_wp2;have x3:=KS.o _ (Gr.refl w3);have Jw:=AT x3;refine⟨AA.of (by rw[V.o];exact KS.o _ ((Gr.refl w3).alloc _).drew),?_⟩;refine E5 ?_;simp only[AC,ζ,ξ];refine ψ ?_;have E:=ι ((Rec.new w3 97 [iI 0,iI 0,iI 0,iI 0]).gr (Gr.refl _).drew);have M:=ι ((Gr.refl w3).alloc (.cells #[.int .i64 0,.int .i64 0,.int .i64 0,.int .i64 0] 97)).drew
   have Xx:Hid (¬(AS m b1 b2 w3.heap.size\/AE S w w3.heap.size)):=⟨λh=>by
    rcases h with h|h
    ·have:=(Zk.o _ h).2;omega
    ·have:=h.2;have:=(I.o).size;omega⟩
   have Yg:Hid (¬w.heap.size=w3.heap.size):=⟨by omega⟩;have Xz:Hid (w3.heap.size<=w3.heap.size):=⟨ν _⟩;obtain⟨WA,Xk⟩:∃WA,WA=(w3.alloc (.cells #[.int .i64 0,.int .i64 0,.int .i64 0,.int .i64 0] 97)).drew:=⟨_,rfl⟩;rw[show (w3.alloc (.cells ([.int .i64 0,.int .i64 0,.int .i64 0,.int .i64 0]:List Value).toArray 97)).drew=WA from Xk.symm]at E;rw[<-Xk]at M⊢;clear Xk;obtain⟨bA,Xn⟩:∃bA,bA=w3.heap.size:=⟨_,rfl⟩;rw[<-Xn]at E Xx Yg;rw[show w3.heap.size<=w3.heap.size↔w3.heap.size<=bA by rw[Xn]]at Xz;rw[show w3.heap.size=bA from Xn.symm];clear Xn x3 Jw;gi_wp2_with(refine⟨trivial,?_⟩;gi_at_call 49;refine(τ.2 (Yi.o _ M.o)).mono ?_;rintro e w4 ⟨g1,c1,rfl,Xs,Yk,Xy⟩;have Y:=ι (M.o.trans Xs);have Zv:=ι (E.o.gr Xs);have Yv:=ι Xy;have Ys:=ι (γ M.o.size Yk);clear Xs Xy Yk);refine⟨AA.of (by rw[V.o];exact KS.o _ Y.o),?_⟩;refine E5 ?_;simp only[AC,ζ,ξ];refine ψ ?_;gi_wp2_with(refine⟨trivial,?_⟩;gi_at_call 48;refine(τ.2 (Xv.o _ g1 c1 Y.o Ys.o Yv.o)).mono ?_;rintro e w5 ⟨a1,a2,a3,a4,X,rfl,O,Xe,G⟩;have Z:=ι O;have Yj:=ι Xe;have Yf:=ι G;have U:=ι (Zv.o.touch O (Xx.o));have q0:=U.o.cc 0;have q1:=U.o.cc 1;have q2:=U.o.cc 2;have q3:=U.o.cc 3;have qf:=U.o.free;have ql:=U.o.lt;clear O Xe G);refine⟨AA.of (by rw[V.o];exact KT.o _ _ Y.o Z.o),?_⟩;refine E5 ?_;simp only[AC,ζ,ξ]
   repeat(go_big_quiet_step (fail))
   refine ψ ?_;gi_wp2;have t5:=L6 w5 bA (iI a1) (iI a2) (iI a3) (iI a4);have KF:=(t5.cell (AT (KT.o _ _ Y.o Z.o)) Yg.o 5).trans (KT.o _ _ Y.o Z.o);refine⟨AA.of (by rw[V.o];exact KF),?_⟩;refine L5 ?_;simp only[AC,ζ,ξ]
   repeat(go_big_quiet_step (fail))
   refine ψ ?_;refine ζb ?_;gi_wp2
   gi_meet
   exact⟨_,X,rfl,rfl,⟨Xb.o _ _ _ _ X Y.o Z.o Yj.o Yf.o t5 Xz.o⟩⟩
 case rest=>
  obtain⟨Xh,X,rfl,rfl,HI⟩:=hcut;have Xp:=HI.o.r6;have Xm:=HI.o.r7;have Zj:=HI.o.bx;have hwz:=HI.o.t.size;have hr7l:=Xm.lt;rcases HI.o.rs with⟨rfl,L,hex,Zr⟩|⟨rfl,Zz⟩
  ·have Zh:=ι hex;have Jd:=ι Zr;clear Xp Xm hex Zr;gi_wp2_with(refine⟨trivial,?_⟩;gi_at_call 144;refine(τ.2 (JQ (some ⟨m,0,none⟩))).mono ?_;rintro e w1 ⟨rfl,rfl⟩);obtain⟨W1,Ya⟩:∃W1,W1=wc.alloc (.cells #[.pointer (some ⟨m,0,none⟩)] 93):=⟨_,rfl⟩;have J:Gr wc W1:=by rw[Ya];exact(Gr.refl wc).alloc _
   have Jb:W1.heap.size=wc.heap.size+1:=by rw[Ya,β]
   have k4:W1.cell? ⟨wc.heap.size,0,none⟩=some (pP m):=by
    rw[Ya];exact(Boxed.new wc 93 (pP m)).cell
   rw[<-Ya];have hex:=Zh.o;have Zd:=hex.hm;have Za:=hex.v1.hp;have Yd:=hex.v1.hb;have Yz:=hex.v2.hp;have Xw:=hex.v2.hb;have Zu:Hid (AP wc):=⟨HI.o.t.tab Jr Zw HT⟩;have Jc:=Zu.o.lt;have hrl:=Zj.lt;have Jp:=ι hex.good;clear Ya hex;have tI:∀(j:Nat) A B,(AB (λi=>W1.heap.size<=i) W1 A/\j<=L.length/\∀i (h:i<L.length),i<j->c.fr<=L[i].1/\L[i].1+L[i].2<=c.tp)->AB (λi=>W1.heap.size<=i/\i<W1.heap.size+2+4) A B->(AB (λi=>W1.heap.size<=i) W1 B/\j<=L.length/\∀i (h:i<L.length),i<j->c.fr<=L[i].1/\L[i].1+L[i].2<=c.tp):=λj A B h t=>⟨h.1.trans (t.mono (λi _ h=>h.1)),h.2⟩
   refine LB (K:=4) (s0:=0) rfl Ω (gf:=187) (lb:=#[pP wc.heap.size]) rfl trivial (enters_of func187 (by kernel_rfl) rfl)
    (N8 _ wc.heap.size m p1 b1 p2 b2 v.n L _) (λ_=>rfl)
    (λ(j:Nat) A=>AB (λi=>W1.heap.size<=i) W1 A/\j<=L.length/\∀i (h:i<L.length),i<j->c.fr<=L[i].1/\L[i].1+L[i].2<=c.tp)
    (λcd A=>cd=.ret/\AB (λi=>(i=w.heap.size+1\/i=w.heap.size+2)\/W1.heap.size<=i) W1 A/\A.cell? ⟨w.heap.size+1,0,none⟩=some (.pointer none)/\A.cell? ⟨w.heap.size+2,0,none⟩=some (iI 25)/\∃o∈L,¬(c.fr<=o.1/\o.1+o.2<=c.tp))
    tI
    (λcd A B h t=>⟨h.1,h.2.1.trans (t.mono (λi _ h=>.inr h.1)),(t.cell (AT h.2.2.1) (by show ¬(W1.heap.size<=w.heap.size+1/\_);omega) 0).trans h.2.2.1,(t.cell (AT h.2.2.2.1) (by show ¬(W1.heap.size<=w.heap.size+2/\_);omega) 0).trans h.2.2.2.1,h.2.2.2.2⟩)
    (λj A h=>⟨(Zh.o.gr J).touch h.1 Ω Ω Ω Ω Ω,(J.tab Jc Zu.o).touch' h.1 Ω,(h.1.cell Ω Ω 0).trans k4,h.2.1⟩)
    ⟨AB.refl _ _,ζh _,λi _ h=>absurd h (ζQ _)⟩ ?round ?done ?stop
   case round=>
    have Yw:=ι Jb;clear Jb;intro lp j x W3 hsz3 Xd Xc;dsimp only[GE];gi_wp2;refine⟨Gr.refl _,λW4 ht4 hI4=>?_⟩
    have Yn:j<L.length:=by
     rcases χ j L.length with h|h
     ·exact h
     ·unfold EI at Xc;rw[ζF h]at Xc;cases Xc
    obtain rfl:x=L[j]:=by unfold EI at Xc;rw[ζa Yn]at Xc;exact(Option.some.inj Xc).symm
    have Yl:=(Zj.gr J).touch hI4.1 (by have:=Yw.o;omega);obtain⟨c0,c1,cl⟩:=Yl.k2;have Jv:=(Jp.o.sz _ (π Yn)).2;have Ja:=ι (π Yn);obtain⟨sa,Yo⟩:∃s,s=L[j].1:=⟨_,rfl⟩;obtain⟨sz,Yq⟩:∃s,s=L[j].2:=⟨_,rfl⟩;have Yt:=ι (θ Yo Yq);rw[<-Yo,<-Yq]at Jv⊢;have Ze:=ι hI4;have Xu:=(HI.o.r6.gr J).touch hI4.1 (by have:=Yw.o;omega);have Xq:=(HI.o.r7.gr J).touch hI4.1 (by have:=Yw.o;omega);have Jl:=ι Yn;by_cases Ye:c.fr<=sa/\sa+sz<=c.tp
    ·have e0:decide ((sa:Int)<(c.fr:Int))=false:=φ Ω;have e1:decide ((c.tp:Int)<(sa:Int)+(sz:Int))=false:=φ Ω;have e2:decide (sa<c.fr)=false:=φ Ω;have Jt:=ι Ye;clear Xd hI4 Xc ht4 Yo Yq Ye Xu Xq;gi_wp2;refine⟨AB.refl _ _,j+1,rfl,Ze.o.1,Jl.o,λi h hij=>?_⟩;rcases χ i j with h'|h'
     ·exact Ze.o.2.2 i h h'
     ·obtain rfl:i=j:=Ω
      rw[<-Yt.o.1,<-Yt.o.2];exact Jt.o
    ·have Jz:Hid (∃o∈L,¬(c.fr<=o.1/\o.1+o.2<=c.tp)):=⟨L[j],Ja.o,by rw[<-Yt.o.1,<-Yt.o.2];exact Ye⟩;have Jy:=ι Xu;have Ji:=ι Xq;have z6:=Xu.cc 0;have z7:=Xq.cc 0;have zf6:=Xu.free 0;have zf7:=Xq.free 0;have zl7:=Xq.lt
     have Xb:Hid (∀W5,W5=(W4.setCell ⟨w.heap.size+1,0,none⟩ (.pointer none)).setCell ⟨w.heap.size+1+1,0,none⟩ (.int .i64 25)->AB (λk=>k<W1.heap.size\/W1.heap.size+(2+4)<=k) W4 W5/\(AB (λi=>(i=w.heap.size+1\/i=w.heap.size+2)\/W1.heap.size<=i) W1 W5/\W5.cell? ⟨w.heap.size+1,0,none⟩=some (.pointer none)/\W5.cell? ⟨w.heap.size+2,0,none⟩=some (iI 25)/\∃o∈L,¬(c.fr<=o.1/\o.1+o.2<=c.tp))):=⟨λW5 hW5=>by
      have tg:AB (λi=>i=w.heap.size+1\/i=w.heap.size+2) W4 W5:=by
       rw[hW5];exact((AB.refl _ W4).setCell (a:=⟨w.heap.size+1,0,none⟩) (λ_=>.inl rfl) _).setCell (a:=⟨w.heap.size+1+1,0,none⟩) (λ_=>.inr rfl) _
      have b6:Rec W5 (w.heap.size+1) 93 [.pointer none]:=by
       rw[hW5];exact(Jy.o.set 0 (.pointer none)).touch ((AB.refl (λi=>i=w.heap.size+1+1) _).setCell (a:=⟨w.heap.size+1+1,0,none⟩) (λ_=>rfl) _) Ω
      have b7:Rec W5 (w.heap.size+2) 27 [iI 25]:=by
       rw[hW5];exact(Ji.o.touch ((AB.refl (λi=>i=w.heap.size+1) W4).setCell (a:=⟨w.heap.size+1,0,none⟩) (λ_=>rfl) (.pointer none)) Ω).set 0 (iI 25)
      refine⟨tg.mono (λb _ h=>.inl (by have:=Yw.o;omega)),(Ze.o.1.mono (λ_ _ h=>.inr h)).trans (tg.mono (λ_ _ h=>.inl h)),b6.cc 0,b7.cc 0,Jz.o⟩⟩
     clear Xd hI4 Xc ht4 Xu Xq Yo Yq;by_cases Yp:sa<c.fr
     ·have e0:decide ((sa:Int)<(c.fr:Int))=true:=κ Ω;have e2:decide (sa<c.fr)=true:=κ Yp;clear Ye Yp;gi_wp2;exact⟨(Xb.o _ rfl).1,rfl,(Xb.o _ rfl).2⟩
     ·have e0:decide ((sa:Int)<(c.fr:Int))=false:=φ Ω;have e2:decide (sa<c.fr)=false:=φ Yp;have e1:decide ((c.tp:Int)<(sa:Int)+(sz:Int))=true:=κ Ω;clear Ye Yp;gi_wp2;exact⟨(Xb.o _ rfl).1,rfl,(Xb.o _ rfl).2⟩
   case done=>
    rintro D j W3 hD rfl Xd hK;have Yb:=(HI.o.r6.gr J).touch Xd.1 (by have:=HI.o.r6.lt;omega);have Yh:=(HI.o.r7.gr J).touch Xd.1 (by have:=HI.o.r7.lt;omega);have q0:=Yb.cc 0;have q1:=Yb.free 0;have ql:=Yb.lt;have p0:=Yh.cc 0;have Jj:=Yh.free 0;have pl:=Yh.lt;have HK:=ι hK;have HD:=ι hD;have Yr:=ι Xd;have E:=ι Yb;have Jk:=ι Yh;have hs3:=Xd.1.size;clear hK hD Xd Yb Yh;gi_wp2
    have tg:AB (λi=>i=w.heap.size+1\/i=w.heap.size+2) W3 ((W3.setCell ⟨w.heap.size+1,0,none⟩ (.pointer (some ⟨m,0,none⟩))).setCell ⟨w.heap.size+1+1,0,none⟩ (.int .i64 0)):=
     ((AB.refl _ W3).setCell (a:=⟨w.heap.size+1,0,none⟩) (λ_=>.inl rfl) _).setCell (a:=⟨w.heap.size+1+1,0,none⟩) (λ_=>.inr rfl) _
    have b6:Rec ((W3.setCell ⟨w.heap.size+1,0,none⟩ (.pointer (some ⟨m,0,none⟩))).setCell ⟨w.heap.size+1+1,0,none⟩ (.int .i64 0)) (w.heap.size+1) 93 [pP m]:=
     (E.o.set 0 (pP m)).touch ((AB.refl (λi=>i=w.heap.size+1+1) _).setCell (a:=⟨w.heap.size+1+1,0,none⟩) (λ_=>rfl) _) Ω
    have b7:Rec ((W3.setCell ⟨w.heap.size+1,0,none⟩ (.pointer (some ⟨m,0,none⟩))).setCell ⟨w.heap.size+1+1,0,none⟩ (.int .i64 0)) (w.heap.size+2) 27 [iI 0]:=
     (Jk.o.touch ((AB.refl (λi=>i=w.heap.size+1) W3).setCell (a:=⟨w.heap.size+1,0,none⟩) (λ_=>rfl) (pP m)) Ω).set 0 (iI 0)
    have hD:=HD.o;have Zm:=(tg.block D (ζo.1 HK.o).1 Ω).trans HK.o;generalize ((W3.setCell ⟨w.heap.size+1,0,none⟩ (.pointer (some ⟨m,0,none⟩))).setCell ⟨w.heap.size+1+1,0,none⟩ (.int .i64 0))=W5 at *
    have k6:=b6.cc 0;have k7:=b7.cc 0;rw[show w.heap.size+2=w.heap.size+1+1 from rfl]at k7;refine⟨by simp,.inl ⟨_,_,rfl,run_takeDeferred Zm,?_⟩⟩;have Zf:=cell_kept k6 (grownBy_putObj' _ D (.deferred none)) (λr e=>by cases e;exact⟨_,Zm,rfl⟩);have Yx:=cell_kept k7 (grownBy_putObj' _ D (.deferred none)) (λr e=>by cases e;exact⟨_,Zm,rfl⟩);have tD:AB (λi=>W1.heap.size<=i) W5 (W5.putObj D (.deferred none)):=C6 _ D _ Ω;refine⟨.tuple #[pP m,iI 0],?_,?_,?_,.inl ⟨L,m,p1,b1,p2,b2,⟨Jd.o,λo ho=>?_⟩,rfl,?_,?_⟩⟩
    ·simp[results,f157,go_sem,Zf,Yx]
    ·exact(((HI.o.t.trans (J.touch _)).trans' Yr.o.1 (λi hi h=>by omega)).trans' tg (λi hi h=>by omega)).trans' tD (λi hi h=>by omega)
    ·exact(((HI.o.vm.gr J).touch Yr.o.1 (λi hi _ h=>by have:=hi.2;omega)).touch tg (λi hi _ h=>by have:=hi.2;omega)).touch tD (λi hi _ h=>by have:=hi.2;omega)
    ·obtain⟨i,hi,rfl⟩:=ζp ho;have:=Yr.o.2.2 i hi hi;omega
    ·have hl:=HI.o;have l0:=hl.lm;have l1:=hl.l1;have l2:=hl.l2;have l3:=hl.l3;have l4:=hl.l4;exact((((Zh.o.gr J).touch Yr.o.1 Ω Ω Ω Ω Ω)).touch tg Ω Ω Ω Ω Ω).touch tD Ω Ω Ω Ω Ω
    ·have hl:=HI.o;have l0:=hl.lm;have l1:=hl.l1;have l2:=hl.l2;have l3:=hl.l3;have l4:=hl.l4;omega
   case stop=>
    rintro D cd W3 hD ⟨rfl,N,h1,h2,Xa⟩ hK;have Jm:=ι Xa;have HK:=ι hK;have Zp:=ι N;have Jo:=N.size;clear Xa hK N;gi_wp2;refine⟨by simp,.inl ⟨_,_,rfl,run_takeDeferred HK.o,?_⟩⟩;have Zf:=cell_kept h1 (grownBy_putObj' _ D (.deferred none)) (λr e=>by cases e;exact⟨_,HK.o,rfl⟩);have Yx:=cell_kept h2 (grownBy_putObj' _ D (.deferred none)) (λr e=>by cases e;exact⟨_,HK.o,rfl⟩);rw[show w.heap.size+2=w.heap.size+1+1 from rfl]at Yx;have tD:AB (λi=>W1.heap.size<=i) W3 (W3.putObj D (.deferred none)):=C6 _ D _ Ω;refine⟨.tuple #[.pointer none,iI 25],?_,?_,?_,.inr ⟨λL' h=>?_,rfl⟩⟩
    ·simp[results,f157,go_sem,Zf,Yx]
    ·exact(((HI.o.t.trans (J.touch _)).trans' Zp.o (λi hi h=>by omega))).trans' tD (λi hi h=>by omega)
    ·exact((HI.o.vm.gr J).touch Zp.o (λi hi _ h=>by have:=hi.2;omega)).touch tD (λi hi _ h=>by have:=hi.2;omega)
    ·have e:=h.1.unique Jd.o;subst e;obtain⟨o,ho,Xa⟩:=Jm.o;have:=h.2 o ho;exact Xa Ω
  ·have q0:=Xp.cc 0;have q1:=Xp.free 0;have ql:=Xp.lt;have p0:=Xm.cc 0;have Jj:=Xm.free 0;have pl:=Xm.lt;have Ju:=ι Zz;have Zl:=ι Xp;have Zb:=ι Xm;clear Xp Xm Zz Zj;gi_wp2
   have tg:AB (λi=>i=w.heap.size+1\/i=w.heap.size+2) wc ((wc.setCell ⟨w.heap.size+1,0,none⟩ (.pointer none)).setCell ⟨w.heap.size+1+1,0,none⟩ (.int .i64 25)):=
    ((AB.refl _ wc).setCell (a:=⟨w.heap.size+1,0,none⟩) (λ_=>.inl rfl) _).setCell (a:=⟨w.heap.size+1+1,0,none⟩) (λ_=>.inr rfl) _
   have b6:Rec ((wc.setCell ⟨w.heap.size+1,0,none⟩ (.pointer none)).setCell ⟨w.heap.size+1+1,0,none⟩ (.int .i64 25)) (w.heap.size+1) 93 [.pointer none]:=
    (Zl.o.set 0 (.pointer none)).touch ((AB.refl (λi=>i=w.heap.size+1+1) _).setCell (a:=⟨w.heap.size+1+1,0,none⟩) (λ_=>rfl) _) Ω
   have b7:Rec ((wc.setCell ⟨w.heap.size+1,0,none⟩ (.pointer none)).setCell ⟨w.heap.size+1+1,0,none⟩ (.int .i64 25)) (w.heap.size+2) 27 [iI 25]:=
    (Zb.o.touch ((AB.refl (λi=>i=w.heap.size+1) wc).setCell (a:=⟨w.heap.size+1,0,none⟩) (λ_=>rfl) (.pointer none)) Ω).set 0 (iI 25)
   generalize ((wc.setCell ⟨w.heap.size+1,0,none⟩ (.pointer none)).setCell ⟨w.heap.size+1+1,0,none⟩ (.int .i64 25))=W5 at *
   have k6:=b6.cc 0;have k7:=b7.cc 0;rw[show w.heap.size+2=w.heap.size+1+1 from rfl]at k7;refine⟨.tuple #[.pointer none,iI 25],?_,?_,?_,.inr ⟨λL' h=>Ju.o h.1.sound,rfl⟩⟩
   ·simp[results,f157,go_sem,k6,k7]
   ·exact HI.o.t.trans' tg (λi hi h=>by omega)
   ·exact HI.o.vm.touch tg (λi hi _ h=>by have:=hi.2;omega)
end
end
section
attribute [local go_sem] Oper.semAt_some
theorem Qkw{b1 b2:Nat}(hE:Ext w m p1 b1 p2 b2 n L)(hT:AP w){B:Nat}(hB:BG B=true)(hb:base<2147483648):
  Calls prog 158 #[pP m,iI B,iI base] w λe w'=>∃p,e=.returned (.tuple #[pP p,iI 0])/\Gr w w'/\Pln w' w.heap.size p n B base L:=by
 have hbp:=DA hB;refine(YGs hE hT (B:Int) (base:Int) Ω).mono ?_;have hbo:FQ (base:Int)=true:=by unfold FQ;grind
 rintro e w' ⟨hg,(⟨h,-⟩|⟨-,p,B',base',e1,e2,rfl,hP⟩)⟩
 ·simp_all
 grind
def PJ(w:World)(S:Nat->Prop)(q r g:Nat)(v:Vm)(rs:List Int)(c:Cf)(e:Ending)(w':World):Prop:=
 AB (λb=>b=g\/S b) w w' ∧
  (((∀L,¬EX v rs c.fr c.tp L)/\e=.returned (.tuple #[.pointer none,iI 25])/\AD w' S q v/\AR w' r g rs) ∨
  ∃L,EX v rs c.fr c.tp L ∧
   ((c.lm-c.to<sizes L/\e=.returned (.tuple #[.pointer none,iI 21])/\AD w' S q v/\AR w' r g rs) ∨
   (sizes L<=c.lm-c.to/\∃(y:Nat) (z:BZ) (R S':Nat->Prop) (v':Vm) (j:Nat),e=.returned (.tuple #[pP y,iI 0])/\Cyc w' R y q z (AX v c L)/\AD w' S' q v'/\(∀b,S' b->S b\/w.heap.size<=b)/\(∀b,R b->w.heap.size<=b/\¬S' b) ∧
    EN (AX v c L) v v' (c.fr/v.pl.pg) j/\c.tp<=(c.fr/v.pl.pg+j)*v.pl.pg/\(∀i,i<j->(c.fr/v.pl.pg+i)*v.pl.pg<c.tp)/\AR w' r g (rs.map (toV L c.to)))))
theorem ZHF:(prog.info? 4).map (λi=>(i.zero,i.size,i.bytes))=some (some (.bool false),1,1):=by kernel_rfl
structure OpJ(wa w:World)(D:Nat->Bool)(q p m nb:Nat)(c:Cf)(v55 v56 v57 v58 v59 v60 v61 v62 v63 v64 v65 v66 v67 v13:Value):Prop where
 e55:v55=pP q
 e56:v56=.agg #[iI c.fr,iI c.tp,iI c.to,iI c.lm,iI c.bk,iI c.st,iI c.ah]
 e57:v57=pP p
 e58:v58=pP m
 e59:v59=pP p
 e62:v62=pP p
 e60:D 5=true->v60=iI nb
 e61:D 6=true->∃b,v61=.slice (some ⟨b,0,none⟩) nb nb/\w.ownsRow 0 4 1 v61 nb (List.replicate nb (.bool false))/\wa.heap.size<=b
 e63:D 8=true->v63=iI nb
 e64:D 9=true->∃b,v64=.map (some b)/\BB prog 3 w b 0 (λ_=>none)/\wa.heap.size<=b
 e65:D 10=true->∃b,v65=.map (some b)/\BB prog 3 w b 0 (λ_=>none)/\wa.heap.size<=b
 ne:D 9=true->D 10=true->v64≠v65
 e66:D 11=true->D 6=true/\D 8=true/\D 9=true/\D 10=true/\v66=.agg #[v55,iI c.fr,iI c.tp,iI c.to,iI c.lm,iI c.bk,iI c.st,iI c.ah,v57,v58,v61,v63,iI 0,iI 0,v64,v65]
 e67:D 12=true->D 11=true/\∃b,v67=pP b/\wa.heap.size<=b/\Rec w b 149 [v55,iI c.fr,iI c.tp,iI c.to,iI c.lm,iI c.bk,iI c.st,iI c.ah,v57,v58,v61,v63,iI 0,iI 0,v64,v65]
 e13:D 13=true->∃b,v13=pP b/\wa.heap.size<=b/\Rec w b 81 [if D 14 then v67 else .pointer none]
 d14:D 14=true->D 12=true/\D 13=true
 t:AB (λi=>wa.heap.size<=i) wa w
theorem OpJ.gr{wa:World}{D:Nat->Bool}{c:Cf}{v55 v56 v57 v58 v59 v60 v61 v62 v63 v64 v65 v66 v67 v13:Value}(h:OpJ wa w D q p m nb c v55 v56 v57 v58 v59 v60 v61 v62 v63 v64 v65 v66 v67 v13)(g:Gr w w'):OpJ wa w' D q p m nb c v55 v56 v57 v58 v59 v60 v61 v62 v63 v64 v65 v66 v67 v13:=
 ⟨h.e55,h.e56,h.e57,h.e58,h.e59,h.e62,h.e60,λd=>by obtain⟨b,h1,h2,h3⟩:=h.e61 d;exact⟨b,h1,CU h2 g,h3⟩,h.e63,λd=>by obtain⟨b,h1,h2,h3⟩:=h.e64 d;exact⟨b,h1,h2.gr g,h3⟩,λd=>by obtain⟨b,h1,h2,h3⟩:=h.e65 d;exact⟨b,h1,h2.gr g,h3⟩,h.ne,h.e66,
  λd=>by obtain⟨h0,b,h1,h2,h3⟩:=h.e67 d;exact⟨h0,b,h1,h2,h3.gr g⟩,λd=>by obtain⟨b,h1,h2,h3⟩:=h.e13 d;exact⟨b,h1,h2,h3.gr g⟩,h.d14,h.t.trans (g.touch _)⟩
def OpI(wa:World)(q p m nb:Nat)(c:Cf)(a0:Act)(D:Nat->Bool)(a:Act)(w:World):Prop:=
 ∃v55 v56 v57 v58 v59 v60 v61 v62 v63 v64 v65 v66 v67 v13:Value,a=(((((((((((((a0.put (some 55) v55).put (some 56) v56).put (some 57) v57).put (some 58) v58).put (some 59) v59).put (some 60) v60).put (some 61) v61).put (some 62) v62).put (some 63) v63).put (some 64) v64).put (some 65) v65).put (some 66) v66).put (some 67) v67).put (some 13) v13/\OpJ wa w D q p m nb c v55 v56 v57 v58 v59 v60 v61 v62 v63 v64 v65 v66 v67 v13
theorem Sl.on_next(s:Sl)(hm:mm<sizes s.L)(q:Nat):s.on (λi=>decide (i<mm+1)) q=s.on (λi=>decide (i<mm)) q+(if AG s.L mm/s.pg=q then 1 else 0):=by
 have h:=Sl.on_but (s:=s) (U:=λi=>decide (i<mm+1)) (i:=mm) (q:=q) hm (by simp)
 have e:s.on (but (λi=>decide (i<mm+1)) mm) q=s.on (λi=>decide (i<mm)) q:=Sl.on_congr λj _=>by
  unfold but
  grind
 omega
theorem Y0x(hg:AO n L):L.length<=sizes L:=by
 have:∀l:List Ob,(∀o∈l,1<=o.2)->l.length<=sizes l:=λl=>by
  induction l with
  | nil=>simp_all
  | cons o r ih=>
   intro h;have h1:=ih (λx hx=>h x (ζm _ hx));have h2:=h o (ζi ..);simp only[ζA,sizes];omega
 exact this L (λo ho=>(hg.sz o ho).1)
structure OpA(W5 A:World)(b64 b65:Nat)(v:Vm)(s:Sl)(j mm:Nat):Prop where
 t:AB (λi=>(i=b64\/i=b65)\/W5.heap.size<=i) W5 A
 sh:∃n f,BB prog 3 A b65 n f/\n<=j/\∀i (h:i<s.L.length),i<j->f (s.L[i].1:Nat)=some (AJ (v.rdH (s.L[i].1:Nat)))
 wd:∃n f,BB prog 3 A b64 n f/\n<=mm/\∀q:Nat,(f (q:Nat)).getD (iI 0)=iI (s.on (λi=>decide (i<mm)) q:Nat)
theorem OpA.win{s:Sl}{K:Nat}(h:OpA W5 A b64 b65 v s j mm)(h4:b64<W5.heap.size)(h5:b65<W5.heap.size)(t:AB (λk=>W5.heap.size<=k/\k<K) A B):OpA W5 B b64 b65 v s j mm:=by
 obtain⟨n1,f1,a1,a2,a3⟩:=h.sh;obtain⟨n2,f2,c1,c2,c3⟩:=h.wd;exact⟨h.t.trans (t.mono (λi _ h=>.inr h.1)),⟨n1,f1,a1.touch t (λh=>by omega),a2,a3⟩,⟨n2,f2,c1.touch t (λh=>by omega),c2,c3⟩⟩
theorem OpA.zero{s:Sl}(h4:BB prog 3 W5 b64 0 (λ_=>none))(h5:BB prog 3 W5 b65 0 (λ_=>none)):OpA W5 W5 b64 b65 v s 0 0:=
 ⟨AB.refl _ _,⟨0,_,h5,ν _,λi _ h=>absurd h (ζQ _)⟩,⟨0,_,h4,ν _,λq=>by
  have:s.on (λi=>decide (i<0)) q=0:=Sl.on_iff.2 (λj _ h=>by simp at h)
  simp_all⟩⟩
theorem OpA.hdr{s:Sl}(h:OpA W5 A b64 b65 v s j mm)(hj:j<s.L.length)(hne:b64≠b65)(hn:n<=j)(hf:∀i (h:i<s.L.length),i<j->f (s.L[i].1:Nat)=some (AJ (v.rdH (s.L[i].1:Nat))))(hg:AO s.n s.L)
  (hm:BB prog 3 B b65 (n+1) (λy=>if y=((s.L[j].1:Nat):Int)then some (AJ (v.rdH (s.L[j].1:Nat)))else f y)) (t:AB (λi=>i=b65) A B):OpA W5 B b64 b65 v s (j+1) mm:=by
 obtain⟨n2,f2,c1,c2,c3⟩:=h.wd;refine⟨h.t.trans (t.mono (λi _ h=>.inl (.inr h))),⟨n+1,_,hm,by omega,λi hi hij=>?_⟩,⟨n2,f2,c1.touch t hne,c2,c3⟩⟩
 grind
theorem OpA.word{s:Sl}(h:OpA W5 A b64 b65 v s j mm)(hm:mm<sizes s.L)(hne:b64≠b65)(hn:n<=mm)(hf:∀q:Nat,(f (q:Nat)).getD (iI 0)=iI (s.on (λi=>decide (i<mm)) q:Nat))
  (hx:x=s.on (λi=>decide (i<mm)) (AG s.L mm/s.pg)+1) (hM:BB prog 3 B b64 (n+1) (λy=>if y=((AG s.L mm/s.pg:Nat):Int)then some (iI x)else f y)) (t:AB (λi=>i=b64) A B):OpA W5 B b64 b65 v s j (mm+1):=by
 obtain⟨n1,f1,a1,a2,a3⟩:=h.sh;refine⟨h.t.trans (t.mono (λi _ h=>.inl (.inl h))),⟨n1,f1,a1.touch t (λe=>hne e.symm),a2,a3⟩,⟨n+1,_,hM,by omega,λq=>?_⟩⟩;rw[s.on_next hm q];by_cases e:AG s.L mm/s.pg=q
 ·simp_all
 grind
theorem VLI{w3 W7:World}{b1 b2 b61 lo:Nat}{c:Cf}{T:Nat->Prop}
  (hE2:Ext w2 m p1 b1 p2 b2 v.n L) (hg:Gr w2 w3) (hP:Pln w3 w2.heap.size p v.n c.bk c.to L) (hlo:lo<=w2.heap.size/\lo<=m/\lo<=p1/\lo<=b1/\lo<=p2/\lo<=b2)
  (t3:AB (λi=>w3.heap.size<=i) w3 W5) (hge:w3.heap.size<=y/\w3.heap.size<=b61/\w3.heap.size<=b64/\w3.heap.size<=b65) (hnb:nb=nbl (sizes L) c.bk)
  (hY:Rec W5 y 149 [pP q,iI c.fr,iI c.tp,iI c.to,iI c.lm,iI c.bk,iI c.st,iI c.ah,pP p,pP m,.slice (some ⟨b61,0,none⟩) nb nb,iI nb,iI 0,iI 0,.map (some b64),.map (some b65)])
  (hO:W5.ownsRow 0 4 1 (.slice (some ⟨b61,0,none⟩) nb nb) nb (List.replicate nb (.bool false))) (h4:BB prog 3 W5 b64 0 (λ_=>none)) (h5:BB prog 3 W5 b65 0 (λ_=>none)) (hne:b64≠b65)
  (hA:OpA W5 W7 b64 b65 v (AX v c L) L.length (sizes L)) (hT:∀i,i<W5.heap.size->i≠b64->i≠b65->¬T i) (t7:AB T W5 W7):
  Cyc W7 (λb=>lo<=b/\b<W5.heap.size) y q ⟨w2.heap.size,w3.heap.size,p,m,p1,b1,p2,b2,b65,b61,nb,b64⟩ (AX v c L):=by
 obtain⟨l1,l2,l3,l4,l5,l6⟩:=hlo;obtain⟨g1,g2,g3,g4⟩:=hge;have D:=hg.size;have s35:=t3.size;have s57:=t7.size;have hm:=hE2.hm;have N:=hE2.v1.hp;have I:=hE2.v1.hb;have O:=hE2.v2.hp;have M:=hE2.v2.hb;have V:=hY.lt;have X:=(BF hO rfl).2;have Z:=h4.lt;have U:=h5.lt;have n1:b61≠y:=AN hO hY (by decide) rfl rfl;have n2:=h4.ne (H8 hY);have n3:=h5.ne (H8 hY);obtain⟨J,Y⟩:=PM hO rfl;have n4:=h4.ne (q:=b61) ⟨J,_,Y⟩;have n5:=h5.ne (q:=b61) ⟨J,_,Y⟩;have G:Gr w3 W5:=(t3.mono (T:=λ_=>False) (λi hi h=>absurd hi (ξe h))).gr;obtain⟨nh,fh,a1,a2,a3⟩:=hA.sh;obtain⟨nw,fw,d1,d2,d3⟩:=hA.wd;refine⟨⟨hm,N,I,O,M,D,by show w3.heap.size<=_;omega,g1,g2,g3,g4,n1.symm,n2.symm,n3.symm,n4.symm,n5.symm,hne,⟨by omega,V⟩,⟨by show lo<=b61;omega,X⟩,⟨by show lo<=b64;omega,Z⟩,⟨by show lo<=b65;omega,U⟩,⟨l2,by show m<_;omega⟩,⟨l3,by show p1<_;omega⟩,⟨l4,by show b1<_;omega⟩,⟨l5,by show p2<_;omega⟩,⟨l6,by show b2<_;omega⟩,λk h1 h2=>⟨by have:w2.heap.size<=k:=h1;omega,by have:k<w3.heap.size:=h2;omega⟩,λk hk=>by omega⟩,?_,λW tW=>hP.touch ((t3.mono (λi _ h=>.inr h)).trans ((t7.mono (λi hi h=>?_)).trans tW)) (λk h1 h2 h=>by rcases h with h|h;(have:k<w2.heap.size:=h;omega);(have:w3.heap.size<=k:=h;omega)),?_,⟨nh,fh,a1,λj hj=>a3 j hj hj⟩,⟨nw,fw,d1,?_,λqq=>?_⟩,?_⟩
 ·have h:=hY.touch t7 (hT _ V n2.symm n3.symm);rw[X5,Q20,Q7];have hl:(AX v c L).mv.length=nb:=by rw[hnb];exact ζE
  rw[hl,<-hnb];exact h
 ·right
  show w3.heap.size<=i
  refine ξS λh'=>?_;exact hT i Ω Ω Ω h
 ·exact(((hE2.gr hg).gr G).touch t7 (hT _ Ω Ω Ω) (hT _ Ω Ω Ω) (hT _ Ω Ω Ω) (hT _ Ω Ω Ω) (hT _ Ω Ω Ω))
 ·have h1:cnt (λi=>!(AX v c L).is i) (sizes (AX v c L).L)<=sizes (AX v c L).L:=DZ _ _;have h2:nw<=sizes (AX v c L).L:=d2;omega
 ·rw[d3 qq]
  have:(AX v c L).on (λi=>decide (i<sizes L)) qq=(AX v c L).on (λi=>!(AX v c L).is i) qq:=Sl.on_congr λi hi=>by
   have E:i<sizes L:=hi;rw[LC,κ E];rfl
  rw[this]
 ·have h:=BX hO t7 (λg hg=>by cases hg;exact hT _ X n4.symm n5.symm);have hl:(AX v c L).mv.length=nb:=by rw[hnb];exact ζE
  have hb:bls (AX v c L).mv=List.replicate nb (.bool false):=by
   show (List.replicate (nbl (sizes L) c.bk) false).map Value.bool=_
   rw[List.map_replicate,hnb]
  rw[hl,hb];exact h
structure UmO(w8 wx:World)(S5:Nat->Prop)(q:Nat)(s:Sl)(v:Vm)(q0 j pg tp:Nat):Prop where
 t:AB S5 w8 wx
 vm:∃Sj v',(∀b,Sj b->plus S5 w8 b)/\AD wx Sj q v'/\EN s v v' q0 j
 q1:∀i,i<j->(q0+i)*pg<tp
section
variable{g:Nat}{c:Cf}
theorem VBz(hV:AD w S q v)(hR:AR w r g rs)(hT:AP w)(htS:¬S 1)(hrS:¬S r)(hgS:¬S g)(hcf:GW v.pl.pg v.n c)(htr:1≠g):
  Calls prog 112 #[pP q,pP r,cfV c] w (PJ w S q r g v rs c):=by
 have HV:=ι hV.cut;have HR:=ι hR;have HT:=ι hT;have Xz:=ι (θ htS (θ hrS (θ hgS htr)));have Nr:=hT.lt;have hrl:=hR.lt;have hn2:=hV.ok.n2;have Oz:=hV.ok.page;have Mp:=ι hV.ok;have Vy:=ι hcf;have Es:1<=v.n:=by have:=hcf.fr;have:=hcf.tp;have:=hcf.tn;omega
 have Vl:rs.length≠0:=λe=>hR.ne (ζw e);have Iz:=hR.le;have hcb:c.lm<=v.n/\c.to<=c.lm/\c.fr<=c.tp/\c.tp<=v.n:=⟨hcf.ln,hcf.lm,hcf.tp,hcf.tn⟩;have Jw:=ι (λ(W:World) (gW:Gr w W)=>VT (hR.gr gW));have Na:=ι (λ(W:World) (gW:Gr w W)=>ZL (hV.gr gW) hcf);have Ie:=ι (λ(W:World) (gW:Gr w W)=>YeD (c:=c) (hV.cut.gr gW) Es (hR.gr gW) (gW.tab Nr hT) (λh=>htS h.1) hcf.st);unfold cfV at Na Ie⊢;obtain⟨n,Vb⟩:∃n,n=rs.length:=⟨_,rfl⟩;have HN:=ι Vb;rw[<-Vb]at Vl Iz Jw;have d0:((n:Int)==0)=false:=by simp;omega
 have Nf:=ι (((Gr.refl w).alloc (.cells #[.pointer (some ⟨q,0,none⟩)] 78)).alloc (.cells #[.int .i64 c.fr,.int .i64 c.tp,.int .i64 c.to,.int .i64 c.lm,.int .i64 c.bk,.int .i64 c.st,.int .i64 c.ah] 143));have Nd:=(Rec.new w 78 [pP q]).gr ((Gr.refl _).alloc (.cells #[.int .i64 c.fr,.int .i64 c.tp,.int .i64 c.to,.int .i64 c.lm,.int .i64 c.bk,.int .i64 c.st,.int .i64 c.ah] 143));have On:=J7 w (.cells #[.pointer (some ⟨q,0,none⟩)] 78) 143 [.int .i64 c.fr,.int .i64 c.tp,.int .i64 c.to,.int .i64 c.lm,.int .i64 c.bk,.int .i64 c.st,.int .i64 c.ah];obtain⟨W0,Zk⟩:∃W0,W0=(w.alloc (.cells #[.pointer (some ⟨q,0,none⟩)] 78)).alloc (.cells #[.int .i64 c.fr,.int .i64 c.tp,.int .i64 c.to,.int .i64 c.lm,.int .i64 c.bk,.int .i64 c.st,.int .i64 c.ah] 143):=⟨_,rfl⟩;have Ua:W0.heap.size=w.heap.size+2:=by rw[Zk];simp only[β]
 have Vh:Hid (Rec W0 w.heap.size 78 [pP q]):=⟨by rw[Zk];exact Nd⟩;have Ye:Hid (Rec W0 (w.heap.size+1) 143 [.int .i64 c.fr,.int .i64 c.tp,.int .i64 c.to,.int .i64 c.lm,.int .i64 c.bk,.int .i64 c.st,.int .i64 c.ah]):=⟨by rw[Zk];exact On⟩;have Uu:Hid (Gr w W0):=⟨by rw[Zk];exact Nf.o⟩;have HS0:=ι Ua;clear hV hR hT htS hrS hgS htr hcf Vb Nd On Nf Ua;refine(τ (n:=5)).1 ?_;refine callsIn_of_wp_marks func112 rfl trivial ?_ rfl;simp only[ntmps112,ζS,ζA,ζ6,Nat.reduceAdd,Nat.reduceSub,ζJ,ζI,ζX,ζO,ζV,ζr];gi_upto_region 1 with(fail);rw[<-Zk];clear Zk;have z3:=Vh.o.cc 0;have Jl:=Ye.o.cc 0;have Jg:=Ye.o.cc 1;have Zj:=Ye.o.cc 2;have Jn:=Ye.o.cc 3;have Zi:=Ye.o.cc 4;have Jj:=Ye.o.cc 5;have Jk:=Ye.o.cc 6;have Jq:=Vh.o.lt;have Zg:=Ye.o.lt
 gi_upto_region 6 with(first
  | (refine⟨trivial,?_⟩;gi_at_call 155;refine(τ.2 (Jw.o _ Uu.o)).mono ?_;rintro e w1 ⟨rfl,rfl⟩)
  | (refine⟨trivial,?_⟩;gi_at_call 156;refine(τ.2 (Na.o _ Uu.o)).mono ?_;rintro e w1 ⟨rfl,Jo⟩;have Xq:=ι (Uu.o.trans Jo);have Ja:=ι (Vh.o.gr Jo);have Xp:=ι (Ye.o.gr Jo);clear Jo))
 clear z3 Jl Jg Zj Jn Zi Jj Jk Jq Zg;have z3:=Ja.o.cc 0;have Jl:=Xp.o.cc 0;have Jg:=Xp.o.cc 1;have Zj:=Xp.o.cc 2;have Jn:=Xp.o.cc 3;have Zi:=Xp.o.cc 4;have Jj:=Xp.o.cc 5;have Jk:=Xp.o.cc 6;have Jq:=Ja.o.lt;have Zg:=Xp.o.lt;have Og:=Xq.o.size;gi_upto_region 7 with(refine⟨trivial,?_⟩;gi_at_call 157;refine(τ.2 (Ie.o _ Xq.o)).mono ?_;rintro e w2 ⟨Oc,Mv,(⟨L,m,p1,b1,p2,b2,hI,rfl,hE,Nm,Ns,Mx,Zd,Zv⟩|⟨Nb,rfl⟩)⟩ <;> (have Yb:=ι Oc;have Vd:=ι Mv;clear Oc Mv))
 ·clear z3 Jl Jg Zj Jn Zi Jj Jk Jq Zg;have HI:=ι hI;have HX:=ι hE;have Zq:=ι (θ Nm (θ Ns (θ Mx (θ Zd Zv))));clear hI hE Nm Ns Mx Zd Zv;have Uo:=ι (Ja.o.touch Yb.o (λh=>by have:=h.2;omega));have Yx:=ι (Xp.o.touch Yb.o (λh=>by have:=h.2;omega));have Yp:Hid (AP w2):=⟨(Xq.o.tab Nr HT.o).touch' Yb.o (λh=>Xz.o.1 h.1)⟩;have Ef:=ι (Qkw HX.o Yp.o Vy.o.bk (base:=c.to) Ω);have z3:=Uo.o.cc 0;have Zj:=Yx.o.cc 2;have Zi:=Yx.o.cc 4;have Zg:=Yx.o.lt;have Ed:=Yb.o.size;gi_upto_region 10 with(refine⟨trivial,?_⟩;gi_at_call 158;refine(τ.2 (Ef.o)).mono ?_;rintro e w3 ⟨p,rfl,Oe,hP⟩;have Xs:=ι Oe;have Vo:=ι hP;clear Oe hP);clear z3 Zj Zi Zg;have Yc:=ι (Uo.o.gr Xs.o);have I:=ι (Yx.o.gr Xs.o);obtain⟨Ve,Im,Lf,f,c0,c1,hF⟩:=Vo.o;have Oo:=ι (λ(W:World) (gW:Gr w3 W)=>VP ((gW.cell Ve 0).trans c0));have Vv:=ι (λ(W:World) (gW:Gr w3 W)=>YG (hF.gr gW));obtain⟨N,hN⟩:∃N,N=sizes L:=⟨_,rfl⟩;have Jp:=ι hN;have hNb:N<=1048576:=by rw[hN];have:=FK HX.o.good;omega
  rw[<-hN]at Vv;have x3:=I.o.cc 3;have x2:=I.o.cc 2;have xl:=I.o.lt;have hpl:=Ve;clear Ve Im Lf c0 c1 hF hN;by_cases Yw:c.lm-c.to<N
  ·have d9:decide ((c.lm:Int)-(c.to:Int)<(N:Int))=true:=κ Ω;have Yu:=ι Yw;clear Yw;obtain⟨Sx,Y,HS⟩:=AA.start λW'=>W'.cell? ⟨w.heap.size+1,3,none⟩=some (.int .i64 c.lm)/\W'.cell? ⟨w.heap.size+1,2,none⟩=some (.int .i64 c.to);have y1:=AA.fact Y λ_ h=>h.1;have y2:=AA.fact Y λ_ h=>h.2;have U:=HS.o (w3.drew) (⟨x3,x2⟩);have M:Inhabited (AA Sx):=⟨⟨_,U⟩⟩;clear Y;refine FZ Sx 9 [([0,3,4,5,6,7],1),([],2)] [8] F8 (by kernel_rfl) (by kernel_rfl) U ?_;refine C0 ?_
   try simp only[AC,ζ,ξ]
   repeat(go_big_quiet_step (fail))
   refine ψ ?_;gi_wp2_with((refine⟨trivial,?_⟩;gi_at_call 159;refine(τ.2 (Oo.o _ (Gr.refl w3).drew)).mono ?_;rintro e w4 ⟨rfl,rfl⟩));refine⟨.inr (AA.of (HS.o _ (⟨x3,x2⟩))),?_⟩;refine C0 ?_
   try simp only[AC,ζ,ξ]
   repeat(go_big_quiet_step (fail))
   refine ψ ?_;gi_wp2_with((refine⟨trivial,?_⟩;gi_at_call 160;refine(τ.2 (Vv.o _ (Gr.refl w3).drew)).mono ?_;rintro e w4 ⟨rfl,rfl⟩));refine⟨.inr (AA.of (HS.o _ (⟨x3,x2⟩))),?_⟩;refine GH ?_
   try simp only[AC,ζ,ξ]
   repeat(go_big_quiet_step (fail))
   refine ψ ?_;refine ζb ?_;clear y1 y2 U M;clear HS Sx;clear x3 x2 xl;gi_wp2;have Ir:=((HR.o.gr Xq.o).touch Yb.o (λh=>Xz.o.2.1 h.1) (λh=>Xz.o.2.2.1 h.1)).gr Xs.o;refine⟨.tuple #[.pointer none,.int .i64 21],?_,?_,.inr ⟨L,HI.o,.inl ⟨by rw[<-Jp.o];exact Yu.o,rfl,((Vd.o.gr Xs.o).gr (Gr.refl w3).drew).mono (λb hb=>hb.1.1),Ir.gr (Gr.refl w3).drew⟩⟩⟩
   ·simp[results,f112,go_sem]
   ·have a1:AB (λb=>b=g\/S b) w w1:=Xq.o.touch _;have a2:=a1.trans (Yb.o.mono (λi _ h=>.inr h.1));exact a2.trans ((Xs.o.trans (Gr.refl w3).drew).touch _)
  ·have d9:decide ((c.lm:Int)-(c.to:Int)<(N:Int))=false:=φ Ω;have Yu:=ι Yw;clear Yw;obtain⟨Sx,Y,HS⟩:=AA.start λW'=>W'.cell? ⟨w.heap.size+1,3,none⟩=some (.int .i64 c.lm)/\W'.cell? ⟨w.heap.size+1,2,none⟩=some (.int .i64 c.to);have y1:=AA.fact Y λ_ h=>h.1;have y2:=AA.fact Y λ_ h=>h.2;have U:=HS.o (w3.drew) (⟨x3,x2⟩);have M:Inhabited (AA Sx):=⟨⟨_,U⟩⟩;clear Y;refine FZ Sx 9 [([0,3,4,5,6,7],1),([],2)] [8] F8 (by kernel_rfl) (by kernel_rfl) U ?_;refine C0 ?_
   try simp only[AC,ζ,ξ]
   repeat(go_big_quiet_step (fail))
   refine ψ ?_;gi_wp2_with((refine⟨trivial,?_⟩;gi_at_call 159;refine(τ.2 (Oo.o _ (Gr.refl w3).drew)).mono ?_;rintro e w4 ⟨rfl,rfl⟩));refine⟨.inr (AA.of (HS.o _ (⟨x3,x2⟩))),?_⟩;refine C0 ?_
   try simp only[AC,ζ,ξ]
   repeat(go_big_quiet_step (fail))
   refine ψ ?_;gi_wp2_with((refine⟨trivial,?_⟩;gi_at_call 160;refine(τ.2 (Vv.o _ (Gr.refl w3).drew)).mono ?_;rintro e w4 ⟨rfl,rfl⟩));refine⟨.inr (AA.of (HS.o _ (⟨x3,x2⟩))),?_⟩;refine GH ?_
   try simp only[AC,ζ,ξ]
   repeat(go_big_quiet_step (fail))
   refine ψ ?_;refine ζb ?_;clear y1 y2 U M;clear HS Sx;clear x3 x2 xl;gi_upto_region 12 with(fail);obtain⟨nb,Vf⟩:∃nb,nb=nbl (sizes L) c.bk:=⟨_,rfl⟩;have Iy:=ι Vf
   have hnbb:nb<=1048576:=by
    have:=Vy.o.bk;have h1:=DA this;have h2:=KZ (n:=sizes L) (B:=c.bk) Ω;have h3:=Jp.o;omega
   have Jb:=ι (λ(W:World) (gW:Gr w3 W)=>VY (Vo.o.gr gW));rw[<-Vf]at Jb;clear Vf;have HTW:Hid (∀(W:World),AB (λi=>w3.drew.heap.size<=i) w3.drew W->Gr w3 W):=⟨λW t=>(Gr.refl w3).drew.trans (t.mono (T:=λ_=>False) (λi hi h=>absurd hi (ξe h))).gr⟩;have x3:=Yc.o.cc 0;have Mc:=I.o.cc 0;have Oa:=I.o.cc 1;have Nw:=I.o.cc 2;have Nt:=I.o.cc 3;have Od:=I.o.cc 4;have Ot:=I.o.cc 5;have Nl:=I.o.cc 6;obtain⟨Sx,Y⟩:∃Sx:World->Prop,Sx=λW'=>(W'.cell? ⟨w.heap.size,0,none⟩=some (pP q)/\W'.cell? ⟨w.heap.size+1,0,none⟩=some (.int .i64 c.fr))/\(W'.cell? ⟨w.heap.size+1,1,none⟩=some (.int .i64 c.tp)/\W'.cell? ⟨w.heap.size+1,2,none⟩=some (.int .i64 c.to))/\(W'.cell? ⟨w.heap.size+1,3,none⟩=some (.int .i64 c.lm)/\W'.cell? ⟨w.heap.size+1,4,none⟩=some (.int .i64 c.bk))/\W'.cell? ⟨w.heap.size+1,5,none⟩=some (.int .i64 c.st)/\W'.cell? ⟨w.heap.size+1,6,none⟩=some (.int .i64 c.ah):=⟨_,rfl⟩;have y3:∀p':AA Sx,p'.w.cell? ⟨w.heap.size,0,none⟩=some (pP q):=λp=>(AA.get Y p).1.1;have Iu:∀p':AA Sx,p'.w.cell? ⟨w.heap.size+1,0,none⟩=some (.int .i64 c.fr):=λp=>(AA.get Y p).1.2;have Iq:∀p':AA Sx,p'.w.cell? ⟨w.heap.size+1,1,none⟩=some (.int .i64 c.tp):=λp=>(AA.get Y p).2.1.1;have Il:∀p':AA Sx,p'.w.cell? ⟨w.heap.size+1,2,none⟩=some (.int .i64 c.to):=λp=>(AA.get Y p).2.1.2;have Eh:∀p':AA Sx,p'.w.cell? ⟨w.heap.size+1,3,none⟩=some (.int .i64 c.lm):=λp=>(AA.get Y p).2.2.1.1;have Eu:∀p':AA Sx,p'.w.cell? ⟨w.heap.size+1,4,none⟩=some (.int .i64 c.bk):=λp=>(AA.get Y p).2.2.1.2;have Ii:∀p':AA Sx,p'.w.cell? ⟨w.heap.size+1,5,none⟩=some (.int .i64 c.st):=λp=>(AA.get Y p).2.2.2.1;have Iw:∀p':AA Sx,p'.w.cell? ⟨w.heap.size+1,6,none⟩=some (.int .i64 c.ah):=λp=>(AA.get Y p).2.2.2.2;have Ih:=ι Y
   have Vq:Hid (∀W,Gr w3 W->∃p:AA Sx,W=p.w):=⟨λW gW=>by
    have l3:=Yc.o.lt;have l5:=I.o.lt;refine AA.of ?_;rw[Ih.o]
    exact⟨⟨(gW.cell l3 0).trans x3,(gW.cell l5 0).trans Mc⟩,⟨(gW.cell l5 1).trans Oa,(gW.cell l5 2).trans Nw⟩,⟨(gW.cell l5 3).trans Nt,(gW.cell l5 4).trans Od⟩,(gW.cell l5 5).trans Ot,(gW.cell l5 6).trans Nl⟩⟩
   have Yh:Hid (∀W,AB (λi=>w3.heap.size<=i) w3 W->∃p:AA Sx,W=p.w):=⟨λW tW=>Vq.o W ((tW.mono (T:=λ_=>False) (λi hi h=>absurd hi (ξe h))).gr)⟩;have Xd:Hid (∀W,AB (λi=>w3.heap.size<=i) w3 W->Gr w3 W):=⟨λW tW=>(tW.mono (T:=λ_=>False) (λi hi h=>absurd hi (ξe h))).gr⟩;obtain⟨i0,Er,Eg,Og,Mh⟩:=info_parts ZHF;have Ez:Hid (i0.bytes*nb<=281474976710656):=⟨by rw[Mh];omega⟩;have Ew:Hid (nb<=maxLen):=⟨by unfold maxLen;omega⟩;have Mq:Hid (nb*1<=16777216):=⟨by omega⟩;have U:Sx w3.drew:=by obtain⟨p,hp⟩:=Vq.o _ (Gr.refl w3).drew;rw[hp];exact p.h
   have M:Inhabited (AA Sx):=⟨⟨_,U⟩⟩;have Ny:Sx w3.drew.drew:=by obtain⟨p,hp⟩:=Vq.o _ ((Gr.refl w3).drew.drew);rw[hp];exact p.h
   clear Y x3 Mc Oa Nw Nt Od Ot Nl;refine VMF Sx [0,1,2,3,4,7] #[true,true,true,true,true,false,false,true,false,false,false,false,false,false,false] [(5,[]),(6,[5]),(8,[5]),(9,[]),(10,[]),(11,[6,8,9,10]),(12,[11]),(13,[]),(14,[12,13])] (OpI w3 q p m nb c) F8 (by kernel_rfl) (by kernel_rfl) Ny ?_ ⟨?_,?_,?_,?_,?_,?_,?_,?_,?_,trivial⟩ ?_
   ·simp only[AC,ζ,ξ]
    repeat(go_big_quiet_step (fail))
    refine ψ ?_;refine⟨pP q,.agg #[.int .i64 c.fr,.int .i64 c.tp,.int .i64 c.to,.int .i64 c.lm,.int .i64 c.bk,.int .i64 c.st,.int .i64 c.ah],pP p,pP m,pP p,undef,undef,pP p,undef,undef,undef,undef,undef,undef,by simp only[Act.put,ζf,ζq,ζs],?_⟩;refine⟨rfl,rfl,rfl,rfl,rfl,rfl,(λh=>by cases h),(λh=>by cases h),(λh=>by cases h),(λh=>by cases h),(λh=>by cases h),(λh=>by cases h),(λh=>by cases h),(λh=>by cases h),(λh=>by cases h),(λh=>by cases h),?_⟩;exact((Gr.refl w3).drew.drew).touch _
   ·rintro D a W ⟨Xb,Xg,Xj,Xi,E,Xe,Xk,Xa,Xm,Xn,Xl,Xh,Xf,Xc,rfl,hJ⟩ O hk hd;clear O;simp only[AC,ζ,ξ,Act.put,ζf,ζq,ζs];have HJ:=ι hJ;have HK:=ι hk;have HD:=ι hd;have Xo:=ι (Xd.o W hJ.t);obtain rfl:=hJ.e59;clear hJ hk hd;gi_wp2_with(refine⟨trivial,?_⟩;gi_at_call 161;refine(τ.2 (Jb.o W Xo.o)).mono ?_;rintro e w4 ⟨rfl,G⟩);refine⟨Yh.o _ ?_,Xb,Xg,Xj,Xi,pP p,.int .i64 nb,Xk,Xa,Xm,Xn,Xl,Xh,Xf,Xc,by simp only[Act.put,ζf,ζq,ζs],?_⟩
    ·exact HJ.o.t.trans (G.touch _)
    ·have X:=HJ.o.gr G;have hk:=HK.o;have hd:=HD.o;exact⟨X.e55,X.e56,X.e57,X.e58,X.e59,X.e62,(λ_=>rfl),X.e61,X.e63,X.e64,X.e65,X.ne,X.e66,X.e67,X.e13,X.d14,X.t⟩
   ·rintro D a W ⟨Xb,Xg,Xj,Xi,E,Xe,Xk,Xa,Xm,Xn,Xl,Xh,Xf,Xc,rfl,hJ⟩ O hk hd;clear O;simp only[AC,ζ,ξ,Act.put,ζf,ζq,ζs];have HJ:=ι hJ;have HK:=ι hk;have HD:=ι hd;have Xo:=ι (Xd.o W hJ.t);obtain rfl:=hJ.e60 (hd 5 (by simp));clear hJ hk hd;gi_wp2_with(gi_at_make;refine V63 _ rfl _ _ 145 rfl 0 4 i0 (.bool false) 1 underlying145 Er Eg Og .i64 .i64 nb rfl rfl Mq.o Ez.o Ew.o (ζh _) ?_;intro w4 Zr Je);have G:Gr W w4:=(JO Je (λ_=>False) (λk e _=>by cases e)).gr;rw[show (Value.bool false).cells=#[.bool false]from rfl,J0U,ξy]at Zr;have Ei:=ι Zr;clear Zr Je;gi_wp2;refine⟨Yh.o _ ?_,Xb,Xg,Xj,Xi,E,.int .i64 nb,.slice (some ⟨W.heap.size,0,none⟩) nb nb,Xa,Xm,Xn,Xl,Xh,Xf,Xc,by simp only[Act.put,ζf,ζq,ζs],?_⟩
    ·exact HJ.o.t.trans (G.touch _)
    ·have X:=HJ.o.gr G;have hk:=HK.o;have hd:=HD.o;exact⟨X.e55,X.e56,X.e57,X.e58,X.e59,X.e62,X.e60,(λ_=>⟨W.heap.size,rfl,Ei.o,Xo.o.size⟩),X.e63,X.e64,X.e65,X.ne,(λd=>by have h:=(HJ.o.e66 d).1;rw[hk]at h;cases h),(λd=>by have h:=(HJ.o.e66 (HJ.o.e67 d).1).1;rw[hk]at h;cases h),X.e13,X.d14,X.t⟩
   ·rintro D a W ⟨Xb,Xg,Xj,Xi,E,Xe,Xk,Xa,Xm,Xn,Xl,Xh,Xf,Xc,rfl,hJ⟩ O hk hd;clear O;simp only[AC,ζ,ξ,Act.put,ζf,ζq,ζs];have HJ:=ι hJ;have HK:=ι hk;have HD:=ι hd;have Xo:=ι (Xd.o W hJ.t);obtain rfl:=hJ.e62;clear hJ hk hd;gi_wp2_with(refine⟨trivial,?_⟩;gi_at_call 161;refine(τ.2 (Jb.o W Xo.o)).mono ?_;rintro e w4 ⟨rfl,G⟩);refine⟨Yh.o _ ?_,Xb,Xg,Xj,Xi,E,Xe,Xk,pP p,.int .i64 nb,Xn,Xl,Xh,Xf,Xc,by simp only[Act.put,ζf,ζq,ζs],?_⟩
    ·exact HJ.o.t.trans (G.touch _)
    ·have X:=HJ.o.gr G;have hk:=HK.o;have hd:=HD.o;exact⟨X.e55,X.e56,X.e57,X.e58,X.e59,X.e62,X.e60,X.e61,(λ_=>rfl),X.e64,X.e65,X.ne,(λd=>by have h:=(HJ.o.e66 d).2.1;rw[hk]at h;cases h),(λd=>by have h:=(HJ.o.e66 (HJ.o.e67 d).1).2.1;rw[hk]at h;cases h),X.e13,X.d14,X.t⟩
   ·rintro D a W ⟨Xb,Xg,Xj,Xi,E,Xe,Xk,Xa,Xm,Xn,Xl,Xh,Xf,Xc,rfl,hJ⟩ O hk hd;clear O;simp only[AC,ζ,ξ,Act.put,ζf,ζq,ζs];have HJ:=ι hJ;have HK:=ι hk;have HD:=ι hd;have Xo:=ι (Xd.o W hJ.t);clear hJ hk hd;refine Ya9 W rfl _ rfl ?_;gi_wp2;have G:Gr W (W.alloc (.map #[] 0)):=(Gr.refl W).alloc _;refine⟨Yh.o _ ?_,Xb,Xg,Xj,Xi,E,Xe,Xk,Xa,Xm,.map (some W.heap.size),Xl,Xh,Xf,Xc,by simp only[Act.put,ζf,ζq,ζs],?_⟩
    ·exact HJ.o.t.trans (G.touch _)
    ·have X:=HJ.o.gr G;have hk:=HK.o;have hd:=HD.o;exact⟨X.e55,X.e56,X.e57,X.e58,X.e59,X.e62,X.e60,X.e61,X.e63,(λ_=>⟨W.heap.size,rfl,BB.made W,Xo.o.size⟩),X.e65,(λ_ d e=>by obtain⟨b,h1,h2,-⟩:=HJ.o.e65 d;rw[h1]at e;have:=h2.lt;simp only[Value.map.injEq,Option.some.injEq]at e;omega),(λd=>by have h:=(HJ.o.e66 d).2.2.1;rw[hk]at h;cases h),(λd=>by have h:=(HJ.o.e66 (HJ.o.e67 d).1).2.2.1;rw[hk]at h;cases h),X.e13,X.d14,X.t⟩
   ·rintro D a W ⟨Xb,Xg,Xj,Xi,E,Xe,Xk,Xa,Xm,Xn,Xl,Xh,Xf,Xc,rfl,hJ⟩ O hk hd;clear O;simp only[AC,ζ,ξ,Act.put,ζf,ζq,ζs];have HJ:=ι hJ;have HK:=ι hk;have HD:=ι hd;have Xo:=ι (Xd.o W hJ.t);clear hJ hk hd;refine Ya9 W rfl _ rfl ?_;gi_wp2;have G:Gr W (W.alloc (.map #[] 0)):=(Gr.refl W).alloc _;refine⟨Yh.o _ ?_,Xb,Xg,Xj,Xi,E,Xe,Xk,Xa,Xm,Xn,.map (some W.heap.size),Xh,Xf,Xc,by simp only[Act.put,ζf,ζq,ζs],?_⟩
    ·exact HJ.o.t.trans (G.touch _)
    ·have X:=HJ.o.gr G;have hk:=HK.o;have hd:=HD.o;exact⟨X.e55,X.e56,X.e57,X.e58,X.e59,X.e62,X.e60,X.e61,X.e63,X.e64,(λ_=>⟨W.heap.size,rfl,BB.made W,Xo.o.size⟩),(λd _ e=>by obtain⟨b,h1,h2,-⟩:=HJ.o.e64 d;rw[h1]at e;have:=h2.lt;simp only[Value.map.injEq,Option.some.injEq]at e;omega),(λd=>by have h:=(HJ.o.e66 d).2.2.2.1;rw[hk]at h;cases h),(λd=>by have h:=(HJ.o.e66 (HJ.o.e67 d).1).2.2.2.1;rw[hk]at h;cases h),X.e13,X.d14,X.t⟩
   ·rintro D a W ⟨Xb,Xg,Xj,Xi,E,Xe,Xk,Xa,Xm,Xn,Xl,Xh,Xf,Xc,rfl,hJ⟩ O hk hd;clear O;simp only[AC,ζ,ξ,Act.put,ζf,ζq,ζs];have HJ:=ι hJ;have HK:=ι hk;have HD:=ι hd;have Xo:=ι (Xd.o W hJ.t);obtain rfl:=hJ.e56;obtain rfl:=hJ.e55;obtain rfl:=hJ.e57;obtain rfl:=hJ.e58;obtain rfl:=hJ.e63 (hd 8 (by simp));obtain⟨Yg,rfl,-,-⟩:=hJ.e61 (hd 6 (by simp));obtain⟨Z,rfl,-,-⟩:=hJ.e64 (hd 9 (by simp));obtain⟨J,rfl,-,-⟩:=hJ.e65 (hd 10 (by simp));clear hJ hk hd;gi_wp2;have G:Gr W W:=Gr.refl W;refine⟨Yh.o _ ?_,pP q,.agg #[.int .i64 c.fr,.int .i64 c.tp,.int .i64 c.to,.int .i64 c.lm,.int .i64 c.bk,.int .i64 c.st,.int .i64 c.ah],pP p,pP m,E,Xe,.slice (some ⟨Yg,0,none⟩) nb nb,Xa,.int .i64 nb,.map (some Z),.map (some J),.agg #[pP q,.int .i64 c.fr,.int .i64 c.tp,.int .i64 c.to,.int .i64 c.lm,.int .i64 c.bk,.int .i64 c.st,.int .i64 c.ah,pP p,pP m,.slice (some ⟨Yg,0,none⟩) nb nb,.int .i64 nb,.int .i64 0,.int .i64 0,.map (some Z),.map (some J)],Xf,Xc,by simp only[Act.put,ζf,ζq,ζs],?_⟩
    ·exact HJ.o.t.trans (G.touch _)
    ·have X:=HJ.o.gr G;have hk:=HK.o;have hd:=HD.o;exact⟨X.e55,X.e56,X.e57,X.e58,X.e59,X.e62,X.e60,X.e61,X.e63,X.e64,X.e65,X.ne,(λ_=>⟨hd 6 (by simp),hd 8 (by simp),hd 9 (by simp),hd 10 (by simp),rfl⟩),(λd=>by have h:=(HJ.o.e67 d).1;rw[hk]at h;cases h),X.e13,X.d14,X.t⟩
   ·rintro D a W ⟨Xb,Xg,Xj,Xi,E,Xe,Xk,Xa,Xm,Xn,Xl,Xh,Xf,Xc,rfl,hJ⟩ O hk hd;clear O;simp only[AC,ζ,ξ,Act.put,ζf,ζq,ζs];have HJ:=ι hJ;have HK:=ι hk;have HD:=ι hd;have Xo:=ι (Xd.o W hJ.t);obtain⟨d6,d8,Ic,Mi,rfl⟩:=hJ.e66 (hd 11 (by simp));obtain rfl:=hJ.e56;obtain rfl:=hJ.e55;obtain rfl:=hJ.e57;obtain rfl:=hJ.e58;obtain rfl:=hJ.e63 d8;obtain⟨Yg,rfl,-,-⟩:=hJ.e61 d6;obtain⟨Z,rfl,-,-⟩:=hJ.e64 Ic;obtain⟨J,rfl,-,-⟩:=hJ.e65 Mi;have Mb:=ι (Rec.new W 149 [pP q,.int .i64 c.fr,.int .i64 c.tp,.int .i64 c.to,.int .i64 c.lm,.int .i64 c.bk,.int .i64 c.st,.int .i64 c.ah,pP p,pP m,.slice (some ⟨Yg,0,none⟩) nb nb,.int .i64 nb,.int .i64 0,.int .i64 0,.map (some Z),.map (some J)]);have Jd:=ι ((Gr.refl W).alloc (.cells #[.pointer (some ⟨q,0,none⟩),.int .i64 c.fr,.int .i64 c.tp,.int .i64 c.to,.int .i64 c.lm,.int .i64 c.bk,.int .i64 c.st,.int .i64 c.ah,.pointer (some ⟨p,0,none⟩),.pointer (some ⟨m,0,none⟩),.slice (some ⟨Yg,0,none⟩) nb nb,.int .i64 nb,.int .i64 0,.int .i64 0,.map (some Z),.map (some J)] 149));clear d6 d8 Ic Mi;clear hJ hk hd;gi_wp2;refine⟨Yh.o _ ?_,pP q,.agg #[.int .i64 c.fr,.int .i64 c.tp,.int .i64 c.to,.int .i64 c.lm,.int .i64 c.bk,.int .i64 c.st,.int .i64 c.ah],pP p,pP m,E,Xe,.slice (some ⟨Yg,0,none⟩) nb nb,Xa,.int .i64 nb,.map (some Z),.map (some J),.agg #[pP q,.int .i64 c.fr,.int .i64 c.tp,.int .i64 c.to,.int .i64 c.lm,.int .i64 c.bk,.int .i64 c.st,.int .i64 c.ah,pP p,pP m,.slice (some ⟨Yg,0,none⟩) nb nb,.int .i64 nb,.int .i64 0,.int .i64 0,.map (some Z),.map (some J)],pP W.heap.size,Xc,by simp only[Act.put,ζf,ζq,ζs],?_⟩
    ·exact HJ.o.t.trans (Jd.o.touch _)
    ·have X:=HJ.o.gr Jd.o;have hk:=HK.o;have hd:=HD.o;exact⟨X.e55,X.e56,X.e57,X.e58,X.e59,X.e62,X.e60,X.e61,X.e63,X.e64,X.e65,X.ne,X.e66,(λ_=>⟨hd 11 (by simp),W.heap.size,rfl,Xo.o.size,Mb.o⟩),(λd=>by obtain⟨b,h1,h2,h3⟩:=X.e13 d;refine⟨b,h1,h2,?_⟩;cases h14:D 14 with|true=>(have:=(HJ.o.d14 h14).1;rw[hk]at this;cases this)|false=>(have e:upD D 12 14=false:=h14;rw[h14]at h3;rw[e];exact h3)),(λd=>⟨rfl,(X.d14 d).2⟩),X.t⟩
   ·rintro D a W ⟨Xb,Xg,Xj,Xi,E,Xe,Xk,Xa,Xm,Xn,Xl,Xh,Xf,Xc,rfl,hJ⟩ O hk hd;clear O;simp only[AC,ζ,ξ,Act.put,ζf,ζq,ζs];have HJ:=ι hJ;have HK:=ι hk;have HD:=ι hd;have Xo:=ι (Xd.o W hJ.t);have Mb:=ι (Rec.new W 81 [.pointer none]);have Jd:=ι ((Gr.refl W).alloc (.cells #[.pointer none] 81));clear hJ hk hd;gi_wp2;refine⟨Yh.o _ ?_,Xb,Xg,Xj,Xi,E,Xe,Xk,Xa,Xm,Xn,Xl,Xh,Xf,pP W.heap.size,by simp only[Act.put,ζf,ζq,ζs],?_⟩
    ·exact HJ.o.t.trans (Jd.o.touch _)
    ·have X:=HJ.o.gr Jd.o;have hk:=HK.o;have hd:=HD.o;exact⟨X.e55,X.e56,X.e57,X.e58,X.e59,X.e62,X.e60,X.e61,X.e63,X.e64,X.e65,X.ne,X.e66,X.e67,(λ_=>⟨W.heap.size,rfl,Xo.o.size,by cases h14:D 14 with|true=>(have:=(HJ.o.d14 h14).2;rw[hk]at this;cases this)|false=>(have e:upD D 13 14=false:=h14;rw[e];exact Mb.o)⟩),(λd=>⟨(X.d14 d).1,rfl⟩),X.t⟩
   ·rintro D a W ⟨Xb,Xg,Xj,Xi,E,Xe,Xk,Xa,Xm,Xn,Xl,Xh,Xf,Xc,rfl,hJ⟩ O hk hd;clear O;simp only[AC,ζ,ξ,Act.put,ζf,ζq,ζs];have HJ:=ι hJ;have HK:=ι hk;have HD:=ι hd;obtain⟨Yq,rfl,Ud,Yd⟩:=hJ.e13 (hd 13 (by simp));obtain⟨Lc,Jr,rfl,Ol,Ng⟩:=hJ.e67 (hd 12 (by simp));have Yk:=ι Yd;rw[hk]at Yd;have q0:=Yd.cc 0;have qf:=Yd.free 0;have ql:=Yd.lt;have Ju:=ι Ud;clear hJ hk hd Yd Ng Lc Ol Ud;gi_wp2;have tS:AB (λi=>i=Yq) W (W.setCell ⟨Yq,0,none⟩ (.pointer (some ⟨Jr,0,none⟩))):=(AB.refl (λi=>i=Yq) W).setCell (a:=⟨Yq,0,none⟩) (λ_=>rfl) _;have Ip:=Yk.o.set 0 (pP Jr);have tT:AB (λi=>w3.heap.size<=i) w3 (W.setCell ⟨Yq,0,none⟩ (.pointer (some ⟨Jr,0,none⟩))):=HJ.o.t.trans (tS.mono (λi _ h=>by rw[h];exact Ju.o));have hJ:=HJ.o;refine⟨Yh.o _ tT,Xb,Xg,Xj,Xi,E,Xe,Xk,Xa,Xm,Xn,Xl,Xh,pP Jr,pP Yq,by simp only[Act.put,ζf,ζq,ζs],?_⟩;exact⟨hJ.e55,hJ.e56,hJ.e57,hJ.e58,hJ.e59,hJ.e62,hJ.e60,(λd=>by obtain⟨b,h1,h2,h3⟩:=hJ.e61 d;exact⟨b,h1,BX h2 tS (λg' hg=>by rw[h1]at hg;cases hg;exact AN (by rw[h1]at h2;exact h2) Yk.o (by decide) rfl rfl),h3⟩),hJ.e63,(λd=>by obtain⟨b,h1,h2,h3⟩:=hJ.e64 d;exact⟨b,h1,h2.touch tS (h2.ne (H8 Yk.o)),h3⟩),(λd=>by obtain⟨b,h1,h2,h3⟩:=hJ.e65 d;exact⟨b,h1,h2.touch tS (h2.ne (H8 Yk.o)),h3⟩),hJ.ne,hJ.e66,(λd=>by obtain⟨h0,b,h1,h2,h3⟩:=hJ.e67 d;exact⟨h0,b,h1,h2,h3.touch tS (AN h3 Yk.o (by decide) rfl rfl)⟩),(λ_=>⟨Yq,rfl,Ju.o,Ip⟩),(λ_=>⟨HD.o 12 (by simp),HD.o 13 (by simp)⟩),tT⟩
   ·rintro D a W ⟨Xb,Xg,Xj,Xi,E,Xe,Xk,Xa,Xm,Xn,Xl,Xh,Xf,Xc,rfl,hJ⟩ O Jx;clear O;have V:∀j,j<15->D j=true:=Jx;obtain⟨Yg,rfl,Up,Ut⟩:=hJ.e61 (V 6 Ω);obtain rfl:=hJ.e60 (V 5 Ω);obtain rfl:=hJ.e63 (V 8 Ω);obtain⟨Z,rfl,Um,Ue⟩:=hJ.e64 (V 9 Ω);obtain⟨J,rfl,Us,Jv⟩:=hJ.e65 (V 10 Ω);obtain⟨-,-,-,-,rfl⟩:=hJ.e66 (V 11 Ω);obtain⟨-,y,rfl,Mn,Ml⟩:=hJ.e67 (V 12 Ω);obtain⟨bx,rfl,Ok,Vg⟩:=hJ.e13 (V 13 Ω);rw[V 14 Ω]at Vg;obtain rfl:=hJ.e55;obtain rfl:=hJ.e56;obtain rfl:=hJ.e57;obtain rfl:=hJ.e58;obtain rfl:=hJ.e59;obtain rfl:=hJ.e62;have Un:Z≠J:=λe=>hJ.ne (V 9 Ω) (V 10 Ω) (by rw[e]);have Jh:=ι hJ.t;have My:=ι Up;have Ym:=ι Um;have Yl:=ι Us;have Zs:=ι Ml;have Yr:=ι Vg;have Is:=ι (θ Ut (θ Ue (θ Jv (θ Mn (θ Ok Un)))));clear hJ Jx V Up Ut Um Ue Us Jv Mn Ml Ok Vg Un;refine ζb ?_;simp only[Act.put,ζf,ζq,ζs];clear y3 Iu Iq Il Eh Eu Ii Iw U M Ny;have hzW:=Jh.o.size;have HG3W:Hid (Gr w3 W):=⟨Xd.o W Jh.o⟩;have Vk:=Yr.o.cc 0;have Vu:=Yr.o.lt;gi_wp2_with(refine⟨trivial,?_⟩;gi_at_call 144;refine(τ.2 (JQ (some ⟨m,0,none⟩))).mono ?_;rintro e w5 ⟨rfl,rfl⟩);obtain⟨W5,Zo⟩:∃W5,W5=W.alloc (.cells #[.pointer (some ⟨m,0,none⟩)] 93):=⟨_,rfl⟩;have Xt:Gr W W5:=by rw[Zo];exact(Gr.refl W).alloc _
    have hs5:W5.heap.size=W.heap.size+1:=by rw[Zo,β]
    have k5:W5.cell? ⟨W.heap.size,0,none⟩=some (pP m):=by rw[Zo];exact(Boxed.new W 93 (pP m)).cell
    rw[<-Zo];clear Zo Vk Vu;obtain⟨La,Le,Io,gy,gx,Vl⟩:=Is.o;have l64:=Ym.o.lt;have l65:=Yl.o.lt;have ly:=Zs.o.lt;have lx:=Yr.o.lt;have n64y:=Ym.o.ne (H8 Zs.o);have n65y:=Yl.o.ne (H8 Zs.o);have n64x:=Ym.o.ne (H8 Yr.o);have n65x:=Yl.o.ne (H8 Yr.o);have hml:=HX.o.hm;have hp1l:=HX.o.v1.hp;have hb1l:=HX.o.v1.hb;have hp2l:=HX.o.v2.hp;have hb2l:=HX.o.v2.hb;have hz3:=Xs.o.size;obtain⟨s,Zw⟩:∃s,s=AX v c L:=⟨_,rfl⟩;have Uv:s.L=L:=by rw[Zw];rfl
    have Ub:s.pg=v.pl.pg:=by rw[Zw];rfl
    have Vi:s.n=v.n:=by rw[Zw];rfl
    have Zf:=ι (θ Uv (θ Ub (θ Vi Zw)));have Oy:Hid (AO s.n s.L):=⟨by rw[Vi,Uv];exact HX.o.good⟩;have Lb:=ι (Vd.o.gr Xs.o);have Yt:Hid (∀A,AB (λi=>(i=Z\/i=J)\/W5.heap.size<=i) W5 A->AB (λi=>w3.heap.size<=i) w3 A):=⟨λA t=>(Jh.o.trans (Xt.touch _)).trans (t.mono (λi _ h=>by omega))⟩
    have HK:Hid (∀A,AB (λi=>(i=Z\/i=J)\/W5.heap.size<=i) W5 A->((A.cell? ⟨bx,0,none⟩=some (pP y)/\A.cell? ⟨y,14,none⟩=some (.map (some Z)))/\A.cell? ⟨y,15,none⟩=some (.map (some J))/\A.cell? ⟨w.heap.size,0,none⟩=some (pP q))):=⟨λA t=>by
     have r1:=(Yr.o.gr Xt).touch t Ω;have r2:=(Zs.o.gr Xt).touch t Ω;have g3:=Xd.o A (Yt.o A t)
     exact⟨⟨r1.cc 0,r2.cc 14⟩,r2.cc 15,(g3.cell Yc.o.lt 0).trans (Yc.o.cc 0)⟩⟩
    have Vz:Hid (∀A,AB (λi=>(i=Z\/i=J)\/W5.heap.size<=i) W5 A->AD A (AE (AE S w) w1) q v):=⟨λA t=>Lb.o.gr (Xd.o A (Yt.o A t))⟩
    have Or:Hid (∀A,AB (λi=>(i=Z\/i=J)\/W5.heap.size<=i) W5 A->Ext A m p1 b1 p2 b2 v.n L/\AP A):=⟨λA t=>by
     have g3:=Xd.o A (Yt.o A t)
     exact⟨(HX.o.gr Xs.o).gr g3,g3.tab (Xs.o.tab Yp.o.lt Yp.o).lt (Xs.o.tab Yp.o.lt Yp.o)⟩⟩
    have Lj:Hid (OpA W5 W5 Z J v s 0 0):=⟨OpA.zero (Ym.o.gr Xt) (Yl.o.gr Xt)⟩;have Yj:Hid (Z<W5.heap.size/\J<W5.heap.size/\Z≠J):=⟨by omega⟩;have HZ0:Hid (sizes (L.take 0)=0):=⟨rfl⟩;have En:=ι k5;have hwl:w.heap.size<w3.heap.size:=Yc.o.lt;clear Zw Uv Ub Vi k5
    refine LB (K:=4) (s0:=0) rfl Ω (gf:=187) (lb:=#[pP W.heap.size]) rfl trivial (enters_of func187 (by kernel_rfl) rfl)
     (N8 _ W.heap.size m p1 b1 p2 b2 v.n L _) (λ_=>rfl)
     (λ(j:Nat) A=>j<=L.length/\OpA W5 A Z J v s j (sizes (L.take j))) (λ_ _=>False) (λj A B h t=>⟨h.1,h.2.win Yj.o.1 Yj.o.2.1 t⟩) (λ_ _ _ h _=>h)
     (λj A h=>⟨(Or.o A h.2.t).1,(Or.o A h.2.t).2,(h.2.t.cell Ω Ω 0).trans En.o,h.1⟩)
     ⟨ζh _,Lj.o⟩ ?round ?done (λ_ _ _ _ h _=>h.elim)
    case round=>
     intro lp j x W6 Ov Ev Ys;dsimp only[GE];gi_wp2;refine⟨Gr.refl _,λW7 ht7 Zh=>?_⟩
     have Xx:j<L.length:=by
      rcases χ j L.length with h|h
      ·exact h
      ·unfold EI at Ys;rw[ζF h]at Ys;cases Ys
     obtain rfl:x=L[j]:=by unfold EI at Ys;rw[ζa Xx]at Ys;exact(Option.some.inj Ys).symm
     obtain⟨Id,Zn,-⟩:=HI.o.1.mkd.ats _ (π Xx);obtain⟨-,-,Ik,Eo,Et,Vs,Ix⟩:=FT Zn;have Yi:=ι Zh.2;have Vp:=(HX.o.good.sz _ (π Xx)).2;have Xy:=ι (E0 Xx);have Nq:j<s.L.length:=by rw[Zf.o.1];exact Xx
     have Ey:=ι Nq;have Mz:s.L[j]=L[j]:=by simp only[Zf.o.1]
     have Zb:Hid (∀t,t<L[j].2->AG s.L (sizes (L.take j)+t)=L[j].1+t/\sizes (L.take j)+t<sizes s.L):=⟨λt ht=>by
      have h1:=I9 Xx;rw[Zf.o.1]
      exact⟨YZF Xx ht,by omega⟩⟩
     obtain⟨n5,f5,Zv,Nn,Mo⟩:=Zh.2.sh;have Lh:=ι Zv;have Me:=ι (θ Nn Mo);have Zt:∀B,BB prog 3 B J (n5+1) (λy=>if y=((L[j].1:Nat):Int)then some (AJ (v.rdH (L[j].1:Nat)))else f5 y)->AB (λi=>i=J) W7 B->OpA W5 B Z J v s (j+1) (sizes (L.take j)):=λB hm t=>Yi.o.hdr Ey.o Yj.o.2.2 Me.o.1 Me.o.2 Oy.o (by rw[Mz];exact hm) t;rw[Vs]at Zt;have Zu:=ι Zt;have Zx:=ι (λ(W:World) (gW:Gr W7 W)=>ON ((Vz.o W7 Yi.o.t).gr gW) ((L[j].1:Nat):Int));rw[Zn,Vs]at Zx;unfold AJ at Zx;unfold spV at Zx
     have hn5b:n5<=1048576:=by
      have h2:=FK HX.o.good;have h4:=Y0x HX.o.good;omega
     have Os:Hid (n5<maxLen):=⟨by unfold maxLen;omega⟩;have Zz:Hid (sizes (L.take j)+L[j].2<=1048576):=⟨by have h1:=I9 Xx;have h2:=FK HX.o.good;omega⟩;obtain⟨sa,Uy⟩:∃sa,sa=L[j].1:=⟨_,rfl⟩;obtain⟨sz,Ji⟩:∃sz,sz=L[j].2:=⟨_,rfl⟩;obtain⟨mm,Vn⟩:∃mm,mm=sizes (L.take j):=⟨_,rfl⟩;have HSA:=ι (θ Uy (θ Ji Vn));rw[<-Uy]at Zx Zb Zu Vp⊢;rw[<-Ji]at Zb Vp Xy Zz⊢;rw[<-Vn]at Zb Zu Xy Zz Yi;have Oh:Hid ((Lit.int .i64 (sa:Int)).wf=true):=⟨WalkArith.wf_i64 Ω⟩;have Nx:=ι (θ Ov ht7.size);have HJL:=ι Xx;have hsab:sa+sz<=524288:=Ω
     clear Ev Zh Ys ht7 Uy Ji Vn Nq Mz Id Zn Vs Ix Zv Nn Mo Zt Vp;have kk:=HK.o _ Yi.o.t;have k1:=kk.1.1;have k3:=kk.2.1;have k4:=kk.2.2;clear kk
     have Ow:Hid (∀W',Gr W7 W'->W'.cell? ⟨bx,0,none⟩=some (pP y)/\W'.cell? ⟨y,15,none⟩=some (.map (some J))/\W'.cell? ⟨w.heap.size,0,none⟩=some (pP q)):=⟨λW' gW=>by
      have h:=HK.o W' (Yi.o.t.trans (gW.touch _))
      exact⟨h.1.1,h.2⟩⟩
     gi_upto_region 16 with(fail);obtain⟨Sx,Y,HS⟩:=AA.start λW'=>W'.cell? ⟨bx,0,none⟩=some (pP y)/\W'.cell? ⟨y,15,none⟩=some (.map (some J))/\W'.cell? ⟨w.heap.size,0,none⟩=some (pP q);have y1:=AA.fact Y λ_ h=>h.1;have y2:=AA.fact Y λ_ h=>h.2.1;have y3:=AA.fact Y λ_ h=>h.2.2;have U:=HS.o (W7.drew) (Ow.o _ (Gr.refl W7).drew);have M:Inhabited (AA Sx):=⟨⟨_,U⟩⟩;clear Y;refine FZ Sx 13 [([0,1,2,3,4,5,6,7],8),([9,10,11],12)] [] (λ_=>trivial) (by kernel_rfl) (by kernel_rfl) U ?_;refine C0 ?_
     try simp only[AC,ζ,ξ]
     repeat(go_big_quiet_step (fail))
     refine ψ ?_;gi_wp2_with((refine⟨trivial,?_⟩;gi_at_call 104;refine(CallsIn.inRound lp (τ.2 (Zx.o _ (Gr.refl W7).drew))).mono ?_;rintro e w8 ⟨rfl,Nh⟩;have Zp:=ι ((Gr.refl W7).drew.trans Nh);clear Nh));refine⟨.inr (AA.of (HS.o _ (Ow.o _ Zp.o))),?_⟩;refine C0 ?_
     try simp only[AC,ζ,ξ]
     repeat(go_big_quiet_step (fail))
     refine ψ ?_;gi_wp2_with((gi_at_mapUpdate;refine Y7w _ rfl _ _ _ 147 rfl 3 72 IZ underlying147 underlying3 J n5 f5 rfl (Lh.o.gr Zp.o) Os.o (sa:Int) (.agg #[.int .i64 Ik,.int .i64 Eo,.int .i64 Et]) rfl rfl Oh.o ?_;intro w9 Ia Md;have Ee:=ι Ia;have Vr:=ι Md;clear Ia Md));refine⟨.inr (AA.of (HS.o _ ((by have h:=HK.o w9 (Yi.o.t.trans ((Zp.o.touch _).trans (Vr.o.mono (λi _ h=>.inl (.inr h)))));exact⟨h.1.1,h.2⟩)))),?_⟩;refine VoK ?_;clear y1 y2 y3 U M;clear HS Sx;clear k1 k3 k4;have Ld:Hid (OpA W5 w9 Z J v s (j+1) (mm+0)):=⟨Zu.o w9 Ee.o ((Zp.o.touch _).trans Vr.o)⟩;have Ou:Hid (AB (λi=>i=Z\/i=J) W7 w9):=⟨(Zp.o.touch _).trans (Vr.o.mono (λi _ h=>.inr h))⟩;gi_wp2
     gi_loopw [16] (λs16 wr=>∃t A:Nat,t<=sz/\Hid (A=sa+t)/\Hid (OpA W5 wr Z J v s (j+1) (mm+t))/\Hid (AB (λi=>i=Z\/i=J) W7 wr)/\s16=.int .i64 A) (λs16 _=>sa+sz-(intOf s16).toNat)
     case atStart=>exact⟨0,sa,ζh _,⟨rfl⟩,Ld,Ou,rfl⟩
     case round=>
      obtain⟨t,A,ht,Zl,HA,Ne,rfl⟩:=hrel;by_cases Xw:t<sz
      ·have Yf:=ι Xw;have El:(A:Int)<(sa:Int)+(sz:Int):=by have:=Zl.o;omega
       have Em:A<=1048576:=by have:=Zl.o;omega
       obtain⟨e1,e2⟩:=Zb.o t Xw;obtain⟨n4,f4,Zd,Nu,Vc⟩:=HA.o.wd;have Op:=ι (λ(W:World) (gW:Gr wr W)=>IJ ((Vz.o wr HA.o.t).gr gW));obtain⟨pg,Xv⟩:∃pg,pg=v.pl.pg:=⟨_,rfl⟩;rw[<-Xv]at Op Oz;obtain⟨Q,hQ⟩:∃Q,Q=A/pg:=⟨_,rfl⟩;have g1:((A:Int).tdiv (pg:Int))=(Q:Int):=by rw[hQ];rfl
       have g2:((A:Int)/(pg:Int))=(Q:Int):=by rw[hQ];rfl
       have Ig:(pg:Int)≠0:=Ω
       have hQb:Q<=1048576:=by rw[hQ];exact γ (ζ1 _ _) Em
       have Ma:AG s.L (mm+t)/s.pg=Q:=by rw[e1,hQ,Zl.o,Xv,Zf.o.2.1]
       obtain⟨N1,Yo⟩:∃N1,N1=s.on (λi=>decide (i<mm+t)) Q:=⟨_,rfl⟩
       have hN1b:N1<=1048576:=by
        rw[Yo];have h1:=s.on_le (λi=>decide (i<mm+t)) Q;have h2:=FK Oy.o;have h3:=Zf.o.2.2.1;omega
       have Ux:Hid (∀W',Gr wr W'->(Instr.lookup 146 (.map (some Z)) (.int .i64 Q) false).run prog W'=.ok (.int .i64 N1) W'):=⟨λW' gW=>by
        rw[(Zd.gr gW).look IZ underlying146 underlying3 (V1 W') (WalkArith.wf_i64 Ω),Vc Q,Yo]⟩
       have Mf:Hid (∀B,BB prog 3 B Z (n4+1) (λy=>if y=(Q:Int)then some (.int .i64 ((N1+1:Nat):Int))else f4 y)->AB (λi=>i=Z) wr B->OpA W5 B Z J v s (j+1) (mm+(t+1))):=⟨λB hmB tB=>by
        have:=HA.o.word e2 Yj.o.2.2 Nu Vc (x:=N1+1) (B:=B) (by rw[Ma,Yo]) (by rw[Ma];exact hmB) tB
        rw[<-ξO];exact this⟩
       have It:=ι Zd;have Nv:Hid (n4<maxLen):=⟨by have:=Zz.o;unfold maxLen;omega⟩;have Np:Hid ((Lit.int .i64 (Q:Int)).wf=true):=⟨WalkArith.wf_i64 Ω⟩;have Li:(N1:Int)+1=((N1+1:Nat):Int):=by push_cast;rfl
       obtain⟨N2,Js⟩:∃N2,N2=N1+1:=⟨_,rfl⟩;rw[<-Js]at Li Mf
       have If:Hid (∀W',Gr wr W'->(W'.cell? ⟨bx,0,none⟩=some (pP y)/\W'.cell? ⟨y,14,none⟩=some (.map (some Z)))/\W'.cell? ⟨w.heap.size,0,none⟩=some (pP q)/\(Instr.lookup 146 (.map (some Z)) (.int .i64 Q) false).run prog W'=.ok (.int .i64 N1) W'):=⟨λW' gW=>by
        have h:=HK.o W' (HA.o.t.trans (gW.touch _))
        exact⟨h.1,h.2.2,Ux.o W' gW⟩⟩
       clear e1 e2 Zd Nu Vc Xv hQ Ma Yo Js Xw;gi_upto_region 20 with(fail);obtain⟨Sx,Y,HS⟩:=AA.start λW'=>(W'.cell? ⟨bx,0,none⟩=some (pP y)/\W'.cell? ⟨y,14,none⟩=some (.map (some Z)))/\W'.cell? ⟨w.heap.size,0,none⟩=some (pP q)/\(Instr.lookup 146 (.map (some Z)) (.int .i64 Q) false).run prog W'=.ok (.int .i64 N1) W';have y1:=AA.fact Y λ_ h=>h.1.1;have y2:=AA.fact Y λ_ h=>h.1.2;have y3:=AA.fact Y λ_ h=>h.2.1;have y4:∀p:AA Sx,(Instr.lookup 146 (.map (some Z)) (.int .i64 Q) false).run prog p.w=.ok (.int .i64 N1) p.w:=λp=>by have h:=AA.get Y p;exact h.2.2
       have U:=HS.o (wr.drew) (If.o _ (Gr.refl wr).drew);have M:Inhabited (AA Sx):=⟨⟨_,U⟩⟩;clear Y;refine FZ Sx 10 [([0,1,2,3,4,5],6),([7,8,9],10)] [] (λ_=>trivial) (by kernel_rfl) (by kernel_rfl) U ?_;refine C0 ?_
       try simp only[AC,ζ,ξ]
       repeat(go_big_quiet_step (fail))
       refine ψ ?_;gi_wp2_with((refine⟨trivial,?_⟩;gi_at_call 138;refine(CallsIn.inRound lp (τ.2 (Op.o _ (Gr.refl wr).drew))).mono ?_;rintro e w8 ⟨rfl,rfl⟩));refine⟨.inr (AA.of (HS.o _ (If.o _ (Gr.refl wr).drew))),?_⟩;refine C0 ?_
       try simp only[AC,ζ,ξ]
       repeat(go_big_quiet_step (fail))
       refine ψ ?_;gi_wp2_with((gi_at_mapUpdate;refine Y7w _ rfl _ _ _ 146 rfl 3 3 IZ underlying146 underlying3 Z n4 f4 rfl (It.o.gr (Gr.refl wr).drew) Nv.o (Q:Int) (.int .i64 N2) rfl rfl Np.o ?_;intro Jf Jy Ug;have Oj:=ι Jy;have Om:=ι Ug;clear Jy Ug));refine⟨.inl trivial,?_⟩;refine VoK ?_;clear y1 y2 y3 y4 U M;clear HS Sx;have Yv:Hid (AB (λi=>i=Z) wr Jf):=⟨((Gr.refl wr).drew.touch _).trans Om.o⟩;gi_wp2;go_roundw
       case rel=>exact⟨t+1,A+1,Yf.o,⟨by have:=Zl.o;omega⟩,⟨Mf.o Jf Oj.o Yv.o⟩,⟨Ne.o.trans (Yv.o.mono (λi _ h=>.inl h))⟩,by go_num⟩
       case measure=>have:=Zl.o;have:=Yf.o;simp[intOf];omega
      ·obtain rfl:t=sz:=Ω
       have El:¬(A:Int)<(sa:Int)+(t:Int):=by have:=Zl.o;omega
       clear Xw;gi_wp2;have Ji:=Nx.o;have l4:=Yj.o;refine⟨Ne.o.mono (λi _ h=>.inl (by rcases h with rfl|rfl <;> omega)),j+1,rfl,Xx,?_⟩;rw[Xy.o];exact HA.o
    case done=>
     rintro D j W7 hD rfl Zh hK;have Xu:=Zh.2;rw[ζ7]at Xu;have Yi:=ι Xu;have HKK:=ι (HK.o W7 Xu.t);have hz7:=Xu.t.size;have Eq:=ι Zf.o.2.2.2
     have Of:Hid (Cyc W7 (λb=>w1.heap.size<=b/\b<W5.heap.size) y q ⟨w2.heap.size,w3.heap.size,p,m,p1,b1,p2,b2,J,Yg,nb,Z⟩ (AX v c L)):=⟨by
      have hA:=Xu;rw[Eq.o]at hA
      exact VLI HX.o Xs.o Vo.o ⟨Ed,Zq.o.1,Zq.o.2.1,Zq.o.2.2.1,Zq.o.2.2.2.1,Zq.o.2.2.2.2⟩ (Jh.o.trans (Xt.touch _)) ⟨gy,La,Le,Io⟩ Iy.o (Zs.o.gr Xt) (CU My.o Xt) (Ym.o.gr Xt) (Yl.o.gr Xt) Vl hA (λi h1 h2 h3 h=>by omega) hA.t⟩
     have Iv:Hid (AR W7 r g rs):=⟨by
      have h1:=(HR.o.gr Xq.o).touch Yb.o (λh=>Xz.o.2.1 h.1) (λh=>Xz.o.2.2.1 h.1)
      exact(h1.gr Xs.o).gr (Xd.o W7 (Yt.o W7 Xu.t))⟩
     have Ex:=ι (OQ Mp.o Vy.o HI.o (by rw[<-Jp.o];exact ξS Yu.o));have hgl:g<w1.heap.size:=Ω
     have Ij:=ι (X9b (λW tW=>Of.o.touch tW (λk hk e=>by have:=hk.1;omega)) Ex.o Iv.o);have hmf:∀(fn:Fn) (first cap:Array Value) (w:World),(Instr.makeFunc fn first cap).run prog w=.ok (.func fn first cap) w:=λ_ _ _ _=>rfl;have Uj:=Vz.o W7 Xu.t;have Lk:=ι Uj;have Uq:=(Yc.o.gr (Xd.o W7 (Yt.o W7 Xu.t)));have Uk:=(I.o.gr (Xd.o W7 (Yt.o W7 Xu.t)));have Za:=(Yr.o.gr Xt).touch Xu.t Ω;have In:=ι (θ Uq (θ Uk Za));have Vk:=Za.cc 0;have Vu:=Za.lt;have Ox:=ι hK;have Ni:Hid (D=W5.heap.size):=⟨hD⟩;clear Xu Zh Uj Uq Uk Za hK hD;gi_upto_region 22 with(refine⟨trivial,?_⟩;gi_at_call 135;refine(τ.2 (Ij.o)).mono ?_;rintro e w8 ⟨rfl,Mw,Nc⟩;have Yn:=ι Mw;have Ec:=ι Nc;clear Mw Nc);clear Vk Vu;obtain⟨Mg,Nz,Ms⟩:=In.o;have Uf:=ι (Mg.touch Yn.o (λh=>by omega));have Uh:=ι (Nz.touch Yn.o (λh=>by omega));have Ek:=ι (Ms.touch Yn.o (λh=>by omega));have Nk:=ι (Of.o.touch Yn.o (λk hk e=>by have:=hk.1;omega));have hz8:=Yn.o.size;obtain⟨S5,Vt⟩:∃S5,S5=AE (AE S w) w1:=⟨_,rfl⟩;have Ya:Hid (∀b,S5 b->S b/\b<w.heap.size):=⟨λb hb=>by rw[Vt]at hb;exact hb.1⟩;have Oq:AD w8 S5 q v:=by rw[Vt];exact Lk.o.touch Yn.o (λb hb _ h=>Xz.o.2.2.1 (h▸hb.1.1))
     have Ib:=ι Oq
     have Jm:Hid (w8.heap[D]?=some (.deferred (some []))/\D<w8.heap.size/\W5.heap.size<=D):=⟨by
      have h1:=(ζo.1 Ox.o).1;have h2:=Ni.o
      exact⟨(Yn.o.block D h1 Ω).trans Ox.o,by omega,by omega⟩⟩
     have Mj:=ι (λ(W:World) (g':Gr w8 W)=>IJ (Ib.o.gr g'));obtain⟨pg,Xv⟩:∃pg,pg=v.pl.pg:=⟨_,rfl⟩;have Zc:=ι Xv;rw[<-Xv]at Mj Oz;obtain⟨q0,Zm⟩:∃q0,q0=c.fr/pg:=⟨_,rfl⟩;have Jt:q0*pg<=c.fr:=by rw[Zm];exact ζk c.fr pg
     have Vj:=ι Zm;have Ej:=ι Jt;have g1:((c.fr:Int).tdiv (pg:Int))=(q0:Int):=by rw[Zm];rfl
     have g2:((c.fr:Int)/(pg:Int))=(q0:Int):=by rw[Zm];rfl
     have Ig:(pg:Int)≠0:=Ω
     have hq0n:q0<=524288:=by have:=ζ1 c.fr pg;omega
     have Mm:Hid (UmO w8 w8.drew S5 q (AX v c L) v q0 0 pg c.tp):=⟨(Gr.refl w8).drew.touch _,⟨S5,v,λb h=>.inl h,Ib.o.gr (Gr.refl w8).drew,EN.zero Mp.o q0⟩,λi hi=>absurd hi (ζQ _)⟩;have u1:=Uf.o.cc 0;have u2:=Uh.o.cc 0;clear Mg Nz Ms Oq Xv Zm Jt Vt;obtain⟨Sx,Y,HS⟩:=AA.start λW'=>W'.cell? ⟨w.heap.size,0,none⟩=some (pP q)/\W'.cell? ⟨w.heap.size+1,0,none⟩=some (.int .i64 c.fr);have x1:=AA.fact Y λ_ h=>h.1;have x2:=AA.fact Y λ_ h=>h.2;have U:=HS.o (w8.drew) (⟨u1,u2⟩);have M:Inhabited (AA Sx):=⟨⟨_,U⟩⟩;clear Y;refine FZ Sx 6 [([0,1,2],3)] [4,5] F8 (by kernel_rfl) (by kernel_rfl) U ?_;refine C0 ?_
     try simp only[AC,ζ,ξ]
     repeat(go_big_quiet_step (fail))
     refine ψ ?_;gi_wp2_with((refine⟨trivial,?_⟩;gi_at_call 138;refine(τ.2 (Mj.o _ (Gr.refl w8).drew)).mono ?_;rintro e w9 ⟨rfl,rfl⟩));refine⟨.inr (AA.of (HS.o _ (⟨u1,u2⟩))),?_⟩;refine GH ?_
     try simp only[AC,ζ,ξ]
     repeat(go_big_quiet_step (fail))
     refine ψ ?_;refine ζb ?_;clear x1 x2 U M;clear HS Sx;clear u1 u2;gi_wp2
     gi_loopw [17] (λs17 wx=>∃j:Nat,Hid (UmO w8 wx S5 q (AX v c L) v q0 j pg c.tp)/\s17=.int .i64 ((q0+j:Nat):Int)) (λs17 _=>c.tp-(intOf s17).toNat*pg)
     case atStart=>exact⟨0,Mm,rfl⟩
     case round=>
      clear Mm;obtain⟨j,HU,rfl⟩:=hrel;obtain⟨Sj,v',Mt,Va,Uw⟩:=HU.o.vm;have Uz:=λ(W:World) (g':Gr wr W)=>IJ (Va.gr g');rw[Uw.pg,<-Zc.o]at Uz;have Ul:=ι Uz;have Vw:=ι Va;have Xy:=ι Mt;have Vx:=ι Uw;have Uc:=ι (Uf.o.touch HU.o.t (λh=>by have:=(Ya.o _ h).2;omega));have Nj:=ι (Uh.o.touch HU.o.t (λh=>by have:=(Ya.o _ h).2;omega));have Yy:=ι (Ek.o.touch HU.o.t (λh=>by have:=(Ya.o _ h).2;omega));have Yz:=ι (Nk.o.touch HU.o.t (λk hk h=>by have:=hk.1;have:=(Ya.o _ h).2;omega));obtain⟨qq,Zy⟩:∃qq,qq=q0+j:=⟨_,rfl⟩;obtain⟨pp,Ze⟩:∃pp,pp=qq*pg:=⟨_,rfl⟩
      have hppb:pp<=1048576:=by
       rcases ζB j with h0|h0
       ·rw[Ze,Zy,h0,ξo];have:=Ej.o;omega
       ·have:=HU.o.q1 (j-1) Ω;have e:pp=(q0+(j-1))*pg+pg:=by rw[Ze,Zy,show q0+j=(q0+(j-1))+1 by omega,ξf,ξx]
        omega
      have hqb:qq<=pp:=by rw[Ze];exact ξY _ Ω
      have hmul:((qq:Int)*(pg:Int))=(pp:Int):=by rw[Ze];push_cast;rfl
      have Xr:=ι (θ Zy Ze);rw[<-Zy];have u1:=Uc.o.cc 0;have u2:=Nj.o.cc 1;clear Uz Va Mt Zy Ze Uw;by_cases Xw:pp<c.tp
      ·have e1:decide ((pp:Int)<(c.tp:Int))=true:=κ Ω;have e2:decide (pp<c.tp)=true:=κ Xw;have Yf:=ι Xw;have Jc:=SE (Yz.o.gr (Gr.refl wr).drew).wd (q:=qq) Ω;have No:(AX v c L).on (λi=>!(AX v c L).is i) qq=(AX v c L).on (λ_=>true) qq:=Sl.on_congr λi _=>by rw[LC];rfl
       rw[No]at Jc;obtain⟨N1,Yo⟩:∃N1,N1=(AX v c L).on (λ_=>true) qq:=⟨_,rfl⟩;have Oi:=ι Yo;rw[<-Yo]at Jc;have Ux:=ι Jc;clear Xw Yo No Jc;gi_upto_region 23 with(fail);obtain⟨Sx,Y,HS⟩:=AA.start λW'=>W'.cell? ⟨w.heap.size,0,none⟩=some (pP q)/\W'.cell? ⟨w.heap.size+1,1,none⟩=some (.int .i64 c.tp);have x1:=AA.fact Y λ_ h=>h.1;have x2:=AA.fact Y λ_ h=>h.2;have U:=HS.o (wr.drew) (⟨u1,u2⟩);have M:Inhabited (AA Sx):=⟨⟨_,U⟩⟩;clear Y;refine FZ Sx 7 [([0,1,4,5],2)] [3,6] F8 (by kernel_rfl) (by kernel_rfl) U ?_;refine C0 ?_
       try simp only[AC,ζ,ξ]
       repeat(go_big_quiet_step (fail))
       refine ψ ?_;gi_wp2_with((refine⟨trivial,?_⟩;gi_at_call 138;refine(τ.2 (Ul.o _ (Gr.refl wr).drew)).mono ?_;rintro e Jf ⟨rfl,rfl⟩));refine⟨.inr (AA.of (HS.o _ (⟨u1,u2⟩))),?_⟩;refine GH ?_
       try simp only[AC,ζ,ξ]
       repeat(go_big_quiet_step (fail))
       refine ψ ?_;refine ζb ?_;clear x1 x2 U M;clear HS Sx;have z1:=(Yy.o.gr (Gr.refl wr).drew).cell (j:=0) rfl;have zl:=(Yy.o.gr (Gr.refl wr).drew).lt;have z2:=(Yz.o.gr (Gr.refl wr).drew).rc.cell (j:=14) rfl;have zl2:=(Yz.o.gr (Gr.refl wr).drew).rc.lt;have Jc:=Ux.o;have u3:=Uc.o.lt;have Eb:=(Gr.refl wr).drew.size;have Ea:=HU.o.t.size;by_cases hz:N1=0
       ·have d0:((N1:Int)==0)=true:=by simp[hz]
        have HZ:=ι hz;clear hz;gi_wp2_with(refine⟨trivial,?_⟩;gi_at_call 139;refine(τ.2 (MP (Vw.o.gr (Gr.refl wr).drew) (qq:Int))).mono ?_;rintro e w11 ⟨rfl,Ui,Jz⟩;have Yv:=ι Ui;have Mu:=ι Jz;clear Ui Jz);go_roundw
        case rel=>
         refine⟨j+1,⟨⟨?_,⟨plus Sj wr.drew,_,λb hb=>?_,Mu.o,?_⟩,λi hi=>?_⟩⟩,?_⟩
         ·exact(HU.o.t.trans ((Gr.refl wr).drew.touch _)).trans' Yv.o (λb hb h=>(Xy.o b h).elim id (λh=>by omega))
         ·rcases hb with h|h
          ·exact Xy.o b h
          ·right;omega
         ·have:=Vx.o.drop (j:=j) (by rw[<-Xr.o.1,<-Oi.o];exact HZ.o);rw[<-Xr.o.1]at this;exact this
         ·rcases χ i j with h|h
          ·exact HU.o.q1 i h
          ·obtain rfl:i=j:=Ω
           rw[<-Xr.o.1,<-Xr.o.2];exact Yf.o
         ·rw[show q0+(j+1)=qq+1 by rw[Xr.o.1];omega]
          go_num
        case measure=>
         have h1:=Yf.o;have h2:=Xr.o.2;simp only[intOf];rw[show ((qq:Int)+1).toNat=qq+1 by omega,δ,ξf,ξx,<-h2];omega
       ·have d0:((N1:Int)==0)=false:=by simp;exact hz
        have HZ:=ι hz;clear hz;gi_wp2;go_roundw
        case rel=>
         refine⟨j+1,⟨⟨HU.o.t.trans ((Gr.refl wr).drew.touch _),⟨Sj,_,Xy.o,Vw.o.gr (Gr.refl wr).drew,?_⟩,λi hi=>?_⟩⟩,?_⟩
         ·exact Vx.o.keep (j:=j) (by rw[<-Xr.o.1,<-Oi.o];exact HZ.o)
         ·rcases χ i j with h|h
          ·exact HU.o.q1 i h
          ·obtain rfl:i=j:=Ω
           rw[<-Xr.o.1,<-Xr.o.2];exact Yf.o
         ·rw[show q0+(j+1)=qq+1 by rw[Xr.o.1];omega]
          go_num
        case measure=>
         have h1:=Yf.o;have h2:=Xr.o.2;simp only[intOf];rw[show ((qq:Int)+1).toNat=qq+1 by omega,δ,ξf,ξx,<-h2];omega
      ·have e1:decide ((pp:Int)<(c.tp:Int))=false:=φ Ω;have e2:decide (pp<c.tp)=false:=φ Xw;have Yf:=ι Xw;clear Xw;gi_upto_region 23 with(fail);obtain⟨Sx,Y,HS⟩:=AA.start λW'=>W'.cell? ⟨w.heap.size,0,none⟩=some (pP q)/\W'.cell? ⟨w.heap.size+1,1,none⟩=some (.int .i64 c.tp);have x1:=AA.fact Y λ_ h=>h.1;have x2:=AA.fact Y λ_ h=>h.2;have U:=HS.o (wr.drew) (⟨u1,u2⟩);have M:Inhabited (AA Sx):=⟨⟨_,U⟩⟩;clear Y;refine FZ Sx 7 [([0,1,4,5],2)] [3,6] F8 (by kernel_rfl) (by kernel_rfl) U ?_;refine C0 ?_
       try simp only[AC,ζ,ξ]
       repeat(go_big_quiet_step (fail))
       refine ψ ?_;gi_wp2_with((refine⟨trivial,?_⟩;gi_at_call 138;refine(τ.2 (Ul.o _ (Gr.refl wr).drew)).mono ?_;rintro e Jf ⟨rfl,rfl⟩));refine⟨.inr (AA.of (HS.o _ (⟨u1,u2⟩))),?_⟩;refine GH ?_
       try simp only[AC,ζ,ξ]
       repeat(go_big_quiet_step (fail))
       refine ψ ?_;refine ζb ?_;clear x1 x2 U M;clear HS Sx;clear u1 u2;have z1:=(Yy.o.gr (Gr.refl wr).drew).cell (j:=0) rfl;have zl:=(Yy.o.gr (Gr.refl wr).drew).lt;gi_wp2;have Ea:=HU.o.t.size;have Eb:=(Gr.refl wr).drew.size;have Ur:¬S5 D:=λh=>by have:=(Ya.o _ h).2;have:=Jm.o.2.2;omega
       have Ep:wr.drew.heap[D]?=some (.deferred (some [])):=by
        have h2:=Jm.o.2.1;rw[(Gr.refl wr).drew.block Ω,HU.o.t.block D h2 Ur];exact Jm.o.1
       refine⟨by simp,.inl ⟨_,_,rfl,run_takeDeferred Ep,?_⟩⟩;have tt:=DP wr.drew D (.deferred none);have hD0:=Ni.o;refine⟨.tuple #[pP y,.int .i64 0],?_,?_,.inr ⟨L,HI.o,.inr ⟨by have h1:=Yu.o;have h2:=Jp.o;omega,y,_,_,Sj,v',j,rfl,(Yz.o.gr (Gr.refl wr).drew).touch tt (λk hk e=>by have:=hk.2;omega),(Vw.o.gr (Gr.refl wr).drew).touch tt (λb hb _ h=>?_),λb hb=>?_,λb hb=>⟨?_,λh=>?_⟩,?_,?_,?_,?_⟩⟩⟩
       ·simp[results,f112,go_sem]
       ·have a1:AB (λb=>b=g\/S b) w w1:=Xq.o.touch _;have a2:=a1.trans (Yb.o.mono (λi _ h=>.inr h.1));have a3:=a2.trans ((Xs.o.trans (Xd.o W7 (Yt.o W7 Yi.o.t))).touch _);have a4:=a3.trans (Yn.o.mono (λi _ h=>.inl h));have a5:=a4.trans (HU.o.t.mono (λi _ h=>.inr (Ya.o i h).1));exact(a5.trans ((Gr.refl wr).drew.touch _)).trans' tt (λb hb h=>by omega)
       ·rcases Xy.o b hb with h'|h'
        ·exact Ur (h▸h')
        ·have:=Jm.o.2.1;omega
       ·rcases Xy.o b hb with h'|h'
        ·exact .inl (Ya.o b h').1
        ·right;omega
       ·have:=hb.1;omega
       ·rcases Xy.o b h with h'|h'
        ·have:=(Ya.o b h').2;have:=hb.1;omega
        ·have:=hb.2;omega
       ·rw[<-Zc.o,<-Vj.o];exact Vx.o
       ·rw[<-Zc.o,<-Vj.o,<-Xr.o.1,<-Xr.o.2];have:=Yf.o;omega
       ·intro i hi;rw[<-Zc.o,<-Vj.o];exact HU.o.q1 i hi
       ·exact((Ec.o.touch HU.o.t (λh=>Xz.o.2.1 (Ya.o r h).1) (λh=>Xz.o.2.2.1 (Ya.o g h).1)).gr (Gr.refl wr).drew).touch tt (λh=>by omega) (λh=>by omega)
 ·clear z3 Jl Jg Zj Jn Zi Jj Jk Jq Zg;have Mr:=ι Nb;clear Nb;gi_wp2;refine⟨.tuple #[.pointer none,.int .i64 25],?_,?_,.inl ⟨Mr.o,rfl,Vd.o.mono (λb hb=>hb.1.1),(HR.o.gr Xq.o).touch Yb.o (λh=>Xz.o.2.1 h.1) (λh=>Xz.o.2.2.1 h.1)⟩⟩
  ·simp[results,f112,go_sem]
  ·have a1:AB (λb=>b=g\/S b) w w1:=Xq.o.touch _;exact a1.trans (Yb.o.mono (λi _ h=>.inr h.1))
end
end
end Go.Proofs.YtggjoonlcjjgkaaGreatDoor
