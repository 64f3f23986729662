/- Part 5 of what ListNobody leans on: my own lemmas, merged by shake.py. -/
import Derived.Test.YteihjlcmjecmfaaGreatDoorListNobodyD
import Derived.Laws.BitsAllLaws
import Derived.Laws.Bits64b
namespace Go.Proofs.YteihjlcmjecmfaaGreatDoor
open _root_.Go.Proofs.Tryz
set_option maxHeartbeats 1600000
set_option maxRecDepth 100000
section
open Go.RowKit Word
structure Vm where
 n:Nat
 pl:Pl
 pt:List Nat
structure ZAR(v:Vm):Prop where
 pl:QIq v.pl
 pt:Zym v.pt
 n2:v.n<=524288
 np:v.n=v.pt.length*v.pl.pg
 fr:∀p,p<v.pt.length->v.pt.getD p 0≠0->at_ v.pl.tk (v.pt.getD p 0-1)=true
 inj:∀p p',p<v.pt.length->p' < v.pt.length->v.pt.getD p 0≠0->v.pt.getD p 0=v.pt.getD p' 0->p=p'
 us:v.pl.used=nz v.pt
structure QXZ(w:World)(S:Nat->Prop)(q:Nat)(v:Vm):Prop where
 ok:ZAR v
 sq:S q
 row:∃S1 S2 b1 b2,Rec w q 148 [.pointer (some ⟨b1,0,none⟩),.pointer (some ⟨b2,0,none⟩),.int .i64 v.n]/\Z9Y w S1 b1 v.pl/\XZC w S2 b2 v.pt ∧
  (∀k,S1 k->S k)/\(∀k,S2 k->S k)/\(∀k,S1 k->¬S2 k)/\¬S1 q/\¬S2 q
theorem QXZ.touch{S T:Nat->Prop}{w w':World}{q:Nat}{v:Vm}(h:QXZ w S q v)(t:XF4 T w w')(hS:∀k,S k->k<w.heap.size->¬T k):QXZ w' S q v:=by
 obtain⟨h1,h2,S1,S2,b1,b2,hr,hp,hg,s1,s2,s3,s4,s5⟩:=h;exact⟨h1,h2,S1,S2,b1,b2,hr.touch t (hS _ h2 hr.lt),hp.touch t (λk hk=>hS k (s1 k hk)),hg.touch t (λk hk=>hS k (s2 k hk)),s1,s2,s3,s4,s5⟩
theorem QXZ.gr{S:Nat->Prop}{w w':World}{q:Nat}{v:Vm}(h:QXZ w S q v)(t:Gr w w'):QXZ w' S q v:=h.touch (t.touch (λ_=>False)) (λ_ _ _ h=>h)
theorem QXZ.mono{S T:Nat->Prop}{w:World}{q:Nat}{v:Vm}(h:QXZ w S q v)(hT:∀k,S k->T k):QXZ w T q v:=by
 obtain⟨h1,h2,S1,S2,b1,b2,hr,hp,hg,s1,s2,s3,s4,s5⟩:=h;exact⟨h1,hT _ h2,S1,S2,b1,b2,hr,hp,hg,λk hk=>hT k (s1 k hk),λk hk=>hT k (s2 k hk),s3,s4,s5⟩
def ZOk(S:Nat->Prop)(w:World)(k:Nat):Prop:=S k/\k<w.heap.size
theorem Z9Y.cut{w:World}{S:Nat->Prop}{q:Nat}{p:Pl}(h:Z9Y w S q p):Z9Y w (ZOk S w) q p:=by
 obtain⟨h1,h2,vw,vt,vb,hi,ts,hr,o1,o2,o3,s1,s2,s3⟩:=h;exact⟨h1,⟨h2,hr.lt⟩,vw,vt,vb,hi,ts,hr,o1,o2,o3,λg hg=>⟨s1 g hg,(Vvr o1 hg).2⟩,λg hg=>⟨s2 g hg,(Vvr o2 hg).2⟩,λg hg=>⟨s3 g hg,(Vvr o3 hg).2⟩⟩
theorem XZC.cut{w:World}{S:Nat->Prop}{q:Nat}{pt:List Nat}(h:XZC w S q pt):XZC w (ZOk S w) q pt:=by
 obtain⟨ok,sq,g,c,L,hr,h1,h2,sg,ho,ht,hd⟩:=h;refine⟨ok,⟨sq,hr.lt⟩,g,c,L,hr,h1,h2,⟨sg,(Vvr ho rfl).2⟩,ho,λk hk=>?_,hd⟩;have:=ht k hk;cases hl:L.getD k none with
 | none=>rw[hl]at this;exact this
 | some b=>rw[hl]at this;exact⟨⟨this.1,this.2.lt⟩,this.2⟩
theorem QXZ.cut{w:World}{S:Nat->Prop}{q:Nat}{v:Vm}(h:QXZ w S q v):QXZ w (ZOk S w) q v:=by
 obtain⟨h1,h2,S1,S2,b1,b2,hr,hp,hg,s1,s2,s3,s4,s5⟩:=h;exact⟨h1,⟨h2,hr.lt⟩,ZOk S1 w,ZOk S2 w,b1,b2,hr,hp.cut,hg.cut,λk hk=>⟨s1 k hk.1,hk.2⟩,λk hk=>⟨s2 k hk.1,hk.2⟩,λk hk hk2=>s3 k hk.1 hk2.1,λh=>s4 h.1,λh=>s5 h.1⟩
theorem JH4{a b c a' b' c':Value}(h1:a=a')(h2:b=b')(h3:c=c'):Ending.returned (.tuple #[a,b,c])=.returned (.tuple #[a',b',c']):=by rw[h1,h2,h3]
def Vm.ldE(v:Vm)(a:Int):Int:=if 0<=a/\a<v.n then frE v.pt (a/v.pl.pg)else 11
def Vm.at(v:Vm)(a:Int):Nat:=(v.pt.getD (a/v.pl.pg).toNat 0-1)*v.pl.pg+(a%v.pl.pg).toNat
def Vm.ldV(v:Vm)(a:Int):Nat:=if v.ldE a=0 then v.pl.wd.getD (v.at a) 0 else 0
def Vm.st(v:Vm)(a:Int)(x:Nat):Vm:=if v.ldE a=0 then {v with pl:={v.pl with wd:=v.pl.wd.set (v.at a) x}}else v
theorem ZAR.page{v:Vm}(h:ZAR v):1<=v.pl.pg/\v.pl.pg<=256:=⟨by have:=Quq h.pl.pg;omega,h.pl.pg2⟩
theorem ZAR.split{v:Vm}(h:ZAR v){a:Nat}(ha:a<v.n):a/v.pl.pg<v.pt.length/\a%v.pl.pg<v.pl.pg:=by
 have hp:=h.page;refine⟨(ζ4 hp.1).2 (by rw[<-h.np];exact ha),ξC _ hp.1⟩
theorem ZAR.hit{v:Vm}{a:Int}(h0:v.ldE a=0):∃j:Nat,a=j/\j<v.n/\v.pt.getD (j/v.pl.pg) 0≠0:=by
 unfold Vm.ldE at h0
 split at h0
 ·rename_i hr;obtain⟨j,rfl⟩:∃j:Nat,a=j:=⟨a.toNat,by omega⟩;obtain⟨p,hp1,hp2,X⟩:=ZsE h0;have Y:p=j/v.pl.pg:=Ω
  exact⟨j,rfl,by omega,by rw[<-Y];exact X⟩
 ·cases h0
section
variable {w:World} {S:Nat->Prop} {q:Nat} {v:Vm}
theorem Zuu(hV:QXZ w S q v):Calls prog 93 #[.pointer (some ⟨q,0,none⟩)] w λe w'=>e=.returned (.bool false)/\w=w':=by
 obtain⟨S1,S2,b1,b2,hr,-⟩:=hV.row;have c0:=hr.cc 0;clear hr;go_enter func93,ntmps93;go_wp2;go_ret;exact⟨rfl,rfl⟩
def Xy7(w:World)(v:Vm)(a:Int)(e:Ending)(w':World):Prop:=
 Gr w w'/\∃x y:Int,e=.returned (.tuple #[.int .i64 x,.int .i64 y,.int .i64 (v.ldE a)])/\(v.ldE a=0->x=(v.pt.getD (a/v.pl.pg).toNat 0:Nat)-1/\y=a%v.pl.pg)
theorem ZfJ(hV:QXZ w S q v)(a:Int):Calls prog 209 #[.pointer (some ⟨q,0,none⟩),.int .i64 a] w (Xy7 w v a):=by
 have HV:=hid hV;obtain⟨S1,S2,b1,b2,hr,hp,hg,-⟩:=hV.row;have c0:=hr.cc 0;have c1:=hr.cc 1;have c2:=hr.cc 2;have U:=hr.lt;have HP:=hid hp;have HG:=hid hg;have M:=hV.ok.page;have hn:=hV.ok.n2;by_cases X:0<=a/\a<v.n
 ·obtain⟨j,rfl⟩:∃j:Nat,a=j:=⟨a.toNat,by omega⟩;have HE:Hid (v.ldE j=frE v.pt ((j/v.pl.pg:Nat):Int)):=⟨by unfold Vm.ldE;rw[μ X,ζM]⟩;have HA:Hid (((j:Int)/(v.pl.pg:Int)).toNat=j/v.pl.pg/\((j%v.pl.pg:Nat):Int)=(j:Int)%(v.pl.pg:Int)):=⟨⟨by rw[<-ζM,τ],ξT ..⟩⟩;obtain⟨p,Y⟩:∃p,p=j/v.pl.pg:=⟨_,rfl⟩;obtain⟨o,Z⟩:∃o,o=j%v.pl.pg:=⟨_,rfl⟩;have q1:((j:Int).tdiv (v.pl.pg:Int))=(p:Int):=by rw[Y];rfl
  have q2:((j:Int)/(v.pl.pg:Int))=(p:Int):=by rw[Y];rfl
  have q3:((j:Int).tmod (v.pl.pg:Int))=(o:Int):=by rw[Z];rfl
  have q4:((j:Int)%(v.pl.pg:Int))=(o:Int):=by rw[Z];rfl
  have V:(v.pl.pg:Int)≠0:=Ω
  rw[<-Y]at HE;rw[<-Y,<-Z]at HA;have hp2:p<=524288:=by have:=ζ8 j v.pl.pg;omega
  have ho2:o<=524288:=by have:=Nat.mod_le j v.pl.pg;omega
  have hjI:(j:Int)<(v.n:Int):=Ω
  obtain⟨B,hB⟩:∃B,B=v.pl.pg:=⟨_,rfl⟩;have HB:=hid hB;rw[<-hB]at q1 q2 q3 q4 V M;have d0:decide ((j:Int)<0)=false:=ψ Ω;have d1:decide ((v.n:Int)<=(j:Int))=false:=ψ Ω;clear hr hp hg hV X Y Z hB;go_enter func209,ntmps209
  go_wp2_with(first
   | (go_at_call 93;refine(Zuu HV.o).mono ?_;rintro e w1 ⟨rfl,rfl⟩)
   | (go_at_call 163;refine(J7n HP.o).mono ?_;rintro e w1 ⟨rfl,rfl⟩;rw[<-HB.o]))
  have z1:∀xs m,(grow w xs m).cell? ⟨q,1,none⟩=some (.pointer (some ⟨b2,0,none⟩)):=λxs m=>((grown w xs m).cell U 1).trans c1;refine XAX (by kernel_rfl) (by kernel_rfl) ?_
  repeat(go_big_quiet_step ((go_at_call 197;have hc:=λxs m=>Qit (HG.o.gr (grown w xs m)) (p:Int);exact V4y.grown (hc _ _))))
  refine θ ?_;intro _ N;obtain⟨⟨xs,nq⟩,J⟩:=N;subst J;go_wp2;go_quiet (fail);go_wp2
  go_ret3
  refine⟨(grown w _ _).drewN _,_,_,JH4 rfl rfl (Yhd HE.o.symm),λh0=>?_⟩;rw[HE.o]at h0;rw[HA.o.1,<-HA.o.2];refine⟨?_,rfl⟩;unfold frV;rw[μ h0,τ]
 ·have E:v.ldE a=11:=by unfold Vm.ldE;rw[ϑ X]
  have HE:=hid E;rcases(by omega:a<0\/(0<=a/\(v.n:Int)<=a))with h|h
  ·have d0:decide (a<0)=true:=κ h;clear hr hp hg hV X E h;go_enter func209,ntmps209;go_wp2_with(go_at_call 93;refine(Zuu HV.o).mono ?_;rintro e w1 ⟨rfl,rfl⟩)
   go_ret3
   exact⟨Gr.refl w,_,_,JH4 rfl rfl (Yhd HE.o.symm),λh0=>by rw[HE.o]at h0;exact absurd h0 (by decide)⟩
  ·have d0:decide (a<0)=false:=ψ Ω;have d1:decide ((v.n:Int)<=a)=true:=κ h.2;clear hr hp hg hV X E h;go_enter func209,ntmps209;go_wp2_with(go_at_call 93;refine(Zuu HV.o).mono ?_;rintro e w1 ⟨rfl,rfl⟩)
   go_ret3
   exact⟨Gr.refl w,_,_,JH4 rfl rfl (Yhd HE.o.symm),λh0=>by rw[HE.o]at h0;exact absurd h0 (by decide)⟩
theorem ViR(hok:ZAR v){a x y:Int}(h0:v.ldE a=0)(hx:x=(v.pt.getD (a/v.pl.pg).toNat 0:Nat)-1)(hy:y=a%v.pl.pg):VIj v.pl x y=0/\x.toNat*v.pl.pg+y.toNat=v.at a:=by
 obtain⟨j,rfl,hj,Z⟩:=ZAR.hit h0;obtain⟨h1,h2⟩:=hok.split hj;have hf:=hok.fr _ h1 Z;have e1:((j:Int)/(v.pl.pg:Int)).toNat=j/v.pl.pg:=by rw[<-ζM,τ]
 have e2:(j:Int)%(v.pl.pg:Int)=((j%v.pl.pg:Nat):Int):=(ξT ..).symm;rw[e1]at hx;rw[e2]at hy;have Y:0<=x:=Ω
 have X:x.toNat=v.pt.getD (j/v.pl.pg) 0-1:=Ω
 have hc:YHh v.pl x=0:=by unfold YHh;rw[κ Y,X,hf];rfl
 refine⟨?_,?_⟩
 ·unfold VIj;rw[μ hc,μ ⟨by omega,by omega⟩]
 ·unfold Vm.at;rw[e1,e2,X,hy]
theorem VW8(hV:QXZ w S q v)(a:Int):Calls prog 176 #[.pointer (some ⟨q,0,none⟩),.int .i64 a] w λe w'=>e=.returned (.tuple #[.int .u64 (v.ldV a:Nat),.int .i64 (v.ldE a)])/\Gr w w':=by
 have HV:=hid hV;obtain⟨S1,S2,b1,b2,hr,hp,hg,-⟩:=hV.row;have U:=hr.lt;have c0:=hr.cc 0;have HP:=hid hp;by_cases h0:v.ldE a=0
 ·have HE:=hid h0
  have HW:Hid (∀x y:Int,x=(v.pt.getD (a/v.pl.pg).toNat 0:Nat)-1->y=a%v.pl.pg->VIj v.pl x y=0/\Q0D v.pl x y=v.ldV a):=⟨λx y hx hy=>by
   obtain⟨h1,h2⟩:=ViR hV.ok h0 hx hy;refine⟨h1,?_⟩;unfold Q0D Vm.ldV
   rw[μ h1,μ h0,h2]⟩
  clear hr hp hg hV h0;go_enter func176,ntmps176
  go_wp2_with(first
   | (go_at_call 209;refine(ZfJ HV.o a).mono ?_;rintro e w1 ⟨X,x,y,rfl,Z⟩;have J:=hid (HW.o x y (Z HE.o).1 (Z HE.o).2);rw[HE.o];have k0:=(X.cell U 0).trans c0;have Y:=hid X;clear X Z)
   | (go_at_call 210;refine(Xn2 (HP.o.gr Y.o) x y).mono ?_;rintro e w2 ⟨rfl,rfl⟩))
  go_ret2;exact⟨Qh8 (congrArg (λn:Nat=>Value.int .u64 (n:Int)) J.o.2) (Yhd (by rw[J.o.1,HE.o])),Y.o⟩
 ·have V:Hid (v.ldV a=0):=⟨by unfold Vm.ldV;rw[ϑ h0]⟩;obtain⟨x,hx⟩:∃x,x=v.ldE a:=⟨_,rfl⟩;have HX:=hid hx;have d0:(x==0)=false:=by rw[hx];simpa using h0
  clear hr hp hg hV h0 hx;go_enter func176,ntmps176;go_wp2_with(go_at_call 209;refine(ZfJ HV.o a).mono ?_;rintro e w1 ⟨X,x1,y1,rfl,-⟩;rw[<-HX.o];have Y:=hid X;clear X);go_ret2;exact⟨Qh8 (by rw[V.o];rfl) (Yhd (by rw[HX.o])),Y.o⟩
def Zfu(w:World)(S:Nat->Prop)(q:Nat)(v:Vm)(a:Int)(x:Nat)(w':World):Prop:=XF4 S w w'/\QXZ w' S q (v.st a x)
theorem ZAR.st(h:ZAR v)(a:Int){x:Nat}(hx:x<18446744073709551616):ZAR (v.st a x):=by
 unfold Vm.st
 split
 ·exact⟨QTa h.pl _ _ hx,h.pt,h.n2,h.np,h.fr,h.inj,h.us⟩
 ·exact h
theorem Qpx(hV:QXZ w S q v)(a:Int){x:Nat}(hx:x<18446744073709551616):Calls prog 177 #[.pointer (some ⟨q,0,none⟩),.int .i64 a,.int .u64 x] w λe w'=>e=.returned (.int .i64 (v.ldE a))/\Zfu w S q v a x w':=by
 have HV:=hid hV;obtain⟨S1,S2,b1,b2,hr,hp,hg,s1,s2,s3,s4,s5⟩:=hV.row;have M:=hr.lt;have c0:=hr.cc 0;have HP:=hid hp;have I:=hid (hV.ok.st a hx);have hX:=hid hx;by_cases h0:v.ldE a=0
 ·have HE:=hid h0;have HS:Hid (v.st a x={v with pl:={v.pl with wd:=v.pl.wd.set (v.at a) x}}):=⟨by unfold Vm.st;rw[μ h0]⟩
  have HW:Hid (∀y z:Int,y=(v.pt.getD (a/v.pl.pg).toNat 0:Nat)-1->z=a%v.pl.pg->VIj v.pl y z=0/\QrR v.pl y z x={v.pl with wd:=v.pl.wd.set (v.at a) x}):=⟨λy z hy hz=>by
   obtain⟨h1,h2⟩:=ViR hV.ok h0 hy hz;refine⟨h1,?_⟩;unfold QrR
   rw[μ h1,h2]⟩
  have HK:Hid (∀(w1:World),Gr w w1->∀w2,XF4 S1 w1 w2->Z9Y w2 S1 b1 {v.pl with wd:=v.pl.wd.set (v.at a) x}->Zfu w S q v a x w2):=⟨λw1 g1 w2 t2 p2=>by
   have T:XF4 S1 w w2:=(g1.touch S1).trans t2;refine⟨T.mono (λk _ hk=>s1 k hk),I.o,hV.sq,S1,S2,b1,b2,?_,?_,?_,s1,s2,s3,s4,s5⟩
   ·rw[HS.o];exact hr.touch T s4
   ·rw[HS.o];exact p2
   ·rw[HS.o];exact hg.touch T (λk hk _ hk2=>s3 k hk2 hk)⟩
  clear hr hp hg hV h0 hx s1 s2 s3 s4 s5;go_enter func177,ntmps177
  go_wp2_with(first
   | (go_at_call 209;refine(ZfJ HV.o a).mono ?_;rintro e w1 ⟨X,y,z,rfl,Z⟩;have V:=hid (HW.o y z (Z HE.o).1 (Z HE.o).2);rw[HE.o];have k0:=(X.cell M 0).trans c0;have Y:=hid X;clear X Z)
   | (go_at_call 211;refine(YBJ (HP.o.gr Y.o) y z x hX.o).mono ?_;rintro e w2 ⟨rfl,J,U⟩;have N:=hid J;have E:=hid U;clear J U))
  go_ret;refine⟨ZzN (by rw[V.o.1,HE.o]),HK.o _ Y.o _ N.o ?_⟩;rw[<-V.o.2];exact E.o
 ·have HS:Hid (v.st a x=v):=⟨by unfold Vm.st;rw[ϑ h0]⟩;obtain⟨y,hy⟩:∃y,y=v.ldE a:=⟨_,rfl⟩;have HX:=hid hy;have d0:(y==0)=false:=by rw[hy];simpa using h0
  clear hr hp hg hV h0 hx hy;go_enter func177,ntmps177;go_wp2_with(go_at_call 209;refine(ZfJ HV.o a).mono ?_;rintro e w1 ⟨X,x1,y1,rfl,-⟩;rw[<-HX.o];have Y:=hid X;clear X);go_ret;exact⟨ZzN (by rw[HX.o]),Y.o.touch S,by rw[HS.o];exact HV.o.gr Y.o⟩
end
end
section
open Go.RowKit Word
def Vm.mpE(v:Vm)(p:Int):Int:=if pgE v.pt p≠0 then 11 else if v.pt.getD p.toNat 0≠0 then 13 else if v.pl.used=v.pl.rm then 14 else 0
def Vm.mp(v:Vm)(p:Int):Vm:=if v.mpE p=0 then {v with pl:=v.pl.take,pt:=v.pt.set p.toNat (v.pl.next+1)}else v
def Vm.um(v:Vm)(p:Int):Vm:=if frE v.pt p=0 then {v with pl:=v.pl.give (v.pt.getD p.toNat 0-1),pt:=v.pt.set p.toNat 0}else v
theorem YMb{p:Pl}{f:Nat}(h:at_ p.tk f=true):at_ p.fresh.tk f=true:=by
 unfold Pl.fresh
 split
 ·have:=XaX h
  show at_ (p.tk++[false]) f=true
  unfold at_ at h⊢;rw[φ,ζB this,<-φ];exact h
 ·exact h
theorem Xiq(l:List Bool){i:Nat}(hi:i<l.length)(x:Bool)(j:Nat):at_ (l.set i x) j=if i=j then x else at_ l j:=by
 unfold at_;simp only[φ,ξv];by_cases e:i=j
 ·subst e;simp[hi]
 ·simp[e]
theorem QGm{p:Pl}(h:QIq p)(f:Nat):at_ p.take.tk f=if p.next=f then true else at_ p.fresh.tk f:=Xiq _ (Z3f h).1 _ _
theorem VP7{p:Pl}(h:QIq p){f:Nat}(hf:at_ p.tk f=true):f≠p.next:=by
 rintro rfl;have h1:=(Z3f h).2.2;rw[YMb hf]at h1;cases h1
theorem ZAR.frame{v:Vm}(h:ZAR v){p:Nat}(hp:v.pt.getD p 0≠0):at_ v.pl.tk (v.pt.getD p 0-1)=true:=by
 by_cases hl:p<v.pt.length
 ·exact h.fr p hl hp
 ·rw[φ,ζf Ω]at hp;exact absurd rfl hp
theorem ZAR.mp{v:Vm}(h:ZAR v)(p:Int):ZAR (v.mp p):=by
 unfold Vm.mp
 split
 ·rename_i h0;unfold Vm.mpE at h0;by_cases h1:pgE v.pt p≠0
  ·rw[μ h1]at h0;cases h0
  ·rw[ϑ h1]at h0;by_cases h2:v.pt.getD p.toNat 0≠0
   ·rw[μ h2]at h0;cases h0
   ·rw[ϑ h2]at h0;have J:v.pt.getD p.toNat 0=0:=ξl.1 h2;by_cases h3:v.pl.used=v.pl.rm
    ·rw[μ h3]at h0;cases h0
    ·obtain⟨j,rfl,hj⟩:=JkS (ξl.1 h1);rw[τ]at J⊢;have hn:=Z3f h.pl;have hle:=X9u h.pl;have Y:=ZGf h.pl Ω;have hlen:v.pl.fresh.tk.length=v.pl.take.tk.length:=by unfold Pl.take;exact List.length_set.symm
     have hn2:v.pl.next<4096:=by have:=Y.le;have:=Y.rm;omega
     refine⟨Y,h.pt.set j Ω,h.n2,?_,λi hi X=>?_,λi i' hi Z X he=>?_,?_⟩
     ·show v.n=(v.pt.set j _).length*v.pl.take.pg
      rw[υ];have:v.pl.take.pg=v.pl.pg:=(Yoc v.pl).1;rw[this];exact h.np
     ·show at_ v.pl.take.tk ((v.pt.set j _).getD i 0-1)=true
      rw[Q81 hj,QGm h.pl];by_cases e:j=i
      ·rw[μ e,μ Ω]
      ·rw[ϑ e]
       split
       ·rfl
       ·refine YMb (h.frame ?_);have:(v.pt.set j (v.pl.next+1)).getD i 0≠0:=X;rw[Q81 hj,ϑ e]at this;exact this
     ·have X:(v.pt.set j (v.pl.next+1)).getD i 0≠0:=X;have he:(v.pt.set j (v.pl.next+1)).getD i 0=(v.pt.set j (v.pl.next+1)).getD i' 0:=he;have hi:i<v.pt.length:=by have:i<(v.pt.set j (v.pl.next+1)).length:=hi;rwa [υ]at this
      have Z:i' < v.pt.length:=by have:i' < (v.pt.set j (v.pl.next+1)).length:=Z;rwa [υ]at this
      rw[Q81 hj]at X he;rw[Q81 hj]at he;by_cases e:j=i <;> by_cases e':j=i'
      ·rw[<-e,e']
      ·rw[μ e,ϑ e']at he;have:=VP7 h.pl (h.frame (p:=i') Ω);omega
      ·rw[ϑ e,μ e']at he;have:=VP7 h.pl (h.frame (p:=i) Ω);omega
      ·rw[ϑ e]at X he;rw[ϑ e']at he;exact h.inj i i' hi Z X he
     ·show v.pl.take.used=nz (v.pt.set j (v.pl.next+1))
      rw[VaR h.pl,Zav hj J Ω,h.us]
 ·exact h
theorem ZAR.um{v:Vm}(h:ZAR v)(p:Int):ZAR (v.um p):=by
 unfold Vm.um
 split
 ·rename_i h0;obtain⟨j,rfl,hj,Y⟩:=ZsE h0;rw[τ];have hf:=h.fr j hj Y;refine⟨Q60 h.pl hf,h.pt.set j Ω,h.n2,?_,λi hi hn=>?_,λi i' hi X hn he=>?_,?_⟩
  ·show v.n=(v.pt.set j 0).length*v.pl.pg
   rw[υ];exact h.np
  ·have hi:i<v.pt.length:=by have:i<(v.pt.set j 0).length:=hi;rwa [υ]at this
   have hn:(v.pt.set j 0).getD i 0≠0:=hn
   show at_ (v.pl.tk.set _ false) ((v.pt.set j 0).getD i 0-1)=true
   rw[Q81 hj]at hn⊢;by_cases e:j=i
   ·rw[μ e]at hn;exact absurd rfl hn
   ·rw[ϑ e]at hn⊢;rw[Xiq _ (XaX hf),ϑ,h.fr i hi hn];intro e2;exact e (h.inj j i hj hi Y Ω)
  ·have hi:i<v.pt.length:=by have:i<(v.pt.set j 0).length:=hi;rwa [υ]at this
   have X:i' < v.pt.length:=by have:i' < (v.pt.set j 0).length:=X;rwa [υ]at this
   have hn:(v.pt.set j 0).getD i 0≠0:=hn;have he:(v.pt.set j 0).getD i 0=(v.pt.set j 0).getD i' 0:=he;rw[Q81 hj]at hn he;rw[Q81 hj]at he;by_cases e:j=i
   ·rw[μ e]at hn;exact absurd rfl hn
   ·rw[ϑ e]at hn he;by_cases e':j=i'
    ·rw[μ e']at he;omega
    ·rw[ϑ e']at he;exact h.inj i i' hi X hn he
  ·show (v.pl.give _).used=nz (v.pt.set j 0)
   have h1:=XvH (p:=v.pl) hf;have h2:=VtU hj Y;have:=h.us;omega
 ·exact h
theorem ZAR.place_lt{v:Vm}(h:ZAR v){a:Int}(h0:v.ldE a=0):v.at a<v.pl.wd.length:=by
 obtain⟨j,rfl,hj,X⟩:=ZAR.hit h0;obtain⟨h1,h2⟩:=h.split hj;have hf:=XaX (h.fr _ h1 X);unfold Vm.at;rw[<-ζM,τ,<-ξT,τ,h.pl.wl];have:(v.pt.getD (j/v.pl.pg) 0-1+1)*v.pl.pg<=v.pl.tk.length*v.pl.pg:=ζl _ hf;rw[ζ6]at this;omega
theorem XfE{g f o f' o':Nat}(h1:o<g)(h2:o' < g)(h:f*g+o=f' * g+o'):f=f'/\o=o':=by
 have e1:(f*g+o)/g=f:=by rw[ζJ,Nat.mul_add_div Ω,ψw h1,ξj]
 have e2:(f' * g+o')/g=f':=by rw[ζJ,Nat.mul_add_div Ω,ψw h2,ξj]
 rw[h,e2]at e1;subst e1;exact⟨rfl,by omega⟩
theorem ZAR.at_inj{v:Vm}(h:ZAR v){a b:Int}(ha:v.ldE a=0)(hb:v.ldE b=0)(he:v.at a=v.at b):a=b:=by
 obtain⟨j,rfl,hj,X⟩:=ZAR.hit ha;obtain⟨i,rfl,hi,hne'⟩:=ZAR.hit hb;obtain⟨h1,h2⟩:=h.split hj;obtain⟨h3,h4⟩:=h.split hi;unfold Vm.at at he;rw[<-ζM,τ,<-ξT,τ,<-ζM,τ,<-ξT,τ]at he;obtain⟨e1,e2⟩:=XfE h2 h4 he;have e3:=h.inj _ _ h1 h3 X Ω;have:=ζx j v.pl.pg;have:=ζx i v.pl.pg;rw[e3,e2]at *
 omega
theorem Zpt(v:Vm)(a:Int)(x:Nat)(b:Int):(v.st a x).ldE b=v.ldE b:=by unfold Vm.st;split <;> rfl
theorem ZAR.st_ldV{v:Vm}(h:ZAR v){a:Int}(x:Nat)(ha:v.ldE a=0)(b:Int):(v.st a x).ldV b=if a=b then x else v.ldV b:=by
 have e1:v.st a x={v with pl:={v.pl with wd:=v.pl.wd.set (v.at a) x}}:=μ ha;have e2:(v.st a x).at b=v.at b:=by rw[e1];rfl
 have e3:(v.st a x).pl.wd=v.pl.wd.set (v.at a) x:=by rw[e1]
 unfold Vm.ldV;rw[Zpt,e2,e3];by_cases hb:v.ldE b=0
 ·rw[μ hb,μ hb,Q81 (h.place_lt ha)];by_cases e:a=b
  ·rw[μ e,μ (by rw[e])]
  ·rw[ϑ e,ϑ (λhe=>e (h.at_inj ha hb he))]
 ·rw[ϑ hb,ϑ hb];by_cases e:a=b
  ·subst e;exact absurd ha hb
  ·rw[ϑ e]
theorem Qmw{v:Vm}{p:Int}(h:v.mpE p≠0):v.mp p=v:=ϑ h
theorem V4M{v:Vm}{p:Int}(h:frE v.pt p≠0):v.um p=v:=ϑ h
theorem Jvo{v:Vm}{p:Int}(h:v.mpE p=0):∃j:Nat,p=j/\j<v.pt.length/\v.pt.getD j 0=0/\v.pl.used≠v.pl.rm:=by
 unfold Vm.mpE at h
 split at h
 ·cases h
 ·rename_i h1;obtain⟨j,rfl,hj⟩:=JkS (ξl.1 h1);rw[τ]at h
  split at h
  ·cases h
  ·rename_i h2
   split at h
   ·cases h
   ·rename_i h3;exact⟨j,rfl,hj,ξl.1 h2,h3⟩
theorem VP8{pt:List Nat}{p:Nat}(h:p<pt.length):frE pt p=if pt.getD p 0=0 then 12 else 0:=by
 unfold frE pgE;rw[μ (show (if (0:Int)<=(p:Int)/\(p:Int)<(pt.length:Int)then (0:Int)else 11)=0 from μ ⟨by omega,by omega⟩),τ]
theorem ZAR.ldE_of{v:Vm}(h:ZAR v){a:Nat}(ha:a<v.n):v.ldE a=if v.pt.getD (a/v.pl.pg) 0=0 then 12 else 0:=by
 unfold Vm.ldE;rw[μ ⟨by omega,by omega⟩,<-ζM,VP8 (h.split ha).1]
theorem ZAR.mp_ldE{v:Vm}(h:ZAR v){p:Nat}(hp:v.mpE p=0){a:Nat}(ha:a<v.n):(v.mp p).ldE a=if a/v.pl.pg=p then 0 else v.ldE a:=by
 have e1:v.mp p={v with pl:=v.pl.take,pt:=v.pt.set p (v.pl.next+1)}:=by unfold Vm.mp;rw[μ hp,τ]
 obtain⟨j,hj,X,-,-⟩:=Jvo hp;obtain rfl:p=j:=Ω
 have h1:=(h.mp p).ldE_of (a:=a) (by rw[e1];exact ha);have e2:(v.mp p).pl.pg=v.pl.pg:=by rw[e1];exact(Yoc v.pl).1
 have e3:(v.mp p).pt=v.pt.set p (v.pl.next+1):=by rw[e1]
 rw[h1,e2,e3,Q81 X,h.ldE_of ha];by_cases e:a/v.pl.pg=p
 ·rw[μ e.symm,μ e,ϑ Ω]
 ·have en:¬p=a/v.pl.pg:=λh=>e h.symm;rw[ϑ en,ϑ e]
theorem ZAR.mp_ldV{v:Vm}(h:ZAR v){p:Nat}(hp:v.mpE p=0){a:Nat}(ha:a<v.n):(v.mp p).ldV a=if a/v.pl.pg=p then 0 else v.ldV a:=by
 have e1:v.mp p={v with pl:=v.pl.take,pt:=v.pt.set p (v.pl.next+1)}:=by unfold Vm.mp;rw[μ hp,τ]
 obtain⟨j,hj,U,-,-⟩:=Jvo hp;obtain rfl:p=j:=Ω
 have hE:=h.mp_ldE hp ha;obtain⟨n1,n2,n3⟩:=Z3f h.pl;have hf:v.pl.next*v.pl.pg+v.pl.pg<=v.pl.fresh.wd.length:=by rw[n2,<-ζ6];exact ζl _ n1
 have e2:(v.mp p).pl.pg=v.pl.pg:=by rw[e1];exact(Yoc v.pl).1
 have e3:(v.mp p).pt=v.pt.set p (v.pl.next+1):=by rw[e1]
 have e4:(v.mp p).pl.wd=JA7 v.pl.fresh.wd (v.pl.next*v.pl.pg) v.pl.pg:=by rw[e1];rfl
 obtain⟨s1,s2⟩:=h.split ha
 have e5:(v.mp p).at a=((v.pt.set p (v.pl.next+1)).getD (a/v.pl.pg) 0-1)*v.pl.pg+a%v.pl.pg:=by
  unfold Vm.at;rw[e2,e3,<-ζM,τ,<-ξT,τ]
 unfold Vm.ldV;rw[hE,e4,e5,Q81 U];by_cases e:a/v.pl.pg=p
 ·rw[μ e,μ e,μ rfl,μ e.symm,YMA hf,μ ⟨by simp,by rw[Nat.add_sub_cancel];omega⟩]
 ·have en:¬p=a/v.pl.pg:=λh=>e h.symm;rw[ϑ e,ϑ e,ϑ en];by_cases h0:v.ldE a=0
  ·rw[μ h0,μ h0];obtain⟨j',hj',hj2,J⟩:=ZAR.hit h0;obtain rfl:a=j':=Ω
   have Y:=h.fr _ s1 J;have hnx:=VP7 h.pl Y;have hlt:=XaX Y
   have Z:v.at a=(v.pt.getD (a/v.pl.pg) 0-1)*v.pl.pg+a%v.pl.pg:=by
    unfold Vm.at;rw[<-ζM,τ,<-ξT,τ]
   have X:=h.place_lt h0;rw[Z]at X⊢;rw[YMA hf,ϑ]
   ·unfold Pl.fresh
    split
    ·generalize (v.pt.getD (a/v.pl.pg) 0-1)*v.pl.pg+a%v.pl.pg=i at X;simp only[φ];rw[ζB X]
    ·rfl
   ·rintro⟨c1,c2⟩;generalize v.pt.getD (a/v.pl.pg) 0-1=f at *
    rcases γ f v.pl.next with hl|hl
    ·have:(f+1)*v.pl.pg<=v.pl.next*v.pl.pg:=ζl _ hl
     rw[ζ6]at this;omega
    ·have:(v.pl.next+1)*v.pl.pg<=f*v.pl.pg:=ζl _ Ω;rw[ζ6]at this;omega
  ·rw[ϑ h0,ϑ h0]
theorem ZAR.um_ldE{v:Vm}(h:ZAR v){p:Nat}(hp:frE v.pt p=0){a:Nat}(ha:a<v.n):(v.um p).ldE a=if a/v.pl.pg=p then 12 else v.ldE a:=by
 have e1:v.um p={v with pl:=v.pl.give (v.pt.getD p 0-1),pt:=v.pt.set p 0}:=by unfold Vm.um;rw[μ hp,τ]
 obtain⟨j,hj,X,-⟩:=ZsE hp;obtain rfl:p=j:=Ω
 have h1:=(h.um p).ldE_of (a:=a) (by rw[e1];exact ha);have e2:(v.um p).pl.pg=v.pl.pg:=by rw[e1];rfl
 have e3:(v.um p).pt=v.pt.set p 0:=by rw[e1]
 rw[h1,e2,e3,Q81 X,h.ldE_of ha];by_cases e:a/v.pl.pg=p
 ·rw[μ e.symm,μ e,μ rfl]
 ·have en:¬p=a/v.pl.pg:=λh=>e h.symm;rw[ϑ en,ϑ e]
theorem ZAR.um_ldV{v:Vm}(h:ZAR v){p:Nat}(hp:frE v.pt p=0){a:Nat}(ha:a<v.n)(hne:a/v.pl.pg≠p):(v.um p).ldV a=v.ldV a:=by
 have e1:v.um p={v with pl:=v.pl.give (v.pt.getD p 0-1),pt:=v.pt.set p 0}:=by unfold Vm.um;rw[μ hp,τ]
 obtain⟨j,hj,X,-⟩:=ZsE hp;obtain rfl:p=j:=Ω
 have hE:=h.um_ldE hp ha;rw[ϑ hne]at hE
 have e5:(v.um p).at a=v.at a:=by
  unfold Vm.at;rw[e1]
  show ((v.pt.set p 0).getD ((a:Int)/(v.pl.pg:Int)).toNat 0-1)*v.pl.pg+_=_
  rw[<-ζM,τ,Q81 X,ϑ (show ¬p=a/v.pl.pg from λh=>hne h.symm)];rfl
 unfold Vm.ldV;rw[hE,e5,e1];rfl
end
section
open Go.RowKit Word
def XqR(w:World)(S:Nat->Prop)(q:Nat)(v:Vm)(w':World):Prop:=XF4 S w w'/\QXZ w' (plus S w) q v
section
variable {w:World} {S:Nat->Prop} {q:Nat} {v:Vm}
theorem ZXj(v:Vm)(p:Int):(frE v.pt p=11/\v.mpE p=11)\/(frE v.pt p=0/\v.mpE p=13)\/(frE v.pt p=12/\v.pl.used=v.pl.rm/\v.mpE p=14)\/(frE v.pt p=12/\v.pl.used≠v.pl.rm/\v.mpE p=0):=by
 have e1:frE v.pt p=if pgE v.pt p=0 then (if v.pt.getD p.toNat 0=0 then 12 else 0)else 11:=rfl
 have e2:v.mpE p=if pgE v.pt p≠0 then 11 else if v.pt.getD p.toNat 0≠0 then 13 else if v.pl.used=v.pl.rm then 14 else 0:=rfl
 rw[e1,e2];by_cases h:pgE v.pt p=0
 ·have h':¬pgE v.pt p≠0:=λh'=>h' h;by_cases h2:v.pt.getD p.toNat 0=0
  ·have X:¬v.pt.getD p.toNat 0≠0:=λh'=>h' h2;by_cases h3:v.pl.used=v.pl.rm
   ·exact .inr (.inr (.inl ⟨by rw[μ h,μ h2],h3,by rw[ϑ h',ϑ X,μ h3]⟩))
   ·exact .inr (.inr (.inr ⟨by rw[μ h,μ h2],h3,by rw[ϑ h',ϑ X,ϑ h3]⟩))
  ·exact .inr (.inl ⟨by rw[μ h,ϑ h2],by rw[ϑ h',μ h2]⟩)
 ·exact .inl ⟨by rw[ϑ h],by rw[μ h]⟩
theorem YKH(hV:QXZ w S q v)(p:Int):Calls prog 164 #[.pointer (some ⟨q,0,none⟩),.int .i64 p] w λe w'=>e=.returned (.int .i64 (v.mpE p))/\XqR w S q (v.mp p) w':=by
 have HV:=hid hV;obtain⟨S1,S2,b1,b2,hr,hp,hg,s1,s2,s3,s4,s5⟩:=hV.row;have J:=hr.lt;have c0:=hr.cc 0;have c1:=hr.cc 1;have HP:=hid hp;have HG:=hid hg
 have HN:Hid (v.mpE p≠0->∀w',Gr w w'->XqR w S q (v.mp p) w'):=⟨λh w' g=>by
  rw[Qmw h]
  exact⟨g.touch S,(hV.gr g).mono (λk hk=>.inl hk)⟩⟩
 have HR:=hid hr;have HS:=hid (ν s1 (ν s2 (ν s3 (ν s4 s5))));rcases ZXj v p with⟨h1,h2⟩|⟨h1,h2⟩|⟨h1,h2,h3⟩|⟨h1,h2,h3⟩
 ·have HE:=hid (ν h1 h2);clear hV hr hp hg s1 s2 s3 s4 s5 h1 h2;go_enter func164,ntmps164
  go_wp2_with(first
   | (go_at_call 93;refine(Zuu HV.o).mono ?_;rintro e w1 ⟨rfl,rfl⟩)
   | (go_at_call 197;refine(Qit HG.o p).mono ?_;rintro e w1 ⟨rfl,Y⟩;rw[HE.o.1];have X:=hid Y;clear Y))
  go_ret;exact⟨ZzN (by rw[HE.o.2]),HN.o (by rw[HE.o.2];decide) _ X.o⟩
 ·have HE:=hid (ν h1 h2);clear hV hr hp hg s1 s2 s3 s4 s5 h1 h2;go_enter func164,ntmps164
  go_wp2_with(first
   | (go_at_call 93;refine(Zuu HV.o).mono ?_;rintro e w1 ⟨rfl,rfl⟩)
   | (go_at_call 197;refine(Qit HG.o p).mono ?_;rintro e w1 ⟨rfl,Y⟩;rw[HE.o.1];have X:=hid Y;clear Y))
  go_ret;exact⟨ZzN (by rw[HE.o.2]),HN.o (by rw[HE.o.2];decide) _ X.o⟩
 ·have HE:=hid (ν h1 (ν h2 h3));clear hV hr hp hg s1 s2 s3 s4 s5 h1 h2 h3;go_enter func164,ntmps164
  go_wp2_with(first
   | (go_at_call 93;refine(Zuu HV.o).mono ?_;rintro e w1 ⟨rfl,rfl⟩)
   | (go_at_call 197;refine(Qit HG.o p).mono ?_;rintro e w1 ⟨rfl,Y⟩;rw[HE.o.1];have k0:=(Y.cell J 0).trans c0;have X:=hid Y;clear Y)
   | (go_at_call 198;refine(JVJ (HP.o.gr X.o)).mono ?_;rintro e w2 (⟨-,rfl,D⟩|⟨h,-⟩);rotate_left;(exact absurd HE.o.2.1 Ω);have Xd:=hid D;clear D))
  go_ret;exact⟨ZzN (by rw[HE.o.2.2]),HN.o (by rw[HE.o.2.2];decide) _ (X.o.trans Xd.o)⟩
 ·obtain⟨j,rfl,hj,h0,-⟩:=Jvo h3;have HE:=hid (ν h1 (ν h2 h3))
  have E:v.pl.next<4096:=by
   have hle:=X9u hV.ok.pl;have A:=ZGf hV.ok.pl Ω;have hn:=Z3f hV.ok.pl;have hlen:v.pl.fresh.tk.length=v.pl.take.tk.length:=by unfold Pl.take;exact List.length_set.symm
   have:=A.le;have:=A.rm;omega
  have HM:=hid (show v.mp j={v with pl:=v.pl.take,pt:=v.pt.set j (v.pl.next+1)}by unfold Vm.mp;rw[μ h3,τ]);have Xe:=hid (λ(w1 w2:World) (g1:Gr w w1) (t2:XF4 S1 w1 w2)=>YTd (((hg.gr g1).cut).touch t2 (λk hk _ hk2=>s3 k hk2 hk.1)) hj h0 E);have I:=hid (hV.ok.mp j);obtain⟨nx,Z⟩:∃nx,nx=v.pl.next:=⟨_,rfl⟩
  have N:=hid Z;rw[<-Z]at E;have Xa:=hid c1;clear hV hr hp hg s1 s2 s3 h1 h2 h3 Z h0;go_enter func164,ntmps164
  go_wp2_with(first
   | (go_at_call 93;refine(Zuu HV.o).mono ?_;rintro e w1 ⟨rfl,rfl⟩)
   | (go_at_call 197;refine(Qit HG.o j).mono ?_;rintro e w1 ⟨rfl,Y⟩;rw[HE.o.1];have k0:=(Y.cell J 0).trans c0;have X:=hid Y;clear Y)
   | (go_at_call 198;refine(JVJ (HP.o.gr X.o)).mono ?_;rintro e w2 (⟨h,-⟩|⟨-,rfl,M,G⟩);(exact absurd h HE.o.2.1);rw[<-N.o];have k1:=(M.cell (ω J X.o.size) s4 1).trans ((X.o.cell J 1).trans Xa.o);have U:=hid M;have Xb:=hid G;clear M G)
   | (go_at_call 199;have V:=Xe.o _ _ X.o U.o;rw[<-N.o]at V;refine V.mono ?_;rintro e w3 ⟨rfl,B⟩;have Xc:=hid B;clear B V))
  go_ret;refine⟨ZzN (by rw[HE.o.2.2]),?_⟩;obtain⟨s1,s2,s3,s4,s5⟩:=HS.o;obtain⟨t3,p3⟩:=Xc.o;have Xf:XF4 S w w2:=(X.o.touch S).trans (U.o.mono (λk _ hk=>s1 k hk));have z1:=X.o.size;have z2:=U.o.size;refine⟨Xf.trans (t3.mono (λk _ hk=>s2 k hk.1)),I.o,.inl HV.o.sq,ZOk (plus S1 w1) w2,plus (ZOk S2 w1) w2,b1,b2,?_,?_,?_,λk hk=>?_,λk hk=>?_,λk hk hk2=>?_,λhk=>?_,λhk=>?_⟩
  ·rw[HM.o];exact((HR.o.gr X.o).touch U.o s4).touch t3 (λh=>s5 h.1)
  ·rw[HM.o]
   exact Xb.o.cut.touch t3 (λk hk _ hk2=>by
    rcases hk.1 with h|h
    ·exact s3 k h hk2.1
    ·have:=hk2.2;omega)
  ·rw[HM.o]
   show XZC w3 _ b2 (v.pt.set j (v.pl.next+1))
   rw[<-N.o];exact p3
  ·rcases hk.1 with h|h
   ·exact .inl (s1 k h)
   ·exact .inr Ω
  ·rcases hk with h|h
   ·exact .inl (s2 k h.1)
   ·exact .inr Ω
  ·rcases hk2 with h|h
   ·rcases hk.1 with h'|h'
    ·exact s3 k h' h.1
    ·have:=h.2;omega
   ·have:=hk.2;omega
  ·rcases hk.1 with h|h
   ·exact s4 h
   ·omega
  ·rcases hk with h|h
   ·exact s5 h.1
   ·omega
theorem JYA(hV:QXZ w S q v)(p:Int):Calls prog 127 #[.pointer (some ⟨q,0,none⟩),.int .i64 p] w λe w'=>e=.returned (.int .i64 (frE v.pt p))/\XqR w S q (v.um p) w':=by
 have HV:=hid hV;obtain⟨S1,S2,b1,b2,hr,hp,hg,s1,s2,s3,s4,s5⟩:=hV.row;have A:=hr.lt;have c0:=hr.cc 0;have c1:=hr.cc 1;have HP:=hid hp;have HG:=hid hg;have HR:=hid hr;have HS:=hid (ν s1 (ν s2 (ν s3 (ν s4 s5))));by_cases h0:frE v.pt p=0
 ·have HE:=hid h0;obtain⟨j,rfl,hj,N⟩:=ZsE h0;have hf:=hV.ok.fr j hj N;obtain⟨f,Y⟩:∃f,f=v.pt.getD j 0-1:=⟨_,rfl⟩;have HF:=hid Y;have Xd:=hid (show frV v.pt j=(f:Int)by unfold frV;rw[μ h0,τ,Y];omega);rw[<-Y]at hf;have HM:=hid (show v.um j={v with pl:=v.pl.give f,pt:=v.pt.set j 0}by unfold Vm.um;rw[μ h0,τ,Y]);have B:=hid (λ(w1:World) (t1:XF4 S2 w w1)=>XDh (p:=v.pl) (f:=f) ((hp.cut).touch t1 (λk hk _ hk2=>s3 k hk.1 hk2)) hf);have I:=hid (hV.ok.um j);clear hV hr hp hg s1 s2 s3 s4 h0 N hf Y;have Xc:=hid c0;go_enter func127,ntmps127
  go_wp2_with(first
   | (go_at_call 93;refine(Zuu HV.o).mono ?_;rintro e w1 ⟨rfl,rfl⟩)
   | (go_at_call 166;refine(Yzj HG.o j).mono ?_;rintro e w1 ⟨rfl,(⟨h,-⟩|⟨-,Z,X⟩)⟩;(exact absurd HE.o h);rw[HE.o,Xd.o];have k0:=(Z.cell A s5 0).trans Xc.o;have J:=hid Z;have G:=hid X;clear Z X)
   | (go_at_call 167;refine(B.o _ J.o).mono ?_;rintro e w2 ⟨rfl,M,V⟩;have E:=hid M;have Xb:=hid V;clear M V))
  go_ret;refine⟨ZzN (by rw[HE.o]),?_⟩;obtain⟨s1,s2,s3,s4,s5⟩:=HS.o;have t1:=J.o;have t2:=E.o;have z1:=J.o.size;have z2:=E.o.size;refine⟨(t1.mono (λk _ hk=>s2 k hk)).trans (t2.mono (λk _ hk=>s1 k hk.1)),I.o,.inl HV.o.sq,plus (ZOk S1 w) w1,ZOk (plus S2 w) w1,b1,b2,?_,?_,?_,λk hk=>?_,λk hk=>?_,λk hk hk2=>?_,λhk=>?_,λhk=>?_⟩
  ·rw[HM.o];exact(HR.o.touch t1 s5).touch t2 (λh=>s4 h.1)
  ·rw[HM.o];exact Xb.o
  ·rw[HM.o];have X:=G.o;rw[τ]at X
   exact X.cut.touch t2 (λk hk _ hk2=>by
    rcases hk.1 with h|h
    ·exact s3 k hk2.1 h
    ·have:=hk2.2;omega)
  ·rcases hk with h|h
   ·exact .inl (s1 k h.1)
   ·exact .inr Ω
  ·rcases hk.1 with h|h
   ·exact .inl (s2 k h)
   ·exact .inr Ω
  ·rcases hk with h|h
   ·rcases hk2.1 with h'|h'
    ·exact s3 k h.1 h'
    ·have:=h.2;omega
   ·have:=hk2.2;omega
  ·rcases hk with h|h
   ·exact s4 h.1
   ·omega
  ·rcases hk.1 with h|h
   ·exact s5 h
   ·omega
 ·obtain⟨y,hy⟩:∃y,y=frE v.pt p:=⟨_,rfl⟩;have HX:=hid hy;have d0:(y==0)=false:=by rw[hy];simpa using h0
  have HM:=hid (V4M h0);have Xa:=hid h0;clear hV hr hp hg h0 hy s1 s2 s3 s4 s5;go_enter func127,ntmps127
  go_wp2_with(first
   | (go_at_call 93;refine(Zuu HV.o).mono ?_;rintro e w1 ⟨rfl,rfl⟩)
   | (go_at_call 166;refine(Yzj HG.o p).mono ?_;rintro e w1 ⟨rfl,(⟨-,U⟩|⟨h,-⟩)⟩;rotate_left;(exact absurd h Xa.o);rw[<-HX.o];have D:=hid U;clear U))
  go_ret;refine⟨ZzN (by rw[HX.o]),D.o.touch S,?_⟩;rw[HM.o];exact(HV.o.gr D.o).mono (λk hk=>.inl hk)
def Vm.new(n pg rm:Nat):Vm:=⟨n,Pl.none pg rm,List.replicate (n/pg) 0⟩
theorem ZAR.new{n pg rm:Nat}(h1:Y4M rm=true)(h2:Jnk pg=true)(h3:1<=n)(h4:n<=524288)(h5:n%pg=0):ZAR (Vm.new n pg rm):=by
 have hd:n/pg*pg=n:=by have:=ζx n pg;rw[h5,ζJ]at this;omega
 have h7:1<=n/pg:=by
  rcases ζE (n/pg)with h|h
  ·rw[h]at hd;omega
  ·exact h
 refine⟨Xgr h1 h2,Zym.new h7 (by have:=ζ8 n pg;omega),h4,?_,λp hp hne=>?_,λp p' hp hp' hne=>?_,?_⟩
 ·show n=(List.replicate (n/pg) 0).length*pg
  rw[ζC,hd]
 ·exact absurd (VBu _ _) hne
 ·exact absurd (VBu _ _) hne
 ·show Pl.used (Pl.none pg rm)=nz (List.replicate (n/pg) 0)
  rw[YPV];rfl
theorem ZEa{n pg rm:Nat}(h1:Y4M rm=true)(h2:Jnk pg=true)(h3:1<=n)(h4:n<=524288)(h5:n%pg=0)(h6:1<=pg)(h7:pg<=256)(w:World):Calls prog 39 #[.int .i64 n,.int .i64 pg,.int .i64 rm] w λe w'=>
  ∃q,e=.returned (.tuple #[.pointer (some ⟨q,0,none⟩),.int .i64 0])/\Gr w w'/\QXZ w' (λk=>w.heap.size<=k) q (Vm.new n pg rm):=by
 have G:=hid (ZAR.new h1 h2 h3 h4 h5);have D:=hid (λw=>XXu rm pg Ω w);have HB:=hid (show (Y4M rm&&Jnk pg)=true by rw[h1,h2];rfl);have hd:n/pg*pg=n:=by have:=ζx n pg;rw[h5,ζJ]at this;omega
 have h8:1<=n/pg:=by
  rcases ζE (n/pg)with h|h
  ·rw[h]at hd;omega
  ·exact h
 have h9:n/pg<=524288:=by have:=ζ8 n pg;omega
 obtain⟨m,hm⟩:∃m,m=n/pg:=⟨_,rfl⟩;have q1:((n:Int).tdiv (pg:Int))=(m:Int):=by rw[hm];rfl
 have q2:((n:Int)/(pg:Int))=(m:Int):=by rw[hm];rfl
 have q3:((n:Int).tmod (pg:Int))=0:=by rw[show ((n:Int).tmod (pg:Int))=((n%pg:Nat):Int)from rfl,h5];rfl
 have q4:((n:Int)%(pg:Int))=0:=by rw[show ((n:Int)%(pg:Int))=((n%pg:Nat):Int)from rfl,h5];rfl
 rw[<-hm]at h8 h9;have HM:=hid hm;have I:=hid (λw=>J3k (w:=w) h8 h9);have hBp:(pg:Int)≠0:=Ω
 clear h1 h2 h5 hd hm;go_enter func39,ntmps39
 go_wp2_with(first
  | (go_at_call 80;refine(D.o _).mono ?_;rintro e w1 (⟨h,-⟩|⟨-,rfl,J,V⟩);(exact absurd (HB.o.symm.trans h) (by decide));have N:=hid J;have U:=hid V;clear J V)
  | (go_at_call 81;refine(I.o _).mono ?_;rintro e w2 ⟨q2,rfl,Z,M⟩;have X:=(Rec.new w1 148 [.pointer (some ⟨w.heap.size,0,none⟩),.pointer none,.int .i64 n]).gr Z;have kf:=X.free 1;have k1:=X.cc 1;have E:=hid X;have Y:=hid Z;have A:=hid M;clear Z M X))
 go_ret2;have z1:=N.o.size;have z2:=Y.o.size
 have hq:w.heap.size<w1.heap.size:=U.o.row.elim λ_ h=>by
  obtain⟨_,_,_,_,hr,-⟩:=h;exact hr.lt
 have hG:=XF4.setCell (XF4.refl (λk=>k=w1.heap.size) w2) (a:=⟨w1.heap.size,1,none⟩) (λ_=>rfl) (.pointer (some ⟨q2,0,none⟩));simp only[η]at z2;refine⟨_,Qh8 rfl rfl,?_,G.o,z1,ZOk (λb=>w.heap.size<=b) w1,λk=>w1.heap.size+1<=k,w.heap.size,q2,Rec.set E.o 1 _,?_,?_,λk hk=>hk.1,λk hk=>by omega,λk hk hk2=>by have:=hk.2;omega,λh=>by have:=h.2;omega,λh=>by omega⟩
 ·exact XF4.gr ((((N.o.alloc _).trans Y.o).touch (λk=>w.heap.size<=k)).trans (hG.mono (λk _ hk=>by omega)) |>.mono (λk hk h=>by omega))
 ·have:=(U.o.cut.gr (((Gr.refl w1).alloc _).trans Y.o)).touch hG (λk hk _ he=>by have:=hk.2;omega);rw[τ,τ]at this;exact this
 ·have:=A.o.touch hG (λk hk _ he=>by simp only[η]at hk;omega);rw[HM.o]at this;exact this.mono (λk hk=>by simpa using hk)
end
end
section
open Go.RowKit Word
structure Ji4(v v':Vm)(F:List Nat):Prop where
 ok:ZAR v'
 n:v'.n=v.n
 pg:v'.pl.pg=v.pl.pg
 rm:v'.pl.rm=v.pl.rm
 us:v'.pl.used=v.pl.used+F.length
 nd:F.Nodup
 un:∀p∈F,p<v.pt.length/\v.pt.getD p 0=0
 ma:∀p,p<v.pt.length->(v'.pt.getD p 0≠0↔(v.pt.getD p 0≠0\/p∈F))
 vl:∀a:Nat,a<v.n->v'.ldV a=if a/v.pl.pg∈F then 0 else v.ldV a
theorem ZAR.len{v:Vm}(h:ZAR v):v.pt.length=v.n/v.pl.pg:=by
 rw[h.np,ξK _ h.page.1]
theorem Ji4.len{v v':Vm}{F:List Nat}(h:Ji4 v v' F)(hv:ZAR v):v'.pt.length=v.pt.length:=by
 rw[h.ok.len,hv.len,h.n,h.pg]
theorem Ji4.ldE{v v':Vm}{F:List Nat}(h:Ji4 v v' F)(hv:ZAR v){a:Nat}(ha:a<v.n):v'.ldE a=if a/v.pl.pg∈F then 0 else v.ldE a:=by
 have h1:=h.ma _ (hv.split ha).1;rw[h.ok.ldE_of (by rw[h.n];exact ha),hv.ldE_of ha,h.pg];by_cases hf:a/v.pl.pg∈F
 ·rw[μ hf,ϑ (h1.2 (.inr hf))]
 ·rw[ϑ hf];by_cases h0:v.pt.getD (a/v.pl.pg) 0=0
  ·rw[μ h0,μ];exact ξl.1 (λhn=>(h1.1 hn).elim (λh'=>h' h0) hf)
  ·rw[ϑ h0,ϑ (h1.2 (.inl h0))]
theorem Ji4.refl{v:Vm}(h:ZAR v):Ji4 v v []:=
 ⟨h,rfl,rfl,rfl,rfl,ξ1,λp hp=>(by cases hp),λp _=>by simp,λa _=>by simp⟩
theorem Ji4.mp{v v':Vm}{F:List Nat}(h:Ji4 v v' F)(hv:ZAR v){p:Nat}(hp:v'.mpE p=0):Ji4 v (v'.mp p) (F++[p]):=by
 have e1:v'.mp p={v' with pl:=v'.pl.take,pt:=v'.pt.set p (v'.pl.next+1)}:=by unfold Vm.mp;rw[μ hp,τ]
 obtain⟨j,hj,X,h0,hr⟩:=Jvo hp;obtain rfl:p=j:=Ω
 have hl:=h.len hv;have h1:=h.ma p Ω;have Z:p∉F:=λhf=>h1.2 (.inr hf) h0;have Y:v.pt.getD p 0=0:=ξl.1 (λhn=>h1.2 (.inl hn) h0);refine⟨h.ok.mp p,?_,?_,?_,?_,?_,λi hi=>?_,λi hi=>?_,λa ha=>?_⟩
 ·rw[e1];exact h.n
 ·rw[e1];exact(Yoc v'.pl).1.trans h.pg
 ·rw[e1];exact(Yoc v'.pl).2.1.trans h.rm
 ·rw[e1,ζk]
  show v'.pl.take.used=_
  rw[VaR h.ok.pl,h.us];rfl
 ·rw[ξu];exact⟨h.nd,by simp,λa ha b hb=>by simp at hb;subst hb;rintro rfl;exact Z ha⟩
 ·rcases ζj.1 hi with h'|h'
  ·exact h.un i h'
  ·simp at h';subst h';exact⟨by omega,Y⟩
 ·rw[e1]
  show (v'.pt.set p _).getD i 0≠0↔_
  rw[Q81 X,ζj];by_cases e:p=i
  ·subst e;simp
  ·rw[ϑ e,h.ma i hi];have:i∉[p]:=by simp;omega
   simp[this]
 ·have:=h.ok.mp_ldV hp (a:=a) (by rw[h.n];exact ha);rw[this,h.pg,h.vl a ha];by_cases e:a/v.pl.pg=p
  ·rw[μ e,μ (ζj.2 (.inr (by simp[e])))]
  ·rw[ϑ e];by_cases hf:a/v.pl.pg∈F
   ·rw[μ hf,μ (ζj.2 (.inl hf))]
   ·rw[ϑ hf,ϑ];intro hm;rcases ζj.1 hm with h'|h'
    ·exact hf h'
    ·simp at h';exact e h'
theorem Ji4.um{v v':Vm}{F:List Nat}{p:Nat}(h:Ji4 v v' (F++[p]))(hv:ZAR v):frE v'.pt p=0/\Ji4 v (v'.um p) F:=by
 obtain⟨V,Z⟩:=h.un p (by simp);have hl:=h.len hv;have h1:=(h.ma p V).2 (.inr (by simp));have X:frE v'.pt p=0:=by rw[VP8 Ω,ϑ h1]
 have e1:v'.um p={v' with pl:=v'.pl.give (v'.pt.getD p 0-1),pt:=v'.pt.set p 0}:=by unfold Vm.um;rw[μ X,τ]
 have J:=ξu.1 h.nd;have Y:p∉F:=λhf=>J.2.2 p hf p (by simp) rfl;refine⟨X,h.ok.um p,?_,?_,?_,?_,J.1,λi hi=>h.un i (by simp[hi]),λi hi=>?_,λa ha=>?_⟩
 ·rw[e1];exact h.n
 ·rw[e1];exact h.pg
 ·rw[e1];exact h.rm
 ·rw[e1]
  show (v'.pl.give _).used=_
  have h2:=XvH (p:=v'.pl) (h.ok.frame h1);have h3:=h.us;rw[ζk,ζ5]at h3;omega
 ·rw[e1]
  show (v'.pt.set p 0).getD i 0≠0↔_
  rw[Q81 Ω];by_cases e:p=i
  ·subst e;rw[μ rfl];exact⟨λh=>absurd rfl h,λh=>h.elim (λh=>absurd Z h) (λh=>absurd h Y)⟩
  ·have:i∉[p]:=by simp;omega
   rw[ϑ e,h.ma i hi,ζj];simp[this]
 ·by_cases e:a/v.pl.pg=p
  ·have hE:=h.ok.um_ldE X (a:=a) (by rw[h.n];exact ha);rw[h.pg,μ e]at hE;have U:=hv.ldE_of ha;rw[e,μ Z]at U;rw[e,ϑ Y];unfold Vm.ldV;rw[hE,U];rfl
  ·have:=h.ok.um_ldV X (a:=a) (by rw[h.n];exact ha) (by rw[h.pg];exact e);rw[this,h.vl a ha];by_cases hf:a/v.pl.pg∈F
   ·rw[μ hf,μ (ζj.2 (.inl hf))]
   ·rw[ϑ hf,ϑ];intro hm;rcases ζj.1 hm with h'|h'
    ·exact hf h'
    ·simp at h';exact e h'
end
section
open Go.RowKit Word
section
variable {w:World} {S:Nat->Prop} {q:Nat} {v:Vm}
def Y1U(w:World)(S:Nat->Prop)(q:Nat)(v:Vm)(F:List Nat):Prop:=∃v',Ji4 v v' F/\QXZ w S q v'
theorem Y97{bs bm:Nat}{F:List Nat}{vF:Value}(hv:ZAR v)(hG:Y1U w S q v F)(hF:w.ownsRow 0 3 1 vF F.length (VfO F))(hs:∀g,vF.ownBlock=some g->¬S g)
  (cs:w.cell? ⟨bs,0,none⟩=some vF) (cm:w.cell? ⟨bm,0,none⟩=some (.pointer (some ⟨q,0,none⟩))) (ls:bs<w.heap.size) (lm:bm<w.heap.size) (ns:¬S bs) (nm:¬S bm):
  Calls prog 162 #[.pointer (some ⟨bs,0,none⟩),.pointer (some ⟨bm,0,none⟩)] w λe w'=>e=.returned (.tuple #[])/\XF4 S w w'/\Y1U w' (plus S w) q v []:=by
 obtain⟨A,c,rfl,B,Xf⟩:=ZfN hF;unfold maxLen at Xf
 have D:F.length<=524288:=by
  obtain⟨v',hg,-⟩:=hG;have h1:=hg.us;have h2:=hg.ok.us;have h3:=Yig v'.pt;have h4:=hg.ok.pt.n2;omega
 have HF:=hid hF;have HG:=hid hG;have HV:=hid hv;have HS:=hid hs;obtain⟨N,hN⟩:∃N,N=F.length:=⟨_,rfl⟩;rw[<-hN]at cs B D;have HN:=hid hN;clear hF hG hv hs hN;go_enter func162,ntmps162;go_wp2
 go_loopw [2] (λi wr=>∃k:Nat,k<=N/\Hid (XF4 S w wr)/\Hid (Y1U wr (plus S w) q v (F.take k))/\i=.int .i64 ((k:Int)-1)) (λi _=>(intOf i+1).toNat)
 case atStart=>exact⟨N,π _,⟨XF4.refl S w⟩,⟨by obtain⟨v',hg,ha⟩:=HG.o;exact⟨v',by rw[HN.o,ζT];exact hg,ha.mono (λk hk=>.inl hk)⟩⟩,by go_num⟩
 case round=>
  obtain⟨k,hk,HT,HK,rfl⟩:=hrel;by_cases Xc:k=0
  ·subst Xc;go_wp2
   go_end0
   exact⟨rfl,HT.o,HK.o⟩
  ·obtain⟨j,rfl⟩:∃j,k=j+1:=⟨k-1,by omega⟩;have J:j<F.length:=by have:=HN.o;omega
   obtain⟨g,c',e1,-,-,-,-⟩:=YTP HF.o Ω;simp only[Value.slice.injEq]at e1;obtain⟨rfl,-,rfl⟩:=e1;have Y:=(Vvr HF.o (g:=g) rfl).2;have ng:=HS.o g rfl;have kb:=ZBn HF.o (XS1 J);obtain⟨p,hp⟩:∃p,p=F[j]:=⟨_,rfl⟩;rw[<-hp]at kb;have HP:Hid (F.take (j+1)=F.take j++[p]):=⟨by rw[hp,List.take_add_one,δ J];rfl⟩
   have KS:Hid (∀W',Gr wr W'->W'.cell? ⟨bs,0,none⟩=some (.slice (some ⟨g,0,none⟩) N c)/\W'.cell? ⟨bm,0,none⟩=some (.pointer (some ⟨q,0,none⟩))/\W'.cell? ⟨g,j,none⟩=some (.int .i64 (p:Nat))):=
    ⟨λW' h=>⟨(h.cell (ω ls HT.o.size) 0).trans ((HT.o.cell ls ns 0).trans cs),(h.cell (ω lm HT.o.size) 0).trans ((HT.o.cell lm nm 0).trans cm),(h.cell (ω Y HT.o.size) j).trans ((HT.o.cell Y ng j).trans kb)⟩⟩
   have hjN:(j:Int)<(N:Int):=Ω
   clear J Y ng kb hp cs cm;go_upto_region 3 with(fail);obtain⟨Sx,X⟩:∃Sx:World->Prop,Sx=λW'=>Gr wr W':=⟨_,rfl⟩;have x1:∀p:ZJV Sx,p.w.cell? ⟨bs,0,none⟩=some (.slice (some ⟨g,0,none⟩) N c):=λp=>(KS.o _ (ZJV.get X p)).1;have x2:∀p:ZJV Sx,p.w.cell? ⟨bm,0,none⟩=some (.pointer (some ⟨q,0,none⟩)):=λp=>(KS.o _ (ZJV.get X p)).2.1;have x3:∀r:ZJV Sx,r.w.cell? ⟨g,j,none⟩=some (.int .i64 (p:Nat)):=λp=>(KS.o _ (ZJV.get X p)).2.2;have Z:Sx wr.drew:=by rw[X];exact(Gr.refl wr).drew
   have I:Inhabited (ZJV Sx):=⟨⟨_,Z⟩⟩;clear X;refine Vv2 Sx 5 [([0,1,2,3,4],5)] [] (by kernel_rfl) (by kernel_rfl) Z ?_;refine XGW ?_;simp only[XZy,ζ,ξ]
   repeat(go_big_quiet_step (fail))
   refine θ ?_;obtain⟨vk,U,V⟩:=HK.o;rw[HP.o]at U;have Xb:=hid (U.um HV.o);have Xd:=hid (V.gr (Gr.refl wr).drew);clear U V;go_wp2_with(go_at_call 127;refine(JYA Xd.o (p:Int)).mono ?_;rintro e w1 ⟨rfl,M,E⟩;have Xa:=hid M;have G:=hid E;clear M E);refine⟨.inl trivial,?_⟩;refine Z9U ?_;refine θ ?_;refine β ?_;clear x1 x2 x3 Z I;clear Sx;go_wp2;have Xe:=HT.o.size;have h1:XF4 (plus S w) wr w1:=((Gr.refl wr).drew.touch _).trans Xa.o;go_round
   case rel=>
    refine⟨j,by omega,⟨HT.o.trans' h1 (λi hi hp=>hp.resolve_right Ω)⟩,⟨_,Xb.o.2,G.o.mono (λk hk=>?_)⟩,by go_num⟩;rcases hk with h|h
    ·exact h
    ·exact .inr (ζb Xe h)
   case measure=>simp[intOf]
def Jfy(v:Vm)(p0 k:Nat):List Nat:=(List.range' p0 k).filter λp=>v.pt.getD p 0==0
theorem Q1f(v:Vm)(p0 k:Nat):Jfy v p0 (k+1)=if v.pt.getD (p0+k) 0=0 then Jfy v p0 k++[p0+k]else Jfy v p0 k:=by
 unfold Jfy;rw[List.range'_concat,List.filter_append];by_cases h:v.pt.getD (p0+k) 0=0
 ·rw[μ h,List.filter_cons_of_pos (by rw[ξy];exact ζZ.2 h),ξy];rfl
 ·rw[ϑ h,List.filter_cons_of_neg (by rw[ξy];simpa using h)];simp
theorem YYE{v:Vm}{p0 k p:Nat}:p∈Jfy v p0 k↔(p0<=p/\p<p0+k)/\v.pt.getD p 0=0:=by
 unfold Jfy;rw[ξ6,List.mem_range'_1];simp
theorem ZNP(v:Vm)(p0:Nat){k m:Nat}(h:k<=m):(Jfy v p0 k).length<=(Jfy v p0 m).length:=by
 induction m with
 | zero=>rw[ψE.1 h];exact π _
 | succ m ih=>
  rcases γ m k with h'|h'
  ·rw[show k=m+1 by omega];exact π _
  ·refine ζb (ih h') ?_;rw[Q1f]
   split
   ·simp
   ·exact π _
def XZs(v:Vm)(f t:Int):Nat:=((t-1)/v.pl.pg-f/v.pl.pg+1).toNat
def Jsl(v:Vm)(f t:Int):Int:=if f<0\/(v.n:Int)<t then 11 else if t<=f then 0 else if v.pl.used+(Jfy v (f/v.pl.pg).toNat (XZs v f t)).length<=v.pl.rm then 0 else 14
def J5L(v:Vm)(f t:Int):List Nat:=if Jsl v f t=0/\f<t then Jfy v (f/v.pl.pg).toNat (XZs v f t)else []
structure ZRG(w wr:World)(S S':Nat->Prop)(q:Nat)(v:Vm)(p0 k bs bm:Nat)(vF:Value):Prop where
 t:XF4 S w wr
 g:Y1U wr S' q v (Jfy v p0 k)
 own:wr.ownsRow 0 3 1 vF (Jfy v p0 k).length (VfO (Jfy v p0 k))
 rs:Rec wr bs 66 [vF]
 rm:Rec wr bm 87 [.pointer (some ⟨q,0,none⟩)]
 sub:∀k,S' k->plus S w k
 ns:¬S' bs
 nm:¬S' bm
 ng:∀g,vF.ownBlock=some g->¬S' g
 ls:w.heap.size<=bs
 lg:∀g,vF.ownBlock=some g->w.heap.size<=g
theorem ZRG.map{w wr w1:World}{S S':Nat->Prop}{q:Nat}{v:Vm}{p0 k bs bm:Nat}{vF:Value}(h:ZRG w wr S S' q v p0 k bs bm vF)(t:XF4 S' wr w1):
  XF4 S w w1/\w1.ownsRow 0 3 1 vF (Jfy v p0 k).length (VfO (Jfy v p0 k))/\Rec w1 bs 66 [vF]/\Rec w1 bm 87 [.pointer (some ⟨q,0,none⟩)] ∧
   (∀k,plus S' wr k->plus S w k)/\¬plus S' wr bs/\¬plus S' wr bm/\(∀g,vF.ownBlock=some g->¬plus S' wr g):=by
 have hz:=h.t.size;refine⟨h.t.trans' t (λi hi hs=>(h.sub i hs).resolve_right Ω),Zs2 h.own t h.ng,h.rs.touch t h.ns,h.rm.touch t h.nm,λk hk=>?_,λhk=>?_,λhk=>?_,λg hg hk=>?_⟩
 ·rcases hk with hk|hk
  ·exact h.sub k hk
  ·exact .inr Ω
 ·have:=h.rs.lt;exact hk.elim h.ns Ω
 ·have:=h.rm.lt;exact hk.elim h.nm Ω
 ·have:=(Vvr h.own hg).2;exact hk.elim (h.ng g hg) Ω
theorem VfQ(hV:QXZ w S q v)(f t:Nat)(ht:t<=v.n)(hft:f<t):Calls prog 122 #[.pointer (some ⟨q,0,none⟩),.int .i64 f,.int .i64 t] w λe w'=>e=.returned (.int .i64 (Jsl v f t))/\XF4 S w w'/\Y1U w' (plus S w) q v (J5L v f t):=by
 have HV:=hid hV;have hn:=hV.ok.n2;obtain⟨S1,S2,b1,b2,hr,hp,-⟩:=hV.row;have hql:=hr.lt;have c0:=hr.cc 0;have c2:=hr.cc 2;have Ya:=hV.ok.page;have HP:=hid hp;obtain⟨p0,Xb⟩:∃p0,p0=f/v.pl.pg:=⟨_,rfl⟩;obtain⟨p1,I⟩:∃p1,p1=(t-1)/v.pl.pg:=⟨_,rfl⟩;have h01:p0<=p1:=by rw[Xb,I];exact ζc Ω
 have h1l:p1<v.pt.length:=by rw[I];exact(hV.ok.split Ω).1
 have Y:(t:Int)-1=((t-1:Nat):Int):=Ω
 have Xk:Hid (XZs v f t=p1+1-p0/\((f:Int)/(v.pl.pg:Int)).toNat=p0):=⟨by
  unfold XZs;rw[Y,<-ζM,<-ζM,<-Xb,<-I]
  exact⟨by omega,τ _⟩⟩
 have HE:Hid (Jsl v f t=if v.pl.used+(Jfy v p0 (p1+1-p0)).length<=v.pl.rm then 0 else 14):=⟨by
  unfold Jsl
  rw[ϑ Ω,ϑ Ω,Xk.o.1,Xk.o.2]⟩
 have HF:Hid (J5L v f t=if v.pl.used+(Jfy v p0 (p1+1-p0)).length<=v.pl.rm then Jfy v p0 (p1+1-p0)else []):=⟨by
  unfold J5L;rw[HE.o,Xk.o.1,Xk.o.2]
  split
  ·rw[μ ⟨rfl,by omega⟩]
  ·rw[ϑ (λh=>absurd h.1 (by decide))]⟩
 obtain⟨B,hB⟩:∃B,B=v.pl.pg:=⟨_,rfl⟩;have HB:=hid hB;rw[<-hB]at Xb I Ya;have q1:((f:Int).tdiv (B:Int))=(p0:Int):=by rw[Xb];rfl
 have q2:((f:Int)/(B:Int))=(p0:Int):=by rw[Xb];rfl
 have q3:(((t:Int)-1).tdiv (B:Int))=(p1:Int):=by rw[Y,I];rfl
 have q4:(((t:Int)-1)/(B:Int))=(p1:Int):=by rw[Y,I];rfl
 have hBp:(B:Int)≠0:=Ω
 have d0:decide ((f:Int)<0)=false:=ψ Ω;have d1:decide ((v.n:Int)<(t:Int))=false:=ψ Ω;have d2:decide ((t:Int)<=(f:Int))=false:=ψ Ω;have hpt:=hV.ok.pt.n2;clear hV hr hp hB Xb I Y;go_enter func122,ntmps122
 go_wp2_with(first
  | (go_at_call 93;refine(Zuu (HV.o.gr ((Gr.refl w).alloc _))).mono ?_;rintro e w1 ⟨rfl,rfl⟩)
  | (go_at_call 163;refine(J7n (HP.o.gr (((Gr.refl w).alloc _).alloc _))).mono ?_;rintro e w1 ⟨rfl,rfl⟩;rw[<-HB.o]))
 obtain⟨bm,Xh⟩:∃bm,bm=w.heap.size:=⟨_,rfl⟩;rw[<-Xh]
 have Xz:=hid (show ZRG w ((w.alloc (Obj.cells #[.pointer (some ⟨q,0,none⟩)] 87)).alloc (Obj.cells #[.slice none 0 0] 66)) S (ZOk S w) q v p0 0 (bm+1) bm (.slice none 0 0)from
  ⟨((XF4.refl S w).alloc _).alloc _,⟨v,Ji4.refl HV.o.ok,HV.o.cut.gr (((Gr.refl w).alloc _).alloc _)⟩,Vm9 _ _ _ _,by
   have:=Rec.new (w.alloc (Obj.cells #[.pointer (some ⟨q,0,none⟩)] 87)) 66 [.slice none 0 0];rw[η,<-Xh]at this;exact this,by
   have:=Rec.gr (Rec.new w 87 [.pointer (some ⟨q,0,none⟩)]) ((Gr.refl _).alloc (Obj.cells #[.slice none 0 0] 66));rw[<-Xh]at this
   exact this,λk hk=>.inl hk.1,λh=>by have:=h.2;omega,λh=>by have:=h.2;omega,(λg h=>by cases h),by omega,(λg h=>by cases h)⟩)
 go_loopw [10] (λp wr=>∃(k:Nat) (S':Nat->Prop) (vF:Value),k<=p1+1-p0/\Hid (ZRG w wr S S' q v p0 k (bm+1) bm vF)/\p=.int .i64 ((p0+k:Nat):Int)) (λp _=>p1+1-(intOf p).toNat)
 case atStart=>exact⟨0,ZOk S w,.slice none 0 0,by omega,Xz,by go_num⟩
 case round=>
  obtain⟨k,S',vF,hk,HI,rfl⟩:=hrel;have Xy:=hid Xh;clear Xz c0 c2 Xh;obtain⟨r,hr⟩:∃r,r=p0+k:=⟨_,rfl⟩;rw[<-hr];by_cases Z:k=p1+1-p0
  ·have d3:decide (r<=p1)=false:=ψ Ω;have HR:=hid hr;have HL:=hid Z;clear hr Z;go_wp2;go_ret;obtain⟨v',hg,Xa⟩:=HI.o.g;have Yl:=hg.us;have Xl:=X9u hg.ok.pl;rw[hg.rm,Yl]at Xl;rw[HL.o]at hg Xl;refine⟨ZzN (by rw[HE.o,μ Xl]),HI.o.t,v',?_,Xa.mono HI.o.sub⟩;rw[HF.o,μ Xl];exact hg
  ·have d3:decide (r<=p1)=true:=κ Ω;obtain⟨v',hg,Xa⟩:=HI.o.g;obtain⟨A,c,rfl,Yj,Yo⟩:=ZfN HI.o.own;unfold maxLen at Yo;have hS:=Q1f v p0 k;rw[<-hr]at hS;have Xj:r<v.pt.length:=Ω
   have Xf:=hg.ma r Xj;have Xo:r∉Jfy v p0 k:=λh=>by have:=(YYE.1 h).1;omega
   have Xs:=hg.len HV.o.ok;have Xc:pgE v'.pt r=0:=by unfold pgE;rw[μ ⟨by omega,by omega⟩]
   have km:=HI.o.rm.cc 0;have hr2:r<=524288:=Ω
   have lbm:=HI.o.rm.lt;have lbs:=HI.o.rs.lt;have Xr:=hid Xa;have Xu:=hid hg;have HK:=hid hk;have HR:=hid hr;have Xp:=hid Z;by_cases h0:v.pt.getD r 0=0
   ·rw[μ h0]at hS;have M:v'.pt.getD r 0=0:=ξl.1 (λhn=>(Xf.1 hn).elim (λh=>h h0) Xo);by_cases J:v'.pl.used=v'.pl.rm
    ·have HM:Hid (v'.mpE r=14):=⟨by
      unfold Vm.mpE
      rw[ϑ (by rw[Xc];decide),τ,ϑ (by rw[M];decide),μ J]⟩
     have Xv:Hid (¬v.pl.used+(Jfy v p0 (p1+1-p0)).length<=v.pl.rm):=⟨by
      have h1:=ZNP v p0 (show k+1<=p1+1-p0 by omega);rw[hS,ζk,ζ5]at h1;have h2:=hg.us;have h3:=hg.rm
      omega⟩
     clear hS h0 M J Xf Xo Xs Xc hg Xa hk hr Z Xj
     go_wp2_with(first
      | (go_at_call 164;refine(YKH Xr.o r).mono ?_;rintro e w1 ⟨rfl,Y,X⟩;rw[HM.o];have U:=hid Y;have Xi:=hid X;clear Y X)
      | (go_at_call 162;have X:=Xi.o;rw[Qmw (by rw[HM.o];decide)]at X;obtain⟨-,i2,i3,i4,-,i6,i7,i8⟩:=HI.o.map U.o;refine(Y97 HV.o.ok ⟨_,Xu.o,X⟩ i2 i8 (i3.cc 0) (i4.cc 0) i3.lt i4.lt i6 i7).mono ?_;rintro e w2 ⟨rfl,Xx,Xm⟩;have G:=hid Xx;have Yd:=hid Xm;clear Xx Xm X i2 i3 i4 i6 i7 i8))
     go_ret;obtain⟨i1,i2,i3,i4,i5,i6,i7,i8⟩:=HI.o.map U.o;have hz:=HI.o.t.size;have Yh:=U.o.size;refine⟨ZzN (by rw[HE.o,ϑ Xv.o]),i1.trans' G.o (λi hi hs=>(i5 i hs).resolve_right Ω),?_⟩;rw[HF.o,ϑ Xv.o];obtain⟨v2,Xm,Ye⟩:=Yd.o;refine⟨v2,Xm,Ye.mono (λk hk=>?_)⟩;rcases hk with hk|hk
     ·exact i5 k hk
     ·exact .inr Ω
    ·have HM:Hid (v'.mpE r=0):=⟨by
      unfold Vm.mpE
      rw[ϑ (by rw[Xc];decide),τ,ϑ (by rw[M];decide),ϑ J]⟩
     have Yg:=hid (hg.mp HV.o.ok HM.o);have Xg:=hid hS
     have Yc:(Jfy v p0 k).length<=524288:=by
      have h1:=hg.us;have h2:=hg.ok.us;have h3:=Yig v'.pt;have h4:=hg.ok.pt.n2;omega
     obtain⟨N,hN⟩:∃N,N=(Jfy v p0 k).length:=⟨_,rfl⟩;have HN:=hid hN;rw[<-hN]at Yj Yc;clear hS h0 M J Xf Xo Xs Xc hg Xa hk hr Z Xj;rw[<-hN]at HI;clear hN;obtain⟨ii,Yi,Yb,Yf,Yn⟩:=info_parts YWy
     go_wp2_with(first
      | (go_at_call 164;refine(YKH Xr.o r).mono ?_;rintro e w1 ⟨rfl,Y,X⟩;rw[HM.o];have Xe:=hid (HI.o.rs.touch Y HI.o.ns);have ks:=Xe.o.cc 0;have U:=hid Y;have Xi:=hid X;have Xn:=hid (HI.o.map Y).2.1;rw[<-HN.o]at Xn;clear Y X)
      | (at_builtin;refine wpList_append_lies _ rfl _ _ 66 rfl 0 3 ii _ 1 8 underlying66 Yi Yb Yf Yn rfl (by decide) (.slice A N c) N (VfO (Jfy v p0 k)) rfl (Xn.o.alloc _) ⟨w1.heap.size,0,none⟩ 1 1 [.int .i64 (r:Nat)] rfl rfl (ξI (cs:=#[.int .i64 (r:Nat)]) (t:=3) (fr:=(0,0)) (heap_alloc_new w1 (.cells #[.int .i64 (r:Nat)] 3))) (by simp[Value.oneCell']) Ω (by unfold maxLen;omega) Ω (ζh _) (w1.heap.size+1) (by simp) ?_;intro g2 Ym w2 Xd D V Xq;have t2:XF4 (λk=>(Value.slice A N c).ownBlock=some k) w1 w2:=(((Gr.refl _).alloc _).touch _).trans (VxQ D _ (λk e _=>e));have E:=hid (Xe.o.touch t2 (λe=>YnK Xn.o Xe.o (by decide) e rfl rfl));have ks2:=E.o.cc 0;have kf2:=E.o.free 0;have G:=hid t2;have Xt:=hid Xd;have Yk:=hid (ν V Xq);clear Xd D V Xq t2))
     have hI:=HI.o;have hN:=HN.o;obtain⟨i1,i2,i3,i4,i5,i6,i7,i8⟩:=HI.o.map U.o;have hz:=HI.o.t.size;have Yh:=U.o.size;have hz2:=G.o.size;have V:=Yk.o;have Xw:XF4 S w w2:=i1.trans' G.o (λi hi hs=>by have:=HI.o.lg i hs;omega);go_round
     case rel=>
      refine⟨k+1,ZOk (plus S' wr) w1,.slice (some ⟨g2,0,none⟩) (N+1) Ym,by have:=HK.o;have:=Xp.o;omega,⟨?_⟩,by rw[HR.o];go_num⟩;refine⟨Xw.setCell (a:=⟨bm+1,0,none⟩) (λh=>by have:=Xy.o;have h:bm+1<w.heap.size:=h;omega) _,?_,?_,?_,?_,λi hi=>i5 i hi.1,λh=>i6 h.1,λh=>i7 h.1,λg hg=>?_,by have:=Xy.o;omega,λg hg=>?_⟩
      ·refine⟨_,by rw[Xg.o];exact Yg.o,((Xi.o.cut.touch G.o (λi hi _ e=>i8 i e hi.1)).touch ((XF4.refl (λi=>i=bm+1) w2).setCell (a:=⟨bm+1,0,none⟩) (λ_=>rfl) _) (λi hi _ e=>by subst e;exact i6 hi.1))⟩
      ·rw[Xg.o,ζk,ζ5,<-HN.o,show VfO (Jfy v p0 k++[r])=VfO (Jfy v p0 k)++[.int .i64 (r:Nat)]by unfold VfO;rw[ζO];rfl];exact VDR Xt.o _ (λg hg=>YnK Xt.o E.o (by decide) hg rfl)
      ·exact Rec.set E.o 0 _
      ·exact VDR (i4.touch G.o (λe=>YnK Xn.o i4 (by decide) e rfl rfl)) _ (λg hg=>by cases hg;show bm≠bm+1;omega)
      ·intro hc;cases hg;rcases V.1 with h|h
       ·exact i8 _ h hc.1
       ·have:g2<w1.heap.size:=hc.2;omega
      ·cases hg;rcases V.1 with h|h
       ·exact HI.o.lg _ h
       ·show w.heap.size<=g2
        omega
     case measure=>have:=HK.o;have:=Xp.o;have:=HR.o;simp[intOf];omega
   ·rw[ϑ h0]at hS;have M:v'.pt.getD r 0≠0:=Xf.2 (.inl h0)
    have HM:Hid (v'.mpE r=13):=⟨by
     unfold Vm.mpE
     rw[ϑ (by rw[Xc];decide),τ,μ M]⟩
    have Xg:=hid hS;clear hS h0 M Xf Xo Xs Xc hg Xa hk hr Z Xj;go_wp2_with(go_at_call 164;refine(YKH Xr.o r).mono ?_;rintro e w1 ⟨rfl,Y,X⟩;rw[HM.o];have U:=hid Y;have Xi:=hid X;clear Y X);obtain⟨i1,i2,i3,i4,i5,i6,i7,i8⟩:=HI.o.map U.o;have X:=Xi.o;rw[Qmw (by rw[HM.o];decide)]at X;go_round
    case rel=>
     refine⟨k+1,plus S' wr,_,by have:=HK.o;have:=Xp.o;omega,⟨i1,?_,?_,i3,i4,i5,i6,i7,i8,HI.o.ls,HI.o.lg⟩,by rw[HR.o];go_num⟩
     ·rw[Xg.o];exact⟨_,Xu.o,X⟩
     ·rw[Xg.o];exact i2
    case measure=>have:=HK.o;have:=Xp.o;have:=HR.o;simp[intOf];omega
end
end
section
open Go.RowKit Word
section
variable {w:World} {S:Nat->Prop} {q:Nat} {v:Vm}
theorem VR1{p:Pl}(hP:Z9Y w S q p):Calls prog 194 #[.pointer (some ⟨q,0,none⟩)] w λe w'=>e=.returned (.int .i64 p.used)/\w=w':=by
 obtain⟨vw,vt,vb,hi,ts,hr,-⟩:=hP.row;have c4:=hr.cc 5;clear hr hP;go_enter func194,ntmps194;go_wp2;go_ret;exact⟨rfl,rfl⟩
theorem VFh{p:Pl}(hP:Z9Y w S q p):Calls prog 193 #[.pointer (some ⟨q,0,none⟩)] w λe w'=>e=.returned (.int .i64 p.rm)/\w=w':=by
 obtain⟨vw,vt,vb,hi,ts,hr,-⟩:=hP.row;have c4:=hr.cc 3;clear hr hP;go_enter func193,ntmps193;go_wp2;go_ret;exact⟨rfl,rfl⟩
theorem VML(hV:QXZ w S q v):Calls prog 126 #[.pointer (some ⟨q,0,none⟩)] w λe w'=>e=.returned (.int .i64 v.pl.pg)/\w=w':=by
 have HV:=hid hV;obtain⟨S1,S2,b1,b2,hr,hp,-⟩:=hV.row;have c0:=hr.cc 0;have HP:=hid hp;clear hr hp hV;go_enter func126,ntmps126
 go_wp2_with(first
  | (go_at_call 93;refine(Zuu HV.o).mono ?_;rintro e w1 ⟨rfl,rfl⟩)
  | (go_at_call 163;refine(J7n HP.o).mono ?_;rintro e w1 ⟨rfl,rfl⟩))
 go_ret;exact⟨rfl,rfl⟩
theorem XOa(hV:QXZ w S q v):Calls prog 149 #[.pointer (some ⟨q,0,none⟩)] w λe w'=>e=.returned (.int .i64 v.pl.used)/\w=w':=by
 have HV:=hid hV;obtain⟨S1,S2,b1,b2,hr,hp,-⟩:=hV.row;have c0:=hr.cc 0;have HP:=hid hp;clear hr hp hV;go_enter func149,ntmps149
 go_wp2_with(first
  | (go_at_call 93;refine(Zuu HV.o).mono ?_;rintro e w1 ⟨rfl,rfl⟩)
  | (go_at_call 194;refine(VR1 HP.o).mono ?_;rintro e w1 ⟨rfl,rfl⟩))
 go_ret;exact⟨rfl,rfl⟩
theorem JXO(hV:QXZ w S q v):Calls prog 148 #[.pointer (some ⟨q,0,none⟩)] w λe w'=>e=.returned (.int .i64 v.pl.rm)/\w=w':=by
 have HV:=hid hV;obtain⟨S1,S2,b1,b2,hr,hp,-⟩:=hV.row;have c0:=hr.cc 0;have HP:=hid hp;clear hr hp hV;go_enter func148,ntmps148
 go_wp2_with(first
  | (go_at_call 93;refine(Zuu HV.o).mono ?_;rintro e w1 ⟨rfl,rfl⟩)
  | (go_at_call 193;refine(VFh HP.o).mono ?_;rintro e w1 ⟨rfl,rfl⟩))
 go_ret;exact⟨rfl,rfl⟩
theorem Xwn(hV:QXZ w S q v):Calls prog 52 #[.pointer (some ⟨q,0,none⟩)] w λe w'=>e=.returned (.int .i64 v.n)/\w=w':=by
 have HV:=hid hV;obtain⟨S1,S2,b1,b2,hr,hp,-⟩:=hV.row;have c0:=hr.cc 2;clear hr hp hV;go_enter func52,ntmps52;go_wp2_with(go_at_call 93;refine(Zuu HV.o).mono ?_;rintro e w1 ⟨rfl,rfl⟩);go_ret;exact⟨rfl,rfl⟩
theorem Q7x(hV:QXZ w S q v)(f t:Nat)(ht:t<=v.n)(hft:t<=f):Calls prog 122 #[.pointer (some ⟨q,0,none⟩),.int .i64 f,.int .i64 t] w λe w'=>e=.returned (.int .i64 0)/\Gr w w':=by
 have HV:=hid hV;obtain⟨S1,S2,b1,b2,hr,-⟩:=hV.row;have n2:=hV.ok.n2;have HR:=hid hr;have d0:decide ((f:Int)<0)=false:=ψ Ω;have d1:decide ((v.n:Int)<(t:Int))=false:=ψ Ω;have d2:decide ((t:Int)<=(f:Int))=true:=κ Ω;have c2:=(hr.gr ((Gr.refl w).alloc (.cells #[.pointer (some ⟨q,0,none⟩)] 87))).cell (j:=2) rfl;have X:=hid (hV.gr ((Gr.refl w).alloc (.cells #[.pointer (some ⟨q,0,none⟩)] 87)));clear hr hV;go_enter func122,ntmps122;go_wp2_with(go_at_call 93;refine(Zuu X.o).mono ?_;rintro e w1 ⟨rfl,rfl⟩);go_ret;exact⟨rfl,(Gr.refl w).alloc _⟩
end
end
section
open Go.RowKit Word
structure Hdr where
 p:Int
 f:Int
 k:Int
def X79(h:Hdr):Value:=.agg #[.int .i64 h.p,.int .i64 h.f,.int .i64 h.k]
def inS(x:Int):Bool:=decide (0<=x/\x<256)
def JQC(h:Hdr):Int:=if inS h.p&&inS h.f&&inS h.k&&decide (h.p+h.f+h.k<256)then 0 else 15
def Z3o(h:Hdr):Int:=if JQC h=0 then 1+h.p+h.f+h.k else 0
theorem VPd(x:Int):(decide (x<0)=true/\inS x=false)\/(decide (x<0)=false/\decide (256<=x)=true/\inS x=false)\/(decide (x<0)=false/\decide (256<=x)=false/\inS x=true):=by
 unfold inS;by_cases h0:x<0
 ·exact .inl ⟨κ h0,ψ Ω⟩
 ·by_cases h1:256<=x
  ·exact .inr (.inl ⟨ψ h0,κ h1,ψ Ω⟩)
  ·exact .inr (.inr ⟨ψ h0,ψ h1,κ Ω⟩)
theorem XZe{h:Hdr}(he:JQC h=0):∃a b c:Nat,h=⟨a,b,c⟩/\a+b+c<=255:=by
 unfold JQC inS at he
 split at he
 ·rename_i hh;simp only[ζd,ζe]at hh;obtain⟨p,f,k⟩:=h;simp only at hh;exact⟨p.toNat,f.toNat,k.toNat,by congr <;> omega,by omega⟩
 ·cases he
theorem JJj{a b c:Nat}(h:a+b+c<=255):JQC ⟨a,b,c⟩=0:=by
 unfold JQC inS;simp only[];rw[κ Ω,κ Ω,κ Ω,κ Ω];rfl
theorem Vhh(h:Hdr):JQC h=0\/JQC h=15:=by unfold JQC;split <;> simp
section
variable {w:World}
theorem Jld(h:Hdr)(w:World):Calls prog 56 #[X79 h] w λe w'=>e=.returned (.int .i64 (JQC h))/\Gr w w':=by
 obtain⟨p,f,k⟩:=h;unfold X79;simp only[];have HE:Hid (JQC ⟨p,f,k⟩=if inS p&&inS f&&inS k&&decide (p+f+k<256)then 0 else 15):=⟨rfl⟩
 have HN:∀x,x=p\/x=f\/x=k->Hid (inS x=false->JQC ⟨p,f,k⟩=15):=λx hx=>⟨λh0=>by
  rw[HE.o]
  rcases hx with rfl|rfl|rfl <;> rw[h0] <;> simp⟩
 have HY:Hid (inS p=true->inS f=true->inS k=true->JQC ⟨p,f,k⟩=if p+f+k<256 then 0 else 15):=⟨λa b c=>by
  rw[HE.o,a,b,c]
  by_cases h:p+f+k<256 <;> simp[h]⟩
 have H0:=HN p (.inl rfl);have H1:=HN f (.inr (.inl rfl));have H2:=HN k (.inr (.inr rfl));clear HN;obtain⟨E,hE⟩:∃E,E=JQC ⟨p,f,k⟩:=⟨_,rfl⟩;rw[<-hE]at H0 H1 H2 HY HE⊢;clear hE;have i0:∀W,(Instr.index 42 (.agg #[.int .i64 p,.int .i64 f,.int .i64 k]) (.int .i64 0)).run prog W=.ok (.int .i64 p) W:=λ_=>by kernel_rfl
 have i1:∀W,(Instr.index 42 (.agg #[.int .i64 p,.int .i64 f,.int .i64 k]) (.int .i64 1)).run prog W=.ok (.int .i64 f) W:=λ_=>by kernel_rfl
 have i2:∀W,(Instr.index 42 (.agg #[.int .i64 p,.int .i64 f,.int .i64 k]) (.int .i64 2)).run prog W=.ok (.int .i64 k) W:=λ_=>by kernel_rfl
 go_enter func56,ntmps56;go_wp2
 go_loop [12] (λi=>∃j:Nat,j<=3/\i=.int .i64 j/\Hid ((1<=j->inS p=true)/\(2<=j->inS f=true)/\(3<=j->inS k=true))) (λi=>3-(intOf i).toNat)
 case atStart=>exact⟨0,by omega,rfl,⟨λh=>by omega,λh=>by omega,λh=>by omega⟩⟩
 case round=>
  obtain⟨j,hj,rfl,HJ⟩:=hrel;rcases(by omega:j=0\/j=1\/j=2\/j=3)with rfl|rfl|rfl|rfl
  ·rcases VPd p with⟨p0,E1⟩|⟨p0,p1,E1⟩|⟨p0,p1,E1⟩
   ·have E1:=hid E1;go_wp2;go_ret;exact⟨ZzN (H0.o E1.o).symm,(Gr.refl w).alloc _⟩
   ·have E1:=hid E1;go_wp2;go_ret;exact⟨ZzN (H0.o E1.o).symm,(Gr.refl w).alloc _⟩
   ·have E1:=hid E1;go_wp2;go_round
    case rel=>exact⟨1,by omega,by go_num,⟨λ_=>E1.o,λh=>by omega,λh=>by omega⟩⟩
    case measure=>simp[intOf]
  ·rcases VPd f with⟨p0,E1⟩|⟨p0,p1,E1⟩|⟨p0,p1,E1⟩
   ·have E1:=hid E1;go_wp2;go_ret;exact⟨ZzN (H1.o E1.o).symm,(Gr.refl w).alloc _⟩
   ·have E1:=hid E1;go_wp2;go_ret;exact⟨ZzN (H1.o E1.o).symm,(Gr.refl w).alloc _⟩
   ·have E1:=hid E1;go_wp2;go_round
    case rel=>exact⟨2,by omega,by go_num,⟨λ_=>HJ.o.1 Ω,λ_=>E1.o,λh=>by omega⟩⟩
    case measure=>simp[intOf]
  ·rcases VPd k with⟨p0,E1⟩|⟨p0,p1,E1⟩|⟨p0,p1,E1⟩
   ·have E1:=hid E1;go_wp2;go_ret;exact⟨ZzN (H2.o E1.o).symm,(Gr.refl w).alloc _⟩
   ·have E1:=hid E1;go_wp2;go_ret;exact⟨ZzN (H2.o E1.o).symm,(Gr.refl w).alloc _⟩
   ·have E1:=hid E1;go_wp2;go_round
    case rel=>exact⟨3,by omega,by go_num,⟨λ_=>HJ.o.1 Ω,λ_=>HJ.o.2.1 Ω,λ_=>E1.o⟩⟩
    case measure=>simp[intOf]
  ·have j1:=HJ.o.1 Ω;have j2:=HJ.o.2.1 Ω;have j3:=HJ.o.2.2 Ω;have HZ:=hid (HY.o j1 j2 j3);unfold inS at j1 j2 j3;simp only[ζe]at j1 j2 j3;clear i0 i1 i2;by_cases hs:p+f+k<256
   ·have d0:decide (256<=p+f+k)=false:=ψ Ω;have HS:=hid hs;clear hs;go_wp2;go_ret;exact⟨ZzN (by rw[HZ.o,μ HS.o]),(Gr.refl w).alloc _⟩
   ·have d0:decide (256<=p+f+k)=true:=κ Ω;have HS:=hid hs;clear hs;go_wp2;go_ret;exact⟨ZzN (by rw[HZ.o,ϑ (by have:=HS.o;omega)]),(Gr.refl w).alloc _⟩
theorem ZUg(h:Hdr)(w:World):Calls prog 58 #[X79 h] w λe w'=>e=.returned (.int .i64 (Z3o h))/\Gr w w':=by
 have HC:=hid (λW=>Jld h W);rcases Vhh h with he|he
 ·obtain⟨a,b,c,rfl,hs⟩:=XZe he;have HE:=hid he;have HN:Hid (Z3o ⟨a,b,c⟩=1+(a:Int)+b+c):=⟨μ he⟩;unfold X79 at HC⊢;clear he;go_enter func58,ntmps58;go_wp2_with(go_at_call 56;refine(HC.o _).mono ?_;rintro e w1 ⟨rfl,X⟩;rw[HE.o];have hl:=(Gr.refl w).alloc (.cells #[.int .i64 a,.int .i64 b,.int .i64 c] 63);have k0:=(X.cell (b:=w.heap.size) (by simp) 0).trans (ζG _ _ _ 0 rfl);have k1:=(X.cell (b:=w.heap.size) (by simp) 1).trans (ζG _ _ _ 1 rfl);have k2:=(X.cell (b:=w.heap.size) (by simp) 2).trans (ζG _ _ _ 2 rfl);have Y:=hid (hl.trans X);clear X hl);go_ret;exact⟨ZzN (by rw[HN.o]),Y.o⟩
 ·have HE:=hid he;have HN:Hid (Z3o h=0):=⟨ϑ (by rw[he];decide)⟩;unfold X79 at HC⊢;clear he;go_enter func58,ntmps58;go_wp2_with(go_at_call 56;refine(HC.o _).mono ?_;rintro e w1 ⟨rfl,X⟩;rw[HE.o];have Y:=hid (((Gr.refl w).alloc _).trans X);clear X);go_ret;exact⟨ZzN (by rw[HN.o]),Y.o⟩
end
end
section
open Go.RowKit Word
def QQf(a b c:Nat):Nat:=a+256*b+65536*c+2768240640
def YsO(a b c:Nat):Nat:=(4294967295-QQf a b c)*4294967296+QQf a b c
def Yoq(h:Hdr)(i:Int):Int:=if 0<=i/\i<Z3o h-1 then (if i<h.p then 1 else if i<h.p+h.f then 2 else 3)else 0
theorem XEA(a b i m:Nat)(hm:m=2 ^ i)(h:a<m):a ||| (b*m)=b*m+a:=by
 subst hm;rw[Nat.or_comm,<-Nat.shiftLeft_eq,Nat.shiftLeft_add_eq_or_of_lt h]
theorem Z2Y(n:Nat)(hn:n<4294967296):bits .xor .u32 IntKind.u32.max (n:Int)=((4294967295-n:Nat):Int):=by
 have h1:(BitVec.ofInt 32 (n:Int)).toNat=n:=by
  rw[BitVec.ofInt_natCast,BitVec.toNat_ofNat];exact ξD Ω
 have h2:BitVec.ofInt 32 IntKind.u32.max=BitVec.allOnes 32:=by decide
 show IntKind.u32.wrap ((BitVec.ofInt 32 IntKind.u32.max ^^^ BitVec.ofInt 32 (n:Int)).toNat:Int)=_
 rw[h2,BitVec.allOnes_xor,BitVec.toNat_not,h1,IntKind.wrap_u32];omega
theorem XiL{a b c:Nat}(hs:a+b+c<=255):bits .or .u32 (bits .or .u32 (bits .or .u32 (a:Int) ((b:Int)*256)) ((c:Int)*65536)) 2768240640=((QQf a b c:Nat):Int):=by
 have e1:((b:Int)*256)=((b*256:Nat):Int):=Ω
 have e2:((c:Int)*65536)=((c*65536:Nat):Int):=Ω
 have e3:(2768240640:Int)=((165*16777216:Nat):Int):=Ω
 rw[e1,e2,e3,u32_or_nat a (b*256) Ω Ω,XEA a b 8 256 (by decide) Ω,u32_or_nat _ (c*65536) Ω Ω,XEA _ c 16 65536 (by decide) Ω,u32_or_nat _ (165*16777216) Ω Ω,XEA _ 165 24 16777216 (by decide) Ω];unfold QQf;omega
theorem Vts{a b c:Nat}(hs:a+b+c<=255):QQf a b c<4294967296:=by unfold QQf;omega
theorem J0L{n:Nat}(hn:n<4294967296):bits .or .u64 (((4294967295-n:Nat):Int)*4294967296) (n:Int)=(((4294967295-n)*4294967296+n:Nat):Int):=by
 have e1:(((4294967295-n:Nat):Int)*4294967296)=(((4294967295-n)*4294967296:Nat):Int):=Ω
 rw[e1,bits_or_u64_nat _ _ Ω Ω,Nat.or_comm,XEA _ _ 32 4294967296 (by decide) hn]
theorem Jii{a b c:Nat}(hs:a+b+c<=255)(w:World):Calls prog 104 #[X79 ⟨a,b,c⟩] w λe w'=>e=.returned (.tuple #[.int .u64 (YsO a b c:Nat),.int .i64 0])/\Gr w w':=by
 have HC:=hid (λW=>Jld ⟨a,b,c⟩ W);have HE:=hid (JJj hs);have f1:=XiL hs;have hn:=Vts hs;have HW:Hid (YsO a b c=(4294967295-QQf a b c)*4294967296+QQf a b c):=⟨rfl⟩;obtain⟨n,Y⟩:∃n,n=QQf a b c:=⟨_,rfl⟩;rw[<-Y]at f1 hn HW;have f2:=Z2Y n hn;have f3:=J0L hn;have f4:IntKind.u64.wrap (((4294967295-n:Nat):Int))=((4294967295-n:Nat):Int):=by rw[ξF];omega
 have f5:IntKind.u64.wrap (((4294967295-n:Nat):Int)*4294967296)=((4294967295-n:Nat):Int)*4294967296:=by rw[ξF];omega
 have f6:IntKind.u64.wrap (n:Int)=(n:Int):=by rw[ξF];omega
 generalize 4294967295-n=m at f2 f3 f4 f5 HW;clear Y hn;unfold X79 at HC⊢;go_enter func104,ntmps104;go_wp2_with(go_at_call 56;refine(HC.o _).mono ?_;rintro e w1 ⟨rfl,X⟩;rw[HE.o];have hl:=(Gr.refl w).alloc (.cells #[.int .i64 a,.int .i64 b,.int .i64 c] 63);have k0:=(X.cell (b:=w.heap.size) (by simp) 0).trans (ζG _ _ _ 0 rfl);have k1:=(X.cell (b:=w.heap.size) (by simp) 1).trans (ζG _ _ _ 1 rfl);have k2:=(X.cell (b:=w.heap.size) (by simp) 2).trans (ζG _ _ _ 2 rfl);have Z:=hid (hl.trans X);clear X hl);go_ret2;exact⟨Qh8 (by rw[HW.o];rfl) rfl,Z.o⟩
def Q3b(x:Nat):Bool:=decide (x%4294967296/16777216=165)&&decide (x/4294967296=4294967295-x%4294967296)&&decide (x%256+x/256%256+x/65536%256<=255)
def tkH(x:Nat):Hdr:=if Q3b x then ⟨(x%256:Nat),(x/256%256:Nat),(x/65536%256:Nat)⟩else ⟨0,0,0⟩
def tkE(x:Nat):Int:=if Q3b x then 0 else 16
theorem Jxe(n:Nat)(hn:n<4294967296):bits .and .u32 (n:Int) 255=((n%256:Nat):Int):=by
 rw[show (255:Int)=((255:Nat):Int)from rfl,u32_and_nat n 255 hn Ω];have:n &&& 255=n%256:=Nat.and_two_pow_sub_one_eq_mod n 8;skip;rw[this]
theorem JIC(W:World)(blk:Nat)(p q r:Value)(h0:W.cell? ⟨blk,0,none⟩=some p)(h1:W.cell? ⟨blk,1,none⟩=some q)(h2:W.cell? ⟨blk,2,none⟩=some r):(loadVar 63 ⟨blk,0,none⟩).run prog W=.ok (.agg #[p,q,r]) W:=by
 have a1:(isAgg 63).run prog W=.ok true W:=by kernel_rfl
 have a2:(sizeOf 63).run prog W=.ok 3 W:=by kernel_rfl
 simp[loadVar,Sem.run_bind,a1,a2,Result.andThen,loadCells,go_sem,h0,h1,h2]
theorem ZBB{w w1:World}{xs ys:List Value}(hg:Gr ((w.alloc (.cells xs.toArray 63)).alloc (.cells ys.toArray 63)) w1):Rec w1 w.heap.size 63 xs/\Rec w1 (w.heap.size+1) 63 ys:=by
 refine⟨((Rec.new w _ xs).gr ((Gr.refl _).alloc _)).gr hg,?_⟩;have:=(Rec.new (w.alloc (.cells xs.toArray 63)) 63 ys).gr hg;rw[η]at this;exact this
theorem Q9L{w w1:World}{o o2:Obj}(hg:Gr ((w.alloc o).alloc o2) w1){x y z:Value}:Gr w (((w1.setCell ⟨w.heap.size,0,none⟩ x).setCell ⟨w.heap.size,1,none⟩ y).setCell ⟨w.heap.size,2,none⟩ z):=by
 have h1:XF4 (λk=>w.heap.size<=k) w w1:=((((Gr.refl w).alloc o).alloc o2).trans hg).touch _;have h2:=((h1.setCell (a:=⟨w.heap.size,0,none⟩) (λ_=>π _) x).setCell (a:=⟨w.heap.size,1,none⟩) (λ_=>π _) y).setCell (a:=⟨w.heap.size,2,none⟩) (λ_=>π _) z;exact(h2.mono (λk hk h=>by omega)).gr
theorem XFZ{x:Nat}(hx:x<18446744073709551616)(w:World):Calls prog 110 #[.int .u64 x] w λe w'=>e=.returned (.tuple #[X79 (tkH x),.int .i64 (tkE x)])/\Gr w w':=by
 obtain⟨n,hn⟩:∃n,n=x%4294967296:=⟨_,rfl⟩;obtain⟨h,hh⟩:∃h,h=x/4294967296:=⟨_,rfl⟩;obtain⟨a,ha⟩:∃a,a=n%256:=⟨_,rfl⟩;obtain⟨b,hb⟩:∃b,b=n/256%256:=⟨_,rfl⟩;obtain⟨c,hc⟩:∃c,c=n/65536%256:=⟨_,rfl⟩;obtain⟨d,hd⟩:∃d,d=n/16777216:=⟨_,rfl⟩;obtain⟨m,hm⟩:∃m,m=4294967295-n:=⟨_,rfl⟩;have U:n<4294967296:=Ω
 have HT:Hid (Q3b x=(decide (d=165)&&decide (h=m)&&decide (a+b+c<=255))/\tkH x=if Q3b x then ⟨(a:Nat),(b:Nat),(c:Nat)⟩else ⟨0,0,0⟩):=⟨by
  have e1:x%256=a:=Ω
  have e2:x/256%256=b:=Ω
  have e3:x/65536%256=c:=Ω
  unfold tkH Q3b;rw[e1,e2,e3,<-hn,<-hd,<-hh,<-hm]
  exact⟨rfl,rfl⟩⟩
 have g0:(x:Int)%4294967296=(n:Int):=Ω
 have g5:(x:Int)/4294967296=(h:Int):=Ω
 have g1:bits .and .u32 (n:Int) 255=(a:Int):=by rw[Jxe n U,ha]
 have g2:bits .and .u32 ((n:Int)/256) 255=(b:Int):=by
  rw[show (n:Int)/256=((n/256:Nat):Int)by omega,Jxe _ Ω,hb]
 have g3:bits .and .u32 ((n:Int)/65536) 255=(c:Int):=by
  rw[show (n:Int)/65536=((n/65536:Nat):Int)by omega,Jxe _ Ω,hc]
 have g4:(n:Int)/16777216=(d:Int):=Ω
 have g6:bits .xor .u32 IntKind.u32.max (n:Int)=(m:Int):=by rw[Z2Y n U,hm]
 have ba:a<=255:=Ω
 have bb:b<=255:=Ω
 have bc:c<=255:=Ω
 have HC:=hid (λW=>Jld ⟨a,b,c⟩ W)
 have M:JQC ⟨a,b,c⟩=if a+b+c<=255 then 0 else 15:=by
  unfold JQC inS;simp only[];rw[κ Ω,κ Ω,κ Ω];by_cases h:a+b+c<=255
  ·rw[μ h,κ Ω];rfl
  ·rw[ϑ h,ψ Ω];rfl
 have V:=hid M;clear M;unfold X79 at HC
 have KL:=hid (show ∀(W:World) (Y:Nat) (p q r:Value),W.cell? ⟨Y,0,none⟩=some p->W.cell? ⟨Y,1,none⟩=some q->W.cell? ⟨Y,2,none⟩=some r->(loadVar 63 ⟨Y,0,none⟩).run prog W=.ok (.agg #[p,q,r]) W by
  intro W Y p q r h0 h1 h2
  exact JIC W Y p q r h0 h1 h2)
 clear hn hh ha hb hc hd hm U;by_cases t1:d=165
 ·have HT1:=hid t1;have d1:((d:Int) !=165)=false:=by rw[t1];rfl
  by_cases t2:h=m
  ·have HT2:=hid t2;have d2:((h:Int) !=(m:Int))=false:=by rw[t2];simp
   have d3:¬ ¬((h:Int)=bits .xor .u32 IntKind.u32.max (n:Int)):=by rw[g6,t2];simp
   by_cases t3:a+b+c<=255
   ·have HK:Hid (JQC ⟨a,b,c⟩=0):=⟨by rw[V.o,μ t3]⟩
    have HE:Hid (tkH x=⟨(a:Nat),(b:Nat),(c:Nat)⟩/\tkE x=0):=⟨by
     have:Q3b x=true:=by rw[HT.o.1,κ t1,κ t2,κ t3];rfl
     unfold tkE;rw[HT.o.2,this];exact⟨rfl,rfl⟩⟩
    clear t1 t2 t3 HT;go_enter func110,ntmps110;go_wp2_with(go_at_call 56;refine(HC.o _).mono ?_;rintro e w1 ⟨rfl,X⟩;rw[HK.o];obtain⟨r1,r2⟩:=ZBB (xs:=[.int .i64 0,.int .i64 0,.int .i64 0]) (ys:=[.int .i64 a,.int .i64 b,.int .i64 c]) X;have k0:=r1.cc 0;have k1:=r1.cc 1;have k2:=r1.cc 2;have kf:=r1.free;have k3:=r2.cc 0;have k4:=r2.cc 1;have k5:=r2.cc 2;have Z:=hid r1;have J:=hid X;clear X r1 r2);have R3:=Rec.set (Rec.set (Rec.set Z.o 0 (.int .i64 a)) 1 (.int .i64 b)) 2 (.int .i64 c);refine ζR (v:=.tuple #[X79 ⟨a,b,c⟩,.int .i64 0]) ?_ rfl ?_
    ·rw[results_cell_tmp rfl];have hl:=KL.o _ w.heap.size _ _ _ (R3.cc 0) (R3.cc 1) (R3.cc 2);simp[asAddr,Result.andThen,hl,X79]
    ·exact⟨by rw[HE.o.1,HE.o.2],Q9L J.o⟩
   ·have HK:Hid (JQC ⟨a,b,c⟩=15):=⟨by rw[V.o,ϑ t3]⟩
    have HE:Hid (tkH x=⟨0,0,0⟩/\tkE x=16):=⟨by
     have:Q3b x=false:=by rw[HT.o.1,ψ t3];simp
     unfold tkE;rw[HT.o.2,this];exact⟨rfl,rfl⟩⟩
    clear t1 t2 t3 HT;go_enter func110,ntmps110;go_wp2_with(go_at_call 56;refine(HC.o _).mono ?_;rintro e w1 ⟨rfl,X⟩;rw[HK.o];obtain⟨r1,r2⟩:=ZBB (xs:=[.int .i64 0,.int .i64 0,.int .i64 0]) (ys:=[.int .i64 a,.int .i64 b,.int .i64 c]) X;have k0:=r1.cc 0;have k1:=r1.cc 1;have k2:=r1.cc 2;have kf:=r1.free;have k3:=r2.cc 0;have k4:=r2.cc 1;have k5:=r2.cc 2;have Z:=hid r1;have J:=hid X;clear X r1 r2);have R3:=Rec.set (Rec.set (Rec.set Z.o 0 (.int .i64 0)) 1 (.int .i64 0)) 2 (.int .i64 0);refine ζR (v:=.tuple #[X79 ⟨0,0,0⟩,.int .i64 16]) ?_ rfl ?_
    ·rw[results_cell_tmp rfl];have hl:=KL.o _ w.heap.size _ _ _ (R3.cc 0) (R3.cc 1) (R3.cc 2);simp[asAddr,Result.andThen,hl,X79]
    ·exact⟨by rw[HE.o.1,HE.o.2],Q9L J.o⟩
  ·have d2:((h:Int) !=(m:Int))=true:=by simp;omega
   have d3:¬((h:Int)=bits .xor .u32 IntKind.u32.max (n:Int)):=by rw[g6];omega
   have HE:Hid (tkH x=⟨0,0,0⟩/\tkE x=16):=⟨by
    have:Q3b x=false:=by rw[HT.o.1,ψ t2];simp
    unfold tkE;rw[HT.o.2,this];exact⟨rfl,rfl⟩⟩
   clear t1 t2 HT;go_enter func110,ntmps110;go_wp2;refine ζR (v:=.tuple #[X79 ⟨0,0,0⟩,.int .i64 16]) ?_ rfl ?_
   ·rw[results_cell_tmp rfl];simp[asAddr,Result.andThen,go_sem];rfl
   ·exact⟨by rw[HE.o.1,HE.o.2],((Gr.refl w).alloc _).alloc _⟩
 ·have d1:((d:Int) !=165)=true:=by simp;omega
  have d3:¬((d:Int)=165):=Ω
  have d4:¬((n:Int)/16777216=165):=Ω
  have HE:Hid (tkH x=⟨0,0,0⟩/\tkE x=16):=⟨by
   have:Q3b x=false:=by rw[HT.o.1,ψ t1];simp
   unfold tkE;rw[HT.o.2,this];exact⟨rfl,rfl⟩⟩
  clear t1 HT;go_enter func110,ntmps110;go_wp2;refine ζR (v:=.tuple #[X79 ⟨0,0,0⟩,.int .i64 16]) ?_ rfl ?_
  ·rw[results_cell_tmp rfl];simp[asAddr,Result.andThen,go_sem];rfl
  ·exact⟨by rw[HE.o.1,HE.o.2],((Gr.refl w).alloc _).alloc _⟩
theorem VNI{a b c:Nat}(hs:a+b+c<=255)(i:Int)(w:World):Calls prog 109 #[X79 ⟨a,b,c⟩,.int .i64 i] w λe w'=>e=.returned (.int .i64 (Yoq ⟨a,b,c⟩ i))/\Gr w w':=by
 have hN:Z3o ⟨a,b,c⟩=1+(a:Int)+b+c:=μ (JJj hs);have HZ:=hid (λW=>ZUg ⟨a,b,c⟩ W)
 have HK:Hid (Yoq ⟨a,b,c⟩ i=if 0<=i/\i<(a:Int)+b+c then (if i<a then 1 else if i<(a:Int)+b then 2 else 3)else 0):=⟨by
  unfold Yoq;rw[hN];simp only[];by_cases h:0<=i/\i<(a:Int)+b+c
  ·rw[μ h,μ Ω]
  ·rw[ϑ h,ϑ Ω]⟩
 rw[hN]at HZ;unfold X79 at HZ⊢;clear hN;by_cases h0:i<0
 ·have d0:decide (i<0)=true:=κ h0;have HE:Hid (Yoq ⟨a,b,c⟩ i=0):=⟨by rw[HK.o,ϑ Ω]⟩;clear HK;go_enter func109,ntmps109;go_wp2;go_ret;exact⟨ZzN (by rw[HE.o]),(Gr.refl w).alloc _⟩
 ·have d0:decide (i<0)=false:=ψ h0;by_cases h1:(a:Int)+b+c<=i
  ·have HE:Hid (Yoq ⟨a,b,c⟩ i=0):=⟨by rw[HK.o,ϑ Ω]⟩;have d1:decide (1+(a:Int)+b+c-1<=i)=true:=κ Ω;clear HK;go_enter func109,ntmps109;go_wp2_with(go_at_call 58;refine(HZ.o _).mono ?_;rintro e w1 ⟨rfl,X⟩;have Y:=hid (((Gr.refl w).alloc _).trans X);clear X);go_ret;exact⟨ZzN (by rw[HE.o]),Y.o⟩
  ·have d1:decide (1+(a:Int)+b+c-1<=i)=false:=ψ Ω;have HE:Hid (Yoq ⟨a,b,c⟩ i=if i<a then 1 else if i<(a:Int)+b then 2 else 3):=⟨by rw[HK.o,μ Ω]⟩;clear HK;by_cases h2:i<a
   ·have d2:decide (i<(a:Int))=true:=κ h2;go_enter func109,ntmps109;go_wp2_with(go_at_call 58;refine(HZ.o _).mono ?_;rintro e w1 ⟨rfl,X⟩;have k0:=(X.cell (b:=w.heap.size) (by simp) 0).trans (ζG _ _ _ 0 rfl);have k1:=(X.cell (b:=w.heap.size) (by simp) 1).trans (ζG _ _ _ 1 rfl);have Y:=hid (((Gr.refl w).alloc _).trans X);clear X);go_ret;exact⟨ZzN (by rw[HE.o,μ h2]),Y.o⟩
   ·have d2:decide (i<(a:Int))=false:=ψ h2;by_cases h3:i<(a:Int)+b
    ·have d3:decide (i<(a:Int)+(b:Int))=true:=κ h3;go_enter func109,ntmps109;go_wp2_with(go_at_call 58;refine(HZ.o _).mono ?_;rintro e w1 ⟨rfl,X⟩;have k0:=(X.cell (b:=w.heap.size) (by simp) 0).trans (ζG _ _ _ 0 rfl);have k1:=(X.cell (b:=w.heap.size) (by simp) 1).trans (ζG _ _ _ 1 rfl);have Y:=hid (((Gr.refl w).alloc _).trans X);clear X);go_ret;exact⟨ZzN (by rw[HE.o,ϑ Ω,μ h3]),Y.o⟩
    ·have d3:decide (i<(a:Int)+(b:Int))=false:=ψ h3;go_enter func109,ntmps109;go_wp2_with(go_at_call 58;refine(HZ.o _).mono ?_;rintro e w1 ⟨rfl,X⟩;have k0:=(X.cell (b:=w.heap.size) (by simp) 0).trans (ζG _ _ _ 0 rfl);have k1:=(X.cell (b:=w.heap.size) (by simp) 1).trans (ζG _ _ _ 1 rfl);have Y:=hid (((Gr.refl w).alloc _).trans X);clear X);go_ret;exact⟨ZzN (by rw[HE.o,ϑ Ω,ϑ Ω]),Y.o⟩
end
section
open Go.RowKit Word
def spV(q:Nat):Value:=.iface 87 (.pointer (some ⟨q,0,none⟩))
theorem Ye4(n:Nat)(a:Addr)(w:World):(nilAhead (n+1) 87 (.pointer (some a)) "Load").run prog w=.ok (some false) w:=by kernel_rfl
theorem V01(n:Nat)(a:Addr)(w:World):(method (n+1) 87 (.pointer (some a)) "Load").run prog w=.ok (176,.pointer (some a)) w:=by kernel_rfl
def Vm.rdH(v:Vm)(a:Int):Hdr:=if 0<a/\v.ldE a=0 then tkH (v.ldV a)else ⟨0,0,0⟩
def Vm.rdE(v:Vm)(a:Int):Int:=if a=0 then 18 else if a<0 then 5 else if v.ldE a=0 then tkE (v.ldV a)else v.ldE a
theorem ZAR.ldV_lt{v:Vm}(h:ZAR v)(a:Int):v.ldV a<18446744073709551616:=by
 unfold Vm.ldV
 split
 ·rw[φ];rcases γ (v.at a) v.pl.wd.length with hl|hl
  ·rw[δ hl];exact h.pl.w64 _ (χ hl)
  ·rw[ζf hl];decide
 ·decide
structure Sp where
 T:TypeId
 rv:Value
 FL:FuncId
 P:Int->Prop
 M:Prop
 D:Nat->Prop
 I:Vm->(Nat->Prop)->World->Prop
def Sp.v(z:Sp):Value:=.iface z.T z.rv
structure Sp.Ok(z:Sp):Prop where
 nl:∀n w,(nilAhead (n+1) z.T z.rv "Load").run prog w=.ok (some false) w
 ml:∀n w,(method (n+1) z.T z.rv "Load").run prog w=.ok (z.FL,z.rv) w
 cl:∀args w,(callFunc z.FL args).run prog w=.ok (.enter z.FL args) w
 nn:∀w,(binOp BinOp.eql 132 (.iface z.T z.rv) .nilIface).run prog w=.ok (.bool false) w
 ok:∀{u S w},z.I u S w->ZAR u
 fr:∀{u S S' T' w w'},z.I u S w->XF4 T' w w'->(∀k,k<w.heap.size->T' k->¬S k/\¬z.D k)->(∀k,S k->S' k)->z.I u S' w'
 nw:∀{u S w},z.I u S w->∀k,z.D k->k<w.heap.size
 ct:∀{u S w},z.I u S w->z.I u (ZOk S w) w
 ld:∀{u S w},z.I u S w->∀a,z.P a->Calls prog z.FL #[z.rv,.int .i64 a] w (λe w'=>e=.returned (.tuple #[.int .u64 (u.ldV a:Nat),.int .i64 (u.ldE a)])/\XF4 (λk=>z.M/\S k) w w'/\z.I u (plus S w) w')
def Sp.E(z:Sp)(u:Vm)(S:Nat->Prop)(w w':World):Prop:=XF4 (λk=>z.M/\S k) w w'/\z.I u (plus S w) w'
section
variable {z:Sp} {u:Vm} {S:Nat->Prop} {w w1 w':World}
theorem Sp.Ok.gr(h:Sp.Ok z)(hI:z.I u S w)(g:Gr w w'):z.I u S w':=h.fr hI (g.touch (λ_=>False)) (λ_ _ h=>h.elim) (λ_ h=>h)
theorem Sp.Ok.mono{S':Nat->Prop}(h:Sp.Ok z)(hI:z.I u S w)(hs:∀k,S k->S' k):z.I u S' w:=h.fr hI (XF4.refl (λ_=>False) w) (λ_ _ h=>h.elim) hs
theorem Sp.Ok.get(h:Sp.Ok z)(hI:z.I u S w)(g:Gr w w'):z.E u S w w':=⟨g.touch _,h.mono (h.gr hI g) (λ_ h=>.inl h)⟩
theorem Sp.E.ro(h:z.E u S w w')(hM:¬z.M):Gr w w':=(h.1.mono (λ_ _ hk=>hM hk.1)).gr
theorem Sp.E.trans(h:z.E u S w w1)(k:z.E u (plus S w) w1 w')(hS:Sp.Ok z):z.E u S w w':=by
 have hz:=h.1.size;refine⟨h.1.trans' k.1 (λ_ hi hh=>⟨hh.1,hh.2.elim id (λh=>by omega)⟩),hS.mono k.2 (λi hi=>?_)⟩;rcases hi with h1|h1
 ·exact h1
 ·exact .inr Ω
theorem Sp.E.gr(h:z.E u S w w1)(g:Gr w1 w')(hS:Sp.Ok z):z.E u S w w':=⟨h.1.trans (g.touch _),hS.gr h.2 g⟩
theorem Sp.E.rec{b t:Nat}{xs:List Value}(h:z.E u (ZOk S w) w1 w')(hr:Rec w1 b t xs)(hb:w.heap.size<=b):Rec w' b t xs:=hr.touch h.1 (λhh=>by have:=hh.2.2;omega)
theorem Sp.E.cells(h:z.E u (ZOk S w) w1 w')(hS:Sp.Ok z)(hI:z.I u S w)(g:Gr w w1){b:Nat}(hb:w.heap.size<=b)(hb1:b<w1.heap.size){w2:World}(t:XF4 (λk=>k=b) w' w2):z.E u S w w2:=by
 refine⟨(((g.touch (λk=>z.M/\S k)).trans' h.1 (λ_ _ hh=>⟨hh.1,hh.2.1⟩))).trans' t (λi hi hh=>by omega),hS.fr h.2 t (λi _ hh=>?_) (λi hi=>?_)⟩
 ·subst hh;refine⟨λhp=>?_,λhd=>?_⟩
  ·rcases hp with hp|hp
   ·have:=hp.2;omega
   ·omega
  ·have:=hS.nw hI _ hd;omega
 ·rcases hi with h1|h1
  ·exact .inl h1.1
  ·exact .inr (ζb g.size h1)
theorem ZGx(W:World)(b:Nat)(x y z:Value):XF4 (λk=>k=b) W (((W.setCell ⟨b,0,none⟩ x).setCell ⟨b,1,none⟩ y).setCell ⟨b,2,none⟩ z):=
 (((XF4.refl (λk=>k=b) W).setCell (a:=⟨b,0,none⟩) (λ_=>rfl) x).setCell (a:=⟨b,1,none⟩) (λ_=>rfl) y).setCell (a:=⟨b,2,none⟩) (λ_=>rfl) z
theorem JYm(hS:Sp.Ok z)(hI:z.I u S w)(a:Int)(hP:0<a->z.P a):Calls prog 69 #[z.v,.int .i64 a] w λe w'=>e=.returned (.tuple #[X79 (u.rdH a),.int .i64 (u.rdE a)])/\z.E u S w w':=by
 have HS:=hid hS;have HI:=hid hI;have J:=hS.ok hI;have hx:=J.ldV_lt a;have n1:=hS.nl;have n2:=hS.ml;have n3:=hS.cl;unfold Sp.v;have KL:=hid (λ(W:World) (blk:Nat) (p q r:Value)=>JIC W blk p q r);rcases(by omega:a=0\/a<0\/0<a)with h0|h0|h0
 ·subst h0;clear hS hI hP;go_enter func69,ntmps69;go_wp2;refine ζR (v:=.tuple #[X79 ⟨0,0,0⟩,.int .i64 18]) ?_ rfl ?_
  ·rw[results_cell_tmp rfl];simp[asAddr,Result.andThen,go_sem];rfl
  ·exact⟨rfl,HS.o.get HI.o ((Gr.refl w).alloc _)⟩
 ·have d0:(a==0)=false:=by simp;omega
  have d1:decide (a<0)=true:=κ h0;have HE:Hid (u.rdH a=⟨0,0,0⟩/\u.rdE a=5):=⟨⟨ϑ Ω,by unfold Vm.rdE;rw[ϑ Ω,μ h0]⟩⟩;clear hS hI hP;go_enter func69,ntmps69;go_wp2;refine ζR (v:=.tuple #[X79 ⟨0,0,0⟩,.int .i64 5]) ?_ rfl ?_
  ·rw[results_cell_tmp rfl];simp[asAddr,Result.andThen,go_sem];rfl
  ·exact⟨by rw[HE.o.1,HE.o.2],HS.o.get HI.o ((Gr.refl w).alloc _)⟩
 ·have d0:(a==0)=false:=by simp;omega
  have d1:decide (a<0)=false:=ψ Ω;have Y:=hid (hS.ld (hS.gr (hS.ct hI) ((Gr.refl w).alloc (.cells #[.int .i64 0,.int .i64 0,.int .i64 0] 63))) a (hP h0));by_cases hE:u.ldE a=0
  ·have HE:Hid (u.rdH a=tkH (u.ldV a)/\u.rdE a=tkE (u.ldV a)):=⟨⟨μ ⟨h0,hE⟩,by unfold Vm.rdE;rw[ϑ Ω,ϑ Ω,μ hE]⟩⟩;have HT:=hid (λW=>XFZ hx W);have hh:X79 (tkH (u.ldV a))=.agg #[.int .i64 (tkH (u.ldV a)).p,.int .i64 (tkH (u.ldV a)).f,.int .i64 (tkH (u.ldV a)).k]:=rfl;rw[hh]at HT;rw[hE]at Y;generalize tkH (u.ldV a)=h at HT HE;generalize tkE (u.ldV a)=er at HT HE;obtain⟨p,f,k⟩:=h;clear hE hh hS hI hP J;go_enter func69,ntmps69
   go_wp2_with(first
    | (go_at_call 110;refine(HT.o _).mono ?_;rintro e w2 ⟨rfl,U⟩;have r2:=Z.o.gr U;have k0:=r2.cc 0;have k1:=r2.cc 1;have k2:=r2.cc 2;have kf:=r2.free;have N:=hid r2;have M:=hid (V.o.gr U HS.o);clear U r2)
    | (refine Y.o.mono ?_;rintro e w1 ⟨rfl,X⟩;have V:Hid (z.E u (ZOk S w) _ w1):=⟨X⟩;have Z:=hid (Sp.E.rec (z:=z) X (Rec.new w 63 [.int .i64 0,.int .i64 0,.int .i64 0]) (π _));clear X))
   have R3:=Rec.set (Rec.set (Rec.set N.o 0 (.int .i64 p)) 1 (.int .i64 f)) 2 (.int .i64 k);refine ζR (v:=.tuple #[X79 ⟨p,f,k⟩,.int .i64 er]) ?_ rfl ?_
   ·rw[results_cell_tmp rfl];have hl:=KL.o _ w.heap.size _ _ _ (R3.cc 0) (R3.cc 1) (R3.cc 2);simp[asAddr,Result.andThen,hl,X79]
   ·exact⟨by rw[HE.o.1,HE.o.2],M.o.cells HS.o HI.o ((Gr.refl w).alloc _) (π _) (by rw[η];omega) (ZGx _ _ _ _ _)⟩
  ·have HE:Hid (u.rdH a=⟨0,0,0⟩/\u.rdE a=u.ldE a):=⟨⟨ϑ (λh=>hE h.2),by unfold Vm.rdE;rw[ϑ Ω,ϑ Ω,ϑ hE]⟩⟩;obtain⟨y,hy⟩:∃y,y=u.ldE a:=⟨_,rfl⟩;have d2:(y==0)=false:=by rw[hy];simpa using hE
   rw[<-hy]at Y;have HY:=hid hy;clear hE hy hS hI hP J;go_enter func69,ntmps69;go_wp2_with(refine Y.o.mono ?_;rintro e w1 ⟨rfl,X⟩;have V:Hid (z.E u (ZOk S w) _ w1):=⟨X⟩;have r2:=Sp.E.rec (z:=z) X (Rec.new w 63 [.int .i64 0,.int .i64 0,.int .i64 0]) (π _);have k0:=r2.cc 0;have k1:=r2.cc 1;have k2:=r2.cc 2;have kf:=r2.free;have Z:=hid r2;clear X r2);have R3:=Rec.set (Rec.set (Rec.set Z.o 0 (.int .i64 0)) 1 (.int .i64 0)) 2 (.int .i64 0);refine ζR (v:=.tuple #[X79 ⟨0,0,0⟩,.int .i64 y]) ?_ rfl ?_
   ·rw[results_cell_tmp rfl];have hl:=KL.o _ w.heap.size _ _ _ (R3.cc 0) (R3.cc 1) (R3.cc 2);simp[asAddr,Result.andThen,hl,X79]
   ·exact⟨by rw[HE.o.1,HE.o.2,HY.o],V.o.cells HS.o HI.o ((Gr.refl w).alloc _) (π _) (by rw[η];omega) (ZGx _ _ _ _ _)⟩
end
def spM(q:Nat):Sp:=⟨87,.pointer (some ⟨q,0,none⟩),176,λ_=>True,False,λ_=>False,λu S w=>QXZ w S q u⟩
theorem YGi(q:Nat):(spM q).Ok:=
 ⟨λn w=>Ye4 n _ w,λn w=>V01 n _ w,λargs w=>by kernel_rfl,λw=>by kernel_rfl,λh=>QXZ.ok h,λh t hT hs=>QXZ.mono (QXZ.touch h t (λk hk hl=>λht=>(hT k hl ht).1 hk)) hs,λ_ _ h=>h.elim,λh=>QXZ.cut h,
  λ{u S w} h a _=>(VW8 (S:=S) h a).mono λ_ _ hh=>⟨hh.1,hh.2.touch _,QXZ.mono (QXZ.gr h hh.2) (λ_ h=>.inl h)⟩⟩
section
variable {w:World} {S:Nat->Prop} {q:Nat} {v:Vm}
theorem ZkF(hV:QXZ w S q v)(a:Int):Calls prog 69 #[spV q,.int .i64 a] w λe w'=>e=.returned (.tuple #[X79 (v.rdH a),.int .i64 (v.rdE a)])/\Gr w w':=
 (JYm (z:=spM q) (YGi q) hV a (λ_=>trivial)).mono λ_ _ h=>⟨h.1,h.2.ro (λh=>h)⟩
end
end
section
open Go.RowKit Word
def Vm.plE(v:Vm)(a i kd:Int):Int:=if v.rdE a≠0 then v.rdE a else if Yoq (v.rdH a) i=kd then 0 else if Yoq (v.rdH a) i=0 then 19 else 20
def Vm.plA(v:Vm)(a i kd:Int):Int:=if v.plE a i kd=0 then a+1+i else 0
def Vm.gtE(v:Vm)(a i kd:Int):Int:=if v.plE a i kd≠0 then v.plE a i kd else v.ldE (a+1+i)
def Vm.gtV(v:Vm)(a i kd:Int):Nat:=if v.plE a i kd≠0 then 0 else v.ldV (a+1+i)
def Vm.ptE(v:Vm)(a i:Int):Int:=if v.gtE a i 1≠0 then v.gtE a i 1 else if 2147483647<v.gtV a i 1 then 25 else 0
def Vm.ptV(v:Vm)(a i:Int):Nat:=if v.ptE a i=0 then v.gtV a i 1 else 0
theorem Jzk{x:Nat}(h:tkE x=0):∃p f k:Nat,tkH x=⟨p,f,k⟩/\p+f+k<=255:=by
 unfold tkE at h
 split at h
 ·rename_i ho;refine⟨x%256,x/256%256,x/65536%256,μ ho,?_⟩;unfold Q3b at ho;simp only[ζd,ζe]at ho;exact ho.2
 ·cases h
theorem J7F{v:Vm}{a:Int}(h:v.rdE a=0):0<a/\v.ldE a=0/\∃p f k:Nat,v.rdH a=⟨p,f,k⟩/\p+f+k<=255:=by
 unfold Vm.rdE at h
 split at h
 ·cases h
 ·split at h
  ·cases h
  ·split at h
   ·rename_i h0;have ha:0<a:=Ω
    refine⟨ha,h0,?_⟩;obtain⟨p,f,k,e1,e2⟩:=Jzk h;exact⟨p,f,k,by unfold Vm.rdH;rw[μ ⟨ha,h0⟩];exact e1,e2⟩
   ·rename_i h0;exact absurd h h0
theorem Qo9{v:Vm}{a:Int}(h:v.ldE a=0):0<=a/\a<v.n:=by
 obtain⟨j,rfl,hj,-⟩:=ZAR.hit h;omega
section
variable {z:Sp} {w:World} {S:Nat->Prop} {v:Vm}
theorem JJW(hS:Sp.Ok z)(hI:z.I v S w)(a i kd:Int)(hk:kd≠0)(hP:0<a->z.P a):Calls prog 116 #[z.v,.int .i64 a,.int .i64 i,.int .i64 kd] w λe w'=>e=.returned (.tuple #[.int .i64 (v.plA a i kd),.int .i64 (v.plE a i kd)])/\z.E v S w w':=by
 have HS:=hid hS;have hn:=(hS.ok hI).n2;have Z:=hid (JYm hS hI a hP);by_cases hE:v.rdE a=0
 ·obtain⟨ha,hl,p,f,k,hh,hs⟩:=J7F hE;have hr:=Qo9 hl;rw[hh]at Z;have HP:Hid (v.plE a i kd=if Yoq ⟨p,f,k⟩ i=kd then 0 else if Yoq ⟨p,f,k⟩ i=0 then 19 else 20):=⟨by unfold Vm.plE;rw[ϑ (λh=>h hE),hh]⟩;have HA:Hid (v.plA a i kd=if v.plE a i kd=0 then a+1+i else 0):=⟨rfl⟩;have HK:=hid (λW=>VNI hs i W);have hN:Z3o ⟨p,f,k⟩=1+(p:Int)+f+k:=μ (JJj hs)
  have M:Yoq ⟨p,f,k⟩ i≠0->0<=i/\i<255:=λh=>by
   unfold Yoq at h
   split at h
   ·rename_i h';rw[hN]at h';omega
   ·exact absurd rfl h
  generalize Yoq ⟨(p:Int),(f:Int),(k:Int)⟩ i=kk at HP HK M;have HE:=hid hE;clear hE hl hh hs hN hS hI hP;unfold X79 at Z HK;by_cases h1:kk=kd
  ·have e0:v.plE a i kd=0:=by rw[HP.o,μ h1]
   have X:Hid (v.plE a i kd=0/\v.plA a i kd=a+1+i):=⟨⟨e0,by rw[HA.o,μ e0]⟩⟩;have hii:=M (by rw[h1];exact hk);have d0:(kk==kd)=true:=by simpa using h1
   clear h1 M HP HA e0;go_enter func116,ntmps116
   go_wp2_with(first
    | (go_at_call 69;refine(Z.o).mono ?_;rintro e w1 ⟨rfl,Y⟩;rw[HE.o];have U:=hid Y;clear Y)
    | (go_at_call 109;refine(HK.o _).mono ?_;rintro e w2 ⟨rfl,J⟩;have V:=hid J;clear J))
   go_ret2;exact⟨Qh8 (Yhd (by rw[X.o.2])) (Yhd (by rw[X.o.1])),U.o.gr (((Gr.refl _).alloc _).trans V.o) HS.o⟩
  ·have d0:(kk==kd)=false:=by simpa using h1
   by_cases h2:kk=0
   ·have e0:v.plE a i kd=19:=by rw[HP.o,ϑ h1,μ h2]
    have X:Hid (v.plE a i kd=19/\v.plA a i kd=0):=⟨⟨e0,by rw[HA.o,ϑ (by rw[e0];decide)]⟩⟩;have d1:(kk==0)=true:=by simpa using h2
    clear h1 h2 M HP HA e0;go_enter func116,ntmps116
    go_wp2_with(first
     | (go_at_call 69;refine(Z.o).mono ?_;rintro e w1 ⟨rfl,Y⟩;rw[HE.o];have U:=hid Y;clear Y)
     | (go_at_call 109;refine(HK.o _).mono ?_;rintro e w2 ⟨rfl,J⟩;have V:=hid J;clear J))
    go_ret2;exact⟨Qh8 (Yhd (by rw[X.o.2])) (Yhd (by rw[X.o.1])),U.o.gr (((Gr.refl _).alloc _).trans V.o) HS.o⟩
   ·have e0:v.plE a i kd=20:=by rw[HP.o,ϑ h1,ϑ h2]
    have X:Hid (v.plE a i kd=20/\v.plA a i kd=0):=⟨⟨e0,by rw[HA.o,ϑ (by rw[e0];decide)]⟩⟩;have d1:(kk==0)=false:=by simpa using h2
    clear h1 h2 M HP HA e0;go_enter func116,ntmps116
    go_wp2_with(first
     | (go_at_call 69;refine(Z.o).mono ?_;rintro e w1 ⟨rfl,Y⟩;rw[HE.o];have U:=hid Y;clear Y)
     | (go_at_call 109;refine(HK.o _).mono ?_;rintro e w2 ⟨rfl,J⟩;have V:=hid J;clear J))
    go_ret2;exact⟨Qh8 (Yhd (by rw[X.o.2])) (Yhd (by rw[X.o.1])),U.o.gr (((Gr.refl _).alloc _).trans V.o) HS.o⟩
 ·have e1:v.plE a i kd=v.rdE a:=by unfold Vm.plE;rw[μ hE]
  have X:Hid (v.plE a i kd=v.rdE a/\v.plA a i kd=0):=⟨⟨e1,by unfold Vm.plA;rw[ϑ (by rw[e1];exact hE)]⟩⟩;obtain⟨y,hy⟩:∃y,y=v.rdE a:=⟨_,rfl⟩;have d2:(y==0)=false:=by rw[hy];simpa using hE
  rw[<-hy]at X Z;clear hE hy e1 hS hI hP;unfold X79 at Z;go_enter func116,ntmps116;go_wp2_with(go_at_call 69;refine(Z.o).mono ?_;rintro e w1 ⟨rfl,Y⟩;have U:=hid Y;clear Y);go_ret2;exact⟨Qh8 (Yhd (by rw[X.o.2])) (Yhd (by rw[X.o.1])),U.o.gr ((Gr.refl _).alloc _) HS.o⟩
theorem QbF(hS:Sp.Ok z)(hI:z.I v S w)(a i kd:Int)(hk:kd≠0)(hP:0<a->z.P a)(hQ:v.plE a i kd=0->z.P (a+1+i)):Calls prog 115 #[z.v,.int .i64 a,.int .i64 i,.int .i64 kd] w λe w'=>e=.returned (.tuple #[.int .u64 (v.gtV a i kd:Nat),.int .i64 (v.gtE a i kd)])/\z.E v S w w':=by
 have HS:=hid hS;have X:=hid (JJW hS hI a i kd hk hP);have n1:=hS.nl;have n2:=hS.ml;have n3:=hS.cl;unfold Sp.v at X⊢;by_cases hE:v.plE a i kd=0
 ·have HE:Hid (v.gtE a i kd=v.ldE (a+1+i)/\v.gtV a i kd=v.ldV (a+1+i)):=⟨⟨ϑ (λh=>h hE),ϑ (λh=>h hE)⟩⟩;have HA:Hid (v.plA a i kd=a+1+i):=⟨μ hE⟩;rw[hE,HA.o]at X;have J:=hid (hQ hE);generalize a+1+i=M at HE X J;clear hE hS hI hP hQ HA;go_enter func115,ntmps115
  go_wp2_with(first
   | (go_at_call 116;refine(X.o).mono ?_;rintro e w1 ⟨rfl,Y⟩;have Z:=hid Y;clear Y)
   | (refine(HS.o.ld Z.o.2 M J.o).mono ?_;rintro e w2 ⟨rfl,U⟩;have V:Hid (z.E v (plus S w) w1 w2):=⟨U⟩;clear U))
  go_ret2;exact⟨Qh8 (congrArg (λn:Nat=>Value.int .u64 (n:Int)) HE.o.2.symm) (Yhd HE.o.1.symm),Z.o.trans V.o HS.o⟩
 ·have HE:Hid (v.gtE a i kd=v.plE a i kd/\v.gtV a i kd=0):=⟨⟨μ hE,μ hE⟩⟩;obtain⟨y,hy⟩:∃y,y=v.plE a i kd:=⟨_,rfl⟩;have d2:(y==0)=false:=by rw[hy];simpa using hE
  rw[<-hy]at HE X;clear hE hy hS hI hP hQ;go_enter func115,ntmps115;go_wp2_with(go_at_call 116;refine(X.o).mono ?_;rintro e w1 ⟨rfl,Y⟩;have Z:=hid Y;clear Y);go_ret2;exact⟨Qh8 (congrArg (λn:Nat=>Value.int .u64 (n:Int)) HE.o.2.symm) (Yhd HE.o.1.symm),Z.o⟩
theorem Jk4(hok:ZAR v)(a i kd:Int):v.gtV a i kd<18446744073709551616:=by
 unfold Vm.gtV
 split
 ·decide
 ·exact hok.ldV_lt _
theorem Zn7(hS:Sp.Ok z)(hI:z.I v S w)(a i:Int)(hP:0<a->z.P a)(hQ:v.plE a i 1=0->z.P (a+1+i)):Calls prog 74 #[z.v,.int .i64 a,.int .i64 i] w λe w'=>e=.returned (.tuple #[.int .i64 (v.ptV a i:Nat),.int .i64 (v.ptE a i)])/\z.E v S w w':=by
 have HS:=hid hS;have X:=hid (QbF hS hI a i 1 (by decide) hP hQ);have hx:=Jk4 (hS.ok hI) a i 1;unfold Sp.v at X⊢;by_cases hE:v.gtE a i 1=0
 ·by_cases hb:2147483647<v.gtV a i 1
  ·have e1:v.ptE a i=25:=by unfold Vm.ptE;rw[ϑ (λh=>h hE),μ hb]
   have HE:Hid (v.ptE a i=25/\v.ptV a i=0):=⟨⟨e1,by unfold Vm.ptV;rw[ϑ (by rw[e1];decide)]⟩⟩;rw[hE]at X;generalize v.gtV a i 1=x at X hb hx;have d0:decide (2147483647<(x:Int))=true:=κ Ω;clear hE hS hI e1 hP hQ;go_enter func74,ntmps74;go_wp2_with(go_at_call 115;refine(X.o).mono ?_;rintro e w1 ⟨rfl,Y⟩;have Z:=hid Y;clear Y);go_ret2;exact⟨Qh8 (congrArg (λn:Nat=>Value.int .i64 (n:Int)) HE.o.2.symm) (Yhd HE.o.1.symm),Z.o⟩
  ·have e1:v.ptE a i=0:=by unfold Vm.ptE;rw[ϑ (λh=>h hE),ϑ hb]
   have HE:Hid (v.ptE a i=0/\v.ptV a i=v.gtV a i 1):=⟨⟨e1,by unfold Vm.ptV;rw[μ e1]⟩⟩;rw[hE]at X;generalize v.gtV a i 1=x at X hb hx HE;have d0:decide (2147483647<(x:Int))=false:=ψ Ω;clear hE hS hI e1 hP hQ;go_enter func74,ntmps74;go_wp2_with(go_at_call 115;refine(X.o).mono ?_;rintro e w1 ⟨rfl,Y⟩;have Z:=hid Y;clear Y);go_ret2;exact⟨Qh8 (congrArg (λn:Nat=>Value.int .i64 (n:Int)) HE.o.2.symm) (Yhd HE.o.1.symm),Z.o⟩
 ·have e1:v.ptE a i=v.gtE a i 1:=by unfold Vm.ptE;rw[μ hE]
  have HE:Hid (v.ptE a i=v.gtE a i 1/\v.ptV a i=0):=⟨⟨e1,by unfold Vm.ptV;rw[ϑ (by rw[e1];exact hE)]⟩⟩;obtain⟨y,hy⟩:∃y,y=v.gtE a i 1:=⟨_,rfl⟩;have d2:(y==0)=false:=by rw[hy];simpa using hE
  rw[<-hy]at HE X;clear hE hy hS hI e1 hP hQ;go_enter func74,ntmps74;go_wp2_with(go_at_call 115;refine(X.o).mono ?_;rintro e w1 ⟨rfl,Y⟩;have Z:=hid Y;clear Y);go_ret2;exact⟨Qh8 (congrArg (λn:Nat=>Value.int .i64 (n:Int)) HE.o.2.symm) (Yhd HE.o.1.symm),Z.o⟩
end
section
variable {w:World} {S:Nat->Prop} {q:Nat} {v:Vm}
theorem JNY(hV:QXZ w S q v)(a i kd:Int)(hk:kd≠0):Calls prog 116 #[spV q,.int .i64 a,.int .i64 i,.int .i64 kd] w λe w'=>e=.returned (.tuple #[.int .i64 (v.plA a i kd),.int .i64 (v.plE a i kd)])/\Gr w w':=
 (JJW (z:=spM q) (YGi q) hV a i kd hk (λ_=>trivial)).mono λ_ _ h=>⟨h.1,h.2.ro (λh=>h)⟩
theorem ZZi(hV:QXZ w S q v)(a i:Int):Calls prog 74 #[spV q,.int .i64 a,.int .i64 i] w λe w'=>e=.returned (.tuple #[.int .i64 (v.ptV a i:Nat),.int .i64 (v.ptE a i)])/\Gr w w':=
 (Zn7 (z:=spM q) (YGi q) hV a i (λ_=>trivial) (λ_=>trivial)).mono λ_ _ h=>⟨h.1,h.2.ro (λh=>h)⟩
end
end
section
open Go.RowKit Word
def J8X(v:Vm)(a b:Int):Prop:=v.rdE a=0/\∃i:Nat,(i:Int)<(v.rdH a).p/\v.ptE a i=0/\v.ptV a i≠0/\b=(v.ptV a i:Nat)
def Rch(v:Vm)(rs:List Int)(a:Int):Prop:=∀P:Int->Prop,(∀r∈rs,r≠0->P r)->(∀a b,P a->J8X v a b->P b)->P a
theorem Rch.root{v:Vm}{rs:List Int}{r:Int}(h:r∈rs)(h0:r≠0):Rch v rs r:=λ_ h1 _=>h1 r h h0
theorem Rch.step{v:Vm}{rs:List Int}{a b:Int}(h:Rch v rs a)(hp:J8X v a b):Rch v rs b:=λP h1 h2=>h2 a b (h P h1 h2) hp
def Vm.osz(v:Vm)(a:Int):Int:=Z3o (v.rdH a)
structure Xd6(v:Vm)(rs:List Int)(n:Nat):Prop where
 rd:∀a,Rch v rs a->v.rdE a=0
 pt:∀a,Rch v rs a->∀i:Nat,(i:Int)<(v.rdH a).p->v.ptE a i=0
 rm:∀a,Rch v rs a->a+v.osz a<=n
 dj:∀a b,Rch v rs a->Rch v rs b->a=b\/a+v.osz a<=b\/b+v.osz b<=a
def Hs(L:List Ob)(a:Int):Prop:=∃o∈L,(o.1:Int)=a
structure Mk(v:Vm)(rs:List Int)(n:Nat)(L:List Ob):Prop where
 good:Q4l n L
 ats:∀o∈L,Rch v rs o.1/\v.rdE o.1=0/\(o.2:Int)=v.osz o.1
theorem Mk.nil(v:Vm)(rs:List Int)(n:Nat):Mk v rs n []:=⟨Q4l.nil n,λ_ h=>by cases h⟩
theorem QXB{v:Vm}{a:Int}(h:v.rdE a=0):0<a/\1<=v.osz a/\v.osz a<=256:=by
 obtain⟨h0,-,p,f,k,e,hs⟩:=J7F h;refine⟨h0,?_⟩;unfold Vm.osz;rw[e,show Z3o ⟨p,f,k⟩=1+(p:Int)+f+k from μ (JJj hs)];omega
theorem Mk.hs{v:Vm}{rs:List Int}{n:Nat}{L:List Ob}(h:Mk v rs n L){a:Int}(ha:Hs L a):Rch v rs a/\v.rdE a=0:=by
 obtain⟨o,ho,rfl⟩:=ha;exact⟨(h.ats o ho).1,(h.ats o ho).2.1⟩
theorem QH9{v:Vm}{n:Nat}{L:List Ob}{a b:Int}(hr:v.rdE a=0)(he:ZbB L n a (v.osz a)=0):Hs (VI0 L n a (v.osz a)) b↔b=a\/Hs L b:=by
 have h0:=(QXB hr).1;unfold VI0 Hs;rw[μ he];constructor
 ·rintro⟨o,ho,rfl⟩;rcases Xz6.1 ho with rfl|ho
  ·left;show (a.toNat:Int)=a;omega
  ·exact .inr ⟨o,ho,rfl⟩
 ·rintro(rfl|⟨o,ho,rfl⟩)
  ·exact⟨_,Xz6.2 (.inl rfl),by show (b.toNat:Int)=b;omega⟩
  ·exact⟨o,Xz6.2 (.inr ho),rfl⟩
theorem Mk.add{v:Vm}{rs:List Int}{n:Nat}{L:List Ob}(h:Mk v rs n L){a:Int}(ha:Rch v rs a)(hr:v.rdE a=0)(he:ZbB L n a (v.osz a)=0):Mk v rs n (VI0 L n a (v.osz a)):=by
 refine⟨V9U h.good _ _,λo ho=>?_⟩;have hp:=QXB hr;unfold VI0 at ho;rw[μ he]at ho;rcases Xz6.1 ho with rfl|ho
 ·have e:((a.toNat:Nat):Int)=a:=Ω
  show Rch v rs (a.toNat:Nat)/\v.rdE (a.toNat:Nat)=0/\(((v.osz a).toNat:Nat):Int)=v.osz (a.toNat:Nat)
  rw[e];exact⟨ha,hr,by omega⟩
 ·exact h.ats o ho
theorem ZoS{L:List Ob}{n:Nat}{s z:Int}(he:ZbB L n s z=0):(VI0 L n s z).length=L.length+1:=by
 unfold VI0;rw[μ he,YKx]
theorem Mk.fail{v:Vm}{rs:List Int}{n:Nat}{L:List Ob}(h:Mk v rs n L){a:Int}(ha:Rch v rs a)(hn:¬Hs L a)(he:ZbB L n a (v.osz a)≠0):¬Xd6 v rs n:=λhS=>by
 have hr:=hS.rd a ha;have hp:=QXB hr;have hm:=hS.rm a ha;unfold ZbB at he;rw[ϑ Ω,ϑ Ω]at he
 split at he
 ·rename_i hc;obtain⟨o,ho,h1,h2⟩:=Y01.1 hc;obtain⟨q1,q2,q3⟩:=h.ats o ho;rcases hS.dj a o.1 ha q1 with e|e|e
  ·exact hn ⟨o,ho,e.symm⟩
  ·omega
  ·omega
 ·exact he rfl
def Cl(v:Vm)(L:List Ob)(a:Int):Prop:=∀i:Nat,(i:Int)<(v.rdH a).p->v.ptE a i=0/\(v.ptV a i≠0->Hs L (v.ptV a i:Nat))
structure Zx6(v:Vm)(rs:List Int)(n:Nat)(L:List Ob):Prop where
 mkd:Mk v rs n L
 all:∀a,Rch v rs a->Hs L a
 cl:∀o∈L,Cl v L o.1
theorem Zx6.of{v:Vm}{rs:List Int}{n:Nat}{L:List Ob}(h:Mk v rs n L)(hr:∀r∈rs,r≠0->Hs L r)(hc:∀o∈L,Cl v L o.1):Zx6 v rs n L:=by
 refine⟨h,λa ha=>ha (Hs L) hr ?_,hc⟩;rintro a b ⟨o,ho,rfl⟩ ⟨-,i,hi,h0,h1,rfl⟩;exact(hc o ho i hi).2 h1
theorem Zx6.sound{v:Vm}{rs:List Int}{n:Nat}{L:List Ob}(h:Zx6 v rs n L):Xd6 v rs n:=by
 refine⟨λa ha=>(h.mkd.hs (h.all a ha)).2,λa ha i hi=>?_,λa ha=>?_,λa b ha hb=>?_⟩
 ·obtain⟨o,ho,rfl⟩:=h.all a ha;exact(h.cl o ho i hi).1
 ·obtain⟨o,ho,rfl⟩:=h.all a ha;have:=(h.mkd.good.sz o ho).2;have:=(h.mkd.ats o ho).2.2;omega
 ·obtain⟨o,ho,rfl⟩:=h.all a ha;obtain⟨q,hq,rfl⟩:=h.all b hb;have:=(h.mkd.ats o ho).2.2;have:=(h.mkd.ats q hq).2.2;rcases h.mkd.good.disj ho hq with e|e|e
  ·left;rw[e]
  ·right;left;omega
  ·right;right;omega
theorem YKj{L M:List Ob}(h1:L.Pairwise (λo q=>o.1<q.1))(h2:M.Pairwise (λo q=>o.1<q.1))(h:∀x,x∈L↔x∈M):L=M:=by
 induction L generalizing M with
 | nil=>
  cases M with
  | nil=>rfl
  | cons m M=>exact absurd ((h m).2 (ζg ..)) (by simp)
 | cons l L ih=>
  cases M with
  | nil=>exact absurd ((h l).1 (ζg ..)) (by simp)
  | cons m M=>
   obtain⟨a1,a2⟩:=ξg.1 h1;obtain⟨b1,b2⟩:=ξg.1 h2
   have e:l=m:=by
    rcases ζH.1 ((h l).1 (ζg ..))with e|hm
    ·exact e
    ·rcases ζH.1 ((h m).2 (ζg ..))with e|hl
     ·exact e.symm
     ·have:=b1 l hm;have:=a1 m hl;omega
   subst e;congr 1;refine ih a2 b2 λx=>⟨λhx=>?_,λhx=>?_⟩
   ·rcases ζH.1 ((h x).1 (ζo _ hx))with e|hm
    ·subst e;have:=a1 _ hx;omega
    ·exact hm
   ·rcases ζH.1 ((h x).2 (ζo _ hx))with e|hm
    ·subst e;have:=b1 _ hx;omega
    ·exact hm
theorem Q4l.lt{n:Nat}{L:List Ob}(h:Q4l n L):L.Pairwise (λo q=>o.1<q.1):=by
 refine List.pairwise_iff_getElem.2 λi j hi hj hij=>?_;have:=h.at hi hj hij;have:=(h.sz _ (χ hi)).1;omega
theorem Zx6.unique{v:Vm}{rs:List Int}{n:Nat}{L M:List Ob}(h:Zx6 v rs n L)(h':Zx6 v rs n M):L=M:=by
 have X:∀{L M:List Ob},Zx6 v rs n L->Zx6 v rs n M->∀x∈L,x∈M:=λ{L M} h h' x hx=>by
  obtain⟨q1,q2,q3⟩:=h.mkd.ats x hx;obtain⟨o,ho,e⟩:=h'.all _ q1;obtain⟨p1,p2,p3⟩:=h'.mkd.ats o ho;rw[e]at p3;have e1:o=x:=Prod.ext Ω Ω;rw[<-e1];exact ho
 exact YKj h.mkd.good.lt h'.mkd.good.lt λx=>⟨X h h' x,X h' h x⟩
structure MkS where
 L:List Ob
 st:List Int
 lost:Bool
def MkS.push(s:MkS)(R:Nat)(L':List Ob)(a:Int):MkS:=if s.st.length<R then ⟨L',s.st++[a],s.lost⟩else ⟨L',s.st,true⟩
structure QxY(s s':MkS):Prop where
 sub:∀a,Hs s.L a->Hs s'.L a
 len:s.L.length<=s'.L.length
 los:s'.lost=true->s.lost=true\/s.L.length<s'.L.length
 mea:2*s.L.length+s'.st.length<=2*s'.L.length+s.st.length
theorem QxY.refl(s:MkS):QxY s s:=⟨λ_ h=>h,π _,λh=>.inl h,π _⟩
theorem QxY.trans{s t u:MkS}(h:QxY s t)(k:QxY t u):QxY s u:=
 ⟨λa ha=>k.sub a (h.sub a ha),ζb h.len k.len,λhl=>by
  rcases k.los hl with h1|h1
  ·rcases h.los h1 with h2|h2
   ·exact .inl h2
   ·exact .inr (ω h2 k.len)
  ·exact .inr (ξL h.len h1),by have:=h.mea;have:=k.mea;omega⟩
theorem Cl.mono{v:Vm}{L M:List Ob}(hs:∀a,Hs L a->Hs M a){a:Int}(h:Cl v L a):Cl v M a:=λi hi=>⟨(h i hi).1,λh0=>hs _ ((h i hi).2 h0)⟩
structure YK6(v:Vm)(rs:List Int)(n R:Nat)(X:Int->Prop)(s:MkS):Prop where
 mkd:Mk v rs n s.L
 st:∀a∈s.st,Hs s.L a
 r:s.st.length<=R
 cl:∀a,Hs s.L a->Cl v s.L a\/a∈s.st\/s.lost=true\/X a
theorem YK6.weak{v:Vm}{rs:List Int}{n R:Nat}{X Y:Int->Prop}{s:MkS}(h:YK6 v rs n R X s)(hX:∀a,X a->Y a):YK6 v rs n R Y s:=
 ⟨h.mkd,h.st,h.r,λa ha=>(h.cl a ha).imp id (Or.imp id (Or.imp id (hX a)))⟩
theorem YK6.push{v:Vm}{rs:List Int}{n R:Nat}{X:Int->Prop}{s:MkS}(h:YK6 v rs n R X s){a:Int}(ha:Rch v rs a)(hr:v.rdE a=0)(he:ZbB s.L n a (v.osz a)=0):
  YK6 v rs n R X (s.push R (VI0 s.L n a (v.osz a)) a)/\QxY s (s.push R (VI0 s.L n a (v.osz a)) a)/\Hs (s.push R (VI0 s.L n a (v.osz a)) a).L a:=by
 have hm:=h.mkd.add ha hr he;have hh:=λb=>QH9 (b:=b) hr he;have hl:=ZoS he;have Y:∀b,Hs s.L b->Hs (VI0 s.L n a (v.osz a)) b:=λb hb=>(hh b).2 (.inr hb);unfold MkS.push
 split
 ·rename_i hR;refine⟨⟨hm,λb hb=>?_,by show (s.st++[a]).length<=R;simp;omega,λb hb=>?_⟩,⟨Y,by show _<=(VI0 _ _ _ _).length;omega,λh=>.inl h,by show 2*_+(s.st++[a]).length<=2*(VI0 _ _ _ _).length+_;simp;omega⟩,(hh a).2 (.inl rfl)⟩
  ·rcases ζj.1 hb with hb|hb
   ·exact Y b (h.st b hb)
   ·rw[ζs.1 hb];exact(hh a).2 (.inl rfl)
  ·rcases(hh b).1 hb with rfl|hb
   ·exact .inr (.inl (ζj.2 (.inr (ζs.2 rfl))))
   ·rcases h.cl b hb with h1|h1|h1|h1
    ·exact .inl (h1.mono Y)
    ·exact .inr (.inl (ζj.2 (.inl h1)))
    ·exact .inr (.inr (.inl h1))
    ·exact .inr (.inr (.inr h1))
 ·refine⟨⟨hm,λb hb=>Y b (h.st b hb),h.r,λb _=>.inr (.inr (.inl rfl))⟩,⟨Y,by show _<=(VI0 _ _ _ _).length;omega,λ_=>.inr (by show _<(VI0 _ _ _ _).length;omega),by show 2*_+s.st.length<=2*(VI0 _ _ _ _).length+_;omega⟩,(hh a).2 (.inl rfl)⟩
theorem YK6.pop{v:Vm}{rs:List Int}{n R:Nat}{X:Int->Prop}{L:List Ob}{st:List Int}{lost:Bool}{a:Int}(h:YK6 v rs n R X ⟨L,st++[a],lost⟩):YK6 v rs n R (λb=>X b\/b=a) ⟨L,st,lost⟩/\Hs L a:=by
 refine⟨⟨h.mkd,λb hb=>h.st b (ζj.2 (.inl hb)),by have:=h.r;simp at this;show st.length<=R;omega,λb hb=>?_⟩,h.st a (ζj.2 (.inr (ζs.2 rfl)))⟩;rcases h.cl b hb with h1|h1|h1|h1
 ·exact .inl h1
 ·rcases ζj.1 h1 with h2|h2
  ·exact .inr (.inl h2)
  ·exact .inr (.inr (.inr (.inr (ζs.1 h2))))
 ·exact .inr (.inr (.inl h1))
 ·exact .inr (.inr (.inr (.inl h1)))
theorem YK6.done{v:Vm}{rs:List Int}{n R:Nat}{X Y:Int->Prop}{s:MkS}{a:Int}(h:YK6 v rs n R X s)(hc:Cl v s.L a)(hX:∀b,X b->Y b\/b=a):YK6 v rs n R Y s:=
 ⟨h.mkd,h.st,h.r,λb hb=>by
  rcases h.cl b hb with h1|h1|h1|h1
  ·exact .inl h1
  ·exact .inr (.inl h1)
  ·exact .inr (.inr (.inl h1))
  ·rcases hX b h1 with h2|rfl
   ·exact .inr (.inr (.inr h2))
   ·exact .inl hc⟩
def ClN(v:Vm)(L:List Ob)(a:Int)(k:Nat):Prop:=∀i:Nat,i<k->v.ptE a i=0/\(v.ptV a i≠0->Hs L (v.ptV a i:Nat))
theorem ClN.mono{v:Vm}{L M:List Ob}(hs:∀a,Hs L a->Hs M a){a:Int}{k:Nat}(h:ClN v L a k):ClN v M a k:=λi hi=>⟨(h i hi).1,λh0=>hs _ ((h i hi).2 h0)⟩
theorem ClN.succ{v:Vm}{L:List Ob}{a:Int}{k:Nat}(h:ClN v L a k)(h0:v.ptE a k=0)(h1:v.ptV a k≠0->Hs L (v.ptV a k:Nat)):ClN v L a (k+1):=λi hi=>by
 rcases γ i k with h2|h2
 ·exact h i h2
 ·have:i=k:=Ω
  subst this;exact⟨h0,h1⟩
theorem ClN.cl{v:Vm}{L:List Ob}{a:Int}{k:Nat}(h:ClN v L a k)(hk:(v.rdH a).p<=k):Cl v L a:=λi hi=>h i Ω
theorem YK6.marks{v:Vm}{rs:List Int}{n R:Nat}{X:Int->Prop}{s:MkS}(h:YK6 v rs n R X s)(hX:∀a,¬X a)(hst:s.st=[])(hlost:s.lost=false)(hr:∀r∈rs,r≠0->Hs s.L r):Zx6 v rs n s.L:=by
 refine Zx6.of h.mkd hr λo ho=>?_;rcases h.cl o.1 ⟨o,ho,rfl⟩with h1|h1|h1|h1
 ·exact h1
 ·rw[hst]at h1;cases h1
 ·rw[hlost]at h1;cases h1
 ·exact absurd h1 (hX _)
theorem ZFY{v:Vm}{rs:List Int}{n:Nat}{a:Int}(ha:Rch v rs a)(h:v.rdE a≠0):¬Xd6 v rs n:=λhS=>h (hS.rd a ha)
theorem J7J{v:Vm}{rs:List Int}{n:Nat}{a:Int}(ha:Rch v rs a){i:Nat}(hi:(i:Int)<(v.rdH a).p)(h:v.ptE a i≠0):¬Xd6 v rs n:=λhS=>h (hS.pt a ha i hi)
end
section
open Go.RowKit Word
def Xmc(v:Vm):List Int->Int
 | []=>0
 | a :: r=>v.osz a+Xmc v r
def ZQE(v:Vm):List Int->Int->Int->Int
 | [],_,_=>0
 | b :: r,t,a=>if b=a then t else ZQE v r (t+v.osz b) a
theorem QCw(v:Vm)(a:Int):0<=v.osz a:=by
 unfold Vm.osz Z3o
 split
 ·rename_i h;obtain⟨p,f,k,e,hs⟩:=XZe h;rw[e]
  show (0:Int)<=1+(p:Int)+f+k
  omega
 ·exact ξU 0
theorem J7B(v:Vm)(O P:List Int):Xmc v (O++P)=Xmc v O+Xmc v P:=by
 induction O with
 | nil=>simp[Xmc]
 | cons a r ih=>simp only[ζL,Xmc,ih];omega
theorem YB0(v:Vm)(O:List Int):0<=Xmc v O:=by
 induction O with
 | nil=>simp[Xmc]
 | cons a r ih=>have:=QCw v a;simp only[Xmc];omega
theorem VZm(v:Vm){O:List Int}{j:Nat}(hj:j<O.length):Xmc v (O.take (j+1))=Xmc v (O.take j)+v.osz O[j]:=by
 rw[List.take_add_one,δ hj,J7B];simp[Xmc]
theorem XCA(v:Vm)(O:List Int){i j:Nat}(h:i<=j):Xmc v (O.take i)<=Xmc v (O.take j):=by
 have e:O.take j=O.take i++(O.take j).drop i:=by
  conv=>lhs;rw[<-ψc i (O.take j)]
  rw[List.take_take,Nat.min_eq_left h]
 rw[e,J7B];have:=YB0 v ((O.take j).drop i);omega
theorem ZWV(v:Vm)(O:List Int)(j:Nat):Xmc v (O.take j)<=Xmc v O:=by
 have:=YB0 v (O.drop j);have e:=J7B v (O.take j) (O.drop j);rw[ψc]at e;omega
theorem YAF(v:Vm){O:List Int}(P:List Int)(t:Int){a:Int}(h:a∈O):ZQE v (O++P) t a=ZQE v O t a:=by
 induction O generalizing t with
 | nil=>cases h
 | cons b r ih=>
  simp only[ζL,ZQE]
  split
  ·rfl
  ·rename_i hb;exact ih _ ((ζH.1 h).resolve_left (λe=>hb e.symm))
theorem QDm(v:Vm){O:List Int}(P:List Int)(t:Int){a:Int}(h:a∉O):ZQE v (O++P) t a=ZQE v P (t+Xmc v O) a:=by
 induction O generalizing t with
 | nil=>simp[Xmc]
 | cons b r ih=>
  have hb:¬b=a:=λe=>h (by rw[e];exact ζg ..);simp only[ζL,ZQE,Xmc,ϑ hb];rw[ih _ (λh'=>h (ζo _ h'))];congr 1;omega
theorem YPv(v:Vm){O:List Int}(t:Int){a:Int}(h:a∉O):ZQE v O t a=0:=by
 have:=QDm v [] t h;rw[ξ8]at this;rw[this];rfl
theorem XjJ(v:Vm){O:List Int}(hn:O.Nodup)(t:Int){j:Nat}(hj:j<O.length):ZQE v O t O[j]=t+Xmc v (O.take j):=by
 have e:O=O.take j++O[j] :: O.drop (j+1):=by
  conv=>lhs;rw[<-ψc j O,ξB hj]
 have Y:O[j]∉O.take j:=by
  intro hm;obtain⟨i,hi,he⟩:=ζt hm;rw[List.length_take]at hi;rw[List.getElem_take]at he;have:=(List.getElem_inj hn).1 he;omega
 have h:=QDm v (O[j] :: O.drop (j+1)) t Y;refine(congrArg (λX=>ZQE v X t O[j]) e).trans (h.trans ?_);rw[ZQE,μ rfl]
theorem VEW(v:Vm){O:List Int}(t:Int){a:Int}(h:a∈O):t<=ZQE v O t a/\ZQE v O t a+v.osz a<=t+Xmc v O:=by
 induction O generalizing t with
 | nil=>cases h
 | cons b r ih=>
  have h1:=YB0 v r;have h2:=QCw v b;simp only[ZQE,Xmc]
  split
  ·rename_i e;subst e;omega
  ·rename_i hb;have:=ih (t+v.osz b) ((ζH.1 h).resolve_left (λe=>hb e.symm));omega
def Yfl(O:List Int)(a:Int):List Int:=if a=0\/a∈O then O else O++[a]
def X4e(O l:List Int):List Int:=l.foldl Yfl O
theorem XTn(O:List Int)(a:Int):∃X,Yfl O a=O++X:=by
 unfold Yfl
 split
 ·exact⟨[],(ξ8 _).symm⟩
 ·exact⟨[a],rfl⟩
theorem XlQ(O l:List Int):∃X,X4e O l=O++X:=by
 induction l generalizing O with
 | nil=>exact⟨[],(ξ8 _).symm⟩
 | cons a r ih=>
  obtain⟨X,hX⟩:=XTn O a;obtain⟨Y,hY⟩:=ih (Yfl O a);exact⟨X++Y,by show X4e (Yfl O a) r=_;rw[hY,hX,ζX]⟩
theorem QwE(O l:List Int)(a:Int):X4e O (l++[a])=Yfl (X4e O l) a:=by unfold X4e;rw[List.foldl_append];rfl
theorem Q9S{O:List Int}{a b:Int}:b∈Yfl O a↔b∈O\/(b=a/\a≠0):=by
 unfold Yfl
 split
 ·rename_i h;constructor
  ·exact .inl
  ·rintro(h'|⟨rfl,h0⟩)
   ·exact h'
   ·exact h.resolve_left h0
 ·rename_i h;rw[ζj,ζs];constructor
  ·rintro(h'|rfl)
   ·exact .inl h'
   ·exact .inr ⟨rfl,λh0=>h (.inl h0)⟩
  ·rintro(h'|⟨rfl,-⟩)
   ·exact .inl h'
   ·exact .inr rfl
theorem Z9b{O l:List Int}{b:Int}:b∈X4e O l↔b∈O\/(b∈l/\b≠0):=by
 induction l generalizing O with
 | nil=>simp[X4e]
 | cons a r ih=>
  show b∈X4e (Yfl O a) r↔_
  rw[ih,Q9S,ζH];constructor
  ·rintro((h|⟨rfl,h⟩)|⟨h,h0⟩)
   ·exact .inl h
   ·exact .inr ⟨.inl rfl,h⟩
   ·exact .inr ⟨.inr h,h0⟩
  ·rintro(h|⟨rfl|h,h0⟩)
   ·exact .inl (.inl h)
   ·exact .inl (.inr ⟨rfl,h0⟩)
   ·exact .inr ⟨h,h0⟩
theorem QE5{O:List Int}(h:O.Nodup)(a:Int):(Yfl O a).Nodup:=by
 unfold Yfl
 split
 ·exact h
 ·rename_i hn;rw[ξu];refine⟨h,by simp,λx hx y hy e=>?_⟩;rw[ζs]at hy;exact hn (.inr (by rw[<-hy,<-e];exact hx))
theorem QBB{O:List Int}(h:O.Nodup)(l:List Int):(X4e O l).Nodup:=by
 induction l generalizing O with
 | nil=>exact h
 | cons a r ih=>exact ih (QE5 h a)
def X7I(v:Vm)(a:Int):List Int:=(List.range (v.rdH a).p.toNat).map λi:Nat=>(v.ldV (a+1+i):Int)
theorem JjJ(v:Vm)(a:Int):(X7I v a).length=(v.rdH a).p.toNat:=by unfold X7I;simp
theorem YxN(v:Vm)(a:Int){i:Nat}(hi:i<(X7I v a).length):(X7I v a)[i]=(v.ldV (a+1+i):Int):=by simp only[X7I,ψx,List.getElem_range]
def QnE(v:Vm)(rs:List Int):Nat->List Int
 | 0=>X4e [] rs
 | k+1=>if k<(QnE v rs k).length then X4e (QnE v rs k) (X7I v ((QnE v rs k).getD k 0))else QnE v rs k
theorem Zh5(v:Vm)(rs:List Int)(k:Nat):(QnE v rs k).Nodup:=by
 induction k with
 | zero=>exact QBB ξ1 _
 | succ k ih=>unfold QnE;split;exact QBB ih _;exact ih
structure VqE(v v':Vm):Prop where
 n:v'.n=v.n
 pt:v'.pt=v.pt
 pg:v'.pl.pg=v.pl.pg
 rm:v'.pl.rm=v.pl.rm
theorem VqE.refl(v:Vm):VqE v v:=⟨rfl,rfl,rfl,rfl⟩
theorem VqE.trans{a b c:Vm}(h:VqE a b)(k:VqE b c):VqE a c:=⟨k.n.trans h.n,k.pt.trans h.pt,k.pg.trans h.pg,k.rm.trans h.rm⟩
theorem VqE.st(v:Vm)(a:Int)(x:Nat):VqE v (v.st a x):=by
 unfold Vm.st
 split
 ·exact⟨rfl,rfl,rfl,rfl⟩
 ·exact VqE.refl v
theorem VqE.ldE{v v':Vm}(h:VqE v v')(a:Int):v'.ldE a=v.ldE a:=by unfold Vm.ldE;rw[h.n,h.pt,h.pg]
def cpV(u:Vm)(a t:Int):Nat->Vm
 | 0=>u
 | m+1=>(cpV u a t m).st (t+m) (u.ldV (a+m))
theorem Vxj(u:Vm)(a t:Int)(n:Nat):VqE u (cpV u a t n):=by
 induction n with
 | zero=>exact VqE.refl u
 | succ m ih=>exact ih.trans (VqE.st _ _ _)
theorem JdP{u:Vm}(h:ZAR u)(a t:Int)(n:Nat):ZAR (cpV u a t n):=by
 induction n with
 | zero=>exact h
 | succ m ih=>exact ih.st _ (h.ldV_lt _)
theorem Yrt{u:Vm}(h:ZAR u)(a t:Int){n:Nat}(hm:∀m:Nat,m<n->u.ldE (t+m)=0)(b:Int):(cpV u a t n).ldV b=if t<=b/\b<t+n then u.ldV (a+(b-t))else u.ldV b:=by
 induction n with
 | zero=>rw[ϑ Ω];rfl
 | succ m ih=>
  show ((cpV u a t m).st (t+m) (u.ldV (a+m))).ldV b=_
  rw[(JdP h a t m).st_ldV _ (by rw[(Vxj u a t m).ldE];exact hm m (ξr m)),ih (λj hj=>hm j Ω)];by_cases h1:t+(m:Int)=b
  ·rw[μ h1,μ Ω];congr 2;omega
  ·rw[ϑ h1];by_cases h2:t<=b/\b<t+m
   ·rw[μ h2,μ Ω]
   ·rw[ϑ h2,ϑ Ω]
structure ZrG(v:Vm)(rs:List Int)(L:List Ob)(to:Nat):Prop where
 ok:ZAR v
 mks:Zx6 v rs v.n L
 pos:0<to
 ap:∀o∈L,o.1+o.2<=to\/to+sizes L<=o.1
 map:∀a:Nat,to<=a->a<to+sizes L->v.ldE a=0
 top:to+sizes L<=v.n
def Trn(v:Vm)(O:List Int)(k i j m:Nat):Prop:=1<=m/\((j<k/\(m:Int)<=(v.rdH (O.getD j 0)).p)\/(j=k/\m<=i))
structure Cpd(v v':Vm)(to:Nat)(O:List Int)(k i:Nat):Prop where
 ok:ZAR v'
 sm:VqE v v'
 o:∀a:Int,¬(to<=a/\a<to+Xmc v O)->v'.ldV a=v.ldV a
 raw:∀j (hj:j<O.length) (m:Nat),(m:Int)<v.osz O[j]->¬Trn v O k i j m->v'.ldV (to+Xmc v (O.take j)+m)=v.ldV (O[j]+m)
 trn:∀j (hj:j<O.length) (m:Nat),(m:Int)<v.osz O[j]->Trn v O k i j m->(v'.ldV (to+Xmc v (O.take j)+m):Int)=ZQE v O to (v.ldV (O[j]+m))
theorem Cpd.nil{v:Vm}(h:ZAR v)(to:Nat):Cpd v v to [] 0 0:=⟨h,VqE.refl v,λ_ _=>rfl,λ_ h=>absurd h (ζV _),λ_ h=>absurd h (ζV _)⟩
theorem VRK{v:Vm}{a:Int}(h:v.rdE a=0):0<=(v.rdH a).p/\(v.rdH a).p<v.osz a:=by
 obtain⟨-,-,p,f,k,e,hs⟩:=J7F h;unfold Vm.osz;rw[e,show Z3o ⟨p,f,k⟩=1+(p:Int)+f+k from μ (JJj hs)]
 show (0:Int)<=(p:Int)/\(p:Int)<_
 omega
theorem XaN{v:Vm}{L:List Ob}(hz:∀o∈L,(o.2:Int)=v.osz o.1){O:List Int}(hn:O.Nodup)(h:∀a∈O,Hs L a):Xmc v O<=sizes L:=by
 induction L generalizing O with
 | nil=>
  cases O with
  | nil=>exact ξU _
  | cons a r=>obtain⟨o,ho,-⟩:=h a (ζg ..);cases ho
 | cons o r ih=>
  have h1:=ih (λq hq=>hz q (ζo _ hq)) (hn.erase (o.1:Int)) (λa ha=>by
   have hm:=(hn.mem_erase_iff).1 ha;obtain⟨q,hq,e⟩:=h a hm.2;rcases ζH.1 hq with rfl|hq
   ·exact absurd e.symm hm.1
   ·exact⟨q,hq,e⟩)
  have h2:Xmc v O<=Xmc v (O.erase (o.1:Int))+v.osz o.1:=by
   clear ih h1 h hn
   induction O with
   | nil=>have:=QCw v o.1;simp[Xmc];omega
   | cons a s ih=>
    rw[List.erase_cons];by_cases e:a=(o.1:Int)
    ·rw[μ (by simpa using e),e];simp only[Xmc];omega
    ·rw[ϑ (by simpa using e)];simp only[Xmc];omega
  have h3:=hz o (ζg ..);simp only[sizes];omega
theorem VJ9{v:Vm}{L:List Ob}(hz:∀o∈L,(o.2:Int)=v.osz o.1)(hp:L.Pairwise (λo q=>o.1<q.1)){O:List Int}(h:∀o∈L,(o.1:Int)∈O):(sizes L:Int)<=Xmc v O:=by
 induction L generalizing O with
 | nil=>exact YB0 v O
 | cons o r ih=>
  have h1:=ih (O:=O.erase (o.1:Int)) (λq hq=>hz q (ζo _ hq)) (ξg.1 hp).2 (λq hq=>by
   have:=(ξg.1 hp).1 q hq
   exact(List.mem_erase_of_ne Ω).2 (h q (ζo _ hq)))
  have h2:Xmc v (O.erase (o.1:Int))+v.osz o.1<=Xmc v O:=by
   have hm:=h o (ζg ..);clear ih h1 h hp
   induction O with
   | nil=>cases hm
   | cons a s ih=>
    rw[List.erase_cons];by_cases e:a=(o.1:Int)
    ·rw[μ (by simpa using e),e];simp only[Xmc];omega
    ·have:=ih ((ζH.1 hm).resolve_left (λe'=>e e'.symm));rw[ϑ (by simpa using e)];simp only[Xmc];omega
  have h3:=hz o (ζg ..);simp only[sizes];omega
end
section
open Go.RowKit Word
theorem ZbX{v:Vm}{a i:Int}(h:v.ptE a i=0):v.ptV a i=v.ldV (a+1+i)/\v.ldV (a+1+i)<=2147483647/\v.ldE (a+1+i)=0/\v.plE a i 1=0:=by
 have e1:v.ptV a i=v.gtV a i 1:=μ h;unfold Vm.ptE at h
 split at h
 ·rename_i hg;exact absurd h hg
 ·rename_i hg;have hg:=ξl.1 hg
  split at h
  ·cases h
  ·rename_i hm;unfold Vm.gtE at hg
   split at hg
   ·rename_i hp;exact absurd hg hp
   ·rename_i hp;have e2:v.gtV a i 1=v.ldV (a+1+i):=ϑ hp;exact⟨e1.trans e2,by omega,hg,ξl.1 hp⟩
theorem VaX{h:Hdr}{i:Int}(h0:0<=i)(h1:i<h.p)(h2:h.p<Z3o h):Yoq h i=1:=by
 unfold Yoq;rw[μ Ω,μ h1]
theorem Xm6{v:Vm}{a:Int}{i:Nat}(hr:v.rdE a=0)(hi:(i:Int)<(v.rdH a).p)(hl:v.ldE (a+1+i)=0)(hv:v.ldV (a+1+i)<=2147483647):v.ptE a i=0/\v.plE a i 1=0:=by
 have hk:v.plE a i 1=0:=by
  unfold Vm.plE;rw[ϑ Ω,μ (VaX Ω hi (VRK hr).2)]
 refine⟨?_,hk⟩;have hg:v.gtE a i 1=0:=by unfold Vm.gtE;rw[ϑ Ω];exact hl
 unfold Vm.ptE;rw[ϑ Ω];have e2:v.gtV a i 1=v.ldV (a+1+i):=ϑ Ω;rw[e2,ϑ Ω]
def XKC(v:Vm)(L:List Ob):Prop:=∀o∈L,∀m:Nat,m<o.2->v.ldE (o.1+m)=0
section
variable {v v':Vm} {rs:List Int} {L:List Ob} {to:Nat} {O:List Int} {k i:Nat}
theorem ZrG.ob(c:ZrG v rs L to){a:Int}(ha:Rch v rs a):∃o∈L,(o.1:Int)=a/\(o.2:Int)=v.osz a:=by
 obtain⟨o,ho,rfl⟩:=c.mks.all a ha;exact⟨o,ho,rfl,(c.mks.mkd.ats o ho).2.2⟩
theorem ZrG.sum(c:ZrG v rs L to)(hn:O.Nodup)(hR:∀a∈O,Rch v rs a):Xmc v O<=sizes L:=
 XaN (λo ho=>(c.mks.mkd.ats o ho).2.2) hn (λa ha=>c.mks.all a (hR a ha))
theorem ZrG.same(c:ZrG v rs L to)(hf:XKC v L)(hn:O.Nodup)(hR:∀a∈O,Rch v rs a)(h:Cpd v v' to O k i){a:Int}(ha:Rch v rs a):
  0<a/\v'.rdE a=0/\v'.rdH a=v.rdH a/\∀m:Nat,(m:Int)<v.osz a->v'.ldE (a+m)=0/\v'.ldV (a+m)=v.ldV (a+m):=by
 obtain⟨o,ho,rfl,hz⟩:=c.ob ha;have hs:=c.sum hn hR;have hap:=c.ap o ho;have X:=c.mks.sound.rd _ ha;have hp:=QXB X
 have hm:∀m:Nat,(m:Int)<v.osz o.1->v'.ldE (o.1+m)=0/\v'.ldV (o.1+m)=v.ldV (o.1+m):=λm hm=>
  ⟨by rw[h.sm.ldE];exact hf o ho m Ω,h.o _ Ω⟩
 have h0:=hm 0 Ω;rw[show (o.1:Int)+(0:Nat)=o.1 by omega]at h0;refine⟨hp.1,?_,?_,hm⟩
 ·unfold Vm.rdE at X⊢;rw[h0.2,h.sm.ldE];exact X
 ·unfold Vm.rdH;rw[h0.2,h.sm.ldE]
theorem Trn.ext{X:List Int}{j m:Nat}(hj:j<O.length):Trn v (O++X) k i j m↔Trn v O k i j m:=by
 unfold Trn;rw[φ,φ,ζB hj]
theorem JxM(v:Vm){O:List Int}{j j' m m':Nat}(hj:j<O.length)(hj':j' < O.length)(hm:(m:Int)<v.osz O[j])(hm':(m':Int)<v.osz O[j'])(h:Xmc v (O.take j)+m=Xmc v (O.take j')+m'):j=j'/\m=m':=by
 rcases ζW j j' with h1|rfl|h1
 ·have e:=VZm v hj;have:=XCA v O (i:=j+1) (j:=j') Ω;omega
 ·exact⟨rfl,by omega⟩
 ·have e:=VZm v hj';have:=XCA v O (i:=j' + 1) (j:=j) Ω;omega
theorem place_lt(v:Vm){O:List Int}{j m:Nat}(hj:j<O.length)(hm:(m:Int)<v.osz O[j]):Xmc v (O.take j)+m<Xmc v O:=by
 have e:=VZm v hj;have:=ZWV v O (j+1);omega
def XaG(v:Vm)(O:List Int)(k i:Nat):Prop:=∀j (hj:j<O.length) (m:Nat),(m:Int)<v.osz O[j]->Trn v O k i j m->(v.ldV (O[j]+m):Int)=0\/(v.ldV (O[j]+m):Int)∈O
theorem Vqd(v:Vm){O:List Int}(X:List Int)(t:Int){a:Int}(h0:(0:Int)∉O++X)(h:a=0\/a∈O):ZQE v (O++X) t a=ZQE v O t a:=by
 rcases h with rfl|h
 ·rw[YPv v t h0,YPv v t (λh=>h0 (ξh _ h))]
 ·exact YAF v X t h
theorem Cpd.take(c:ZrG v rs L to)(hf:XKC v L)(hn:O.Nodup)(hR:∀a∈O,Rch v rs a)(h:Cpd v v' to O k i)(hK:XaG v O k i)(hk:k<O.length\/(k=O.length/\i=0)){a:Int}(ha:Rch v rs a)(hna:a∉O)(z:Nat)(hz:(z:Int)=v.osz a):
  (∀m:Nat,m<z->v'.ldE (to+Xmc v O+m)=0)/\(to:Int)+Xmc v O+z<=v.n/\Cpd v (cpV v' a (to+Xmc v O) z) to (O++[a]) k i/\XaG v (O++[a]) k i:=by
 have M:(O++[a]).Nodup:=by
  rw[ξu];exact⟨hn,by simp,λx hx y hy e=>hna (by rw[ζs]at hy;rw[<-hy,<-e];exact hx)⟩
 have J:∀b∈O++[a],Rch v rs b:=λb hb=>by
  rcases ζj.1 hb with hb|hb
  ·exact hR b hb
  ·rw[ζs]at hb;rw[hb];exact ha
 have hs:=c.sum M J;have h0s:=YB0 v O;have hsa:Xmc v (O++[a])=Xmc v O+v.osz a:=by rw[J7B];simp[Xmc]
 have Z:∀m:Nat,m<z->v'.ldE (to+Xmc v O+m)=0:=λm hm=>by
  rw[h.sm.ldE];have:=c.map (to+(Xmc v O).toNat+m) Ω Ω;rw[<-this];congr 1;omega
 have htop:=c.top;have U:=(c.same hf hn hR h ha).2.2.2
 have V:(0:Int)∉O++[a]:=λhm=>by
  have:=(QXB (c.mks.sound.rd _ (J 0 hm))).1;omega
 have Y:=Yrt h.ok a (to+Xmc v O) Z;refine⟨Z,by omega,⟨JdP h.ok _ _ _,h.sm.trans (Vxj _ _ _ _),λb hb=>?_,λj hj m hm hT=>?_,λj hj m hm hT=>?_⟩,λj hj m hm hT=>?_⟩
 ·rw[Y,ϑ Ω];exact h.o b Ω
 ·rw[ζk,ζ5]at hj;rcases γ j O.length with X|X
  ·simp only[ζI X]at hm⊢;have hl:=place_lt v X hm;have e1:(O++[a]).take j=O.take j:=by rw[ξk Ω]
   rw[e1,Y,ϑ Ω];exact h.raw j X m hm (λht=>hT ((Trn.ext X).2 ht))
  ·obtain rfl:j=O.length:=Ω
   have e2:(O++[a])[O.length]'(by simp)=a:=by simp
   rw[e2]at hm;have e1:(O++[a]).take O.length=O:=by rw[ξk (π _),ζT]
   rw[e1,Y,μ Ω,e2,show a+((to:Int)+Xmc v O+m-(to+Xmc v O))=a+m by omega];exact(U m hm).2
 ·rw[ζk,ζ5]at hj;rcases γ j O.length with X|X
  ·simp only[ζI X]at hm⊢;have hl:=place_lt v X hm;have e1:(O++[a]).take j=O.take j:=by rw[ξk Ω]
   have ht:=(Trn.ext (i:=i) (m:=m) X).1 hT;rw[e1,Y,ϑ Ω,h.trn j X m hm ht];exact(Vqd v [a] to V (hK j X m hm ht)).symm
  ·obtain rfl:j=O.length:=Ω
   obtain⟨h1,h2|h2⟩:=hT <;> omega
 ·rw[ζk,ζ5]at hj;rcases γ j O.length with X|X
  ·simp only[ζI X]at hm⊢;exact(hK j X m hm ((Trn.ext X).1 hT)).imp id (λh=>ξh _ h)
  ·obtain rfl:j=O.length:=Ω
   obtain⟨h1,h2|h2⟩:=hT <;> omega
theorem Cpd.copy(c:ZrG v rs L to)(hn:O.Nodup)(hR:∀a∈O,Rch v rs a)(h:Cpd v v' to O k i){j:Nat}(hj:j<O.length){t:Int}(ht:t=to+Xmc v (O.take j)):
  v'.rdE t=0/\v'.rdH t=v.rdH O[j]/\(j=k->∀m:Nat,i<=m->(m:Int)<(v.rdH O[j]).p->v'.ptE t m=0/\v'.ptV t m=v.ldV (O[j]+1+m)) ∧
   ∀m:Nat,(m:Int)<(v.rdH O[j]).p->v'.plE t m 1=0/\v'.ldE (t+1+m)=0:=by
 have ha:=hR _ (χ hj);have X:=c.mks.sound.rd _ ha;have hp:=QXB X;have V:=VRK X;have hs:=c.sum hn hR;have h0:=YB0 v (O.take j);have hpos:=c.pos;have htop:=c.top
 have Z:∀m:Nat,(m:Int)<v.osz O[j]->v'.ldE (t+m)=0:=λm hm=>by
  rw[h.sm.ldE];have hl:=place_lt v hj hm;have:=c.map (to+(Xmc v (O.take j)).toNat+m) Ω Ω;rw[<-this];congr 1;omega
 have Y:=h.raw j hj 0 Ω (λhT=>absurd hT.1 Ω);have J:=Z 0 Ω;rw[show t+(0:Nat)=t by omega]at J;rw[show (to:Int)+Xmc v (O.take j)+(0:Nat)=t by omega,show O[j]+(0:Nat)=O[j]by omega]at Y
 have hE:v'.rdE t=0:=by
  have h1:=X;unfold Vm.rdE at h1⊢;rw[ϑ Ω,ϑ Ω,μ J,Y];rw[ϑ Ω,ϑ Ω]at h1
  split at h1
  ·exact h1
  ·rename_i hx;exact absurd h1 hx
 have hH:v'.rdH t=v.rdH O[j]:=by
  have h1:=(J7F X).2.1;unfold Vm.rdH;rw[μ ⟨by omega,J⟩,μ ⟨by omega,h1⟩,Y]
 refine⟨hE,hH,λhjk m hm1 hm2=>?_,λm hm=>?_⟩
 ·have U:((m+1:Nat):Int)<v.osz O[j]:=Ω
  have hr:=h.raw j hj (m+1) U (λhT=>by
   obtain⟨-,h2|h2⟩:=hT <;> omega)
  have hl:=Z (m+1) U;rw[show (to:Int)+Xmc v (O.take j)+(m+1:Nat)=t+1+m by omega,show O[j]+(m+1:Nat)=O[j]+1+m by omega]at hr;rw[show t+((m+1:Nat):Int)=t+1+m by omega]at hl;have M:=ZbX (c.mks.sound.pt _ ha m hm2);have:=Xm6 (v:=v') (a:=t) (i:=m) hE (by rw[hH];exact hm2) hl (by rw[hr];exact M.2.1);refine⟨this.1,?_⟩;rw[(ZbX this.1).1,hr]
 ·have hl:=Z (m+1) Ω;rw[show t+((m+1:Nat):Int)=t+1+m by omega]at hl;refine⟨?_,hl⟩;unfold Vm.plE;rw[ϑ Ω,hH,μ (VaX Ω hm V.2)]
theorem Cpd.set(c:ZrG v rs L to)(hn:O.Nodup)(hR:∀a∈O,Rch v rs a)(h:Cpd v v' to O k i)(hK:XaG v O k i)(hk:k<O.length){t:Int}(ht:t=to+Xmc v (O.take k))(hi:(i:Int)<(v.rdH O[k]).p)
  (hx:(v.ldV (O[k]+1+i):Int)=0\/(v.ldV (O[k]+1+i):Int)∈O) {x:Nat} (hxx:(x:Int)=ZQE v O to (v.ldV (O[k]+1+i))) (hx2:x<18446744073709551616):
  Cpd v (v'.st (t+1+i) x) to O k (i+1)/\XaG v O k (i+1):=by
 have ha:=hR _ (χ hk);have Z:=c.mks.sound.rd _ ha;have hpp:=VRK Z;have hs:=c.sum hn hR;have h0:=YB0 v (O.take k);have hl:=((Cpd.copy c hn hR h hk ht).2.2.2 i hi).2;have X:=h.ok.st_ldV x hl;have hpl:=place_lt v hk (m:=i+1) Ω
 have hT:∀j m:Nat,Trn v O k (i+1) j m↔Trn v O k i j m\/(j=k/\m=i+1):=λj m=>by
  unfold Trn;constructor
  ·rintro⟨h1,h2|h2⟩
   ·exact .inl ⟨h1,.inl h2⟩
   ·rcases γ i m with h3|h3
    ·exact .inr Ω
    ·exact .inl ⟨h1,.inr Ω⟩
  ·rintro(⟨h1,h2|h2⟩|⟨h1,h2⟩)
   ·exact⟨h1,.inl h2⟩
   ·exact⟨h1,.inr Ω⟩
   ·exact⟨by omega,.inr Ω⟩
 refine⟨⟨h.ok.st _ hx2,h.sm.trans (VqE.st _ _ _),λb hb=>?_,λj hj m hm hnT=>?_,λj hj m hm hTT=>?_⟩,λj hj m hm hTT=>?_⟩
 ·rw[X,ϑ Ω];exact h.o b hb
 ·have Y:¬(j=k/\m=i+1):=λe=>hnT ((hT j m).2 (.inr e));rw[X,ϑ (λe=>Y (JxM v hj hk hm (m':=i+1) Ω Ω))];exact h.raw j hj m hm (λh'=>hnT ((hT j m).2 (.inl h')))
 ·by_cases e:j=k/\m=i+1
  ·obtain⟨rfl,rfl⟩:=e;rw[X,μ Ω,show O[j]+((i+1:Nat):Int)=O[j]+1+i by omega];exact hxx
  ·rw[X,ϑ (λe'=>e (JxM v hj hk hm (m':=i+1) Ω Ω))];exact h.trn j hj m hm (((hT j m).1 hTT).resolve_right e)
 ·by_cases e:j=k/\m=i+1
  ·obtain⟨rfl,rfl⟩:=e;rw[show O[j]+((i+1:Nat):Int)=O[j]+1+i by omega];exact hx
  ·exact hK j hj m hm (((hT j m).1 hTT).resolve_right e)
theorem VNh{v:Vm}{O:List Int}{k i:Nat}(hk:k<O.length)(hi:(i:Int)=(v.rdH O[k]).p)(j m:Nat):Trn v O (k+1) 0 j m↔Trn v O k i j m:=by
 unfold Trn;have e:O.getD k 0=O[k]:=by rw[φ,δ hk];rfl
 constructor
 ·rintro⟨h1,h2|h2⟩
  ·rcases γ j k with h3|h3
   ·exact⟨h1,.inl ⟨h3,h2.2⟩⟩
   ·obtain rfl:j=k:=Ω
    rw[e]at h2;exact⟨h1,.inr ⟨rfl,by omega⟩⟩
  ·omega
 ·rintro⟨h1,h2|h2⟩
  ·exact⟨h1,.inl ⟨by omega,h2.2⟩⟩
  ·obtain⟨rfl,h3⟩:=h2;exact⟨h1,.inl ⟨by omega,by rw[e];omega⟩⟩
theorem Cpd.next(h:Cpd v v' to O k i)(hK:XaG v O k i)(hk:k<O.length)(hi:(i:Int)=(v.rdH O[k]).p):Cpd v v' to O (k+1) 0/\XaG v O (k+1) 0:=
 ⟨⟨h.ok,h.sm,h.o,λj hj m hm hT=>h.raw j hj m hm (λh'=>hT ((VNh hk hi j m).2 h')),λj hj m hm hT=>h.trn j hj m hm ((VNh hk hi j m).1 hT)⟩,λj hj m hm hT=>hK j hj m hm ((VNh hk hi j m).1 hT)⟩
theorem VqB(hR:∀a∈O,Rch v rs a){l:List Int}(hl:∀a∈l,a≠0->Rch v rs a):∀a∈X4e O l,Rch v rs a:=λa ha=>by
 rcases Z9b.1 ha with h|⟨h,h0⟩
 ·exact hR a h
 ·exact hl a h h0
theorem JKk(c:ZrG v rs L to){b:Int}(hb:Rch v rs b):∀a∈X7I v b,a≠0->Rch v rs a:=λa ha h0=>by
 obtain⟨i,hi,rfl⟩:=ζt ha;rw[YxN]at h0⊢;rw[JjJ]at hi;have Y:=c.mks.sound.rd _ hb;have hp:=VRK Y;have X:=c.mks.sound.pt _ hb i Ω;have he:=ZbX X;exact hb.step ⟨Y,i,by omega,X,by rw[he.1];omega,by rw[he.1]⟩
theorem V16(c:ZrG v rs L to)(k:Nat):∀a∈QnE v rs k,Rch v rs a:=by
 induction k with
 | zero=>exact VqB (λa h=>by cases h) (λa ha h0=>Rch.root ha h0)
 | succ k ih=>
  unfold QnE
  split
  ·rename_i hk;refine VqB ih (JKk c (ih _ ?_));rw[φ,δ hk];exact χ hk
  ·exact ih
theorem VRh(v:Vm)(rs:List Int)(k:Nat):∃X,QnE v rs (k+1)=QnE v rs k++X:=by
 show ∃X,(if k<(QnE v rs k).length then X4e (QnE v rs k) (X7I v ((QnE v rs k).getD k 0))else QnE v rs k)=QnE v rs k++X
 split
 ·exact XlQ _ _
 ·exact⟨[],(ξ8 _).symm⟩
theorem YFK(v:Vm)(rs:List Int)(k:Nat):∀j,j<k->∀(hj:j<(QnE v rs k).length),∀b∈X7I v (QnE v rs k)[j],b≠0->b∈QnE v rs k:=by
 induction k with
 | zero=>intro j hj;omega
 | succ k ih=>
  intro j hjk hj b hb h0;by_cases Z:k<(QnE v rs k).length
  ·have e:QnE v rs (k+1)=X4e (QnE v rs k) (X7I v ((QnE v rs k).getD k 0)):=by
    show (if _ then _ else _)=_
    rw[μ Z]
   obtain⟨X,hX⟩:=XlQ (QnE v rs k) (X7I v ((QnE v rs k).getD k 0));have Y:j<(QnE v rs k).length:=Ω
   have e1:(QnE v rs (k+1))[j]=(QnE v rs k)[j]:=by
    simp only[e,hX,ζI Y]
   rw[e1]at hb;rw[e];rcases γ j k with h1|h1
   ·exact Z9b.2 (.inl (ih j h1 Y b hb h0))
   ·obtain rfl:j=k:=Ω
    refine Z9b.2 (.inr ⟨?_,h0⟩);rw[φ,δ Y];exact hb
  ·have e:QnE v rs (k+1)=QnE v rs k:=by
    show (if _ then _ else _)=_
    rw[ϑ Z]
   simp only[e]at hj hb⊢;exact ih j Ω hj b hb h0
theorem Zqu(v:Vm)(rs:List Int)(k:Nat):∀r∈rs,r≠0->r∈QnE v rs k:=by
 induction k with
 | zero=>exact λr hr h0=>Z9b.2 (.inr ⟨hr,h0⟩)
 | succ k ih=>
  intro r hr h0;obtain⟨X,hX⟩:=VRh v rs k;rw[hX];exact ξh _ (ih r hr h0)
theorem ZrG.done(c:ZrG v rs L to)(hk:k=(QnE v rs k).length):(∀a,Rch v rs a->a∈QnE v rs k)/\Xmc v (QnE v rs k)=sizes L:=by
 have X:∀a,Rch v rs a->a∈QnE v rs k:=λa ha=>by
  refine(ha (λb=>b∈QnE v rs k/\Rch v rs b) (λr hr h0=>⟨Zqu v rs k r hr h0,Rch.root hr h0⟩) ?_).1;rintro x y ⟨hx,Y⟩ hp;refine⟨?_,Y.step hp⟩;obtain⟨-,i,hi,h0,h1,rfl⟩:=hp;obtain⟨j,hj,rfl⟩:=ζt hx;have he:=ZbX h0;have hpp:=VRK (c.mks.sound.rd _ Y);refine YFK v rs k j Ω hj _ ?_ Ω;rw[he.1];have Z:i<(X7I v (QnE v rs k)[j]).length:=by rw[JjJ];omega
  rw[<-YxN v _ Z];exact χ Z
 refine⟨X,?_⟩;have h1:=c.sum (Zh5 v rs k) (V16 c k);have h2:=VJ9 (v:=v) (λo ho=>(c.mks.mkd.ats o ho).2.2) c.mks.mkd.good.lt (O:=QnE v rs k) (λo ho=>X _ (c.mks.mkd.ats o ho).1);omega
end
end
section
open Go.RowKit Word
structure XHO(v v':Vm):Prop where
 n:v'.n=v.n
 le:∀a:Int,v.ldE a=0->v'.ldE a=0/\v'.ldV a=v.ldV a
theorem Ji4.wider{v v':Vm}{F:List Nat}(h:Ji4 v v' F)(hv:ZAR v):XHO v v':=by
 refine⟨h.n,λa ha=>?_⟩;obtain⟨h0,h1⟩:=Qo9 ha;obtain⟨j,rfl⟩:∃j:Nat,a=j:=⟨a.toNat,by omega⟩;have hj:j<v.n:=Ω
 have hn:¬j/v.pl.pg∈F:=λhm=>by
  rw[hv.ldE_of hj,μ (h.un _ hm).2]at ha;cases ha
 rw[h.ldE hv hj,h.vl j hj,ϑ hn,ϑ hn];exact⟨ha,rfl⟩
theorem XHO.rd{v v':Vm}(h:XHO v v'){a:Int}(hr:v.rdE a=0):v'.rdE a=0/\v'.rdH a=v.rdH a:=by
 obtain⟨h0,h1,-⟩:=J7F hr;obtain⟨e1,e2⟩:=h.le a h1;unfold Vm.rdE at hr⊢;rw[ϑ Ω,ϑ Ω,μ h1]at hr;refine⟨by rw[ϑ Ω,ϑ Ω,μ e1,e2];exact hr,?_⟩;unfold Vm.rdH;rw[μ ⟨h0,e1⟩,μ ⟨h0,h1⟩,e2]
theorem XHO.pt{v v':Vm}(h:XHO v v'){a:Int}{i:Nat}(hr:v.rdE a=0)(hi:(i:Int)<(v.rdH a).p)(hp:v.ptE a i=0):v'.ptE a i=0/\v'.ptV a i=v.ptV a i:=by
 obtain⟨e1,e2⟩:=h.rd hr;have X:=ZbX hp;obtain⟨e3,e4⟩:=h.le _ X.2.2.1;have:=Xm6 (v:=v') (a:=a) (i:=i) e1 (by rw[e2];exact hi) e3 (by rw[e4];exact X.2.1);exact⟨this.1,by rw[(ZbX this.1).1,X.1,e4]⟩
theorem XHO.rch{v v':Vm}(h:XHO v v'){rs:List Int}{n:Nat}(hS:Xd6 v rs n)(a:Int):Rch v' rs a↔Rch v rs a:=by
 constructor
 ·intro ha;refine ha (λb=>Rch v rs b) (λr hr h0=>Rch.root hr h0) ?_;rintro b c hb ⟨-,i,hi,h0,h1,rfl⟩;have X:=hS.rd b hb;rw[(h.rd X).2]at hi;have hp:=h.pt X hi (hS.pt b hb i hi);rw[hp.2]at h1⊢;exact hb.step ⟨X,i,hi,hS.pt b hb i hi,h1,rfl⟩
 ·intro ha;refine(ha (λb=>Rch v' rs b/\Rch v rs b) (λr hr h0=>⟨Rch.root hr h0,Rch.root hr h0⟩) ?_).1;rintro b c ⟨hb,Y⟩ hp;refine⟨?_,Y.step hp⟩;obtain⟨X,i,hi,h0,h1,rfl⟩:=hp;have hp:=h.pt X hi h0;rw[<-hp.2];exact hb.step ⟨(h.rd X).1,i,by rw[(h.rd X).2];exact hi,hp.1,by rw[hp.2];exact h1,rfl⟩
theorem XHO.marks{v v':Vm}(h:XHO v v'){rs:List Int}{n:Nat}{L:List Ob}(hM:Zx6 v rs n L):Zx6 v' rs n L:=by
 have hS:=hM.sound;refine⟨⟨hM.mkd.good,λo ho=>?_⟩,λa ha=>hM.all a ((h.rch hS a).1 ha),λo ho i hi=>?_⟩
 ·obtain⟨h1,h2,h3⟩:=hM.mkd.ats o ho;obtain⟨e1,e2⟩:=h.rd h2;exact⟨(h.rch hS _).2 h1,e1,by rw[h3];unfold Vm.osz;rw[e2]⟩
 ·obtain⟨h1,h2,-⟩:=hM.mkd.ats o ho;rw[(h.rd h2).2]at hi;obtain⟨c1,c2⟩:=hM.cl o ho i hi;have hp:=h.pt h2 hi c1;exact⟨hp.1,λh0=>by rw[hp.2]at h0⊢;exact c2 h0⟩
def umN(v:Vm)(q0:Nat):Nat->Vm
 | 0=>v
 | k+1=>(umN v q0 k).um ((q0+k:Nat):Int)
theorem Jz0(v:Vm)(p:Int):(v.um p).n=v.n/\(v.um p).pl.pg=v.pl.pg/\(v.um p).pl.rm=v.pl.rm/\(v.um p).pt.length=v.pt.length:=by
 unfold Vm.um
 split
 ·exact⟨rfl,rfl,rfl,υ⟩
 ·exact⟨rfl,rfl,rfl,rfl⟩
theorem Jow(v:Vm)(q0 k:Nat):(umN v q0 k).n=v.n/\(umN v q0 k).pl.pg=v.pl.pg/\(umN v q0 k).pl.rm=v.pl.rm/\(umN v q0 k).pt.length=v.pt.length:=by
 induction k with
 | zero=>exact⟨rfl,rfl,rfl,rfl⟩
 | succ k ih=>
  obtain⟨h1,h2,h3,h4⟩:=Jz0 (umN v q0 k) ((q0+k:Nat):Int);exact⟨h1.trans ih.1,h2.trans ih.2.1,h3.trans ih.2.2.1,h4.trans ih.2.2.2⟩
theorem JjA{v:Vm}(h:ZAR v)(q0 k:Nat):ZAR (umN v q0 k):=by
 induction k with
 | zero=>exact h
 | succ k ih=>exact ih.um _
theorem X0U{v:Vm}(h:ZAR v)(q0 k:Nat){a:Nat}(ha:a<v.n):(umN v q0 k).ldE a=if q0<=a/v.pl.pg/\a/v.pl.pg<q0+k then 12 else v.ldE a:=by
 induction k with
 | zero=>rw[ϑ Ω];rfl
 | succ k ih=>
  obtain⟨s1,s2,-,s4⟩:=Jow v q0 k;have X:=JjA h q0 k
  show ((umN v q0 k).um ((q0+k:Nat):Int)).ldE a=_
  by_cases hf:frE (umN v q0 k).pt ((q0+k:Nat):Int)=0
  ·rw[X.um_ldE hf (by rw[s1];exact ha),s2,ih];by_cases e:a/v.pl.pg=q0+k
   ·rw[μ e,μ Ω]
   ·rw[ϑ e];by_cases hx:q0<=a/v.pl.pg/\a/v.pl.pg<q0+k
    ·rw[μ hx,μ Ω]
    ·rw[ϑ hx,ϑ Ω]
  ·rw[V4M hf];by_cases e:a/v.pl.pg=q0+k
   ·have h1:=X.ldE_of (a:=a) (by rw[s1];exact ha);rw[s2,e]at h1;have hl:q0+k<(umN v q0 k).pt.length:=by rw[s4,<-e];exact(h.split ha).1
    rw[VP8 hl]at hf;rw[μ Ω,h1]
    split at hf
    ·rename_i h0;exact μ h0
    ·exact absurd rfl hf
   ·rw[ih];by_cases hx:q0<=a/v.pl.pg/\a/v.pl.pg<q0+k
    ·rw[μ hx,μ Ω]
    ·rw[ϑ hx,ϑ Ω]
theorem VIn{v:Vm}(h:ZAR v)(q0 k:Nat){a:Nat}(ha:a<v.n)(hn:¬(q0<=a/v.pl.pg/\a/v.pl.pg<q0+k)):(umN v q0 k).ldV a=v.ldV a:=by
 induction k with
 | zero=>rfl
 | succ k ih=>
  obtain⟨s1,s2,-,-⟩:=Jow v q0 k;have X:=JjA h q0 k
  show ((umN v q0 k).um ((q0+k:Nat):Int)).ldV a=_
  by_cases hf:frE (umN v q0 k).pt ((q0+k:Nat):Int)=0
  ·rw[X.um_ldV hf (by rw[s1];exact ha) (by rw[s2];omega)];exact ih Ω
  ·rw[V4M hf];exact ih Ω
end
end Go.Proofs.YteihjlcmjecmfaaGreatDoor
