/- Part 4 of what QueueNobody leans on: my own lemmas, merged by shake.py. -/
import Derived.Test.YtggjoonlcjjgkaaGreatDoorQueueNobodyC
import Derived.Laws.BitsAllLaws
import Derived.Laws.Bits64b
namespace Go.Proofs.YtggjoonlcjjgkaaGreatDoor
open _root_.Go.Proofs.Tryz
set_option maxHeartbeats 1600000
set_option maxRecDepth 100000
open Go.RowKit Word
variable{a:Int}{X Y:Int->Prop}{O l rs:List Int}{F:List Nat}{L M:List Ob}{xs:List Value}{R b bm bs c f i j k m n p p0 pg q rm x:Nat}{S S' T:Nat->Prop}{vF:Value}{w w' w1:World}
structure Vm where
 n:Nat
 pl:Pl
 pt:List Nat
variable{u v':Vm}
structure AF(v:Vm):Prop where
 pl:EZ v.pl
 pt:IV v.pt
 n2:v.n<=524288
 np:v.n=v.pt.length*v.pl.pg
 fr:∀p,p<v.pt.length->v.pt.getD p 0≠0->at_ v.pl.tk (v.pt.getD p 0-1)=true
 inj:∀p p',p<v.pt.length->p' < v.pt.length->v.pt.getD p 0≠0->v.pt.getD p 0=v.pt.getD p' 0->p=p'
 us:v.pl.used=nz v.pt
structure AD(w:World)(S:Nat->Prop)(q:Nat)(v:Vm):Prop where
 ok:AF v
 sq:S q
 row:∃S1 S2 b1 b2,Rec w q 135 [pP b1,pP b2,iI v.n]/\CC w S1 b1 v.pl/\C2 w S2 b2 v.pt ∧
  (∀k,S1 k->S k)/\(∀k,S2 k->S k)/\(∀k,S1 k->¬S2 k)/\¬S1 q/\¬S2 q
theorem AD.touch{v:Vm}(h:AD w S q v)(t:AB T w w')(hS:∀k,S k->k<w.heap.size->¬T k):AD w' S q v:=by
 obtain⟨h1,h2,S1,S2,b1,b2,hr,hp,hg,s1,s2,s3,s4,s5⟩:=h;exact⟨h1,h2,S1,S2,b1,b2,hr.touch t (hS _ h2 hr.lt),hp.touch t (λk hk=>hS k (s1 k hk)),hg.touch t (λk hk=>hS k (s2 k hk)),s1,s2,s3,s4,s5⟩
theorem AD.gr{v:Vm}(h:AD w S q v)(t:Gr w w'):AD w' S q v:=h.touch (t.touch (λ_=>False)) (λ_ _ _ h=>h)
theorem AD.mono{v:Vm}(h:AD w S q v)(hT:∀k,S k->T k):AD w T q v:=by
 obtain⟨h1,h2,S1,S2,b1,b2,hr,hp,hg,s1,s2,s3,s4,s5⟩:=h;exact⟨h1,hT _ h2,S1,S2,b1,b2,hr,hp,hg,λk hk=>hT k (s1 k hk),λk hk=>hT k (s2 k hk),s3,s4,s5⟩
def AE(S:Nat->Prop)(w:World)(k:Nat):Prop:=S k/\k<w.heap.size
theorem CC.cut{p:Pl}(h:CC w S q p):CC w (AE S w) q p:=by
 obtain⟨h1,h2,vw,vt,vb,hi,ts,hr,o1,o2,o3,s1,s2,s3⟩:=h;exact⟨h1,⟨h2,hr.lt⟩,vw,vt,vb,hi,ts,hr,o1,o2,o3,λg hg=>⟨s1 g hg,(BF o1 hg).2⟩,λg hg=>⟨s2 g hg,(BF o2 hg).2⟩,λg hg=>⟨s3 g hg,(BF o3 hg).2⟩⟩
theorem C2.cut{pt:List Nat}(h:C2 w S q pt):C2 w (AE S w) q pt:=by
 obtain⟨ok,sq,g,c,L,hr,h1,h2,sg,ho,ht,hd⟩:=h;refine⟨ok,⟨sq,hr.lt⟩,g,c,L,hr,h1,h2,⟨sg,(BF ho rfl).2⟩,ho,λk hk=>?_,hd⟩;have:=ht k hk;cases hl:L.getD k none with
 | none=>grind
 | some b=>rw[hl]at this;exact⟨⟨this.1,this.2.lt⟩,this.2⟩
theorem AD.cut{v:Vm}(h:AD w S q v):AD w (AE S w) q v:=by
 obtain⟨h1,h2,S1,S2,b1,b2,hr,hp,hg,s1,s2,s3,s4,s5⟩:=h;exact⟨h1,⟨h2,hr.lt⟩,AE S1 w,AE S2 w,b1,b2,hr,hp.cut,hg.cut,λk hk=>⟨s1 k hk.1,hk.2⟩,λk hk=>⟨s2 k hk.1,hk.2⟩,λk hk hk2=>s3 k hk.1 hk2.1,λh=>s4 h.1,λh=>s5 h.1⟩
theorem RU{a b c a' b' c':Value}(h1:a=a')(h2:b=b')(h3:c=c'):Ending.returned (.tuple #[a,b,c])=.returned (.tuple #[a',b',c']):=by simp_all
def Vm.ldE(v:Vm)(a:Int):Int:=if 0<=a/\a<v.n then frE v.pt (a/v.pl.pg)else 11
def Vm.at(v:Vm)(a:Int):Nat:=(v.pt.getD (a/v.pl.pg).toNat 0-1)*v.pl.pg+(a%v.pl.pg).toNat
def Vm.ldV(v:Vm)(a:Int):Nat:=if v.ldE a=0 then v.pl.wd.getD (v.at a) 0 else 0
def Vm.st(v:Vm)(a:Int)(x:Nat):Vm:=if v.ldE a=0 then {v with pl:={v.pl with wd:=v.pl.wd.set (v.at a) x}}else v
theorem AF.page{v:Vm}(h:AF v):1<=v.pl.pg/\v.pl.pg<=256:=⟨by have:=DA h.pl.pg;omega,h.pl.pg2⟩
theorem AF.split{v:Vm}(h:AF v){a:Nat}(ha:a<v.n):a/v.pl.pg<v.pt.length/\a%v.pl.pg<v.pl.pg:=by
 have hp:=h.page;refine⟨(ζZ hp.1).2 (by rw[<-h.np];exact ha),ξR _ hp.1⟩
theorem AF.hit{v:Vm}(h0:v.ldE a=0):∃j:Nat,a=j/\j<v.n/\v.pt.getD (j/v.pl.pg) 0≠0:=by
 unfold Vm.ldE at h0
 split at h0
 ·rename_i hr;obtain⟨j,rfl⟩:∃j:Nat,a=j:=⟨a.toNat,by omega⟩;obtain⟨p,hp1,hp2,hp3⟩:=MJ h0;have hpj:p=j/v.pl.pg:=Ω
  grind
 ·cases h0
section
variable{v:Vm}
theorem EV(hV:AD w S q v):cQ 83 #[pP q] w (.bool false):=by
 obtain⟨S1,S2,b1,b2,hr,-⟩:=hV.row;have c0:=hr.cc 0;go_enter func83,ntmps83;go_wp2;go_ret
 simp_all
theorem YU7(w:World):cQ 83 #[.pointer none] w (.bool true):=by
 go_enter func83,ntmps83;go_wp2;go_ret;exact⟨rfl,rfl⟩
def Xy7(w:World)(v:Vm)(a:Int)(e:Ending)(w':World):Prop:=
 Gr w w'/\∃x y:Int,e=.returned (.tuple #[iI x,iI y,iI (v.ldE a)])/\(v.ldE a=0->x=(v.pt.getD (a/v.pl.pg).toNat 0:Nat)-1/\y=a%v.pl.pg)
theorem RA(hV:AD w S q v)(a:Int):Calls prog 203 #[pP q,iI a] w (Xy7 w v a):=by
 have HV:=hV;obtain⟨S1,S2,b1,b2,hr,hp,hg,-⟩:=hV.row;obtain⟨c0,c1,c2,M⟩:=hr.k3;have HP:=hp;have HG:=hg;have V:=hV.ok.page;have hn:=hV.ok.n2;by_cases Y:0<=a/\a<v.n
 ·obtain⟨j,rfl⟩:∃j:Nat,a=j:=⟨a.toNat,by omega⟩;have HE:Hid (v.ldE j=frE v.pt ((j/v.pl.pg:Nat):Int)):=⟨by unfold Vm.ldE;rw[μ Y,ζ8]⟩;have HA:Hid (((j:Int)/(v.pl.pg:Int)).toNat=j/v.pl.pg/\((j%v.pl.pg:Nat):Int)=(j:Int)%(v.pl.pg:Int)):=⟨⟨by rw[<-ζ8,δ],ξK ..⟩⟩;obtain⟨p,X⟩:∃p,p=j/v.pl.pg:=⟨_,rfl⟩;obtain⟨o,Z⟩:∃o,o=j%v.pl.pg:=⟨_,rfl⟩;have q1:((j:Int).tdiv (v.pl.pg:Int))=(p:Int):=by rw[X];rfl
  have q2:((j:Int)/(v.pl.pg:Int))=(p:Int):=by rw[X];rfl
  have q3:((j:Int).tmod (v.pl.pg:Int))=(o:Int):=by rw[Z];rfl
  have q4:((j:Int)%(v.pl.pg:Int))=(o:Int):=by rw[Z];rfl
  have U:(v.pl.pg:Int)≠0:=Ω
  rw[<-X]at HE;rw[<-X,<-Z]at HA;have hp2:p<=524288:=by have:=ζ1 j v.pl.pg;omega
  have ho2:o<=524288:=by have:=Nat.mod_le j v.pl.pg;omega
  have hjI:(j:Int)<(v.n:Int):=Ω
  obtain⟨B,hB⟩:∃B,B=v.pl.pg:=⟨_,rfl⟩;have HB:=ι hB;rw[<-hB]at q1 q2 q3 q4 U V;have d0:decide ((j:Int)<0)=false:=φ Ω;have d1:decide ((v.n:Int)<=(j:Int))=false:=φ Ω;clear hr hp hg hV Y X Z hB;go_enter func203,ntmps203
  go_wp2_with(first
   | (go_at_call 83;refine(EV HV).mono ?_;rintro e w1 ⟨rfl,rfl⟩)
   | (go_at_call 165;refine(RS HP).mono ?_;rintro e w1 ⟨rfl,rfl⟩;rw[<-HB.o]))
  have z1:∀xs m,(grow w xs m).cell? ⟨q,1,none⟩=some (pP b2):=λxs m=>((grown w xs m).cell M 1).trans c1;refine IN (by kernel_rfl) (by kernel_rfl) ?_
  repeat(go_big_quiet_step ((go_at_call 198;have hc:=λxs m=>J1 (HG.gr (grown w xs m)) (p:Int);exact A2.grown (hc _ _))))
  refine ψ ?_;intro _ N;obtain⟨⟨xs,nq⟩,J⟩:=N;subst J;go_wp2;go_quiet (fail);go_wp2
  go_ret3
  refine⟨(grown w _ _).drewN _,_,_,RU rfl rfl (BH HE.o.symm),λh0=>?_⟩;rw[HE.o]at h0;rw[HA.o.1,<-HA.o.2];refine⟨?_,rfl⟩;unfold frV;rw[μ h0,δ]
 ·have E:v.ldE a=11:=by unfold Vm.ldE;rw[ϑ Y]
  have HE:=ι E;rcases(by omega:a<0\/(0<=a/\(v.n:Int)<=a))with h|h
  ·have d0:decide (a<0)=true:=κ h;clear hr hp hg hV Y E h;go_enter func203,ntmps203;go_wp2_with(go_at_call 83;refine(EV HV).mono ?_;rintro e w1 ⟨rfl,rfl⟩)
   go_ret3
   exact⟨Gr.refl w,_,_,RU rfl rfl (BH HE.o.symm),λh0=>by rw[HE.o]at h0;exact absurd h0 (by decide)⟩
  ·have d0:decide (a<0)=false:=φ Ω;have d1:decide ((v.n:Int)<=a)=true:=κ h.2;clear hr hp hg hV Y E h;go_enter func203,ntmps203;go_wp2_with(go_at_call 83;refine(EV HV).mono ?_;rintro e w1 ⟨rfl,rfl⟩)
   go_ret3
   exact⟨Gr.refl w,_,_,RU rfl rfl (BH HE.o.symm),λh0=>by rw[HE.o]at h0;exact absurd h0 (by decide)⟩
theorem ViR(hok:AF v){x y:Int}(h0:v.ldE a=0)(hx:x=(v.pt.getD (a/v.pl.pg).toNat 0:Nat)-1)(hy:y=a%v.pl.pg):C1 v.pl x y=0/\x.toNat*v.pl.pg+y.toNat=v.at a:=by
 obtain⟨j,rfl,hj,X⟩:=AF.hit h0;obtain⟨h1,h2⟩:=hok.split hj;have hf:=hok.fr _ h1 X;have e1:((j:Int)/(v.pl.pg:Int)).toNat=j/v.pl.pg:=by grind
 have e2:(j:Int)%(v.pl.pg:Int)=((j%v.pl.pg:Nat):Int):=(ξK ..).symm;rw[e1]at hx;rw[e2]at hy;have hx1:0<=x:=Ω
 have hx2:x.toNat=v.pt.getD (j/v.pl.pg) 0-1:=Ω
 have hc:DQ v.pl x=0:=by unfold DQ;grind
 refine⟨?_,?_⟩
 ·unfold C1;omega
 ·unfold Vm.at
  grind
theorem LQ(hV:AD w S q v)(a:Int):Calls prog 190 #[pP q,iI a] w λe w'=>e=.returned (.tuple #[uU (v.ldV a:Nat),iI (v.ldE a)])/\Gr w w':=by
 have HV:=hV;obtain⟨S1,S2,b1,b2,hr,hp,hg,-⟩:=hV.row;have V:=hr.lt;have c0:=hr.cc 0;have HP:=hp;by_cases h0:v.ldE a=0
 ·have HE:=h0
  have HW:Hid (∀x y:Int,x=(v.pt.getD (a/v.pl.pg).toNat 0:Nat)-1->y=a%v.pl.pg->C1 v.pl x y=0/\JV v.pl x y=v.ldV a):=⟨λx y hx hy=>by
   obtain⟨h1,h2⟩:=ViR hV.ok h0 hx hy;refine⟨h1,?_⟩;unfold JV Vm.ldV
   rw[μ h1,μ h0,h2]⟩
  go_enter func190,ntmps190
  go_wp2_with(first
   | (go_at_call 203;refine(RA HV a).mono ?_;rintro e w1 ⟨X,x,y,rfl,Z⟩;have J:=ι (HW.o x y (Z HE).1 (Z HE).2);rw[HE];have k0:=(X.cell V 0).trans c0;have Y:=X;clear X Z)
   | (go_at_call 218;refine(Xn2 (HP.gr Y) x y).mono ?_;rintro e w2 ⟨rfl,rfl⟩))
  go_ret2;exact⟨BE (congrArg (λn:Nat=>uU (n:Int)) J.o.2) (BH (by rw[J.o.1,HE])),Y⟩
 ·have U:Hid (v.ldV a=0):=⟨by unfold Vm.ldV;rw[ϑ h0]⟩;obtain⟨x,hx⟩:∃x,x=v.ldE a:=⟨_,rfl⟩;have HX:=ι hx;have d0:(x==0)=false:=by rw[hx];simpa using h0
  clear hr hp hg hV h0 hx;go_enter func190,ntmps190;go_wp2_with(go_at_call 203;refine(RA HV a).mono ?_;rintro e w1 ⟨X,x1,y1,rfl,-⟩;rw[<-HX.o];have Y:=X);go_ret2;exact⟨BE (by rw[U.o];rfl) (BH (by rw[HX.o])),Y⟩
def Zfu(w:World)(S:Nat->Prop)(q:Nat)(v:Vm)(a:Int)(x:Nat)(w':World):Prop:=AB S w w'/\AD w' S q (v.st a x)
theorem AF.st(h:AF v)(a:Int)(hx:x<18446744073709551616):AF (v.st a x):=by
 unfold Vm.st
 split
 ·exact⟨Y2 h.pl _ _ hx,h.pt,h.n2,h.np,h.fr,h.inj,h.us⟩
 ·exact h
theorem J3(hV:AD w S q v)(a:Int)(hx:x<18446744073709551616):Calls prog 169 #[pP q,iI a,uU x] w λe w'=>e=.returned (iI (v.ldE a))/\Zfu w S q v a x w':=by
 have HV:=hV;obtain⟨S1,S2,b1,b2,hr,hp,hg,s1,s2,s3,s4,s5⟩:=hV.row;have M:=hr.lt;have c0:=hr.cc 0;have HP:=hp;have U:=(hV.ok.st a hx);have hX:=hx;by_cases h0:v.ldE a=0
 ·have HE:=h0;have HS:Hid (v.st a x={v with pl:={v.pl with wd:=v.pl.wd.set (v.at a) x}}):=⟨by unfold Vm.st;rw[μ h0]⟩
  have HW:Hid (∀y z:Int,y=(v.pt.getD (a/v.pl.pg).toNat 0:Nat)-1->z=a%v.pl.pg->C1 v.pl y z=0/\J4 v.pl y z x={v.pl with wd:=v.pl.wd.set (v.at a) x}):=⟨λy z hy hz=>by
   obtain⟨h1,h2⟩:=ViR hV.ok h0 hy hz;refine⟨h1,?_⟩;unfold J4
   rw[μ h1,h2]⟩
  have HK:Hid (∀(w1:World),Gr w w1->∀w2,AB S1 w1 w2->CC w2 S1 b1 {v.pl with wd:=v.pl.wd.set (v.at a) x}->Zfu w S q v a x w2):=⟨λw1 g1 w2 t2 p2=>by
   have T:AB S1 w w2:=(g1.touch S1).trans t2;refine⟨T.mono (λk _ hk=>s1 k hk),U,hV.sq,S1,S2,b1,b2,?_,?_,?_,s1,s2,s3,s4,s5⟩
   ·rw[HS.o];exact hr.touch T s4
   ·rw[HS.o];exact p2
   ·rw[HS.o];exact hg.touch T (λk hk _ hk2=>s3 k hk2 hk)⟩
  go_enter func169,ntmps169
  go_wp2_with(first
   | (go_at_call 203;refine(RA HV a).mono ?_;rintro e w1 ⟨Y,y,z,rfl,Z⟩;have J:=ι (HW.o y z (Z HE).1 (Z HE).2);rw[HE];have k0:=(Y.cell M 0).trans c0;have X:=Y;clear Y Z)
   | (go_at_call 204;refine(YBJ (HP.gr X) y z x hX).mono ?_;rintro e w2 ⟨rfl,N,V⟩;have I:=N;have E:=V))
  go_ret;refine⟨AL (by rw[J.o.1,HE]),HK.o _ X _ I ?_⟩;rw[<-J.o.2];exact E
 ·have HS:Hid (v.st a x=v):=⟨by unfold Vm.st;rw[ϑ h0]⟩;obtain⟨y,hy⟩:∃y,y=v.ldE a:=⟨_,rfl⟩;have HX:=ι hy;have d0:(y==0)=false:=by rw[hy];simpa using h0
  clear hr hp hg hV h0 hx hy;go_enter func169,ntmps169;go_wp2_with(go_at_call 203;refine(RA HV a).mono ?_;rintro e w1 ⟨Y,x1,y1,rfl,-⟩;rw[<-HX.o];have X:=Y);go_ret;exact⟨AL (by rw[HX.o]),X.touch S,by rw[HS.o];exact HV.gr X⟩
end
def Vm.mpE(v:Vm)(p:Int):Int:=if pgE v.pt p≠0 then 11 else if v.pt.getD p.toNat 0≠0 then 13 else if v.pl.used=v.pl.rm then 14 else 0
def Vm.mp(v:Vm)(p:Int):Vm:=if v.mpE p=0 then {v with pl:=v.pl.take,pt:=v.pt.set p.toNat (v.pl.next+1)}else v
def Vm.um(v:Vm)(p:Int):Vm:=if frE v.pt p=0 then {v with pl:=v.pl.give (v.pt.getD p.toNat 0-1),pt:=v.pt.set p.toNat 0}else v
theorem YMb{p:Pl}(h:at_ p.tk f=true):at_ p.fresh.tk f=true:=by
 unfold Pl.fresh
 split
 ·have:=FN h;unfold at_ at h⊢
  grind
 ·exact h
theorem Xiq(l:List Bool)(hi:i<l.length)(x:Bool)(j:Nat):at_ (l.set i x) j=if i=j then x else at_ l j:=by
 unfold at_
 grind
theorem QGm{p:Pl}(h:EZ p)(f:Nat):at_ p.take.tk f=if p.next=f then true else at_ p.fresh.tk f:=Xiq _ (JI h).1 _ _
theorem T0{p:Pl}(h:EZ p)(hf:at_ p.tk f=true):f≠p.next:=by
 rintro rfl;have h1:=(JI h).2.2
 grind [YMb]
theorem AF.frame{v:Vm}(h:AF v)(hp:v.pt.getD p 0≠0):at_ v.pl.tk (v.pt.getD p 0-1)=true:=by
 by_cases hl:p<v.pt.length
 ·exact h.fr p hl hp
 simp_all
theorem AF.mp{v:Vm}(h:AF v)(p:Int):AF (v.mp p):=by
 unfold Vm.mp
 split
 ·rename_i h0;unfold Vm.mpE at h0;by_cases h1:pgE v.pt p≠0
  ·rw[μ h1]at h0;cases h0
  ·rw[ϑ h1]at h0;by_cases h2:v.pt.getD p.toNat 0≠0
   ·rw[μ h2]at h0;cases h0
   ·rw[ϑ h2]at h0;have J:v.pt.getD p.toNat 0=0:=ξQ.1 h2;by_cases h3:v.pl.used=v.pl.rm
    ·rw[μ h3]at h0;cases h0
    ·obtain⟨j,rfl,hj⟩:=O7 (ξQ.1 h1);rw[δ]at J⊢;have hn:=JI h.pl;have hle:=NI h.pl;have Y:=Q1 h.pl Ω;have hlen:v.pl.fresh.tk.length=v.pl.take.tk.length:=by exact List.length_set.symm
     have hn2:v.pl.next<4096:=by have:=Y.le;have:=Y.rm;omega
     refine⟨Y,h.pt.set j Ω,h.n2,?_,λi hi X=>?_,λi i' hi Z X he=>?_,?_⟩
     ·rw[η];have:v.pl.take.pg=v.pl.pg:=(MB v.pl).1;rw[this];exact h.np
     ·rw[EF hj,QGm h.pl];by_cases e:j=i
      ·rw[μ e,μ Ω]
      ·rw[ϑ e]
       split
       ·rfl
       ·refine YMb (h.frame ?_);have:(v.pt.set j (v.pl.next+1)).getD i 0≠0:=X;rw[EF hj,ϑ e]at this;exact this
     ·have X:(v.pt.set j (v.pl.next+1)).getD i 0≠0:=X;have he:(v.pt.set j (v.pl.next+1)).getD i 0=(v.pt.set j (v.pl.next+1)).getD i' 0:=he;have hi:i<v.pt.length:=by have:i<(v.pt.set j (v.pl.next+1)).length:=hi;rwa [η]at this
      have Z:i' < v.pt.length:=by have:i' < (v.pt.set j (v.pl.next+1)).length:=Z;rwa [η]at this
      rw[EF hj]at X he;rw[EF hj]at he;by_cases e:j=i <;> by_cases e':j=i'
      ·rw[<-e,e']
      ·rw[μ e,ϑ e']at he;have:=T0 h.pl (h.frame (p:=i') Ω);omega
      ·rw[ϑ e,μ e']at he;have:=T0 h.pl (h.frame (p:=i) Ω);omega
      ·rw[ϑ e]at X he;rw[ϑ e']at he;exact h.inj i i' hi Z X he
     ·rw[UD h.pl,OK hj J Ω,h.us]
 ·exact h
theorem AF.um{v:Vm}(h:AF v)(p:Int):AF (v.um p):=by
 unfold Vm.um
 split
 ·rename_i h0;obtain⟨j,rfl,hj,X⟩:=MJ h0;rw[δ];have hf:=h.fr j hj X;refine⟨YK h.pl hf,h.pt.set j Ω,h.n2,?_,λi hi hn=>?_,λi i' hi Y hn he=>?_,?_⟩
  ·rw[η];exact h.np
  ·have hi:i<v.pt.length:=by simp_all
   have hn:(v.pt.set j 0).getD i 0≠0:=hn
   show at_ (v.pl.tk.set _ false) ((v.pt.set j 0).getD i 0-1)=true
   rw[EF hj]at hn⊢;by_cases e:j=i
   ·simp_all
   ·rw[ϑ e]at hn⊢;rw[Xiq _ (FN hf),ϑ,h.fr i hi hn];intro e2;exact e (h.inj j i hj hi X Ω)
  ·have hi:i<v.pt.length:=by simp_all
   have Y:i' < v.pt.length:=by simp_all
   have hn:(v.pt.set j 0).getD i 0≠0:=hn;have he:(v.pt.set j 0).getD i 0=(v.pt.set j 0).getD i' 0:=he;rw[EF hj]at hn he;rw[EF hj]at he;by_cases e:j=i
   ·simp_all
   ·rw[ϑ e]at hn he;by_cases e':j=i'
    ·simp_all
    ·rw[ϑ e']at he;exact h.inj i i' hi Y hn he
  ·show (v.pl.give _).used=nz (v.pt.set j 0)
   have h1:=NV (p:=v.pl) hf;have h2:=UJ hj X;have:=h.us;omega
 ·exact h
theorem AF.place_lt{v:Vm}(h:AF v)(h0:v.ldE a=0):v.at a<v.pl.wd.length:=by
 obtain⟨j,rfl,hj,X⟩:=AF.hit h0;obtain⟨h1,h2⟩:=h.split hj;have hf:=FN (h.fr _ h1 X);unfold Vm.at;rw[<-ζ8,δ,<-ξK,δ,h.pl.wl];have:(v.pt.getD (j/v.pl.pg) 0-1+1)*v.pl.pg<=v.pl.tk.length*v.pl.pg:=ζj _ hf
 grind
theorem XfE{g o f' o':Nat}(h1:o<g)(h2:o' < g)(h:f*g+o=f' * g+o'):f=f'/\o=o':=by
 have e1:(f*g+o)/g=f:=by rw[ζT,Nat.mul_add_div Ω,ψf h1,ξo]
 have e2:(f' * g+o')/g=f':=by rw[ζT,Nat.mul_add_div Ω,ψf h2,ξo]
 simp_all
theorem AF.at_inj{v:Vm}(h:AF v){b:Int}(ha:v.ldE a=0)(hb:v.ldE b=0)(he:v.at a=v.at b):a=b:=by
 obtain⟨j,rfl,hj,X⟩:=AF.hit ha;obtain⟨i,rfl,hi,hne'⟩:=AF.hit hb;obtain⟨h1,h2⟩:=h.split hj;obtain⟨h3,h4⟩:=h.split hi;unfold Vm.at at he;rw[<-ζ8,δ,<-ξK,δ,<-ζ8,δ,<-ξK,δ]at he;obtain⟨e1,e2⟩:=XfE h2 h4 he;have e3:=h.inj _ _ h1 h3 X Ω
 grind [ζv]
theorem FB(v:Vm)(a:Int)(x:Nat)(b:Int):(v.st a x).ldE b=v.ldE b:=by unfold Vm.st;split <;> rfl
theorem AF.st_ldV{v:Vm}(h:AF v)(x:Nat)(ha:v.ldE a=0)(b:Int):(v.st a x).ldV b=if a=b then x else v.ldV b:=by
 have e1:v.st a x={v with pl:={v.pl with wd:=v.pl.wd.set (v.at a) x}}:=μ ha;have e2:(v.st a x).at b=v.at b:=by rw[e1];rfl
 have e3:(v.st a x).pl.wd=v.pl.wd.set (v.at a) x:=by rw[e1]
 unfold Vm.ldV;rw[FB,e2,e3];by_cases hb:v.ldE b=0
 ·rw[μ hb,μ hb,EF (h.place_lt ha)];by_cases e:a=b
  ·simp_all
  ·rw[ϑ e,ϑ (λhe=>e (h.at_inj ha hb he))]
 grind
theorem TA{v:Vm}{p:Int}(h:v.mpE p≠0):v.mp p=v:=ϑ h
theorem PQ{v:Vm}{p:Int}(h:frE v.pt p≠0):v.um p=v:=ϑ h
theorem PA{v:Vm}{p:Int}(h:v.mpE p=0):∃j:Nat,p=j/\j<v.pt.length/\v.pt.getD j 0=0/\v.pl.used≠v.pl.rm:=by
 unfold Vm.mpE at h
 grind [O7]
theorem LP{pt:List Nat}(h:p<pt.length):frE pt p=if pt.getD p 0=0 then 12 else 0:=by
 unfold frE pgE
 simp_all
theorem AF.ldE_of{v:Vm}(h:AF v){a:Nat}(ha:a<v.n):v.ldE a=if v.pt.getD (a/v.pl.pg) 0=0 then 12 else 0:=by
 unfold Vm.ldE;rw[μ ⟨by omega,by omega⟩,<-ζ8,LP (h.split ha).1]
theorem AF.mp_ldE{v:Vm}(h:AF v)(hp:v.mpE p=0){a:Nat}(ha:a<v.n):(v.mp p).ldE a=if a/v.pl.pg=p then 0 else v.ldE a:=by
 have e1:v.mp p={v with pl:=v.pl.take,pt:=v.pt.set p (v.pl.next+1)}:=by unfold Vm.mp;simp_all
 obtain⟨j,hj,X,-,-⟩:=PA hp;obtain rfl:p=j:=Ω
 have h1:=(h.mp p).ldE_of (a:=a) (by simp_all);have e2:(v.mp p).pl.pg=v.pl.pg:=by rw[e1];exact(MB v.pl).1
 have e3:(v.mp p).pt=v.pt.set p (v.pl.next+1):=by rw[e1]
 rw[h1,e2,e3,EF X,h.ldE_of ha]
 grind
theorem AF.mp_ldV{v:Vm}(h:AF v)(hp:v.mpE p=0){a:Nat}(ha:a<v.n):(v.mp p).ldV a=if a/v.pl.pg=p then 0 else v.ldV a:=by
 have e1:v.mp p={v with pl:=v.pl.take,pt:=v.pt.set p (v.pl.next+1)}:=by unfold Vm.mp;rw[μ hp,δ]
 obtain⟨j,hj,U,-,-⟩:=PA hp;obtain rfl:p=j:=Ω
 have hE:=h.mp_ldE hp ha;obtain⟨n1,n2,n3⟩:=JI h.pl;have hf:v.pl.next*v.pl.pg+v.pl.pg<=v.pl.fresh.wd.length:=by rw[n2,<-ξj];exact ζj _ n1
 have e2:(v.mp p).pl.pg=v.pl.pg:=by rw[e1];exact(MB v.pl).1
 have e3:(v.mp p).pt=v.pt.set p (v.pl.next+1):=by rw[e1]
 have e4:(v.mp p).pl.wd=F7 v.pl.fresh.wd (v.pl.next*v.pl.pg) v.pl.pg:=by rw[e1];rfl
 obtain⟨s1,s2⟩:=h.split ha
 have e5:(v.mp p).at a=((v.pt.set p (v.pl.next+1)).getD (a/v.pl.pg) 0-1)*v.pl.pg+a%v.pl.pg:=by
  unfold Vm.at;rw[e2,e3,<-ζ8,δ,<-ξK,δ]
 unfold Vm.ldV;rw[hE,e4,e5,EF U];by_cases e:a/v.pl.pg=p
 ·rw[μ e,μ e,μ rfl,μ e.symm,YMA hf,μ ⟨by simp,by rw[Nat.add_sub_cancel];omega⟩]
 ·have en:¬p=a/v.pl.pg:=λh=>e h.symm;rw[ϑ e,ϑ e,ϑ en];by_cases h0:v.ldE a=0
  ·rw[μ h0,μ h0];obtain⟨j',hj',hj2,Z⟩:=AF.hit h0;obtain rfl:a=j':=Ω
   have Y:=h.fr _ s1 Z;have hnx:=T0 h.pl Y
   have J:v.at a=(v.pt.getD (a/v.pl.pg) 0-1)*v.pl.pg+a%v.pl.pg:=by
    unfold Vm.at;rw[<-ζ8,δ,<-ξK,δ]
   have X:=h.place_lt h0;rw[J]at X⊢;rw[YMA hf,ϑ]
   ·unfold Pl.fresh
    split
    ·generalize (v.pt.getD (a/v.pl.pg) 0-1)*v.pl.pg+a%v.pl.pg=i at X;simp only[ω];rw[ζU X]
    ·rfl
   ·rintro⟨c1,c2⟩;generalize v.pt.getD (a/v.pl.pg) 0-1=f at *
    rcases χ f v.pl.next with hl|hl
    ·have:(f+1)*v.pl.pg<=v.pl.next*v.pl.pg:=ζj _ hl
     rw[ξj]at this;omega
    ·have:(v.pl.next+1)*v.pl.pg<=f*v.pl.pg:=ζj _ Ω;rw[ξj]at this;omega
  ·rw[ϑ h0,ϑ h0]
theorem AF.um_ldE{v:Vm}(h:AF v)(hp:frE v.pt p=0){a:Nat}(ha:a<v.n):(v.um p).ldE a=if a/v.pl.pg=p then 12 else v.ldE a:=by
 have e1:v.um p={v with pl:=v.pl.give (v.pt.getD p 0-1),pt:=v.pt.set p 0}:=by unfold Vm.um;simp_all
 obtain⟨j,hj,X,-⟩:=MJ hp;obtain rfl:p=j:=Ω
 have h1:=(h.um p).ldE_of (a:=a) (by simp_all);have e2:(v.um p).pl.pg=v.pl.pg:=by rw[e1];rfl
 have e3:(v.um p).pt=v.pt.set p 0:=by rw[e1]
 rw[h1,e2,e3,EF X,h.ldE_of ha]
 grind
theorem AF.um_ldV{v:Vm}(h:AF v)(hp:frE v.pt p=0){a:Nat}(ha:a<v.n)(hne:a/v.pl.pg≠p):(v.um p).ldV a=v.ldV a:=by
 have e1:v.um p={v with pl:=v.pl.give (v.pt.getD p 0-1),pt:=v.pt.set p 0}:=by unfold Vm.um;simp_all
 obtain⟨j,hj,X,-⟩:=MJ hp;obtain rfl:p=j:=Ω
 have hE:=h.um_ldE hp ha;rw[ϑ hne]at hE
 have e5:(v.um p).at a=v.at a:=by
  rw[e1]
  show ((v.pt.set p 0).getD ((a:Int)/(v.pl.pg:Int)).toNat 0-1)*v.pl.pg+_=_
  rw[<-ζ8,δ,EF X,ϑ (show ¬p=a/v.pl.pg from λh=>hne h.symm)];rfl
 unfold Vm.ldV;rw[hE,e5,e1];rfl
def VD(w:World)(S:Nat->Prop)(q:Nat)(v:Vm)(w':World):Prop:=AB S w w'/\AD w' (plus S w) q v
section
variable{v:Vm}
theorem ZXj(v:Vm)(p:Int):(frE v.pt p=11/\v.mpE p=11)\/(frE v.pt p=0/\v.mpE p=13)\/(frE v.pt p=12/\v.pl.used=v.pl.rm/\v.mpE p=14)\/(frE v.pt p=12/\v.pl.used≠v.pl.rm/\v.mpE p=0):=by
 have e1:frE v.pt p=if pgE v.pt p=0 then (if v.pt.getD p.toNat 0=0 then 12 else 0)else 11:=rfl
 have e2:v.mpE p=if pgE v.pt p≠0 then 11 else if v.pt.getD p.toNat 0≠0 then 13 else if v.pl.used=v.pl.rm then 14 else 0:=rfl
 rw[e1,e2];by_cases h:pgE v.pt p=0
 ·have h':¬pgE v.pt p≠0:=λh'=>h' h
  grind
 simp_all
theorem VK(hV:AD w S q v)(p:Int):Calls prog 166 #[pP q,iI p] w λe w'=>e=.returned (iI (v.mpE p))/\VD w S q (v.mp p) w':=by
 have HV:=hV;obtain⟨S1,S2,b1,b2,hr,hp,hg,s1,s2,s3,s4,s5⟩:=hV.row;have U:=hr.lt;have c0:=hr.cc 0;have c1:=hr.cc 1;have HP:=hp;have HG:=hg
 have HN:Hid (v.mpE p≠0->∀w',Gr w w'->VD w S q (v.mp p) w'):=⟨λh w' g=>by
  rw[TA h]
  exact⟨g.touch S,(hV.gr g).mono (λk hk=>.inl hk)⟩⟩
 have HR:=hr;have HS:=(θ s1 (θ s2 (θ s3 (θ s4 s5))));rcases ZXj v p with⟨h1,h2⟩|⟨h1,h2⟩|⟨h1,h2,h3⟩|⟨h1,h2,h3⟩
 ·have HE:=(θ h1 h2);clear hV hr hp hg s1 s2 s3 s4 s5 h1 h2;go_enter func166,ntmps166
  go_wp2_with(first
   | (go_at_call 83;refine(EV HV).mono ?_;rintro e w1 ⟨rfl,rfl⟩)
   | (go_at_call 198;refine(J1 HG p).mono ?_;rintro e w1 ⟨rfl,Y⟩;rw[HE.1];have X:=Y;clear Y))
  go_ret;exact⟨AL (by rw[HE.2]),HN.o (by rw[HE.2];decide) _ X⟩
 ·have HE:=(θ h1 h2);clear hV hr hp hg s1 s2 s3 s4 s5 h1 h2;go_enter func166,ntmps166
  go_wp2_with(first
   | (go_at_call 83;refine(EV HV).mono ?_;rintro e w1 ⟨rfl,rfl⟩)
   | (go_at_call 198;refine(J1 HG p).mono ?_;rintro e w1 ⟨rfl,Y⟩;rw[HE.1];have X:=Y;clear Y))
  go_ret;exact⟨AL (by rw[HE.2]),HN.o (by rw[HE.2];decide) _ X⟩
 ·have HE:=(θ h1 (θ h2 h3));clear hV hr hp hg s1 s2 s3 s4 s5 h1 h2 h3;go_enter func166,ntmps166
  go_wp2_with(first
   | (go_at_call 83;refine(EV HV).mono ?_;rintro e w1 ⟨rfl,rfl⟩)
   | (go_at_call 198;refine(J1 HG p).mono ?_;rintro e w1 ⟨rfl,Y⟩;rw[HE.1];have k0:=(Y.cell U 0).trans c0;have X:=Y;clear Y)
   | (go_at_call 199;refine(XR (HP.gr X)).mono ?_;rintro e w2 (⟨-,rfl,B⟩|⟨h,-⟩);rotate_left;(exact absurd HE.2.1 Ω);have Xe:=B;clear B))
  go_ret;exact⟨AL (by rw[HE.2.2]),HN.o (by rw[HE.2.2];decide) _ (X.trans Xe)⟩
 ·obtain⟨j,rfl,hj,h0,-⟩:=PA h3;have HE:=(θ h1 (θ h2 h3))
  have I:v.pl.next<4096:=by
   have hle:=NI hV.ok.pl;have E:=Q1 hV.ok.pl Ω;have hn:=JI hV.ok.pl;have hlen:v.pl.fresh.tk.length=v.pl.take.tk.length:=by unfold Pl.take;exact List.length_set.symm
   have:=E.le;have:=E.rm;omega
  have HM:=(show v.mp j={v with pl:=v.pl.take,pt:=v.pt.set j (v.pl.next+1)}by unfold Vm.mp;rw[μ h3,δ]);have Xd:=(λ(w1 w2:World) (g1:Gr w w1) (t2:AB S1 w1 w2)=>YTd (((hg.gr g1).cut).touch t2 (λk hk _ hk2=>s3 k hk2 hk.1)) hj h0 I);have G:=(hV.ok.mp j);obtain⟨nx,Z⟩:∃nx,nx=v.pl.next:=⟨_,rfl⟩
  have M:=ι Z;rw[<-Z]at I;have Xf:=ι c1;clear hV hr hp hg s1 s2 s3 h1 h2 h3 Z h0;go_enter func166,ntmps166
  go_wp2_with(first
   | (go_at_call 83;refine(EV HV).mono ?_;rintro e w1 ⟨rfl,rfl⟩)
   | (go_at_call 198;refine(J1 HG j).mono ?_;rintro e w1 ⟨rfl,Y⟩;rw[HE.1];have k0:=(Y.cell U 0).trans c0;have X:=Y;clear Y)
   | (go_at_call 199;refine(XR (HP.gr X)).mono ?_;rintro e w2 (⟨h,-⟩|⟨-,rfl,V,A⟩);(exact absurd h HE.2.1);rw[<-M.o];have k1:=(V.cell (υ U X.size) s4 1).trans ((X.cell U 1).trans Xf.o);have J:=ι V;have Xc:=ι A;clear V A)
   | (go_at_call 200;have N:=Xd _ _ X J.o;rw[<-M.o]at N;refine N.mono ?_;rintro e w3 ⟨rfl,D⟩;have Xb:=ι D;clear D N))
  go_ret;refine⟨AL (by rw[HE.2.2]),?_⟩;obtain⟨s1,s2,s3,s4,s5⟩:=HS;obtain⟨t3,p3⟩:=Xb.o;have Xa:AB S w w2:=(X.touch S).trans (J.o.mono (λk _ hk=>s1 k hk));have z1:=X.size;have z2:=J.o.size;refine⟨Xa.trans (t3.mono (λk _ hk=>s2 k hk.1)),G,.inl HV.sq,AE (plus S1 w1) w2,plus (AE S2 w1) w2,b1,b2,?_,?_,?_,λk hk=>?_,λk hk=>?_,λk hk hk2=>?_,λhk=>?_,λhk=>?_⟩
  ·rw[HM];exact((HR.gr X).touch J.o s4).touch t3 (λh=>s5 h.1)
  ·rw[HM]
   exact Xc.o.cut.touch t3 (λk hk _ hk2=>by
    rcases hk.1 with h|h
    ·exact s3 k h hk2.1
    ·have:=hk2.2;omega)
  ·rw[HM]
   show C2 w3 _ b2 (v.pt.set j (v.pl.next+1))
   rw[<-M.o];exact p3
  ·rcases hk.1 with h|h
   ·exact .inl (s1 k h)
   ·exact .inr Ω
  ·rcases hk with h|h
   ·exact .inl (s2 k h.1)
   ·exact .inr Ω
  ·rcases hk2 with h|h
   ·rcases hk.1 with h'|h'
    ·exact s3 k h' h.1
    ·have:=h.2;omega
   ·have:=hk.2;omega
  ·rcases hk.1 with h|h
   ·exact s4 h
   ·omega
  ·rcases hk with h|h
   ·exact s5 h.1
   ·omega
theorem MP(hV:AD w S q v)(p:Int):Calls prog 139 #[pP q,iI p] w λe w'=>e=.returned (iI (frE v.pt p))/\VD w S q (v.um p) w':=by
 have HV:=hV;obtain⟨S1,S2,b1,b2,hr,hp,hg,s1,s2,s3,s4,s5⟩:=hV.row;have Xb:=hr.lt;have c0:=hr.cc 0;have c1:=hr.cc 1;have HP:=hp;have HG:=hg;have HR:=hr;have HS:=(θ s1 (θ s2 (θ s3 (θ s4 s5))));by_cases h0:frE v.pt p=0
 ·have HE:=h0;obtain⟨j,rfl,hj,N⟩:=MJ h0;have hf:=hV.ok.fr j hj N;obtain⟨f,X⟩:∃f,f=v.pt.getD j 0-1:=⟨_,rfl⟩;have HF:=ι X;have A:=(show frV v.pt j=(f:Int)by unfold frV;rw[μ h0,δ,X];omega);rw[<-X]at hf;have HM:=(show v.um j={v with pl:=v.pl.give f,pt:=v.pt.set j 0}by unfold Vm.um;rw[μ h0,δ,X]);have G:=(λ(w1:World) (t1:AB S2 w w1)=>XDh (p:=v.pl) (f:=f) ((hp.cut).touch t1 (λk hk _ hk2=>s3 k hk.1 hk2)) hf);have M:=(hV.ok.um j);clear hV hr hp hg s1 s2 s3 s4 h0 N hf X;have Xc:=c0;go_enter func139,ntmps139
  go_wp2_with(first
   | (go_at_call 83;refine(EV HV).mono ?_;rintro e w1 ⟨rfl,rfl⟩)
   | (go_at_call 181;refine(Yzj HG j).mono ?_;rintro e w1 ⟨rfl,(⟨h,-⟩|⟨-,J,Y⟩)⟩;(exact absurd HE h);rw[HE,A];have k0:=(J.cell Xb s5 0).trans Xc;have Z:=J;have B:=Y;clear J Y)
   | (go_at_call 182;refine(G _ Z).mono ?_;rintro e w2 ⟨rfl,I,E⟩;have D:=I;have Xd:=E;clear I E))
  go_ret;refine⟨AL (by rw[HE]),?_⟩;obtain⟨s1,s2,s3,s4,s5⟩:=HS;have t1:=Z;have t2:=D;have z1:=Z.size;have z2:=D.size;refine⟨(t1.mono (λk _ hk=>s2 k hk)).trans (t2.mono (λk _ hk=>s1 k hk.1)),M,.inl HV.sq,plus (AE S1 w) w1,AE (plus S2 w) w1,b1,b2,?_,?_,?_,λk hk=>?_,λk hk=>?_,λk hk hk2=>?_,λhk=>?_,λhk=>?_⟩
  ·rw[HM];exact(HR.touch t1 s5).touch t2 (λh=>s4 h.1)
  ·rw[HM];exact Xd
  ·rw[HM];have Y:=B;rw[δ]at Y
   exact Y.cut.touch t2 (λk hk _ hk2=>by
    rcases hk.1 with h|h
    ·exact s3 k hk2.1 h
    ·have:=hk2.2;omega)
  ·rcases hk with h|h
   ·exact .inl (s1 k h.1)
   ·exact .inr Ω
  ·rcases hk.1 with h|h
   ·exact .inl (s2 k h)
   ·exact .inr Ω
  ·rcases hk with h|h
   ·rcases hk2.1 with h'|h'
    ·exact s3 k h.1 h'
    ·have:=h.2;omega
   ·have:=hk2.2;omega
  ·rcases hk with h|h
   ·exact s4 h.1
   ·omega
  ·rcases hk.1 with h|h
   ·exact s5 h
   ·omega
 ·obtain⟨y,hy⟩:∃y,y=frE v.pt p:=⟨_,rfl⟩;have HX:=ι hy;have d0:(y==0)=false:=by rw[hy];simpa using h0
  have HM:=(PQ h0);have Xa:=ι h0;clear hV hr hp hg h0 hy s1 s2 s3 s4 s5;go_enter func139,ntmps139
  go_wp2_with(first
   | (go_at_call 83;refine(EV HV).mono ?_;rintro e w1 ⟨rfl,rfl⟩)
   | (go_at_call 181;refine(Yzj HG p).mono ?_;rintro e w1 ⟨rfl,(⟨-,V⟩|⟨h,-⟩)⟩;rotate_left;(exact absurd h Xa.o);rw[<-HX.o];have U:=ι V;clear V))
  go_ret;refine⟨AL (by rw[HX.o]),U.o.touch S,?_⟩;rw[HM];exact(HV.gr U.o).mono (λk hk=>.inl hk)
def Vm.new(n pg rm:Nat):Vm:=⟨n,Pl.none pg rm,List.replicate (n/pg) 0⟩
theorem AF.new(h1:ES rm=true)(h2:DY pg=true)(h3:1<=n)(h4:n<=524288)(h5:n%pg=0):AF (Vm.new n pg rm):=by
 have hd:n/pg*pg=n:=by grind [ζv,ζT]
 have h7:1<=n/pg:=by
  grind
 refine⟨Xgr h1 h2,IV.new h7 (by have:=ζ1 n pg;omega),h4,?_,λp hp hne=>?_,λp p' hp hp' hne=>?_,?_⟩
 ·show n=(List.replicate (n/pg) 0).length*pg
  simp_all
 ·exact absurd (NA _ _) hne
 ·exact absurd (NA _ _) hne
 ·show Pl.used (Pl.none pg rm)=nz (List.replicate (n/pg) 0)
  rw[QS];rfl
theorem ZEa(h1:ES rm=true)(h2:DY pg=true)(h3:1<=n)(h4:n<=524288)(h5:n%pg=0)(h6:1<=pg)(h7:pg<=256)(w:World):Calls prog 37 #[iI n,iI pg,iI rm] w λe w'=>
  ∃q,e=.returned (.tuple #[pP q,iI 0])/\Gr w w'/\AD w' (λk=>w.heap.size<=k) q (Vm.new n pg rm):=by
 have D:=(AF.new h1 h2 h3 h4 h5);have I:=(λw=>XXu rm pg Ω w);have HB:=(show (ES rm&&DY pg)=true by rw[h1,h2];rfl);have hd:n/pg*pg=n:=by have:=ζv n pg;rw[h5,ζT]at this;omega
 have h8:1<=n/pg:=by
  rcases ζB (n/pg)with h|h
  ·rw[h]at hd;omega
  ·exact h
 have h9:n/pg<=524288:=by have:=ζ1 n pg;omega
 obtain⟨m,hm⟩:∃m,m=n/pg:=⟨_,rfl⟩;have q1:((n:Int).tdiv (pg:Int))=(m:Int):=by rw[hm];rfl
 have q2:((n:Int)/(pg:Int))=(m:Int):=by rw[hm];rfl
 have q3:((n:Int).tmod (pg:Int))=0:=by rw[show ((n:Int).tmod (pg:Int))=((n%pg:Nat):Int)from rfl,h5];rfl
 have q4:((n:Int)%(pg:Int))=0:=by rw[show ((n:Int)%(pg:Int))=((n%pg:Nat):Int)from rfl,h5];rfl
 rw[<-hm]at h8 h9;have HM:=ι hm;have E:=ι (λw=>J3k (w:=w) h8 h9);have hBp:(pg:Int)≠0:=Ω
 clear h1 h2 h5 hd hm;go_enter func37,ntmps37
 go_wp2_with(first
  | (go_at_call 76;refine(I _).mono ?_;rintro e w1 (⟨h,-⟩|⟨-,rfl,V,N⟩);(exact absurd (HB.symm.trans h) (by decide));have J:=ι V;have U:=ι N;clear V N)
  | (go_at_call 77;refine(E.o _).mono ?_;rintro e w2 ⟨q2,rfl,Z,M⟩;have X:=(Rec.new w1 135 [pP w.heap.size,.pointer none,iI n]).gr Z;have kf:=X.free 1;have k1:=X.cc 1;have G:=ι X;have Y:=ι Z;have A:=ι M;clear Z M X))
 go_ret2;have z1:=J.o.size;have z2:=Y.o.size
 have hq:w.heap.size<w1.heap.size:=U.o.row.elim λ_ h=>by
  obtain⟨_,_,_,_,hr,-⟩:=h;exact hr.lt
 have hG:=AB.setCell (AB.refl (λk=>k=w1.heap.size) w2) (a:=⟨w1.heap.size,1,none⟩) (λ_=>rfl) (pP q2);simp only[β]at z2;refine⟨_,BE rfl rfl,?_,D,z1,AE (λb=>w.heap.size<=b) w1,λk=>w1.heap.size+1<=k,w.heap.size,q2,Rec.set G.o 1 _,?_,?_,λk hk=>hk.1,λk hk=>by omega,λk hk hk2=>by have:=hk.2;omega,λh=>by have:=h.2;omega,λh=>by omega⟩
 ·exact AB.gr ((((J.o.alloc _).trans Y.o).touch (λk=>w.heap.size<=k)).trans (hG.mono (λk _ hk=>by omega)) |>.mono (λk hk h=>by omega))
 ·have:=(U.o.cut.gr (((Gr.refl w1).alloc _).trans Y.o)).touch hG (λk hk _ he=>by have:=hk.2;omega);rw[δ,δ]at this;exact this
 ·have:=A.o.touch hG (λk hk _ he=>by simp only[β]at hk;omega);rw[HM.o]at this;exact this.mono (λk hk=>by simpa using hk)
end
structure BQ(v v':Vm)(F:List Nat):Prop where
 ok:AF v'
 n:v'.n=v.n
 pg:v'.pl.pg=v.pl.pg
 rm:v'.pl.rm=v.pl.rm
 us:v'.pl.used=v.pl.used+F.length
 nd:F.Nodup
 un:∀p∈F,p<v.pt.length/\v.pt.getD p 0=0
 ma:∀p,p<v.pt.length->(v'.pt.getD p 0≠0↔(v.pt.getD p 0≠0\/p∈F))
 vl:∀a:Nat,a<v.n->v'.ldV a=if a/v.pl.pg∈F then 0 else v.ldV a
theorem AF.len{v:Vm}(h:AF v):v.pt.length=v.n/v.pl.pg:=by
 rw[h.np,ξz _ h.page.1]
theorem BQ.len{v:Vm}(h:BQ v v' F)(hv:AF v):v'.pt.length=v.pt.length:=by
 rw[h.ok.len,hv.len,h.n,h.pg]
theorem BQ.ldE{v:Vm}(h:BQ v v' F)(hv:AF v){a:Nat}(ha:a<v.n):v'.ldE a=if a/v.pl.pg∈F then 0 else v.ldE a:=by
 have h1:=h.ma _ (hv.split ha).1;rw[h.ok.ldE_of (by rw[h.n];exact ha),hv.ldE_of ha,h.pg]
 grind
theorem BQ.refl{v:Vm}(h:AF v):BQ v v []:=
 ⟨h,rfl,rfl,rfl,rfl,ξJ,λp hp=>(by cases hp),λp _=>by simp,λa _=>by simp⟩
theorem BQ.mp{v:Vm}(h:BQ v v' F)(hv:AF v)(hp:v'.mpE p=0):BQ v (v'.mp p) (F++[p]):=by
 have e1:v'.mp p={v' with pl:=v'.pl.take,pt:=v'.pt.set p (v'.pl.next+1)}:=by unfold Vm.mp;simp_all
 obtain⟨j,hj,X,h0,hr⟩:=PA hp;obtain rfl:p=j:=Ω
 have hl:=h.len hv;have h1:=h.ma p Ω;have hpF:p∉F:=λhf=>h1.2 (.inr hf) h0;have hp0:v.pt.getD p 0=0:=ξQ.1 (λhn=>h1.2 (.inl hn) h0);refine⟨h.ok.mp p,?_,?_,?_,?_,?_,λi hi=>?_,λi hi=>?_,λa ha=>?_⟩
 ·rw[e1];exact h.n
 ·rw[e1];exact(MB v'.pl).1.trans h.pg
 ·rw[e1];exact(MB v'.pl).2.1.trans h.rm
 ·rw[e1,ζt];rw[UD h.ok.pl,h.us];rfl
 ·rw[ζY];exact⟨h.nd,by simp,λa ha b hb=>by grind⟩
 ·rcases ζg.1 hi with h'|h'
  ·exact h.un i h'
  simp_all
 ·rw[e1];rw[EF X,ζg];by_cases e:p=i
  ·subst e;simp
  ·rw[ϑ e,h.ma i hi]
   grind
 ·have:=h.ok.mp_ldV hp (a:=a) (by rw[h.n];exact ha);rw[this,h.pg,h.vl a ha]
  grind
theorem BQ.um{v:Vm}(h:BQ v v' (F++[p]))(hv:AF v):frE v'.pt p=0/\BQ v (v'.um p) F:=by
 obtain⟨V,Z⟩:=h.un p (by simp);have hl:=h.len hv;have h1:=(h.ma p V).2 (.inr (by simp));have X:frE v'.pt p=0:=by rw[LP Ω,ϑ h1]
 have e1:v'.um p={v' with pl:=v'.pl.give (v'.pt.getD p 0-1),pt:=v'.pt.set p 0}:=by unfold Vm.um;rw[μ X,δ]
 have U:=ζY.1 h.nd;have J:p∉F:=λhf=>U.2.2 p hf p (by simp) rfl;refine⟨X,h.ok.um p,?_,?_,?_,?_,U.1,λi hi=>h.un i (by simp[hi]),λi hi=>?_,λa ha=>?_⟩
 ·rw[e1];exact h.n
 ·rw[e1];exact h.pg
 ·rw[e1];exact h.rm
 ·rw[e1]
  show (v'.pl.give _).used=_
  have h2:=NV (p:=v'.pl) (h.ok.frame h1);have h3:=h.us;rw[ζt,ξg]at h3;omega
 ·rw[e1];rw[EF Ω];by_cases e:p=i
  ·subst e;rw[μ rfl];exact⟨λh=>absurd rfl h,λh=>h.elim (λh=>absurd Z h) (λh=>absurd h J)⟩
  ·have:i∉[p]:=by simp;omega
   rw[ϑ e,h.ma i hi,ζg];simp[this]
 ·by_cases e:a/v.pl.pg=p
  ·have hE:=h.ok.um_ldE X (a:=a) (by rw[h.n];exact ha);rw[h.pg,μ e]at hE;have Y:=hv.ldE_of ha;rw[e,μ Z]at Y;rw[e,ϑ J];unfold Vm.ldV;rw[hE,Y];rfl
  ·have:=h.ok.um_ldV X (a:=a) (by rw[h.n];exact ha) (by rw[h.pg];exact e);rw[this,h.vl a ha];by_cases hf:a/v.pl.pg∈F
   ·rw[μ hf,μ (ζg.2 (.inl hf))]
   ·rw[ϑ hf,ϑ];intro hm;rcases ζg.1 hm with h'|h'
    ·exact hf h'
    ·simp at h';exact e h'
section
variable{v:Vm}
def G6(w:World)(S:Nat->Prop)(q:Nat)(v:Vm)(F:List Nat):Prop:=∃v',BQ v v' F/\AD w S q v'
theorem Y97(hv:AF v)(hG:G6 w S q v F)(hF:w.ownsRow 0 3 1 vF F.length (DO F))(hs:∀g,vF.ownBlock=some g->¬S g)
  (cs:w.cell? ⟨bs,0,none⟩=some vF) (cm:w.cell? ⟨bm,0,none⟩=some (pP q)) (ls:bs<w.heap.size) (lm:bm<w.heap.size) (ns:¬S bs) (nm:¬S bm):
  Calls prog 164 #[pP bs,pP bm] w λe w'=>e=.returned (.tuple #[])/\AB S w w'/\G6 w' (plus S w) q v []:=by
 obtain⟨A,c,rfl,I,M⟩:=FA hF;unfold maxLen at M
 have V:F.length<=524288:=by
  obtain⟨v',hg,-⟩:=hG;have h1:=hg.us;have h2:=hg.ok.us;have h3:=L8 v'.pt;have h4:=hg.ok.pt.n2;omega
 have HF:=hF;have HG:=hG;have HV:=hv;have HS:=hs;obtain⟨N,hN⟩:∃N,N=F.length:=⟨_,rfl⟩;rw[<-hN]at cs I V;have HN:=hN;go_enter func164,ntmps164;go_wp2
 go_loopw [2] (λi wr=>∃k:Nat,k<=N/\Hid (AB S w wr)/\Hid (G6 wr (plus S w) q v (F.take k))/\i=iI ((k:Int)-1)) (λi _=>(intOf i+1).toNat)
 case atStart=>exact⟨N,ν _,⟨AB.refl S w⟩,⟨by obtain⟨v',hg,ha⟩:=HG;exact⟨v',by rw[HN,ζ7];exact hg,ha.mono (λk hk=>.inl hk)⟩⟩,by go_num⟩
 case round=>
  obtain⟨k,hk,HT,HK,rfl⟩:=hrel;by_cases E:k=0
  ·subst E;go_wp2
   go_end0
   exact⟨rfl,HT.o,HK.o⟩
  ·obtain⟨j,rfl⟩:∃j,k=j+1:=⟨k-1,by omega⟩;have Z:j<F.length:=Ω
   obtain⟨g,c',e1,-,-,-,-⟩:=ET HF Ω;simp only[Value.slice.injEq]at e1;obtain⟨rfl,-,rfl⟩:=e1;have Y:=(BF HF (g:=g) rfl).2;have ng:=HS g rfl;have kb:=BU HF (XS1 Z);obtain⟨p,hp⟩:∃p,p=F[j]:=⟨_,rfl⟩;rw[<-hp]at kb;have HP:Hid (F.take (j+1)=F.take j++[p]):=⟨by rw[hp,List.take_add_one,ζa Z];rfl⟩
   have KS:Hid (∀W',Gr wr W'->W'.cell? ⟨bs,0,none⟩=some (.slice (some ⟨g,0,none⟩) N c)/\W'.cell? ⟨bm,0,none⟩=some (pP q)/\W'.cell? ⟨g,j,none⟩=some (iI (p:Nat))):=
    ⟨λW' h=>⟨(h.cell (υ ls HT.o.size) 0).trans ((HT.o.cell ls ns 0).trans cs),(h.cell (υ lm HT.o.size) 0).trans ((HT.o.cell lm nm 0).trans cm),(h.cell (υ Y HT.o.size) j).trans ((HT.o.cell Y ng j).trans kb)⟩⟩
   clear Z Y ng kb hp cs cm;go_upto_region 3 with(fail);obtain⟨Sx,X⟩:∃Sx:World->Prop,Sx=λW'=>Gr wr W':=⟨_,rfl⟩;have x1:∀p:AA Sx,p.w.cell? ⟨bs,0,none⟩=some (.slice (some ⟨g,0,none⟩) N c):=λp=>(KS.o _ (AA.get X p)).1;have x2:∀p:AA Sx,p.w.cell? ⟨bm,0,none⟩=some (pP q):=λp=>(KS.o _ (AA.get X p)).2.1;have x3:∀r:AA Sx,r.w.cell? ⟨g,j,none⟩=some (iI (p:Nat)):=λp=>(KS.o _ (AA.get X p)).2.2;have U:Sx wr.drew:=by rw[X];exact(Gr.refl wr).drew
   have inst:Inhabited (AA Sx):=⟨⟨_,U⟩⟩;clear X;refine AW Sx 5 [([0,1,2,3,4],5)] [] (by kernel_rfl) (by kernel_rfl) U ?_;refine AH ?_;simp only[AC,ζ,ξ]
   repeat(go_big_quiet_step (fail))
   refine ψ ?_;obtain⟨vk,J,Xd⟩:=HK.o;rw[HP.o]at J;have G:=(J.um HV);have D:=(Xd.gr (Gr.refl wr).drew);go_wp2_with(go_at_call 139;refine(MP D (p:Int)).mono ?_;rintro e w1 ⟨rfl,Xa,B⟩;have Xb:=Xa;have Xe:=B);refine⟨.inl trivial,?_⟩;refine BO ?_;refine ψ ?_;refine ζb ?_;go_wp2;have Xc:=HT.o.size;have h1:AB (plus S w) wr w1:=((Gr.refl wr).drew.touch _).trans Xb;go_round
   case rel=>
    refine⟨j,by omega,⟨HT.o.trans' h1 (λi hi hp=>hp.resolve_right Ω)⟩,⟨_,G.2,Xe.mono (λk hk=>?_)⟩,by go_num⟩;rcases hk with h|h
    ·exact h
    ·exact .inr (γ Xc h)
   case measure=>simp[intOf]
def BR(v:Vm)(p0 k:Nat):List Nat:=(List.range' p0 k).filter λp=>v.pt.getD p 0==0
theorem PC(v:Vm)(p0 k:Nat):BR v p0 (k+1)=if v.pt.getD (p0+k) 0=0 then BR v p0 k++[p0+k]else BR v p0 k:=by
 unfold BR
 grind [List.range'_concat]
theorem N6{v:Vm}:p∈BR v p0 k↔(p0<=p/\p<p0+k)/\v.pt.getD p 0=0:=by
 unfold BR;simp
theorem ZNP(v:Vm)(p0:Nat)(h:k<=m):(BR v p0 k).length<=(BR v p0 m).length:=by
 induction m with
 | zero=>simp_all
 | succ m ih=>
  grind [χ,γ,PC]
def CT(v:Vm)(f t:Int):Nat:=((t-1)/v.pl.pg-f/v.pl.pg+1).toNat
def A8(v:Vm)(f t:Int):Int:=if f<0\/(v.n:Int)<t then 11 else if t<=f then 0 else if v.pl.used+(BR v (f/v.pl.pg).toNat (CT v f t)).length<=v.pl.rm then 0 else 14
def BN(v:Vm)(f t:Int):List Nat:=if A8 v f t=0/\f<t then BR v (f/v.pl.pg).toNat (CT v f t)else []
structure Q8(w wr:World)(S S':Nat->Prop)(q:Nat)(v:Vm)(p0 k bs bm:Nat)(vF:Value):Prop where
 t:AB S w wr
 g:G6 wr S' q v (BR v p0 k)
 own:wr.ownsRow 0 3 1 vF (BR v p0 k).length (DO (BR v p0 k))
 rs:Rec wr bs 61 [vF]
 rm:Rec wr bm 78 [pP q]
 sub:∀k,S' k->plus S w k
 ns:¬S' bs
 nm:¬S' bm
 ng:∀g,vF.ownBlock=some g->¬S' g
 ls:w.heap.size<=bs
 lg:∀g,vF.ownBlock=some g->w.heap.size<=g
theorem Q8.map{wr:World}{v:Vm}(h:Q8 w wr S S' q v p0 k bs bm vF)(t:AB S' wr w1):
  AB S w w1/\w1.ownsRow 0 3 1 vF (BR v p0 k).length (DO (BR v p0 k))/\Rec w1 bs 61 [vF]/\Rec w1 bm 78 [pP q] ∧
   (∀k,plus S' wr k->plus S w k)/\¬plus S' wr bs/\¬plus S' wr bm/\(∀g,vF.ownBlock=some g->¬plus S' wr g):=by
 have hz:=h.t.size;refine⟨h.t.trans' t (λi hi hs=>(h.sub i hs).resolve_right Ω),BX h.own t h.ng,h.rs.touch t h.ns,h.rm.touch t h.nm,λk hk=>?_,λhk=>?_,λhk=>?_,λg hg hk=>?_⟩
 ·rcases hk with hk|hk
  ·exact h.sub k hk
  ·exact .inr Ω
 ·have:=h.rs.lt;exact hk.elim h.ns Ω
 ·have:=h.rm.lt;exact hk.elim h.nm Ω
 ·have:=(BF h.own hg).2;exact hk.elim (h.ng g hg) Ω
theorem P0(hV:AD w S q v)(f t:Nat)(ht:t<=v.n)(hft:f<t):Calls prog 117 #[pP q,iI f,iI t] w λe w'=>e=.returned (iI (A8 v f t))/\AB S w w'/\G6 w' (plus S w) q v (BN v f t):=by
 have HV:=hV;have hn:=hV.ok.n2;obtain⟨S1,S2,b1,b2,hr,hp,-⟩:=hV.row;have hql:=hr.lt;have c0:=hr.cc 0;have c2:=hr.cc 2;have Yg:=hV.ok.page;have HP:=hp;obtain⟨p0,Xb⟩:∃p0,p0=f/v.pl.pg:=⟨_,rfl⟩;obtain⟨p1,I⟩:∃p1,p1=(t-1)/v.pl.pg:=⟨_,rfl⟩;have h01:p0<=p1:=by rw[Xb,I];exact ζc Ω
 have h1l:p1<v.pt.length:=by rw[I];exact(hV.ok.split Ω).1
 have Y:(t:Int)-1=((t-1:Nat):Int):=Ω
 have Xj:Hid (CT v f t=p1+1-p0/\((f:Int)/(v.pl.pg:Int)).toNat=p0):=⟨by
  unfold CT;rw[Y,<-ζ8,<-ζ8,<-Xb,<-I]
  exact⟨by omega,δ _⟩⟩
 have HE:Hid (A8 v f t=if v.pl.used+(BR v p0 (p1+1-p0)).length<=v.pl.rm then 0 else 14):=⟨by
  unfold A8
  rw[ϑ Ω,ϑ Ω,Xj.o.1,Xj.o.2]⟩
 have HF:Hid (BN v f t=if v.pl.used+(BR v p0 (p1+1-p0)).length<=v.pl.rm then BR v p0 (p1+1-p0)else []):=⟨by
  unfold BN;rw[HE.o,Xj.o.1,Xj.o.2]
  split
  ·rw[μ ⟨rfl,by omega⟩]
  ·rw[ϑ (λh=>absurd h.1 (by decide))]⟩
 obtain⟨B,hB⟩:∃B,B=v.pl.pg:=⟨_,rfl⟩;have HB:=ι hB;rw[<-hB]at Xb I Yg;have q1:((f:Int).tdiv (B:Int))=(p0:Int):=by rw[Xb];rfl
 have q2:((f:Int)/(B:Int))=(p0:Int):=by rw[Xb];rfl
 have q3:(((t:Int)-1).tdiv (B:Int))=(p1:Int):=by rw[Y,I];rfl
 have q4:(((t:Int)-1)/(B:Int))=(p1:Int):=by rw[Y,I];rfl
 have hBp:(B:Int)≠0:=Ω
 have d0:decide ((f:Int)<0)=false:=φ Ω;have d1:decide ((v.n:Int)<(t:Int))=false:=φ Ω;have d2:decide ((t:Int)<=(f:Int))=false:=φ Ω;have hpt:=hV.ok.pt.n2;clear hV hr hp hB Xb I Y;go_enter func117,ntmps117
 go_wp2_with(first
  | (go_at_call 83;refine(EV (HV.gr ((Gr.refl w).alloc _))).mono ?_;rintro e w1 ⟨rfl,rfl⟩)
  | (go_at_call 165;refine(RS (HP.gr (((Gr.refl w).alloc _).alloc _))).mono ?_;rintro e w1 ⟨rfl,rfl⟩;rw[<-HB.o]))
 obtain⟨bm,Xg⟩:∃bm,bm=w.heap.size:=⟨_,rfl⟩;rw[<-Xg]
 have Xx:=ι (show Q8 w ((w.alloc (Obj.cells #[pP q] 78)).alloc (Obj.cells #[.slice none 0 0] 61)) S (AE S w) q v p0 0 (bm+1) bm (.slice none 0 0)from
  ⟨((AB.refl S w).alloc _).alloc _,⟨v,BQ.refl HV.ok,HV.cut.gr (((Gr.refl w).alloc _).alloc _)⟩,GX _ _ _ _,by
   have:=Rec.new (w.alloc (Obj.cells #[pP q] 78)) 61 [.slice none 0 0];rw[β,<-Xg]at this;exact this,by
   have:=Rec.gr (Rec.new w 78 [pP q]) ((Gr.refl _).alloc (Obj.cells #[.slice none 0 0] 61));rw[<-Xg]at this
   exact this,λk hk=>.inl hk.1,λh=>by have:=h.2;omega,λh=>by have:=h.2;omega,(λg h=>by cases h),by omega,(λg h=>by cases h)⟩)
 go_loopw [10] (λp wr=>∃(k:Nat) (S':Nat->Prop) (vF:Value),k<=p1+1-p0/\Hid (Q8 w wr S S' q v p0 k (bm+1) bm vF)/\p=iI ((p0+k:Nat):Int)) (λp _=>p1+1-(intOf p).toNat)
 case atStart=>exact⟨0,AE S w,.slice none 0 0,by omega,Xx,by go_num⟩
 case round=>
  obtain⟨k,S',vF,hk,HI,rfl⟩:=hrel;have Xt:=ι Xg;clear Xx c0 c2 Xg;obtain⟨r,hr⟩:∃r,r=p0+k:=⟨_,rfl⟩;rw[<-hr];by_cases Z:k=p1+1-p0
  ·have d3:decide (r<=p1)=false:=φ Ω;have HR:=ι hr;have HL:=ι Z;clear hr Z;go_wp2;go_ret;obtain⟨v',hg,Xc⟩:=HI.o.g;have Yf:=hg.us;have Xk:=NI hg.ok.pl;rw[hg.rm,Yf]at Xk;rw[HL.o]at hg Xk;refine⟨AL (by rw[HE.o,μ Xk]),HI.o.t,v',?_,Xc.mono HI.o.sub⟩;rw[HF.o,μ Xk];exact hg
  ·have d3:decide (r<=p1)=true:=κ Ω;obtain⟨v',hg,Xc⟩:=HI.o.g;obtain⟨A,c,rfl,Yk,Yd⟩:=FA HI.o.own;unfold maxLen at Yd;have hS:=PC v p0 k;rw[<-hr]at hS;have Xn:r<v.pt.length:=Ω
   have Xf:=hg.ma r Xn;have Xo:r∉BR v p0 k:=λh=>by have:=(N6.1 h).1;omega
   have Xs:=hg.len HV.ok;have Xa:pgE v'.pt r=0:=by unfold pgE;rw[μ ⟨by omega,by omega⟩]
   have km:=HI.o.rm.cc 0;have hr2:r<=524288:=Ω
   have lbm:=HI.o.rm.lt;have lbs:=HI.o.rs.lt;have Xr:=ι Xc;have Xz:=ι hg;have HK:=ι hk;have HR:=ι hr;have Xl:=ι Z;by_cases h0:v.pt.getD r 0=0
   ·rw[μ h0]at hS;have M:v'.pt.getD r 0=0:=ξQ.1 (λhn=>(Xf.1 hn).elim (λh=>h h0) Xo);by_cases J:v'.pl.used=v'.pl.rm
    ·have HM:Hid (v'.mpE r=14):=⟨by
      unfold Vm.mpE
      rw[ϑ (by rw[Xa];decide),δ,ϑ (by rw[M];decide),μ J]⟩
     have Xu:Hid (¬v.pl.used+(BR v p0 (p1+1-p0)).length<=v.pl.rm):=⟨by
      have h1:=ZNP v p0 (show k+1<=p1+1-p0 by omega);rw[hS,ζt,ξg]at h1;have h2:=hg.us;have h3:=hg.rm
      omega⟩
     clear hS h0 M J Xf Xo Xs Xa hg Xc hk hr Z Xn
     go_wp2_with(first
      | (go_at_call 166;refine(VK Xr.o r).mono ?_;rintro e w1 ⟨rfl,Y,X⟩;rw[HM.o];have U:=ι Y;have Xi:=ι X;clear Y X)
      | (go_at_call 164;have X:=Xi.o;rw[TA (by rw[HM.o];decide)]at X;obtain⟨-,i2,i3,i4,-,i6,i7,i8⟩:=HI.o.map U.o;refine(Y97 HV.ok ⟨_,Xz.o,X⟩ i2 i8 (i3.cc 0) (i4.cc 0) i3.lt i4.lt i6 i7).mono ?_;rintro e w2 ⟨rfl,Xw,Xm⟩;have G:=ι Xw;have Ym:=ι Xm;clear Xw Xm X i2 i3 i4 i6 i7 i8))
     go_ret;obtain⟨i1,i2,i3,i4,i5,i6,i7,i8⟩:=HI.o.map U.o;have hz:=HI.o.t.size;have Yj:=U.o.size;refine⟨AL (by rw[HE.o,ϑ Xu.o]),i1.trans' G.o (λi hi hs=>(i5 i hs).resolve_right Ω),?_⟩;rw[HF.o,ϑ Xu.o];obtain⟨v2,Xm,Yn⟩:=Ym.o;refine⟨v2,Xm,Yn.mono (λk hk=>?_)⟩;rcases hk with hk|hk
     ·exact i5 k hk
     ·exact .inr Ω
    ·have HM:Hid (v'.mpE r=0):=⟨by
      unfold Vm.mpE
      rw[ϑ (by rw[Xa];decide),δ,ϑ (by rw[M];decide),ϑ J]⟩
     have Ya:=ι (hg.mp HV.ok HM.o);have Xd:=ι hS
     have Yc:(BR v p0 k).length<=524288:=by
      have h1:=hg.us;have h2:=hg.ok.us;have h3:=L8 v'.pt;have h4:=hg.ok.pt.n2;omega
     obtain⟨N,hN⟩:∃N,N=(BR v p0 k).length:=⟨_,rfl⟩;have HN:=ι hN;rw[<-hN]at Yk Yc;clear hS h0 M J Xf Xo Xs Xa hg Xc hk hr Z Xn;rw[<-hN]at HI;clear hN;obtain⟨ii,Yl,Yo,Ye,Yi⟩:=info_parts YWy
     go_wp2_with(first
      | (go_at_call 166;refine(VK Xr.o r).mono ?_;rintro e w1 ⟨rfl,Y,X⟩;rw[HM.o];have Xe:=ι (HI.o.rs.touch Y HI.o.ns);have ks:=Xe.o.cc 0;have U:=ι Y;have Xi:=ι X;have Xp:=ι (HI.o.map Y).2.1;rw[<-HN.o]at Xp;clear Y X)
      | (at_builtin;refine wpList_append_lies _ rfl _ _ 61 rfl 0 3 ii _ 1 8 underlying61 Yl Yo Ye Yi rfl (by decide) (.slice A N c) N (DO (BR v p0 k)) rfl (Xp.o.alloc _) ⟨w1.heap.size,0,none⟩ 1 1 [iI (r:Nat)] rfl rfl (ξv (cs:=#[iI (r:Nat)]) (t:=3) (fr:=(0,0)) (heap_alloc_new w1 (.cells #[.int .i64 (r:Nat)] 3))) (by simp[Value.oneCell']) Ω (by unfold maxLen;omega) Ω (ζh _) (w1.heap.size+1) (by simp) ?_;intro g2 Yh w2 Xh E V Xq;have t2:AB (λk=>(Value.slice A N c).ownBlock=some k) w1 w2:=(((Gr.refl _).alloc _).touch _).trans (E4 E _ (λk e _=>e));have D:=ι (Xe.o.touch t2 (λe=>AN Xp.o Xe.o (by decide) e rfl rfl));have ks2:=D.o.cc 0;have kf2:=D.o.free 0;have G:=ι t2;have Xv:=ι Xh;have Yb:=ι (θ V Xq);clear Xh E V Xq t2))
     have hI:=HI.o;have hN:=HN.o;obtain⟨i1,i2,i3,i4,i5,i6,i7,i8⟩:=HI.o.map U.o;have hz:=HI.o.t.size;have Yj:=U.o.size;have hz2:=G.o.size;have V:=Yb.o;have Xy:AB S w w2:=i1.trans' G.o (λi hi hs=>by have:=HI.o.lg i hs;omega);go_round
     case rel=>
      refine⟨k+1,AE (plus S' wr) w1,.slice (some ⟨g2,0,none⟩) (N+1) Yh,by have:=HK.o;have:=Xl.o;omega,⟨?_⟩,by rw[HR.o];go_num⟩;refine⟨Xy.setCell (a:=⟨bm+1,0,none⟩) (λh=>by have:=Xt.o;have h:bm+1<w.heap.size:=h;omega) _,?_,?_,?_,?_,λi hi=>i5 i hi.1,λh=>i6 h.1,λh=>i7 h.1,λg hg=>?_,by have:=Xt.o;omega,λg hg=>?_⟩
      ·refine⟨_,by rw[Xd.o];exact Ya.o,((Xi.o.cut.touch G.o (λi hi _ e=>i8 i e hi.1)).touch ((AB.refl (λi=>i=bm+1) w2).setCell (a:=⟨bm+1,0,none⟩) (λ_=>rfl) _) (λi hi _ e=>by subst e;exact i6 hi.1))⟩
      ·rw[Xd.o,ζt,ξg,<-HN.o,show DO (BR v p0 k++[r])=DO (BR v p0 k)++[iI (r:Nat)]by unfold DO;rw[ζ2];rfl];exact AV Xv.o _ (λg hg=>AN Xv.o D.o (by decide) hg rfl)
      ·exact Rec.set D.o 0 _
      ·exact AV (i4.touch G.o (λe=>AN Xp.o i4 (by decide) e rfl rfl)) _ (λg hg=>by cases hg;show bm≠bm+1;omega)
      ·intro hc;cases hg;rcases V.1 with h|h
       ·exact i8 _ h hc.1
       ·have:g2<w1.heap.size:=hc.2;omega
      ·cases hg;rcases V.1 with h|h
       ·exact HI.o.lg _ h
       ·show w.heap.size<=g2
        omega
     case measure=>have:=HK.o;have:=Xl.o;have:=HR.o;simp[intOf];omega
   ·rw[ϑ h0]at hS;have M:v'.pt.getD r 0≠0:=Xf.2 (.inl h0)
    have HM:Hid (v'.mpE r=13):=⟨by
     unfold Vm.mpE
     rw[ϑ (by rw[Xa];decide),δ,μ M]⟩
    have Xd:=ι hS;clear hS h0 M Xf Xo Xs Xa hg Xc hk hr Z Xn;go_wp2_with(go_at_call 166;refine(VK Xr.o r).mono ?_;rintro e w1 ⟨rfl,Y,X⟩;rw[HM.o];have U:=ι Y;have Xi:=ι X;clear Y X);obtain⟨i1,i2,i3,i4,i5,i6,i7,i8⟩:=HI.o.map U.o;have X:=Xi.o;rw[TA (by rw[HM.o];decide)]at X;go_round
    case rel=>
     refine⟨k+1,plus S' wr,_,by have:=HK.o;have:=Xl.o;omega,⟨i1,?_,?_,i3,i4,i5,i6,i7,i8,HI.o.ls,HI.o.lg⟩,by rw[HR.o];go_num⟩
     ·rw[Xd.o];exact⟨_,Xz.o,X⟩
     ·rw[Xd.o];exact i2
    case measure=>have:=HK.o;have:=Xl.o;have:=HR.o;simp[intOf];omega
end
section
variable{v:Vm}
theorem VR1{p:Pl}(hP:CC w S q p):cQ 195 #[pP q] w (iI p.used):=by
 obtain⟨vw,vt,vb,hi,ts,hr,-⟩:=hP.row;have c4:=hr.cc 5;go_enter func195,ntmps195;go_wp2;go_ret
 simp_all
theorem VFh{p:Pl}(hP:CC w S q p):cQ 194 #[pP q] w (iI p.rm):=by
 obtain⟨vw,vt,vb,hi,ts,hr,-⟩:=hP.row;have c4:=hr.cc 3;go_enter func194,ntmps194;go_wp2;go_ret
 simp_all
theorem IJ(hV:AD w S q v):cQ 138 #[pP q] w (iI v.pl.pg):=by
 have HV:=hV;obtain⟨S1,S2,b1,b2,hr,hp,-⟩:=hV.row;have c0:=hr.cc 0;have HP:=hp;go_enter func138,ntmps138
 go_wp2_with(first
  | (go_at_call 83;refine(EV HV).mono ?_;rintro e w1 ⟨rfl,rfl⟩)
  | (go_at_call 165;refine(RS HP).mono ?_;rintro e w1 ⟨rfl,rfl⟩))
 go_ret
 simp_all
theorem XOa(hV:AD w S q v):cQ 152 #[pP q] w (iI v.pl.used):=by
 have HV:=hV;obtain⟨S1,S2,b1,b2,hr,hp,-⟩:=hV.row;have c0:=hr.cc 0;have HP:=hp;go_enter func152,ntmps152
 go_wp2_with(first
  | (go_at_call 83;refine(EV HV).mono ?_;rintro e w1 ⟨rfl,rfl⟩)
  | (go_at_call 195;refine(VR1 HP).mono ?_;rintro e w1 ⟨rfl,rfl⟩))
 go_ret
 simp_all
theorem JXO(hV:AD w S q v):cQ 151 #[pP q] w (iI v.pl.rm):=by
 have HV:=hV;obtain⟨S1,S2,b1,b2,hr,hp,-⟩:=hV.row;have c0:=hr.cc 0;have HP:=hp;go_enter func151,ntmps151
 go_wp2_with(first
  | (go_at_call 83;refine(EV HV).mono ?_;rintro e w1 ⟨rfl,rfl⟩)
  | (go_at_call 194;refine(VFh HP).mono ?_;rintro e w1 ⟨rfl,rfl⟩))
 go_ret
 simp_all
theorem KN(hV:AD w S q v):cQ 47 #[pP q] w (iI v.n):=by
 have HV:=hV;obtain⟨S1,S2,b1,b2,hr,hp,-⟩:=hV.row;have c0:=hr.cc 2;go_enter func47,ntmps47;go_wp2_with(go_at_call 83;refine(EV HV).mono ?_;rintro e w1 ⟨rfl,rfl⟩);go_ret
 simp_all
theorem Jus(w:World):cQ 47 #[.pointer none] w (iI 0):=by
 go_enter func47,ntmps47;go_wp2_with(go_at_call 83;refine(YU7 _).mono ?_;rintro e w1 ⟨rfl,rfl⟩);go_ret;exact⟨rfl,rfl⟩
theorem YL(hV:AD w S q v)(f t:Nat)(ht:t<=v.n)(hft:t<=f):Calls prog 117 #[pP q,iI f,iI t] w λe w'=>e=.returned (iI 0)/\Gr w w':=by
 obtain⟨S1,S2,b1,b2,hr,-⟩:=hV.row;have d0:decide ((f:Int)<0)=false:=φ Ω;have c2:=(hr.gr ((Gr.refl w).alloc (.cells #[.pointer (some ⟨q,0,none⟩)] 78))).cell (j:=2) rfl;have X:=(hV.gr ((Gr.refl w).alloc (.cells #[.pointer (some ⟨q,0,none⟩)] 78)));go_enter func117,ntmps117;go_wp2_with(go_at_call 83;refine(EV X).mono ?_;rintro e w1 ⟨rfl,rfl⟩);go_ret;exact⟨rfl,(Gr.refl w).alloc _⟩
end
structure Hdr where
 p:Int
 f:Int
 k:Int
variable{h:Hdr}
def AJ(h:Hdr):Value:=.agg #[iI h.p,iI h.f,iI h.k]
def inS(x:Int):Bool:=decide (0<=x/\x<256)
def CN(h:Hdr):Int:=if inS h.p&&inS h.f&&inS h.k&&decide (h.p+h.f+h.k<256)then 0 else 15
def B9(h:Hdr):Int:=if CN h=0 then 1+h.p+h.f+h.k else 0
theorem T7(x:Int):(decide (x<0)=true/\inS x=false)\/(decide (x<0)=false/\decide (256<=x)=true/\inS x=false)\/(decide (x<0)=false/\decide (256<=x)=false/\inS x=true):=by
 by_cases h0:x<0
 ·exact .inl ⟨κ h0,φ Ω⟩
 ·by_cases h1:256<=x
  ·exact .inr (.inl ⟨φ h0,κ h1,φ Ω⟩)
  ·exact .inr (.inr ⟨φ h0,φ h1,κ Ω⟩)
theorem NS(he:CN h=0):∃a b c:Nat,h=⟨a,b,c⟩/\a+b+c<=255:=by
 unfold CN inS at he
 split at he
 ·rename_i hh;simp only[ζe,ζd]at hh;obtain⟨p,f,k⟩:=h;simp only at hh;exact⟨p.toNat,f.toNat,k.toNat,by grind,by omega⟩
 ·cases he
theorem EE{a:Nat}(h:a+b+c<=255):CN ⟨a,b,c⟩=0:=by
 unfold CN inS
 grind
theorem UF(h:Hdr):CN h=0\/CN h=15:=by unfold CN;omega
theorem MV(h:Hdr)(w:World):Calls prog 67 #[AJ h] w λe w'=>e=.returned (iI (CN h))/\Gr w w':=by
 obtain⟨p,f,k⟩:=h;unfold AJ;simp only[];have HE:Hid (CN ⟨p,f,k⟩=if inS p&&inS f&&inS k&&decide (p+f+k<256)then 0 else 15):=⟨rfl⟩
 have HN:∀x,x=p\/x=f\/x=k->Hid (inS x=false->CN ⟨p,f,k⟩=15):=λx hx=>⟨λh0=>by
  rw[HE.o]
  grind⟩
 have HY:Hid (inS p=true->inS f=true->inS k=true->CN ⟨p,f,k⟩=if p+f+k<256 then 0 else 15):=⟨λa b c=>by
  rw[HE.o,a,b,c]
  simp_all⟩
 have H0:=HN p (.inl rfl);have H1:=HN f (.inr (.inl rfl));have H2:=HN k (.inr (.inr rfl));obtain⟨E,hE⟩:∃E,E=CN ⟨p,f,k⟩:=⟨_,rfl⟩;rw[<-hE]at H0 H1 H2 HY HE⊢;clear hE;have i0:∀W,(Instr.index 177 (.agg #[iI p,iI f,iI k]) (iI 0)).run prog W=.ok (iI p) W:=λ_=>by kernel_rfl
 have i1:∀W,(Instr.index 177 (.agg #[iI p,iI f,iI k]) (iI 1)).run prog W=.ok (iI f) W:=λ_=>by kernel_rfl
 have i2:∀W,(Instr.index 177 (.agg #[iI p,iI f,iI k]) (iI 2)).run prog W=.ok (iI k) W:=λ_=>by kernel_rfl
 go_enter func67,ntmps67;go_wp2
 go_loop [12] (λi=>∃j:Nat,j<=3/\i=iI j/\Hid ((1<=j->inS p=true)/\(2<=j->inS f=true)/\(3<=j->inS k=true))) (λi=>3-(intOf i).toNat)
 case atStart=>exact⟨0,by omega,rfl,⟨λh=>by omega,λh=>by omega,λh=>by omega⟩⟩
 case round=>
  obtain⟨j,hj,rfl,HJ⟩:=hrel;rcases(by omega:j=0\/j=1\/j=2\/j=3)with rfl|rfl|rfl|rfl
  ·rcases T7 p with⟨p0,E1⟩|⟨p0,p1,E1⟩|⟨p0,p1,E1⟩
   ·have E1:=E1;go_wp2;go_ret;exact⟨AL (H0.o E1).symm,(Gr.refl w).alloc _⟩
   ·have E1:=E1;go_wp2;go_ret;exact⟨AL (H0.o E1).symm,(Gr.refl w).alloc _⟩
   ·have E1:=E1;go_wp2;go_round
    case rel=>exact⟨1,by omega,by go_num,⟨λ_=>E1,λh=>by omega,λh=>by omega⟩⟩
    case measure=>simp[intOf]
  ·rcases T7 f with⟨p0,E1⟩|⟨p0,p1,E1⟩|⟨p0,p1,E1⟩
   ·have E1:=E1;go_wp2;go_ret;exact⟨AL (H1.o E1).symm,(Gr.refl w).alloc _⟩
   ·have E1:=E1;go_wp2;go_ret;exact⟨AL (H1.o E1).symm,(Gr.refl w).alloc _⟩
   ·have E1:=E1;go_wp2;go_round
    case rel=>exact⟨2,by omega,by go_num,⟨λ_=>HJ.o.1 Ω,λ_=>E1,λh=>by omega⟩⟩
    case measure=>simp[intOf]
  ·rcases T7 k with⟨p0,E1⟩|⟨p0,p1,E1⟩|⟨p0,p1,E1⟩
   ·have E1:=E1;go_wp2;go_ret;exact⟨AL (H2.o E1).symm,(Gr.refl w).alloc _⟩
   ·have E1:=E1;go_wp2;go_ret;exact⟨AL (H2.o E1).symm,(Gr.refl w).alloc _⟩
   ·have E1:=E1;go_wp2;go_round
    case rel=>exact⟨3,by omega,by go_num,⟨λ_=>HJ.o.1 Ω,λ_=>HJ.o.2.1 Ω,λ_=>E1⟩⟩
    case measure=>simp[intOf]
  ·have j1:=HJ.o.1 Ω;have j2:=HJ.o.2.1 Ω;have j3:=HJ.o.2.2 Ω;have HZ:=ι (HY.o j1 j2 j3);unfold inS at j1 j2 j3;simp only[ζd]at j1 j2 j3;by_cases hs:p+f+k<256
   ·have d0:decide (256<=p+f+k)=false:=φ Ω;have HS:=hs;go_wp2;go_ret;exact⟨AL (by rw[HZ.o,μ HS]),(Gr.refl w).alloc _⟩
   ·have d0:decide (256<=p+f+k)=true:=κ Ω;have HS:=hs;go_wp2;go_ret;exact⟨AL (by rw[HZ.o,ϑ Ω]),(Gr.refl w).alloc _⟩
theorem KW(h:Hdr)(w:World):Calls prog 69 #[AJ h] w λe w'=>e=.returned (iI (B9 h))/\Gr w w':=by
 have HC:=(λW=>MV h W);rcases UF h with he|he
 ·obtain⟨a,b,c,rfl,hs⟩:=NS he;have HN:Hid (B9 ⟨a,b,c⟩=1+(a:Int)+b+c):=⟨μ he⟩;unfold AJ at HC⊢;go_enter func69,ntmps69;go_wp2_with(go_at_call 67;refine(HC _).mono ?_;rintro e w1 ⟨rfl,X⟩;have hl:=(Gr.refl w).alloc (.cells #[.int .i64 a,.int .i64 b,.int .i64 c] 72);have k0:=(X.cell (b:=w.heap.size) (by simp) 0).trans (ζz _ _ _ 0 rfl);have k1:=(X.cell (b:=w.heap.size) (by simp) 1).trans (ζz _ _ _ 1 rfl);have k2:=(X.cell (b:=w.heap.size) (by simp) 2).trans (ζz _ _ _ 2 rfl);have Y:=(hl.trans X));go_ret;exact⟨AL (by rw[HN.o]),Y⟩
 ·have HN:Hid (B9 h=0):=⟨ϑ (by rw[he];decide)⟩;unfold AJ at HC⊢;go_enter func69,ntmps69;go_wp2_with(go_at_call 67;refine(HC _).mono ?_;rintro e w1 ⟨rfl,X⟩;have Y:=(((Gr.refl w).alloc _).trans X));go_ret;exact⟨AL (by rw[HN.o]),Y⟩
def IE(a b c:Nat):Nat:=a+256*b+65536*c+2768240640
def C4(a b c:Nat):Nat:=(4294967295-IE a b c)*4294967296+IE a b c
def BJ(h:Hdr)(i:Int):Int:=if 0<=i/\i<B9 h-1 then (if i<h.p then 1 else if i<h.p+h.f then 2 else 3)else 0
theorem NL(a b i m:Nat)(hm:m=2 ^ i)(h:a<m):a ||| (b*m)=b*m+a:=by
 subst hm;rw[Nat.or_comm,<-Nat.shiftLeft_eq,Nat.shiftLeft_add_eq_or_of_lt h]
theorem Z2Y(n:Nat)(hn:n<4294967296):bits .xor .u32 IntKind.u32.max (n:Int)=((4294967295-n:Nat):Int):=by
 have h1:(BitVec.ofInt 32 (n:Int)).toNat=n:=by
  simp_all
 have h2:BitVec.ofInt 32 IntKind.u32.max=BitVec.allOnes 32:=by decide
 show IntKind.u32.wrap ((BitVec.ofInt 32 IntKind.u32.max ^^^ BitVec.ofInt 32 (n:Int)).toNat:Int)=_
 rw[h2,BitVec.allOnes_xor,BitVec.toNat_not,h1,IntKind.wrap_u32];omega
theorem XiL{a:Nat}(hs:a+b+c<=255):bits .or .u32 (bits .or .u32 (bits .or .u32 (a:Int) ((b:Int)*256)) ((c:Int)*65536)) 2768240640=((IE a b c:Nat):Int):=by
 have e1:((b:Int)*256)=((b*256:Nat):Int):=Ω
 have e2:((c:Int)*65536)=((c*65536:Nat):Int):=Ω
 have e3:(2768240640:Int)=((165*16777216:Nat):Int):=Ω
 rw[e1,e2,e3,u32_or_nat a (b*256) Ω Ω,NL a b 8 256 (by decide) Ω,u32_or_nat _ (c*65536) Ω Ω,NL _ c 16 65536 (by decide) Ω,u32_or_nat _ (165*16777216) Ω Ω,NL _ 165 24 16777216 (by decide) Ω];unfold IE;omega
theorem Vts{a:Nat}(hs:a+b+c<=255):IE a b c<4294967296:=by unfold IE;omega
theorem J0L(hn:n<4294967296):bits .or .u64 (((4294967295-n:Nat):Int)*4294967296) (n:Int)=(((4294967295-n)*4294967296+n:Nat):Int):=by
 have e1:(((4294967295-n:Nat):Int)*4294967296)=(((4294967295-n)*4294967296:Nat):Int):=Ω
 rw[e1,bits_or_u64_nat _ _ Ω Ω,Nat.or_comm,NL _ _ 32 4294967296 (by decide) hn]
theorem Jii{a:Nat}(hs:a+b+c<=255)(w:World):Calls prog 109 #[AJ ⟨a,b,c⟩] w λe w'=>e=.returned (.tuple #[uU (C4 a b c:Nat),iI 0])/\Gr w w':=by
 have HC:=(λW=>MV ⟨a,b,c⟩ W);have HE:=(EE hs);have f1:=XiL hs;have hn:=Vts hs;have HW:Hid (C4 a b c=(4294967295-IE a b c)*4294967296+IE a b c):=⟨rfl⟩;obtain⟨n,Y⟩:∃n,n=IE a b c:=⟨_,rfl⟩;rw[<-Y]at f1 hn HW;have f2:=Z2Y n hn;have f3:=J0L hn;have f4:IntKind.u64.wrap (((4294967295-n:Nat):Int))=((4294967295-n:Nat):Int):=by rw[ξm];omega
 have f5:IntKind.u64.wrap (((4294967295-n:Nat):Int)*4294967296)=((4294967295-n:Nat):Int)*4294967296:=by rw[ξm];omega
 have f6:IntKind.u64.wrap (n:Int)=(n:Int):=by rw[ξm];omega
 generalize 4294967295-n=m at f2 f3 f4 f5 HW;clear Y hn;unfold AJ at HC⊢;go_enter func109,ntmps109;go_wp2_with(go_at_call 67;refine(HC _).mono ?_;rintro e w1 ⟨rfl,X⟩;rw[HE];have hl:=(Gr.refl w).alloc (.cells #[.int .i64 a,.int .i64 b,.int .i64 c] 72);have k0:=(X.cell (b:=w.heap.size) (by simp) 0).trans (ζz _ _ _ 0 rfl);have k1:=(X.cell (b:=w.heap.size) (by simp) 1).trans (ζz _ _ _ 1 rfl);have k2:=(X.cell (b:=w.heap.size) (by simp) 2).trans (ζz _ _ _ 2 rfl);have Z:=(hl.trans X));go_ret2;exact⟨BE (by rw[HW.o];rfl) rfl,Z⟩
def FW(x:Nat):Bool:=decide (x%4294967296/16777216=165)&&decide (x/4294967296=4294967295-x%4294967296)&&decide (x%256+x/256%256+x/65536%256<=255)
def tkH(x:Nat):Hdr:=if FW x then ⟨(x%256:Nat),(x/256%256:Nat),(x/65536%256:Nat)⟩else ⟨0,0,0⟩
def tkE(x:Nat):Int:=if FW x then 0 else 16
theorem SM(n:Nat)(hn:n<4294967296):bits .and .u32 (n:Int) 255=((n%256:Nat):Int):=by
 rw[show (255:Int)=((255:Nat):Int)from rfl,u32_and_nat n 255 hn Ω];have:n &&& 255=n%256:=Nat.and_two_pow_sub_one_eq_mod n 8;omega
theorem RV(W:World)(blk:Nat)(p q r:Value)(h0:W.cell? ⟨blk,0,none⟩=some p)(h1:W.cell? ⟨blk,1,none⟩=some q)(h2:W.cell? ⟨blk,2,none⟩=some r):(loadVar 72 ⟨blk,0,none⟩).run prog W=.ok (.agg #[p,q,r]) W:=by
 have a1:(isAgg 72).run prog W=.ok true W:=by kernel_rfl
 have a2:(sizeOf 72).run prog W=.ok 3 W:=by kernel_rfl
 simp[loadVar,Sem.run_bind,a1,a2,Result.andThen,loadCells,go_sem,h0,h1,h2]
theorem ZBB{ys:List Value}(hg:Gr ((w.alloc (.cells xs.toArray 72)).alloc (.cells ys.toArray 72)) w1):Rec w1 w.heap.size 72 xs/\Rec w1 (w.heap.size+1) 72 ys:=by
 refine⟨((Rec.new w _ xs).gr ((Gr.refl _).alloc _)).gr hg,?_⟩;have:=(Rec.new (w.alloc (.cells xs.toArray 72)) 72 ys).gr hg
 simp_all
theorem YN{o o2:Obj}(hg:Gr ((w.alloc o).alloc o2) w1){x y z:Value}:Gr w (((w1.setCell ⟨w.heap.size,0,none⟩ x).setCell ⟨w.heap.size,1,none⟩ y).setCell ⟨w.heap.size,2,none⟩ z):=by
 have h1:AB (λk=>w.heap.size<=k) w w1:=((((Gr.refl w).alloc o).alloc o2).trans hg).touch _;have h2:=((h1.setCell (a:=⟨w.heap.size,0,none⟩) (λ_=>ν _) x).setCell (a:=⟨w.heap.size,1,none⟩) (λ_=>ν _) y).setCell (a:=⟨w.heap.size,2,none⟩) (λ_=>ν _) z;exact(h2.mono (λk hk h=>by omega)).gr
theorem XFZ(hx:x<18446744073709551616)(w:World):Calls prog 150 #[uU x] w λe w'=>e=.returned (.tuple #[AJ (tkH x),iI (tkE x)])/\Gr w w':=by
 obtain⟨n,hn⟩:∃n,n=x%4294967296:=⟨_,rfl⟩;obtain⟨h,hh⟩:∃h,h=x/4294967296:=⟨_,rfl⟩;obtain⟨a,ha⟩:∃a,a=n%256:=⟨_,rfl⟩;obtain⟨b,hb⟩:∃b,b=n/256%256:=⟨_,rfl⟩;obtain⟨c,hc⟩:∃c,c=n/65536%256:=⟨_,rfl⟩;obtain⟨d,hd⟩:∃d,d=n/16777216:=⟨_,rfl⟩;obtain⟨m,hm⟩:∃m,m=4294967295-n:=⟨_,rfl⟩;have U:n<4294967296:=Ω
 have HT:Hid (FW x=(decide (d=165)&&decide (h=m)&&decide (a+b+c<=255))/\tkH x=if FW x then ⟨(a:Nat),(b:Nat),(c:Nat)⟩else ⟨0,0,0⟩):=⟨by
  have e1:x%256=a:=Ω
  have e2:x/256%256=b:=Ω
  have e3:x/65536%256=c:=Ω
  unfold tkH FW;rw[e1,e2,e3,<-hn,<-hd,<-hh,<-hm]
  exact⟨rfl,rfl⟩⟩
 have g0:(x:Int)%4294967296=(n:Int):=Ω
 have g5:(x:Int)/4294967296=(h:Int):=Ω
 have g1:bits .and .u32 (n:Int) 255=(a:Int):=by rw[SM n U,ha]
 have g2:bits .and .u32 ((n:Int)/256) 255=(b:Int):=by
  rw[show (n:Int)/256=((n/256:Nat):Int)by omega,SM _ Ω,hb]
 have g3:bits .and .u32 ((n:Int)/65536) 255=(c:Int):=by
  rw[show (n:Int)/65536=((n/65536:Nat):Int)by omega,SM _ Ω,hc]
 have g4:(n:Int)/16777216=(d:Int):=Ω
 have g6:bits .xor .u32 IntKind.u32.max (n:Int)=(m:Int):=by rw[Z2Y n U,hm]
 have ba:a<=255:=Ω
 have bb:b<=255:=Ω
 have bc:c<=255:=Ω
 have HC:=(λW=>MV ⟨a,b,c⟩ W)
 have M:CN ⟨a,b,c⟩=if a+b+c<=255 then 0 else 15:=by
  unfold CN inS;simp only[];rw[κ Ω,κ Ω,κ Ω];by_cases h:a+b+c<=255
  ·rw[μ h,κ Ω];rfl
  ·rw[ϑ h,φ Ω];rfl
 have V:=M;clear M;unfold AJ at HC
 have KL:=(show ∀(W:World) (Y:Nat) (p q r:Value),W.cell? ⟨Y,0,none⟩=some p->W.cell? ⟨Y,1,none⟩=some q->W.cell? ⟨Y,2,none⟩=some r->(loadVar 72 ⟨Y,0,none⟩).run prog W=.ok (.agg #[p,q,r]) W by
  intro W Y p q r h0 h1 h2
  exact RV W Y p q r h0 h1 h2)
 clear hn hh ha hb hc hd hm U;by_cases t1:d=165
 ·have HT1:=t1;have d1:((d:Int) !=165)=false:=by rw[t1];rfl
  by_cases t2:h=m
  ·have HT2:=ι t2;have d2:((h:Int) !=(m:Int))=false:=by rw[t2];simp
   have d3:¬ ¬((h:Int)=bits .xor .u32 IntKind.u32.max (n:Int)):=by rw[g6,t2];simp
   by_cases t3:a+b+c<=255
   ·have HK:Hid (CN ⟨a,b,c⟩=0):=⟨by rw[V,μ t3]⟩
    have HE:Hid (tkH x=⟨(a:Nat),(b:Nat),(c:Nat)⟩/\tkE x=0):=⟨by
     have:FW x=true:=by rw[HT.o.1,κ t1,κ t2,κ t3];rfl
     unfold tkE;rw[HT.o.2,this];exact⟨rfl,rfl⟩⟩
    clear t1 t2 t3 HT;go_enter func150,ntmps150;go_wp2_with(go_at_call 67;refine(HC _).mono ?_;rintro e w1 ⟨rfl,X⟩;rw[HK.o];obtain⟨r1,r2⟩:=ZBB (xs:=[iI 0,iI 0,iI 0]) (ys:=[iI a,iI b,iI c]) X;have k0:=r1.cc 0;have k1:=r1.cc 1;have k2:=r1.cc 2;have kf:=r1.free;have k3:=r2.cc 0;have k4:=r2.cc 1;have k5:=r2.cc 2;have J:=r1;have Z:=X;clear X r1 r2);have R3:=Rec.set (Rec.set (Rec.set J 0 (iI a)) 1 (iI b)) 2 (iI c);refine ζK (v:=.tuple #[AJ ⟨a,b,c⟩,iI 0]) ?_ rfl ?_
    ·rw[results_cell_tmp rfl];have hl:=KL _ w.heap.size _ _ _ (R3.cc 0) (R3.cc 1) (R3.cc 2);simp[asAddr,Result.andThen,hl,AJ]
    ·exact⟨by rw[HE.o.1,HE.o.2],YN Z⟩
   ·have HK:Hid (CN ⟨a,b,c⟩=15):=⟨by rw[V,ϑ t3]⟩
    have HE:Hid (tkH x=⟨0,0,0⟩/\tkE x=16):=⟨by
     have:FW x=false:=by rw[HT.o.1,φ t3];simp
     unfold tkE;rw[HT.o.2,this];exact⟨rfl,rfl⟩⟩
    clear t1 t2 t3 HT;go_enter func150,ntmps150;go_wp2_with(go_at_call 67;refine(HC _).mono ?_;rintro e w1 ⟨rfl,X⟩;rw[HK.o];obtain⟨r1,r2⟩:=ZBB (xs:=[iI 0,iI 0,iI 0]) (ys:=[iI a,iI b,iI c]) X;have k0:=r1.cc 0;have k1:=r1.cc 1;have k2:=r1.cc 2;have kf:=r1.free;have k3:=r2.cc 0;have k4:=r2.cc 1;have k5:=r2.cc 2;have J:=r1;have Z:=X;clear X r1 r2);have R3:=Rec.set (Rec.set (Rec.set J 0 (iI 0)) 1 (iI 0)) 2 (iI 0);refine ζK (v:=.tuple #[AJ ⟨0,0,0⟩,iI 16]) ?_ rfl ?_
    ·rw[results_cell_tmp rfl];have hl:=KL _ w.heap.size _ _ _ (R3.cc 0) (R3.cc 1) (R3.cc 2);simp[asAddr,Result.andThen,hl,AJ]
    ·exact⟨by rw[HE.o.1,HE.o.2],YN Z⟩
  ·have d2:((h:Int) !=(m:Int))=true:=by simp;omega
   have d3:¬((h:Int)=bits .xor .u32 IntKind.u32.max (n:Int)):=by rw[g6];omega
   have HE:Hid (tkH x=⟨0,0,0⟩/\tkE x=16):=⟨by
    have:FW x=false:=by rw[HT.o.1,φ t2];simp
    unfold tkE;rw[HT.o.2,this];exact⟨rfl,rfl⟩⟩
   clear t1 t2 HT;go_enter func150,ntmps150;go_wp2;refine ζK (v:=.tuple #[AJ ⟨0,0,0⟩,iI 16]) ?_ rfl ?_
   ·rw[results_cell_tmp rfl];simp[asAddr,Result.andThen,go_sem];rfl
   ·exact⟨by rw[HE.o.1,HE.o.2],((Gr.refl w).alloc _).alloc _⟩
 ·have d1:((d:Int) !=165)=true:=by simp;omega
  have d3:¬((d:Int)=165):=Ω
  have d4:¬((n:Int)/16777216=165):=Ω
  have HE:Hid (tkH x=⟨0,0,0⟩/\tkE x=16):=⟨by
   have:FW x=false:=by rw[HT.o.1,φ t1];simp
   unfold tkE;rw[HT.o.2,this];exact⟨rfl,rfl⟩⟩
  clear t1 HT;go_enter func150,ntmps150;go_wp2;refine ζK (v:=.tuple #[AJ ⟨0,0,0⟩,iI 16]) ?_ rfl ?_
  ·rw[results_cell_tmp rfl];simp[asAddr,Result.andThen,go_sem];rfl
  ·exact⟨by rw[HE.o.1,HE.o.2],((Gr.refl w).alloc _).alloc _⟩
theorem TY{a:Nat}(hs:a+b+c<=255)(i:Int)(w:World):Calls prog 191 #[AJ ⟨a,b,c⟩,iI i] w λe w'=>e=.returned (iI (BJ ⟨a,b,c⟩ i))/\Gr w w':=by
 have hN:B9 ⟨a,b,c⟩=1+(a:Int)+b+c:=μ (EE hs);have HZ:=(λW=>KW ⟨a,b,c⟩ W)
 have HK:Hid (BJ ⟨a,b,c⟩ i=if 0<=i/\i<(a:Int)+b+c then (if i<a then 1 else if i<(a:Int)+b then 2 else 3)else 0):=⟨by
  unfold BJ;rw[hN];simp only[];by_cases h:0<=i/\i<(a:Int)+b+c
  ·rw[μ h,μ Ω]
  ·rw[ϑ h,ϑ Ω]⟩
 rw[hN]at HZ;unfold AJ at HZ⊢;by_cases h0:i<0
 ·have HE:Hid (BJ ⟨a,b,c⟩ i=0):=⟨by rw[HK.o,ϑ Ω]⟩;go_enter func191,ntmps191;go_wp2;go_ret;exact⟨AL (by rw[HE.o]),(Gr.refl w).alloc _⟩
 ·by_cases h1:(a:Int)+b+c<=i
  ·have HE:Hid (BJ ⟨a,b,c⟩ i=0):=⟨by rw[HK.o,ϑ Ω]⟩;have d1:decide (1+(a:Int)+b+c-1<=i)=true:=κ Ω;go_enter func191,ntmps191;go_wp2_with(go_at_call 69;refine(HZ _).mono ?_;rintro e w1 ⟨rfl,X⟩;have Y:=(((Gr.refl w).alloc _).trans X));go_ret;exact⟨AL (by rw[HE.o]),Y⟩
  ·have d1:decide (1+(a:Int)+b+c-1<=i)=false:=φ Ω;have HE:Hid (BJ ⟨a,b,c⟩ i=if i<a then 1 else if i<(a:Int)+b then 2 else 3):=⟨by rw[HK.o,μ Ω]⟩;by_cases h2:i<a
   ·go_enter func191,ntmps191;go_wp2_with(go_at_call 69;refine(HZ _).mono ?_;rintro e w1 ⟨rfl,X⟩;have k0:=(X.cell (b:=w.heap.size) (by simp) 0).trans (ζz _ _ _ 0 rfl);have Y:=(((Gr.refl w).alloc _).trans X));go_ret;exact⟨AL (by rw[HE.o,μ h2]),Y⟩
   ·by_cases h3:i<(a:Int)+b
    ·go_enter func191,ntmps191;go_wp2_with(go_at_call 69;refine(HZ _).mono ?_;rintro e w1 ⟨rfl,X⟩;have k0:=(X.cell (b:=w.heap.size) (by simp) 0).trans (ζz _ _ _ 0 rfl);have k1:=(X.cell (b:=w.heap.size) (by simp) 1).trans (ζz _ _ _ 1 rfl);have Y:=(((Gr.refl w).alloc _).trans X));go_ret;exact⟨AL (by rw[HE.o,ϑ Ω,μ h3]),Y⟩
    ·go_enter func191,ntmps191;go_wp2_with(go_at_call 69;refine(HZ _).mono ?_;rintro e w1 ⟨rfl,X⟩;have k0:=(X.cell (b:=w.heap.size) (by simp) 0).trans (ζz _ _ _ 0 rfl);have k1:=(X.cell (b:=w.heap.size) (by simp) 1).trans (ζz _ _ _ 1 rfl);have Y:=(((Gr.refl w).alloc _).trans X));go_ret;exact⟨AL (by rw[HE.o,ϑ Ω,ϑ Ω]),Y⟩
def spV(q:Nat):Value:=.iface 78 (pP q)
theorem VR(n:Nat)(a:Addr)(w:World):(nilAhead (n+1) 78 (.pointer (some a)) "Load").run prog w=.ok (some false) w:=by kernel_rfl
theorem TJ(n:Nat)(a:Addr)(w:World):(method (n+1) 78 (.pointer (some a)) "Load").run prog w=.ok (190,.pointer (some a)) w:=by kernel_rfl
def Vm.rdH(v:Vm)(a:Int):Hdr:=if 0<a/\v.ldE a=0 then tkH (v.ldV a)else ⟨0,0,0⟩
def Vm.rdE(v:Vm)(a:Int):Int:=if a=0 then 18 else if a<0 then 5 else if v.ldE a=0 then tkE (v.ldV a)else v.ldE a
theorem AF.ldV_lt{v:Vm}(h:AF v)(a:Int):v.ldV a<18446744073709551616:=by
 unfold Vm.ldV
 split
 ·rw[ω];rcases χ (v.at a) v.pl.wd.length with hl|hl
  ·rw[ζa hl];exact h.pl.w64 _ (π hl)
  simp_all
 ·decide
structure Sp where
 T:TypeId
 rv:Value
 FL:FuncId
 P:Int->Prop
 M:Prop
 D:Nat->Prop
 I:Vm->(Nat->Prop)->World->Prop
variable{z:Sp}
def Sp.v(z:Sp):Value:=.iface z.T z.rv
structure Sp.Ok(z:Sp):Prop where
 nl:∀n w,(nilAhead (n+1) z.T z.rv "Load").run prog w=.ok (some false) w
 ml:∀n w,(method (n+1) z.T z.rv "Load").run prog w=.ok (z.FL,z.rv) w
 cl:∀args w,(callFunc z.FL args).run prog w=.ok (.enter z.FL args) w
 nn:∀w,(binOp BinOp.eql 114 (.iface z.T z.rv) .nilIface).run prog w=.ok (.bool false) w
 ok:∀{u S w},z.I u S w->AF u
 fr:∀{u S S' T' w w'},z.I u S w->AB T' w w'->(∀k,k<w.heap.size->T' k->¬S k/\¬z.D k)->(∀k,S k->S' k)->z.I u S' w'
 nw:∀{u S w},z.I u S w->∀k,z.D k->k<w.heap.size
 ct:∀{u S w},z.I u S w->z.I u (AE S w) w
 ld:∀{u S w},z.I u S w->∀a,z.P a->Calls prog z.FL #[z.rv,iI a] w (λe w'=>e=.returned (.tuple #[uU (u.ldV a:Nat),iI (u.ldE a)])/\AB (λk=>z.M/\S k) w w'/\z.I u (plus S w) w')
def Sp.E(z:Sp)(u:Vm)(S:Nat->Prop)(w w':World):Prop:=AB (λk=>z.M/\S k) w w'/\z.I u (plus S w) w'
theorem Sp.Ok.gr(h:Sp.Ok z)(hI:z.I u S w)(g:Gr w w'):z.I u S w':=h.fr hI (g.touch (λ_=>False)) (λ_ _ h=>h.elim) (λ_ h=>h)
theorem Sp.Ok.mono(h:Sp.Ok z)(hI:z.I u S w)(hs:∀k,S k->S' k):z.I u S' w:=h.fr hI (AB.refl (λ_=>False) w) (λ_ _ h=>h.elim) hs
theorem Sp.Ok.get(h:Sp.Ok z)(hI:z.I u S w)(g:Gr w w'):z.E u S w w':=⟨g.touch _,h.mono (h.gr hI g) (λ_ h=>.inl h)⟩
theorem Sp.E.ro(h:z.E u S w w')(hM:¬z.M):Gr w w':=(h.1.mono (λ_ _ hk=>hM hk.1)).gr
theorem Sp.E.trans(h:z.E u S w w1)(k:z.E u (plus S w) w1 w')(hS:Sp.Ok z):z.E u S w w':=by
 have hz:=h.1.size;refine⟨h.1.trans' k.1 (λ_ hi hh=>⟨hh.1,hh.2.elim id (λh=>by omega)⟩),hS.mono k.2 (λi hi=>?_)⟩;rcases hi with h1|h1
 ·exact h1
 ·exact .inr Ω
theorem Sp.E.gr(h:z.E u S w w1)(g:Gr w1 w')(hS:Sp.Ok z):z.E u S w w':=⟨h.1.trans (g.touch _),hS.gr h.2 g⟩
theorem Sp.E.rec{t:Nat}(h:z.E u (AE S w) w1 w')(hr:Rec w1 b t xs)(hb:w.heap.size<=b):Rec w' b t xs:=hr.touch h.1 (λhh=>by have:=hh.2.2;omega)
theorem Sp.E.cells(h:z.E u (AE S w) w1 w')(hS:Sp.Ok z)(hI:z.I u S w)(g:Gr w w1)(hb:w.heap.size<=b)(hb1:b<w1.heap.size){w2:World}(t:AB (λk=>k=b) w' w2):z.E u S w w2:=by
 refine⟨(((g.touch (λk=>z.M/\S k)).trans' h.1 (λ_ _ hh=>⟨hh.1,hh.2.1⟩))).trans' t (λi hi hh=>by omega),hS.fr h.2 t (λi _ hh=>?_) (λi hi=>?_)⟩
 ·refine⟨λhp=>?_,λhd=>?_⟩
  ·rcases hp with hp|hp
   ·have:=hp.2;omega
   ·omega
  ·have:=hS.nw hI _ hd;omega
 ·rcases hi with h1|h1
  ·exact .inl h1.1
  ·exact .inr (γ g.size h1)
theorem ZGx(W:World)(b:Nat)(x y z:Value):AB (λk=>k=b) W (((W.setCell ⟨b,0,none⟩ x).setCell ⟨b,1,none⟩ y).setCell ⟨b,2,none⟩ z):=
 (((AB.refl (λk=>k=b) W).setCell (a:=⟨b,0,none⟩) (λ_=>rfl) x).setCell (a:=⟨b,1,none⟩) (λ_=>rfl) y).setCell (a:=⟨b,2,none⟩) (λ_=>rfl) z
theorem MQ(hS:Sp.Ok z)(hI:z.I u S w)(a:Int)(hP:0<a->z.P a):Calls prog 104 #[z.v,iI a] w λe w'=>e=.returned (.tuple #[AJ (u.rdH a),iI (u.rdE a)])/\z.E u S w w':=by
 have HS:=hS;have HI:=hI;have U:=hS.ok hI;have hx:=U.ldV_lt a;have n1:=hS.nl;have n2:=hS.ml;have n3:=hS.cl;unfold Sp.v;have KL:=(λ(W:World) (blk:Nat) (p q r:Value)=>RV W blk p q r);rcases(by omega:a=0\/a<0\/0<a)with h0|h0|h0
 ·subst h0;go_enter func104,ntmps104;go_wp2;refine ζK (v:=.tuple #[AJ ⟨0,0,0⟩,iI 18]) ?_ rfl ?_
  ·rw[results_cell_tmp rfl];simp[asAddr,Result.andThen,go_sem];rfl
  ·exact⟨rfl,HS.get HI ((Gr.refl w).alloc _)⟩
 ·have d0:(a==0)=false:=by simp;omega
  have d1:decide (a<0)=true:=κ h0;have HE:Hid (u.rdH a=⟨0,0,0⟩/\u.rdE a=5):=⟨⟨ϑ Ω,by unfold Vm.rdE;rw[ϑ Ω,μ h0]⟩⟩;go_enter func104,ntmps104;go_wp2;refine ζK (v:=.tuple #[AJ ⟨0,0,0⟩,iI 5]) ?_ rfl ?_
  ·rw[results_cell_tmp rfl];simp[asAddr,Result.andThen,go_sem];rfl
  ·exact⟨by rw[HE.o.1,HE.o.2],HS.get HI ((Gr.refl w).alloc _)⟩
 ·have d0:(a==0)=false:=by simp;omega
  have d1:decide (a<0)=false:=φ Ω;have Y:=(hS.ld (hS.gr (hS.ct hI) ((Gr.refl w).alloc (.cells #[.int .i64 0,.int .i64 0,.int .i64 0] 72))) a (hP h0));by_cases hE:u.ldE a=0
  ·have HE:Hid (u.rdH a=tkH (u.ldV a)/\u.rdE a=tkE (u.ldV a)):=⟨⟨μ ⟨h0,hE⟩,by unfold Vm.rdE;rw[ϑ Ω,ϑ Ω,μ hE]⟩⟩;have HT:=(λW=>XFZ hx W);have hh:AJ (tkH (u.ldV a))=.agg #[iI (tkH (u.ldV a)).p,iI (tkH (u.ldV a)).f,iI (tkH (u.ldV a)).k]:=rfl;rw[hh]at HT;rw[hE]at Y;generalize tkH (u.ldV a)=h at HT HE;generalize tkE (u.ldV a)=er at HT HE;obtain⟨p,f,k⟩:=h;go_enter func104,ntmps104
   go_wp2_with(first
    | (go_at_call 150;refine(HT _).mono ?_;rintro e w2 ⟨rfl,V⟩;have r2:=J.gr V;have k0:=r2.cc 0;have k1:=r2.cc 1;have k2:=r2.cc 2;have kf:=r2.free;have N:=r2;have M:=(Z.o.gr V HS))
    | (refine Y.mono ?_;rintro e w1 ⟨rfl,X⟩;have Z:Hid (z.E u (AE S w) _ w1):=⟨X⟩;have J:=(Sp.E.rec (z:=z) X (Rec.new w 72 [iI 0,iI 0,iI 0]) (ν _))))
   have R3:=Rec.set (Rec.set (Rec.set N 0 (iI p)) 1 (iI f)) 2 (iI k);refine ζK (v:=.tuple #[AJ ⟨p,f,k⟩,iI er]) ?_ rfl ?_
   ·rw[results_cell_tmp rfl];have hl:=KL _ w.heap.size _ _ _ (R3.cc 0) (R3.cc 1) (R3.cc 2);simp[asAddr,Result.andThen,hl,AJ]
   ·exact⟨by rw[HE.o.1,HE.o.2],M.cells HS HI ((Gr.refl w).alloc _) (ν _) (by rw[β];omega) (ZGx _ _ _ _ _)⟩
  ·have HE:Hid (u.rdH a=⟨0,0,0⟩/\u.rdE a=u.ldE a):=⟨⟨ϑ (λh=>hE h.2),by unfold Vm.rdE;rw[ϑ Ω,ϑ Ω,ϑ hE]⟩⟩;obtain⟨y,hy⟩:∃y,y=u.ldE a:=⟨_,rfl⟩;have d2:(y==0)=false:=by rw[hy];simpa using hE
   rw[<-hy]at Y;have HY:=ι hy;clear hE hy hS hI hP U;go_enter func104,ntmps104;go_wp2_with(refine Y.mono ?_;rintro e w1 ⟨rfl,X⟩;have Z:Hid (z.E u (AE S w) _ w1):=⟨X⟩;have r2:=Sp.E.rec (z:=z) X (Rec.new w 72 [iI 0,iI 0,iI 0]) (ν _);have k0:=r2.cc 0;have k1:=r2.cc 1;have k2:=r2.cc 2;have kf:=r2.free;have J:=r2);have R3:=Rec.set (Rec.set (Rec.set J 0 (iI 0)) 1 (iI 0)) 2 (iI 0);refine ζK (v:=.tuple #[AJ ⟨0,0,0⟩,iI y]) ?_ rfl ?_
   ·rw[results_cell_tmp rfl];have hl:=KL _ w.heap.size _ _ _ (R3.cc 0) (R3.cc 1) (R3.cc 2);simp[asAddr,Result.andThen,hl,AJ]
   ·exact⟨by rw[HE.o.1,HE.o.2,HY.o],Z.o.cells HS HI ((Gr.refl w).alloc _) (ν _) (by rw[β];omega) (ZGx _ _ _ _ _)⟩
def spM(q:Nat):Sp:=⟨78,pP q,190,λ_=>True,False,λ_=>False,λu S w=>AD w S q u⟩
theorem QQ(q:Nat):(spM q).Ok:=
 ⟨λn w=>VR n _ w,λn w=>TJ n _ w,λargs w=>by kernel_rfl,λw=>by kernel_rfl,λh=>AD.ok h,λh t hT hs=>AD.mono (AD.touch h t (λk hk hl=>λht=>(hT k hl ht).1 hk)) hs,λ_ _ h=>h.elim,λh=>AD.cut h,
  λ{u S w} h a _=>(LQ (S:=S) h a).mono λ_ _ hh=>⟨hh.1,hh.2.touch _,AD.mono (AD.gr h hh.2) (λ_ h=>.inl h)⟩⟩
section
variable{v:Vm}
theorem ON(hV:AD w S q v)(a:Int):Calls prog 104 #[spV q,iI a] w λe w'=>e=.returned (.tuple #[AJ (v.rdH a),iI (v.rdE a)])/\Gr w w':=
 (MQ (z:=spM q) (QQ q) hV a (λ_=>trivial)).mono λ_ _ h=>⟨h.1,h.2.ro (λh=>h)⟩
end
def Vm.plE(v:Vm)(a i kd:Int):Int:=if v.rdE a≠0 then v.rdE a else if BJ (v.rdH a) i=kd then 0 else if BJ (v.rdH a) i=0 then 19 else 20
def Vm.plA(v:Vm)(a i kd:Int):Int:=if v.plE a i kd=0 then a+1+i else 0
def Vm.gtE(v:Vm)(a i kd:Int):Int:=if v.plE a i kd≠0 then v.plE a i kd else v.ldE (a+1+i)
def Vm.gtV(v:Vm)(a i kd:Int):Nat:=if v.plE a i kd≠0 then 0 else v.ldV (a+1+i)
def Vm.ptE(v:Vm)(a i:Int):Int:=if v.gtE a i 1≠0 then v.gtE a i 1 else if 2147483647<v.gtV a i 1 then 25 else 0
def Vm.ptV(v:Vm)(a i:Int):Nat:=if v.ptE a i=0 then v.gtV a i 1 else 0
theorem Jzk(h:tkE x=0):∃p f k:Nat,tkH x=⟨p,f,k⟩/\p+f+k<=255:=by
 unfold tkE at h
 split at h
 ·rename_i ho;refine⟨x%256,x/256%256,x/65536%256,μ ho,?_⟩;unfold FW at ho
  simp_all
 ·cases h
theorem FT{v:Vm}(h:v.rdE a=0):0<a/\v.ldE a=0/\∃p f k:Nat,v.rdH a=⟨p,f,k⟩/\p+f+k<=255:=by
 unfold Vm.rdE at h
 split at h
 ·cases h
 ·split at h
  ·cases h
  ·split at h
   ·rename_i h0;have ha:0<a:=Ω
    refine⟨ha,h0,?_⟩;obtain⟨p,f,k,e1,e2⟩:=Jzk h;exact⟨p,f,k,by unfold Vm.rdH;simp_all,e2⟩
   omega
theorem JU{v:Vm}(h:v.ldE a=0):0<=a/\a<v.n:=by
 grind [AF.hit]
section
variable{v:Vm}
theorem OV(hS:Sp.Ok z)(hI:z.I v S w)(a i kd:Int)(hk:kd≠0)(hP:0<a->z.P a):Calls prog 149 #[z.v,iI a,iI i,iI kd] w λe w'=>e=.returned (.tuple #[iI (v.plA a i kd),iI (v.plE a i kd)])/\z.E v S w w':=by
 have HS:=hS;have hn:=(hS.ok hI).n2;have Y:=(MQ hS hI a hP);by_cases hE:v.rdE a=0
 ·obtain⟨ha,hl,p,f,k,hh,hs⟩:=FT hE;have hr:=JU hl;rw[hh]at Y;have HP:Hid (v.plE a i kd=if BJ ⟨p,f,k⟩ i=kd then 0 else if BJ ⟨p,f,k⟩ i=0 then 19 else 20):=⟨by unfold Vm.plE;rw[ϑ (λh=>h hE),hh]⟩;have HA:Hid (v.plA a i kd=if v.plE a i kd=0 then a+1+i else 0):=⟨rfl⟩;have HK:=(λW=>TY hs i W);have hN:B9 ⟨p,f,k⟩=1+(p:Int)+f+k:=μ (EE hs)
  have M:BJ ⟨p,f,k⟩ i≠0->0<=i/\i<255:=λh=>by
   unfold BJ at h
   split at h
   ·rename_i h';rw[hN]at h';omega
   ·exact absurd rfl h
  generalize BJ ⟨(p:Int),(f:Int),(k:Int)⟩ i=kk at HP HK M;have HE:=hE;unfold AJ at Y HK;by_cases h1:kk=kd
  ·have e0:v.plE a i kd=0:=by rw[HP.o,μ h1]
   have X:Hid (v.plE a i kd=0/\v.plA a i kd=a+1+i):=⟨⟨e0,by rw[HA.o,μ e0]⟩⟩;have hii:=M (by rw[h1];exact hk);go_enter func149,ntmps149
   go_wp2_with(first
    | (go_at_call 104;refine(Y).mono ?_;rintro e w1 ⟨rfl,J⟩;rw[HE];have Z:=J)
    | (go_at_call 191;refine(HK _).mono ?_;rintro e w2 ⟨rfl,V⟩;have U:=V))
   go_ret2;exact⟨BE (BH (by rw[X.o.2])) (BH (by rw[X.o.1])),Z.gr (((Gr.refl _).alloc _).trans U) HS⟩
  ·by_cases h2:kk=0
   ·have e0:v.plE a i kd=19:=by rw[HP.o,ϑ h1,μ h2]
    have X:Hid (v.plE a i kd=19/\v.plA a i kd=0):=⟨⟨e0,by rw[HA.o,ϑ (by rw[e0];decide)]⟩⟩;go_enter func149,ntmps149
    go_wp2_with(first
     | (go_at_call 104;refine(Y).mono ?_;rintro e w1 ⟨rfl,J⟩;rw[HE];have Z:=J)
     | (go_at_call 191;refine(HK _).mono ?_;rintro e w2 ⟨rfl,V⟩;have U:=V))
    go_ret2;exact⟨BE (BH (by rw[X.o.2])) (BH (by rw[X.o.1])),Z.gr (((Gr.refl _).alloc _).trans U) HS⟩
   ·have e0:v.plE a i kd=20:=by rw[HP.o,ϑ h1,ϑ h2]
    have X:Hid (v.plE a i kd=20/\v.plA a i kd=0):=⟨⟨e0,by rw[HA.o,ϑ (by rw[e0];decide)]⟩⟩;go_enter func149,ntmps149
    go_wp2_with(first
     | (go_at_call 104;refine(Y).mono ?_;rintro e w1 ⟨rfl,J⟩;rw[HE];have Z:=J)
     | (go_at_call 191;refine(HK _).mono ?_;rintro e w2 ⟨rfl,V⟩;have U:=V))
    go_ret2;exact⟨BE (BH (by rw[X.o.2])) (BH (by rw[X.o.1])),Z.gr (((Gr.refl _).alloc _).trans U) HS⟩
 ·have e1:v.plE a i kd=v.rdE a:=by unfold Vm.plE;rw[μ hE]
  have X:Hid (v.plE a i kd=v.rdE a/\v.plA a i kd=0):=⟨⟨e1,by unfold Vm.plA;rw[ϑ (by rw[e1];exact hE)]⟩⟩;obtain⟨y,hy⟩:∃y,y=v.rdE a:=⟨_,rfl⟩;have d2:(y==0)=false:=by rw[hy];simpa using hE
  rw[<-hy]at X Y;clear hE hy e1 hS hI hP;unfold AJ at Y;go_enter func149,ntmps149;go_wp2_with(go_at_call 104;refine(Y).mono ?_;rintro e w1 ⟨rfl,J⟩;have Z:=J);go_ret2;exact⟨BE (BH (by rw[X.o.2])) (BH (by rw[X.o.1])),Z.gr ((Gr.refl _).alloc _) HS⟩
theorem VQ(hS:Sp.Ok z)(hI:z.I v S w)(a i kd:Int)(hk:kd≠0)(hP:0<a->z.P a)(hQ:v.plE a i kd=0->z.P (a+1+i)):Calls prog 101 #[z.v,iI a,iI i,iI kd] w λe w'=>e=.returned (.tuple #[uU (v.gtV a i kd:Nat),iI (v.gtE a i kd)])/\z.E v S w w':=by
 have HS:=hS;have X:=(OV hS hI a i kd hk hP);have n2:=hS.ml;have n3:=hS.cl;unfold Sp.v at X⊢;by_cases hE:v.plE a i kd=0
 ·have HE:Hid (v.gtE a i kd=v.ldE (a+1+i)/\v.gtV a i kd=v.ldV (a+1+i)):=⟨⟨ϑ (λh=>h hE),ϑ (λh=>h hE)⟩⟩;have HA:Hid (v.plA a i kd=a+1+i):=⟨μ hE⟩;rw[hE,HA.o]at X;have J:=(hQ hE);generalize a+1+i=V at HE X J;go_enter func101,ntmps101
  go_wp2_with(first
   | (go_at_call 149;refine(X).mono ?_;rintro e w1 ⟨rfl,Z⟩;have Y:=Z)
   | (refine(HS.ld Y.2 V J).mono ?_;rintro e w2 ⟨rfl,M⟩;have U:Hid (z.E v (plus S w) w1 w2):=⟨M⟩))
  go_ret2;exact⟨BE (congrArg (λn:Nat=>uU (n:Int)) HE.o.2.symm) (BH HE.o.1.symm),Y.trans U.o HS⟩
 ·have HE:Hid (v.gtE a i kd=v.plE a i kd/\v.gtV a i kd=0):=⟨⟨μ hE,μ hE⟩⟩;obtain⟨y,hy⟩:∃y,y=v.plE a i kd:=⟨_,rfl⟩;have d2:(y==0)=false:=by simp_all
  rw[<-hy]at HE X;clear hE hy hS hI hP hQ;go_enter func101,ntmps101;go_wp2_with(go_at_call 149;refine(X).mono ?_;rintro e w1 ⟨rfl,Z⟩;have Y:=Z);go_ret2;exact⟨BE (congrArg (λn:Nat=>uU (n:Int)) HE.o.2.symm) (BH HE.o.1.symm),Y⟩
theorem Jk4(hok:AF v)(a i kd:Int):v.gtV a i kd<18446744073709551616:=by
 unfold Vm.gtV
 split
 ·decide
 ·exact hok.ldV_lt _
theorem WS(hS:Sp.Ok z)(hI:z.I v S w)(a i:Int)(hP:0<a->z.P a)(hQ:v.plE a i 1=0->z.P (a+1+i)):Calls prog 57 #[z.v,iI a,iI i] w λe w'=>e=.returned (.tuple #[iI (v.ptV a i:Nat),iI (v.ptE a i)])/\z.E v S w w':=by
 have HS:=hS;have X:=(VQ hS hI a i 1 (by decide) hP hQ);have hx:=Jk4 (hS.ok hI) a i 1;unfold Sp.v at X⊢;by_cases hE:v.gtE a i 1=0
 ·by_cases hb:2147483647<v.gtV a i 1
  ·have e1:v.ptE a i=25:=by unfold Vm.ptE;rw[ϑ (λh=>h hE),μ hb]
   have HE:Hid (v.ptE a i=25/\v.ptV a i=0):=⟨⟨e1,by unfold Vm.ptV;rw[ϑ (by rw[e1];decide)]⟩⟩;rw[hE]at X;generalize v.gtV a i 1=x at X hb hx;have d0:decide (2147483647<(x:Int))=true:=κ Ω;go_enter func57,ntmps57;go_wp2_with(go_at_call 101;refine(X).mono ?_;rintro e w1 ⟨rfl,Z⟩;have Y:=Z);go_ret2;exact⟨BE (congrArg (λn:Nat=>iI (n:Int)) HE.o.2.symm) (BH HE.o.1.symm),Y⟩
  ·have e1:v.ptE a i=0:=by unfold Vm.ptE;rw[ϑ (λh=>h hE),ϑ hb]
   have HE:Hid (v.ptE a i=0/\v.ptV a i=v.gtV a i 1):=⟨⟨e1,by unfold Vm.ptV;rw[μ e1]⟩⟩;rw[hE]at X;generalize v.gtV a i 1=x at X hb hx HE;have d0:decide (2147483647<(x:Int))=false:=φ Ω;go_enter func57,ntmps57;go_wp2_with(go_at_call 101;refine(X).mono ?_;rintro e w1 ⟨rfl,Z⟩;have Y:=Z);go_ret2;exact⟨BE (congrArg (λn:Nat=>iI (n:Int)) HE.o.2.symm) (BH HE.o.1.symm),Y⟩
 ·have e1:v.ptE a i=v.gtE a i 1:=by unfold Vm.ptE;rw[μ hE]
  have HE:Hid (v.ptE a i=v.gtE a i 1/\v.ptV a i=0):=⟨⟨e1,by unfold Vm.ptV;rw[ϑ (by rw[e1];exact hE)]⟩⟩;obtain⟨y,hy⟩:∃y,y=v.gtE a i 1:=⟨_,rfl⟩;have d2:(y==0)=false:=by rw[hy];simpa using hE
  rw[<-hy]at HE X;clear hE hy hS hI e1 hP hQ;go_enter func57,ntmps57;go_wp2_with(go_at_call 101;refine(X).mono ?_;rintro e w1 ⟨rfl,Z⟩;have Y:=Z);go_ret2;exact⟨BE (congrArg (λn:Nat=>iI (n:Int)) HE.o.2.symm) (BH HE.o.1.symm),Y⟩
end
section
variable{v:Vm}
theorem JNY(hV:AD w S q v)(a i kd:Int)(hk:kd≠0):Calls prog 149 #[spV q,iI a,iI i,iI kd] w λe w'=>e=.returned (.tuple #[iI (v.plA a i kd),iI (v.plE a i kd)])/\Gr w w':=
 (OV (z:=spM q) (QQ q) hV a i kd hk (λ_=>trivial)).mono λ_ _ h=>⟨h.1,h.2.ro (λh=>h)⟩
theorem ZZi(hV:AD w S q v)(a i:Int):Calls prog 57 #[spV q,iI a,iI i] w λe w'=>e=.returned (.tuple #[iI (v.ptV a i:Nat),iI (v.ptE a i)])/\Gr w w':=
 (WS (z:=spM q) (QQ q) hV a i (λ_=>trivial) (λ_=>trivial)).mono λ_ _ h=>⟨h.1,h.2.ro (λh=>h)⟩
end
def WX(v:Vm)(a b:Int):Prop:=v.rdE a=0/\∃i:Nat,(i:Int)<(v.rdH a).p/\v.ptE a i=0/\v.ptV a i≠0/\b=(v.ptV a i:Nat)
def Rch(v:Vm)(rs:List Int)(a:Int):Prop:=∀P:Int->Prop,(∀r∈rs,r≠0->P r)->(∀a b,P a->WX v a b->P b)->P a
theorem Rch.root{v:Vm}{r:Int}(h:r∈rs)(h0:r≠0):Rch v rs r:=λ_ h1 _=>h1 r h h0
theorem Rch.step{v:Vm}{b:Int}(h:Rch v rs a)(hp:WX v a b):Rch v rs b:=λP h1 h2=>h2 a b (h P h1 h2) hp
def Vm.osz(v:Vm)(a:Int):Int:=B9 (v.rdH a)
structure CE(v:Vm)(rs:List Int)(n:Nat):Prop where
 rd:∀a,Rch v rs a->v.rdE a=0
 pt:∀a,Rch v rs a->∀i:Nat,(i:Int)<(v.rdH a).p->v.ptE a i=0
 rm:∀a,Rch v rs a->a+v.osz a<=n
 dj:∀a b,Rch v rs a->Rch v rs b->a=b\/a+v.osz a<=b\/b+v.osz b<=a
def Hs(L:List Ob)(a:Int):Prop:=∃o∈L,(o.1:Int)=a
structure Mk(v:Vm)(rs:List Int)(n:Nat)(L:List Ob):Prop where
 good:AO n L
 ats:∀o∈L,Rch v rs o.1/\v.rdE o.1=0/\(o.2:Int)=v.osz o.1
theorem Mk.nil(v:Vm)(rs:List Int)(n:Nat):Mk v rs n []:=⟨AO.nil n,λ_ h=>by cases h⟩
theorem C9{v:Vm}(h:v.rdE a=0):0<a/\1<=v.osz a/\v.osz a<=256:=by
 obtain⟨h0,-,p,f,k,e,hs⟩:=FT h;refine⟨h0,?_⟩;unfold Vm.osz;rw[e,show B9 ⟨p,f,k⟩=1+(p:Int)+f+k from μ (EE hs)];omega
theorem Mk.hs{v:Vm}(h:Mk v rs n L)(ha:Hs L a):Rch v rs a/\v.rdE a=0:=by
 obtain⟨o,ho,rfl⟩:=ha;exact⟨(h.ats o ho).1,(h.ats o ho).2.1⟩
theorem QH9{v:Vm}{b:Int}(hr:v.rdE a=0)(he:C5 L n a (v.osz a)=0):Hs (CX L n a (v.osz a)) b↔b=a\/Hs L b:=by
 have h0:=(C9 hr).1;unfold CX Hs;rw[μ he];constructor
 ·rintro⟨o,ho,rfl⟩;rcases F3.1 ho with rfl|ho
  ·left;omega
  grind
 ·rintro(rfl|⟨o,ho,rfl⟩)
  ·exact⟨_,F3.2 (.inl rfl),by omega⟩
  ·exact⟨o,F3.2 (.inr ho),rfl⟩
theorem Mk.add{v:Vm}(h:Mk v rs n L)(ha:Rch v rs a)(hr:v.rdE a=0)(he:C5 L n a (v.osz a)=0):Mk v rs n (CX L n a (v.osz a)):=by
 refine⟨V9U h.good _ _,λo ho=>?_⟩;have hp:=C9 hr;unfold CX at ho;rw[μ he]at ho;rcases F3.1 ho with rfl|ho
 ·grind
 ·exact h.ats o ho
theorem ZoS{s z:Int}(he:C5 L n s z=0):(CX L n s z).length=L.length+1:=by
 unfold CX;rw[μ he,YKx]
theorem Mk.fail{v:Vm}(h:Mk v rs n L)(ha:Rch v rs a)(hn:¬Hs L a)(he:C5 L n a (v.osz a)≠0):¬CE v rs n:=λhS=>by
 have hr:=hS.rd a ha;have hp:=C9 hr;have hm:=hS.rm a ha;unfold C5 at he;rw[ϑ Ω,ϑ Ω]at he
 split at he
 ·rename_i hc;obtain⟨o,ho,h1,h2⟩:=QO.1 hc;obtain⟨q1,q2,q3⟩:=h.ats o ho;rcases hS.dj a o.1 ha q1 with e|e|e
  ·exact hn ⟨o,ho,e.symm⟩
  ·omega
  ·omega
 omega
def Cl(v:Vm)(L:List Ob)(a:Int):Prop:=∀i:Nat,(i:Int)<(v.rdH a).p->v.ptE a i=0/\(v.ptV a i≠0->Hs L (v.ptV a i:Nat))
structure BD(v:Vm)(rs:List Int)(n:Nat)(L:List Ob):Prop where
 mkd:Mk v rs n L
 all:∀a,Rch v rs a->Hs L a
 cl:∀o∈L,Cl v L o.1
theorem BD.of{v:Vm}(h:Mk v rs n L)(hr:∀r∈rs,r≠0->Hs L r)(hc:∀o∈L,Cl v L o.1):BD v rs n L:=by
 refine⟨h,λa ha=>ha (Hs L) hr ?_,hc⟩;rintro a b ⟨o,ho,rfl⟩ ⟨-,i,hi,h0,h1,rfl⟩;exact(hc o ho i hi).2 h1
theorem BD.sound{v:Vm}(h:BD v rs n L):CE v rs n:=by
 refine⟨λa ha=>(h.mkd.hs (h.all a ha)).2,λa ha i hi=>?_,λa ha=>?_,λa b ha hb=>?_⟩
 ·obtain⟨o,ho,rfl⟩:=h.all a ha;exact(h.cl o ho i hi).1
 ·obtain⟨o,ho,rfl⟩:=h.all a ha;have:=(h.mkd.good.sz o ho).2;have:=(h.mkd.ats o ho).2.2;omega
 ·obtain⟨o,ho,rfl⟩:=h.all a ha;obtain⟨q,hq,rfl⟩:=h.all b hb;have:=(h.mkd.ats o ho).2.2;have:=(h.mkd.ats q hq).2.2;rcases h.mkd.good.disj ho hq with e|e|e
  ·left;rw[e]
  ·omega
  omega
theorem YKj(h1:L.Pairwise (λo q=>o.1<q.1))(h2:M.Pairwise (λo q=>o.1<q.1))(h:∀x,x∈L↔x∈M):L=M:=by
 induction L generalizing M with
 | nil=>
  cases M with
  | nil=>rfl
  | cons m M=>grind [ζi]
 | cons l L ih=>
  cases M with
  | nil=>grind
  | cons m M=>
   obtain⟨a1,a2⟩:=ξd.1 h1;obtain⟨b1,b2⟩:=ξd.1 h2
   grind
theorem AO.lt(h:AO n L):L.Pairwise (λo q=>o.1<q.1):=by
 refine List.pairwise_iff_getElem.2 λi j hi hj hij=>?_;have:=h.at hi hj hij;have:=(h.sz _ (π hi)).1;omega
theorem BD.unique{v:Vm}(h:BD v rs n L)(h':BD v rs n M):L=M:=by
 have X:∀{L M:List Ob},BD v rs n L->BD v rs n M->∀x∈L,x∈M:=λ{L M} h h' x hx=>by
  obtain⟨q1,q2,q3⟩:=h.mkd.ats x hx;obtain⟨o,ho,e⟩:=h'.all _ q1;obtain⟨p1,p2,p3⟩:=h'.mkd.ats o ho
  grind
 exact YKj h.mkd.good.lt h'.mkd.good.lt λx=>⟨X h h' x,X h' h x⟩
structure MkS where
 L:List Ob
 st:List Int
 lost:Bool
variable{s:MkS}
def MkS.push(s:MkS)(R:Nat)(L':List Ob)(a:Int):MkS:=if s.st.length<R then ⟨L',s.st++[a],s.lost⟩else ⟨L',s.st,true⟩
structure DG(s s':MkS):Prop where
 sub:∀a,Hs s.L a->Hs s'.L a
 len:s.L.length<=s'.L.length
 los:s'.lost=true->s.lost=true\/s.L.length<s'.L.length
 mea:2*s.L.length+s'.st.length<=2*s'.L.length+s.st.length
theorem DG.refl(s:MkS):DG s s:=⟨λ_ h=>h,ν _,λh=>.inl h,ν _⟩
theorem DG.trans{t u:MkS}(h:DG s t)(k:DG t u):DG s u:=
 ⟨λa ha=>k.sub a (h.sub a ha),γ h.len k.len,λhl=>by
  rcases k.los hl with h1|h1
  ·rcases h.los h1 with h2|h2
   ·exact .inl h2
   ·exact .inr (υ h2 k.len)
  ·exact .inr (ξA h.len h1),by have:=h.mea;have:=k.mea;omega⟩
theorem Cl.mono{v:Vm}(hs:∀a,Hs L a->Hs M a)(h:Cl v L a):Cl v M a:=λi hi=>⟨(h i hi).1,λh0=>hs _ ((h i hi).2 h0)⟩
structure B8(v:Vm)(rs:List Int)(n R:Nat)(X:Int->Prop)(s:MkS):Prop where
 mkd:Mk v rs n s.L
 st:∀a∈s.st,Hs s.L a
 r:s.st.length<=R
 cl:∀a,Hs s.L a->Cl v s.L a\/a∈s.st\/s.lost=true\/X a
theorem B8.weak{v:Vm}(h:B8 v rs n R X s)(hX:∀a,X a->Y a):B8 v rs n R Y s:=
 ⟨h.mkd,h.st,h.r,λa ha=>(h.cl a ha).imp id (Or.imp id (Or.imp id (hX a)))⟩
theorem B8.push{v:Vm}(h:B8 v rs n R X s)(ha:Rch v rs a)(hr:v.rdE a=0)(he:C5 s.L n a (v.osz a)=0):
  B8 v rs n R X (s.push R (CX s.L n a (v.osz a)) a)/\DG s (s.push R (CX s.L n a (v.osz a)) a)/\Hs (s.push R (CX s.L n a (v.osz a)) a).L a:=by
 have hm:=h.mkd.add ha hr he;have hh:=λb=>QH9 (b:=b) hr he;have hl:=ZoS he;have Y:∀b,Hs s.L b->Hs (CX s.L n a (v.osz a)) b:=λb hb=>(hh b).2 (.inr hb);unfold MkS.push
 split
 ·rename_i hR;refine⟨⟨hm,λb hb=>?_,by simp;omega,λb hb=>?_⟩,⟨Y,by simp_all,λh=>.inl h,by simp;omega⟩,(hh a).2 (.inl rfl)⟩
  ·rcases ζg.1 hb with hb|hb
   ·exact Y b (h.st b hb)
   simp_all
  ·rcases(hh b).1 hb with rfl|hb
   ·simp_all
   ·rcases h.cl b hb with h1|h1|h1|h1
    ·exact .inl (h1.mono Y)
    ·simp_all
    ·simp_all
    simp_all
 ·refine⟨⟨hm,λb hb=>Y b (h.st b hb),h.r,λb _=>.inr (.inr (.inl rfl))⟩,⟨Y,by simp_all,λ_=>.inr (by simp_all),by grind⟩,(hh a).2 (.inl rfl)⟩
theorem B8.pop{v:Vm}{st:List Int}{lost:Bool}(h:B8 v rs n R X ⟨L,st++[a],lost⟩):B8 v rs n R (λb=>X b\/b=a) ⟨L,st,lost⟩/\Hs L a:=by
 refine⟨⟨h.mkd,λb hb=>h.st b (ζg.2 (.inl hb)),by have:=h.r;grind,λb hb=>?_⟩,h.st a (ζg.2 (.inr (ζM.2 rfl)))⟩;rcases h.cl b hb with h1|h1|h1|h1
 ·exact .inl h1
 ·grind
 ·simp_all
 simp_all
theorem B8.done{v:Vm}(h:B8 v rs n R X s)(hc:Cl v s.L a)(hX:∀b,X b->Y b\/b=a):B8 v rs n R Y s:=
 ⟨h.mkd,h.st,h.r,λb hb=>by
  rcases h.cl b hb with h1|h1|h1|h1
  ·exact .inl h1
  ·simp_all
  ·simp_all
  grind⟩
def ClN(v:Vm)(L:List Ob)(a:Int)(k:Nat):Prop:=∀i:Nat,i<k->v.ptE a i=0/\(v.ptV a i≠0->Hs L (v.ptV a i:Nat))
theorem ClN.mono{v:Vm}(hs:∀a,Hs L a->Hs M a)(h:ClN v L a k):ClN v M a k:=λi hi=>⟨(h i hi).1,λh0=>hs _ ((h i hi).2 h0)⟩
theorem ClN.succ{v:Vm}(h:ClN v L a k)(h0:v.ptE a k=0)(h1:v.ptV a k≠0->Hs L (v.ptV a k:Nat)):ClN v L a (k+1):=λi hi=>by
 rcases χ i k with h2|h2
 ·exact h i h2
 grind
theorem ClN.cl{v:Vm}(h:ClN v L a k)(hk:(v.rdH a).p<=k):Cl v L a:=λi hi=>h i Ω
theorem B8.marks{v:Vm}(h:B8 v rs n R X s)(hX:∀a,¬X a)(hst:s.st=[])(hlost:s.lost=false)(hr:∀r∈rs,r≠0->Hs s.L r):BD v rs n s.L:=by
 refine BD.of h.mkd hr λo ho=>?_;rcases h.cl o.1 ⟨o,ho,rfl⟩with h1|h1|h1|h1
 ·exact h1
 ·simp_all
 ·simp_all
 simp_all
theorem ZFY{v:Vm}(ha:Rch v rs a)(h:v.rdE a≠0):¬CE v rs n:=λhS=>h (hS.rd a ha)
theorem J7J{v:Vm}(ha:Rch v rs a)(hi:(i:Int)<(v.rdH a).p)(h:v.ptE a i≠0):¬CE v rs n:=λhS=>h (hS.pt a ha i hi)
def AI(v:Vm):List Int->Int
 | []=>0
 | a :: r=>v.osz a+AI v r
def BP(v:Vm):List Int->Int->Int->Int
 | [],_,_=>0
 | b :: r,t,a=>if b=a then t else BP v r (t+v.osz b) a
theorem SQ(v:Vm)(a:Int):0<=v.osz a:=by
 unfold Vm.osz B9
 grind [NS]
theorem ML(v:Vm)(O P:List Int):AI v (O++P)=AI v O+AI v P:=by
 induction O with
 | nil=>simp[AI]
 | cons a r ih=>simp only[ζr,AI,ih];omega
theorem F4(v:Vm)(O:List Int):0<=AI v O:=by
 induction O with
 | nil=>simp[AI]
 | cons a r ih=>have:=SQ v a;simp only[AI];omega
theorem KB(v:Vm)(hj:j<O.length):AI v (O.take (j+1))=AI v (O.take j)+v.osz O[j]:=by
 rw[List.take_add_one,ζa hj,ML];simp[AI]
theorem QB(v:Vm)(O:List Int)(h:i<=j):AI v (O.take i)<=AI v (O.take j):=by
 have e:O.take j=O.take i++(O.take j).drop i:=by
  grind [ψn,Nat.min_eq_left]
 rw[e,ML];have:=F4 v ((O.take j).drop i);omega
theorem Q9(v:Vm)(O:List Int)(j:Nat):AI v (O.take j)<=AI v O:=by
 have:=F4 v (O.drop j)
 grind [ML,ψn]
theorem YAF(v:Vm)(P:List Int)(t:Int)(h:a∈O):BP v (O++P) t a=BP v O t a:=by
 induction O generalizing t with
 | nil=>cases h
 | cons b r ih=>
  simp only[ζr,BP]
  grind
theorem SR(v:Vm)(P:List Int)(t:Int)(h:a∉O):BP v (O++P) t a=BP v P (t+AI v O) a:=by
 induction O generalizing t with
 | nil=>simp[AI]
 | cons b r ih=>
  have hb:¬b=a:=λe=>h (by simp_all);simp only[ζr,BP,AI,ϑ hb]
  grind
theorem N4(v:Vm)(t:Int)(h:a∉O):BP v O t a=0:=by
 have:=SR v [] t h;rw[ξC]at this
 assumption
theorem U8(v:Vm)(hn:O.Nodup)(t:Int)(hj:j<O.length):BP v O t O[j]=t+AI v (O.take j):=by
 have e:O=O.take j++O[j] :: O.drop (j+1):=by
  simp_all
 have Y:O[j]∉O.take j:=by
  grind
 have h:=SR v (O[j] :: O.drop (j+1)) t Y;refine(congrArg (λX=>BP v X t O[j]) e).trans (h.trans ?_);rw[BP,μ rfl]
theorem TQ(v:Vm)(t:Int)(h:a∈O):t<=BP v O t a/\BP v O t a+v.osz a<=t+AI v O:=by
 induction O generalizing t with
 | nil=>cases h
 | cons b r ih=>
  have h1:=F4 v r;have h2:=SQ v b;simp only[BP,AI]
  grind
def CG(O:List Int)(a:Int):List Int:=if a=0\/a∈O then O else O++[a]
def DD(O l:List Int):List Int:=l.foldl CG O
theorem UX(O:List Int)(a:Int):∃X,CG O a=O++X:=by
 unfold CG
 split
 ·simp_all
 simp_all
theorem VC(O l:List Int):∃X,DD O l=O++X:=by
 induction l generalizing O with
 | nil=>exact⟨[],(ξC _).symm⟩
 | cons a r ih=>
  obtain⟨X,hX⟩:=UX O a;obtain⟨Y,hY⟩:=ih (CG O a);exact⟨X++Y,by show DD (CG O a) r=_;simp_all⟩
theorem TG(O l:List Int)(a:Int):DD O (l++[a])=CG (DD O l) a:=by unfold DD;simp_all
theorem MY{b:Int}:b∈CG O a↔b∈O\/(b=a/\a≠0):=by
 unfold CG
 grind
theorem QZ{b:Int}:b∈DD O l↔b∈O\/(b∈l/\b≠0):=by
 induction l generalizing O with
 | nil=>simp[DD]
 | cons a r ih=>
  show b∈DD (CG O a) r↔_
  grind [MY]
theorem SS(h:O.Nodup)(a:Int):(CG O a).Nodup:=by
 unfold CG
 grind
theorem YR(h:O.Nodup)(l:List Int):(DD O l).Nodup:=by
 induction l generalizing O with
 | nil=>exact h
 | cons a r ih=>exact ih (SS h a)
def DI(v:Vm)(a:Int):List Int:=(List.range (v.rdH a).p.toNat).map λi:Nat=>(v.ldV (a+1+i):Int)
theorem SH(v:Vm)(a:Int):(DI v a).length=(v.rdH a).p.toNat:=by unfold DI;simp
theorem V4(v:Vm)(a:Int)(hi:i<(DI v a).length):(DI v a)[i]=(v.ldV (a+1+i):Int):=by simp only[DI,List.getElem_map,List.getElem_range]
def AQ(v:Vm)(rs:List Int):Nat->List Int
 | 0=>DD [] rs
 | k+1=>if k<(AQ v rs k).length then DD (AQ v rs k) (DI v ((AQ v rs k).getD k 0))else AQ v rs k
theorem Zh5(v:Vm)(rs:List Int)(k:Nat):(AQ v rs k).Nodup:=by
 induction k with
 | zero=>exact YR ξJ _
 | succ k ih=>unfold AQ;grind [YR]
structure BK(v v':Vm):Prop where
 n:v'.n=v.n
 pt:v'.pt=v.pt
 pg:v'.pl.pg=v.pl.pg
 rm:v'.pl.rm=v.pl.rm
theorem BK.refl(v:Vm):BK v v:=⟨rfl,rfl,rfl,rfl⟩
theorem BK.trans{a b c:Vm}(h:BK a b)(k:BK b c):BK a c:=⟨k.n.trans h.n,k.pt.trans h.pt,k.pg.trans h.pg,k.rm.trans h.rm⟩
theorem BK.st(v:Vm)(a:Int)(x:Nat):BK v (v.st a x):=by
 unfold Vm.st
 split
 ·exact⟨rfl,rfl,rfl,rfl⟩
 ·exact BK.refl v
theorem BK.ldE{v:Vm}(h:BK v v')(a:Int):v'.ldE a=v.ldE a:=by unfold Vm.ldE;rw[h.n,h.pt,h.pg]
def cpV(u:Vm)(a t:Int):Nat->Vm
 | 0=>u
 | m+1=>(cpV u a t m).st (t+m) (u.ldV (a+m))
theorem UM(u:Vm)(a t:Int)(n:Nat):BK u (cpV u a t n):=by
 induction n with
 | zero=>exact BK.refl u
 | succ m ih=>exact ih.trans (BK.st _ _ _)
theorem X1(h:AF u)(a t:Int)(n:Nat):AF (cpV u a t n):=by
 induction n with
 | zero=>exact h
 | succ m ih=>exact ih.st _ (h.ldV_lt _)
theorem Yrt(h:AF u)(a t:Int)(hm:∀m:Nat,m<n->u.ldE (t+m)=0)(b:Int):(cpV u a t n).ldV b=if t<=b/\b<t+n then u.ldV (a+(b-t))else u.ldV b:=by
 induction n with
 | zero=>rw[ϑ Ω];rfl
 | succ m ih=>
  show ((cpV u a t m).st (t+m) (u.ldV (a+m))).ldV b=_
  rw[(X1 h a t m).st_ldV _ (by rw[(UM u a t m).ldE];simp_all),ih (λj hj=>hm j Ω)]
  grind
structure DF(v:Vm)(rs:List Int)(L:List Ob)(to:Nat):Prop where
 ok:AF v
 mks:BD v rs v.n L
 pos:0<to
 ap:∀o∈L,o.1+o.2<=to\/to+sizes L<=o.1
 map:∀a:Nat,to<=a->a<to+sizes L->v.ldE a=0
 top:to+sizes L<=v.n
def Trn(v:Vm)(O:List Int)(k i j m:Nat):Prop:=1<=m/\((j<k/\(m:Int)<=(v.rdH (O.getD j 0)).p)\/(j=k/\m<=i))
structure Cpd(v v':Vm)(to:Nat)(O:List Int)(k i:Nat):Prop where
 ok:AF v'
 sm:BK v v'
 o:∀a:Int,¬(to<=a/\a<to+AI v O)->v'.ldV a=v.ldV a
 raw:∀j (hj:j<O.length) (m:Nat),(m:Int)<v.osz O[j]->¬Trn v O k i j m->v'.ldV (to+AI v (O.take j)+m)=v.ldV (O[j]+m)
 trn:∀j (hj:j<O.length) (m:Nat),(m:Int)<v.osz O[j]->Trn v O k i j m->(v'.ldV (to+AI v (O.take j)+m):Int)=BP v O to (v.ldV (O[j]+m))
theorem Cpd.nil{v:Vm}(h:AF v)(to:Nat):Cpd v v to [] 0 0:=⟨h,BK.refl v,λ_ _=>rfl,λ_ h=>absurd h (ζQ _),λ_ h=>absurd h (ζQ _)⟩
theorem PT{v:Vm}(h:v.rdE a=0):0<=(v.rdH a).p/\(v.rdH a).p<v.osz a:=by
 obtain⟨-,-,p,f,k,e,hs⟩:=FT h;unfold Vm.osz;rw[e,show B9 ⟨p,f,k⟩=1+(p:Int)+f+k from μ (EE hs)]
 grind
theorem XaN{v:Vm}(hz:∀o∈L,(o.2:Int)=v.osz o.1)(hn:O.Nodup)(h:∀a∈O,Hs L a):AI v O<=sizes L:=by
 induction L generalizing O with
 | nil=>
  cases O with
  | nil=>exact ψs _
  | cons a r=>obtain⟨o,ho,-⟩:=h a (ζi ..);cases ho
 | cons o r ih=>
  have h1:=ih (λq hq=>hz q (ζm _ hq)) (hn.erase (o.1:Int)) (λa ha=>by
   have hm:=(hn.mem_erase_iff).1 ha;obtain⟨q,hq,e⟩:=h a hm.2;rcases ζC.1 hq with rfl|hq
   ·omega
   ·exact⟨q,hq,e⟩)
  have h2:AI v O<=AI v (O.erase (o.1:Int))+v.osz o.1:=by
   clear ih h1 h hn
   induction O with
   | nil=>grind
   | cons a s ih=>
    rw[List.erase_cons];by_cases e:a=(o.1:Int)
    ·rw[μ (by simpa using e),e];simp only[AI];omega
    ·rw[ϑ (by simpa using e)];simp only[AI];omega
  have h3:=hz o (ζi ..);simp only[sizes];omega
theorem Z2{v:Vm}(hz:∀o∈L,(o.2:Int)=v.osz o.1)(hp:L.Pairwise (λo q=>o.1<q.1))(h:∀o∈L,(o.1:Int)∈O):(sizes L:Int)<=AI v O:=by
 induction L generalizing O with
 | nil=>exact F4 v O
 | cons o r ih=>
  have h1:=ih (O:=O.erase (o.1:Int)) (λq hq=>hz q (ζm _ hq)) (ξd.1 hp).2 (λq hq=>by
   have:=(ξd.1 hp).1 q hq
   grind)
  have h2:AI v (O.erase (o.1:Int))+v.osz o.1<=AI v O:=by
   have hm:=h o (ζi ..);clear ih h1 h hp
   induction O with
   | nil=>cases hm
   | cons a s ih=>
    rw[List.erase_cons];by_cases e:a=(o.1:Int)
    ·rw[μ (by simpa using e),e];simp only[AI];omega
    ·have:=ih ((ζC.1 hm).resolve_left (λe'=>e e'.symm));rw[ϑ (by simpa using e)];simp only[AI];omega
  have h3:=hz o (ζi ..);simp only[sizes];omega
theorem JM{v:Vm}{i:Int}(h:v.ptE a i=0):v.ptV a i=v.ldV (a+1+i)/\v.ldV (a+1+i)<=2147483647/\v.ldE (a+1+i)=0/\v.plE a i 1=0:=by
 have e1:v.ptV a i=v.gtV a i 1:=μ h;unfold Vm.ptE at h
 split at h
 ·omega
 ·rename_i hg;have hg:=ξQ.1 hg
  split at h
  ·cases h
  ·rename_i hm;unfold Vm.gtE at hg
   split at hg
   ·omega
   ·rename_i hp;have e2:v.gtV a i 1=v.ldV (a+1+i):=ϑ hp;omega
theorem PW{i:Int}(h0:0<=i)(h1:i<h.p)(h2:h.p<B9 h):BJ h i=1:=by
 unfold BJ;omega
theorem Xm6{v:Vm}(hr:v.rdE a=0)(hi:(i:Int)<(v.rdH a).p)(hl:v.ldE (a+1+i)=0)(hv:v.ldV (a+1+i)<=2147483647):v.ptE a i=0/\v.plE a i 1=0:=by
 have hk:v.plE a i 1=0:=by
  unfold Vm.plE;rw[ϑ Ω,μ (PW Ω hi (PT hr).2)]
 refine⟨?_,hk⟩;have hg:v.gtE a i 1=0:=by unfold Vm.gtE;omega
 unfold Vm.ptE;rw[ϑ Ω];have e2:v.gtV a i 1=v.ldV (a+1+i):=ϑ Ω;omega
def FJ(v:Vm)(L:List Ob):Prop:=∀o∈L,∀m:Nat,m<o.2->v.ldE (o.1+m)=0
section
variable{v:Vm}{to:Nat}
theorem DF.ob(c:DF v rs L to)(ha:Rch v rs a):∃o∈L,(o.1:Int)=a/\(o.2:Int)=v.osz a:=by
 obtain⟨o,ho,rfl⟩:=c.mks.all a ha;exact⟨o,ho,rfl,(c.mks.mkd.ats o ho).2.2⟩
theorem DF.sum(c:DF v rs L to)(hn:O.Nodup)(hR:∀a∈O,Rch v rs a):AI v O<=sizes L:=
 XaN (λo ho=>(c.mks.mkd.ats o ho).2.2) hn (λa ha=>c.mks.all a (hR a ha))
theorem DF.same(c:DF v rs L to)(hf:FJ v L)(hn:O.Nodup)(hR:∀a∈O,Rch v rs a)(h:Cpd v v' to O k i)(ha:Rch v rs a):
  0<a/\v'.rdE a=0/\v'.rdH a=v.rdH a/\∀m:Nat,(m:Int)<v.osz a->v'.ldE (a+m)=0/\v'.ldV (a+m)=v.ldV (a+m):=by
 obtain⟨o,ho,rfl,hz⟩:=c.ob ha;have hs:=c.sum hn hR;have hap:=c.ap o ho;have X:=c.mks.sound.rd _ ha;have hp:=C9 X
 have hm:∀m:Nat,(m:Int)<v.osz o.1->v'.ldE (o.1+m)=0/\v'.ldV (o.1+m)=v.ldV (o.1+m):=λm hm=>
  ⟨by rw[h.sm.ldE];exact hf o ho m Ω,h.o _ Ω⟩
 have h0:=hm 0 Ω;rw[show (o.1:Int)+(0:Nat)=o.1 by omega]at h0;refine⟨hp.1,?_,?_,hm⟩
 ·unfold Vm.rdE at X⊢
  grind
 ·unfold Vm.rdH;rw[h0.2,h.sm.ldE]
theorem Trn.ext{X:List Int}(hj:j<O.length):Trn v (O++X) k i j m↔Trn v O k i j m:=by
 unfold Trn
 grind
theorem YB(v:Vm){j' m':Nat}(hj:j<O.length)(hj':j' < O.length)(hm:(m:Int)<v.osz O[j])(hm':(m':Int)<v.osz O[j'])(h:AI v (O.take j)+m=AI v (O.take j')+m'):j=j'/\m=m':=by
 rcases ζR j j' with h1|rfl|h1
 ·have e:=KB v hj;have:=QB v O (i:=j+1) (j:=j') Ω;omega
 ·omega
 ·have e:=KB v hj';have:=QB v O (i:=j' + 1) (j:=j) Ω;omega
theorem place_lt(v:Vm)(hj:j<O.length)(hm:(m:Int)<v.osz O[j]):AI v (O.take j)+m<AI v O:=by
 have e:=KB v hj;have:=Q9 v O (j+1);omega
def KM(v:Vm)(O:List Int)(k i:Nat):Prop:=∀j (hj:j<O.length) (m:Nat),(m:Int)<v.osz O[j]->Trn v O k i j m->(v.ldV (O[j]+m):Int)=0\/(v.ldV (O[j]+m):Int)∈O
theorem Vqd(v:Vm)(X:List Int)(t:Int)(h0:(0:Int)∉O++X)(h:a=0\/a∈O):BP v (O++X) t a=BP v O t a:=by
 grind [N4,ζx,YAF]
theorem Cpd.take(c:DF v rs L to)(hf:FJ v L)(hn:O.Nodup)(hR:∀a∈O,Rch v rs a)(h:Cpd v v' to O k i)(hK:KM v O k i)(hk:k<O.length\/(k=O.length/\i=0))(ha:Rch v rs a)(hna:a∉O)(z:Nat)(hz:(z:Int)=v.osz a):
  (∀m:Nat,m<z->v'.ldE (to+AI v O+m)=0)/\(to:Int)+AI v O+z<=v.n/\Cpd v (cpV v' a (to+AI v O) z) to (O++[a]) k i/\KM v (O++[a]) k i:=by
 have M:(O++[a]).Nodup:=by
  rw[ζY];exact⟨hn,by simp,λx hx y hy e=>hna (by rw[ζM]at hy;rw[<-hy,<-e];exact hx)⟩
 have J:∀b∈O++[a],Rch v rs b:=λb hb=>by
  rcases ζg.1 hb with hb|hb
  ·exact hR b hb
  ·rw[ζM]at hb;rw[hb];exact ha
 have hs:=c.sum M J;have h0s:=F4 v O;have hsa:AI v (O++[a])=AI v O+v.osz a:=by rw[ML];simp[AI]
 have Z:∀m:Nat,m<z->v'.ldE (to+AI v O+m)=0:=λm hm=>by
  rw[h.sm.ldE];have:=c.map (to+(AI v O).toNat+m) Ω Ω;rw[<-this];congr 1;omega
 have htop:=c.top;have U:=(c.same hf hn hR h ha).2.2.2
 have V:(0:Int)∉O++[a]:=λhm=>by
  have:=(C9 (c.mks.sound.rd _ (J 0 hm))).1;omega
 have Y:=Yrt h.ok a (to+AI v O) Z;refine⟨Z,by omega,⟨X1 h.ok _ _ _,h.sm.trans (UM _ _ _ _),λb hb=>?_,λj hj m hm hT=>?_,λj hj m hm hT=>?_⟩,λj hj m hm hT=>?_⟩
 ·rw[Y,ϑ Ω];exact h.o b Ω
 ·rw[ζt,ξg]at hj;rcases χ j O.length with X|X
  ·simp only[ζH X]at hm⊢;have hl:=place_lt v X hm;have e1:(O++[a]).take j=O.take j:=by rw[ξL Ω]
   rw[e1,Y,ϑ Ω];exact h.raw j X m hm (λht=>hT ((Trn.ext X).2 ht))
  ·obtain rfl:j=O.length:=Ω
   have e2:(O++[a])[O.length]'(by simp)=a:=by simp
   rw[e2]at hm;have e1:(O++[a]).take O.length=O:=by rw[ξL (ν _),ζ7]
   rw[e1,Y,μ Ω,e2,show a+((to:Int)+AI v O+m-(to+AI v O))=a+m by omega];exact(U m hm).2
 ·rcases χ j O.length with X|X
  ·simp only[ζH X]at hm⊢;have hl:=place_lt v X hm;have e1:(O++[a]).take j=O.take j:=by rw[ξL Ω]
   have ht:=(Trn.ext (i:=i) (m:=m) X).1 hT;rw[e1,Y,ϑ Ω,h.trn j X m hm ht];exact(Vqd v [a] to V (hK j X m hm ht)).symm
  ·obtain⟨h1,h2|h2⟩:=hT <;> omega
 ·rcases χ j O.length with X|X
  ·simp only[ζH X]at hm⊢;exact(hK j X m hm ((Trn.ext X).1 hT)).imp id (λh=>ζx _ h)
  ·obtain⟨h1,h2|h2⟩:=hT <;> omega
theorem Cpd.copy(c:DF v rs L to)(hn:O.Nodup)(hR:∀a∈O,Rch v rs a)(h:Cpd v v' to O k i)(hj:j<O.length){t:Int}(ht:t=to+AI v (O.take j)):
  v'.rdE t=0/\v'.rdH t=v.rdH O[j]/\(j=k->∀m:Nat,i<=m->(m:Int)<(v.rdH O[j]).p->v'.ptE t m=0/\v'.ptV t m=v.ldV (O[j]+1+m)) ∧
   ∀m:Nat,(m:Int)<(v.rdH O[j]).p->v'.plE t m 1=0/\v'.ldE (t+1+m)=0:=by
 have ha:=hR _ (π hj);have X:=c.mks.sound.rd _ ha;have hp:=C9 X;have V:=PT X;have hs:=c.sum hn hR;have h0:=F4 v (O.take j);have hpos:=c.pos
 have Z:∀m:Nat,(m:Int)<v.osz O[j]->v'.ldE (t+m)=0:=λm hm=>by
  rw[h.sm.ldE];have hl:=place_lt v hj hm;have:=c.map (to+(AI v (O.take j)).toNat+m) Ω Ω;rw[<-this];congr 1;omega
 have J:=h.raw j hj 0 Ω (λhT=>absurd hT.1 Ω);have Y:=Z 0 Ω;rw[show t+(0:Nat)=t by omega]at Y;rw[show (to:Int)+AI v (O.take j)+(0:Nat)=t by omega,show O[j]+(0:Nat)=O[j]by omega]at J
 have hE:v'.rdE t=0:=by
  have h1:=X;unfold Vm.rdE at h1⊢;rw[ϑ Ω,ϑ Ω,μ Y,J];rw[ϑ Ω,ϑ Ω]at h1
  split at h1
  ·exact h1
  ·rename_i hx;exact absurd h1 hx
 have hH:v'.rdH t=v.rdH O[j]:=by
  have h1:=(FT X).2.1;unfold Vm.rdH;rw[μ ⟨by omega,Y⟩,μ ⟨by omega,h1⟩,J]
 refine⟨hE,hH,λhjk m hm1 hm2=>?_,λm hm=>?_⟩
 ·have U:((m+1:Nat):Int)<v.osz O[j]:=Ω
  have hr:=h.raw j hj (m+1) U (λhT=>by
   obtain⟨-,h2|h2⟩:=hT <;> omega)
  have hl:=Z (m+1) U;rw[show (to:Int)+AI v (O.take j)+(m+1:Nat)=t+1+m by omega,show O[j]+(m+1:Nat)=O[j]+1+m by omega]at hr;rw[show t+((m+1:Nat):Int)=t+1+m by omega]at hl;have M:=JM (c.mks.sound.pt _ ha m hm2);have:=Xm6 (v:=v') (a:=t) (i:=m) hE (by rw[hH];exact hm2) hl (by rw[hr];exact M.2.1);refine⟨this.1,?_⟩;rw[(JM this.1).1,hr]
 ·have hl:=Z (m+1) Ω;rw[show t+((m+1:Nat):Int)=t+1+m by omega]at hl;refine⟨?_,hl⟩;unfold Vm.plE;rw[ϑ Ω,hH,μ (PW Ω hm V.2)]
theorem Cpd.set(c:DF v rs L to)(hn:O.Nodup)(hR:∀a∈O,Rch v rs a)(h:Cpd v v' to O k i)(hK:KM v O k i)(hk:k<O.length){t:Int}(ht:t=to+AI v (O.take k))(hi:(i:Int)<(v.rdH O[k]).p)
  (hx:(v.ldV (O[k]+1+i):Int)=0\/(v.ldV (O[k]+1+i):Int)∈O)  (hxx:(x:Int)=BP v O to (v.ldV (O[k]+1+i))) (hx2:x<18446744073709551616):
  Cpd v (v'.st (t+1+i) x) to O k (i+1)/\KM v O k (i+1):=by
 have ha:=hR _ (π hk);have Y:=c.mks.sound.rd _ ha;have hpp:=PT Y;have h0:=F4 v (O.take k);have hl:=((Cpd.copy c hn hR h hk ht).2.2.2 i hi).2;have X:=h.ok.st_ldV x hl;have hpl:=place_lt v hk (m:=i+1) Ω
 have hT:∀j m:Nat,Trn v O k (i+1) j m↔Trn v O k i j m\/(j=k/\m=i+1):=λj m=>by
  constructor
  ·rintro⟨h1,h2|h2⟩
   ·exact .inl ⟨h1,.inl h2⟩
   ·rcases χ i m with h3|h3
    ·exact .inr Ω
    ·exact .inl ⟨h1,.inr Ω⟩
  ·rintro(⟨h1,h2|h2⟩|⟨h1,h2⟩)
   ·exact⟨h1,.inl h2⟩
   ·exact⟨h1,.inr Ω⟩
   ·exact⟨by omega,.inr Ω⟩
 refine⟨⟨h.ok.st _ hx2,h.sm.trans (BK.st _ _ _),λb hb=>?_,λj hj m hm hnT=>?_,λj hj m hm hTT=>?_⟩,λj hj m hm hTT=>?_⟩
 ·rw[X,ϑ Ω];exact h.o b hb
 ·have Z:¬(j=k/\m=i+1):=λe=>hnT ((hT j m).2 (.inr e));rw[X,ϑ (λe=>Z (YB v hj hk hm (m':=i+1) Ω Ω))];exact h.raw j hj m hm (λh'=>hnT ((hT j m).2 (.inl h')))
 ·by_cases e:j=k/\m=i+1
  ·obtain⟨rfl,rfl⟩:=e;rw[X,μ Ω,show O[j]+((i+1:Nat):Int)=O[j]+1+i by omega];exact hxx
  ·rw[X,ϑ (λe'=>e (YB v hj hk hm (m':=i+1) Ω Ω))];exact h.trn j hj m hm (((hT j m).1 hTT).resolve_right e)
 ·by_cases e:j=k/\m=i+1
  ·obtain⟨rfl,rfl⟩:=e;rw[show O[j]+((i+1:Nat):Int)=O[j]+1+i by omega];exact hx
  ·exact hK j hj m hm (((hT j m).1 hTT).resolve_right e)
theorem TZ{v:Vm}(hk:k<O.length)(hi:(i:Int)=(v.rdH O[k]).p)(j m:Nat):Trn v O (k+1) 0 j m↔Trn v O k i j m:=by
 have e:O.getD k 0=O[k]:=by simp_all
 constructor
 ·rintro⟨h1,h2|h2⟩
  ·rcases χ j k with h3|h3
   ·exact⟨h1,.inl ⟨h3,h2.2⟩⟩
   ·obtain rfl:j=k:=Ω
    rw[e]at h2;exact⟨h1,.inr ⟨rfl,by omega⟩⟩
  ·omega
 ·rintro⟨h1,h2|h2⟩
  ·exact⟨h1,.inl ⟨by omega,h2.2⟩⟩
  ·obtain⟨rfl,h3⟩:=h2;exact⟨h1,.inl ⟨by omega,by rw[e];omega⟩⟩
theorem Cpd.next(h:Cpd v v' to O k i)(hK:KM v O k i)(hk:k<O.length)(hi:(i:Int)=(v.rdH O[k]).p):Cpd v v' to O (k+1) 0/\KM v O (k+1) 0:=
 ⟨⟨h.ok,h.sm,h.o,λj hj m hm hT=>h.raw j hj m hm (λh'=>hT ((TZ hk hi j m).2 h')),λj hj m hm hT=>h.trn j hj m hm ((TZ hk hi j m).1 hT)⟩,λj hj m hm hT=>hK j hj m hm ((TZ hk hi j m).1 hT)⟩
theorem VqB(hR:∀a∈O,Rch v rs a)(hl:∀a∈l,a≠0->Rch v rs a):∀a∈DD O l,Rch v rs a:=λa ha=>by
 rcases QZ.1 ha with h|⟨h,h0⟩
 ·exact hR a h
 simp_all
theorem JKk(c:DF v rs L to){b:Int}(hb:Rch v rs b):∀a∈DI v b,a≠0->Rch v rs a:=λa ha h0=>by
 obtain⟨i,hi,rfl⟩:=ζp ha;rw[V4]at h0⊢;rw[SH]at hi;have Y:=c.mks.sound.rd _ hb;have X:=c.mks.sound.pt _ hb i Ω;have he:=JM X;exact hb.step ⟨Y,i,by omega,X,by omega,by rw[he.1]⟩
theorem ZM(c:DF v rs L to)(k:Nat):∀a∈AQ v rs k,Rch v rs a:=by
 induction k with
 | zero=>exact VqB (λa h=>by cases h) (λa ha h0=>Rch.root ha h0)
 | succ k ih=>
  unfold AQ
  grind [VqB,JKk,ζa,π]
theorem T9(v:Vm)(rs:List Int)(k:Nat):∃X,AQ v rs (k+1)=AQ v rs k++X:=by
 show ∃X,(if k<(AQ v rs k).length then DD (AQ v rs k) (DI v ((AQ v rs k).getD k 0))else AQ v rs k)=AQ v rs k++X
 split
 ·exact VC _ _
 simp_all
theorem YFK(v:Vm)(rs:List Int)(k:Nat):∀j,j<k->∀(hj:j<(AQ v rs k).length),∀b∈DI v (AQ v rs k)[j],b≠0->b∈AQ v rs k:=by
 induction k with
 | zero=>omega
 | succ k ih=>
  intro j hjk hj b hb h0;by_cases hlt:k<(AQ v rs k).length
  ·have e:AQ v rs (k+1)=DD (AQ v rs k) (DI v ((AQ v rs k).getD k 0)):=by
    show (if _ then _ else _)=_
    simp_all
   obtain⟨X,hX⟩:=VC (AQ v rs k) (DI v ((AQ v rs k).getD k 0));have hjl:j<(AQ v rs k).length:=Ω
   have e1:(AQ v rs (k+1))[j]=(AQ v rs k)[j]:=by
    simp_all
   rw[e1]at hb;rw[e];rcases χ j k with h1|h1
   ·grind
   ·obtain rfl:j=k:=Ω
    refine QZ.2 (.inr ⟨?_,h0⟩)
    simp_all
  ·have e:AQ v rs (k+1)=AQ v rs k:=by
    show (if _ then _ else _)=_
    grind
   grind
theorem Zqu(v:Vm)(rs:List Int)(k:Nat):∀r∈rs,r≠0->r∈AQ v rs k:=by
 induction k with
 | zero=>exact λr hr h0=>QZ.2 (.inr ⟨hr,h0⟩)
 | succ k ih=>
  intro r hr h0;obtain⟨X,hX⟩:=T9 v rs k
  simp_all
theorem DF.done(c:DF v rs L to)(hk:k=(AQ v rs k).length):(∀a,Rch v rs a->a∈AQ v rs k)/\AI v (AQ v rs k)=sizes L:=by
 have X:∀a,Rch v rs a->a∈AQ v rs k:=λa ha=>by
  refine(ha (λb=>b∈AQ v rs k/\Rch v rs b) (λr hr h0=>⟨Zqu v rs k r hr h0,Rch.root hr h0⟩) ?_).1;rintro x y ⟨hx,Y⟩ hp;refine⟨?_,Y.step hp⟩;obtain⟨-,i,hi,h0,h1,rfl⟩:=hp;obtain⟨j,hj,rfl⟩:=ζp hx;have he:=JM h0;have hpp:=PT (c.mks.sound.rd _ Y);refine YFK v rs k j Ω hj _ ?_ Ω;rw[he.1];have Z:i<(DI v (AQ v rs k)[j]).length:=by rw[SH];omega
  rw[<-V4 v _ Z]
  grind
 refine⟨X,?_⟩;have h1:=c.sum (Zh5 v rs k) (ZM c k);have h2:=Z2 (v:=v) (λo ho=>(c.mks.mkd.ats o ho).2.2) c.mks.mkd.good.lt (O:=AQ v rs k) (λo ho=>X _ (c.mks.mkd.ats o ho).1);omega
end
structure IP(v v':Vm):Prop where
 n:v'.n=v.n
 le:∀a:Int,v.ldE a=0->v'.ldE a=0/\v'.ldV a=v.ldV a
theorem BQ.wider{v:Vm}(h:BQ v v' F)(hv:AF v):IP v v':=by
 refine⟨h.n,λa ha=>?_⟩;obtain⟨h0,h1⟩:=JU ha;obtain⟨j,rfl⟩:∃j:Nat,a=j:=⟨a.toNat,by omega⟩;have hj:j<v.n:=Ω
 have hn:¬j/v.pl.pg∈F:=λhm=>by
  rw[hv.ldE_of hj,μ (h.un _ hm).2]at ha;cases ha
 rw[h.ldE hv hj,h.vl j hj,ϑ hn,ϑ hn];omega
theorem IP.rd{v:Vm}(h:IP v v')(hr:v.rdE a=0):v'.rdE a=0/\v'.rdH a=v.rdH a:=by
 obtain⟨h0,h1,-⟩:=FT hr;obtain⟨e1,e2⟩:=h.le a h1;unfold Vm.rdE at hr⊢;rw[ϑ Ω,ϑ Ω,μ h1]at hr;refine⟨by grind,?_⟩;unfold Vm.rdH
 simp_all
theorem IP.pt{v:Vm}(h:IP v v')(hr:v.rdE a=0)(hi:(i:Int)<(v.rdH a).p)(hp:v.ptE a i=0):v'.ptE a i=0/\v'.ptV a i=v.ptV a i:=by
 obtain⟨e1,e2⟩:=h.rd hr;have X:=JM hp;obtain⟨e3,e4⟩:=h.le _ X.2.2.1;have:=Xm6 (v:=v') (a:=a) (i:=i) e1 (by simp_all) e3 Ω;exact⟨this.1,by rw[(JM this.1).1,X.1,e4]⟩
theorem IP.rch{v:Vm}(h:IP v v')(hS:CE v rs n)(a:Int):Rch v' rs a↔Rch v rs a:=by
 constructor
 ·intro ha;refine ha (λb=>Rch v rs b) (λr hr h0=>Rch.root hr h0) ?_;rintro b c hb ⟨-,i,hi,h0,h1,rfl⟩;have X:=hS.rd b hb;rw[(h.rd X).2]at hi;have hp:=h.pt X hi (hS.pt b hb i hi);rw[hp.2]at h1⊢;exact hb.step ⟨X,i,hi,hS.pt b hb i hi,h1,rfl⟩
 ·intro ha;refine(ha (λb=>Rch v' rs b/\Rch v rs b) (λr hr h0=>⟨Rch.root hr h0,Rch.root hr h0⟩) ?_).1;rintro b c ⟨hb,Y⟩ hp;refine⟨?_,Y.step hp⟩;obtain⟨X,i,hi,h0,h1,rfl⟩:=hp;have hp:=h.pt X hi h0;rw[<-hp.2];exact hb.step ⟨(h.rd X).1,i,by rw[(h.rd X).2];exact hi,hp.1,by omega,rfl⟩
theorem IP.marks{v:Vm}(h:IP v v')(hM:BD v rs n L):BD v' rs n L:=by
 have hS:=hM.sound;refine⟨⟨hM.mkd.good,λo ho=>?_⟩,λa ha=>hM.all a ((h.rch hS a).1 ha),λo ho i hi=>?_⟩
 ·obtain⟨h1,h2,h3⟩:=hM.mkd.ats o ho;obtain⟨e1,e2⟩:=h.rd h2;exact⟨(h.rch hS _).2 h1,e1,by rw[h3];unfold Vm.osz;rw[e2]⟩
 ·obtain⟨h1,h2,-⟩:=hM.mkd.ats o ho;rw[(h.rd h2).2]at hi;obtain⟨c1,c2⟩:=hM.cl o ho i hi;have hp:=h.pt h2 hi c1
  simp_all
def umN(v:Vm)(q0:Nat):Nat->Vm
 | 0=>v
 | k+1=>(umN v q0 k).um ((q0+k:Nat):Int)
theorem YE(v:Vm)(p:Int):(v.um p).n=v.n/\(v.um p).pl.pg=v.pl.pg/\(v.um p).pl.rm=v.pl.rm/\(v.um p).pt.length=v.pt.length:=by
 unfold Vm.um
 split
 ·exact⟨rfl,rfl,rfl,η⟩
 omega
theorem LE(v:Vm)(q0 k:Nat):(umN v q0 k).n=v.n/\(umN v q0 k).pl.pg=v.pl.pg/\(umN v q0 k).pl.rm=v.pl.rm/\(umN v q0 k).pt.length=v.pt.length:=by
 induction k with
 | zero=>exact⟨rfl,rfl,rfl,rfl⟩
 | succ k ih=>
  obtain⟨h1,h2,h3,h4⟩:=YE (umN v q0 k) ((q0+k:Nat):Int);exact⟨h1.trans ih.1,h2.trans ih.2.1,h3.trans ih.2.2.1,h4.trans ih.2.2.2⟩
theorem O6{v:Vm}(h:AF v)(q0 k:Nat):AF (umN v q0 k):=by
 induction k with
 | zero=>exact h
 | succ k ih=>exact ih.um _
theorem UP{v:Vm}(h:AF v)(q0 k:Nat){a:Nat}(ha:a<v.n):(umN v q0 k).ldE a=if q0<=a/v.pl.pg/\a/v.pl.pg<q0+k then 12 else v.ldE a:=by
 induction k with
 | zero=>rw[ϑ Ω];rfl
 | succ k ih=>
  obtain⟨s1,s2,-,s4⟩:=LE v q0 k;have X:=O6 h q0 k
  show ((umN v q0 k).um ((q0+k:Nat):Int)).ldE a=_
  by_cases hf:frE (umN v q0 k).pt ((q0+k:Nat):Int)=0
  ·rw[X.um_ldE hf Ω,s2,ih];omega
  ·rw[PQ hf];by_cases e:a/v.pl.pg=q0+k
   ·have h1:=X.ldE_of (a:=a) Ω;rw[s2,e]at h1;have hl:q0+k<(umN v q0 k).pt.length:=by rw[s4,<-e];exact(h.split ha).1
    rw[LP hl]at hf;omega
   omega
theorem Z1{v:Vm}(h:AF v)(q0 k:Nat){a:Nat}(ha:a<v.n)(hn:¬(q0<=a/v.pl.pg/\a/v.pl.pg<q0+k)):(umN v q0 k).ldV a=v.ldV a:=by
 induction k with
 | zero=>rfl
 | succ k ih=>
  obtain⟨s1,s2,-,-⟩:=LE v q0 k;have X:=O6 h q0 k
  show ((umN v q0 k).um ((q0+k:Nat):Int)).ldV a=_
  by_cases hf:frE (umN v q0 k).pt ((q0+k:Nat):Int)=0
  ·rw[X.um_ldV hf Ω (by grind)];omega
  grind [PQ]
end Go.Proofs.YtggjoonlcjjgkaaGreatDoor
