/- Part 3 of what QueuePlays leans on: my own lemmas, merged by shake.py. -/
import Derived.Test.YtggjoonlcjjgkaaGreatDoorQueuePlaysB
import Derived.Laws.BitsAllLaws
import Derived.Laws.Bits64b
import Derived.Shelf.Abstract
import Derived.Shelf.RegionOpen
import Derived.OwnWalkIn
import Derived.TacticsInMore
import Derived.LoopNIn
import Derived.LoopIn
import Derived.Stop.RegionWithIn
import Derived.Sort.CutIn
namespace Go.Proofs.YtggjoonlcjjgkaaGreatDoor
open _root_.Go.Proofs.Tryz
set_option maxHeartbeats 3200000
set_option maxRecDepth 100000
open Go.RowKit Word
variable{z:Int}{l:List Bool}{F pt:List Nat}{L:List Ob}{xs:List Value}{a b bm bs c f j k m n p p0 p1 p2 pg q rm x:Nat}{S S' T:Nat->Prop}{vF:Value}{W w w' w1 w2:World}
structure Vm where
 n:Nat
 pl:Pl
 pt:List Nat
variable{v':Vm}
structure AE(v:Vm):Prop where
 pl:FE v.pl
 pt:JA v.pt
 n2:v.n<=524288
 np:v.n=v.pt.length*v.pl.pg
 fr:∀p,p<v.pt.length->v.pt.getD p 0≠0->at_ v.pl.tk (v.pt.getD p 0-1)=true
 inj:∀p p',p<v.pt.length->p' < v.pt.length->v.pt.getD p 0≠0->v.pt.getD p 0=v.pt.getD p' 0->p=p'
 us:v.pl.used=nz v.pt
structure AC(w:World)(S:Nat->Prop)(q:Nat)(v:Vm):Prop where
 ok:AE v
 sq:S q
 row:∃S1 S2 b1 b2,Rec w q 135 [pP b1,pP b2,iI v.n]/\CI w S1 b1 v.pl/\C6 w S2 b2 v.pt ∧
  (∀k,S1 k->S k)/\(∀k,S2 k->S k)/\(∀k,S1 k->¬S2 k)/\¬S1 q/\¬S2 q
theorem AC.touch{v:Vm}(h:AC w S q v)(t:AB T w w')(hS:∀k,S k->k<w.heap.size->¬T k):AC w' S q v:=by
 obtain⟨h1,h2,S1,S2,b1,b2,hr,hp,hg,s1,s2,s3,s4,s5⟩:=h;exact⟨h1,h2,S1,S2,b1,b2,hr.touch t (hS _ h2 hr.lt),hp.touch t (λk hk=>hS k (s1 k hk)),hg.touch t (λk hk=>hS k (s2 k hk)),s1,s2,s3,s4,s5⟩
theorem AC.gr{v:Vm}(h:AC w S q v)(t:Gr w w'):AC w' S q v:=h.touch (t.touch (λ_=>False)) (λ_ _ _ h=>h)
theorem AC.mono{v:Vm}(h:AC w S q v)(hT:∀k,S k->T k):AC w T q v:=by
 obtain⟨h1,h2,S1,S2,b1,b2,hr,hp,hg,s1,s2,s3,s4,s5⟩:=h;exact⟨h1,hT _ h2,S1,S2,b1,b2,hr,hp,hg,λk hk=>hT k (s1 k hk),λk hk=>hT k (s2 k hk),s3,s4,s5⟩
def AD(S:Nat->Prop)(w:World)(k:Nat):Prop:=S k/\k<w.heap.size
theorem CI.cut{p:Pl}(h:CI w S q p):CI w (AD S w) q p:=by
 obtain⟨h1,h2,vw,vt,vb,hi,ts,hr,o1,o2,o3,s1,s2,s3⟩:=h;exact⟨h1,⟨h2,hr.lt⟩,vw,vt,vb,hi,ts,hr,o1,o2,o3,λg hg=>⟨s1 g hg,(BE o1 hg).2⟩,λg hg=>⟨s2 g hg,(BE o2 hg).2⟩,λg hg=>⟨s3 g hg,(BE o3 hg).2⟩⟩
theorem C6.cut(h:C6 w S q pt):C6 w (AD S w) q pt:=by
 obtain⟨ok,sq,g,c,L,hr,h1,h2,sg,ho,ht,hd⟩:=h;refine⟨ok,⟨sq,hr.lt⟩,g,c,L,hr,h1,h2,⟨sg,(BE ho rfl).2⟩,ho,λk hk=>?_,hd⟩;have:=ht k hk;cases hl:L.getD k none with
 | none=>grind
 | some b=>rw[hl]at this;exact⟨⟨this.1,this.2.lt⟩,this.2⟩
theorem AC.cut{v:Vm}(h:AC w S q v):AC w (AD S w) q v:=by
 obtain⟨h1,h2,S1,S2,b1,b2,hr,hp,hg,s1,s2,s3,s4,s5⟩:=h;exact⟨h1,⟨h2,hr.lt⟩,AD S1 w,AD S2 w,b1,b2,hr,hp.cut,hg.cut,λk hk=>⟨s1 k hk.1,hk.2⟩,λk hk=>⟨s2 k hk.1,hk.2⟩,λk hk hk2=>s3 k hk.1 hk2.1,λh=>s4 h.1,λh=>s5 h.1⟩
theorem S0{a b c a' b' c':Value}(h1:a=a')(h2:b=b')(h3:c=c'):Ending.returned (.tuple #[a,b,c])=.returned (.tuple #[a',b',c']):=by simp_all
def Vm.ldE(v:Vm)(a:Int):Int:=if 0<=a/\a<v.n then frE v.pt (a/v.pl.pg)else 11
def Vm.at(v:Vm)(a:Int):Nat:=(v.pt.getD (a/v.pl.pg).toNat 0-1)*v.pl.pg+(a%v.pl.pg).toNat
def Vm.ldV(v:Vm)(a:Int):Nat:=if v.ldE a=0 then v.pl.wd.getD (v.at a) 0 else 0
def Vm.st(v:Vm)(a:Int)(x:Nat):Vm:=if v.ldE a=0 then {v with pl:={v.pl with wd:=v.pl.wd.set (v.at a) x}}else v
theorem AE.page{v:Vm}(h:AE v):1<=v.pl.pg/\v.pl.pg<=256:=⟨by have:=DI h.pl.pg;omega,h.pl.pg2⟩
theorem AE.split{v:Vm}(h:AE v)(ha:a<v.n):a/v.pl.pg<v.pt.length/\a%v.pl.pg<v.pl.pg:=by
 have hp:=h.page;refine⟨(ζ2 hp.1).2 (by rw[<-h.np];exact ha),ξU _ hp.1⟩
theorem AE.hit{v:Vm}{a:Int}(h0:v.ldE a=0):∃j:Nat,a=j/\j<v.n/\v.pt.getD (j/v.pl.pg) 0≠0:=by
 unfold Vm.ldE at h0
 split at h0
 ·rename_i hr;obtain⟨j,rfl⟩:∃j:Nat,a=j:=⟨a.toNat,by omega⟩;obtain⟨p,hp1,hp2,hp3⟩:=M5 h0;have hpj:p=j/v.pl.pg:=Ω
  grind
 ·cases h0
section
variable{v:Vm}
theorem FA(hV:AC w S q v):cQ 83 #[pP q] w (.bool false):=by
 obtain⟨S1,S2,b1,b2,hr,-⟩:=hV.row;have c0:=hr.cc 0;go_enter func83,ntmps83;go_wp2;go_ret
 simp_all
theorem YU7(w:World):cQ 83 #[.pointer none] w (.bool true):=by
 go_enter func83,ntmps83;go_wp2;go_ret;exact⟨rfl,rfl⟩
def Xy7(w:World)(v:Vm)(a:Int)(e:Ending)(w':World):Prop:=
 Gr w w'/\∃x y:Int,e=.returned (.tuple #[iI x,iI y,iI (v.ldE a)])/\(v.ldE a=0->x=(v.pt.getD (a/v.pl.pg).toNat 0:Nat)-1/\y=a%v.pl.pg)
theorem SK(hV:AC w S q v)(a:Int):Calls prog 203 #[pP q,iI a] w (Xy7 w v a):=by
 have HV:=hV;obtain⟨S1,S2,b1,b2,hr,hp,hg,-⟩:=hV.row;obtain⟨c0,c1,c2,V⟩:=hr.k3;have HP:=hp;have HG:=hg;have U:=hV.ok.page;have hn:=hV.ok.n2;by_cases Y:0<=a/\a<v.n
 ·obtain⟨j,rfl⟩:∃j:Nat,a=j:=⟨a.toNat,by omega⟩;have HE:Hid (v.ldE j=frE v.pt ((j/v.pl.pg:Nat):Int)):=⟨by unfold Vm.ldE;rw[θ Y,ζ9]⟩;have HA:Hid (((j:Int)/(v.pl.pg:Int)).toNat=j/v.pl.pg/\((j%v.pl.pg:Nat):Int)=(j:Int)%(v.pl.pg:Int)):=⟨⟨by rw[<-ζ9,υ],ξO ..⟩⟩;obtain⟨p,X⟩:∃p,p=j/v.pl.pg:=⟨_,rfl⟩;obtain⟨o,Z⟩:∃o,o=j%v.pl.pg:=⟨_,rfl⟩;have q1:((j:Int).tdiv (v.pl.pg:Int))=(p:Int):=by rw[X];rfl
  have q2:((j:Int)/(v.pl.pg:Int))=(p:Int):=by rw[X];rfl
  have q3:((j:Int).tmod (v.pl.pg:Int))=(o:Int):=by rw[Z];rfl
  have q4:((j:Int)%(v.pl.pg:Int))=(o:Int):=by rw[Z];rfl
  have M:(v.pl.pg:Int)≠0:=Ω
  rw[<-X]at HE;rw[<-X,<-Z]at HA;have hp2:p<=524288:=by have:=ζ4 j v.pl.pg;omega
  have ho2:o<=524288:=by have:=Nat.mod_le j v.pl.pg;omega
  have hjI:(j:Int)<(v.n:Int):=Ω
  obtain⟨B,hB⟩:∃B,B=v.pl.pg:=⟨_,rfl⟩;have HB:=ι hB;rw[<-hB]at q1 q2 q3 q4 M U;have d0:decide ((j:Int)<0)=false:=ζ Ω;have d1:decide ((v.n:Int)<=(j:Int))=false:=ζ Ω;clear hr hp hg hV Y X Z hB;go_enter func203,ntmps203
  go_wp2_with(first
   | (go_at_call 83;refine(FA HV).mono ?_;rintro e w1 ⟨rfl,rfl⟩)
   | (go_at_call 165;refine(SX HP).mono ?_;rintro e w1 ⟨rfl,rfl⟩;rw[<-HB.o]))
  have z1:∀xs m,(grow w xs m).cell? ⟨q,1,none⟩=some (pP b2):=λxs m=>((grown w xs m).cell V 1).trans c1;refine I3 (by kernel_rfl) (by kernel_rfl) ?_
  repeat(go_big_quiet_step ((go_at_call 198;have hc:=λxs m=>KP (HG.gr (grown w xs m)) (p:Int);exact AY.grown (hc _ _))))
  refine ζb ?_;intro _ N;obtain⟨⟨xs,nq⟩,J⟩:=N;subst J;go_wp2;go_quiet (fail);go_wp2
  go_ret3
  refine⟨(grown w _ _).drewN _,_,_,S0 rfl rfl (BN HE.o.symm),λh0=>?_⟩;rw[HE.o]at h0;rw[HA.o.1,<-HA.o.2];refine⟨?_,rfl⟩;unfold frV;rw[θ h0,υ]
 ·have E:v.ldE a=11:=by unfold Vm.ldE;rw[φ Y]
  have HE:=ι E;rcases(by omega:a<0\/(0<=a/\(v.n:Int)<=a))with h|h
  ·have d0:decide (a<0)=true:=ξ h;clear hr hp hg hV Y E h;go_enter func203,ntmps203;go_wp2_with(go_at_call 83;refine(FA HV).mono ?_;rintro e w1 ⟨rfl,rfl⟩)
   go_ret3
   exact⟨Gr.refl w,_,_,S0 rfl rfl (BN HE.o.symm),λh0=>by rw[HE.o]at h0;exact absurd h0 (by decide)⟩
  ·have d0:decide (a<0)=false:=ζ Ω;have d1:decide ((v.n:Int)<=a)=true:=ξ h.2;clear hr hp hg hV Y E h;go_enter func203,ntmps203;go_wp2_with(go_at_call 83;refine(FA HV).mono ?_;rintro e w1 ⟨rfl,rfl⟩)
   go_ret3
   exact⟨Gr.refl w,_,_,S0 rfl rfl (BN HE.o.symm),λh0=>by rw[HE.o]at h0;exact absurd h0 (by decide)⟩
theorem ViR(hok:AE v){a x y:Int}(h0:v.ldE a=0)(hx:x=(v.pt.getD (a/v.pl.pg).toNat 0:Nat)-1)(hy:y=a%v.pl.pg):C5 v.pl x y=0/\x.toNat*v.pl.pg+y.toNat=v.at a:=by
 obtain⟨j,rfl,hj,X⟩:=AE.hit h0;obtain⟨h1,h2⟩:=hok.split hj;have hf:=hok.fr _ h1 X;have e1:((j:Int)/(v.pl.pg:Int)).toNat=j/v.pl.pg:=by grind
 have e2:(j:Int)%(v.pl.pg:Int)=((j%v.pl.pg:Nat):Int):=(ξO ..).symm;rw[e1]at hx;rw[e2]at hy;have hx1:0<=x:=Ω
 have hx2:x.toNat=v.pt.getD (j/v.pl.pg) 0-1:=Ω
 have hc:DY v.pl x=0:=by unfold DY;grind
 refine⟨?_,?_⟩
 ·unfold C5;omega
 ·unfold Vm.at
  grind
theorem JN(hV:AC w S q v)(a:Int):Calls prog 190 #[pP q,iI a] w λe w'=>e=.returned (.tuple #[uU (v.ldV a:Nat),iI (v.ldE a)])/\Gr w w':=by
 have HV:=hV;obtain⟨S1,S2,b1,b2,hr,hp,hg,-⟩:=hV.row;have U:=hr.lt;have c0:=hr.cc 0;have HP:=hp;by_cases h0:v.ldE a=0
 ·have HE:=h0
  have HW:Hid (∀x y:Int,x=(v.pt.getD (a/v.pl.pg).toNat 0:Nat)-1->y=a%v.pl.pg->C5 v.pl x y=0/\KD v.pl x y=v.ldV a):=⟨λx y hx hy=>by
   obtain⟨h1,h2⟩:=ViR hV.ok h0 hx hy;refine⟨h1,?_⟩;unfold KD Vm.ldV
   rw[θ h1,θ h0,h2]⟩
  go_enter func190,ntmps190
  go_wp2_with(first
   | (go_at_call 203;refine(SK HV a).mono ?_;rintro e w1 ⟨X,x,y,rfl,Z⟩;have J:=ι (HW.o x y (Z HE).1 (Z HE).2);rw[HE];have k0:=(X.cell U 0).trans c0;have Y:=X;clear X Z)
   | (go_at_call 218;refine(Xn2 (HP.gr Y) x y).mono ?_;rintro e w2 ⟨rfl,rfl⟩))
  go_ret2;exact⟨BL (congrArg (λn:Nat=>uU (n:Int)) J.o.2) (BN (by rw[J.o.1,HE])),Y⟩
 ·have V:Hid (v.ldV a=0):=⟨by unfold Vm.ldV;rw[φ h0]⟩;obtain⟨x,hx⟩:∃x,x=v.ldE a:=⟨_,rfl⟩;have HX:=ι hx;have d0:(x==0)=false:=by rw[hx];simpa using h0
  clear hr hp hg hV h0 hx;go_enter func190,ntmps190;go_wp2_with(go_at_call 203;refine(SK HV a).mono ?_;rintro e w1 ⟨X,x1,y1,rfl,-⟩;rw[<-HX.o];have Y:=X);go_ret2;exact⟨BL (by rw[V.o];rfl) (BN (by rw[HX.o])),Y⟩
def Zfu(w:World)(S:Nat->Prop)(q:Nat)(v:Vm)(a:Int)(x:Nat)(w':World):Prop:=AB S w w'/\AC w' S q (v.st a x)
theorem AE.st(h:AE v)(a:Int)(hx:x<18446744073709551616):AE (v.st a x):=by
 unfold Vm.st
 split
 ·exact⟨Z7 h.pl _ _ hx,h.pt,h.n2,h.np,h.fr,h.inj,h.us⟩
 ·exact h
theorem KU(hV:AC w S q v)(a:Int)(hx:x<18446744073709551616):Calls prog 169 #[pP q,iI a,uU x] w λe w'=>e=.returned (iI (v.ldE a))/\Zfu w S q v a x w':=by
 have HV:=hV;obtain⟨S1,S2,b1,b2,hr,hp,hg,s1,s2,s3,s4,s5⟩:=hV.row;have M:=hr.lt;have c0:=hr.cc 0;have HP:=hp;have N:=(hV.ok.st a hx);have hX:=hx;by_cases h0:v.ldE a=0
 ·have HE:=h0;have HS:Hid (v.st a x={v with pl:={v.pl with wd:=v.pl.wd.set (v.at a) x}}):=⟨by unfold Vm.st;rw[θ h0]⟩
  have HW:Hid (∀y z:Int,y=(v.pt.getD (a/v.pl.pg).toNat 0:Nat)-1->z=a%v.pl.pg->C5 v.pl y z=0/\KV v.pl y z x={v.pl with wd:=v.pl.wd.set (v.at a) x}):=⟨λy z hy hz=>by
   obtain⟨h1,h2⟩:=ViR hV.ok h0 hy hz;refine⟨h1,?_⟩;unfold KV
   rw[θ h1,h2]⟩
  have HK:Hid (∀(w1:World),Gr w w1->∀w2,AB S1 w1 w2->CI w2 S1 b1 {v.pl with wd:=v.pl.wd.set (v.at a) x}->Zfu w S q v a x w2):=⟨λw1 g1 w2 t2 p2=>by
   have T:AB S1 w w2:=(g1.touch S1).trans t2;refine⟨T.mono (λk _ hk=>s1 k hk),N,hV.sq,S1,S2,b1,b2,?_,?_,?_,s1,s2,s3,s4,s5⟩
   ·rw[HS.o];exact hr.touch T s4
   ·rw[HS.o];exact p2
   ·rw[HS.o];exact hg.touch T (λk hk _ hk2=>s3 k hk2 hk)⟩
  go_enter func169,ntmps169
  go_wp2_with(first
   | (go_at_call 203;refine(SK HV a).mono ?_;rintro e w1 ⟨X,y,z,rfl,Z⟩;have J:=ι (HW.o y z (Z HE).1 (Z HE).2);rw[HE];have k0:=(X.cell M 0).trans c0;have Y:=X;clear X Z)
   | (go_at_call 204;refine(YBJ (HP.gr Y) y z x hX).mono ?_;rintro e w2 ⟨rfl,U,I⟩;have V:=U;have O:=I))
  go_ret;refine⟨AM (by rw[J.o.1,HE]),HK.o _ Y _ V ?_⟩;rw[<-J.o.2];exact O
 ·have HS:Hid (v.st a x=v):=⟨by unfold Vm.st;rw[φ h0]⟩;obtain⟨y,hy⟩:∃y,y=v.ldE a:=⟨_,rfl⟩;have HX:=ι hy;have d0:(y==0)=false:=by rw[hy];simpa using h0
  clear hr hp hg hV h0 hx hy;go_enter func169,ntmps169;go_wp2_with(go_at_call 203;refine(SK HV a).mono ?_;rintro e w1 ⟨X,x1,y1,rfl,-⟩;rw[<-HX.o];have Y:=X);go_ret;exact⟨AM (by rw[HX.o]),Y.touch S,by rw[HS.o];exact HV.gr Y⟩
end
def Vm.mpE(v:Vm)(p:Int):Int:=if pgE v.pt p≠0 then 11 else if v.pt.getD p.toNat 0≠0 then 13 else if v.pl.used=v.pl.rm then 14 else 0
def Vm.mp(v:Vm)(p:Int):Vm:=if v.mpE p=0 then {v with pl:=v.pl.take,pt:=v.pt.set p.toNat (v.pl.next+1)}else v
def Vm.um(v:Vm)(p:Int):Vm:=if frE v.pt p=0 then {v with pl:=v.pl.give (v.pt.getD p.toNat 0-1),pt:=v.pt.set p.toNat 0}else v
theorem YMb{p:Pl}(h:at_ p.tk f=true):at_ p.fresh.tk f=true:=by
 unfold Pl.fresh
 split
 ·have:=FY h;unfold at_ at h⊢
  grind
 ·exact h
theorem Xiq(l:List Bool){i:Nat}(hi:i<l.length)(x:Bool)(j:Nat):at_ (l.set i x) j=if i=j then x else at_ l j:=by
 unfold at_
 grind
theorem QGm{p:Pl}(h:FE p)(f:Nat):at_ p.take.tk f=if p.next=f then true else at_ p.fresh.tk f:=Xiq _ (JX h).1 _ _
theorem VB{p:Pl}(h:FE p)(hf:at_ p.tk f=true):f≠p.next:=by
 rintro rfl;have h1:=(JX h).2.2
 grind [YMb]
theorem AE.frame{v:Vm}(h:AE v)(hp:v.pt.getD p 0≠0):at_ v.pl.tk (v.pt.getD p 0-1)=true:=by
 by_cases hl:p<v.pt.length
 ·exact h.fr p hl hp
 simp_all
theorem AE.mp{v:Vm}(h:AE v)(p:Int):AE (v.mp p):=by
 unfold Vm.mp
 split
 ·rename_i h0;unfold Vm.mpE at h0;by_cases h1:pgE v.pt p≠0
  ·rw[θ h1]at h0;cases h0
  ·rw[φ h1]at h0;by_cases h2:v.pt.getD p.toNat 0≠0
   ·rw[θ h2]at h0;cases h0
   ·rw[φ h2]at h0;have J:v.pt.getD p.toNat 0=0:=ξT.1 h2;by_cases h3:v.pl.used=v.pl.rm
    ·rw[θ h3]at h0;cases h0
    ·obtain⟨j,rfl,hj⟩:=PX (ξT.1 h1);rw[υ]at J⊢;have hn:=JX h.pl;have hle:=N7 h.pl;have Y:=SA h.pl Ω;have hlen:v.pl.fresh.tk.length=v.pl.take.tk.length:=by exact List.length_set.symm
     have hn2:v.pl.next<4096:=by have:=Y.le;have:=Y.rm;omega
     refine⟨Y,h.pt.set j Ω,h.n2,?_,λi hi X=>?_,λi i' hi Z X he=>?_,?_⟩
     ·rw[η];have:v.pl.take.pg=v.pl.pg:=(MT v.pl).1;rw[this];exact h.np
     ·rw[ER hj,QGm h.pl];by_cases e:j=i
      ·rw[θ e,θ Ω]
      ·rw[φ e]
       split
       ·rfl
       ·refine YMb (h.frame ?_);have:(v.pt.set j (v.pl.next+1)).getD i 0≠0:=X;rw[ER hj,φ e]at this;exact this
     ·have X:(v.pt.set j (v.pl.next+1)).getD i 0≠0:=X;have he:(v.pt.set j (v.pl.next+1)).getD i 0=(v.pt.set j (v.pl.next+1)).getD i' 0:=he;have hi:i<v.pt.length:=by have:i<(v.pt.set j (v.pl.next+1)).length:=hi;rwa [η]at this
      have Z:i' < v.pt.length:=by have:i' < (v.pt.set j (v.pl.next+1)).length:=Z;rwa [η]at this
      rw[ER hj]at X he;rw[ER hj]at he;by_cases e:j=i <;> by_cases e':j=i'
      ·rw[<-e,e']
      ·rw[θ e,φ e']at he;have:=VB h.pl (h.frame (p:=i') Ω);omega
      ·rw[φ e,θ e']at he;have:=VB h.pl (h.frame (p:=i) Ω);omega
      ·rw[φ e]at X he;rw[φ e']at he;exact h.inj i i' hi Z X he
     ·rw[VI h.pl,O9 hj J Ω,h.us]
 ·exact h
theorem AE.um{v:Vm}(h:AE v)(p:Int):AE (v.um p):=by
 unfold Vm.um
 split
 ·rename_i h0;obtain⟨j,rfl,hj,X⟩:=M5 h0;rw[υ];have hf:=h.fr j hj X;refine⟨ZN h.pl hf,h.pt.set j Ω,h.n2,?_,λi hi hn=>?_,λi i' hi Y hn he=>?_,?_⟩
  ·rw[η];exact h.np
  ·have hi:i<v.pt.length:=by simp_all
   have hn:(v.pt.set j 0).getD i 0≠0:=hn
   show at_ (v.pl.tk.set _ false) ((v.pt.set j 0).getD i 0-1)=true
   rw[ER hj]at hn⊢;by_cases e:j=i
   ·simp_all
   ·rw[φ e]at hn⊢;rw[Xiq _ (FY hf),φ,h.fr i hi hn];intro e2;exact e (h.inj j i hj hi X Ω)
  ·have hi:i<v.pt.length:=by simp_all
   have Y:i' < v.pt.length:=by simp_all
   have hn:(v.pt.set j 0).getD i 0≠0:=hn;have he:(v.pt.set j 0).getD i 0=(v.pt.set j 0).getD i' 0:=he;rw[ER hj]at hn he;rw[ER hj]at he;by_cases e:j=i
   ·simp_all
   ·rw[φ e]at hn he;by_cases e':j=i'
    ·simp_all
    ·rw[φ e']at he;exact h.inj i i' hi Y hn he
  ·show (v.pl.give _).used=nz (v.pt.set j 0)
   have h1:=OM (p:=v.pl) hf;have h2:=VP hj X;have:=h.us;omega
 ·exact h
theorem AE.place_lt{v:Vm}(h:AE v){a:Int}(h0:v.ldE a=0):v.at a<v.pl.wd.length:=by
 obtain⟨j,rfl,hj,X⟩:=AE.hit h0;obtain⟨h1,h2⟩:=h.split hj;have hf:=FY (h.fr _ h1 X);unfold Vm.at;rw[<-ζ9,υ,<-ξO,υ,h.pl.wl];have:(v.pt.getD (j/v.pl.pg) 0-1+1)*v.pl.pg<=v.pl.tk.length*v.pl.pg:=ζi _ hf
 grind
theorem XfE{g o f' o':Nat}(h1:o<g)(h2:o' < g)(h:f*g+o=f' * g+o'):f=f'/\o=o':=by
 have e1:(f*g+o)/g=f:=by rw[ζW,Nat.mul_add_div Ω,ψl h1,ξm]
 have e2:(f' * g+o')/g=f':=by rw[ζW,Nat.mul_add_div Ω,ψl h2,ξm]
 simp_all
theorem AE.at_inj{v:Vm}(h:AE v){a b:Int}(ha:v.ldE a=0)(hb:v.ldE b=0)(he:v.at a=v.at b):a=b:=by
 obtain⟨j,rfl,hj,X⟩:=AE.hit ha;obtain⟨i,rfl,hi,hne'⟩:=AE.hit hb;obtain⟨h1,h2⟩:=h.split hj;obtain⟨h3,h4⟩:=h.split hi;unfold Vm.at at he;rw[<-ζ9,υ,<-ξO,υ,<-ζ9,υ,<-ξO,υ]at he;obtain⟨e1,e2⟩:=XfE h2 h4 he;have e3:=h.inj _ _ h1 h3 X Ω
 grind [ζv]
theorem FN(v:Vm)(a:Int)(x:Nat)(b:Int):(v.st a x).ldE b=v.ldE b:=by unfold Vm.st;split <;> rfl
theorem AE.st_ldV{v:Vm}(h:AE v){a:Int}(x:Nat)(ha:v.ldE a=0)(b:Int):(v.st a x).ldV b=if a=b then x else v.ldV b:=by
 have e1:v.st a x={v with pl:={v.pl with wd:=v.pl.wd.set (v.at a) x}}:=θ ha;have e2:(v.st a x).at b=v.at b:=by rw[e1];rfl
 have e3:(v.st a x).pl.wd=v.pl.wd.set (v.at a) x:=by rw[e1]
 unfold Vm.ldV;rw[FN,e2,e3];by_cases hb:v.ldE b=0
 ·rw[θ hb,θ hb,ER (h.place_lt ha)];by_cases e:a=b
  ·simp_all
  ·rw[φ e,φ (λhe=>e (h.at_inj ha hb he))]
 grind
theorem UC{v:Vm}{p:Int}(h:v.mpE p≠0):v.mp p=v:=φ h
theorem QK{v:Vm}{p:Int}(h:frE v.pt p≠0):v.um p=v:=φ h
theorem P0{v:Vm}{p:Int}(h:v.mpE p=0):∃j:Nat,p=j/\j<v.pt.length/\v.pt.getD j 0=0/\v.pl.used≠v.pl.rm:=by
 unfold Vm.mpE at h
 grind [PX]
theorem L9(h:p<pt.length):frE pt p=if pt.getD p 0=0 then 12 else 0:=by
 unfold frE pgE
 simp_all
theorem AE.ldE_of{v:Vm}(h:AE v)(ha:a<v.n):v.ldE a=if v.pt.getD (a/v.pl.pg) 0=0 then 12 else 0:=by
 unfold Vm.ldE;rw[θ ⟨by omega,by omega⟩,<-ζ9,L9 (h.split ha).1]
theorem AE.mp_ldE{v:Vm}(h:AE v)(hp:v.mpE p=0)(ha:a<v.n):(v.mp p).ldE a=if a/v.pl.pg=p then 0 else v.ldE a:=by
 have e1:v.mp p={v with pl:=v.pl.take,pt:=v.pt.set p (v.pl.next+1)}:=by unfold Vm.mp;simp_all
 obtain⟨j,hj,X,-,-⟩:=P0 hp;obtain rfl:p=j:=Ω
 have h1:=(h.mp p).ldE_of (a:=a) (by simp_all);have e2:(v.mp p).pl.pg=v.pl.pg:=by rw[e1];exact(MT v.pl).1
 have e3:(v.mp p).pt=v.pt.set p (v.pl.next+1):=by rw[e1]
 rw[h1,e2,e3,ER X,h.ldE_of ha]
 grind
theorem AE.mp_ldV{v:Vm}(h:AE v)(hp:v.mpE p=0)(ha:a<v.n):(v.mp p).ldV a=if a/v.pl.pg=p then 0 else v.ldV a:=by
 have e1:v.mp p={v with pl:=v.pl.take,pt:=v.pt.set p (v.pl.next+1)}:=by unfold Vm.mp;rw[θ hp,υ]
 obtain⟨j,hj,Y,-,-⟩:=P0 hp;obtain rfl:p=j:=Ω
 have hE:=h.mp_ldE hp ha;obtain⟨n1,n2,n3⟩:=JX h.pl;have hf:v.pl.next*v.pl.pg+v.pl.pg<=v.pl.fresh.wd.length:=by rw[n2,<-ξk];exact ζi _ n1
 have e2:(v.mp p).pl.pg=v.pl.pg:=by rw[e1];exact(MT v.pl).1
 have e3:(v.mp p).pt=v.pt.set p (v.pl.next+1):=by rw[e1]
 have e4:(v.mp p).pl.wd=GL v.pl.fresh.wd (v.pl.next*v.pl.pg) v.pl.pg:=by rw[e1];rfl
 obtain⟨s1,s2⟩:=h.split ha
 have e5:(v.mp p).at a=((v.pt.set p (v.pl.next+1)).getD (a/v.pl.pg) 0-1)*v.pl.pg+a%v.pl.pg:=by
  unfold Vm.at;rw[e2,e3,<-ζ9,υ,<-ξO,υ]
 unfold Vm.ldV;rw[hE,e4,e5,ER Y];by_cases e:a/v.pl.pg=p
 ·rw[θ e,θ e,θ rfl,θ e.symm,YMA hf,θ ⟨by simp,by rw[Nat.add_sub_cancel];omega⟩]
 ·have en:¬p=a/v.pl.pg:=λh=>e h.symm;rw[φ e,φ e,φ en];by_cases h0:v.ldE a=0
  ·rw[θ h0,θ h0];obtain⟨j',hj',hj2,J⟩:=AE.hit h0;obtain rfl:a=j':=Ω
   have U:=h.fr _ s1 J;have hnx:=VB h.pl U
   have Z:v.at a=(v.pt.getD (a/v.pl.pg) 0-1)*v.pl.pg+a%v.pl.pg:=by
    unfold Vm.at;rw[<-ζ9,υ,<-ξO,υ]
   have X:=h.place_lt h0;rw[Z]at X⊢;rw[YMA hf,φ]
   ·unfold Pl.fresh
    split
    ·generalize (v.pt.getD (a/v.pl.pg) 0-1)*v.pl.pg+a%v.pl.pg=i at X;simp only[β];rw[ζQ X]
    ·rfl
   ·rintro⟨c1,c2⟩;generalize v.pt.getD (a/v.pl.pg) 0-1=f at *
    rcases δ f v.pl.next with hl|hl
    ·have:(f+1)*v.pl.pg<=v.pl.next*v.pl.pg:=ζi _ hl
     rw[ξk]at this;omega
    ·have:(v.pl.next+1)*v.pl.pg<=f*v.pl.pg:=ζi _ Ω;rw[ξk]at this;omega
  ·rw[φ h0,φ h0]
theorem AE.um_ldE{v:Vm}(h:AE v)(hp:frE v.pt p=0)(ha:a<v.n):(v.um p).ldE a=if a/v.pl.pg=p then 12 else v.ldE a:=by
 have e1:v.um p={v with pl:=v.pl.give (v.pt.getD p 0-1),pt:=v.pt.set p 0}:=by unfold Vm.um;simp_all
 obtain⟨j,hj,X,-⟩:=M5 hp;obtain rfl:p=j:=Ω
 have h1:=(h.um p).ldE_of (a:=a) (by simp_all);have e2:(v.um p).pl.pg=v.pl.pg:=by rw[e1];rfl
 have e3:(v.um p).pt=v.pt.set p 0:=by rw[e1]
 rw[h1,e2,e3,ER X,h.ldE_of ha]
 grind
theorem AE.um_ldV{v:Vm}(h:AE v)(hp:frE v.pt p=0)(ha:a<v.n)(hne:a/v.pl.pg≠p):(v.um p).ldV a=v.ldV a:=by
 have e1:v.um p={v with pl:=v.pl.give (v.pt.getD p 0-1),pt:=v.pt.set p 0}:=by unfold Vm.um;simp_all
 obtain⟨j,hj,X,-⟩:=M5 hp;obtain rfl:p=j:=Ω
 have hE:=h.um_ldE hp ha;rw[φ hne]at hE
 have e5:(v.um p).at a=v.at a:=by
  rw[e1]
  show ((v.pt.set p 0).getD ((a:Int)/(v.pl.pg:Int)).toNat 0-1)*v.pl.pg+_=_
  rw[<-ζ9,υ,ER X,φ (show ¬p=a/v.pl.pg from λh=>hne h.symm)];rfl
 unfold Vm.ldV;rw[hE,e5,e1];rfl
def WD(w:World)(S:Nat->Prop)(q:Nat)(v:Vm)(w':World):Prop:=AB S w w'/\AC w' (plus S w) q v
section
variable{v:Vm}
theorem ZXj(v:Vm)(p:Int):(frE v.pt p=11/\v.mpE p=11)\/(frE v.pt p=0/\v.mpE p=13)\/(frE v.pt p=12/\v.pl.used=v.pl.rm/\v.mpE p=14)\/(frE v.pt p=12/\v.pl.used≠v.pl.rm/\v.mpE p=0):=by
 have e1:frE v.pt p=if pgE v.pt p=0 then (if v.pt.getD p.toNat 0=0 then 12 else 0)else 11:=rfl
 have e2:v.mpE p=if pgE v.pt p≠0 then 11 else if v.pt.getD p.toNat 0≠0 then 13 else if v.pl.used=v.pl.rm then 14 else 0:=rfl
 rw[e1,e2];by_cases h:pgE v.pt p=0
 ·have h':¬pgE v.pt p≠0:=λh'=>h' h
  grind
 simp_all
theorem WL(hV:AC w S q v)(p:Int):Calls prog 166 #[pP q,iI p] w λe w'=>e=.returned (iI (v.mpE p))/\WD w S q (v.mp p) w':=by
 have HV:=hV;obtain⟨S1,S2,b1,b2,hr,hp,hg,s1,s2,s3,s4,s5⟩:=hV.row;have J:=hr.lt;have c0:=hr.cc 0;have c1:=hr.cc 1;have HP:=hp;have HG:=hg
 have HN:Hid (v.mpE p≠0->∀w',Gr w w'->WD w S q (v.mp p) w'):=⟨λh w' g=>by
  rw[UC h]
  exact⟨g.touch S,(hV.gr g).mono (λk hk=>.inl hk)⟩⟩
 have HR:=hr;have HS:=(ψ s1 (ψ s2 (ψ s3 (ψ s4 s5))));rcases ZXj v p with⟨h1,h2⟩|⟨h1,h2⟩|⟨h1,h2,h3⟩|⟨h1,h2,h3⟩
 ·have HE:=(ψ h1 h2);clear hV hr hp hg s1 s2 s3 s4 s5 h1 h2;go_enter func166,ntmps166
  go_wp2_with(first
   | (go_at_call 83;refine(FA HV).mono ?_;rintro e w1 ⟨rfl,rfl⟩)
   | (go_at_call 198;refine(KP HG p).mono ?_;rintro e w1 ⟨rfl,Y⟩;rw[HE.1];have X:=Y;clear Y))
  go_ret;exact⟨AM (by rw[HE.2]),HN.o (by rw[HE.2];decide) _ X⟩
 ·have HE:=(ψ h1 h2);clear hV hr hp hg s1 s2 s3 s4 s5 h1 h2;go_enter func166,ntmps166
  go_wp2_with(first
   | (go_at_call 83;refine(FA HV).mono ?_;rintro e w1 ⟨rfl,rfl⟩)
   | (go_at_call 198;refine(KP HG p).mono ?_;rintro e w1 ⟨rfl,Y⟩;rw[HE.1];have X:=Y;clear Y))
  go_ret;exact⟨AM (by rw[HE.2]),HN.o (by rw[HE.2];decide) _ X⟩
 ·have HE:=(ψ h1 (ψ h2 h3));clear hV hr hp hg s1 s2 s3 s4 s5 h1 h2 h3;go_enter func166,ntmps166
  go_wp2_with(first
   | (go_at_call 83;refine(FA HV).mono ?_;rintro e w1 ⟨rfl,rfl⟩)
   | (go_at_call 198;refine(KP HG p).mono ?_;rintro e w1 ⟨rfl,Y⟩;rw[HE.1];have k0:=(Y.cell J 0).trans c0;have X:=Y;clear Y)
   | (go_at_call 199;refine(YV (HP.gr X)).mono ?_;rintro e w2 (⟨-,rfl,E⟩|⟨h,-⟩);rotate_left;(exact absurd HE.2.1 Ω);have Xd:=E;clear E))
  go_ret;exact⟨AM (by rw[HE.2.2]),HN.o (by rw[HE.2.2];decide) _ (X.trans Xd)⟩
 ·obtain⟨j,rfl,hj,h0,-⟩:=P0 h3;have HE:=(ψ h1 (ψ h2 h3))
  have O:v.pl.next<4096:=by
   have hle:=N7 hV.ok.pl;have D:=SA hV.ok.pl Ω;have hn:=JX hV.ok.pl;have hlen:v.pl.fresh.tk.length=v.pl.take.tk.length:=by unfold Pl.take;exact List.length_set.symm
   have:=D.le;have:=D.rm;omega
  have HM:=(show v.mp j={v with pl:=v.pl.take,pt:=v.pt.set j (v.pl.next+1)}by unfold Vm.mp;rw[θ h3,υ]);have Xa:=(λ(w1 w2:World) (g1:Gr w w1) (t2:AB S1 w1 w2)=>YTd (((hg.gr g1).cut).touch t2 (λk hk _ hk2=>s3 k hk2 hk.1)) hj h0 O);have A:=(hV.ok.mp j);obtain⟨nx,Z⟩:∃nx,nx=v.pl.next:=⟨_,rfl⟩
  have M:=ι Z;rw[<-Z]at O;have B:=ι c1;clear hV hr hp hg s1 s2 s3 h1 h2 h3 Z h0;go_enter func166,ntmps166
  go_wp2_with(first
   | (go_at_call 83;refine(FA HV).mono ?_;rintro e w1 ⟨rfl,rfl⟩)
   | (go_at_call 198;refine(KP HG j).mono ?_;rintro e w1 ⟨rfl,Y⟩;rw[HE.1];have k0:=(Y.cell J 0).trans c0;have X:=Y;clear Y)
   | (go_at_call 199;refine(YV (HP.gr X)).mono ?_;rintro e w2 (⟨h,-⟩|⟨-,rfl,V,G⟩);(exact absurd h HE.2.1);rw[<-M.o];have k1:=(V.cell (κ J X.size) s4 1).trans ((X.cell J 1).trans B.o);have U:=ι V;have Xb:=ι G;clear V G)
   | (go_at_call 200;have N:=Xa _ _ X U.o;rw[<-M.o]at N;refine N.mono ?_;rintro e w3 ⟨rfl,I⟩;have Xe:=ι I;clear I N))
  go_ret;refine⟨AM (by rw[HE.2.2]),?_⟩;obtain⟨s1,s2,s3,s4,s5⟩:=HS;obtain⟨t3,p3⟩:=Xe.o;have Xc:AB S w w2:=(X.touch S).trans (U.o.mono (λk _ hk=>s1 k hk));have z1:=X.size;have z2:=U.o.size;refine⟨Xc.trans (t3.mono (λk _ hk=>s2 k hk.1)),A,.inl HV.sq,AD (plus S1 w1) w2,plus (AD S2 w1) w2,b1,b2,?_,?_,?_,λk hk=>?_,λk hk=>?_,λk hk hk2=>?_,λhk=>?_,λhk=>?_⟩
  ·rw[HM];exact((HR.gr X).touch U.o s4).touch t3 (λh=>s5 h.1)
  ·rw[HM]
   exact Xb.o.cut.touch t3 (λk hk _ hk2=>by
    rcases hk.1 with h|h
    ·exact s3 k h hk2.1
    ·have:=hk2.2;omega)
  ·rw[HM]
   show C6 w3 _ b2 (v.pt.set j (v.pl.next+1))
   rw[<-M.o];exact p3
  ·rcases hk.1 with h|h
   ·exact .inl (s1 k h)
   ·exact .inr Ω
  ·rcases hk with h|h
   ·exact .inl (s2 k h.1)
   ·exact .inr Ω
  ·rcases hk2 with h|h
   ·rcases hk.1 with h'|h'
    ·exact s3 k h' h.1
    ·have:=h.2;omega
   ·have:=hk.2;omega
  ·rcases hk.1 with h|h
   ·exact s4 h
   ·omega
  ·rcases hk with h|h
   ·exact s5 h.1
   ·omega
theorem NB(hV:AC w S q v)(p:Int):Calls prog 139 #[pP q,iI p] w λe w'=>e=.returned (iI (frE v.pt p))/\WD w S q (v.um p) w':=by
 have HV:=hV;obtain⟨S1,S2,b1,b2,hr,hp,hg,s1,s2,s3,s4,s5⟩:=hV.row;have A:=hr.lt;have c0:=hr.cc 0;have c1:=hr.cc 1;have HP:=hp;have HG:=hg;have HR:=hr;have HS:=(ψ s1 (ψ s2 (ψ s3 (ψ s4 s5))));by_cases h0:frE v.pt p=0
 ·have HE:=h0;obtain⟨j,rfl,hj,O⟩:=M5 h0;have hf:=hV.ok.fr j hj O;obtain⟨f,X⟩:∃f,f=v.pt.getD j 0-1:=⟨_,rfl⟩;have HF:=ι X;have D:=(show frV v.pt j=(f:Int)by unfold frV;rw[θ h0,υ,X];omega);rw[<-X]at hf;have HM:=(show v.um j={v with pl:=v.pl.give f,pt:=v.pt.set j 0}by unfold Vm.um;rw[θ h0,υ,X]);have Xa:=(λ(w1:World) (t1:AB S2 w w1)=>XDh (p:=v.pl) (f:=f) ((hp.cut).touch t1 (λk hk _ hk2=>s3 k hk.1 hk2)) hf);have E:=(hV.ok.um j);clear hV hr hp hg s1 s2 s3 s4 h0 O hf X;have G:=c0;go_enter func139,ntmps139
  go_wp2_with(first
   | (go_at_call 83;refine(FA HV).mono ?_;rintro e w1 ⟨rfl,rfl⟩)
   | (go_at_call 181;refine(Yzj HG j).mono ?_;rintro e w1 ⟨rfl,(⟨h,-⟩|⟨-,Z,Y⟩)⟩;(exact absurd HE h);rw[HE,D];have k0:=(Z.cell A s5 0).trans G;have J:=Z;have Xb:=Y;clear Z Y)
   | (go_at_call 182;refine(Xa _ J).mono ?_;rintro e w2 ⟨rfl,U,N⟩;have M:=U;have B:=N;clear U N))
  go_ret;refine⟨AM (by rw[HE]),?_⟩;obtain⟨s1,s2,s3,s4,s5⟩:=HS;have t1:=J;have t2:=M;have z1:=J.size;have z2:=M.size;refine⟨(t1.mono (λk _ hk=>s2 k hk)).trans (t2.mono (λk _ hk=>s1 k hk.1)),E,.inl HV.sq,plus (AD S1 w) w1,AD (plus S2 w) w1,b1,b2,?_,?_,?_,λk hk=>?_,λk hk=>?_,λk hk hk2=>?_,λhk=>?_,λhk=>?_⟩
  ·rw[HM];exact(HR.touch t1 s5).touch t2 (λh=>s4 h.1)
  ·rw[HM];exact B
  ·rw[HM];have Y:=Xb;rw[υ]at Y
   exact Y.cut.touch t2 (λk hk _ hk2=>by
    rcases hk.1 with h|h
    ·exact s3 k hk2.1 h
    ·have:=hk2.2;omega)
  ·rcases hk with h|h
   ·exact .inl (s1 k h.1)
   ·exact .inr Ω
  ·rcases hk.1 with h|h
   ·exact .inl (s2 k h)
   ·exact .inr Ω
  ·rcases hk with h|h
   ·rcases hk2.1 with h'|h'
    ·exact s3 k h.1 h'
    ·have:=h.2;omega
   ·have:=hk2.2;omega
  ·rcases hk with h|h
   ·exact s4 h.1
   ·omega
  ·rcases hk.1 with h|h
   ·exact s5 h
   ·omega
 ·obtain⟨y,hy⟩:∃y,y=frE v.pt p:=⟨_,rfl⟩;have HX:=ι hy;have d0:(y==0)=false:=by rw[hy];simpa using h0
  have HM:=(QK h0);have Xc:=ι h0;clear hV hr hp hg h0 hy s1 s2 s3 s4 s5;go_enter func139,ntmps139
  go_wp2_with(first
   | (go_at_call 83;refine(FA HV).mono ?_;rintro e w1 ⟨rfl,rfl⟩)
   | (go_at_call 181;refine(Yzj HG p).mono ?_;rintro e w1 ⟨rfl,(⟨-,V⟩|⟨h,-⟩)⟩;rotate_left;(exact absurd h Xc.o);rw[<-HX.o];have I:=ι V;clear V))
  go_ret;refine⟨AM (by rw[HX.o]),I.o.touch S,?_⟩;rw[HM];exact(HV.gr I.o).mono (λk hk=>.inl hk)
def Vm.new(n pg rm:Nat):Vm:=⟨n,Pl.none pg rm,List.replicate (n/pg) 0⟩
theorem AE.new(h1:E8 rm=true)(h2:EI pg=true)(h3:1<=n)(h4:n<=524288)(h5:n%pg=0):AE (Vm.new n pg rm):=by
 have hd:n/pg*pg=n:=by grind [ζv,ζW]
 have h7:1<=n/pg:=by
  grind
 refine⟨Xgr h1 h2,JA.new h7 (by have:=ζ4 n pg;omega),h4,?_,λp hp hne=>?_,λp p' hp hp' hne=>?_,?_⟩
 ·show n=(List.replicate (n/pg) 0).length*pg
  simp_all
 ·exact absurd (NX _ _) hne
 ·exact absurd (NX _ _) hne
 ·show Pl.used (Pl.none pg rm)=nz (List.replicate (n/pg) 0)
  rw[RM];rfl
theorem ZEa(h1:E8 rm=true)(h2:EI pg=true)(h3:1<=n)(h4:n<=524288)(h5:n%pg=0)(h6:1<=pg)(h7:pg<=256)(w:World):Calls prog 37 #[iI n,iI pg,iI rm] w λe w'=>
  ∃q,e=.returned (.tuple #[pP q,iI 0])/\Gr w w'/\AC w' (λk=>w.heap.size<=k) q (Vm.new n pg rm):=by
 have G:=(AE.new h1 h2 h3 h4 h5);have O:=(λw=>XXu rm pg Ω w);have HB:=(show (E8 rm&&EI pg)=true by rw[h1,h2];rfl);have hd:n/pg*pg=n:=by have:=ζv n pg;rw[h5,ζW]at this;omega
 have h8:1<=n/pg:=by
  rcases ζG (n/pg)with h|h
  ·rw[h]at hd;omega
  ·exact h
 have h9:n/pg<=524288:=by have:=ζ4 n pg;omega
 obtain⟨m,hm⟩:∃m,m=n/pg:=⟨_,rfl⟩;have q1:((n:Int).tdiv (pg:Int))=(m:Int):=by rw[hm];rfl
 have q2:((n:Int)/(pg:Int))=(m:Int):=by rw[hm];rfl
 have q3:((n:Int).tmod (pg:Int))=0:=by rw[show ((n:Int).tmod (pg:Int))=((n%pg:Nat):Int)from rfl,h5];rfl
 have q4:((n:Int)%(pg:Int))=0:=by rw[show ((n:Int)%(pg:Int))=((n%pg:Nat):Int)from rfl,h5];rfl
 rw[<-hm]at h8 h9;have HM:=ι hm;have E:=ι (λw=>J3k (w:=w) h8 h9);have hBp:(pg:Int)≠0:=Ω
 clear h1 h2 h5 hd hm;go_enter func37,ntmps37
 go_wp2_with(first
  | (go_at_call 76;refine(O _).mono ?_;rintro e w1 (⟨h,-⟩|⟨-,rfl,J,N⟩);(exact absurd (HB.symm.trans h) (by decide));have U:=ι J;have M:=ι N;clear J N)
  | (go_at_call 77;refine(E.o _).mono ?_;rintro e w2 ⟨q2,rfl,Z,V⟩;have X:=(Rec.new w1 135 [pP w.heap.size,.pointer none,iI n]).gr Z;have kf:=X.free 1;have k1:=X.cc 1;have I:=ι X;have Y:=ι Z;have D:=ι V;clear Z V X))
 go_ret2;have z1:=U.o.size;have z2:=Y.o.size
 have hq:w.heap.size<w1.heap.size:=M.o.row.elim λ_ h=>by
  obtain⟨_,_,_,_,hr,-⟩:=h;exact hr.lt
 have hG:=AB.setCell (AB.refl (λk=>k=w1.heap.size) w2) (a:=⟨w1.heap.size,1,none⟩) (λ_=>rfl) (pP q2);simp only[χ]at z2;refine⟨_,BL rfl rfl,?_,G,z1,AD (λb=>w.heap.size<=b) w1,λk=>w1.heap.size+1<=k,w.heap.size,q2,Rec.set I.o 1 _,?_,?_,λk hk=>hk.1,λk hk=>by omega,λk hk hk2=>by have:=hk.2;omega,λh=>by have:=h.2;omega,λh=>by omega⟩
 ·exact AB.gr ((((U.o.alloc _).trans Y.o).touch (λk=>w.heap.size<=k)).trans (hG.mono (λk _ hk=>by omega)) |>.mono (λk hk h=>by omega))
 ·have:=(M.o.cut.gr (((Gr.refl w1).alloc _).trans Y.o)).touch hG (λk hk _ he=>by have:=hk.2;omega);rw[υ,υ]at this;exact this
 ·have:=D.o.touch hG (λk hk _ he=>by simp only[χ]at hk;omega);rw[HM.o]at this;exact this.mono (λk hk=>by simpa using hk)
end
structure BY(v v':Vm)(F:List Nat):Prop where
 ok:AE v'
 n:v'.n=v.n
 pg:v'.pl.pg=v.pl.pg
 rm:v'.pl.rm=v.pl.rm
 us:v'.pl.used=v.pl.used+F.length
 nd:F.Nodup
 un:∀p∈F,p<v.pt.length/\v.pt.getD p 0=0
 ma:∀p,p<v.pt.length->(v'.pt.getD p 0≠0↔(v.pt.getD p 0≠0\/p∈F))
 vl:∀a:Nat,a<v.n->v'.ldV a=if a/v.pl.pg∈F then 0 else v.ldV a
theorem AE.len{v:Vm}(h:AE v):v.pt.length=v.n/v.pl.pg:=by
 rw[h.np,ξF _ h.page.1]
theorem BY.len{v:Vm}(h:BY v v' F)(hv:AE v):v'.pt.length=v.pt.length:=by
 rw[h.ok.len,hv.len,h.n,h.pg]
theorem BY.ldE{v:Vm}(h:BY v v' F)(hv:AE v)(ha:a<v.n):v'.ldE a=if a/v.pl.pg∈F then 0 else v.ldE a:=by
 have h1:=h.ma _ (hv.split ha).1;rw[h.ok.ldE_of (by rw[h.n];exact ha),hv.ldE_of ha,h.pg]
 grind
theorem BY.refl{v:Vm}(h:AE v):BY v v []:=
 ⟨h,rfl,rfl,rfl,rfl,ξN,λp hp=>(by cases hp),λp _=>by simp,λa _=>by simp⟩
theorem BY.mp{v:Vm}(h:BY v v' F)(hv:AE v)(hp:v'.mpE p=0):BY v (v'.mp p) (F++[p]):=by
 have e1:v'.mp p={v' with pl:=v'.pl.take,pt:=v'.pt.set p (v'.pl.next+1)}:=by unfold Vm.mp;simp_all
 obtain⟨j,hj,X,h0,hr⟩:=P0 hp;obtain rfl:p=j:=Ω
 have hl:=h.len hv;have h1:=h.ma p Ω;have hpF:p∉F:=λhf=>h1.2 (.inr hf) h0;have hp0:v.pt.getD p 0=0:=ξT.1 (λhn=>h1.2 (.inl hn) h0);refine⟨h.ok.mp p,?_,?_,?_,?_,?_,λi hi=>?_,λi hi=>?_,λa ha=>?_⟩
 ·rw[e1];exact h.n
 ·rw[e1];exact(MT v'.pl).1.trans h.pg
 ·rw[e1];exact(MT v'.pl).2.1.trans h.rm
 ·rw[e1,ζo];rw[VI h.ok.pl,h.us];rfl
 ·rw[ζ0];exact⟨h.nd,by simp,λa ha b hb=>by grind⟩
 ·rcases ζg.1 hi with h'|h'
  ·exact h.un i h'
  simp_all
 ·rw[e1];rw[ER X,ζg];by_cases e:p=i
  ·subst e;simp
  ·rw[φ e,h.ma i hi]
   grind
 ·have:=h.ok.mp_ldV hp (a:=a) (by rw[h.n];exact ha);rw[this,h.pg,h.vl a ha]
  grind
theorem BY.um{v:Vm}(h:BY v v' (F++[p]))(hv:AE v):frE v'.pt p=0/\BY v (v'.um p) F:=by
 obtain⟨V,J⟩:=h.un p (by simp);have hl:=h.len hv;have h1:=(h.ma p V).2 (.inr (by simp));have X:frE v'.pt p=0:=by rw[L9 Ω,φ h1]
 have e1:v'.um p={v' with pl:=v'.pl.give (v'.pt.getD p 0-1),pt:=v'.pt.set p 0}:=by unfold Vm.um;rw[θ X,υ]
 have Z:=ζ0.1 h.nd;have Y:p∉F:=λhf=>Z.2.2 p hf p (by simp) rfl;refine⟨X,h.ok.um p,?_,?_,?_,?_,Z.1,λi hi=>h.un i (by simp[hi]),λi hi=>?_,λa ha=>?_⟩
 ·rw[e1];exact h.n
 ·rw[e1];exact h.pg
 ·rw[e1];exact h.rm
 ·rw[e1]
  show (v'.pl.give _).used=_
  have h2:=OM (p:=v'.pl) (h.ok.frame h1);have h3:=h.us;rw[ζo,ξh]at h3;omega
 ·rw[e1];rw[ER Ω];by_cases e:p=i
  ·subst e;rw[θ rfl];exact⟨λh=>absurd rfl h,λh=>h.elim (λh=>absurd J h) (λh=>absurd h Y)⟩
  ·have:i∉[p]:=by simp;omega
   rw[φ e,h.ma i hi,ζg];simp[this]
 ·by_cases e:a/v.pl.pg=p
  ·have hE:=h.ok.um_ldE X (a:=a) (by rw[h.n];exact ha);rw[h.pg,θ e]at hE;have U:=hv.ldE_of ha;rw[e,θ J]at U;rw[e,φ Y];unfold Vm.ldV;rw[hE,U];rfl
  ·have:=h.ok.um_ldV X (a:=a) (by rw[h.n];exact ha) (by rw[h.pg];exact e);rw[this,h.vl a ha];by_cases hf:a/v.pl.pg∈F
   ·rw[θ hf,θ (ζg.2 (.inl hf))]
   ·rw[φ hf,φ];intro hm;rcases ζg.1 hm with h'|h'
    ·exact hf h'
    ·simp at h';exact e h'
section
variable{v:Vm}
def IC(w:World)(S:Nat->Prop)(q:Nat)(v:Vm)(F:List Nat):Prop:=∃v',BY v v' F/\AC w S q v'
theorem Y97(hv:AE v)(hG:IC w S q v F)(hF:w.ownsRow 0 3 1 vF F.length (DV F))(hs:∀g,vF.ownBlock=some g->¬S g)
  (cs:w.cell? ⟨bs,0,none⟩=some vF) (cm:w.cell? ⟨bm,0,none⟩=some (pP q)) (ls:bs<w.heap.size) (lm:bm<w.heap.size) (ns:¬S bs) (nm:¬S bm):
  Calls prog 164 #[pP bs,pP bm] w λe w'=>e=.returned (.tuple #[])/\AB S w w'/\IC w' (plus S w) q v []:=by
 obtain⟨A,c,rfl,M,Xc⟩:=DF hF;unfold maxLen at Xc
 have J:F.length<=524288:=by
  obtain⟨v',hg,-⟩:=hG;have h1:=hg.us;have h2:=hg.ok.us;have h3:=MQ v'.pt;have h4:=hg.ok.pt.n2;omega
 have HF:=hF;have HG:=hG;have HV:=hv;have HS:=hs;obtain⟨N,hN⟩:∃N,N=F.length:=⟨_,rfl⟩;rw[<-hN]at cs M J;have HN:=hN;go_enter func164,ntmps164;go_wp2
 go_loopw [2] (λi wr=>∃k:Nat,k<=N/\Hid (AB S w wr)/\Hid (IC wr (plus S w) q v (F.take k))/\i=iI ((k:Int)-1)) (λi _=>(intOf i+1).toNat)
 case atStart=>exact⟨N,ϑ _,⟨AB.refl S w⟩,⟨by obtain⟨v',hg,ha⟩:=HG;exact⟨v',by rw[HN,ζ8];exact hg,ha.mono (λk hk=>.inl hk)⟩⟩,by go_num⟩
 case round=>
  obtain⟨k,hk,HT,HK,rfl⟩:=hrel;by_cases E:k=0
  ·subst E;go_wp2
   go_end0
   exact⟨rfl,HT.o,HK.o⟩
  ·obtain⟨j,rfl⟩:∃j,k=j+1:=⟨k-1,by omega⟩;have Z:j<F.length:=Ω
   obtain⟨g,c',e1,-,-,-,-⟩:=ET HF Ω;simp only[Value.slice.injEq]at e1;obtain⟨rfl,-,rfl⟩:=e1;have Y:=(BE HF (g:=g) rfl).2;have ng:=HS g rfl;have kb:=BP HF (XS1 Z);obtain⟨p,hp⟩:∃p,p=F[j]:=⟨_,rfl⟩;rw[<-hp]at kb;have HP:Hid (F.take (j+1)=F.take j++[p]):=⟨by rw[hp,List.take_add_one,ω Z];rfl⟩
   have KS:Hid (∀W',Gr wr W'->W'.cell? ⟨bs,0,none⟩=some (.slice (some ⟨g,0,none⟩) N c)/\W'.cell? ⟨bm,0,none⟩=some (pP q)/\W'.cell? ⟨g,j,none⟩=some (iI (p:Nat))):=
    ⟨λW' h=>⟨(h.cell (κ ls HT.o.size) 0).trans ((HT.o.cell ls ns 0).trans cs),(h.cell (κ lm HT.o.size) 0).trans ((HT.o.cell lm nm 0).trans cm),(h.cell (κ Y HT.o.size) j).trans ((HT.o.cell Y ng j).trans kb)⟩⟩
   clear Z Y ng kb hp cs cm;go_upto_region 3 with(fail);obtain⟨Sx,X⟩:∃Sx:World->Prop,Sx=λW'=>Gr wr W':=⟨_,rfl⟩;have x1:∀p:AA Sx,p.w.cell? ⟨bs,0,none⟩=some (.slice (some ⟨g,0,none⟩) N c):=λp=>(KS.o _ (AA.get X p)).1;have x2:∀p:AA Sx,p.w.cell? ⟨bm,0,none⟩=some (pP q):=λp=>(KS.o _ (AA.get X p)).2.1;have x3:∀r:AA Sx,r.w.cell? ⟨g,j,none⟩=some (iI (p:Nat)):=λp=>(KS.o _ (AA.get X p)).2.2;have V:Sx wr.drew:=by rw[X];exact(Gr.refl wr).drew
   have inst:Inhabited (AA Sx):=⟨⟨_,V⟩⟩;clear X;refine AV Sx 5 [([0,1,2,3,4],5)] [] V ?_;refine AH ?_;obtain⟨vk,U,Xa⟩:=HK.o;rw[HP.o]at U;have O:=(U.um HV);have Xd:=(Xa.gr (Gr.refl wr).drew);go_wp2_with(go_at_call 139;refine(NB Xd (p:Int)).mono ?_;rintro e w1 ⟨rfl,D,Xb⟩;have G:=D;have I:=Xb);refine⟨.inl trivial,?_⟩;refine EN ?_;refine ζb ?_;refine ζA ?_;go_wp2;have B:=HT.o.size;have h1:AB (plus S w) wr w1:=((Gr.refl wr).drew.touch _).trans G;go_round
   case rel=>
    refine⟨j,by omega,⟨HT.o.trans' h1 (λi hi hp=>hp.resolve_right Ω)⟩,⟨_,O.2,I.mono (λk hk=>?_)⟩,by go_num⟩;rcases hk with h|h
    ·exact h
    ·exact .inr (γ B h)
   case measure=>simp[intOf]
def BZ(v:Vm)(p0 k:Nat):List Nat:=(List.range' p0 k).filter λp=>v.pt.getD p 0==0
theorem P5(v:Vm)(p0 k:Nat):BZ v p0 (k+1)=if v.pt.getD (p0+k) 0=0 then BZ v p0 k++[p0+k]else BZ v p0 k:=by
 unfold BZ
 grind [List.range'_concat]
theorem OW{v:Vm}:p∈BZ v p0 k↔(p0<=p/\p<p0+k)/\v.pt.getD p 0=0:=by
 unfold BZ;simp
theorem ZNP(v:Vm)(p0:Nat)(h:k<=m):(BZ v p0 k).length<=(BZ v p0 m).length:=by
 induction m with
 | zero=>simp_all
 | succ m ih=>
  grind [δ,γ,P5]
def C0(v:Vm)(f t:Int):Nat:=((t-1)/v.pl.pg-f/v.pl.pg+1).toNat
def BD(v:Vm)(f t:Int):Int:=if f<0\/(v.n:Int)<t then 11 else if t<=f then 0 else if v.pl.used+(BZ v (f/v.pl.pg).toNat (C0 v f t)).length<=v.pl.rm then 0 else 14
def BW(v:Vm)(f t:Int):List Nat:=if BD v f t=0/\f<t then BZ v (f/v.pl.pg).toNat (C0 v f t)else []
structure SH(w wr:World)(S S':Nat->Prop)(q:Nat)(v:Vm)(p0 k bs bm:Nat)(vF:Value):Prop where
 t:AB S w wr
 g:IC wr S' q v (BZ v p0 k)
 own:wr.ownsRow 0 3 1 vF (BZ v p0 k).length (DV (BZ v p0 k))
 rs:Rec wr bs 61 [vF]
 rm:Rec wr bm 78 [pP q]
 sub:∀k,S' k->plus S w k
 ns:¬S' bs
 nm:¬S' bm
 ng:∀g,vF.ownBlock=some g->¬S' g
 ls:w.heap.size<=bs
 lg:∀g,vF.ownBlock=some g->w.heap.size<=g
theorem SH.map{wr:World}{v:Vm}(h:SH w wr S S' q v p0 k bs bm vF)(t:AB S' wr w1):
  AB S w w1/\w1.ownsRow 0 3 1 vF (BZ v p0 k).length (DV (BZ v p0 k))/\Rec w1 bs 61 [vF]/\Rec w1 bm 78 [pP q] ∧
   (∀k,plus S' wr k->plus S w k)/\¬plus S' wr bs/\¬plus S' wr bm/\(∀g,vF.ownBlock=some g->¬plus S' wr g):=by
 have hz:=h.t.size;refine⟨h.t.trans' t (λi hi hs=>(h.sub i hs).resolve_right Ω),BV h.own t h.ng,h.rs.touch t h.ns,h.rm.touch t h.nm,λk hk=>?_,λhk=>?_,λhk=>?_,λg hg hk=>?_⟩
 ·rcases hk with hk|hk
  ·exact h.sub k hk
  ·exact .inr Ω
 ·have:=h.rs.lt;exact hk.elim h.ns Ω
 ·have:=h.rm.lt;exact hk.elim h.nm Ω
 ·have:=(BE h.own hg).2;exact hk.elim (h.ng g hg) Ω
theorem QT(hV:AC w S q v)(f t:Nat)(ht:t<=v.n)(hft:f<t):Calls prog 117 #[pP q,iI f,iI t] w λe w'=>e=.returned (iI (BD v f t))/\AB S w w'/\IC w' (plus S w) q v (BW v f t):=by
 have HV:=hV;have hn:=hV.ok.n2;obtain⟨S1,S2,b1,b2,hr,hp,-⟩:=hV.row;have hql:=hr.lt;have c0:=hr.cc 0;have c2:=hr.cc 2;have Yb:=hV.ok.page;have HP:=hp;obtain⟨p0,Xb⟩:∃p0,p0=f/v.pl.pg:=⟨_,rfl⟩;obtain⟨p1,O⟩:∃p1,p1=(t-1)/v.pl.pg:=⟨_,rfl⟩;have h01:p0<=p1:=by rw[Xb,O];exact ζa Ω
 have h1l:p1<v.pt.length:=by rw[O];exact(hV.ok.split Ω).1
 have X:(t:Int)-1=((t-1:Nat):Int):=Ω
 have Xn:Hid (C0 v f t=p1+1-p0/\((f:Int)/(v.pl.pg:Int)).toNat=p0):=⟨by
  unfold C0;rw[X,<-ζ9,<-ζ9,<-Xb,<-O]
  exact⟨by omega,υ _⟩⟩
 have HE:Hid (BD v f t=if v.pl.used+(BZ v p0 (p1+1-p0)).length<=v.pl.rm then 0 else 14):=⟨by
  unfold BD
  rw[φ Ω,φ Ω,Xn.o.1,Xn.o.2]⟩
 have HF:Hid (BW v f t=if v.pl.used+(BZ v p0 (p1+1-p0)).length<=v.pl.rm then BZ v p0 (p1+1-p0)else []):=⟨by
  unfold BW;rw[HE.o,Xn.o.1,Xn.o.2]
  split
  ·rw[θ ⟨rfl,by omega⟩]
  ·rw[φ (λh=>absurd h.1 (by decide))]⟩
 obtain⟨B,hB⟩:∃B,B=v.pl.pg:=⟨_,rfl⟩;have HB:=ι hB;rw[<-hB]at Xb O Yb;have q1:((f:Int).tdiv (B:Int))=(p0:Int):=by rw[Xb];rfl
 have q2:((f:Int)/(B:Int))=(p0:Int):=by rw[Xb];rfl
 have q3:(((t:Int)-1).tdiv (B:Int))=(p1:Int):=by rw[X,O];rfl
 have q4:(((t:Int)-1)/(B:Int))=(p1:Int):=by rw[X,O];rfl
 have hBp:(B:Int)≠0:=Ω
 have d0:decide ((f:Int)<0)=false:=ζ Ω;have d1:decide ((v.n:Int)<(t:Int))=false:=ζ Ω;have d2:decide ((t:Int)<=(f:Int))=false:=ζ Ω;have hpt:=hV.ok.pt.n2;clear hV hr hp hB Xb O X;go_enter func117,ntmps117
 go_wp2_with(first
  | (go_at_call 83;refine(FA (HV.gr ((Gr.refl w).alloc _))).mono ?_;rintro e w1 ⟨rfl,rfl⟩)
  | (go_at_call 165;refine(SX (HP.gr (((Gr.refl w).alloc _).alloc _))).mono ?_;rintro e w1 ⟨rfl,rfl⟩;rw[<-HB.o]))
 obtain⟨bm,Xd⟩:∃bm,bm=w.heap.size:=⟨_,rfl⟩;rw[<-Xd]
 have Xs:=ι (show SH w ((w.alloc (Obj.cells #[pP q] 78)).alloc (Obj.cells #[.slice none 0 0] 61)) S (AD S w) q v p0 0 (bm+1) bm (.slice none 0 0)from
  ⟨((AB.refl S w).alloc _).alloc _,⟨v,BY.refl HV.ok,HV.cut.gr (((Gr.refl w).alloc _).alloc _)⟩,GR _ _ _ _,by
   have:=Rec.new (w.alloc (Obj.cells #[pP q] 78)) 61 [.slice none 0 0];rw[χ,<-Xd]at this;exact this,by
   have:=Rec.gr (Rec.new w 78 [pP q]) ((Gr.refl _).alloc (Obj.cells #[.slice none 0 0] 61));rw[<-Xd]at this
   exact this,λk hk=>.inl hk.1,λh=>by have:=h.2;omega,λh=>by have:=h.2;omega,(λg h=>by cases h),by omega,(λg h=>by cases h)⟩)
 go_loopw [10] (λp wr=>∃(k:Nat) (S':Nat->Prop) (vF:Value),k<=p1+1-p0/\Hid (SH w wr S S' q v p0 k (bm+1) bm vF)/\p=iI ((p0+k:Nat):Int)) (λp _=>p1+1-(intOf p).toNat)
 case atStart=>exact⟨0,AD S w,.slice none 0 0,by omega,Xs,by go_num⟩
 case round=>
  obtain⟨k,S',vF,hk,HI,rfl⟩:=hrel;have Xt:=ι Xd;clear Xs c0 c2 Xd;obtain⟨r,hr⟩:∃r,r=p0+k:=⟨_,rfl⟩;rw[<-hr];by_cases Z:k=p1+1-p0
  ·have d3:decide (r<=p1)=false:=ζ Ω;have HR:=ι hr;have HL:=ι Z;clear hr Z;go_wp2;go_ret;obtain⟨v',hg,D⟩:=HI.o.g;have Yn:=hg.us;have Xk:=N7 hg.ok.pl;rw[hg.rm,Yn]at Xk;rw[HL.o]at hg Xk;refine⟨AM (by rw[HE.o,θ Xk]),HI.o.t,v',?_,D.mono HI.o.sub⟩;rw[HF.o,θ Xk];exact hg
  ·have d3:decide (r<=p1)=true:=ξ Ω;obtain⟨v',hg,D⟩:=HI.o.g;obtain⟨A,c,rfl,Yk,Xz⟩:=DF HI.o.own;unfold maxLen at Xz;have hS:=P5 v p0 k;rw[<-hr]at hS;have Xi:r<v.pt.length:=Ω
   have Xf:=hg.ma r Xi;have Xj:r∉BZ v p0 k:=λh=>by have:=(OW.1 h).1;omega
   have Xr:=hg.len HV.ok;have G:pgE v'.pt r=0:=by unfold pgE;rw[θ ⟨by omega,by omega⟩]
   have km:=HI.o.rm.cc 0;have hr2:r<=524288:=Ω
   have lbm:=HI.o.rm.lt;have lbs:=HI.o.rs.lt;have Xq:=ι D;have Xv:=ι hg;have HK:=ι hk;have HR:=ι hr;have Xo:=ι Z;by_cases h0:v.pt.getD r 0=0
   ·rw[θ h0]at hS;have M:v'.pt.getD r 0=0:=ξT.1 (λhn=>(Xf.1 hn).elim (λh=>h h0) Xj);by_cases J:v'.pl.used=v'.pl.rm
    ·have HM:Hid (v'.mpE r=14):=⟨by
      unfold Vm.mpE
      rw[φ (by rw[G];decide),υ,φ (by rw[M];decide),θ J]⟩
     have Xw:Hid (¬v.pl.used+(BZ v p0 (p1+1-p0)).length<=v.pl.rm):=⟨by
      have h1:=ZNP v p0 (show k+1<=p1+1-p0 by omega);rw[hS,ζo,ξh]at h1;have h2:=hg.us;have h3:=hg.rm
      omega⟩
     clear hS h0 M J Xf Xj Xr G hg D hk hr Z Xi
     go_wp2_with(first
      | (go_at_call 166;refine(WL Xq.o r).mono ?_;rintro e w1 ⟨rfl,X,Y⟩;rw[HM.o];have V:=ι X;have Xh:=ι Y;clear X Y)
      | (go_at_call 164;have Y:=Xh.o;rw[UC (by rw[HM.o];decide)]at Y;obtain⟨-,i2,i3,i4,-,i6,i7,i8⟩:=HI.o.map V.o;refine(Y97 HV.ok ⟨_,Xv.o,Y⟩ i2 i8 (i3.cc 0) (i4.cc 0) i3.lt i4.lt i6 i7).mono ?_;rintro e w2 ⟨rfl,Xy,Xl⟩;have Xa:=ι Xy;have Yf:=ι Xl;clear Xy Xl Y i2 i3 i4 i6 i7 i8))
     go_ret;obtain⟨i1,i2,i3,i4,i5,i6,i7,i8⟩:=HI.o.map V.o;have hz:=HI.o.t.size;have Yc:=V.o.size;refine⟨AM (by rw[HE.o,φ Xw.o]),i1.trans' Xa.o (λi hi hs=>(i5 i hs).resolve_right Ω),?_⟩;rw[HF.o,φ Xw.o];obtain⟨v2,Xl,Yd⟩:=Yf.o;refine⟨v2,Xl,Yd.mono (λk hk=>?_)⟩;rcases hk with hk|hk
     ·exact i5 k hk
     ·exact .inr Ω
    ·have HM:Hid (v'.mpE r=0):=⟨by
      unfold Vm.mpE
      rw[φ (by rw[G];decide),υ,φ (by rw[M];decide),φ J]⟩
     have Ya:=ι (hg.mp HV.ok HM.o);have Xg:=ι hS
     have Yh:(BZ v p0 k).length<=524288:=by
      have h1:=hg.us;have h2:=hg.ok.us;have h3:=MQ v'.pt;have h4:=hg.ok.pt.n2;omega
     obtain⟨N,hN⟩:∃N,N=(BZ v p0 k).length:=⟨_,rfl⟩;have HN:=ι hN;rw[<-hN]at Yk Yh;clear hS h0 M J Xf Xj Xr G hg D hk hr Z Xi;rw[<-hN]at HI;clear hN;obtain⟨ii,Yg,Yi,Yj,Yl⟩:=info_parts YWy
     go_wp2_with(first
      | (go_at_call 166;refine(WL Xq.o r).mono ?_;rintro e w1 ⟨rfl,X,Y⟩;rw[HM.o];have Xc:=ι (HI.o.rs.touch X HI.o.ns);have ks:=Xc.o.cc 0;have V:=ι X;have Xh:=ι Y;have Xm:=ι (HI.o.map X).2.1;rw[<-HN.o]at Xm;clear X Y)
      | (at_builtin;refine wpList_append_lies _ rfl _ _ 61 rfl 0 3 ii _ 1 8 underlying61 Yg Yi Yj Yl rfl (by decide) (.slice A N c) N (DV (BZ v p0 k)) rfl (Xm.o.alloc _) ⟨w1.heap.size,0,none⟩ 1 1 [iI (r:Nat)] rfl rfl (ξs (cs:=#[iI (r:Nat)]) (t:=3) (fr:=(0,0)) (heap_alloc_new w1 (.cells #[.int .i64 (r:Nat)] 3))) (by simp[Value.oneCell']) Ω (by unfold maxLen;omega) Ω (ζc _) (w1.heap.size+1) (by simp) ?_;intro g2 Ym w2 Xe I U Xp;have t2:AB (λk=>(Value.slice A N c).ownBlock=some k) w1 w2:=(((Gr.refl _).alloc _).touch _).trans (EC I _ (λk e _=>e));have E:=ι (Xc.o.touch t2 (λe=>AO Xm.o Xc.o (by decide) e rfl rfl));have ks2:=E.o.cc 0;have kf2:=E.o.free 0;have Xa:=ι t2;have Xu:=ι Xe;have Ye:=ι (ψ U Xp);clear Xe I U Xp t2))
     have hI:=HI.o;have hN:=HN.o;obtain⟨i1,i2,i3,i4,i5,i6,i7,i8⟩:=HI.o.map V.o;have hz:=HI.o.t.size;have Yc:=V.o.size;have hz2:=Xa.o.size;have U:=Ye.o;have Xx:AB S w w2:=i1.trans' Xa.o (λi hi hs=>by have:=HI.o.lg i hs;omega);go_round
     case rel=>
      refine⟨k+1,AD (plus S' wr) w1,.slice (some ⟨g2,0,none⟩) (N+1) Ym,by have:=HK.o;have:=Xo.o;omega,⟨?_⟩,by rw[HR.o];go_num⟩;refine⟨Xx.setCell (a:=⟨bm+1,0,none⟩) (λh=>by have:=Xt.o;have h:bm+1<w.heap.size:=h;omega) _,?_,?_,?_,?_,λi hi=>i5 i hi.1,λh=>i6 h.1,λh=>i7 h.1,λg hg=>?_,by have:=Xt.o;omega,λg hg=>?_⟩
      ·refine⟨_,by rw[Xg.o];exact Ya.o,((Xh.o.cut.touch Xa.o (λi hi _ e=>i8 i e hi.1)).touch ((AB.refl (λi=>i=bm+1) w2).setCell (a:=⟨bm+1,0,none⟩) (λ_=>rfl) _) (λi hi _ e=>by subst e;exact i6 hi.1))⟩
      ·rw[Xg.o,ζo,ξh,<-HN.o,show DV (BZ v p0 k++[r])=DV (BZ v p0 k)++[iI (r:Nat)]by unfold DV;rw[ζ5];rfl];exact AW Xu.o _ (λg hg=>AO Xu.o E.o (by decide) hg rfl)
      ·exact Rec.set E.o 0 _
      ·exact AW (i4.touch Xa.o (λe=>AO Xm.o i4 (by decide) e rfl rfl)) _ (λg hg=>by cases hg;show bm≠bm+1;omega)
      ·intro hc;cases hg;rcases U.1 with h|h
       ·exact i8 _ h hc.1
       ·have:g2<w1.heap.size:=hc.2;omega
      ·cases hg;rcases U.1 with h|h
       ·exact HI.o.lg _ h
       ·show w.heap.size<=g2
        omega
     case measure=>have:=HK.o;have:=Xo.o;have:=HR.o;simp[intOf];omega
   ·rw[φ h0]at hS;have M:v'.pt.getD r 0≠0:=Xf.2 (.inl h0)
    have HM:Hid (v'.mpE r=13):=⟨by
     unfold Vm.mpE
     rw[φ (by rw[G];decide),υ,θ M]⟩
    have Xg:=ι hS;clear hS h0 M Xf Xj Xr G hg D hk hr Z Xi;go_wp2_with(go_at_call 166;refine(WL Xq.o r).mono ?_;rintro e w1 ⟨rfl,X,Y⟩;rw[HM.o];have V:=ι X;have Xh:=ι Y;clear X Y);obtain⟨i1,i2,i3,i4,i5,i6,i7,i8⟩:=HI.o.map V.o;have Y:=Xh.o;rw[UC (by rw[HM.o];decide)]at Y;go_round
    case rel=>
     refine⟨k+1,plus S' wr,_,by have:=HK.o;have:=Xo.o;omega,⟨i1,?_,?_,i3,i4,i5,i6,i7,i8,HI.o.ls,HI.o.lg⟩,by rw[HR.o];go_num⟩
     ·rw[Xg.o];exact⟨_,Xv.o,Y⟩
     ·rw[Xg.o];exact i2
    case measure=>have:=HK.o;have:=Xo.o;have:=HR.o;simp[intOf];omega
end
section
variable{v:Vm}
theorem VR1{p:Pl}(hP:CI w S q p):cQ 195 #[pP q] w (iI p.used):=by
 obtain⟨vw,vt,vb,hi,ts,hr,-⟩:=hP.row;have c4:=hr.cc 5;go_enter func195,ntmps195;go_wp2;go_ret
 simp_all
theorem VFh{p:Pl}(hP:CI w S q p):cQ 194 #[pP q] w (iI p.rm):=by
 obtain⟨vw,vt,vb,hi,ts,hr,-⟩:=hP.row;have c4:=hr.cc 3;go_enter func194,ntmps194;go_wp2;go_ret
 simp_all
theorem IY(hV:AC w S q v):cQ 138 #[pP q] w (iI v.pl.pg):=by
 have HV:=hV;obtain⟨S1,S2,b1,b2,hr,hp,-⟩:=hV.row;have c0:=hr.cc 0;have HP:=hp;go_enter func138,ntmps138
 go_wp2_with(first
  | (go_at_call 83;refine(FA HV).mono ?_;rintro e w1 ⟨rfl,rfl⟩)
  | (go_at_call 165;refine(SX HP).mono ?_;rintro e w1 ⟨rfl,rfl⟩))
 go_ret
 simp_all
theorem XOa(hV:AC w S q v):cQ 152 #[pP q] w (iI v.pl.used):=by
 have HV:=hV;obtain⟨S1,S2,b1,b2,hr,hp,-⟩:=hV.row;have c0:=hr.cc 0;have HP:=hp;go_enter func152,ntmps152
 go_wp2_with(first
  | (go_at_call 83;refine(FA HV).mono ?_;rintro e w1 ⟨rfl,rfl⟩)
  | (go_at_call 195;refine(VR1 HP).mono ?_;rintro e w1 ⟨rfl,rfl⟩))
 go_ret
 simp_all
theorem JXO(hV:AC w S q v):cQ 151 #[pP q] w (iI v.pl.rm):=by
 have HV:=hV;obtain⟨S1,S2,b1,b2,hr,hp,-⟩:=hV.row;have c0:=hr.cc 0;have HP:=hp;go_enter func151,ntmps151
 go_wp2_with(first
  | (go_at_call 83;refine(FA HV).mono ?_;rintro e w1 ⟨rfl,rfl⟩)
  | (go_at_call 194;refine(VFh HP).mono ?_;rintro e w1 ⟨rfl,rfl⟩))
 go_ret
 simp_all
theorem I9(hV:AC w S q v):cQ 47 #[pP q] w (iI v.n):=by
 have HV:=hV;obtain⟨S1,S2,b1,b2,hr,hp,-⟩:=hV.row;have c0:=hr.cc 2;go_enter func47,ntmps47;go_wp2_with(go_at_call 83;refine(FA HV).mono ?_;rintro e w1 ⟨rfl,rfl⟩);go_ret
 simp_all
theorem Jus(w:World):cQ 47 #[.pointer none] w (iI 0):=by
 go_enter func47,ntmps47;go_wp2_with(go_at_call 83;refine(YU7 _).mono ?_;rintro e w1 ⟨rfl,rfl⟩);go_ret;exact⟨rfl,rfl⟩
theorem ZO(hV:AC w S q v)(f t:Nat)(ht:t<=v.n)(hft:t<=f):Calls prog 117 #[pP q,iI f,iI t] w λe w'=>e=.returned (iI 0)/\Gr w w':=by
 obtain⟨S1,S2,b1,b2,hr,-⟩:=hV.row;have d0:decide ((f:Int)<0)=false:=ζ Ω;have c2:=(hr.gr ((Gr.refl w).alloc (.cells #[.pointer (some ⟨q,0,none⟩)] 78))).cell (j:=2) rfl;have X:=(hV.gr ((Gr.refl w).alloc (.cells #[.pointer (some ⟨q,0,none⟩)] 78)));go_enter func117,ntmps117;go_wp2_with(go_at_call 83;refine(FA X).mono ?_;rintro e w1 ⟨rfl,rfl⟩);go_ret;exact⟨rfl,(Gr.refl w).alloc _⟩
end
structure Hdr where
 p:Int
 f:Int
 k:Int
def AJ(h:Hdr):Value:=.agg #[iI h.p,iI h.f,iI h.k]
def inS(x:Int):Bool:=decide (0<=x/\x<256)
def CU(h:Hdr):Int:=if inS h.p&&inS h.f&&inS h.k&&decide (h.p+h.f+h.k<256)then 0 else 15
def CE(h:Hdr):Int:=if CU h=0 then 1+h.p+h.f+h.k else 0
theorem VC(x:Int):(decide (x<0)=true/\inS x=false)\/(decide (x<0)=false/\decide (256<=x)=true/\inS x=false)\/(decide (x<0)=false/\decide (256<=x)=false/\inS x=true):=by
 by_cases h0:x<0
 ·exact .inl ⟨ξ h0,ζ Ω⟩
 ·by_cases h1:256<=x
  ·exact .inr (.inl ⟨ζ h0,ξ h1,ζ Ω⟩)
  ·exact .inr (.inr ⟨ζ h0,ζ h1,ξ Ω⟩)
theorem OI{h:Hdr}(he:CU h=0):∃a b c:Nat,h=⟨a,b,c⟩/\a+b+c<=255:=by
 unfold CU inS at he
 split at he
 ·rename_i hh;simp only[ζe,ζd]at hh;obtain⟨p,f,k⟩:=h;simp only at hh;exact⟨p.toNat,f.toNat,k.toNat,by grind,by omega⟩
 ·cases he
theorem EQ(h:a+b+c<=255):CU ⟨a,b,c⟩=0:=by
 unfold CU inS
 grind
theorem VK(h:Hdr):CU h=0\/CU h=15:=by unfold CU;omega
theorem NG(h:Hdr)(w:World):Calls prog 67 #[AJ h] w λe w'=>e=.returned (iI (CU h))/\Gr w w':=by
 obtain⟨p,f,k⟩:=h;unfold AJ;simp only[];have HE:Hid (CU ⟨p,f,k⟩=if inS p&&inS f&&inS k&&decide (p+f+k<256)then 0 else 15):=⟨rfl⟩
 have HN:∀x,x=p\/x=f\/x=k->Hid (inS x=false->CU ⟨p,f,k⟩=15):=λx hx=>⟨λh0=>by
  rw[HE.o]
  grind⟩
 have HY:Hid (inS p=true->inS f=true->inS k=true->CU ⟨p,f,k⟩=if p+f+k<256 then 0 else 15):=⟨λa b c=>by
  rw[HE.o,a,b,c]
  simp_all⟩
 have H0:=HN p (.inl rfl);have H1:=HN f (.inr (.inl rfl));have H2:=HN k (.inr (.inr rfl));obtain⟨E,hE⟩:∃E,E=CU ⟨p,f,k⟩:=⟨_,rfl⟩;rw[<-hE]at H0 H1 H2 HY HE⊢;clear hE;have i0:∀W,(Instr.index 177 (.agg #[iI p,iI f,iI k]) (iI 0)).run prog W=.ok (iI p) W:=λ_=>by kernel_rfl
 have i1:∀W,(Instr.index 177 (.agg #[iI p,iI f,iI k]) (iI 1)).run prog W=.ok (iI f) W:=λ_=>by kernel_rfl
 have i2:∀W,(Instr.index 177 (.agg #[iI p,iI f,iI k]) (iI 2)).run prog W=.ok (iI k) W:=λ_=>by kernel_rfl
 go_enter func67,ntmps67;go_wp2
 go_loop [12] (λi=>∃j:Nat,j<=3/\i=iI j/\Hid ((1<=j->inS p=true)/\(2<=j->inS f=true)/\(3<=j->inS k=true))) (λi=>3-(intOf i).toNat)
 case atStart=>exact⟨0,by omega,rfl,⟨λh=>by omega,λh=>by omega,λh=>by omega⟩⟩
 case round=>
  obtain⟨j,hj,rfl,HJ⟩:=hrel;rcases(by omega:j=0\/j=1\/j=2\/j=3)with rfl|rfl|rfl|rfl
  ·rcases VC p with⟨p0,E1⟩|⟨p0,p1,E1⟩|⟨p0,p1,E1⟩
   ·have E1:=E1;go_wp2;go_ret;exact⟨AM (H0.o E1).symm,(Gr.refl w).alloc _⟩
   ·have E1:=E1;go_wp2;go_ret;exact⟨AM (H0.o E1).symm,(Gr.refl w).alloc _⟩
   ·have E1:=E1;go_wp2;go_round
    case rel=>exact⟨1,by omega,by go_num,⟨λ_=>E1,λh=>by omega,λh=>by omega⟩⟩
    case measure=>simp[intOf]
  ·rcases VC f with⟨p0,E1⟩|⟨p0,p1,E1⟩|⟨p0,p1,E1⟩
   ·have E1:=E1;go_wp2;go_ret;exact⟨AM (H1.o E1).symm,(Gr.refl w).alloc _⟩
   ·have E1:=E1;go_wp2;go_ret;exact⟨AM (H1.o E1).symm,(Gr.refl w).alloc _⟩
   ·have E1:=E1;go_wp2;go_round
    case rel=>exact⟨2,by omega,by go_num,⟨λ_=>HJ.o.1 Ω,λ_=>E1,λh=>by omega⟩⟩
    case measure=>simp[intOf]
  ·rcases VC k with⟨p0,E1⟩|⟨p0,p1,E1⟩|⟨p0,p1,E1⟩
   ·have E1:=E1;go_wp2;go_ret;exact⟨AM (H2.o E1).symm,(Gr.refl w).alloc _⟩
   ·have E1:=E1;go_wp2;go_ret;exact⟨AM (H2.o E1).symm,(Gr.refl w).alloc _⟩
   ·have E1:=E1;go_wp2;go_round
    case rel=>exact⟨3,by omega,by go_num,⟨λ_=>HJ.o.1 Ω,λ_=>HJ.o.2.1 Ω,λ_=>E1⟩⟩
    case measure=>simp[intOf]
  ·have j1:=HJ.o.1 Ω;have j2:=HJ.o.2.1 Ω;have j3:=HJ.o.2.2 Ω;have HZ:=ι (HY.o j1 j2 j3);unfold inS at j1 j2 j3;simp only[ζd]at j1 j2 j3;by_cases hs:p+f+k<256
   ·have d0:decide (256<=p+f+k)=false:=ζ Ω;have HS:=hs;go_wp2;go_ret;exact⟨AM (by rw[HZ.o,θ HS]),(Gr.refl w).alloc _⟩
   ·have d0:decide (256<=p+f+k)=true:=ξ Ω;have HS:=hs;go_wp2;go_ret;exact⟨AM (by rw[HZ.o,φ Ω]),(Gr.refl w).alloc _⟩
theorem LM(h:Hdr)(w:World):Calls prog 69 #[AJ h] w λe w'=>e=.returned (iI (CE h))/\Gr w w':=by
 have HC:=(λW=>NG h W);rcases VK h with he|he
 ·obtain⟨a,b,c,rfl,hs⟩:=OI he;have HN:Hid (CE ⟨a,b,c⟩=1+(a:Int)+b+c):=⟨θ he⟩;unfold AJ at HC⊢;go_enter func69,ntmps69;go_wp2_with(go_at_call 67;refine(HC _).mono ?_;rintro e w1 ⟨rfl,X⟩;have hl:=(Gr.refl w).alloc (.cells #[.int .i64 a,.int .i64 b,.int .i64 c] 72);have k0:=(X.cell (b:=w.heap.size) (by simp) 0).trans (ζz _ _ _ 0 rfl);have k1:=(X.cell (b:=w.heap.size) (by simp) 1).trans (ζz _ _ _ 1 rfl);have k2:=(X.cell (b:=w.heap.size) (by simp) 2).trans (ζz _ _ _ 2 rfl);have Y:=(hl.trans X));go_ret;exact⟨AM (by rw[HN.o]),Y⟩
 ·have HN:Hid (CE h=0):=⟨φ (by rw[he];decide)⟩;unfold AJ at HC⊢;go_enter func69,ntmps69;go_wp2_with(go_at_call 67;refine(HC _).mono ?_;rintro e w1 ⟨rfl,X⟩;have Y:=(((Gr.refl w).alloc _).trans X));go_ret;exact⟨AM (by rw[HN.o]),Y⟩
def IT(a b c:Nat):Nat:=a+256*b+65536*c+2768240640
def C9(a b c:Nat):Nat:=(4294967295-IT a b c)*4294967296+IT a b c
def BO(h:Hdr)(i:Int):Int:=if 0<=i/\i<CE h-1 then (if i<h.p then 1 else if i<h.p+h.f then 2 else 3)else 0
theorem OA(a b i m:Nat)(hm:m=2 ^ i)(h:a<m):a ||| (b*m)=b*m+a:=by
 subst hm;rw[Nat.or_comm,<-Nat.shiftLeft_eq,Nat.shiftLeft_add_eq_or_of_lt h]
theorem Z2Y(n:Nat)(hn:n<4294967296):bits .xor .u32 IntKind.u32.max (n:Int)=((4294967295-n:Nat):Int):=by
 have h1:(BitVec.ofInt 32 (n:Int)).toNat=n:=by
  simp_all
 have h2:BitVec.ofInt 32 IntKind.u32.max=BitVec.allOnes 32:=by decide
 show IntKind.u32.wrap ((BitVec.ofInt 32 IntKind.u32.max ^^^ BitVec.ofInt 32 (n:Int)).toNat:Int)=_
 rw[h2,BitVec.allOnes_xor,BitVec.toNat_not,h1,IntKind.wrap_u32];omega
theorem XiL(hs:a+b+c<=255):bits .or .u32 (bits .or .u32 (bits .or .u32 (a:Int) ((b:Int)*256)) ((c:Int)*65536)) 2768240640=((IT a b c:Nat):Int):=by
 have e1:((b:Int)*256)=((b*256:Nat):Int):=Ω
 have e2:((c:Int)*65536)=((c*65536:Nat):Int):=Ω
 have e3:(2768240640:Int)=((165*16777216:Nat):Int):=Ω
 rw[e1,e2,e3,u32_or_nat a (b*256) Ω Ω,OA a b 8 256 (by decide) Ω,u32_or_nat _ (c*65536) Ω Ω,OA _ c 16 65536 (by decide) Ω,u32_or_nat _ (165*16777216) Ω Ω,OA _ 165 24 16777216 (by decide) Ω];unfold IT;omega
theorem Vts(hs:a+b+c<=255):IT a b c<4294967296:=by unfold IT;omega
theorem J0L(hn:n<4294967296):bits .or .u64 (((4294967295-n:Nat):Int)*4294967296) (n:Int)=(((4294967295-n)*4294967296+n:Nat):Int):=by
 have e1:(((4294967295-n:Nat):Int)*4294967296)=(((4294967295-n)*4294967296:Nat):Int):=Ω
 rw[e1,bits_or_u64_nat _ _ Ω Ω,Nat.or_comm,OA _ _ 32 4294967296 (by decide) hn]
theorem Jii(hs:a+b+c<=255)(w:World):Calls prog 109 #[AJ ⟨a,b,c⟩] w λe w'=>e=.returned (.tuple #[uU (C9 a b c:Nat),iI 0])/\Gr w w':=by
 have HC:=(λW=>NG ⟨a,b,c⟩ W);have HE:=(EQ hs);have f1:=XiL hs;have hn:=Vts hs;have HW:Hid (C9 a b c=(4294967295-IT a b c)*4294967296+IT a b c):=⟨rfl⟩;obtain⟨n,Y⟩:∃n,n=IT a b c:=⟨_,rfl⟩;rw[<-Y]at f1 hn HW;have f2:=Z2Y n hn;have f3:=J0L hn;have f4:IntKind.u64.wrap (((4294967295-n:Nat):Int))=((4294967295-n:Nat):Int):=by rw[ξp];omega
 have f5:IntKind.u64.wrap (((4294967295-n:Nat):Int)*4294967296)=((4294967295-n:Nat):Int)*4294967296:=by rw[ξp];omega
 have f6:IntKind.u64.wrap (n:Int)=(n:Int):=by rw[ξp];omega
 generalize 4294967295-n=m at f2 f3 f4 f5 HW;clear Y hn;unfold AJ at HC⊢;go_enter func109,ntmps109;go_wp2_with(go_at_call 67;refine(HC _).mono ?_;rintro e w1 ⟨rfl,X⟩;rw[HE];have hl:=(Gr.refl w).alloc (.cells #[.int .i64 a,.int .i64 b,.int .i64 c] 72);have k0:=(X.cell (b:=w.heap.size) (by simp) 0).trans (ζz _ _ _ 0 rfl);have k1:=(X.cell (b:=w.heap.size) (by simp) 1).trans (ζz _ _ _ 1 rfl);have k2:=(X.cell (b:=w.heap.size) (by simp) 2).trans (ζz _ _ _ 2 rfl);have Z:=(hl.trans X));go_ret2;exact⟨BL (by rw[HW.o];rfl) rfl,Z⟩
def F9(x:Nat):Bool:=decide (x%4294967296/16777216=165)&&decide (x/4294967296=4294967295-x%4294967296)&&decide (x%256+x/256%256+x/65536%256<=255)
def tkH(x:Nat):Hdr:=if F9 x then ⟨(x%256:Nat),(x/256%256:Nat),(x/65536%256:Nat)⟩else ⟨0,0,0⟩
def tkE(x:Nat):Int:=if F9 x then 0 else 16
theorem TN(n:Nat)(hn:n<4294967296):bits .and .u32 (n:Int) 255=((n%256:Nat):Int):=by
 rw[show (255:Int)=((255:Nat):Int)from rfl,u32_and_nat n 255 hn Ω];have:n &&& 255=n%256:=Nat.and_two_pow_sub_one_eq_mod n 8;omega
theorem S4(W:World)(blk:Nat)(p q r:Value)(h0:W.cell? ⟨blk,0,none⟩=some p)(h1:W.cell? ⟨blk,1,none⟩=some q)(h2:W.cell? ⟨blk,2,none⟩=some r):(loadVar 72 ⟨blk,0,none⟩).run prog W=.ok (.agg #[p,q,r]) W:=by
 have a1:(isAgg 72).run prog W=.ok true W:=by kernel_rfl
 have a2:(sizeOf 72).run prog W=.ok 3 W:=by kernel_rfl
 simp[loadVar,Sem.run_bind,a1,a2,Result.andThen,loadCells,go_sem,h0,h1,h2]
theorem ZBB{ys:List Value}(hg:Gr ((w.alloc (.cells xs.toArray 72)).alloc (.cells ys.toArray 72)) w1):Rec w1 w.heap.size 72 xs/\Rec w1 (w.heap.size+1) 72 ys:=by
 refine⟨((Rec.new w _ xs).gr ((Gr.refl _).alloc _)).gr hg,?_⟩;have:=(Rec.new (w.alloc (.cells xs.toArray 72)) 72 ys).gr hg
 simp_all
theorem ZQ{o o2:Obj}(hg:Gr ((w.alloc o).alloc o2) w1){x y z:Value}:Gr w (((w1.setCell ⟨w.heap.size,0,none⟩ x).setCell ⟨w.heap.size,1,none⟩ y).setCell ⟨w.heap.size,2,none⟩ z):=by
 have h1:AB (λk=>w.heap.size<=k) w w1:=((((Gr.refl w).alloc o).alloc o2).trans hg).touch _;have h2:=((h1.setCell (a:=⟨w.heap.size,0,none⟩) (λ_=>ϑ _) x).setCell (a:=⟨w.heap.size,1,none⟩) (λ_=>ϑ _) y).setCell (a:=⟨w.heap.size,2,none⟩) (λ_=>ϑ _) z;exact(h2.mono (λk hk h=>by omega)).gr
theorem XFZ(hx:x<18446744073709551616)(w:World):Calls prog 150 #[uU x] w λe w'=>e=.returned (.tuple #[AJ (tkH x),iI (tkE x)])/\Gr w w':=by
 obtain⟨n,hn⟩:∃n,n=x%4294967296:=⟨_,rfl⟩;obtain⟨h,hh⟩:∃h,h=x/4294967296:=⟨_,rfl⟩;obtain⟨a,ha⟩:∃a,a=n%256:=⟨_,rfl⟩;obtain⟨b,hb⟩:∃b,b=n/256%256:=⟨_,rfl⟩;obtain⟨c,hc⟩:∃c,c=n/65536%256:=⟨_,rfl⟩;obtain⟨d,hd⟩:∃d,d=n/16777216:=⟨_,rfl⟩;obtain⟨m,hm⟩:∃m,m=4294967295-n:=⟨_,rfl⟩;have U:n<4294967296:=Ω
 have HT:Hid (F9 x=(decide (d=165)&&decide (h=m)&&decide (a+b+c<=255))/\tkH x=if F9 x then ⟨(a:Nat),(b:Nat),(c:Nat)⟩else ⟨0,0,0⟩):=⟨by
  have e1:x%256=a:=Ω
  have e2:x/256%256=b:=Ω
  have e3:x/65536%256=c:=Ω
  unfold tkH F9;rw[e1,e2,e3,<-hn,<-hd,<-hh,<-hm]
  exact⟨rfl,rfl⟩⟩
 have g0:(x:Int)%4294967296=(n:Int):=Ω
 have g5:(x:Int)/4294967296=(h:Int):=Ω
 have g1:bits .and .u32 (n:Int) 255=(a:Int):=by rw[TN n U,ha]
 have g2:bits .and .u32 ((n:Int)/256) 255=(b:Int):=by
  rw[show (n:Int)/256=((n/256:Nat):Int)by omega,TN _ Ω,hb]
 have g3:bits .and .u32 ((n:Int)/65536) 255=(c:Int):=by
  rw[show (n:Int)/65536=((n/65536:Nat):Int)by omega,TN _ Ω,hc]
 have g4:(n:Int)/16777216=(d:Int):=Ω
 have g6:bits .xor .u32 IntKind.u32.max (n:Int)=(m:Int):=by rw[Z2Y n U,hm]
 have ba:a<=255:=Ω
 have bb:b<=255:=Ω
 have bc:c<=255:=Ω
 have HC:=(λW=>NG ⟨a,b,c⟩ W)
 have V:CU ⟨a,b,c⟩=if a+b+c<=255 then 0 else 15:=by
  unfold CU inS;simp only[];rw[ξ Ω,ξ Ω,ξ Ω];by_cases h:a+b+c<=255
  ·rw[θ h,ξ Ω];rfl
  ·rw[φ h,ζ Ω];rfl
 have M:=V;clear V;unfold AJ at HC
 have KL:=(show ∀(W:World) (Y:Nat) (p q r:Value),W.cell? ⟨Y,0,none⟩=some p->W.cell? ⟨Y,1,none⟩=some q->W.cell? ⟨Y,2,none⟩=some r->(loadVar 72 ⟨Y,0,none⟩).run prog W=.ok (.agg #[p,q,r]) W by
  intro W Y p q r h0 h1 h2
  exact S4 W Y p q r h0 h1 h2)
 clear hn hh ha hb hc hd hm U;by_cases t1:d=165
 ·have HT1:=t1;have d1:((d:Int) !=165)=false:=by rw[t1];rfl
  by_cases t2:h=m
  ·have HT2:=ι t2;have d2:((h:Int) !=(m:Int))=false:=by rw[t2];simp
   have d3:¬ ¬((h:Int)=bits .xor .u32 IntKind.u32.max (n:Int)):=by rw[g6,t2];simp
   by_cases t3:a+b+c<=255
   ·have HK:Hid (CU ⟨a,b,c⟩=0):=⟨by rw[M,θ t3]⟩
    have HE:Hid (tkH x=⟨(a:Nat),(b:Nat),(c:Nat)⟩/\tkE x=0):=⟨by
     have:F9 x=true:=by rw[HT.o.1,ξ t1,ξ t2,ξ t3];rfl
     unfold tkE;rw[HT.o.2,this];exact⟨rfl,rfl⟩⟩
    clear t1 t2 t3 HT;go_enter func150,ntmps150;go_wp2_with(go_at_call 67;refine(HC _).mono ?_;rintro e w1 ⟨rfl,X⟩;rw[HK.o];obtain⟨r1,r2⟩:=ZBB (xs:=[iI 0,iI 0,iI 0]) (ys:=[iI a,iI b,iI c]) X;have k0:=r1.cc 0;have k1:=r1.cc 1;have k2:=r1.cc 2;have kf:=r1.free;have k3:=r2.cc 0;have k4:=r2.cc 1;have k5:=r2.cc 2;have Z:=r1;have J:=X;clear X r1 r2);have R3:=Rec.set (Rec.set (Rec.set Z 0 (iI a)) 1 (iI b)) 2 (iI c);refine ζF (v:=.tuple #[AJ ⟨a,b,c⟩,iI 0]) ?_ rfl ?_
    ·rw[results_cell_tmp rfl];have hl:=KL _ w.heap.size _ _ _ (R3.cc 0) (R3.cc 1) (R3.cc 2);simp[asAddr,Result.andThen,hl,AJ]
    ·exact⟨by rw[HE.o.1,HE.o.2],ZQ J⟩
   ·have HK:Hid (CU ⟨a,b,c⟩=15):=⟨by rw[M,φ t3]⟩
    have HE:Hid (tkH x=⟨0,0,0⟩/\tkE x=16):=⟨by
     have:F9 x=false:=by rw[HT.o.1,ζ t3];simp
     unfold tkE;rw[HT.o.2,this];exact⟨rfl,rfl⟩⟩
    clear t1 t2 t3 HT;go_enter func150,ntmps150;go_wp2_with(go_at_call 67;refine(HC _).mono ?_;rintro e w1 ⟨rfl,X⟩;rw[HK.o];obtain⟨r1,r2⟩:=ZBB (xs:=[iI 0,iI 0,iI 0]) (ys:=[iI a,iI b,iI c]) X;have k0:=r1.cc 0;have k1:=r1.cc 1;have k2:=r1.cc 2;have kf:=r1.free;have k3:=r2.cc 0;have k4:=r2.cc 1;have k5:=r2.cc 2;have Z:=r1;have J:=X;clear X r1 r2);have R3:=Rec.set (Rec.set (Rec.set Z 0 (iI 0)) 1 (iI 0)) 2 (iI 0);refine ζF (v:=.tuple #[AJ ⟨0,0,0⟩,iI 16]) ?_ rfl ?_
    ·rw[results_cell_tmp rfl];have hl:=KL _ w.heap.size _ _ _ (R3.cc 0) (R3.cc 1) (R3.cc 2);simp[asAddr,Result.andThen,hl,AJ]
    ·exact⟨by rw[HE.o.1,HE.o.2],ZQ J⟩
  ·have d2:((h:Int) !=(m:Int))=true:=by simp;omega
   have d3:¬((h:Int)=bits .xor .u32 IntKind.u32.max (n:Int)):=by rw[g6];omega
   have HE:Hid (tkH x=⟨0,0,0⟩/\tkE x=16):=⟨by
    have:F9 x=false:=by rw[HT.o.1,ζ t2];simp
    unfold tkE;rw[HT.o.2,this];exact⟨rfl,rfl⟩⟩
   clear t1 t2 HT;go_enter func150,ntmps150;go_wp2;refine ζF (v:=.tuple #[AJ ⟨0,0,0⟩,iI 16]) ?_ rfl ?_
   ·rw[results_cell_tmp rfl];simp[asAddr,Result.andThen,go_sem];rfl
   ·exact⟨by rw[HE.o.1,HE.o.2],((Gr.refl w).alloc _).alloc _⟩
 ·have d1:((d:Int) !=165)=true:=by simp;omega
  have d3:¬((d:Int)=165):=Ω
  have d4:¬((n:Int)/16777216=165):=Ω
  have HE:Hid (tkH x=⟨0,0,0⟩/\tkE x=16):=⟨by
   have:F9 x=false:=by rw[HT.o.1,ζ t1];simp
   unfold tkE;rw[HT.o.2,this];exact⟨rfl,rfl⟩⟩
  clear t1 HT;go_enter func150,ntmps150;go_wp2;refine ζF (v:=.tuple #[AJ ⟨0,0,0⟩,iI 16]) ?_ rfl ?_
  ·rw[results_cell_tmp rfl];simp[asAddr,Result.andThen,go_sem];rfl
  ·exact⟨by rw[HE.o.1,HE.o.2],((Gr.refl w).alloc _).alloc _⟩
theorem U8(hs:a+b+c<=255)(i:Int)(w:World):Calls prog 191 #[AJ ⟨a,b,c⟩,iI i] w λe w'=>e=.returned (iI (BO ⟨a,b,c⟩ i))/\Gr w w':=by
 have hN:CE ⟨a,b,c⟩=1+(a:Int)+b+c:=θ (EQ hs);have HZ:=(λW=>LM ⟨a,b,c⟩ W)
 have HK:Hid (BO ⟨a,b,c⟩ i=if 0<=i/\i<(a:Int)+b+c then (if i<a then 1 else if i<(a:Int)+b then 2 else 3)else 0):=⟨by
  unfold BO;rw[hN];simp only[];by_cases h:0<=i/\i<(a:Int)+b+c
  ·rw[θ h,θ Ω]
  ·rw[φ h,φ Ω]⟩
 rw[hN]at HZ;unfold AJ at HZ⊢;by_cases h0:i<0
 ·have HE:Hid (BO ⟨a,b,c⟩ i=0):=⟨by rw[HK.o,φ Ω]⟩;go_enter func191,ntmps191;go_wp2;go_ret;exact⟨AM (by rw[HE.o]),(Gr.refl w).alloc _⟩
 ·by_cases h1:(a:Int)+b+c<=i
  ·have HE:Hid (BO ⟨a,b,c⟩ i=0):=⟨by rw[HK.o,φ Ω]⟩;have d1:decide (1+(a:Int)+b+c-1<=i)=true:=ξ Ω;go_enter func191,ntmps191;go_wp2_with(go_at_call 69;refine(HZ _).mono ?_;rintro e w1 ⟨rfl,X⟩;have Y:=(((Gr.refl w).alloc _).trans X));go_ret;exact⟨AM (by rw[HE.o]),Y⟩
  ·have d1:decide (1+(a:Int)+b+c-1<=i)=false:=ζ Ω;have HE:Hid (BO ⟨a,b,c⟩ i=if i<a then 1 else if i<(a:Int)+b then 2 else 3):=⟨by rw[HK.o,θ Ω]⟩;by_cases h2:i<a
   ·go_enter func191,ntmps191;go_wp2_with(go_at_call 69;refine(HZ _).mono ?_;rintro e w1 ⟨rfl,X⟩;have k0:=(X.cell (b:=w.heap.size) (by simp) 0).trans (ζz _ _ _ 0 rfl);have Y:=(((Gr.refl w).alloc _).trans X));go_ret;exact⟨AM (by rw[HE.o,θ h2]),Y⟩
   ·by_cases h3:i<(a:Int)+b
    ·go_enter func191,ntmps191;go_wp2_with(go_at_call 69;refine(HZ _).mono ?_;rintro e w1 ⟨rfl,X⟩;have k0:=(X.cell (b:=w.heap.size) (by simp) 0).trans (ζz _ _ _ 0 rfl);have k1:=(X.cell (b:=w.heap.size) (by simp) 1).trans (ζz _ _ _ 1 rfl);have Y:=(((Gr.refl w).alloc _).trans X));go_ret;exact⟨AM (by rw[HE.o,φ Ω,θ h3]),Y⟩
    ·go_enter func191,ntmps191;go_wp2_with(go_at_call 69;refine(HZ _).mono ?_;rintro e w1 ⟨rfl,X⟩;have k0:=(X.cell (b:=w.heap.size) (by simp) 0).trans (ζz _ _ _ 0 rfl);have k1:=(X.cell (b:=w.heap.size) (by simp) 1).trans (ζz _ _ _ 1 rfl);have Y:=(((Gr.refl w).alloc _).trans X));go_ret;exact⟨AM (by rw[HE.o,φ Ω,φ Ω]),Y⟩
def spV(q:Nat):Value:=.iface 78 (pP q)
theorem WS(n:Nat)(a:Addr)(w:World):(nilAhead (n+1) 78 (.pointer (some a)) "Load").run prog w=.ok (some false) w:=by kernel_rfl
theorem UL(n:Nat)(a:Addr)(w:World):(method (n+1) 78 (.pointer (some a)) "Load").run prog w=.ok (190,.pointer (some a)) w:=by kernel_rfl
def Vm.rdH(v:Vm)(a:Int):Hdr:=if 0<a/\v.ldE a=0 then tkH (v.ldV a)else ⟨0,0,0⟩
def Vm.rdE(v:Vm)(a:Int):Int:=if a=0 then 18 else if a<0 then 5 else if v.ldE a=0 then tkE (v.ldV a)else v.ldE a
theorem AE.ldV_lt{v:Vm}(h:AE v)(a:Int):v.ldV a<18446744073709551616:=by
 unfold Vm.ldV
 split
 ·rw[β];rcases δ (v.at a) v.pl.wd.length with hl|hl
  ·rw[ω hl];exact h.pl.w64 _ (μ hl)
  simp_all
 ·decide
structure Sp where
 T:TypeId
 rv:Value
 FL:FuncId
 P:Int->Prop
 M:Prop
 D:Nat->Prop
 I:Vm->(Nat->Prop)->World->Prop
def Sp.v(z:Sp):Value:=.iface z.T z.rv
structure Sp.Ok(z:Sp):Prop where
 nl:∀n w,(nilAhead (n+1) z.T z.rv "Load").run prog w=.ok (some false) w
 ml:∀n w,(method (n+1) z.T z.rv "Load").run prog w=.ok (z.FL,z.rv) w
 cl:∀args w,(callFunc z.FL args).run prog w=.ok (.enter z.FL args) w
 nn:∀w,(binOp BinOp.eql 114 (.iface z.T z.rv) .nilIface).run prog w=.ok (.bool false) w
 ok:∀{u S w},z.I u S w->AE u
 fr:∀{u S S' T' w w'},z.I u S w->AB T' w w'->(∀k,k<w.heap.size->T' k->¬S k/\¬z.D k)->(∀k,S k->S' k)->z.I u S' w'
 nw:∀{u S w},z.I u S w->∀k,z.D k->k<w.heap.size
 ct:∀{u S w},z.I u S w->z.I u (AD S w) w
 ld:∀{u S w},z.I u S w->∀a,z.P a->Calls prog z.FL #[z.rv,iI a] w (λe w'=>e=.returned (.tuple #[uU (u.ldV a:Nat),iI (u.ldE a)])/\AB (λk=>z.M/\S k) w w'/\z.I u (plus S w) w')
def Sp.E(z:Sp)(u:Vm)(S:Nat->Prop)(w w':World):Prop:=AB (λk=>z.M/\S k) w w'/\z.I u (plus S w) w'
section
variable{z:Sp}{u:Vm}
theorem Sp.Ok.gr(h:Sp.Ok z)(hI:z.I u S w)(g:Gr w w'):z.I u S w':=h.fr hI (g.touch (λ_=>False)) (λ_ _ h=>h.elim) (λ_ h=>h)
theorem Sp.Ok.mono(h:Sp.Ok z)(hI:z.I u S w)(hs:∀k,S k->S' k):z.I u S' w:=h.fr hI (AB.refl (λ_=>False) w) (λ_ _ h=>h.elim) hs
theorem Sp.Ok.get(h:Sp.Ok z)(hI:z.I u S w)(g:Gr w w'):z.E u S w w':=⟨g.touch _,h.mono (h.gr hI g) (λ_ h=>.inl h)⟩
theorem Sp.E.ro(h:z.E u S w w')(hM:¬z.M):Gr w w':=(h.1.mono (λ_ _ hk=>hM hk.1)).gr
theorem Sp.E.trans(h:z.E u S w w1)(k:z.E u (plus S w) w1 w')(hS:Sp.Ok z):z.E u S w w':=by
 have hz:=h.1.size;refine⟨h.1.trans' k.1 (λ_ hi hh=>⟨hh.1,hh.2.elim id (λh=>by omega)⟩),hS.mono k.2 (λi hi=>?_)⟩;rcases hi with h1|h1
 ·exact h1
 ·exact .inr Ω
theorem Sp.E.gr(h:z.E u S w w1)(g:Gr w1 w')(hS:Sp.Ok z):z.E u S w w':=⟨h.1.trans (g.touch _),hS.gr h.2 g⟩
theorem Sp.E.rec{t:Nat}(h:z.E u (AD S w) w1 w')(hr:Rec w1 b t xs)(hb:w.heap.size<=b):Rec w' b t xs:=hr.touch h.1 (λhh=>by have:=hh.2.2;omega)
theorem Sp.E.cells(h:z.E u (AD S w) w1 w')(hS:Sp.Ok z)(hI:z.I u S w)(g:Gr w w1)(hb:w.heap.size<=b)(hb1:b<w1.heap.size)(t:AB (λk=>k=b) w' w2):z.E u S w w2:=by
 refine⟨(((g.touch (λk=>z.M/\S k)).trans' h.1 (λ_ _ hh=>⟨hh.1,hh.2.1⟩))).trans' t (λi hi hh=>by omega),hS.fr h.2 t (λi _ hh=>?_) (λi hi=>?_)⟩
 ·refine⟨λhp=>?_,λhd=>?_⟩
  ·rcases hp with hp|hp
   ·have:=hp.2;omega
   ·omega
  ·have:=hS.nw hI _ hd;omega
 ·rcases hi with h1|h1
  ·exact .inl h1.1
  ·exact .inr (γ g.size h1)
theorem ZGx(W:World)(b:Nat)(x y z:Value):AB (λk=>k=b) W (((W.setCell ⟨b,0,none⟩ x).setCell ⟨b,1,none⟩ y).setCell ⟨b,2,none⟩ z):=
 (((AB.refl (λk=>k=b) W).setCell (a:=⟨b,0,none⟩) (λ_=>rfl) x).setCell (a:=⟨b,1,none⟩) (λ_=>rfl) y).setCell (a:=⟨b,2,none⟩) (λ_=>rfl) z
theorem NC(hS:Sp.Ok z)(hI:z.I u S w)(a:Int)(hP:0<a->z.P a):Calls prog 104 #[z.v,iI a] w λe w'=>e=.returned (.tuple #[AJ (u.rdH a),iI (u.rdE a)])/\z.E u S w w':=by
 have HS:=hS;have HI:=hI;have V:=hS.ok hI;have hx:=V.ldV_lt a;have n1:=hS.nl;have n2:=hS.ml;have n3:=hS.cl;unfold Sp.v;have KL:=(λ(W:World) (blk:Nat) (p q r:Value)=>S4 W blk p q r);rcases(by omega:a=0\/a<0\/0<a)with h0|h0|h0
 ·subst h0;go_enter func104,ntmps104;go_wp2;refine ζF (v:=.tuple #[AJ ⟨0,0,0⟩,iI 18]) ?_ rfl ?_
  ·rw[results_cell_tmp rfl];simp[asAddr,Result.andThen,go_sem];rfl
  ·exact⟨rfl,HS.get HI ((Gr.refl w).alloc _)⟩
 ·have d0:(a==0)=false:=by simp;omega
  have d1:decide (a<0)=true:=ξ h0;have HE:Hid (u.rdH a=⟨0,0,0⟩/\u.rdE a=5):=⟨⟨φ Ω,by unfold Vm.rdE;rw[φ Ω,θ h0]⟩⟩;go_enter func104,ntmps104;go_wp2;refine ζF (v:=.tuple #[AJ ⟨0,0,0⟩,iI 5]) ?_ rfl ?_
  ·rw[results_cell_tmp rfl];simp[asAddr,Result.andThen,go_sem];rfl
  ·exact⟨by rw[HE.o.1,HE.o.2],HS.get HI ((Gr.refl w).alloc _)⟩
 ·have d0:(a==0)=false:=by simp;omega
  have d1:decide (a<0)=false:=ζ Ω;have Y:=(hS.ld (hS.gr (hS.ct hI) ((Gr.refl w).alloc (.cells #[.int .i64 0,.int .i64 0,.int .i64 0] 72))) a (hP h0));by_cases hE:u.ldE a=0
  ·have HE:Hid (u.rdH a=tkH (u.ldV a)/\u.rdE a=tkE (u.ldV a)):=⟨⟨θ ⟨h0,hE⟩,by unfold Vm.rdE;rw[φ Ω,φ Ω,θ hE]⟩⟩;have HT:=(λW=>XFZ hx W);have hh:AJ (tkH (u.ldV a))=.agg #[iI (tkH (u.ldV a)).p,iI (tkH (u.ldV a)).f,iI (tkH (u.ldV a)).k]:=rfl;rw[hh]at HT;rw[hE]at Y;generalize tkH (u.ldV a)=h at HT HE;generalize tkE (u.ldV a)=er at HT HE;obtain⟨p,f,k⟩:=h;go_enter func104,ntmps104
   go_wp2_with(first
    | (go_at_call 150;refine(HT _).mono ?_;rintro e w2 ⟨rfl,U⟩;have r2:=Z.gr U;have k0:=r2.cc 0;have k1:=r2.cc 1;have k2:=r2.cc 2;have kf:=r2.free;have N:=r2;have M:=(J.o.gr U HS))
    | (refine Y.mono ?_;rintro e w1 ⟨rfl,X⟩;have J:Hid (z.E u (AD S w) _ w1):=⟨X⟩;have Z:=(Sp.E.rec (z:=z) X (Rec.new w 72 [iI 0,iI 0,iI 0]) (ϑ _))))
   have R3:=Rec.set (Rec.set (Rec.set N 0 (iI p)) 1 (iI f)) 2 (iI k);refine ζF (v:=.tuple #[AJ ⟨p,f,k⟩,iI er]) ?_ rfl ?_
   ·rw[results_cell_tmp rfl];have hl:=KL _ w.heap.size _ _ _ (R3.cc 0) (R3.cc 1) (R3.cc 2);simp[asAddr,Result.andThen,hl,AJ]
   ·exact⟨by rw[HE.o.1,HE.o.2],M.cells HS HI ((Gr.refl w).alloc _) (ϑ _) (by rw[χ];omega) (ZGx _ _ _ _ _)⟩
  ·have HE:Hid (u.rdH a=⟨0,0,0⟩/\u.rdE a=u.ldE a):=⟨⟨φ (λh=>hE h.2),by unfold Vm.rdE;rw[φ Ω,φ Ω,φ hE]⟩⟩;obtain⟨y,hy⟩:∃y,y=u.ldE a:=⟨_,rfl⟩;have d2:(y==0)=false:=by rw[hy];simpa using hE
   rw[<-hy]at Y;have HY:=ι hy;clear hE hy hS hI hP V;go_enter func104,ntmps104;go_wp2_with(refine Y.mono ?_;rintro e w1 ⟨rfl,X⟩;have J:Hid (z.E u (AD S w) _ w1):=⟨X⟩;have r2:=Sp.E.rec (z:=z) X (Rec.new w 72 [iI 0,iI 0,iI 0]) (ϑ _);have k0:=r2.cc 0;have k1:=r2.cc 1;have k2:=r2.cc 2;have kf:=r2.free;have Z:=r2);have R3:=Rec.set (Rec.set (Rec.set Z 0 (iI 0)) 1 (iI 0)) 2 (iI 0);refine ζF (v:=.tuple #[AJ ⟨0,0,0⟩,iI y]) ?_ rfl ?_
   ·rw[results_cell_tmp rfl];have hl:=KL _ w.heap.size _ _ _ (R3.cc 0) (R3.cc 1) (R3.cc 2);simp[asAddr,Result.andThen,hl,AJ]
   ·exact⟨by rw[HE.o.1,HE.o.2,HY.o],J.o.cells HS HI ((Gr.refl w).alloc _) (ϑ _) (by rw[χ];omega) (ZGx _ _ _ _ _)⟩
end
def spM(q:Nat):Sp:=⟨78,pP q,190,λ_=>True,False,λ_=>False,λu S w=>AC w S q u⟩
theorem RK(q:Nat):(spM q).Ok:=
 ⟨λn w=>WS n _ w,λn w=>UL n _ w,λargs w=>by kernel_rfl,λw=>by kernel_rfl,λh=>AC.ok h,λh t hT hs=>AC.mono (AC.touch h t (λk hk hl=>λht=>(hT k hl ht).1 hk)) hs,λ_ _ h=>h.elim,λh=>AC.cut h,
  λ{u S w} h a _=>(JN (S:=S) h a).mono λ_ _ hh=>⟨hh.1,hh.2.touch _,AC.mono (AC.gr h hh.2) (λ_ h=>.inl h)⟩⟩
section
variable{v:Vm}
theorem PC(hV:AC w S q v)(a:Int):Calls prog 104 #[spV q,iI a] w λe w'=>e=.returned (.tuple #[AJ (v.rdH a),iI (v.rdE a)])/\Gr w w':=
 (NC (z:=spM q) (RK q) hV a (λ_=>trivial)).mono λ_ _ h=>⟨h.1,h.2.ro (λh=>h)⟩
end
def Vm.plE(v:Vm)(a i kd:Int):Int:=if v.rdE a≠0 then v.rdE a else if BO (v.rdH a) i=kd then 0 else if BO (v.rdH a) i=0 then 19 else 20
def Vm.plA(v:Vm)(a i kd:Int):Int:=if v.plE a i kd=0 then a+1+i else 0
def Vm.gtE(v:Vm)(a i kd:Int):Int:=if v.plE a i kd≠0 then v.plE a i kd else v.ldE (a+1+i)
def Vm.gtV(v:Vm)(a i kd:Int):Nat:=if v.plE a i kd≠0 then 0 else v.ldV (a+1+i)
def Vm.ptE(v:Vm)(a i:Int):Int:=if v.gtE a i 1≠0 then v.gtE a i 1 else if 2147483647<v.gtV a i 1 then 25 else 0
def Vm.ptV(v:Vm)(a i:Int):Nat:=if v.ptE a i=0 then v.gtV a i 1 else 0
theorem Jzk(h:tkE x=0):∃p f k:Nat,tkH x=⟨p,f,k⟩/\p+f+k<=255:=by
 unfold tkE at h
 split at h
 ·rename_i ho;refine⟨x%256,x/256%256,x/65536%256,θ ho,?_⟩;unfold F9 at ho
  simp_all
 ·cases h
theorem F5{v:Vm}{a:Int}(h:v.rdE a=0):0<a/\v.ldE a=0/\∃p f k:Nat,v.rdH a=⟨p,f,k⟩/\p+f+k<=255:=by
 unfold Vm.rdE at h
 split at h
 ·cases h
 ·split at h
  ·cases h
  ·split at h
   ·rename_i h0;have ha:0<a:=Ω
    refine⟨ha,h0,?_⟩;obtain⟨p,f,k,e1,e2⟩:=Jzk h;exact⟨p,f,k,by unfold Vm.rdH;simp_all,e2⟩
   omega
theorem J9{v:Vm}{a:Int}(h:v.ldE a=0):0<=a/\a<v.n:=by
 grind [AE.hit]
section
variable{z:Sp}{v:Vm}
theorem PL(hS:Sp.Ok z)(hI:z.I v S w)(a i kd:Int)(hk:kd≠0)(hP:0<a->z.P a):Calls prog 149 #[z.v,iI a,iI i,iI kd] w λe w'=>e=.returned (.tuple #[iI (v.plA a i kd),iI (v.plE a i kd)])/\z.E v S w w':=by
 have HS:=hS;have hn:=(hS.ok hI).n2;have Y:=(NC hS hI a hP);by_cases hE:v.rdE a=0
 ·obtain⟨ha,hl,p,f,k,hh,hs⟩:=F5 hE;have hr:=J9 hl;rw[hh]at Y;have HP:Hid (v.plE a i kd=if BO ⟨p,f,k⟩ i=kd then 0 else if BO ⟨p,f,k⟩ i=0 then 19 else 20):=⟨by unfold Vm.plE;rw[φ (λh=>h hE),hh]⟩;have HA:Hid (v.plA a i kd=if v.plE a i kd=0 then a+1+i else 0):=⟨rfl⟩;have HK:=(λW=>U8 hs i W);have hN:CE ⟨p,f,k⟩=1+(p:Int)+f+k:=θ (EQ hs)
  have M:BO ⟨p,f,k⟩ i≠0->0<=i/\i<255:=λh=>by
   unfold BO at h
   split at h
   ·rename_i h';rw[hN]at h';omega
   ·exact absurd rfl h
  generalize BO ⟨(p:Int),(f:Int),(k:Int)⟩ i=kk at HP HK M;have HE:=hE;unfold AJ at Y HK;by_cases h1:kk=kd
  ·have e0:v.plE a i kd=0:=by rw[HP.o,θ h1]
   have X:Hid (v.plE a i kd=0/\v.plA a i kd=a+1+i):=⟨⟨e0,by rw[HA.o,θ e0]⟩⟩;have hii:=M (by rw[h1];exact hk);go_enter func149,ntmps149
   go_wp2_with(first
    | (go_at_call 104;refine(Y).mono ?_;rintro e w1 ⟨rfl,Z⟩;rw[HE];have J:=Z)
    | (go_at_call 191;refine(HK _).mono ?_;rintro e w2 ⟨rfl,V⟩;have U:=V))
   go_ret2;exact⟨BL (BN (by rw[X.o.2])) (BN (by rw[X.o.1])),J.gr (((Gr.refl _).alloc _).trans U) HS⟩
  ·by_cases h2:kk=0
   ·have e0:v.plE a i kd=19:=by rw[HP.o,φ h1,θ h2]
    have X:Hid (v.plE a i kd=19/\v.plA a i kd=0):=⟨⟨e0,by rw[HA.o,φ (by rw[e0];decide)]⟩⟩;go_enter func149,ntmps149
    go_wp2_with(first
     | (go_at_call 104;refine(Y).mono ?_;rintro e w1 ⟨rfl,Z⟩;rw[HE];have J:=Z)
     | (go_at_call 191;refine(HK _).mono ?_;rintro e w2 ⟨rfl,V⟩;have U:=V))
    go_ret2;exact⟨BL (BN (by rw[X.o.2])) (BN (by rw[X.o.1])),J.gr (((Gr.refl _).alloc _).trans U) HS⟩
   ·have e0:v.plE a i kd=20:=by rw[HP.o,φ h1,φ h2]
    have X:Hid (v.plE a i kd=20/\v.plA a i kd=0):=⟨⟨e0,by rw[HA.o,φ (by rw[e0];decide)]⟩⟩;go_enter func149,ntmps149
    go_wp2_with(first
     | (go_at_call 104;refine(Y).mono ?_;rintro e w1 ⟨rfl,Z⟩;rw[HE];have J:=Z)
     | (go_at_call 191;refine(HK _).mono ?_;rintro e w2 ⟨rfl,V⟩;have U:=V))
    go_ret2;exact⟨BL (BN (by rw[X.o.2])) (BN (by rw[X.o.1])),J.gr (((Gr.refl _).alloc _).trans U) HS⟩
 ·have e1:v.plE a i kd=v.rdE a:=by unfold Vm.plE;rw[θ hE]
  have X:Hid (v.plE a i kd=v.rdE a/\v.plA a i kd=0):=⟨⟨e1,by unfold Vm.plA;rw[φ (by rw[e1];exact hE)]⟩⟩;obtain⟨y,hy⟩:∃y,y=v.rdE a:=⟨_,rfl⟩;have d2:(y==0)=false:=by rw[hy];simpa using hE
  rw[<-hy]at X Y;clear hE hy e1 hS hI hP;unfold AJ at Y;go_enter func149,ntmps149;go_wp2_with(go_at_call 104;refine(Y).mono ?_;rintro e w1 ⟨rfl,Z⟩;have J:=Z);go_ret2;exact⟨BL (BN (by rw[X.o.2])) (BN (by rw[X.o.1])),J.gr ((Gr.refl _).alloc _) HS⟩
theorem WR(hS:Sp.Ok z)(hI:z.I v S w)(a i kd:Int)(hk:kd≠0)(hP:0<a->z.P a)(hQ:v.plE a i kd=0->z.P (a+1+i)):Calls prog 101 #[z.v,iI a,iI i,iI kd] w λe w'=>e=.returned (.tuple #[uU (v.gtV a i kd:Nat),iI (v.gtE a i kd)])/\z.E v S w w':=by
 have HS:=hS;have X:=(PL hS hI a i kd hk hP);have n2:=hS.ml;have n3:=hS.cl;unfold Sp.v at X⊢;by_cases hE:v.plE a i kd=0
 ·have HE:Hid (v.gtE a i kd=v.ldE (a+1+i)/\v.gtV a i kd=v.ldV (a+1+i)):=⟨⟨φ (λh=>h hE),φ (λh=>h hE)⟩⟩;have HA:Hid (v.plA a i kd=a+1+i):=⟨θ hE⟩;rw[hE,HA.o]at X;have J:=(hQ hE);generalize a+1+i=M at HE X J;go_enter func101,ntmps101
  go_wp2_with(first
   | (go_at_call 149;refine(X).mono ?_;rintro e w1 ⟨rfl,Z⟩;have Y:=Z)
   | (refine(HS.ld Y.2 M J).mono ?_;rintro e w2 ⟨rfl,V⟩;have U:Hid (z.E v (plus S w) w1 w2):=⟨V⟩))
  go_ret2;exact⟨BL (congrArg (λn:Nat=>uU (n:Int)) HE.o.2.symm) (BN HE.o.1.symm),Y.trans U.o HS⟩
 ·have HE:Hid (v.gtE a i kd=v.plE a i kd/\v.gtV a i kd=0):=⟨⟨θ hE,θ hE⟩⟩;obtain⟨y,hy⟩:∃y,y=v.plE a i kd:=⟨_,rfl⟩;have d2:(y==0)=false:=by simp_all
  rw[<-hy]at HE X;clear hE hy hS hI hP hQ;go_enter func101,ntmps101;go_wp2_with(go_at_call 149;refine(X).mono ?_;rintro e w1 ⟨rfl,Z⟩;have Y:=Z);go_ret2;exact⟨BL (congrArg (λn:Nat=>uU (n:Int)) HE.o.2.symm) (BN HE.o.1.symm),Y⟩
theorem Jk4(hok:AE v)(a i kd:Int):v.gtV a i kd<18446744073709551616:=by
 unfold Vm.gtV
 split
 ·decide
 ·exact hok.ldV_lt _
theorem XZ(hS:Sp.Ok z)(hI:z.I v S w)(a i:Int)(hP:0<a->z.P a)(hQ:v.plE a i 1=0->z.P (a+1+i)):Calls prog 57 #[z.v,iI a,iI i] w λe w'=>e=.returned (.tuple #[iI (v.ptV a i:Nat),iI (v.ptE a i)])/\z.E v S w w':=by
 have HS:=hS;have X:=(WR hS hI a i 1 (by decide) hP hQ);have hx:=Jk4 (hS.ok hI) a i 1;unfold Sp.v at X⊢;by_cases hE:v.gtE a i 1=0
 ·by_cases hb:2147483647<v.gtV a i 1
  ·have e1:v.ptE a i=25:=by unfold Vm.ptE;rw[φ (λh=>h hE),θ hb]
   have HE:Hid (v.ptE a i=25/\v.ptV a i=0):=⟨⟨e1,by unfold Vm.ptV;rw[φ (by rw[e1];decide)]⟩⟩;rw[hE]at X;generalize v.gtV a i 1=x at X hb hx;have d0:decide (2147483647<(x:Int))=true:=ξ Ω;go_enter func57,ntmps57;go_wp2_with(go_at_call 101;refine(X).mono ?_;rintro e w1 ⟨rfl,Y⟩;have Z:=Y);go_ret2;exact⟨BL (congrArg (λn:Nat=>iI (n:Int)) HE.o.2.symm) (BN HE.o.1.symm),Z⟩
  ·have e1:v.ptE a i=0:=by unfold Vm.ptE;rw[φ (λh=>h hE),φ hb]
   have HE:Hid (v.ptE a i=0/\v.ptV a i=v.gtV a i 1):=⟨⟨e1,by unfold Vm.ptV;rw[θ e1]⟩⟩;rw[hE]at X;generalize v.gtV a i 1=x at X hb hx HE;have d0:decide (2147483647<(x:Int))=false:=ζ Ω;go_enter func57,ntmps57;go_wp2_with(go_at_call 101;refine(X).mono ?_;rintro e w1 ⟨rfl,Y⟩;have Z:=Y);go_ret2;exact⟨BL (congrArg (λn:Nat=>iI (n:Int)) HE.o.2.symm) (BN HE.o.1.symm),Z⟩
 ·have e1:v.ptE a i=v.gtE a i 1:=by unfold Vm.ptE;rw[θ hE]
  have HE:Hid (v.ptE a i=v.gtE a i 1/\v.ptV a i=0):=⟨⟨e1,by unfold Vm.ptV;rw[φ (by rw[e1];exact hE)]⟩⟩;obtain⟨y,hy⟩:∃y,y=v.gtE a i 1:=⟨_,rfl⟩;have d2:(y==0)=false:=by rw[hy];simpa using hE
  rw[<-hy]at HE X;clear hE hy hS hI e1 hP hQ;go_enter func57,ntmps57;go_wp2_with(go_at_call 101;refine(X).mono ?_;rintro e w1 ⟨rfl,Y⟩;have Z:=Y);go_ret2;exact⟨BL (congrArg (λn:Nat=>iI (n:Int)) HE.o.2.symm) (BN HE.o.1.symm),Z⟩
end
section
variable{v:Vm}
theorem JNY(hV:AC w S q v)(a i kd:Int)(hk:kd≠0):Calls prog 149 #[spV q,iI a,iI i,iI kd] w λe w'=>e=.returned (.tuple #[iI (v.plA a i kd),iI (v.plE a i kd)])/\Gr w w':=
 (PL (z:=spM q) (RK q) hV a i kd hk (λ_=>trivial)).mono λ_ _ h=>⟨h.1,h.2.ro (λh=>h)⟩
theorem ZZi(hV:AC w S q v)(a i:Int):Calls prog 57 #[spV q,iI a,iI i] w λe w'=>e=.returned (.tuple #[iI (v.ptV a i:Nat),iI (v.ptE a i)])/\Gr w w':=
 (XZ (z:=spM q) (RK q) hV a i (λ_=>trivial) (λ_=>trivial)).mono λ_ _ h=>⟨h.1,h.2.ro (λh=>h)⟩
end
structure Ext(w:World)(m p1 b1 p2 b2 n:Nat)(L:List Ob):Prop where
 good:AP n L
 v1:BA w p1 b1 (B8 n L)
 v2:BA w p2 b2 (EB n L)
 hm:m<w.heap.size
 c0:w.cell? ⟨m,0,none⟩=some (pP p1)
 c1:w.cell? ⟨m,1,none⟩=some (pP p2)
 c2:w.cell? ⟨m,2,none⟩=some (iI L.length)
 fr:w.frozen? ⟨m,2,none⟩=false
 am:m≠p1/\m≠b1/\m≠p2/\m≠b2
 ab:p1≠b2/\p2≠b1/\b1≠b2
theorem Ext.touch{b1 b2:Nat}(h:Ext w m p1 b1 p2 b2 n L)(t:AB S w w')(h1:¬S m)(h2:¬S p1)(h3:¬S b1)(h4:¬S p2)(h5:¬S b2):Ext w' m p1 b1 p2 b2 n L:=
 ⟨h.good,h.v1.touch t h2 h3,h.v2.touch t h4 h5,κ h.hm t.size,(t.cell h.hm h1 0).trans h.c0,(t.cell h.hm h1 1).trans h.c1,(t.cell h.hm h1 2).trans h.c2,(t.frozen h.hm h1 2).trans h.fr,h.am,h.ab⟩
theorem Ext.gr{b1 b2:Nat}(h:Ext w m p1 b1 p2 b2 n L)(t:Gr w w'):Ext w' m p1 b1 p2 b2 n L:=
 h.touch (t.touch (λ_=>False)) (λh=>h) (λh=>h) (λh=>h) (λh=>h) (λh=>h)
theorem Ext.nb{b1 b2:Nat}(h:Ext w m p1 b1 p2 b2 n L):1<=n/\n<=1048576:=by
 have h1:=h.v1.n1;have h2:=h.v1.n2;rw[IN]at h1 h2;omega
def obS(L:List Ob)(j:Nat):Int:=((L[j]?.getD (0,0)).1:Nat)
def obZ(L:List Ob)(j:Nat):Int:=((L[j]?.getD (0,0)).2:Nat)
theorem JW(h:j<L.length):obS L j=(L[j].1:Nat)/\obZ L j=(L[j].2:Nat):=by unfold obS obZ;simp_all
theorem Vq1(h:¬j<L.length):obS L j=0/\obZ L j=0:=by unfold obS obZ;simp_all
def GI(L:List Ob)(j:Nat):Value:=.tuple #[iI (obS L j),iI (obZ L j),.bool (decide (j<L.length))]
theorem NZ(h:j<L.length):GI L j=.tuple #[iI (L[j].1:Nat),iI (L[j].2:Nat),.bool true]:=by unfold GI;grind [JW,ξ]
theorem L7(h:¬j<L.length):GI L j=.tuple #[iI 0,iI 0,.bool false]:=by unfold GI;grind [Vq1,ζ]
section
variable{b1 b2:Nat}
theorem DU(hE:Ext w m p1 b1 p2 b2 n L):cQ 122 #[pP m] w (.bool false):=by
 have c0:=hE.c0;go_enter func122,ntmps122;go_wp2;go_ret
 simp_all
theorem Jpg(w:World):cQ 122 #[.pointer none] w (.bool true):=by
 go_enter func122,ntmps122;go_wp2;go_ret;exact⟨rfl,rfl⟩
theorem EX(hE:Ext w m p1 b1 p2 b2 n L):cQ 84 #[pP m] w (iI n):=by
 have c0:=hE.c0;have HE:=hE;have HL:=(IN n L);go_enter func84,ntmps84
 go_wp2_with(first
  | (go_at_call 122;refine(DU HE).mono ?_;rintro e w' ⟨rfl,rfl⟩)
  | (go_at_call 123;refine(IQ HE.v1).mono ?_;rintro e w' ⟨rfl,rfl⟩))
 go_ret
 simp_all
theorem QOV(w:World):cQ 84 #[.pointer none] w (iI 0):=by
 go_enter func84,ntmps84;go_wp2_with(go_at_call 122;refine(Jpg _).mono ?_;rintro e w' ⟨rfl,rfl⟩);go_ret;exact⟨rfl,rfl⟩
theorem QM(hE:Ext w m p1 b1 p2 b2 n L)(hT:AQ w)(hj:j<L.length):
  Calls prog 189 #[pP m,iI (L[j].1:Nat)] w λe w'=>e=.returned (iI (L[j].2:Nat))/\w=w':=by
 have c1:=hE.c1;have hm:=μ hj;obtain⟨X,Y⟩:=Zox hE.good hm;have hs:=hE.good.sz _ hm;have hb:=hE.nb;obtain⟨s,Z⟩:∃s,s=L[j].1:=⟨_,rfl⟩;obtain⟨z,J⟩:∃z,z=L[j].2:=⟨_,rfl⟩;rw[<-Z,<-J]at X Y hs⊢;rw[<-X]at Y;have HE:=hE;have HT:=hT;have HV:=(ψ (IR Y) X);have hsb:s+z<=1048576:=Ω
 clear hE hT X Y Z J hm hj;go_enter func189,ntmps189;go_wp2_with(go_at_call 213;refine(KM HE.v2 HT _).mono ?_;rintro e w' ⟨rfl,rfl⟩;rw[HV.1,HV.2]);go_ret;exact⟨AM Ω,rfl⟩
theorem L3(hE:Ext w m p1 b1 p2 b2 n L)(hT:AQ w)(a:Int):
  cQ 183 #[pP m,iI a] w (GI L (A9 L a)):=by
 have c0:=hE.c0;have HE:=hE;have HT:=hT;by_cases hj:A9 L a<L.length
 ·obtain⟨h1,h2⟩:=NF hE.good hj;rw[NZ hj];have HZ:=(QM hE hT hj);have HV:=ι (ψ (IR h2) (ψ h1 (ξ h2)));go_enter func183,ntmps183
  go_wp2_with(first
   | (go_at_call 122;refine(DU HE).mono ?_;rintro e w' ⟨rfl,rfl⟩)
   | (go_at_call 213;refine(KM HE.v1 HT _).mono ?_;rintro e w' ⟨rfl,rfl⟩;rw[HV.o.1,HV.o.2.2,HV.o.2.1])
   | (go_at_call 189;refine HZ.mono ?_;rintro e w' ⟨rfl,rfl⟩))
  go_ret3
  simp_all
 ·have h1:=WQ hE.good hj;rw[L7 hj];go_enter func183,ntmps183
  go_wp2_with(first
   | (go_at_call 122;refine(DU HE).mono ?_;rintro e w' ⟨rfl,rfl⟩)
   | (go_at_call 213;refine(KM HE.v1 HT _).mono ?_;rintro e w' ⟨rfl,rfl⟩))
  go_ret3
  simp_all
theorem KH(hE:Ext w m p1 b1 p2 b2 n L)(hT:AQ w)(a:Int):
  cQ 168 #[pP m,iI a] w (GI L (A1 L a)):=by
 have c0:=hE.c0;have hb:=hE.nb;have HE:=hE;by_cases h0:a<0
 ·rw[L7 (by rw[O7 (λo _=>by omega)];omega)];go_enter func168,ntmps168;go_wp2_with(go_at_call 122;refine(DU HE).mono ?_;rintro e w' ⟨rfl,rfl⟩)
  go_ret3
  exact⟨rfl,rfl⟩
 ·by_cases h1:(n:Int)<=a
  ·rw[L7 (by rw[O7 (λo ho=>by have:=hE.good.sz o ho;omega)];omega)];go_enter func168,ntmps168
   go_wp2_with(first
    | (go_at_call 122;refine(DU HE).mono ?_;rintro e w' ⟨rfl,rfl⟩)
    | (go_at_call 84;refine(EX HE).mono ?_;rintro e w' ⟨rfl,rfl⟩))
   go_ret3
   exact⟨rfl,rfl⟩
  ·rcases XA1 hE.good a with⟨hl,X⟩|⟨j,hj,hl,J,X⟩
   ·rw[L7 (by rw[O7 (λo ho=>by have:=X o ho;omega)];omega)];have HV:Hid (PZ (EP (B8 n L) (a+1))=0/\decide (0<=EP (B8 n L) (a+1))=false):=⟨by rw[hl];exact⟨rfl,rfl⟩⟩;go_enter func168,ntmps168
    go_wp2_with(first
     | (go_at_call 122;refine(DU HE).mono ?_;rintro e w' ⟨rfl,rfl⟩)
     | (go_at_call 84;refine(EX HE).mono ?_;rintro e w' ⟨rfl,rfl⟩)
     | (go_at_call 202;refine(VY HE.v1 _).mono ?_;rintro e w' ⟨rfl,rfl⟩;rw[HV.o.1,HV.o.2]))
    go_ret3
    exact⟨rfl,rfl⟩
   ·have HZ:=(QM hE hT hj);have hs:=hE.good.sz _ (μ hj);have HV:Hid (PZ (EP (B8 n L) (a+1))=(L[j].1:Nat)/\decide (0<=EP (B8 n L) (a+1))=true):=⟨by rw[hl];exact⟨θ Ω,ξ Ω⟩⟩;have Y:=hE.good;by_cases Z:a<L[j].1+L[j].2
    ·have hf:=ON Y hj J Z;rw[hf,NZ hj];generalize L[j].1=s at *
     generalize L[j].2=z at *
     go_enter func168,ntmps168
     go_wp2_with(first
      | (go_at_call 122;refine(DU HE).mono ?_;rintro e w' ⟨rfl,rfl⟩)
      | (go_at_call 84;refine(EX HE).mono ?_;rintro e w' ⟨rfl,rfl⟩)
      | (go_at_call 202;refine(VY HE.v1 _).mono ?_;rintro e w' ⟨rfl,rfl⟩;rw[HV.o.1,HV.o.2])
      | (go_at_call 189;refine HZ.mono ?_;rintro e w' ⟨rfl,rfl⟩))
     go_ret3
     exact⟨rfl,rfl⟩
    ·have hf:¬A1 L a<L.length:=by
      rw[O7 (λo ho=>?_)];· omega
      obtain⟨i,hi,rfl⟩:=ζm ho;rcases ζS i j with h3|rfl|h3
      ·have:=Y.at hi hj h3;omega
      ·omega
      ·have:=X i hi h3;omega
     rw[L7 hf];generalize L[j].1=s at *
     generalize L[j].2=z at *
     go_enter func168,ntmps168
     go_wp2_with(first
      | (go_at_call 122;refine(DU HE).mono ?_;rintro e w' ⟨rfl,rfl⟩)
      | (go_at_call 84;refine(EX HE).mono ?_;rintro e w' ⟨rfl,rfl⟩)
      | (go_at_call 202;refine(VY HE.v1 _).mono ?_;rintro e w' ⟨rfl,rfl⟩;rw[HV.o.1,HV.o.2])
      | (go_at_call 189;refine HZ.mono ?_;rintro e w' ⟨rfl,rfl⟩))
     go_ret3
     exact⟨rfl,rfl⟩
end
section
variable{b1 b2:Nat}
def okV:Value->Bool
 | .bool b=>b
 | _=>false
theorem UW(h:AP n L)(hn:n<=1048576)(j:Nat):0<=obS L j/\0<=obZ L j/\obS L j+obZ L j<=1048576:=by
 by_cases hj:j<L.length
 ·rw[(JW hj).1,(JW hj).2];have:=h.sz _ (μ hj);omega
 grind [Vq1]
theorem Ylw(h:AP n L)(hn:n<=1048576)(j:Nat)(f t:Int):0<=AZ (L.take j) f t/\AZ (L.take j) f t<=1048576:=by
 have hg:AP n (L.take j):=⟨h.pw.sublist (List.take_sublist ..),λo ho=>h.sz o (ξ8 ho)⟩;have h1:=RE hg f t;have h2:J4 (L.take j) n f t<=n:=EJ _ _;omega
theorem QS1(hE:Ext w m p1 b1 p2 b2 n L)(hT:AQ w)(f t:Int)(hf:f<=9223372036854775807)(ht:-9223372036854775808<=t):
  cQ 184 #[pP m,iI f,iI t] w (iI (AZ L f t)):=by
 have hb:=hE.nb;have hg:=hE.good;have HE:=hE;have HT:=hT;rw[<-JAq hg f t];obtain⟨lo,Xb⟩:∃lo,lo=max f 0:=⟨_,rfl⟩;obtain⟨hi,N⟩:∃hi,hi=min t (n:Int):=⟨_,rfl⟩;have hlo0:0<=lo/\lo<=9223372036854775807:=Ω
 have hhib:hi<=1048576/\-9223372036854775808<=hi:=Ω
 have HLO:=ι Xb;have HHI:=ι N;have Xo:∀w',(Builtin.max_ #[3,3] 3 #[iI f,iI 0]).run prog w'=.ok (iI lo) w':=λw'=>by rw[NW,Xb]
 have Xq:∀w',(Builtin.min_ #[3,3] 3 #[iI t,iI n]).run prog w'=.ok (iI hi) w':=λw'=>by rw[V7,N]
 rw[<-Xb,<-N];have hmin2:=λx y=>V7 prog #[3,3] 3 .i64 x y;obtain⟨jf,Xk⟩:∃j,j=A1 L lo:=⟨_,rfl⟩;obtain⟨jn,O⟩:∃j,j=A9 L lo:=⟨_,rfl⟩;have Xp:jn<=L.length:=by rw[O];exact OC _ _
 have X:=Vth hg (f:=lo) (t:=hi);rw[<-Xk,<-O]at X;have Xu:((L[jf]?.getD (0,0)).1:Int)=obS L jf:=rfl;have Xt:((L[jf]?.getD (0,0)).2:Int)=obZ L jf:=rfl;rw[Xu,Xt]at X;have Xz:=UW hg hb.2 jf;obtain⟨s,hs⟩:∃s,s=obS L jf:=⟨_,rfl⟩;obtain⟨z,hz⟩:∃z,z=obZ L jf:=⟨_,rfl⟩;obtain⟨bf,U⟩:∃b,b=decide (jf<L.length):=⟨_,rfl⟩;rw[<-hs,<-hz]at X Xz;have HF:Hid (GI L (A1 L lo)=.tuple #[iI s,iI z,.bool bf]):=⟨by rw[hs,hz,U,Xk];rfl⟩;obtain⟨s1,Xj⟩:∃s,s=obS L jn:=⟨_,rfl⟩;obtain⟨z1,Xc⟩:∃z,z=obZ L jn:=⟨_,rfl⟩;obtain⟨bn,Xg⟩:∃b,b=decide (jn<L.length):=⟨_,rfl⟩;have HN:Hid (GI L (A9 L lo)=.tuple #[iI s1,iI z1,.bool bn]):=⟨by rw[Xj,Xc,Xg,O];rfl⟩;have Xl:=ι (ψ Xj (ψ Xc Xg));obtain⟨v0,Xi⟩:∃v,v=AZ (L.take jn) lo hi:=⟨_,rfl⟩;rw[<-Xi]at X;have Xx:=ι Xi;have Xs:=O
 have Xf:(bf=true/\s<lo/\lo<hi/\v0=min (s+z) hi-lo)\/(bf=false/\v0=0)\/(bf=true/\lo<=s/\v0=0)\/(bf=true/\s<lo/\hi<=lo/\v0=0):=by
  by_cases h1:jf<L.length
  ·have e1:bf=true:=by rw[U,ξ h1]
   by_cases h2:s<lo
   ·by_cases h3:lo<hi
    ·left;rw[θ ⟨h1,h2,h3⟩]at X;exact⟨e1,h2,h3,X⟩
    ·right;right;right;rw[φ (λh=>h3 h.2.2)]at X;exact⟨e1,h2,by omega,X⟩
   ·right;right;left;rw[φ (λh=>h2 h.2.1)]at X;exact⟨e1,by omega,X⟩
  ·right;left;rw[φ (λh=>h1 h.1)]at X;exact⟨by rw[U,ζ h1],X⟩
 have HG:=hg;clear hE hT Xb N Xk O X Xu Xt hs hz U Xj Xc Xg Xi hg;rcases Xf with⟨rfl,h2,h3,rfl⟩|⟨rfl,rfl⟩|⟨rfl,h2,rfl⟩|⟨rfl,h2,h3,rfl⟩
 all_goals
  have hmm:min (s+z) hi<=1048576:=Ω
  go_enter func184,ntmps184
  go_wp2_with(first
   | (go_at_call 122;refine(DU HE).mono ?_;rintro e w' ⟨rfl,rfl⟩)
   | (go_at_call 84;refine(EX HE).mono ?_;rintro e w' ⟨rfl,rfl⟩)
   | (go_at_call 168;refine(KH HE HT _).mono ?_;rintro e w' ⟨rfl,rfl⟩;rw[HF.o])
   | (go_at_call 183;refine(L3 HE HT _).mono ?_;rintro e w' ⟨rfl,rfl⟩;rw[HN.o]))
  clear Xo Xq
 all_goals
  go_loop [7,11,12,13] (λs7 s11 s12 s13=>∃j,jn<=j/\j<=L.length/\s7=iI (AZ (L.take j) lo hi)/\s11=iI (obS L j)/\s12=iI (obZ L j)/\s13=.bool (decide (j<L.length))) (λ_ s11 _ s13=>if okV s13 then 1048577-(intOf s11).toNat else 0)
  case atStart=>exact⟨jn,ϑ _,Xp,by rw[<-Xx.o],by rw[Xl.o.1],by rw[Xl.o.2.1],by rw[Xl.o.2.2]⟩
  case round=>
   obtain⟨j,hj1,hj2,rfl,rfl,rfl,rfl⟩:=hrel;have Xr:=Ylw HG hb.2 j lo hi;have Xv:=UW HG hb.2 j;by_cases hj:j<L.length
   ·rw[ξ hj];obtain⟨o1,o2⟩:=JW hj;have Xn:=HG.sz _ (μ hj);obtain⟨sj,Y⟩:∃s,s=obS L j:=⟨_,rfl⟩;obtain⟨zj,J⟩:∃z,z=obZ L j:=⟨_,rfl⟩;obtain⟨vj,Z⟩:∃v,v=AZ (L.take j) lo hi:=⟨_,rfl⟩
    have hge:lo<=sj:=by
     rw[Y,o1];have A:A9 L lo<L.length:=by have:=Xs;omega
     have hy:=MG A;rcases δ (A9 L lo) j with h|h
     ·have:=HG.at A hj h;omega
     ·have e:L[A9 L lo]'A=L[j]:=by congr 1;have:=Xs;omega
      rw[e]at hy;exact hy
    have Xc:1<=zj:=by rw[J,o2];omega
    have Xa:=VD hj lo hi
    have Xh:C4 L[j] lo hi=max 0 (min (sj+zj) hi-sj):=by
     unfold C4;rw[Y,J,o1,o2]at *
     omega
    rw[Xh,<-Z]at Xa;have I:=Ylw HG hb.2 (j+1) lo hi;have Xe:A9 L (sj+zj)=j+1:=by rw[Y,J,o1,o2];exact X1z HG hj
    obtain⟨s2,B⟩:∃s,s=obS L (j+1):=⟨_,rfl⟩;obtain⟨z2,Xd⟩:∃z,z=obZ L (j+1):=⟨_,rfl⟩;obtain⟨D,V⟩:∃b,b=decide (j+1<L.length):=⟨_,rfl⟩;have HX:Hid (GI L (A9 L (sj+zj))=.tuple #[iI s2,iI z2,.bool D]):=⟨by rw[Xe,B,Xd,V];rfl⟩;have Xm:=ι (ψ B (ψ Xd V))
    have E:D=true->sj+zj<=s2:=λh=>by
     rw[V]at h;have h:=of_decide_eq_true h;have:=HG.at hj h (ξM j);rw[Y,J,B,o1,o2,(JW h).1];omega
    have Xy:=E;rw[<-Y,<-J]at Xv⊢;rw[<-Z]at Xr⊢;have Ya:=ι Z;have Xw:=ι Y;by_cases N:sj<hi
    ·have hmj:min (sj+zj) hi<=1048576/\sj<=min (sj+zj) hi:=Ω
     have G:AZ (L.take (j+1)) lo hi=vj+(min (sj+zj) hi-sj):=by rw[Xa];omega
     have hsum:0<=vj+(min (sj+zj) hi-sj)/\vj+(min (sj+zj) hi-sj)<=1048576:=by rw[<-G];exact I
     have Yb:=ι G;clear Y J Z Xh Xa G I Xe B Xd V E o1 o2 Xn;go_wp2_with(go_at_call 183;refine(L3 HE HT _).mono ?_;rintro e w' ⟨rfl,rfl⟩;rw[HX.o]);go_round
     case rel=>exact⟨j+1,by omega,by omega,by rw[Yb.o],by rw[Xm.o.1],by rw[Xm.o.2.1],by rw[Xm.o.2.2]⟩
     case measure=>
      have e0:okV (Value.bool true)=true:=rfl;rw[θ e0];by_cases h:D=true
      ·have:=Xy h;rw[θ (show okV (Value.bool D)=true from h)];simp only[intOf];omega
      ·rw[φ (show ¬okV (Value.bool D)=true from h)];simp only[intOf];omega
    ·have M:=XC HG (j:=j) (f:=lo) (t:=hi) (λhl=>by
      have:=Xw.o;rw[(JW hl).1]at this;omega)
     have hE:Hid (AZ L lo hi=vj):=⟨by rw[TX L j,M,<-Ya.o];omega⟩;clear Y J Z Xh Xa I Xe B Xd V E o1 o2 Xn M;go_wp2;go_ret;exact⟨AM hE.o.symm,rfl⟩
   ·rw[ζ hj];have M:=XC HG (j:=j) (f:=lo) (t:=hi) (λhl=>absurd hl hj);have hE:Hid (AZ L lo hi=AZ (L.take j) lo hi):=⟨by rw[TX L j,M];omega⟩;obtain⟨vj,Z⟩:∃v,v=AZ (L.take j) lo hi:=⟨_,rfl⟩;rw[<-Z]at Xr⊢hE;clear M Z;go_wp2;go_ret;exact⟨AM hE.o.symm,rfl⟩
end
def AN(m b1 b2:Nat)(k:Nat):Prop:=k=m\/k=b1\/k=b2
section
variable{b1 b2:Nat}
theorem Ext.changed(hE:Ext w m p1 b1 p2 b2 n L){L':List Ob}(hg:AP n L')(t1:AB (λk=>k=b1) w w1)(v1:BA w1 p1 b1 (B8 n L'))(t2:AB (λk=>k=b2) w1 w2)(v2:BA w2 p2 b2 (EB n L'))(hz:z=L'.length):
  Ext (w2.setCell ⟨m,2,none⟩ (.int .i64 z)) m p1 b1 p2 b2 n L'/\AB (AN m b1 b2) w (w2.setCell ⟨m,2,none⟩ (.int .i64 z)):=by
 have t3:AB (λk=>k=m) w2 (w2.setCell ⟨m,2,none⟩ (.int .i64 z)):=(AB.refl (λk=>k=m) w2).setCell (a:=⟨m,2,none⟩) (λ_=>rfl) _;obtain⟨a1,a2,a3,a4⟩:=hE.am;obtain⟨a5,a6,a7⟩:=hE.ab;have X:m<w1.heap.size:=κ hE.hm t1.size;have hm2:m<w2.heap.size:=κ X t2.size;have e:∀o,w2.cell? ⟨m,o,none⟩=w.cell? ⟨m,o,none⟩:=λo=>(t2.cell X Ω o).trans (t1.cell hE.hm Ω o)
 have o:∀o,o≠2->(w2.setCell ⟨m,2,none⟩ (.int .i64 z)).cell? ⟨m,o,none⟩=w.cell? ⟨m,o,none⟩:=λo ho=>by
  rw[ξt (h:=by simp_all),e o]
 refine⟨⟨hg,(v1.touch t2 Ω Ω).touch t3 Ω Ω,v2.touch t3 Ω Ω,by simp_all,(o 0 Ω).trans hE.c0,(o 1 Ω).trans hE.c1,?_,?_,hE.am,hE.ab⟩,?_⟩
 ·rw[hz];exact ξi (h:=(e 2).trans hE.c2) ..
 ·rw[ξa,t2.frozen X Ω,t1.frozen hE.hm Ω];exact hE.fr
 ·exact((t1.mono (λk _ h=>.inr (.inl h))).trans (t2.mono (λk _ h=>.inr (.inr h)))).trans (t3.mono (λk _ h=>.inl h))
def VJ(w:World)(m p1 b1 p2 b2 n:Nat)(L:List Ob)(s z:Int)(e:Ending)(w':World):Prop:=
 e=.returned (iI (DA L n s z))/\AB (AN m b1 b2) w w'/\Ext w' m p1 b1 p2 b2 n (C2 L n s z)
theorem PA(hE:Ext w m p1 b1 p2 b2 n L){s c:Int}(h:DA L n s z=c)(hc:c≠0):VJ w m p1 b1 p2 b2 n L s z (.returned (iI c)) w:=by
 refine⟨by rw[h],AB.refl _ _,?_⟩;unfold C2
 simp_all
theorem Zc1(hE:Ext w m p1 b1 p2 b2 n L)(hT:AQ w)(s z:Int):
  Calls prog 177 #[pP m,iI s,iI z] w (VJ w m p1 b1 p2 b2 n L s z):=by
 have hb:=hE.nb;have HE:=hE;have HT:=hT;by_cases h0:z<1
 ·have d0:decide (z<1)=true:=by simp[h0]
  have HR:=(PA hE (s:=s) (z:=z) (c:=15) (by unfold DA;rw[θ h0]) (by decide));go_enter func177,ntmps177;go_wp2_with(go_at_call 122;refine(DU HE).mono ?_;rintro e w' ⟨rfl,rfl⟩);go_ret;exact HR
 ·have d0:decide (z<1)=false:=by simp;omega
  by_cases h1:s<0
  ·have d1:decide (s<0)=true:=by simp[h1]
   have HR:=(PA hE (s:=s) (z:=z) (c:=11) (by unfold DA;rw[φ h0,θ (.inl h1)]) (by decide));go_enter func177,ntmps177;go_wp2_with(go_at_call 122;refine(DU HE).mono ?_;rintro e w' ⟨rfl,rfl⟩);go_ret;exact HR
  ·have d1:decide (s<0)=false:=by simp;omega
   by_cases h2:(n:Int)<=s
   ·have d2:decide ((n:Int)<=s)=true:=by simp[h2]
    have HR:=(PA hE (s:=s) (z:=z) (c:=11) (by unfold DA;rw[φ h0,θ (.inr (.inl h2))]) (by decide));go_enter func177,ntmps177
    go_wp2_with(first
     | (go_at_call 122;refine(DU HE).mono ?_;rintro e w' ⟨rfl,rfl⟩)
     | (go_at_call 84;refine(EX HE).mono ?_;rintro e w' ⟨rfl,rfl⟩))
    go_ret;exact HR
   ·have d2:decide ((n:Int)<=s)=false:=by simp;omega
    obtain⟨sn,rfl⟩:∃k:Nat,s=k:=⟨s.toNat,by omega⟩;by_cases h3:(n:Int)-sn<z
    ·have d3:decide ((n:Int)-(sn:Int)<z)=true:=by simp;omega
     have HR:=(PA hE (s:=sn) (z:=z) (c:=11) (by unfold DA;rw[φ h0,θ (.inr (.inr h3))]) (by decide));clear hE hT;go_enter func177,ntmps177
     go_wp2_with(first
      | (go_at_call 122;refine(DU HE).mono ?_;rintro e w' ⟨rfl,rfl⟩)
      | (go_at_call 84;refine(EX HE).mono ?_;rintro e w' ⟨rfl,rfl⟩))
     go_ret;exact HR
    ·have d3:decide ((n:Int)-(sn:Int)<z)=false:=by simp;omega
     obtain⟨zn,rfl⟩:∃k:Nat,z=k:=⟨z.toNat,by omega⟩;have X:=V3K hE.good (s:=(sn:Int)) (z:=(zn:Int)) Ω;have Xl:=UW hE.good hb.2 (A9 L (sn:Int));have Xh:((L[A9 L (sn:Int)]?.getD (0,0)).1:Int)=obS L (A9 L (sn:Int)):=rfl;rw[Xh]at X;obtain⟨s1,Xj⟩:∃v,v=obS L (A1 L (sn:Int)):=⟨_,rfl⟩;obtain⟨z1,U⟩:∃v,v=obZ L (A1 L (sn:Int)):=⟨_,rfl⟩;obtain⟨f1,Xb⟩:∃v,v=decide (A1 L (sn:Int)<L.length):=⟨_,rfl⟩;obtain⟨s2,E⟩:∃v,v=obS L (A9 L (sn:Int)):=⟨_,rfl⟩;obtain⟨z2,Xd⟩:∃v,v=obZ L (A9 L (sn:Int)):=⟨_,rfl⟩;obtain⟨f2,N⟩:∃v,v=decide (A9 L (sn:Int)<L.length):=⟨_,rfl⟩;have HF:Hid (GI L (A1 L (sn:Int))=.tuple #[iI s1,iI z1,.bool f1]):=⟨by rw[Xj,U,Xb];rfl⟩;have HN:Hid (GI L (A9 L (sn:Int))=.tuple #[iI s2,iI z2,.bool f2]):=⟨by rw[E,Xd,N];rfl⟩;rw[<-Xb,<-N,<-E]at X;rw[<-E,<-Xd]at Xl;have B:zn<=1048576/\sn<=1048576/\sn+zn<=n:=Ω
     have Z:∀c,G6 L (sn:Int) (zn:Int)=c->DA L n (sn:Int) (zn:Int)=if c then 7 else 0:=λc hc=>by
      unfold DA;rw[φ h0,φ Ω,hc]
     clear Xj U Xb E Xd N Xh;cases hc:G6 L (sn:Int) (zn:Int)with
     | true=>
      have HR:=(PA hE (s:=(sn:Int)) (z:=(zn:Int)) (c:=7) (Z true hc) (by decide));rw[hc]at X;clear hE hT Z hc;cases f1 with
      | true=>
       clear X;go_enter func177,ntmps177
       go_wp2_with(first
        | (go_at_call 122;refine(DU HE).mono ?_;rintro e w' ⟨rfl,rfl⟩)
        | (go_at_call 84;refine(EX HE).mono ?_;rintro e w' ⟨rfl,rfl⟩)
        | (go_at_call 168;refine(KH HE HT _).mono ?_;rintro e w' ⟨rfl,rfl⟩;rw[HF.o])
        | (go_at_call 183;refine(L3 HE HT _).mono ?_;rintro e w' ⟨rfl,rfl⟩;rw[HN.o]))
       go_ret;exact HR
      | false=>
       have N:f2=true/\s2<(sn:Int)+zn:=by simpa using X.symm
       obtain⟨rfl,Xm⟩:=N;have d4:decide (s2<(sn:Int)+(zn:Int))=true:=by simp[Xm]
       clear X;go_enter func177,ntmps177
       go_wp2_with(first
        | (go_at_call 122;refine(DU HE).mono ?_;rintro e w' ⟨rfl,rfl⟩)
        | (go_at_call 84;refine(EX HE).mono ?_;rintro e w' ⟨rfl,rfl⟩)
        | (go_at_call 168;refine(KH HE HT _).mono ?_;rintro e w' ⟨rfl,rfl⟩;rw[HF.o])
        | (go_at_call 183;refine(L3 HE HT _).mono ?_;rintro e w' ⟨rfl,rfl⟩;rw[HN.o]))
       go_ret;exact HR
     | false=>
      have V:=XCZ (L:=L) (s:=(sn:Int)) (z:=(zn:Int)) Ω Ω hc;simp only[υ]at V;have U:1<=zn:=Ω
      have M:=QX hE.good (o:=(sn,zn)) U B.2.2 V;have Xi:=Yfk hE.good (o:=(sn,zn)) U B.2.2 V;have Xg:=Y48 hE.good (o:=(sn,zn)) U B.2.2 V;have D:=YKx L (sn,zn);have Y:DA L n (sn:Int) (zn:Int)=0:=Z false hc;have hL:C2 L n (sn:Int) (zn:Int)=DJ L (sn,zn):=by unfold C2;rw[θ Y];rfl
      rw[hc]at X
      obtain⟨rfl,Xo⟩:f1=false/\(f2=false\/(f2=true/\(sn:Int)+zn<=s2)):=by
       cases f1 with
       | true=>rw[Bool.true_or]at X;cases X
       | false=>
        refine⟨rfl,?_⟩;cases f2 with
        | false=>exact .inl rfl
        | true=>
         right;rw[Bool.false_or,ξ0]at X;have:=of_decide_eq_false X.symm;exact⟨rfl,by omega⟩
      obtain⟨e,he⟩:∃e,e=sn+zn-1:=⟨_,rfl⟩;have Xq:Hid ((sn:Int)+(zn:Int)-1=(e:Int)):=⟨by omega⟩;have A:EB n (DJ L (sn,zn))=(EB n L).set e true:=by rw[he];exact Xg
      have G:B8 n (DJ L (sn,zn))=(B8 n L).set sn true:=Xi;have K1:Hid (sn<(B8 n L).length):=⟨by rw[IN];omega⟩;have K2:Hid (e<(EB n L).length):=⟨by rw[P9];omega⟩;have KG:=M;have KS:=G;have KE:=A;have KL:=(ψ D (ψ Y hL));obtain⟨a1,a2,a3,a4⟩:=hE.am;obtain⟨a5,a6,a7⟩:=hE.ab;have O:=hE.hm;have Xn:=hE.c1;have Xv:=hE.c2;have Xu:=hE.fr;have cc0:=hE.c0;have HA:Hid (m≠b1/\m≠b2/\p2≠b1/\b2≠b1):=⟨⟨a2,a4,a6,λh=>a7 h.symm⟩⟩;have hLn:=hE.good.len;clear hE hT Z hc X V M Xi Xg A G D Y hL he a1 a2 a3 a4 a5 a6 a7;rcases Xo with rfl|⟨rfl,hge⟩
      all_goals try have d4:decide (s2<(sn:Int)+(zn:Int))=false:=by simp;omega
      all_goals
       go_enter func177,ntmps177
       go_wp2_with(first
        | (go_at_call 122;refine(DU HE).mono ?_;rintro e w' ⟨rfl,rfl⟩)
        | (go_at_call 84;refine(EX HE).mono ?_;rintro e w' ⟨rfl,rfl⟩)
        | (go_at_call 168;refine(KH HE HT _).mono ?_;rintro e w' ⟨rfl,rfl⟩;rw[HF.o])
        | (go_at_call 183;refine(L3 HE HT _).mono ?_;rintro e w' ⟨rfl,rfl⟩;rw[HN.o])
        | (go_at_call 208;rw[Xq.o];refine(ZYZ (HE.v2.touch Xk HA.o.2.2.1 HA.o.2.2.2) e K2.o).mono ?_;rintro e' w2 ⟨rfl,I,Xc⟩;rw[<-KE]at Xc;have e2:=(I.cell Xe HA.o.2.1 2).trans Xr;have ef:=(I.frozen Xe HA.o.2.1 2).trans Xp;have Xs:=I;have Xw:=Xc;clear I Xc)
        | (go_at_call 208;refine(ZYZ HE.v1 sn K1.o).mono ?_;rintro e' w1 ⟨rfl,J,Xa⟩;rw[<-KS]at Xa;have e11:=(J.cell O HA.o.1 1).trans Xn;have Xr:=(J.cell O HA.o.1 2).trans Xv;have Xp:=(J.frozen O HA.o.1 2).trans Xu;have Xk:=J;have Xt:=Xa;have Xe:=(κ O J.size);clear J Xa))
       go_ret;have Xf:=HE.changed KG Xk Xt Xs Xw (z:=((L.length:Int)+1)) (by rw[KL.1];push_cast;rfl);exact⟨by rw[KL.2.1];rfl,Xf.2,by rw[KL.2.2];exact Xf.1⟩
theorem ZRB(c0:w.cell? ⟨m,0,none⟩=some (pP p)):cQ 122 #[pP m] w (.bool false):=by
 go_enter func122,ntmps122;go_wp2;go_ret
 simp_all
theorem Xk0(c0:w.cell? ⟨m,0,none⟩=some (pP p))(hV:BA w p b l)(hl:l.length=n):
  cQ 84 #[pP m] w (iI n):=by
 have HV:=hV;go_enter func84,ntmps84
 go_wp2_with(first
  | (go_at_call 122;refine(ZRB c0).mono ?_;rintro e w' ⟨rfl,rfl⟩)
  | (go_at_call 123;refine(IQ HV).mono ?_;rintro e w' ⟨rfl,rfl⟩))
 go_ret
 simp_all
theorem Y2(l:List Bool)(n:Nat)(h:l.length=n):CP l 0 n false=List.replicate n false:=
 IJ (by grind [FO]) (λi hi=>by
  rw[FO]at hi;rw[NN _ _ _ _ _ hi,θ Ω]
  simp[at_,ξc];split <;> rfl)
def JAm(w:World)(m p1 b1 p2 b2 n:Nat)(e:Ending)(w':World):Prop:=e=.returned (.tuple #[])/\AB (AN m b1 b2) w w'/\Ext w' m p1 b1 p2 b2 n []
theorem Zca(hE:Ext w m p1 b1 p2 b2 n L):
  Calls prog 86 #[pP m] w (JAm w m p1 b1 p2 b2 n):=by
 have hb:=hE.nb;have HE:=hE;have A:=hE.c0;have D:=hE.c1;have Xe:=hE.c2;have Xd:=hE.fr;obtain⟨a1,a2,a3,a4⟩:=hE.am;obtain⟨a5,a6,a7⟩:=hE.ab;have Z:=hE.hm;have HA:Hid (m≠b1/\m≠b2/\p2≠b1/\b2≠b1):=⟨⟨a2,a4,a6,λh=>a7 h.symm⟩⟩;have KS:Hid (CP (B8 n L) 0 (n:Int) false=B8 n []):=⟨by grind [Y2,IN,V9f]⟩;have KE:Hid (CP (EB n L) 0 (n:Int) false=EB n []):=⟨by grind [Y2,P9,Y5]⟩;go_enter func86,ntmps86;go_upto_region 1 with(go_at_call 122;refine(DU HE).mono ?_;rintro e w' ⟨rfl,rfl⟩);obtain⟨S,hS⟩:∃S:World->Prop,S=λW'=>W'.cell? ⟨m,0,none⟩=some (pP p1):=⟨_,rfl⟩;have x0:∀p:AA S,p.w.cell? ⟨m,0,none⟩=some (pP p1):=λp=>AA.get hS p;have Y:S w.drew:=by simp_all
 have J:Inhabited (AA S):=⟨⟨_,Y⟩⟩;clear hS;refine AV S 6 [([0,1,2,3,4],5),([],6)] [] Y ?_;refine AH ?_;go_wp2_with(go_at_call 84;refine(EX (HE.gr (Gr.refl w).drew)).mono ?_;rintro e w' ⟨rfl,rfl⟩);refine⟨.inr (AA.of Y),?_⟩;refine OB ?_;simp only[AF,ν,π];refine ζb ?_;go_wp2_with(go_at_call 124;refine(YS (HE.v1.gr (Gr.refl w).drew) 0 (n:Int) (by decide)).mono ?_;rintro e' w1 ⟨rfl,E,M⟩;rw[KS.o]at M;have X:=((Gr.refl w).drew.touch (λk=>k=b1)).trans E;have e11:=(X.cell Z HA.o.1 1).trans D;have Xa:=(X.cell Z HA.o.1 2).trans Xe;have Xb:=(X.cell Z HA.o.1 0).trans A;have G:=(X.frozen Z HA.o.1 2).trans Xd;have I:=X;have O:=M;have U:=(κ Z X.size));refine⟨.inl trivial,?_⟩;refine EN ?_;refine ζb ?_;refine ζA ?_;go_upto_region 2 with(fail);obtain⟨S,hS⟩:∃S:World->Prop,S=λW'=>W'.cell? ⟨m,1,none⟩=some (pP p2):=⟨_,rfl⟩;have x0:∀p:AA S,p.w.cell? ⟨m,1,none⟩=some (pP p2):=λp=>AA.get hS p;have Y:S w1.drew:=by simp_all
 have J:Inhabited (AA S):=⟨⟨_,Y⟩⟩;clear hS;refine AV S 6 [([0,1,2,3,4],5),([],6)] [] Y ?_;refine AH ?_;go_wp2_with(go_at_call 84;refine(Xk0 (w:=w1.drew) Xb (O.gr (Gr.refl w1).drew) (IN n [])).mono ?_;rintro e w' ⟨rfl,rfl⟩);refine⟨.inr (AA.of Y),?_⟩;refine OB ?_;simp only[AF,ν,π];refine ζb ?_;go_wp2_with(go_at_call 124;refine(YS ((HE.v2.touch I HA.o.2.2.1 HA.o.2.2.2).gr (Gr.refl w1).drew) 0 (n:Int) (by decide)).mono ?_;rintro e' w2 ⟨rfl,B,N⟩;rw[KE.o]at N;have X:=((Gr.refl w1).drew.touch (λk=>k=b2)).trans B;have e2:=(X.cell U HA.o.2.1 2).trans Xa;have ef:=(X.frozen U HA.o.2.1 2).trans G;have Xc:=X;have Xf:=N);refine⟨.inl trivial,?_⟩;refine EN ?_;refine ζb ?_;refine ζA ?_;clear x0 Y J;go_wp2;refine ζt (ζk rfl _ _ _) rfl ?_;have V:=HE.changed (AP.nil n) I O Xc Xf (z:=0) rfl;exact⟨rfl,V.2,V.1⟩
def XrP(w:World)(n:Nat)(e:Ending)(w':World):Prop:=
 ∃m p1 b1 p2 b2,e=.returned (.tuple #[pP m,iI 0])/\Gr w w'/\Ext w' m p1 b1 p2 b2 n []/\w.heap.size<=m/\w.heap.size<=p1/\w.heap.size<=b1/\w.heap.size<=p2/\w.heap.size<=b2
theorem OF(n:Nat)(h1:1<=n)(h2:n<=1048576)(w:World):Calls prog 46 #[iI n] w (XrP w n):=by
 have HN:=(ψ h1 h2);go_enter func46,ntmps46
 go_wp2_with(first
  | (go_at_call 82;refine(VL n HN.1 HN.2 w1).mono ?_;rintro e w2 ⟨p2,b2,rfl,J,X,hp2,hb2⟩)
  | (go_at_call 82;refine(VL n HN.1 HN.2 _).mono ?_;rintro e w1 ⟨p1,b1,rfl,U,Y,hp1,hb1⟩))
 go_ret2;have Z:=Y.gr J;have s1:=Y.hp;have s2:=Y.hb;have s3:=X.hp;have s4:=X.hb;refine⟨_,p1,b1,p2,b2,BL rfl rfl,(U.trans J).alloc _,⟨AP.nil n,?_,?_,by simp,ζH ..,ζH ..,ζH ..,ξ2 ..,by omega,by omega⟩,by omega,by omega,by omega,by omega,by omega⟩
 ·rw[V9f];exact Z.gr ((Gr.refl _).alloc _)
 ·rw[Y5];exact X.gr ((Gr.refl _).alloc _)
end
open Go.Shelf
section
attribute [local go_sem] Oper.semAt_some
def YjA(box p b N:Nat)(s:List Bool×Nat)(W:World):Prop:=
 BA W p b s.1/\s.1.length=N/\AQ W/\W.cell? ⟨box,0,none⟩=some (pP p)/\s.2<=N
def XRB(s:List Bool×Nat)(x:Nat):Prop:=x=BU s.1 s.2/\BU s.1 s.2<s.1.length
def Qk5(_:List Bool×Nat)(x:Nat)(s':List Bool×Nat):Prop:=s'.2=x+1
theorem VJj{a:Int}(h:BU l a<l.length):at_ l (BU l a)=true/\a<=(BU l a:Nat):=by
 have:=GO (λi=>at_ l i&&decide (a<=(i:Nat))) l.length h;simp only[ζe,ζd]at this;exact this
theorem ZWM{a:Int}(h:BU l a<l.length):a<=(BU l a:Nat):=(VJj h).2
def VX:Value->Bool
 | .bool b=>b
 | _=>false
def UT(s:List Bool×Nat):Prop:=¬BU s.1 s.2<s.1.length
theorem ZNp(n:Nat)(box p b N:Nat)(l0:List Bool)(w:World):
  MV Fence.wide n prog 217 #[pP box] (λx:Nat=>#[iI (x:Int)]) (YjA box p b N) XRB Qk5 UT (l0,0) w:=by
 intro l J Jx W hg hJ hJx hI hY h0;refine callsIn_of_wp func217 rfl trivial ?_ rfl;have U:=hI _ _ h0;have c0:=U.2.2.2.1;have V:=U;simp only[ntmps217,ζT,ζB,ζX,Nat.reduceAdd,Nat.reduceSub,ζL,ζK,ζZ,ζR,ζU,ζr];gi_wp2_with(refine⟨trivial,λh=>Bool.noConfusion h,?_⟩;gi_at_call 213;refine(τ.2 (KM V.1 V.2.2.1 _)).mono ?_;rintro e w1 ⟨rfl,rfl⟩)
 gi_loopw [3,4] (λx3 x4 wr=>∃s:List Bool×Nat,J s wr/\x3=iI (JD s.1.length (BU s.1 s.2))/\x4=.bool (decide (BU s.1 s.2<s.1.length))) (λx3 x4 _=>if VX x4 then N-(intOf x3).toNat+1 else 0)
 case atStart=>grind
 case round=>
  obtain⟨s,hs,rfl,rfl⟩:=hrel;have hi:=hI _ _ hs;have c1:=hi.2.2.2.1;have HI:=hi;by_cases X:BU s.1 s.2<s.1.length
  ·obtain⟨x,hx⟩:∃x,x=BU s.1 s.2:=⟨_,rfl⟩;obtain⟨fn,tmps,assign,body,hy,hR⟩:=hY s x wr hs ⟨hx,X⟩;have e1:JD s.1.length (BU s.1 s.2)=(x:Int):=by grind [IR]
   have e2:decide (BU s.1 s.2<s.1.length)=true:=by simp[X]
   rw[e1,e2];have hxN:x<N:=by rw[<-HI.2.1,hx];exact X
   have HN:=hI;have HX:=ι hx;clear hx e1 e2 hI;gi_wp2;refine⟨λh=>Bool.noConfusion h,hR.mono ?_⟩;rintro e W3 (⟨rfl,s',M,I⟩|⟨rfl,hx'⟩)
   ·have Y:=HN _ _ I;have c3:=Y.2.2.2.1;have Z:=Y;have O:s'.2=x+1:=M;have hN2:(N:Int)<=1048576:=by have:=Y.1.n2;have:=Y.2.1;omega
    have hx2:(x:Int)<N:=Ω
    have HS':=O;gi_wp2_with(refine⟨trivial,λh=>Bool.noConfusion h,?_⟩;gi_at_call 213;refine(τ.2 (KM Z.1 Z.2.2.1 ((x:Int)+1))).mono ?_;rintro e w1 ⟨rfl,rfl⟩);go_roundw
    case rel=>grind
    case measure=>
     have e0:VX (Value.bool true)=true:=rfl;rw[θ e0];by_cases h:BU s'.1 ((x:Int)+1)<s'.1.length
     ·have hge:=ZWM h;have h2:=Z.2.1;rw[IR h,θ (by simp_all)];simp only[intOf];omega
     ·rw[φ (by simp[VX];omega)];omega
   ·gi_wp2
    go_end0
    simp_all
  ·have e1:JD s.1.length (BU s.1 s.2)=0:=M9 X;have e2:decide (BU s.1 s.2<s.1.length)=false:=by simp;omega
   rw[e1,e2];gi_wp2;refine⟨λ_ h=>(by cases h),?_⟩;gi_wp2
   go_end0
   exact⟨⟨_,rfl⟩,.inl ⟨s,X,hs⟩⟩
theorem Xig(q:Option Addr):
  Calls prog 188 #[.pointer q] w λe w'=>e=.returned (.func (.func 217) #[] #[pP w.heap.size])/\w'=w.alloc (.cells #[.pointer q] 150):=by
 go_enter func188,ntmps188;go_wp2;go_ret
 simp_all
end
section
attribute [local go_sem] Oper.semAt_some
def Zxj(box m p1 b1 p2 b2 n:Nat)(L:List Ob)(j:Nat)(W:World):Prop:=
 Ext W m p1 b1 p2 b2 n L/\AQ W/\W.cell? ⟨box,0,none⟩=some (pP m)/\j<=L.length
def EU(L:List Ob)(j:Nat)(x:Ob):Prop:=L[j]?=some x
def GQ(x:Ob):Array Value:=#[iI (x.1:Nat),iI (x.2:Nat)]
theorem ZjB(h:AP n L)(hj:j<L.length):A9 L ((L[j].1:Int)+1)=j+1:=by
 refine L8 Ω (λi hi hij=>?_) (λh2=>?_)
 ·rcases δ i j with h1|h1
  ·have:=h.at hi hj h1;omega
  grind
 ·have:=h.at hj h2 (ξM j);have:=h.sz _ (μ hj);omega
theorem ZVe{m' l l2:Nat}{P:Program}{args:Array Value}{R:Ending->World->Prop}(h:YieldAt Fence.wide m P l args W R):YieldAt (Fence.wide.inRound l2) m' P l args W R:=by
 obtain⟨fn,Z,X,Y,hy,hR⟩:=h;exact⟨fn,Z,X,Y,hy,hR.1,λc cs _=>hR.2 c cs (room_wide _)⟩
structure ME(n:Nat)(L:List Ob)(J:Nat->World->Prop)(B0 B1 p1:Nat)(y:Value)(s:List Bool×Nat)(A:World):Prop where
 st:s.1=B8 n L
 ps:s.2<=n
 j:∃j,J j A/\A9 L (s.2:Int)=j
 y:A.cell? ⟨B0,0,none⟩=some y
 v:A.cell? ⟨B1,0,none⟩=some (pP p1)
theorem Xix(n':Nat)(box m p1 b1 p2 b2 n:Nat)(L:List Ob)(w:World):
  VR Fence.wide n' prog 187 #[pP box] GQ (Zxj box m p1 b1 p2 b2 n L) (EU L) (λj _ j'=>j'=j+1) (λj=>j=L.length) 0 w:=by
 intro l J Jx W hg hJ Xk hI hY h0;refine τ.2 ((τ (n:=5)).1 ?_);refine callsIn_of_wp_marks func187 rfl trivial ?_ rfl;have Xe:=hI _ _ h0;have c0:=Xe.2.2.1;have k0:=Xe.1.c0;have E:=Xe;have Xx:=h0;have Xl:=hI;simp only[ntmps187,ζT,ζB,ζX,Nat.reduceAdd,Nat.reduceSub,ζL,ζK,ζZ,ζR,ζU,ζr];have hbox:box<W.heap.size:=AT c0;have hmw:=E.1.hm
 gi_wp2_with(first
  | (refine⟨trivial,?_⟩;gi_at_call 122;refine(τ.2 (DU (E.1.gr ((Gr.refl W).alloc _)))).mono ?_;rintro e w1 ⟨rfl,rfl⟩)
  | (refine⟨trivial,?_⟩;gi_at_call 188;refine(τ.2 (Xig (some ⟨p1,0,none⟩))).mono ?_;rintro e w1 ⟨rfl,rfl⟩))
 obtain⟨W0,M⟩:∃W0,W0=(W.alloc (.cells #[.func (.yield l) #[] #[]] 118)).alloc (.cells #[.pointer (some ⟨p1,0,none⟩)] 150):=⟨_,rfl⟩;have Xz:Gr W W0:=by rw[M];exact((Gr.refl W).alloc _).alloc _
 have Xo:W0.heap.size=W.heap.size+2:=by rw[M];simp
 have bY:W0.cell? ⟨W.heap.size,0,none⟩=some (.func (.yield l) #[] #[]):=by rw[M];exact((Boxed.new W _ _).alloc _).cell
 have bV:W0.cell? ⟨W.heap.size+1,0,none⟩=some (pP p1):=by
  rw[M];have:=Boxed.new (W.alloc (.cells #[.func (.yield l) #[] #[]] 118)) 150 (pP p1);rw[χ]at this;exact this.cell
 rw[<-M];have X:=E.1.good;have hnb:=E.1.nb;have Xp:J 0 W0:=hJ _ _ _ Xx (Xz.touch _);have HH0:=M;have Xr:A9 L ((0:Nat):Int)=0:=L8 (ζc _) (λi hi h=>by omega) (λh=>by omega)
 have tI:∀s A B,ME n L J W.heap.size (W.heap.size+1) p1 (.func (.yield l) #[] #[]) s A->AB (λk=>W0.heap.size<=k) A B->ME n L J W.heap.size (W.heap.size+1) p1 (.func (.yield l) #[] #[]) s B:=λs A B h t=>
  ⟨h.st,h.ps,by obtain⟨j,hj,e⟩:=h.j;exact⟨j,hJ _ _ _ hj (t.mono (λk _ h=>by omega)),e⟩,(t.cell (AT h.y) (by show ¬W0.heap.size<=W.heap.size;omega) 0).trans h.y,(t.cell (AT h.v) (by show ¬W0.heap.size<=W.heap.size+1;omega) 0).trans h.v⟩
 refine S8 (s0:=(B8 n L,0)) rfl Ω (gf:=217) (lb:=#[pP (W.heap.size+1)]) rfl trivial (enters_of func217 (by kernel_rfl) rfl)
  (ZNp _ (W.heap.size+1) p1 b1 n (B8 n L) _).toT (λ_=>rfl)
  (ME n L J W.heap.size (W.heap.size+1) p1 (.func (.yield l) #[] #[])) (λc A=>c=.ret/\Jx A) tI (λc A B h t=>⟨h.1,Xk _ _ h.2 (t.mono (λk _ h=>by omega))⟩)
  (λs A h=>by
   obtain⟨j,hj,-⟩:=h.j;have hi:=Xl _ _ hj
   exact⟨by rw[h.st];exact hi.1.v1,by rw[h.st,IN],hi.2.1,h.v,h.ps⟩)
  ⟨rfl,ζc _,⟨0,Xp,Xr⟩,bY,bV⟩ ?round ?done ?stop
 case round=>
  intro lp s x W3 hsz3 Xd Xy;gi_wp2;refine⟨Gr.refl _,λW4 ht4 hI4=>?_⟩;obtain⟨V,Xn,⟨j,hj,Z⟩,hy,hv⟩:=hI4;obtain⟨hx,Xh⟩:=Xy;have I:=Xl _ _ hj;rw[V]at hx Xh
  have Y:j<L.length:=by
   rcases δ j L.length with h|h
   ·exact h
   ·have:=WQ X (a:=(s.2:Int)) (by rw[Z];omega);omega
  have Xw:x=L[j].1:=by
   have:=(NF X (a:=(s.2:Int)) (by rw[Z];exact Y)).1;rw[hx,this];congr 2
  subst Xw;have Xt:J j W4.drew:=hJ _ _ _ hj ((Gr.refl W4).drew.touch _);have Xj:W.heap.size<=W4.drew.heap.size:=Nat.le_of_lt (AT hy);obtain⟨fn,tmps,assign,body,Xv,hR⟩:=ZVe (m':=2) (l2:=lp) (hY j L[j] W4.drew Xt Xj (ω Y));have HZ:=(QM (I.1.gr (Gr.refl W4).drew) ((Gr.refl W4).drew.tab I.2.1.lt I.2.1) Y);have cbx:=I.2.2.1;have hbxs:=Xo;have HS:=(ψ V (ψ Z Y));clear V Z hj I hx Xh Xd;dsimp only[GQ]at Xv
  have Xi:=hR.mono (R':=λe W'=>∃bb:Bool,e=.returned (.bool bb)/\((bb=true/\J (j+1) W')\/(bb=false/\Jx W'))/\AB (λk=>k<W.heap.size) W4.drew W') (by
   rintro e W' ⟨⟨he,s',rfl,Ya⟩|⟨he,hx⟩,ht⟩
   ·exact⟨true,he,.inl ⟨rfl,Ya⟩,ht⟩
   ·exact⟨false,he,.inr ⟨rfl,hx⟩,ht⟩)
  clear hR;gi_wp2;obtain⟨Sx,Xb⟩:∃S:World->Prop,S=λA=>A.cell? ⟨W.heap.size,0,none⟩=some (.func (.yield l) #[] #[]):=⟨_,rfl⟩;have x1:∀p:AA Sx,p.w.cell? ⟨W.heap.size,0,none⟩=some (.func (.yield l) #[] #[]):=λp=>AA.get Xb p;have N:Sx W4.drew:=by rw[Xb];exact hy
  have Xf:=ι Xb;clear Xb;have Xq:Inhabited (AA Sx):=⟨⟨_,N⟩⟩;refine GG Sx 7 [([0,1,3],2),([],4),([],5)] [6] (λ_=>trivial) N ?_;refine DW ?_;gi_wp2;refine⟨.inr (AA.of N),?_⟩;refine NR ?_;simp only[AF,ν,π];refine ζb ?_;gi_wp2_with(refine⟨trivial,?_⟩;gi_at_call 189;refine(CallsIn.inRound lp (τ.2 HZ)).mono ?_;rintro e w' ⟨rfl,rfl⟩);refine⟨.inr (AA.of N),?_⟩;refine NR ?_;simp only[AF,ν,π];refine ζb ?_;gi_wp2;refine Xi.mono ?_;rintro e W5 ⟨bb,rfl,G,Xa⟩;have Xm:=(Xa.cell (AT hy) (ζN _) 0).trans hy;have Xs:=(Xa.cell (AT hv) (by show ¬W.heap.size+1<W.heap.size;omega) 0).trans hv;gi_wp2;refine⟨.inr (AA.of (by rw[Xf.o];exact Xm)),?_⟩;refine GB ?_;have T5:=(((Gr.refl W4).drew.touch (λk=>k<W0.heap.size)).trans (Xa.mono (λk _ h=>by omega)));have Xu:=(X.sz _ (μ Y));clear x1 N Xf Xq Xi Xa;clear Sx;cases bb with
  | true=>
   have O:J (j+1) W5:=by
    rcases G with⟨_,h⟩|⟨h,_⟩
    ·exact h
    ·cases h
   have Xc:=O;clear G O;gi_wp2;exact⟨T5,(B8 n L,L[j].1+1),rfl,rfl,by have:=Xu;show L[j].1+1<=n;omega,⟨j+1,Xc,by have:=ZjB X Y;push_cast;exact this⟩,Xm,Xs⟩
  | false=>
   have O:Jx W5:=by
    rcases G with⟨h,_⟩|⟨_,h⟩
    ·cases h
    ·exact h
   have Xc:=O;clear G O;gi_wp2;exact⟨T5,rfl,Xc⟩
 case done=>
  rintro D s W3 hD U Xd hK;obtain⟨V,Xn,⟨j,hj,Z⟩,hy,hv⟩:=Xd
  have Y:¬j<L.length:=λh=>by
   have:=NF X (a:=(s.2:Int)) (by rw[Z];exact h);unfold UT at U;rw[V]at U;exact U this.2
  have Xg:j=L.length:=by have:=OC L (s.2:Int);omega
  have HE:=(ψ Xg hj);have HK:=hK;have HD:=hD;clear V Xn Z hy hv U Xg hj hK hD Y;gi_wp2;refine⟨by simp,.inl ⟨_,_,rfl,run_takeDeferred HK,?_⟩⟩;refine⟨.tuple #[],ζk rfl _ _ _,⟨_,rfl⟩,.inl ⟨j,HE.1,hJ _ _ _ HE.2 ((DB W3 D _ (ϑ D)).mono (λk _ h=>by have:=HD;omega))⟩⟩
 case stop=>
  rintro D c W3 hD ⟨rfl,hx⟩ hK;have HE:=hx;have HK:=hK;have HD:=hD;clear hx hK hD;gi_wp2;refine⟨by simp,.inl ⟨_,_,rfl,run_takeDeferred HK,?_⟩⟩;refine⟨.tuple #[],ζk rfl _ _ _,⟨_,rfl⟩,.inr (Xk _ _ HE ((DB W3 D _ (ϑ D)).mono (λk _ h=>by have:=HD;omega)))⟩
end
section
attribute [local go_sem] Oper.semAt_some
theorem J5(q:Option Addr):
  Calls prog 144 #[.pointer q] w λe w'=>e=.returned (.func (.func 187) #[] #[pP w.heap.size])/\w'=w.alloc (.cells #[.pointer q] 93):=by
 go_enter func144,ntmps144;go_wp2;go_ret
 simp_all
theorem AQ.touch'(ht:AQ w)(h:AB S w W)(hS:¬S 1):AQ W:=h.tab ht.lt hS ht
end
section
attribute [local go_sem] Oper.semAt_some
end
end Go.Proofs.YtggjoonlcjjgkaaGreatDoor
