/- Part 4 of what Trees leans on: my own lemmas, merged by shake.py. -/
import Derived.Test.YtbdimhlaaoadgaaGreatDoorTreesC
import Derived.Laws.BitsAllLaws
import Derived.Laws.Bits64b
import Derived.Defers
import Derived.Recover
import Derived.Laws.Pointers
namespace Go.Proofs.YtbdimhlaaoadgaaGreatDoor
open _root_.Go.Proofs.Tryz
set_option maxHeartbeats 1600000
set_option maxRecDepth 100000
open Go.RowKit Word
variable{a:Int}{X Y:Int->Prop}{O rs:List Int}{F:List Nat}{L M:List Ob}{xs:List Value}{R b b4 bm bs c f i j k m n p p0 pg q rm x:Nat}{S S' S2 T:Nat->Prop}{sp vF:Value}{w w' w1:World}
structure Vm where
 n:Nat
 pl:Pl
 pt:List Nat
variable{u v':Vm}
structure AF(v:Vm):Prop where
 pl:FB v.pl
 pt:JE v.pt
 n2:v.n<=524288
 np:v.n=v.pt.length*v.pl.pg
 fr:∀p,p<v.pt.length->v.pt.getD p 0≠0->at_ v.pl.tk (v.pt.getD p 0-1)=true
 inj:∀p p',p<v.pt.length->p' < v.pt.length->v.pt.getD p 0≠0->v.pt.getD p 0=v.pt.getD p' 0->p=p'
 us:v.pl.used=nz v.pt
structure AD(w:World)(S:Nat->Prop)(q:Nat)(v:Vm):Prop where
 ok:AF v
 sq:S q
 row:∃S1 S2 b1 b2,Rec w q 182 [pP b1,pP b2,iI v.n]/\CI w S1 b1 v.pl/\C4 w S2 b2 v.pt ∧
  (∀k,S1 k->S k)/\(∀k,S2 k->S k)/\(∀k,S1 k->¬S2 k)/\¬S1 q/\¬S2 q
theorem AD.touch{v:Vm}(h:AD w S q v)(t:AB T w w')(hS:∀k,S k->k<w.heap.size->¬T k):AD w' S q v:=by
 obtain⟨h1,h2,S1,S2,b1,b2,hr,hp,hg,s1,s2,s3,s4,s5⟩:=h;exact⟨h1,h2,S1,S2,b1,b2,hr.touch t (hS _ h2 hr.lt),hp.touch t (λk hk=>hS k (s1 k hk)),hg.touch t (λk hk=>hS k (s2 k hk)),s1,s2,s3,s4,s5⟩
theorem AD.gr{v:Vm}(h:AD w S q v)(t:Gr w w'):AD w' S q v:=h.touch (t.touch (λ_=>False)) (λ_ _ _ h=>h)
theorem AD.mono{v:Vm}(h:AD w S q v)(hT:∀k,S k->T k):AD w T q v:=by
 obtain⟨h1,h2,S1,S2,b1,b2,hr,hp,hg,s1,s2,s3,s4,s5⟩:=h;exact⟨h1,hT _ h2,S1,S2,b1,b2,hr,hp,hg,λk hk=>hT k (s1 k hk),λk hk=>hT k (s2 k hk),s3,s4,s5⟩
def AC(S:Nat->Prop)(w:World)(k:Nat):Prop:=S k/\k<w.heap.size
theorem CI.cut{p:Pl}(h:CI w S q p):CI w (AC S w) q p:=by
 obtain⟨h1,h2,vw,vt,vb,hi,ts,hr,o1,o2,o3,s1,s2,s3⟩:=h;exact⟨h1,⟨h2,hr.lt⟩,vw,vt,vb,hi,ts,hr,o1,o2,o3,λg hg=>⟨s1 g hg,(BE o1 hg).2⟩,λg hg=>⟨s2 g hg,(BE o2 hg).2⟩,λg hg=>⟨s3 g hg,(BE o3 hg).2⟩⟩
theorem C4.cut{pt:List Nat}(h:C4 w S q pt):C4 w (AC S w) q pt:=by
 obtain⟨ok,sq,g,c,L,hr,h1,h2,sg,ho,ht,hd⟩:=h;refine⟨ok,⟨sq,hr.lt⟩,g,c,L,hr,h1,h2,⟨sg,(BE ho rfl).2⟩,ho,λk hk=>?_,hd⟩;have:=ht k hk;cases hl:L.getD k none with
 | none=>grind
 | some b=>rw[hl]at this;exact⟨⟨this.1,this.2.lt⟩,this.2⟩
theorem AD.cut{v:Vm}(h:AD w S q v):AD w (AC S w) q v:=by
 obtain⟨h1,h2,S1,S2,b1,b2,hr,hp,hg,s1,s2,s3,s4,s5⟩:=h;exact⟨h1,⟨h2,hr.lt⟩,AC S1 w,AC S2 w,b1,b2,hr,hp.cut,hg.cut,λk hk=>⟨s1 k hk.1,hk.2⟩,λk hk=>⟨s2 k hk.1,hk.2⟩,λk hk hk2=>s3 k hk.1 hk2.1,λh=>s4 h.1,λh=>s5 h.1⟩
theorem TQ{a b c a' b' c':Value}(h1:a=a')(h2:b=b')(h3:c=c'):Ending.returned (.tuple #[a,b,c])=.returned (.tuple #[a',b',c']):=by simp_all
def Vm.ldE(v:Vm)(a:Int):Int:=if 0<=a/\a<v.n then frE v.pt (a/v.pl.pg)else 11
def Vm.at(v:Vm)(a:Int):Nat:=(v.pt.getD (a/v.pl.pg).toNat 0-1)*v.pl.pg+(a%v.pl.pg).toNat
def Vm.ldV(v:Vm)(a:Int):Nat:=if v.ldE a=0 then v.pl.wd.getD (v.at a) 0 else 0
def Vm.st(v:Vm)(a:Int)(x:Nat):Vm:=if v.ldE a=0 then {v with pl:={v.pl with wd:=v.pl.wd.set (v.at a) x}}else v
theorem AF.page{v:Vm}(h:AF v):1<=v.pl.pg/\v.pl.pg<=256:=⟨by have:=DD h.pl.pg;omega,h.pl.pg2⟩
theorem AF.split{v:Vm}(h:AF v){a:Nat}(ha:a<v.n):a/v.pl.pg<v.pt.length/\a%v.pl.pg<v.pl.pg:=by
 have hp:=h.page;refine⟨(ζ7 hp.1).2 (by rw[<-h.np];exact ha),ξV _ hp.1⟩
theorem AF.hit{v:Vm}(h0:v.ldE a=0):∃j:Nat,a=j/\j<v.n/\v.pt.getD (j/v.pl.pg) 0≠0:=by
 unfold Vm.ldE at h0
 split at h0
 ·rename_i hr;obtain⟨j,rfl⟩:∃j:Nat,a=j:=⟨a.toNat,by omega⟩;obtain⟨p,hp1,hp2,hp3⟩:=NF h0;have hpj:p=j/v.pl.pg:=Ω
  grind
 ·cases h0
section
variable{v:Vm}
theorem E8(hV:AD w S q v):cQ 124 #[pP q] w (.bool false):=by
 obtain⟨S1,S2,b1,b2,hr,-⟩:=hV.row;have c0:=hr.cc 0;go_enter func124,ntmps124;go_wp2;go_ret
 simp_all
theorem YU7(w:World):cQ 124 #[.pointer none] w (.bool true):=by
 go_enter func124,ntmps124;go_wp2;go_ret;exact⟨rfl,rfl⟩
def Xy7(w:World)(v:Vm)(a:Int)(e:Ending)(w':World):Prop:=
 Gr w w'/\∃x y:Int,e=.returned (.tuple #[iI x,iI y,iI (v.ldE a)])/\(v.ldE a=0->x=(v.pt.getD (a/v.pl.pg).toNat 0:Nat)-1/\y=a%v.pl.pg)
theorem TA(hV:AD w S q v)(a:Int):Calls prog 255 #[pP q,iI a] w (Xy7 w v a):=by
 have HV:=hV;obtain⟨S1,S2,b1,b2,hr,hp,hg,-⟩:=hV.row;obtain⟨c0,c1,c2,M⟩:=hr.k3;have HP:=hp;have HG:=hg;have U:=hV.ok.page;have hn:=hV.ok.n2;by_cases X:0<=a/\a<v.n
 ·obtain⟨j,rfl⟩:∃j:Nat,a=j:=⟨a.toNat,by omega⟩;have HE:Hid (v.ldE j=frE v.pt ((j/v.pl.pg:Nat):Int)):=⟨by unfold Vm.ldE;rw[φ X,ξe]⟩;have HA:Hid (((j:Int)/(v.pl.pg:Int)).toNat=j/v.pl.pg/\((j%v.pl.pg:Nat):Int)=(j:Int)%(v.pl.pg:Int)):=⟨⟨by rw[<-ξe,χ],ξR ..⟩⟩;obtain⟨p,Y⟩:∃p,p=j/v.pl.pg:=⟨_,rfl⟩;obtain⟨o,Z⟩:∃o,o=j%v.pl.pg:=⟨_,rfl⟩;have q1:((j:Int).tdiv (v.pl.pg:Int))=(p:Int):=by rw[Y];rfl
  have q2:((j:Int)/(v.pl.pg:Int))=(p:Int):=by rw[Y];rfl
  have q3:((j:Int).tmod (v.pl.pg:Int))=(o:Int):=by rw[Z];rfl
  have q4:((j:Int)%(v.pl.pg:Int))=(o:Int):=by rw[Z];rfl
  have V:(v.pl.pg:Int)≠0:=Ω
  rw[<-Y]at HE;rw[<-Y,<-Z]at HA;have hp2:p<=524288:=by have:=ζ8 j v.pl.pg;omega
  have ho2:o<=524288:=by have:=Nat.mod_le j v.pl.pg;omega
  have hjI:(j:Int)<(v.n:Int):=Ω
  obtain⟨B,hB⟩:∃B,B=v.pl.pg:=⟨_,rfl⟩;have HB:=ι hB;rw[<-hB]at q1 q2 q3 q4 V U;have d0:decide ((j:Int)<0)=false:=ζ Ω;have d1:decide ((v.n:Int)<=(j:Int))=false:=ζ Ω;clear hr hp hg hV X Y Z hB;go_enter func255,ntmps255
  go_wp2_with(first
   | (go_at_call 124;refine(E8 HV).mono ?_;rintro e w1 ⟨rfl,rfl⟩)
   | (go_at_call 203;refine(TN HP).mono ?_;rintro e w1 ⟨rfl,rfl⟩;rw[<-HB.o]))
  have z1:∀xs m,(grow w xs m).cell? ⟨q,1,none⟩=some (pP b2):=λxs m=>((grown w xs m).cell M 1).trans c1;refine I5 (by kernel_rfl) (by kernel_rfl) ?_
  repeat(go_big_quiet_step ((go_at_call 243;have hc:=λxs m=>K0 (HG.gr (grown w xs m)) (p:Int);exact A4.grown (hc _ _))))
  refine ζd ?_;intro _ N;obtain⟨⟨xs,nq⟩,J⟩:=N;subst J;go_wp2;go_quiet (fail);go_wp2
  go_ret3
  refine⟨(grown w _ _).drewN _,_,_,TQ rfl rfl (BN HE.o.symm),λh0=>?_⟩;rw[HE.o]at h0;rw[HA.o.1,<-HA.o.2];refine⟨?_,rfl⟩;unfold frV;rw[φ h0,χ]
 ·have E:v.ldE a=11:=by unfold Vm.ldE;rw[ξ X]
  have HE:=ι E;rcases(by omega:a<0\/(0<=a/\(v.n:Int)<=a))with h|h
  ·have d0:decide (a<0)=true:=θ h;clear hr hp hg hV X E h;go_enter func255,ntmps255;go_wp2_with(go_at_call 124;refine(E8 HV).mono ?_;rintro e w1 ⟨rfl,rfl⟩)
   go_ret3
   exact⟨Gr.refl w,_,_,TQ rfl rfl (BN HE.o.symm),λh0=>by rw[HE.o]at h0;exact absurd h0 (by decide)⟩
  ·have d0:decide (a<0)=false:=ζ Ω;have d1:decide ((v.n:Int)<=a)=true:=θ h.2;clear hr hp hg hV X E h;go_enter func255,ntmps255;go_wp2_with(go_at_call 124;refine(E8 HV).mono ?_;rintro e w1 ⟨rfl,rfl⟩)
   go_ret3
   exact⟨Gr.refl w,_,_,TQ rfl rfl (BN HE.o.symm),λh0=>by rw[HE.o]at h0;exact absurd h0 (by decide)⟩
theorem ViR(hok:AF v){x y:Int}(h0:v.ldE a=0)(hx:x=(v.pt.getD (a/v.pl.pg).toNat 0:Nat)-1)(hy:y=a%v.pl.pg):C3 v.pl x y=0/\x.toNat*v.pl.pg+y.toNat=v.at a:=by
 obtain⟨j,rfl,hj,X⟩:=AF.hit h0;obtain⟨h1,h2⟩:=hok.split hj;have hf:=hok.fr _ h1 X;have e1:((j:Int)/(v.pl.pg:Int)).toNat=j/v.pl.pg:=by grind
 have e2:(j:Int)%(v.pl.pg:Int)=((j%v.pl.pg:Nat):Int):=(ξR ..).symm;rw[e1]at hx;rw[e2]at hy;have hx1:0<=x:=Ω
 have hx2:x.toNat=v.pt.getD (j/v.pl.pg) 0-1:=Ω
 have hc:DX v.pl x=0:=by unfold DX;grind
 refine⟨?_,?_⟩
 ·unfold C3;omega
 ·unfold Vm.at
  grind
theorem JV(hV:AD w S q v)(a:Int):Calls prog 216 #[pP q,iI a] w λe w'=>e=.returned (.tuple #[uU (v.ldV a:Nat),iI (v.ldE a)])/\Gr w w':=by
 have HV:=hV;obtain⟨S1,S2,b1,b2,hr,hp,hg,-⟩:=hV.row;have U:=hr.lt;have c0:=hr.cc 0;have HP:=hp;by_cases h0:v.ldE a=0
 ·have HE:=h0
  have HW:Hid (∀x y:Int,x=(v.pt.getD (a/v.pl.pg).toNat 0:Nat)-1->y=a%v.pl.pg->C3 v.pl x y=0/\KU v.pl x y=v.ldV a):=⟨λx y hx hy=>by
   obtain⟨h1,h2⟩:=ViR hV.ok h0 hx hy;refine⟨h1,?_⟩;unfold KU Vm.ldV
   rw[φ h1,φ h0,h2]⟩
  go_enter func216,ntmps216
  go_wp2_with(first
   | (go_at_call 255;refine(TA HV a).mono ?_;rintro e w1 ⟨X,x,y,rfl,Z⟩;have J:=ι (HW.o x y (Z HE).1 (Z HE).2);rw[HE];have k0:=(X.cell U 0).trans c0;have Y:=X;clear X Z)
   | (go_at_call 256;refine(Xn2 (HP.gr Y) x y).mono ?_;rintro e w2 ⟨rfl,rfl⟩))
  go_ret2;exact⟨BP (congrArg (λn:Nat=>uU (n:Int)) J.o.2) (BN (by rw[J.o.1,HE])),Y⟩
 ·have V:Hid (v.ldV a=0):=⟨by unfold Vm.ldV;rw[ξ h0]⟩;obtain⟨x,hx⟩:∃x,x=v.ldE a:=⟨_,rfl⟩;have HX:=ι hx;have d0:(x==0)=false:=by rw[hx];simpa using h0
  clear hr hp hg hV h0 hx;go_enter func216,ntmps216;go_wp2_with(go_at_call 255;refine(TA HV a).mono ?_;rintro e w1 ⟨X,x1,y1,rfl,-⟩;rw[<-HX.o];have Y:=X);go_ret2;exact⟨BP (by rw[V.o];rfl) (BN (by rw[HX.o])),Y⟩
def Zfu(w:World)(S:Nat->Prop)(q:Nat)(v:Vm)(a:Int)(x:Nat)(w':World):Prop:=AB S w w'/\AD w' S q (v.st a x)
theorem AF.st(h:AF v)(a:Int)(hx:x<18446744073709551616):AF (v.st a x):=by
 unfold Vm.st
 split
 ·exact⟨QTa h.pl _ _ hx,h.pt,h.n2,h.np,h.fr,h.inj,h.us⟩
 ·exact h
theorem MF(hV:AD w S q v)(a:Int)(hx:x<18446744073709551616):Calls prog 217 #[pP q,iI a,uU x] w λe w'=>e=.returned (iI (v.ldE a))/\Zfu w S q v a x w':=by
 have HV:=hV;obtain⟨S1,S2,b1,b2,hr,hp,hg,s1,s2,s3,s4,s5⟩:=hV.row;have M:=hr.lt;have c0:=hr.cc 0;have HP:=hp;have I:=(hV.ok.st a hx);have hX:=hx;by_cases h0:v.ldE a=0
 ·have HE:=h0;have HS:Hid (v.st a x={v with pl:={v.pl with wd:=v.pl.wd.set (v.at a) x}}):=⟨by unfold Vm.st;rw[φ h0]⟩
  have HW:Hid (∀y z:Int,y=(v.pt.getD (a/v.pl.pg).toNat 0:Nat)-1->z=a%v.pl.pg->C3 v.pl y z=0/\LC v.pl y z x={v.pl with wd:=v.pl.wd.set (v.at a) x}):=⟨λy z hy hz=>by
   obtain⟨h1,h2⟩:=ViR hV.ok h0 hy hz;refine⟨h1,?_⟩;unfold LC
   rw[φ h1,h2]⟩
  have HK:Hid (∀(w1:World),Gr w w1->∀w2,AB S1 w1 w2->CI w2 S1 b1 {v.pl with wd:=v.pl.wd.set (v.at a) x}->Zfu w S q v a x w2):=⟨λw1 g1 w2 t2 p2=>by
   have T:AB S1 w w2:=(g1.touch S1).trans t2;refine⟨T.mono (λk _ hk=>s1 k hk),I,hV.sq,S1,S2,b1,b2,?_,?_,?_,s1,s2,s3,s4,s5⟩
   ·rw[HS.o];exact hr.touch T s4
   ·rw[HS.o];exact p2
   ·rw[HS.o];exact hg.touch T (λk hk _ hk2=>s3 k hk2 hk)⟩
  go_enter func217,ntmps217
  go_wp2_with(first
   | (go_at_call 255;refine(TA HV a).mono ?_;rintro e w1 ⟨X,y,z,rfl,Z⟩;have J:=ι (HW.o y z (Z HE).1 (Z HE).2);rw[HE];have k0:=(X.cell M 0).trans c0;have Y:=X;clear X Z)
   | (go_at_call 257;refine(YBJ (HP.gr Y) y z x hX).mono ?_;rintro e w2 ⟨rfl,N,V⟩;have U:=N;have E:=V))
  go_ret;refine⟨AS (by rw[J.o.1,HE]),HK.o _ Y _ U ?_⟩;rw[<-J.o.2];exact E
 ·have HS:Hid (v.st a x=v):=⟨by unfold Vm.st;rw[ξ h0]⟩;obtain⟨y,hy⟩:∃y,y=v.ldE a:=⟨_,rfl⟩;have HX:=ι hy;have d0:(y==0)=false:=by rw[hy];simpa using h0
  clear hr hp hg hV h0 hx hy;go_enter func217,ntmps217;go_wp2_with(go_at_call 255;refine(TA HV a).mono ?_;rintro e w1 ⟨X,x1,y1,rfl,-⟩;rw[<-HX.o];have Y:=X);go_ret;exact⟨AS (by rw[HX.o]),Y.touch S,by rw[HS.o];exact HV.gr Y⟩
end
def Vm.mpE(v:Vm)(p:Int):Int:=if pgE v.pt p≠0 then 11 else if v.pt.getD p.toNat 0≠0 then 13 else if v.pl.used=v.pl.rm then 14 else 0
def Vm.mp(v:Vm)(p:Int):Vm:=if v.mpE p=0 then {v with pl:=v.pl.take,pt:=v.pt.set p.toNat (v.pl.next+1)}else v
def Vm.um(v:Vm)(p:Int):Vm:=if frE v.pt p=0 then {v with pl:=v.pl.give (v.pt.getD p.toNat 0-1),pt:=v.pt.set p.toNat 0}else v
theorem YMb{p:Pl}(h:at_ p.tk f=true):at_ p.fresh.tk f=true:=by
 unfold Pl.fresh
 split
 ·have:=FV h;unfold at_ at h⊢
  grind
 ·exact h
theorem Xiq(l:List Bool)(hi:i<l.length)(x:Bool)(j:Nat):at_ (l.set i x) j=if i=j then x else at_ l j:=by
 unfold at_
 grind
theorem QGm{p:Pl}(h:FB p)(f:Nat):at_ p.take.tk f=if p.next=f then true else at_ p.fresh.tk f:=Xiq _ (J4 h).1 _ _
theorem WL{p:Pl}(h:FB p)(hf:at_ p.tk f=true):f≠p.next:=by
 rintro rfl;have h1:=(J4 h).2.2
 grind [YMb]
theorem AF.frame{v:Vm}(h:AF v)(hp:v.pt.getD p 0≠0):at_ v.pl.tk (v.pt.getD p 0-1)=true:=by
 by_cases hl:p<v.pt.length
 ·exact h.fr p hl hp
 simp_all
theorem AF.mp{v:Vm}(h:AF v)(p:Int):AF (v.mp p):=by
 unfold Vm.mp
 split
 ·rename_i h0;unfold Vm.mpE at h0;by_cases h1:pgE v.pt p≠0
  ·rw[φ h1]at h0;cases h0
  ·rw[ξ h1]at h0;by_cases h2:v.pt.getD p.toNat 0≠0
   ·rw[φ h2]at h0;cases h0
   ·rw[ξ h2]at h0;have J:v.pt.getD p.toNat 0=0:=ξD.1 h2;by_cases h3:v.pl.used=v.pl.rm
    ·rw[φ h3]at h0;cases h0
    ·obtain⟨j,rfl,hj⟩:=QE (ξD.1 h1);rw[χ]at J⊢;have hn:=J4 h.pl;have hle:=OJ h.pl;have Y:=SX h.pl Ω;have hlen:v.pl.fresh.tk.length=v.pl.take.tk.length:=by exact List.length_set.symm
     have hn2:v.pl.next<4096:=by have:=Y.le;have:=Y.rm;omega
     refine⟨Y,h.pt.set j Ω,h.n2,?_,λi hi X=>?_,λi i' hi Z X he=>?_,?_⟩
     ·rw[ζb];have:v.pl.take.pg=v.pl.pg:=(M9 v.pl).1;rw[this];exact h.np
     ·rw[EP hj,QGm h.pl];by_cases e:j=i
      ·rw[φ e,φ Ω]
      ·rw[ξ e]
       split
       ·rfl
       ·refine YMb (h.frame ?_);have:(v.pt.set j (v.pl.next+1)).getD i 0≠0:=X;rw[EP hj,ξ e]at this;exact this
     ·have X:(v.pt.set j (v.pl.next+1)).getD i 0≠0:=X;have he:(v.pt.set j (v.pl.next+1)).getD i 0=(v.pt.set j (v.pl.next+1)).getD i' 0:=he;have hi:i<v.pt.length:=by have:i<(v.pt.set j (v.pl.next+1)).length:=hi;rwa [ζb]at this
      have Z:i' < v.pt.length:=by have:i' < (v.pt.set j (v.pl.next+1)).length:=Z;rwa [ζb]at this
      rw[EP hj]at X he;rw[EP hj]at he;by_cases e:j=i <;> by_cases e':j=i'
      ·rw[<-e,e']
      ·rw[φ e,ξ e']at he;have:=WL h.pl (h.frame (p:=i') Ω);omega
      ·rw[ξ e,φ e']at he;have:=WL h.pl (h.frame (p:=i) Ω);omega
      ·rw[ξ e]at X he;rw[ξ e']at he;exact h.inj i i' hi Z X he
     ·rw[VZ h.pl,PP hj J Ω,h.us]
 ·exact h
theorem AF.um{v:Vm}(h:AF v)(p:Int):AF (v.um p):=by
 unfold Vm.um
 split
 ·rename_i h0;obtain⟨j,rfl,hj,X⟩:=NF h0;rw[χ];have hf:=h.fr j hj X;refine⟨Z2 h.pl hf,h.pt.set j Ω,h.n2,?_,λi hi hn=>?_,λi i' hi Y hn he=>?_,?_⟩
  ·rw[ζb];exact h.np
  ·have hi:i<v.pt.length:=by simp_all
   have hn:(v.pt.set j 0).getD i 0≠0:=hn
   show at_ (v.pl.tk.set _ false) ((v.pt.set j 0).getD i 0-1)=true
   rw[EP hj]at hn⊢;by_cases e:j=i
   ·simp_all
   ·rw[ξ e]at hn⊢;rw[Xiq _ (FV hf),ξ,h.fr i hi hn];intro e2;exact e (h.inj j i hj hi X Ω)
  ·have hi:i<v.pt.length:=by simp_all
   have Y:i' < v.pt.length:=by simp_all
   have hn:(v.pt.set j 0).getD i 0≠0:=hn;have he:(v.pt.set j 0).getD i 0=(v.pt.set j 0).getD i' 0:=he;rw[EP hj]at hn he;rw[EP hj]at he;by_cases e:j=i
   ·simp_all
   ·rw[ξ e]at hn he;by_cases e':j=i'
    ·simp_all
    ·rw[ξ e']at he;exact h.inj i i' hi Y hn he
  ·show (v.pl.give _).used=nz (v.pt.set j 0)
   have h1:=OV (p:=v.pl) hf;have h2:=V6 hj X;have:=h.us;omega
 ·exact h
theorem AF.place_lt{v:Vm}(h:AF v)(h0:v.ldE a=0):v.at a<v.pl.wd.length:=by
 obtain⟨j,rfl,hj,X⟩:=AF.hit h0;obtain⟨h1,h2⟩:=h.split hj;have hf:=FV (h.fr _ h1 X);unfold Vm.at;rw[<-ξe,χ,<-ξR,χ,h.pl.wl];have:(v.pt.getD (j/v.pl.pg) 0-1+1)*v.pl.pg<=v.pl.tk.length*v.pl.pg:=ζm _ hf
 grind
theorem XfE{g o f' o':Nat}(h1:o<g)(h2:o' < g)(h:f*g+o=f' * g+o'):f=f'/\o=o':=by
 have e1:(f*g+o)/g=f:=by rw[ζ3,Nat.mul_add_div Ω,ψr h1,ξk]
 have e2:(f' * g+o')/g=f':=by rw[ζ3,Nat.mul_add_div Ω,ψr h2,ξk]
 simp_all
theorem AF.at_inj{v:Vm}(h:AF v){b:Int}(ha:v.ldE a=0)(hb:v.ldE b=0)(he:v.at a=v.at b):a=b:=by
 obtain⟨j,rfl,hj,X⟩:=AF.hit ha;obtain⟨i,rfl,hi,hne'⟩:=AF.hit hb;obtain⟨h1,h2⟩:=h.split hj;obtain⟨h3,h4⟩:=h.split hi;unfold Vm.at at he;rw[<-ξe,χ,<-ξR,χ,<-ξe,χ,<-ξR,χ]at he;obtain⟨e1,e2⟩:=XfE h2 h4 he;have e3:=h.inj _ _ h1 h3 X Ω
 grind [ζx]
theorem F2(v:Vm)(a:Int)(x:Nat)(b:Int):(v.st a x).ldE b=v.ldE b:=by unfold Vm.st;split <;> rfl
theorem AF.st_ldV{v:Vm}(h:AF v)(x:Nat)(ha:v.ldE a=0)(b:Int):(v.st a x).ldV b=if a=b then x else v.ldV b:=by
 have e1:v.st a x={v with pl:={v.pl with wd:=v.pl.wd.set (v.at a) x}}:=φ ha;have e2:(v.st a x).at b=v.at b:=by rw[e1];rfl
 have e3:(v.st a x).pl.wd=v.pl.wd.set (v.at a) x:=by rw[e1]
 unfold Vm.ldV;rw[F2,e2,e3];by_cases hb:v.ldE b=0
 ·rw[φ hb,φ hb,EP (h.place_lt ha)];by_cases e:a=b
  ·simp_all
  ·rw[ξ e,ξ (λhe=>e (h.at_inj ha hb he))]
 grind
theorem UT{v:Vm}{p:Int}(h:v.mpE p≠0):v.mp p=v:=ξ h
theorem Q1{v:Vm}{p:Int}(h:frE v.pt p≠0):v.um p=v:=ξ h
theorem QI{v:Vm}{p:Int}(h:v.mpE p=0):∃j:Nat,p=j/\j<v.pt.length/\v.pt.getD j 0=0/\v.pl.used≠v.pl.rm:=by
 unfold Vm.mpE at h
 grind [QE]
theorem MK{pt:List Nat}(h:p<pt.length):frE pt p=if pt.getD p 0=0 then 12 else 0:=by
 unfold frE pgE
 simp_all
theorem AF.ldE_of{v:Vm}(h:AF v){a:Nat}(ha:a<v.n):v.ldE a=if v.pt.getD (a/v.pl.pg) 0=0 then 12 else 0:=by
 unfold Vm.ldE;rw[φ ⟨by omega,by omega⟩,<-ξe,MK (h.split ha).1]
theorem AF.mp_ldE{v:Vm}(h:AF v)(hp:v.mpE p=0){a:Nat}(ha:a<v.n):(v.mp p).ldE a=if a/v.pl.pg=p then 0 else v.ldE a:=by
 have e1:v.mp p={v with pl:=v.pl.take,pt:=v.pt.set p (v.pl.next+1)}:=by unfold Vm.mp;simp_all
 obtain⟨j,hj,X,-,-⟩:=QI hp;obtain rfl:p=j:=Ω
 have h1:=(h.mp p).ldE_of (a:=a) (by simp_all);have e2:(v.mp p).pl.pg=v.pl.pg:=by rw[e1];exact(M9 v.pl).1
 have e3:(v.mp p).pt=v.pt.set p (v.pl.next+1):=by rw[e1]
 rw[h1,e2,e3,EP X,h.ldE_of ha]
 grind
theorem AF.mp_ldV{v:Vm}(h:AF v)(hp:v.mpE p=0){a:Nat}(ha:a<v.n):(v.mp p).ldV a=if a/v.pl.pg=p then 0 else v.ldV a:=by
 have e1:v.mp p={v with pl:=v.pl.take,pt:=v.pt.set p (v.pl.next+1)}:=by unfold Vm.mp;rw[φ hp,χ]
 obtain⟨j,hj,J,-,-⟩:=QI hp;obtain rfl:p=j:=Ω
 have hE:=h.mp_ldE hp ha;obtain⟨n1,n2,n3⟩:=J4 h.pl;have hf:v.pl.next*v.pl.pg+v.pl.pg<=v.pl.fresh.wd.length:=by rw[n2,<-ξp];exact ζm _ n1
 have e2:(v.mp p).pl.pg=v.pl.pg:=by rw[e1];exact(M9 v.pl).1
 have e3:(v.mp p).pt=v.pt.set p (v.pl.next+1):=by rw[e1]
 have e4:(v.mp p).pl.wd=GJ v.pl.fresh.wd (v.pl.next*v.pl.pg) v.pl.pg:=by rw[e1];rfl
 obtain⟨s1,s2⟩:=h.split ha
 have e5:(v.mp p).at a=((v.pt.set p (v.pl.next+1)).getD (a/v.pl.pg) 0-1)*v.pl.pg+a%v.pl.pg:=by
  unfold Vm.at;rw[e2,e3,<-ξe,χ,<-ξR,χ]
 unfold Vm.ldV;rw[hE,e4,e5,EP J];by_cases e:a/v.pl.pg=p
 ·rw[φ e,φ e,φ rfl,φ e.symm,YMA hf,φ ⟨by simp,by rw[Nat.add_sub_cancel];omega⟩]
 ·have en:¬p=a/v.pl.pg:=λh=>e h.symm;rw[ξ e,ξ e,ξ en];by_cases h0:v.ldE a=0
  ·rw[φ h0,φ h0];obtain⟨j',hj',hj2,Z⟩:=AF.hit h0;obtain rfl:a=j':=Ω
   have Y:=h.fr _ s1 Z;have hnx:=WL h.pl Y
   have U:v.at a=(v.pt.getD (a/v.pl.pg) 0-1)*v.pl.pg+a%v.pl.pg:=by
    unfold Vm.at;rw[<-ξe,χ,<-ξR,χ]
   have X:=h.place_lt h0;rw[U]at X⊢;rw[YMA hf,ξ]
   ·unfold Pl.fresh
    split
    ·generalize (v.pt.getD (a/v.pl.pg) 0-1)*v.pl.pg+a%v.pl.pg=i at X;simp only[ω];rw[ζW X]
    ·rfl
   ·rintro⟨c1,c2⟩;generalize v.pt.getD (a/v.pl.pg) 0-1=f at *
    rcases υ f v.pl.next with hl|hl
    ·have:(f+1)*v.pl.pg<=v.pl.next*v.pl.pg:=ζm _ hl
     rw[ξp]at this;omega
    ·have:(v.pl.next+1)*v.pl.pg<=f*v.pl.pg:=ζm _ Ω;rw[ξp]at this;omega
  ·rw[ξ h0,ξ h0]
theorem AF.um_ldE{v:Vm}(h:AF v)(hp:frE v.pt p=0){a:Nat}(ha:a<v.n):(v.um p).ldE a=if a/v.pl.pg=p then 12 else v.ldE a:=by
 have e1:v.um p={v with pl:=v.pl.give (v.pt.getD p 0-1),pt:=v.pt.set p 0}:=by unfold Vm.um;simp_all
 obtain⟨j,hj,X,-⟩:=NF hp;obtain rfl:p=j:=Ω
 have h1:=(h.um p).ldE_of (a:=a) (by simp_all);have e2:(v.um p).pl.pg=v.pl.pg:=by rw[e1];rfl
 have e3:(v.um p).pt=v.pt.set p 0:=by rw[e1]
 rw[h1,e2,e3,EP X,h.ldE_of ha]
 grind
theorem AF.um_ldV{v:Vm}(h:AF v)(hp:frE v.pt p=0){a:Nat}(ha:a<v.n)(hne:a/v.pl.pg≠p):(v.um p).ldV a=v.ldV a:=by
 have e1:v.um p={v with pl:=v.pl.give (v.pt.getD p 0-1),pt:=v.pt.set p 0}:=by unfold Vm.um;simp_all
 obtain⟨j,hj,X,-⟩:=NF hp;obtain rfl:p=j:=Ω
 have hE:=h.um_ldE hp ha;rw[ξ hne]at hE
 have e5:(v.um p).at a=v.at a:=by
  rw[e1]
  show ((v.pt.set p 0).getD ((a:Int)/(v.pl.pg:Int)).toNat 0-1)*v.pl.pg+_=_
  rw[<-ξe,χ,EP X,ξ (show ¬p=a/v.pl.pg from λh=>hne h.symm)];rfl
 unfold Vm.ldV;rw[hE,e5,e1];rfl
def W8(w:World)(S:Nat->Prop)(q:Nat)(v:Vm)(w':World):Prop:=AB S w w'/\AD w' (plus S w) q v
section
variable{v:Vm}
theorem ZXj(v:Vm)(p:Int):(frE v.pt p=11/\v.mpE p=11)\/(frE v.pt p=0/\v.mpE p=13)\/(frE v.pt p=12/\v.pl.used=v.pl.rm/\v.mpE p=14)\/(frE v.pt p=12/\v.pl.used≠v.pl.rm/\v.mpE p=0):=by
 have e1:frE v.pt p=if pgE v.pt p=0 then (if v.pt.getD p.toNat 0=0 then 12 else 0)else 11:=rfl
 have e2:v.mpE p=if pgE v.pt p≠0 then 11 else if v.pt.getD p.toNat 0≠0 then 13 else if v.pl.used=v.pl.rm then 14 else 0:=rfl
 rw[e1,e2];by_cases h:pgE v.pt p=0
 ·have h':¬pgE v.pt p≠0:=λh'=>h' h
  grind
 simp_all
theorem XG(hV:AD w S q v)(p:Int):Calls prog 204 #[pP q,iI p] w λe w'=>e=.returned (iI (v.mpE p))/\W8 w S q (v.mp p) w':=by
 have HV:=hV;obtain⟨S1,S2,b1,b2,hr,hp,hg,s1,s2,s3,s4,s5⟩:=hV.row;have U:=hr.lt;have c0:=hr.cc 0;have c1:=hr.cc 1;have HP:=hp;have HG:=hg
 have HN:Hid (v.mpE p≠0->∀w',Gr w w'->W8 w S q (v.mp p) w'):=⟨λh w' g=>by
  rw[UT h]
  exact⟨g.touch S,(hV.gr g).mono (λk hk=>.inl hk)⟩⟩
 have HR:=hr;have HS:=(ψ s1 (ψ s2 (ψ s3 (ψ s4 s5))));rcases ZXj v p with⟨h1,h2⟩|⟨h1,h2⟩|⟨h1,h2,h3⟩|⟨h1,h2,h3⟩
 ·have HE:=(ψ h1 h2);clear hV hr hp hg s1 s2 s3 s4 s5 h1 h2;go_enter func204,ntmps204
  go_wp2_with(first
   | (go_at_call 124;refine(E8 HV).mono ?_;rintro e w1 ⟨rfl,rfl⟩)
   | (go_at_call 243;refine(K0 HG p).mono ?_;rintro e w1 ⟨rfl,Y⟩;rw[HE.1];have X:=Y;clear Y))
  go_ret;exact⟨AS (by rw[HE.2]),HN.o (by rw[HE.2];decide) _ X⟩
 ·have HE:=(ψ h1 h2);clear hV hr hp hg s1 s2 s3 s4 s5 h1 h2;go_enter func204,ntmps204
  go_wp2_with(first
   | (go_at_call 124;refine(E8 HV).mono ?_;rintro e w1 ⟨rfl,rfl⟩)
   | (go_at_call 243;refine(K0 HG p).mono ?_;rintro e w1 ⟨rfl,Y⟩;rw[HE.1];have X:=Y;clear Y))
  go_ret;exact⟨AS (by rw[HE.2]),HN.o (by rw[HE.2];decide) _ X⟩
 ·have HE:=(ψ h1 (ψ h2 h3));clear hV hr hp hg s1 s2 s3 s4 s5 h1 h2 h3;go_enter func204,ntmps204
  go_wp2_with(first
   | (go_at_call 124;refine(E8 HV).mono ?_;rintro e w1 ⟨rfl,rfl⟩)
   | (go_at_call 243;refine(K0 HG p).mono ?_;rintro e w1 ⟨rfl,Y⟩;rw[HE.1];have k0:=(Y.cell U 0).trans c0;have X:=Y;clear Y)
   | (go_at_call 244;refine(ZA (HP.gr X)).mono ?_;rintro e w2 (⟨-,rfl,A⟩|⟨h,-⟩);rotate_left;(exact absurd HE.2.1 Ω);have Xf:=A;clear A))
  go_ret;exact⟨AS (by rw[HE.2.2]),HN.o (by rw[HE.2.2];decide) _ (X.trans Xf)⟩
 ·obtain⟨j,rfl,hj,h0,-⟩:=QI h3;have HE:=(ψ h1 (ψ h2 h3))
  have I:v.pl.next<4096:=by
   have hle:=OJ hV.ok.pl;have D:=SX hV.ok.pl Ω;have hn:=J4 hV.ok.pl;have hlen:v.pl.fresh.tk.length=v.pl.take.tk.length:=by unfold Pl.take;exact List.length_set.symm
   have:=D.le;have:=D.rm;omega
  have HM:=(show v.mp j={v with pl:=v.pl.take,pt:=v.pt.set j (v.pl.next+1)}by unfold Vm.mp;rw[φ h3,χ]);have Xg:=(λ(w1 w2:World) (g1:Gr w w1) (t2:AB S1 w1 w2)=>YTd (((hg.gr g1).cut).touch t2 (λk hk _ hk2=>s3 k hk2 hk.1)) hj h0 I);have Xa:=(hV.ok.mp j);obtain⟨nx,Z⟩:∃nx,nx=v.pl.next:=⟨_,rfl⟩
  have M:=ι Z;rw[<-Z]at I;have Xe:=ι c1;clear hV hr hp hg s1 s2 s3 h1 h2 h3 Z h0;go_enter func204,ntmps204
  go_wp2_with(first
   | (go_at_call 124;refine(E8 HV).mono ?_;rintro e w1 ⟨rfl,rfl⟩)
   | (go_at_call 243;refine(K0 HG j).mono ?_;rintro e w1 ⟨rfl,Y⟩;rw[HE.1];have k0:=(Y.cell U 0).trans c0;have X:=Y;clear Y)
   | (go_at_call 244;refine(ZA (HP.gr X)).mono ?_;rintro e w2 (⟨h,-⟩|⟨-,rfl,V,E⟩);(exact absurd h HE.2.1);rw[<-M.o];have k1:=(V.cell (κ U X.size) s4 1).trans ((X.cell U 1).trans Xe.o);have J:=ι V;have Xb:=ι E;clear V E)
   | (go_at_call 245;have N:=Xg _ _ X J.o;rw[<-M.o]at N;refine N.mono ?_;rintro e w3 ⟨rfl,B⟩;have Xd:=ι B;clear B N))
  go_ret;refine⟨AS (by rw[HE.2.2]),?_⟩;obtain⟨s1,s2,s3,s4,s5⟩:=HS;obtain⟨t3,p3⟩:=Xd.o;have Xc:AB S w w2:=(X.touch S).trans (J.o.mono (λk _ hk=>s1 k hk));have z1:=X.size;have z2:=J.o.size;refine⟨Xc.trans (t3.mono (λk _ hk=>s2 k hk.1)),Xa,.inl HV.sq,AC (plus S1 w1) w2,plus (AC S2 w1) w2,b1,b2,?_,?_,?_,λk hk=>?_,λk hk=>?_,λk hk hk2=>?_,λhk=>?_,λhk=>?_⟩
  ·rw[HM];exact((HR.gr X).touch J.o s4).touch t3 (λh=>s5 h.1)
  ·rw[HM]
   exact Xb.o.cut.touch t3 (λk hk _ hk2=>by
    rcases hk.1 with h|h
    ·exact s3 k h hk2.1
    ·have:=hk2.2;omega)
  ·rw[HM]
   show C4 w3 _ b2 (v.pt.set j (v.pl.next+1))
   rw[<-M.o];exact p3
  ·rcases hk.1 with h|h
   ·exact .inl (s1 k h)
   ·exact .inr Ω
  ·rcases hk with h|h
   ·exact .inl (s2 k h.1)
   ·exact .inr Ω
  ·rcases hk2 with h|h
   ·rcases hk.1 with h'|h'
    ·exact s3 k h' h.1
    ·have:=h.2;omega
   ·have:=hk.2;omega
  ·rcases hk.1 with h|h
   ·exact s4 h
   ·omega
  ·rcases hk with h|h
   ·exact s5 h.1
   ·omega
theorem NN(hV:AD w S q v)(p:Int):Calls prog 155 #[pP q,iI p] w λe w'=>e=.returned (iI (frE v.pt p))/\W8 w S q (v.um p) w':=by
 have HV:=hV;obtain⟨S1,S2,b1,b2,hr,hp,hg,s1,s2,s3,s4,s5⟩:=hV.row;have Xb:=hr.lt;have c0:=hr.cc 0;have c1:=hr.cc 1;have HP:=hp;have HG:=hg;have HR:=hr;have HS:=(ψ s1 (ψ s2 (ψ s3 (ψ s4 s5))));by_cases h0:frE v.pt p=0
 ·have HE:=h0;obtain⟨j,rfl,hj,I⟩:=NF h0;have hf:=hV.ok.fr j hj I;obtain⟨f,X⟩:∃f,f=v.pt.getD j 0-1:=⟨_,rfl⟩;have HF:=ι X;have Xa:=(show frV v.pt j=(f:Int)by unfold frV;rw[φ h0,χ,X];omega);rw[<-X]at hf;have HM:=(show v.um j={v with pl:=v.pl.give f,pt:=v.pt.set j 0}by unfold Vm.um;rw[φ h0,χ,X]);have B:=(λ(w1:World) (t1:AB S2 w w1)=>XDh (p:=v.pl) (f:=f) ((hp.cut).touch t1 (λk hk _ hk2=>s3 k hk.1 hk2)) hf);have N:=(hV.ok.um j);clear hV hr hp hg s1 s2 s3 s4 h0 I hf X;have A:=c0;go_enter func155,ntmps155
  go_wp2_with(first
   | (go_at_call 124;refine(E8 HV).mono ?_;rintro e w1 ⟨rfl,rfl⟩)
   | (go_at_call 206;refine(Yzj HG j).mono ?_;rintro e w1 ⟨rfl,(⟨h,-⟩|⟨-,Z,Y⟩)⟩;(exact absurd HE h);rw[HE,Xa];have k0:=(Z.cell Xb s5 0).trans A;have J:=Z;have Xc:=Y;clear Z Y)
   | (go_at_call 207;refine(B _ J).mono ?_;rintro e w2 ⟨rfl,E,V⟩;have U:=E;have Xd:=V;clear E V))
  go_ret;refine⟨AS (by rw[HE]),?_⟩;obtain⟨s1,s2,s3,s4,s5⟩:=HS;have t1:=J;have t2:=U;have z1:=J.size;have z2:=U.size;refine⟨(t1.mono (λk _ hk=>s2 k hk)).trans (t2.mono (λk _ hk=>s1 k hk.1)),N,.inl HV.sq,plus (AC S1 w) w1,AC (plus S2 w) w1,b1,b2,?_,?_,?_,λk hk=>?_,λk hk=>?_,λk hk hk2=>?_,λhk=>?_,λhk=>?_⟩
  ·rw[HM];exact(HR.touch t1 s5).touch t2 (λh=>s4 h.1)
  ·rw[HM];exact Xd
  ·rw[HM];have Y:=Xc;rw[χ]at Y
   exact Y.cut.touch t2 (λk hk _ hk2=>by
    rcases hk.1 with h|h
    ·exact s3 k hk2.1 h
    ·have:=hk2.2;omega)
  ·rcases hk with h|h
   ·exact .inl (s1 k h.1)
   ·exact .inr Ω
  ·rcases hk.1 with h|h
   ·exact .inl (s2 k h)
   ·exact .inr Ω
  ·rcases hk with h|h
   ·rcases hk2.1 with h'|h'
    ·exact s3 k h.1 h'
    ·have:=h.2;omega
   ·have:=hk2.2;omega
  ·rcases hk with h|h
   ·exact s4 h.1
   ·omega
  ·rcases hk.1 with h|h
   ·exact s5 h
   ·omega
 ·obtain⟨y,hy⟩:∃y,y=frE v.pt p:=⟨_,rfl⟩;have HX:=ι hy;have d0:(y==0)=false:=by rw[hy];simpa using h0
  have HM:=(Q1 h0);have Xe:=ι h0;clear hV hr hp hg h0 hy s1 s2 s3 s4 s5;go_enter func155,ntmps155
  go_wp2_with(first
   | (go_at_call 124;refine(E8 HV).mono ?_;rintro e w1 ⟨rfl,rfl⟩)
   | (go_at_call 206;refine(Yzj HG p).mono ?_;rintro e w1 ⟨rfl,(⟨-,M⟩|⟨h,-⟩)⟩;rotate_left;(exact absurd h Xe.o);rw[<-HX.o];have D:=ι M;clear M))
  go_ret;refine⟨AS (by rw[HX.o]),D.o.touch S,?_⟩;rw[HM];exact(HV.gr D.o).mono (λk hk=>.inl hk)
def Vm.new(n pg rm:Nat):Vm:=⟨n,Pl.none pg rm,List.replicate (n/pg) 0⟩
theorem AF.new(h1:E5 rm=true)(h2:EH pg=true)(h3:1<=n)(h4:n<=524288)(h5:n%pg=0):AF (Vm.new n pg rm):=by
 have hd:n/pg*pg=n:=by grind [ζx,ζ3]
 have h7:1<=n/pg:=by
  grind
 refine⟨Xgr h1 h2,JE.new h7 (by have:=ζ8 n pg;omega),h4,?_,λp hp hne=>?_,λp p' hp hp' hne=>?_,?_⟩
 ·show n=(List.replicate (n/pg) 0).length*pg
  simp_all
 ·exact absurd (N9 _ _) hne
 ·exact absurd (N9 _ _) hne
 ·show Pl.used (Pl.none pg rm)=nz (List.replicate (n/pg) 0)
  rw[SK];rfl
theorem ZEa(h1:E5 rm=true)(h2:EH pg=true)(h3:1<=n)(h4:n<=524288)(h5:n%pg=0)(h6:1<=pg)(h7:pg<=256)(w:World):Calls prog 41 #[iI n,iI pg,iI rm] w λe w'=>
  ∃q,e=.returned (.tuple #[pP q,iI 0])/\Gr w w'/\AD w' (λk=>w.heap.size<=k) q (Vm.new n pg rm):=by
 have I:=(AF.new h1 h2 h3 h4 h5);have B:=(λw=>XXu rm pg Ω w);have HB:=(show (E5 rm&&EH pg)=true by rw[h1,h2];rfl);have hd:n/pg*pg=n:=by have:=ζx n pg;rw[h5,ζ3]at this;omega
 have h8:1<=n/pg:=by
  rcases ζJ (n/pg)with h|h
  ·rw[h]at hd;omega
  ·exact h
 have h9:n/pg<=524288:=by have:=ζ8 n pg;omega
 obtain⟨m,hm⟩:∃m,m=n/pg:=⟨_,rfl⟩;have q1:((n:Int).tdiv (pg:Int))=(m:Int):=by rw[hm];rfl
 have q2:((n:Int)/(pg:Int))=(m:Int):=by rw[hm];rfl
 have q3:((n:Int).tmod (pg:Int))=0:=by rw[show ((n:Int).tmod (pg:Int))=((n%pg:Nat):Int)from rfl,h5];rfl
 have q4:((n:Int)%(pg:Int))=0:=by rw[show ((n:Int)%(pg:Int))=((n%pg:Nat):Int)from rfl,h5];rfl
 rw[<-hm]at h8 h9;have HM:=ι hm;have D:=ι (λw=>J3k (w:=w) h8 h9);have hBp:(pg:Int)≠0:=Ω
 clear h1 h2 h5 hd hm;go_enter func41,ntmps41
 go_wp2_with(first
  | (go_at_call 109;refine(B _).mono ?_;rintro e w1 (⟨h,-⟩|⟨-,rfl,V,M⟩);(exact absurd (HB.symm.trans h) (by decide));have N:=ι V;have J:=ι M;clear V M)
  | (go_at_call 110;refine(D.o _).mono ?_;rintro e w2 ⟨q2,rfl,Z,U⟩;have X:=(Rec.new w1 182 [pP w.heap.size,.pointer none,iI n]).gr Z;have kf:=X.free 1;have k1:=X.cc 1;have E:=ι X;have Y:=ι Z;have A:=ι U;clear Z U X))
 go_ret2;have z1:=N.o.size;have z2:=Y.o.size
 have hq:w.heap.size<w1.heap.size:=J.o.row.elim λ_ h=>by
  obtain⟨_,_,_,_,hr,-⟩:=h;exact hr.lt
 have hG:=AB.setCell (AB.refl (λk=>k=w1.heap.size) w2) (a:=⟨w1.heap.size,1,none⟩) (λ_=>rfl) (pP q2);simp only[γ]at z2;refine⟨_,BP rfl rfl,?_,I,z1,AC (λb=>w.heap.size<=b) w1,λk=>w1.heap.size+1<=k,w.heap.size,q2,Rec.set E.o 1 _,?_,?_,λk hk=>hk.1,λk hk=>by omega,λk hk hk2=>by have:=hk.2;omega,λh=>by have:=h.2;omega,λh=>by omega⟩
 ·exact AB.gr ((((N.o.alloc _).trans Y.o).touch (λk=>w.heap.size<=k)).trans (hG.mono (λk _ hk=>by omega)) |>.mono (λk hk h=>by omega))
 ·have:=(J.o.cut.gr (((Gr.refl w1).alloc _).trans Y.o)).touch hG (λk hk _ he=>by have:=hk.2;omega);rw[χ,χ]at this;exact this
 ·have:=A.o.touch hG (λk hk _ he=>by simp only[γ]at hk;omega);rw[HM.o]at this;exact this.mono (λk hk=>by simpa using hk)
end
structure BW(v v':Vm)(F:List Nat):Prop where
 ok:AF v'
 n:v'.n=v.n
 pg:v'.pl.pg=v.pl.pg
 rm:v'.pl.rm=v.pl.rm
 us:v'.pl.used=v.pl.used+F.length
 nd:F.Nodup
 un:∀p∈F,p<v.pt.length/\v.pt.getD p 0=0
 ma:∀p,p<v.pt.length->(v'.pt.getD p 0≠0↔(v.pt.getD p 0≠0\/p∈F))
 vl:∀a:Nat,a<v.n->v'.ldV a=if a/v.pl.pg∈F then 0 else v.ldV a
theorem AF.len{v:Vm}(h:AF v):v.pt.length=v.n/v.pl.pg:=by
 rw[h.np,ξH _ h.page.1]
theorem BW.len{v:Vm}(h:BW v v' F)(hv:AF v):v'.pt.length=v.pt.length:=by
 rw[h.ok.len,hv.len,h.n,h.pg]
theorem BW.ldE{v:Vm}(h:BW v v' F)(hv:AF v){a:Nat}(ha:a<v.n):v'.ldE a=if a/v.pl.pg∈F then 0 else v.ldE a:=by
 have h1:=h.ma _ (hv.split ha).1;rw[h.ok.ldE_of (by rw[h.n];exact ha),hv.ldE_of ha,h.pg]
 grind
theorem BW.refl{v:Vm}(h:AF v):BW v v []:=
 ⟨h,rfl,rfl,rfl,rfl,ξi,λp hp=>(by cases hp),λp _=>by simp,λa _=>by simp⟩
theorem BW.mp{v:Vm}(h:BW v v' F)(hv:AF v)(hp:v'.mpE p=0):BW v (v'.mp p) (F++[p]):=by
 have e1:v'.mp p={v' with pl:=v'.pl.take,pt:=v'.pt.set p (v'.pl.next+1)}:=by unfold Vm.mp;simp_all
 obtain⟨j,hj,X,h0,hr⟩:=QI hp;obtain rfl:p=j:=Ω
 have hl:=h.len hv;have h1:=h.ma p Ω;have hpF:p∉F:=λhf=>h1.2 (.inr hf) h0;have hp0:v.pt.getD p 0=0:=ξD.1 (λhn=>h1.2 (.inl hn) h0);refine⟨h.ok.mp p,?_,?_,?_,?_,?_,λi hi=>?_,λi hi=>?_,λa ha=>?_⟩
 ·rw[e1];exact h.n
 ·rw[e1];exact(M9 v'.pl).1.trans h.pg
 ·rw[e1];exact(M9 v'.pl).2.1.trans h.rm
 ·rw[e1,ζr];rw[VZ h.ok.pl,h.us];rfl
 ·rw[ζE];exact⟨h.nd,by simp,λa ha b hb=>by grind⟩
 ·rcases ζe.1 hi with h'|h'
  ·exact h.un i h'
  simp_all
 ·rw[e1];rw[EP X,ζe];by_cases e:p=i
  ·subst e;simp
  ·rw[ξ e,h.ma i hi]
   grind
 ·have:=h.ok.mp_ldV hp (a:=a) (by rw[h.n];exact ha);rw[this,h.pg,h.vl a ha]
  grind
theorem BW.um{v:Vm}(h:BW v v' (F++[p]))(hv:AF v):frE v'.pt p=0/\BW v (v'.um p) F:=by
 obtain⟨V,Y⟩:=h.un p (by simp);have hl:=h.len hv;have h1:=(h.ma p V).2 (.inr (by simp));have X:frE v'.pt p=0:=by rw[MK Ω,ξ h1]
 have e1:v'.um p={v' with pl:=v'.pl.give (v'.pt.getD p 0-1),pt:=v'.pt.set p 0}:=by unfold Vm.um;rw[φ X,χ]
 have J:=ζE.1 h.nd;have Z:p∉F:=λhf=>J.2.2 p hf p (by simp) rfl;refine⟨X,h.ok.um p,?_,?_,?_,?_,J.1,λi hi=>h.un i (by simp[hi]),λi hi=>?_,λa ha=>?_⟩
 ·rw[e1];exact h.n
 ·rw[e1];exact h.pg
 ·rw[e1];exact h.rm
 ·rw[e1]
  show (v'.pl.give _).used=_
  have h2:=OV (p:=v'.pl) (h.ok.frame h1);have h3:=h.us;rw[ζr,ξm]at h3;omega
 ·rw[e1];rw[EP Ω];by_cases e:p=i
  ·subst e;rw[φ rfl];exact⟨λh=>absurd rfl h,λh=>h.elim (λh=>absurd Y h) (λh=>absurd h Z)⟩
  ·have:i∉[p]:=by simp;omega
   rw[ξ e,h.ma i hi,ζe];simp[this]
 ·by_cases e:a/v.pl.pg=p
  ·have hE:=h.ok.um_ldE X (a:=a) (by rw[h.n];exact ha);rw[h.pg,φ e]at hE;have U:=hv.ldE_of ha;rw[e,φ Y]at U;rw[e,ξ Z];unfold Vm.ldV;rw[hE,U];rfl
  ·have:=h.ok.um_ldV X (a:=a) (by rw[h.n];exact ha) (by rw[h.pg];exact e);rw[this,h.vl a ha];by_cases hf:a/v.pl.pg∈F
   ·rw[φ hf,φ (ζe.2 (.inl hf))]
   ·rw[ξ hf,ξ];intro hm;rcases ζe.1 hm with h'|h'
    ·exact hf h'
    ·simp at h';exact e h'
section
variable{v:Vm}
def I9(w:World)(S:Nat->Prop)(q:Nat)(v:Vm)(F:List Nat):Prop:=∃v',BW v v' F/\AD w S q v'
theorem Y97(hv:AF v)(hG:I9 w S q v F)(hF:w.ownsRow 0 3 1 vF F.length (DV F))(hs:∀g,vF.ownBlock=some g->¬S g)
  (cs:w.cell? ⟨bs,0,none⟩=some vF) (cm:w.cell? ⟨bm,0,none⟩=some (pP q)) (ls:bs<w.heap.size) (lm:bm<w.heap.size) (ns:¬S bs) (nm:¬S bm):
  Calls prog 202 #[pP bs,pP bm] w λe w'=>e=.returned (.tuple #[])/\AB S w w'/\I9 w' (plus S w) q v []:=by
 obtain⟨A,c,rfl,Xa,Xb⟩:=C7 hF;unfold maxLen at Xb
 have V:F.length<=524288:=by
  obtain⟨v',hg,-⟩:=hG;have h1:=hg.us;have h2:=hg.ok.us;have h3:=M6 v'.pt;have h4:=hg.ok.pt.n2;omega
 have HF:=hF;have HG:=hG;have HV:=hv;have HS:=hs;obtain⟨N,hN⟩:∃N,N=F.length:=⟨_,rfl⟩;rw[<-hN]at cs Xa V;have HN:=hN;go_enter func202,ntmps202;go_wp2
 go_loopw [2] (λi wr=>∃k:Nat,k<=N/\Hid (AB S w wr)/\Hid (I9 wr (plus S w) q v (F.take k))/\i=iI ((k:Int)-1)) (λi _=>(intOf i+1).toNat)
 case atStart=>exact⟨N,ϑ _,⟨AB.refl S w⟩,⟨by obtain⟨v',hg,ha⟩:=HG;exact⟨v',by rw[HN,ξd];exact hg,ha.mono (λk hk=>.inl hk)⟩⟩,by go_num⟩
 case round=>
  obtain⟨k,hk,HT,HK,rfl⟩:=hrel;by_cases Xd:k=0
  ·subst Xd;go_wp2
   go_end0
   exact⟨rfl,HT.o,HK.o⟩
  ·obtain⟨j,rfl⟩:∃j,k=j+1:=⟨k-1,by omega⟩;have Y:j<F.length:=Ω
   obtain⟨g,c',e1,-,-,-,-⟩:=E6 HF Ω;simp only[Value.slice.injEq]at e1;obtain⟨rfl,-,rfl⟩:=e1;have Z:=(BE HF (g:=g) rfl).2;have ng:=HS g rfl;have kb:=BS HF (XS1 Y);obtain⟨p,hp⟩:∃p,p=F[j]:=⟨_,rfl⟩;rw[<-hp]at kb;have HP:Hid (F.take (j+1)=F.take j++[p]):=⟨by rw[hp,List.take_add_one,η Y];rfl⟩
   have KS:Hid (∀W',Gr wr W'->W'.cell? ⟨bs,0,none⟩=some (.slice (some ⟨g,0,none⟩) N c)/\W'.cell? ⟨bm,0,none⟩=some (pP q)/\W'.cell? ⟨g,j,none⟩=some (iI (p:Nat))):=
    ⟨λW' h=>⟨(h.cell (κ ls HT.o.size) 0).trans ((HT.o.cell ls ns 0).trans cs),(h.cell (κ lm HT.o.size) 0).trans ((HT.o.cell lm nm 0).trans cm),(h.cell (κ Z HT.o.size) j).trans ((HT.o.cell Z ng j).trans kb)⟩⟩
   clear Y Z ng kb hp cs cm;go_upto_region 3 with(fail);obtain⟨Sx,X⟩:∃Sx:World->Prop,Sx=λW'=>Gr wr W':=⟨_,rfl⟩;have x1:∀p:AA Sx,p.w.cell? ⟨bs,0,none⟩=some (.slice (some ⟨g,0,none⟩) N c):=λp=>(KS.o _ (AA.get X p)).1;have x2:∀p:AA Sx,p.w.cell? ⟨bm,0,none⟩=some (pP q):=λp=>(KS.o _ (AA.get X p)).2.1;have x3:∀r:AA Sx,r.w.cell? ⟨g,j,none⟩=some (iI (p:Nat)):=λp=>(KS.o _ (AA.get X p)).2.2;have J:Sx wr.drew:=by rw[X];exact(Gr.refl wr).drew
   have inst:Inhabited (AA Sx):=⟨⟨_,J⟩⟩;clear X;refine AI Sx 5 [([0,1,2,3,4],5)] [] J ?_;refine AE ?_;obtain⟨vk,U,B⟩:=HK.o;rw[HP.o]at U;have M:=(U.um HV);have Xc:=(B.gr (Gr.refl wr).drew);go_wp2_with(go_at_call 155;refine(NN Xc (p:Int)).mono ?_;rintro e w1 ⟨rfl,E,Xe⟩;have I:=E;have D:=Xe);refine⟨.inl trivial,?_⟩;refine ET ?_;refine ζd ?_;refine ζI ?_;go_wp2;have Xf:=HT.o.size;have h1:AB (plus S w) wr w1:=((Gr.refl wr).drew.touch _).trans I;go_round
   case rel=>
    refine⟨j,by omega,⟨HT.o.trans' h1 (λi hi hp=>hp.resolve_right Ω)⟩,⟨_,M.2,D.mono (λk hk=>?_)⟩,by go_num⟩;rcases hk with h|h
    ·exact h
    ·exact .inr (β Xf h)
   case measure=>simp[intOf]
def BZ(v:Vm)(p0 k:Nat):List Nat:=(List.range' p0 k).filter λp=>v.pt.getD p 0==0
theorem QK(v:Vm)(p0 k:Nat):BZ v p0 (k+1)=if v.pt.getD (p0+k) 0=0 then BZ v p0 k++[p0+k]else BZ v p0 k:=by
 unfold BZ
 grind [List.range'_concat]
theorem PA{v:Vm}:p∈BZ v p0 k↔(p0<=p/\p<p0+k)/\v.pt.getD p 0=0:=by
 unfold BZ;simp
theorem ZNP(v:Vm)(p0:Nat)(h:k<=m):(BZ v p0 k).length<=(BZ v p0 m).length:=by
 induction m with
 | zero=>simp_all
 | succ m ih=>
  grind [υ,β,QK]
def CW(v:Vm)(f t:Int):Nat:=((t-1)/v.pl.pg-f/v.pl.pg+1).toNat
def BK(v:Vm)(f t:Int):Int:=if f<0\/(v.n:Int)<t then 11 else if t<=f then 0 else if v.pl.used+(BZ v (f/v.pl.pg).toNat (CW v f t)).length<=v.pl.rm then 0 else 14
def BY(v:Vm)(f t:Int):List Nat:=if BK v f t=0/\f<t then BZ v (f/v.pl.pg).toNat (CW v f t)else []
structure S7(w wr:World)(S S':Nat->Prop)(q:Nat)(v:Vm)(p0 k bs bm:Nat)(vF:Value):Prop where
 t:AB S w wr
 g:I9 wr S' q v (BZ v p0 k)
 own:wr.ownsRow 0 3 1 vF (BZ v p0 k).length (DV (BZ v p0 k))
 rs:Rec wr bs 70 [vF]
 rm:Rec wr bm 91 [pP q]
 sub:∀k,S' k->plus S w k
 ns:¬S' bs
 nm:¬S' bm
 ng:∀g,vF.ownBlock=some g->¬S' g
 ls:w.heap.size<=bs
 lg:∀g,vF.ownBlock=some g->w.heap.size<=g
theorem S7.map{wr:World}{v:Vm}(h:S7 w wr S S' q v p0 k bs bm vF)(t:AB S' wr w1):
  AB S w w1/\w1.ownsRow 0 3 1 vF (BZ v p0 k).length (DV (BZ v p0 k))/\Rec w1 bs 70 [vF]/\Rec w1 bm 91 [pP q] ∧
   (∀k,plus S' wr k->plus S w k)/\¬plus S' wr bs/\¬plus S' wr bm/\(∀g,vF.ownBlock=some g->¬plus S' wr g):=by
 have hz:=h.t.size;refine⟨h.t.trans' t (λi hi hs=>(h.sub i hs).resolve_right Ω),BX h.own t h.ng,h.rs.touch t h.ns,h.rm.touch t h.nm,λk hk=>?_,λhk=>?_,λhk=>?_,λg hg hk=>?_⟩
 ·rcases hk with hk|hk
  ·exact h.sub k hk
  ·exact .inr Ω
 ·have:=h.rs.lt;exact hk.elim h.ns Ω
 ·have:=h.rm.lt;exact hk.elim h.nm Ω
 ·have:=(BE h.own hg).2;exact hk.elim (h.ng g hg) Ω
theorem RD(hV:AD w S q v)(f t:Nat)(ht:t<=v.n)(hft:f<t):Calls prog 150 #[pP q,iI f,iI t] w λe w'=>e=.returned (iI (BK v f t))/\AB S w w'/\I9 w' (plus S w) q v (BY v f t):=by
 have HV:=hV;have hn:=hV.ok.n2;obtain⟨S1,S2,b1,b2,hr,hp,-⟩:=hV.row;have hql:=hr.lt;have c0:=hr.cc 0;have c2:=hr.cc 2;have Yd:=hV.ok.page;have HP:=hp;obtain⟨p0,Xd⟩:∃p0,p0=f/v.pl.pg:=⟨_,rfl⟩;obtain⟨p1,M⟩:∃p1,p1=(t-1)/v.pl.pg:=⟨_,rfl⟩;have h01:p0<=p1:=by rw[Xd,M];exact ζc Ω
 have h1l:p1<v.pt.length:=by rw[M];exact(hV.ok.split Ω).1
 have X:(t:Int)-1=((t-1:Nat):Int):=Ω
 have Xq:Hid (CW v f t=p1+1-p0/\((f:Int)/(v.pl.pg:Int)).toNat=p0):=⟨by
  unfold CW;rw[X,<-ξe,<-ξe,<-Xd,<-M]
  exact⟨by omega,χ _⟩⟩
 have HE:Hid (BK v f t=if v.pl.used+(BZ v p0 (p1+1-p0)).length<=v.pl.rm then 0 else 14):=⟨by
  unfold BK
  rw[ξ Ω,ξ Ω,Xq.o.1,Xq.o.2]⟩
 have HF:Hid (BY v f t=if v.pl.used+(BZ v p0 (p1+1-p0)).length<=v.pl.rm then BZ v p0 (p1+1-p0)else []):=⟨by
  unfold BY;rw[HE.o,Xq.o.1,Xq.o.2]
  split
  ·rw[φ ⟨rfl,by omega⟩]
  ·rw[ξ (λh=>absurd h.1 (by decide))]⟩
 obtain⟨B,hB⟩:∃B,B=v.pl.pg:=⟨_,rfl⟩;have HB:=ι hB;rw[<-hB]at Xd M Yd;have q1:((f:Int).tdiv (B:Int))=(p0:Int):=by rw[Xd];rfl
 have q2:((f:Int)/(B:Int))=(p0:Int):=by rw[Xd];rfl
 have q3:(((t:Int)-1).tdiv (B:Int))=(p1:Int):=by rw[X,M];rfl
 have q4:(((t:Int)-1)/(B:Int))=(p1:Int):=by rw[X,M];rfl
 have hBp:(B:Int)≠0:=Ω
 have d0:decide ((f:Int)<0)=false:=ζ Ω;have d1:decide ((v.n:Int)<(t:Int))=false:=ζ Ω;have d2:decide ((t:Int)<=(f:Int))=false:=ζ Ω;have hpt:=hV.ok.pt.n2;clear hV hr hp hB Xd M X;go_enter func150,ntmps150
 go_wp2_with(first
  | (go_at_call 124;refine(E8 (HV.gr ((Gr.refl w).alloc _))).mono ?_;rintro e w1 ⟨rfl,rfl⟩)
  | (go_at_call 203;refine(TN (HP.gr (((Gr.refl w).alloc _).alloc _))).mono ?_;rintro e w1 ⟨rfl,rfl⟩;rw[<-HB.o]))
 obtain⟨bm,Xg⟩:∃bm,bm=w.heap.size:=⟨_,rfl⟩;rw[<-Xg]
 have Xx:=ι (show S7 w ((w.alloc (Obj.cells #[pP q] 91)).alloc (Obj.cells #[.slice none 0 0] 70)) S (AC S w) q v p0 0 (bm+1) bm (.slice none 0 0)from
  ⟨((AB.refl S w).alloc _).alloc _,⟨v,BW.refl HV.ok,HV.cut.gr (((Gr.refl w).alloc _).alloc _)⟩,GP _ _ _ _,by
   have:=Rec.new (w.alloc (Obj.cells #[pP q] 91)) 70 [.slice none 0 0];rw[γ,<-Xg]at this;exact this,by
   have:=Rec.gr (Rec.new w 91 [pP q]) ((Gr.refl _).alloc (Obj.cells #[.slice none 0 0] 70));rw[<-Xg]at this
   exact this,λk hk=>.inl hk.1,λh=>by have:=h.2;omega,λh=>by have:=h.2;omega,(λg h=>by cases h),by omega,(λg h=>by cases h)⟩)
 go_loopw [10] (λp wr=>∃(k:Nat) (S':Nat->Prop) (vF:Value),k<=p1+1-p0/\Hid (S7 w wr S S' q v p0 k (bm+1) bm vF)/\p=iI ((p0+k:Nat):Int)) (λp _=>p1+1-(intOf p).toNat)
 case atStart=>exact⟨0,AC S w,.slice none 0 0,by omega,Xx,by go_num⟩
 case round=>
  obtain⟨k,S',vF,hk,HI,rfl⟩:=hrel;have Xu:=ι Xg;clear Xx c0 c2 Xg;obtain⟨r,hr⟩:∃r,r=p0+k:=⟨_,rfl⟩;rw[<-hr];by_cases Z:k=p1+1-p0
  ·have d3:decide (r<=p1)=false:=ζ Ω;have HR:=ι hr;have HL:=ι Z;clear hr Z;go_wp2;go_ret;obtain⟨v',hg,Xa⟩:=HI.o.g;have Yj:=hg.us;have Xl:=OJ hg.ok.pl;rw[hg.rm,Yj]at Xl;rw[HL.o]at hg Xl;refine⟨AS (by rw[HE.o,φ Xl]),HI.o.t,v',?_,Xa.mono HI.o.sub⟩;rw[HF.o,φ Xl];exact hg
  ·have d3:decide (r<=p1)=true:=θ Ω;obtain⟨v',hg,Xa⟩:=HI.o.g;obtain⟨A,c,rfl,Yl,Yh⟩:=C7 HI.o.own;unfold maxLen at Yh;have hS:=QK v p0 k;rw[<-hr]at hS;have Xk:r<v.pt.length:=Ω
   have Xh:=hg.ma r Xk;have Xp:r∉BZ v p0 k:=λh=>by have:=(PA.1 h).1;omega
   have Xs:=hg.len HV.ok;have Xc:pgE v'.pt r=0:=by unfold pgE;rw[φ ⟨by omega,by omega⟩]
   have km:=HI.o.rm.cc 0;have hr2:r<=524288:=Ω
   have lbm:=HI.o.rm.lt;have lbs:=HI.o.rs.lt;have Xt:=ι Xa;have Xy:=ι hg;have HK:=ι hk;have HR:=ι hr;have Xn:=ι Z;by_cases h0:v.pt.getD r 0=0
   ·rw[φ h0]at hS;have I:v'.pt.getD r 0=0:=ξD.1 (λhn=>(Xh.1 hn).elim (λh=>h h0) Xp);by_cases J:v'.pl.used=v'.pl.rm
    ·have HM:Hid (v'.mpE r=14):=⟨by
      unfold Vm.mpE
      rw[ξ (by rw[Xc];decide),χ,ξ (by rw[I];decide),φ J]⟩
     have Xv:Hid (¬v.pl.used+(BZ v p0 (p1+1-p0)).length<=v.pl.rm):=⟨by
      have h1:=ZNP v p0 (show k+1<=p1+1-p0 by omega);rw[hS,ζr,ξm]at h1;have h2:=hg.us;have h3:=hg.rm
      omega⟩
     clear hS h0 I J Xh Xp Xs Xc hg Xa hk hr Z Xk
     go_wp2_with(first
      | (go_at_call 204;refine(XG Xt.o r).mono ?_;rintro e w1 ⟨rfl,X,Y⟩;rw[HM.o];have V:=ι X;have Xe:=ι Y;clear X Y)
      | (go_at_call 202;have Y:=Xe.o;rw[UT (by rw[HM.o];decide)]at Y;obtain⟨-,i2,i3,i4,-,i6,i7,i8⟩:=HI.o.map V.o;refine(Y97 HV.ok ⟨_,Xy.o,Y⟩ i2 i8 (i3.cc 0) (i4.cc 0) i3.lt i4.lt i6 i7).mono ?_;rintro e w2 ⟨rfl,Ya,Xo⟩;have Xb:=ι Ya;have Yn:=ι Xo;clear Ya Xo Y i2 i3 i4 i6 i7 i8))
     go_ret;obtain⟨i1,i2,i3,i4,i5,i6,i7,i8⟩:=HI.o.map V.o;have hz:=HI.o.t.size;have Yi:=V.o.size;refine⟨AS (by rw[HE.o,ξ Xv.o]),i1.trans' Xb.o (λi hi hs=>(i5 i hs).resolve_right Ω),?_⟩;rw[HF.o,ξ Xv.o];obtain⟨v2,Xo,Yp⟩:=Yn.o;refine⟨v2,Xo,Yp.mono (λk hk=>?_)⟩;rcases hk with hk|hk
     ·exact i5 k hk
     ·exact .inr Ω
    ·have HM:Hid (v'.mpE r=0):=⟨by
      unfold Vm.mpE
      rw[ξ (by rw[Xc];decide),χ,ξ (by rw[I];decide),ξ J]⟩
     have Ye:=ι (hg.mp HV.ok HM.o);have Xj:=ι hS
     have Ym:(BZ v p0 k).length<=524288:=by
      have h1:=hg.us;have h2:=hg.ok.us;have h3:=M6 v'.pt;have h4:=hg.ok.pt.n2;omega
     obtain⟨N,hN⟩:∃N,N=(BZ v p0 k).length:=⟨_,rfl⟩;have HN:=ι hN;rw[<-hN]at Yl Ym;clear hS h0 I J Xh Xp Xs Xc hg Xa hk hr Z Xk;rw[<-hN]at HI;clear hN;obtain⟨ii,Yc,Yb,Yo,Yg⟩:=info_parts YWy
     go_wp2_with(first
      | (go_at_call 204;refine(XG Xt.o r).mono ?_;rintro e w1 ⟨rfl,X,Y⟩;rw[HM.o];have Xf:=ι (HI.o.rs.touch X HI.o.ns);have ks:=Xf.o.cc 0;have V:=ι X;have Xe:=ι Y;have Xm:=ι (HI.o.map X).2.1;rw[<-HN.o]at Xm;clear X Y)
      | (at_builtin;refine wpList_append_lies _ rfl _ _ 70 rfl 0 3 ii _ 1 8 underlying70 Yc Yb Yo Yg rfl (by decide) (.slice A N c) N (DV (BZ v p0 k)) rfl (Xm.o.alloc _) ⟨w1.heap.size,0,none⟩ 1 1 [iI (r:Nat)] rfl rfl (ξv (cs:=#[iI (r:Nat)]) (t:=3) (fr:=(0,0)) (heap_alloc_new w1 (.cells #[.int .i64 (r:Nat)] 3))) (by simp[Value.oneCell']) Ω (by unfold maxLen;omega) Ω (ζf _) (w1.heap.size+1) (by simp) ?_;intro g2 Yk w2 Xi E U Xr;have t2:AB (λk=>(Value.slice A N c).ownBlock=some k) w1 w2:=(((Gr.refl _).alloc _).touch _).trans (DM E _ (λk e _=>e));have D:=ι (Xf.o.touch t2 (λe=>AQ Xm.o Xf.o (by decide) e rfl rfl));have ks2:=D.o.cc 0;have kf2:=D.o.free 0;have Xb:=ι t2;have Xz:=ι Xi;have Yf:=ι (ψ U Xr);clear Xi E U Xr t2))
     have hI:=HI.o;have hN:=HN.o;obtain⟨i1,i2,i3,i4,i5,i6,i7,i8⟩:=HI.o.map V.o;have hz:=HI.o.t.size;have Yi:=V.o.size;have hz2:=Xb.o.size;have U:=Yf.o;have Xw:AB S w w2:=i1.trans' Xb.o (λi hi hs=>by have:=HI.o.lg i hs;omega);go_round
     case rel=>
      refine⟨k+1,AC (plus S' wr) w1,.slice (some ⟨g2,0,none⟩) (N+1) Yk,by have:=HK.o;have:=Xn.o;omega,⟨?_⟩,by rw[HR.o];go_num⟩;refine⟨Xw.setCell (a:=⟨bm+1,0,none⟩) (λh=>by have:=Xu.o;have h:bm+1<w.heap.size:=h;omega) _,?_,?_,?_,?_,λi hi=>i5 i hi.1,λh=>i6 h.1,λh=>i7 h.1,λg hg=>?_,by have:=Xu.o;omega,λg hg=>?_⟩
      ·refine⟨_,by rw[Xj.o];exact Ye.o,((Xe.o.cut.touch Xb.o (λi hi _ e=>i8 i e hi.1)).touch ((AB.refl (λi=>i=bm+1) w2).setCell (a:=⟨bm+1,0,none⟩) (λ_=>rfl) _) (λi hi _ e=>by subst e;exact i6 hi.1))⟩
      ·rw[Xj.o,ζr,ξm,<-HN.o,show DV (BZ v p0 k++[r])=DV (BZ v p0 k)++[iI (r:Nat)]by unfold DV;rw[ζ1];rfl];exact AX Xz.o _ (λg hg=>AQ Xz.o D.o (by decide) hg rfl)
      ·exact Rec.set D.o 0 _
      ·exact AX (i4.touch Xb.o (λe=>AQ Xm.o i4 (by decide) e rfl rfl)) _ (λg hg=>by cases hg;show bm≠bm+1;omega)
      ·intro hc;cases hg;rcases U.1 with h|h
       ·exact i8 _ h hc.1
       ·have:g2<w1.heap.size:=hc.2;omega
      ·cases hg;rcases U.1 with h|h
       ·exact HI.o.lg _ h
       ·show w.heap.size<=g2
        omega
     case measure=>have:=HK.o;have:=Xn.o;have:=HR.o;simp[intOf];omega
   ·rw[ξ h0]at hS;have I:v'.pt.getD r 0≠0:=Xh.2 (.inl h0)
    have HM:Hid (v'.mpE r=13):=⟨by
     unfold Vm.mpE
     rw[ξ (by rw[Xc];decide),χ,φ I]⟩
    have Xj:=ι hS;clear hS h0 I Xh Xp Xs Xc hg Xa hk hr Z Xk;go_wp2_with(go_at_call 204;refine(XG Xt.o r).mono ?_;rintro e w1 ⟨rfl,X,Y⟩;rw[HM.o];have V:=ι X;have Xe:=ι Y;clear X Y);obtain⟨i1,i2,i3,i4,i5,i6,i7,i8⟩:=HI.o.map V.o;have Y:=Xe.o;rw[UT (by rw[HM.o];decide)]at Y;go_round
    case rel=>
     refine⟨k+1,plus S' wr,_,by have:=HK.o;have:=Xn.o;omega,⟨i1,?_,?_,i3,i4,i5,i6,i7,i8,HI.o.ls,HI.o.lg⟩,by rw[HR.o];go_num⟩
     ·rw[Xj.o];exact⟨_,Xy.o,Y⟩
     ·rw[Xj.o];exact i2
    case measure=>have:=HK.o;have:=Xn.o;have:=HR.o;simp[intOf];omega
end
section
variable{v:Vm}
theorem JR1{p:Pl}(hP:CI w S q p):cQ 233 #[pP q] w (iI p.used):=by
 obtain⟨vw,vt,vb,hi,ts,hr,-⟩:=hP.row;have c4:=hr.cc 5;go_enter func233,ntmps233;go_wp2;go_ret
 simp_all
theorem VFh{p:Pl}(hP:CI w S q p):cQ 232 #[pP q] w (iI p.rm):=by
 obtain⟨vw,vt,vb,hi,ts,hr,-⟩:=hP.row;have c4:=hr.cc 3;go_enter func232,ntmps232;go_wp2;go_ret
 simp_all
theorem I0(hV:AD w S q v):cQ 154 #[pP q] w (iI v.pl.pg):=by
 have HV:=hV;obtain⟨S1,S2,b1,b2,hr,hp,-⟩:=hV.row;have c0:=hr.cc 0;have HP:=hp;go_enter func154,ntmps154
 go_wp2_with(first
  | (go_at_call 124;refine(E8 HV).mono ?_;rintro e w1 ⟨rfl,rfl⟩)
  | (go_at_call 203;refine(TN HP).mono ?_;rintro e w1 ⟨rfl,rfl⟩))
 go_ret
 simp_all
theorem XOa(hV:AD w S q v):cQ 185 #[pP q] w (iI v.pl.used):=by
 have HV:=hV;obtain⟨S1,S2,b1,b2,hr,hp,-⟩:=hV.row;have c0:=hr.cc 0;have HP:=hp;go_enter func185,ntmps185
 go_wp2_with(first
  | (go_at_call 124;refine(E8 HV).mono ?_;rintro e w1 ⟨rfl,rfl⟩)
  | (go_at_call 233;refine(JR1 HP).mono ?_;rintro e w1 ⟨rfl,rfl⟩))
 go_ret
 simp_all
theorem JXO(hV:AD w S q v):cQ 184 #[pP q] w (iI v.pl.rm):=by
 have HV:=hV;obtain⟨S1,S2,b1,b2,hr,hp,-⟩:=hV.row;have c0:=hr.cc 0;have HP:=hp;go_enter func184,ntmps184
 go_wp2_with(first
  | (go_at_call 124;refine(E8 HV).mono ?_;rintro e w1 ⟨rfl,rfl⟩)
  | (go_at_call 232;refine(VFh HP).mono ?_;rintro e w1 ⟨rfl,rfl⟩))
 go_ret
 simp_all
theorem I8(hV:AD w S q v):cQ 67 #[pP q] w (iI v.n):=by
 have HV:=hV;obtain⟨S1,S2,b1,b2,hr,hp,-⟩:=hV.row;have c0:=hr.cc 2;go_enter func67,ntmps67;go_wp2_with(go_at_call 124;refine(E8 HV).mono ?_;rintro e w1 ⟨rfl,rfl⟩);go_ret
 simp_all
theorem Jus(w:World):cQ 67 #[.pointer none] w (iI 0):=by
 go_enter func67,ntmps67;go_wp2_with(go_at_call 124;refine(YU7 _).mono ?_;rintro e w1 ⟨rfl,rfl⟩);go_ret;exact⟨rfl,rfl⟩
theorem Z3(hV:AD w S q v)(f t:Nat)(ht:t<=v.n)(hft:t<=f):Calls prog 150 #[pP q,iI f,iI t] w λe w'=>e=.returned (iI 0)/\Gr w w':=by
 obtain⟨S1,S2,b1,b2,hr,-⟩:=hV.row;have d0:decide ((f:Int)<0)=false:=ζ Ω;have c2:=(hr.gr ((Gr.refl w).alloc (.cells #[.pointer (some ⟨q,0,none⟩)] 91))).cell (j:=2) rfl;have X:=(hV.gr ((Gr.refl w).alloc (.cells #[.pointer (some ⟨q,0,none⟩)] 91)));go_enter func150,ntmps150;go_wp2_with(go_at_call 124;refine(E8 X).mono ?_;rintro e w1 ⟨rfl,rfl⟩);go_ret;exact⟨rfl,(Gr.refl w).alloc _⟩
end
structure Hdr where
 p:Int
 f:Int
 k:Int
variable{h:Hdr}
def AM(h:Hdr):Value:=.agg #[iI h.p,iI h.f,iI h.k]
def inS(x:Int):Bool:=decide (0<=x/\x<256)
def C1(h:Hdr):Int:=if inS h.p&&inS h.f&&inS h.k&&decide (h.p+h.f+h.k<256)then 0 else 15
def CF(h:Hdr):Int:=if C1 h=0 then 1+h.p+h.f+h.k else 0
theorem VS(x:Int):(decide (x<0)=true/\inS x=false)\/(decide (x<0)=false/\decide (256<=x)=true/\inS x=false)\/(decide (x<0)=false/\decide (256<=x)=false/\inS x=true):=by
 by_cases h0:x<0
 ·exact .inl ⟨θ h0,ζ Ω⟩
 ·by_cases h1:256<=x
  ·exact .inr (.inl ⟨ζ h0,θ h1,ζ Ω⟩)
  ·exact .inr (.inr ⟨ζ h0,ζ h1,θ Ω⟩)
theorem RY(he:C1 h=0):∃a b c:Nat,h=⟨a,b,c⟩/\a+b+c<=255:=by
 unfold C1 inS at he
 split at he
 ·rename_i hh;simp only[ζh,ζg]at hh;obtain⟨p,f,k⟩:=h;simp only at hh;exact⟨p.toNat,f.toNat,k.toNat,by grind,by omega⟩
 ·cases he
theorem EG{a:Nat}(h:a+b+c<=255):C1 ⟨a,b,c⟩=0:=by
 unfold C1 inS
 grind
theorem Vhh(h:Hdr):C1 h=0\/C1 h=15:=by unfold C1;omega
theorem QF(h:Hdr)(w:World):Calls prog 76 #[AM h] w λe w'=>e=.returned (iI (C1 h))/\Gr w w':=by
 obtain⟨p,f,k⟩:=h;unfold AM;simp only[];have HE:Hid (C1 ⟨p,f,k⟩=if inS p&&inS f&&inS k&&decide (p+f+k<256)then 0 else 15):=⟨rfl⟩
 have HN:∀x,x=p\/x=f\/x=k->Hid (inS x=false->C1 ⟨p,f,k⟩=15):=λx hx=>⟨λh0=>by
  rw[HE.o]
  grind⟩
 have HY:Hid (inS p=true->inS f=true->inS k=true->C1 ⟨p,f,k⟩=if p+f+k<256 then 0 else 15):=⟨λa b c=>by
  rw[HE.o,a,b,c]
  simp_all⟩
 have H0:=HN p (.inl rfl);have H1:=HN f (.inr (.inl rfl));have H2:=HN k (.inr (.inr rfl));obtain⟨E,hE⟩:∃E,E=C1 ⟨p,f,k⟩:=⟨_,rfl⟩;rw[<-hE]at H0 H1 H2 HY HE⊢;clear hE;have i0:∀W,(Instr.index 143 (.agg #[iI p,iI f,iI k]) (iI 0)).run prog W=.ok (iI p) W:=λ_=>by kernel_rfl
 have i1:∀W,(Instr.index 143 (.agg #[iI p,iI f,iI k]) (iI 1)).run prog W=.ok (iI f) W:=λ_=>by kernel_rfl
 have i2:∀W,(Instr.index 143 (.agg #[iI p,iI f,iI k]) (iI 2)).run prog W=.ok (iI k) W:=λ_=>by kernel_rfl
 go_enter func76,ntmps76;go_wp2
 go_loop [12] (λi=>∃j:Nat,j<=3/\i=iI j/\Hid ((1<=j->inS p=true)/\(2<=j->inS f=true)/\(3<=j->inS k=true))) (λi=>3-(intOf i).toNat)
 case atStart=>exact⟨0,by omega,rfl,⟨λh=>by omega,λh=>by omega,λh=>by omega⟩⟩
 case round=>
  obtain⟨j,hj,rfl,HJ⟩:=hrel;rcases(by omega:j=0\/j=1\/j=2\/j=3)with rfl|rfl|rfl|rfl
  ·rcases VS p with⟨p0,E1⟩|⟨p0,p1,E1⟩|⟨p0,p1,E1⟩
   ·have E1:=E1;go_wp2;go_ret;exact⟨AS (H0.o E1).symm,(Gr.refl w).alloc _⟩
   ·have E1:=E1;go_wp2;go_ret;exact⟨AS (H0.o E1).symm,(Gr.refl w).alloc _⟩
   ·have E1:=E1;go_wp2;go_round
    case rel=>exact⟨1,by omega,by go_num,⟨λ_=>E1,λh=>by omega,λh=>by omega⟩⟩
    case measure=>simp[intOf]
  ·rcases VS f with⟨p0,E1⟩|⟨p0,p1,E1⟩|⟨p0,p1,E1⟩
   ·have E1:=E1;go_wp2;go_ret;exact⟨AS (H1.o E1).symm,(Gr.refl w).alloc _⟩
   ·have E1:=E1;go_wp2;go_ret;exact⟨AS (H1.o E1).symm,(Gr.refl w).alloc _⟩
   ·have E1:=E1;go_wp2;go_round
    case rel=>exact⟨2,by omega,by go_num,⟨λ_=>HJ.o.1 Ω,λ_=>E1,λh=>by omega⟩⟩
    case measure=>simp[intOf]
  ·rcases VS k with⟨p0,E1⟩|⟨p0,p1,E1⟩|⟨p0,p1,E1⟩
   ·have E1:=E1;go_wp2;go_ret;exact⟨AS (H2.o E1).symm,(Gr.refl w).alloc _⟩
   ·have E1:=E1;go_wp2;go_ret;exact⟨AS (H2.o E1).symm,(Gr.refl w).alloc _⟩
   ·have E1:=E1;go_wp2;go_round
    case rel=>exact⟨3,by omega,by go_num,⟨λ_=>HJ.o.1 Ω,λ_=>HJ.o.2.1 Ω,λ_=>E1⟩⟩
    case measure=>simp[intOf]
  ·have j1:=HJ.o.1 Ω;have j2:=HJ.o.2.1 Ω;have j3:=HJ.o.2.2 Ω;have HZ:=ι (HY.o j1 j2 j3);unfold inS at j1 j2 j3;simp only[ζg]at j1 j2 j3;by_cases hs:p+f+k<256
   ·have d0:decide (256<=p+f+k)=false:=ζ Ω;have HS:=hs;go_wp2;go_ret;exact⟨AS (by rw[HZ.o,φ HS]),(Gr.refl w).alloc _⟩
   ·have d0:decide (256<=p+f+k)=true:=θ Ω;have HS:=hs;go_wp2;go_ret;exact⟨AS (by rw[HZ.o,ξ Ω]),(Gr.refl w).alloc _⟩
theorem LV(h:Hdr)(w:World):Calls prog 78 #[AM h] w λe w'=>e=.returned (iI (CF h))/\Gr w w':=by
 have HC:=(λW=>QF h W);rcases Vhh h with he|he
 ·obtain⟨a,b,c,rfl,hs⟩:=RY he;have HN:Hid (CF ⟨a,b,c⟩=1+(a:Int)+b+c):=⟨φ he⟩;unfold AM at HC⊢;go_enter func78,ntmps78;go_wp2_with(go_at_call 76;refine(HC _).mono ?_;rintro e w1 ⟨rfl,X⟩;have hl:=(Gr.refl w).alloc (.cells #[.int .i64 a,.int .i64 b,.int .i64 c] 64);have k0:=(X.cell (b:=w.heap.size) (by simp) 0).trans (ζF _ _ _ 0 rfl);have k1:=(X.cell (b:=w.heap.size) (by simp) 1).trans (ζF _ _ _ 1 rfl);have k2:=(X.cell (b:=w.heap.size) (by simp) 2).trans (ζF _ _ _ 2 rfl);have Y:=(hl.trans X));go_ret;exact⟨AS (by rw[HN.o]),Y⟩
 ·have HN:Hid (CF h=0):=⟨ξ (by rw[he];decide)⟩;unfold AM at HC⊢;go_enter func78,ntmps78;go_wp2_with(go_at_call 76;refine(HC _).mono ?_;rintro e w1 ⟨rfl,X⟩;have Y:=(((Gr.refl w).alloc _).trans X));go_ret;exact⟨AS (by rw[HN.o]),Y⟩
def IV(a b c:Nat):Nat:=a+256*b+65536*c+2768240640
def CY(a b c:Nat):Nat:=(4294967295-IV a b c)*4294967296+IV a b c
def BO(h:Hdr)(i:Int):Int:=if 0<=i/\i<CF h-1 then (if i<h.p then 1 else if i<h.p+h.f then 2 else 3)else 0
theorem RT(a b i m:Nat)(hm:m=2 ^ i)(h:a<m):a ||| (b*m)=b*m+a:=by
 subst hm;rw[Nat.or_comm,<-Nat.shiftLeft_eq,Nat.shiftLeft_add_eq_or_of_lt h]
theorem Z2Y(n:Nat)(hn:n<4294967296):bits .xor .u32 IntKind.u32.max (n:Int)=((4294967295-n:Nat):Int):=by
 have h1:(BitVec.ofInt 32 (n:Int)).toNat=n:=by
  simp_all
 have h2:BitVec.ofInt 32 IntKind.u32.max=BitVec.allOnes 32:=by decide
 show IntKind.u32.wrap ((BitVec.ofInt 32 IntKind.u32.max ^^^ BitVec.ofInt 32 (n:Int)).toNat:Int)=_
 rw[h2,BitVec.allOnes_xor,BitVec.toNat_not,h1,IntKind.wrap_u32];omega
theorem XiL{a:Nat}(hs:a+b+c<=255):bits .or .u32 (bits .or .u32 (bits .or .u32 (a:Int) ((b:Int)*256)) ((c:Int)*65536)) 2768240640=((IV a b c:Nat):Int):=by
 have e1:((b:Int)*256)=((b*256:Nat):Int):=Ω
 have e2:((c:Int)*65536)=((c*65536:Nat):Int):=Ω
 have e3:(2768240640:Int)=((165*16777216:Nat):Int):=Ω
 rw[e1,e2,e3,u32_or_nat a (b*256) Ω Ω,RT a b 8 256 (by decide) Ω,u32_or_nat _ (c*65536) Ω Ω,RT _ c 16 65536 (by decide) Ω,u32_or_nat _ (165*16777216) Ω Ω,RT _ 165 24 16777216 (by decide) Ω];unfold IV;omega
theorem Vts{a:Nat}(hs:a+b+c<=255):IV a b c<4294967296:=by unfold IV;omega
theorem J0L(hn:n<4294967296):bits .or .u64 (((4294967295-n:Nat):Int)*4294967296) (n:Int)=(((4294967295-n)*4294967296+n:Nat):Int):=by
 have e1:(((4294967295-n:Nat):Int)*4294967296)=(((4294967295-n)*4294967296:Nat):Int):=Ω
 rw[e1,bits_or_u64_nat _ _ Ω Ω,Nat.or_comm,RT _ _ 32 4294967296 (by decide) hn]
theorem Jii{a:Nat}(hs:a+b+c<=255)(w:World):Calls prog 137 #[AM ⟨a,b,c⟩] w λe w'=>e=.returned (.tuple #[uU (CY a b c:Nat),iI 0])/\Gr w w':=by
 have HC:=(λW=>QF ⟨a,b,c⟩ W);have HE:=(EG hs);have f1:=XiL hs;have hn:=Vts hs;have HW:Hid (CY a b c=(4294967295-IV a b c)*4294967296+IV a b c):=⟨rfl⟩;obtain⟨n,Y⟩:∃n,n=IV a b c:=⟨_,rfl⟩;rw[<-Y]at f1 hn HW;have f2:=Z2Y n hn;have f3:=J0L hn;have f4:IntKind.u64.wrap (((4294967295-n:Nat):Int))=((4294967295-n:Nat):Int):=by rw[ξy];omega
 have f5:IntKind.u64.wrap (((4294967295-n:Nat):Int)*4294967296)=((4294967295-n:Nat):Int)*4294967296:=by rw[ξy];omega
 have f6:IntKind.u64.wrap (n:Int)=(n:Int):=by rw[ξy];omega
 generalize 4294967295-n=m at f2 f3 f4 f5 HW;clear Y hn;unfold AM at HC⊢;go_enter func137,ntmps137;go_wp2_with(go_at_call 76;refine(HC _).mono ?_;rintro e w1 ⟨rfl,X⟩;rw[HE];have hl:=(Gr.refl w).alloc (.cells #[.int .i64 a,.int .i64 b,.int .i64 c] 64);have k0:=(X.cell (b:=w.heap.size) (by simp) 0).trans (ζF _ _ _ 0 rfl);have k1:=(X.cell (b:=w.heap.size) (by simp) 1).trans (ζF _ _ _ 1 rfl);have k2:=(X.cell (b:=w.heap.size) (by simp) 2).trans (ζF _ _ _ 2 rfl);have Z:=(hl.trans X));go_ret2;exact⟨BP (by rw[HW.o];rfl) rfl,Z⟩
def F8(x:Nat):Bool:=decide (x%4294967296/16777216=165)&&decide (x/4294967296=4294967295-x%4294967296)&&decide (x%256+x/256%256+x/65536%256<=255)
def tkH(x:Nat):Hdr:=if F8 x then ⟨(x%256:Nat),(x/256%256:Nat),(x/65536%256:Nat)⟩else ⟨0,0,0⟩
def tkE(x:Nat):Int:=if F8 x then 0 else 16
theorem UF(n:Nat)(hn:n<4294967296):bits .and .u32 (n:Int) 255=((n%256:Nat):Int):=by
 rw[show (255:Int)=((255:Nat):Int)from rfl,u32_and_nat n 255 hn Ω];have:n &&& 255=n%256:=Nat.and_two_pow_sub_one_eq_mod n 8;omega
theorem TR(W:World)(blk:Nat)(p q r:Value)(h0:W.cell? ⟨blk,0,none⟩=some p)(h1:W.cell? ⟨blk,1,none⟩=some q)(h2:W.cell? ⟨blk,2,none⟩=some r):(loadVar 64 ⟨blk,0,none⟩).run prog W=.ok (.agg #[p,q,r]) W:=by
 have a1:(isAgg 64).run prog W=.ok true W:=by kernel_rfl
 have a2:(sizeOf 64).run prog W=.ok 3 W:=by kernel_rfl
 simp[loadVar,Sem.run_bind,a1,a2,Result.andThen,loadCells,go_sem,h0,h1,h2]
theorem ZBB{ys:List Value}(hg:Gr ((w.alloc (.cells xs.toArray 64)).alloc (.cells ys.toArray 64)) w1):Rec w1 w.heap.size 64 xs/\Rec w1 (w.heap.size+1) 64 ys:=by
 refine⟨((Rec.new w _ xs).gr ((Gr.refl _).alloc _)).gr hg,?_⟩;have:=(Rec.new (w.alloc (.cells xs.toArray 64)) 64 ys).gr hg
 simp_all
theorem Z5{o o2:Obj}(hg:Gr ((w.alloc o).alloc o2) w1){x y z:Value}:Gr w (((w1.setCell ⟨w.heap.size,0,none⟩ x).setCell ⟨w.heap.size,1,none⟩ y).setCell ⟨w.heap.size,2,none⟩ z):=by
 have h1:AB (λk=>w.heap.size<=k) w w1:=((((Gr.refl w).alloc o).alloc o2).trans hg).touch _;have h2:=((h1.setCell (a:=⟨w.heap.size,0,none⟩) (λ_=>ϑ _) x).setCell (a:=⟨w.heap.size,1,none⟩) (λ_=>ϑ _) y).setCell (a:=⟨w.heap.size,2,none⟩) (λ_=>ϑ _) z;exact(h2.mono (λk hk h=>by omega)).gr
theorem XFZ(hx:x<18446744073709551616)(w:World):Calls prog 144 #[uU x] w λe w'=>e=.returned (.tuple #[AM (tkH x),iI (tkE x)])/\Gr w w':=by
 obtain⟨n,hn⟩:∃n,n=x%4294967296:=⟨_,rfl⟩;obtain⟨h,hh⟩:∃h,h=x/4294967296:=⟨_,rfl⟩;obtain⟨a,ha⟩:∃a,a=n%256:=⟨_,rfl⟩;obtain⟨b,hb⟩:∃b,b=n/256%256:=⟨_,rfl⟩;obtain⟨c,hc⟩:∃c,c=n/65536%256:=⟨_,rfl⟩;obtain⟨d,hd⟩:∃d,d=n/16777216:=⟨_,rfl⟩;obtain⟨m,hm⟩:∃m,m=4294967295-n:=⟨_,rfl⟩;have J:n<4294967296:=Ω
 have HT:Hid (F8 x=(decide (d=165)&&decide (h=m)&&decide (a+b+c<=255))/\tkH x=if F8 x then ⟨(a:Nat),(b:Nat),(c:Nat)⟩else ⟨0,0,0⟩):=⟨by
  have e1:x%256=a:=Ω
  have e2:x/256%256=b:=Ω
  have e3:x/65536%256=c:=Ω
  unfold tkH F8;rw[e1,e2,e3,<-hn,<-hd,<-hh,<-hm]
  exact⟨rfl,rfl⟩⟩
 have g0:(x:Int)%4294967296=(n:Int):=Ω
 have g5:(x:Int)/4294967296=(h:Int):=Ω
 have g1:bits .and .u32 (n:Int) 255=(a:Int):=by rw[UF n J,ha]
 have g2:bits .and .u32 ((n:Int)/256) 255=(b:Int):=by
  rw[show (n:Int)/256=((n/256:Nat):Int)by omega,UF _ Ω,hb]
 have g3:bits .and .u32 ((n:Int)/65536) 255=(c:Int):=by
  rw[show (n:Int)/65536=((n/65536:Nat):Int)by omega,UF _ Ω,hc]
 have g4:(n:Int)/16777216=(d:Int):=Ω
 have g6:bits .xor .u32 IntKind.u32.max (n:Int)=(m:Int):=by rw[Z2Y n J,hm]
 have ba:a<=255:=Ω
 have bb:b<=255:=Ω
 have bc:c<=255:=Ω
 have HC:=(λW=>QF ⟨a,b,c⟩ W)
 have V:C1 ⟨a,b,c⟩=if a+b+c<=255 then 0 else 15:=by
  unfold C1 inS;simp only[];rw[θ Ω,θ Ω,θ Ω];by_cases h:a+b+c<=255
  ·rw[φ h,θ Ω];rfl
  ·rw[ξ h,ζ Ω];rfl
 have M:=V;clear V;unfold AM at HC
 have KL:=(show ∀(W:World) (Y:Nat) (p q r:Value),W.cell? ⟨Y,0,none⟩=some p->W.cell? ⟨Y,1,none⟩=some q->W.cell? ⟨Y,2,none⟩=some r->(loadVar 64 ⟨Y,0,none⟩).run prog W=.ok (.agg #[p,q,r]) W by
  intro W Y p q r h0 h1 h2
  exact TR W Y p q r h0 h1 h2)
 clear hn hh ha hb hc hd hm J;by_cases t1:d=165
 ·have HT1:=t1;have d1:((d:Int) !=165)=false:=by rw[t1];rfl
  by_cases t2:h=m
  ·have HT2:=ι t2;have d2:((h:Int) !=(m:Int))=false:=by rw[t2];simp
   have d3:¬ ¬((h:Int)=bits .xor .u32 IntKind.u32.max (n:Int)):=by rw[g6,t2];simp
   by_cases t3:a+b+c<=255
   ·have HK:Hid (C1 ⟨a,b,c⟩=0):=⟨by rw[M,φ t3]⟩
    have HE:Hid (tkH x=⟨(a:Nat),(b:Nat),(c:Nat)⟩/\tkE x=0):=⟨by
     have:F8 x=true:=by rw[HT.o.1,θ t1,θ t2,θ t3];rfl
     unfold tkE;rw[HT.o.2,this];exact⟨rfl,rfl⟩⟩
    clear t1 t2 t3 HT;go_enter func144,ntmps144;go_wp2_with(go_at_call 76;refine(HC _).mono ?_;rintro e w1 ⟨rfl,X⟩;rw[HK.o];obtain⟨r1,r2⟩:=ZBB (xs:=[iI 0,iI 0,iI 0]) (ys:=[iI a,iI b,iI c]) X;have k0:=r1.cc 0;have k1:=r1.cc 1;have k2:=r1.cc 2;have kf:=r1.free;have k3:=r2.cc 0;have k4:=r2.cc 1;have k5:=r2.cc 2;have Z:=r1;have U:=X;clear X r1 r2);have R3:=Rec.set (Rec.set (Rec.set Z 0 (iI a)) 1 (iI b)) 2 (iI c);refine ζG (v:=.tuple #[AM ⟨a,b,c⟩,iI 0]) ?_ rfl ?_
    ·rw[results_cell_tmp rfl];have hl:=KL _ w.heap.size _ _ _ (R3.cc 0) (R3.cc 1) (R3.cc 2);simp[asAddr,Result.andThen,hl,AM]
    ·exact⟨by rw[HE.o.1,HE.o.2],Z5 U⟩
   ·have HK:Hid (C1 ⟨a,b,c⟩=15):=⟨by rw[M,ξ t3]⟩
    have HE:Hid (tkH x=⟨0,0,0⟩/\tkE x=16):=⟨by
     have:F8 x=false:=by rw[HT.o.1,ζ t3];simp
     unfold tkE;rw[HT.o.2,this];exact⟨rfl,rfl⟩⟩
    clear t1 t2 t3 HT;go_enter func144,ntmps144;go_wp2_with(go_at_call 76;refine(HC _).mono ?_;rintro e w1 ⟨rfl,X⟩;rw[HK.o];obtain⟨r1,r2⟩:=ZBB (xs:=[iI 0,iI 0,iI 0]) (ys:=[iI a,iI b,iI c]) X;have k0:=r1.cc 0;have k1:=r1.cc 1;have k2:=r1.cc 2;have kf:=r1.free;have k3:=r2.cc 0;have k4:=r2.cc 1;have k5:=r2.cc 2;have Z:=r1;have U:=X;clear X r1 r2);have R3:=Rec.set (Rec.set (Rec.set Z 0 (iI 0)) 1 (iI 0)) 2 (iI 0);refine ζG (v:=.tuple #[AM ⟨0,0,0⟩,iI 16]) ?_ rfl ?_
    ·rw[results_cell_tmp rfl];have hl:=KL _ w.heap.size _ _ _ (R3.cc 0) (R3.cc 1) (R3.cc 2);simp[asAddr,Result.andThen,hl,AM]
    ·exact⟨by rw[HE.o.1,HE.o.2],Z5 U⟩
  ·have d2:((h:Int) !=(m:Int))=true:=by simp;omega
   have d3:¬((h:Int)=bits .xor .u32 IntKind.u32.max (n:Int)):=by rw[g6];omega
   have HE:Hid (tkH x=⟨0,0,0⟩/\tkE x=16):=⟨by
    have:F8 x=false:=by rw[HT.o.1,ζ t2];simp
    unfold tkE;rw[HT.o.2,this];exact⟨rfl,rfl⟩⟩
   clear t1 t2 HT;go_enter func144,ntmps144;go_wp2;refine ζG (v:=.tuple #[AM ⟨0,0,0⟩,iI 16]) ?_ rfl ?_
   ·rw[results_cell_tmp rfl];simp[asAddr,Result.andThen,go_sem];rfl
   ·exact⟨by rw[HE.o.1,HE.o.2],((Gr.refl w).alloc _).alloc _⟩
 ·have d1:((d:Int) !=165)=true:=by simp;omega
  have d3:¬((d:Int)=165):=Ω
  have d4:¬((n:Int)/16777216=165):=Ω
  have HE:Hid (tkH x=⟨0,0,0⟩/\tkE x=16):=⟨by
   have:F8 x=false:=by rw[HT.o.1,ζ t1];simp
   unfold tkE;rw[HT.o.2,this];exact⟨rfl,rfl⟩⟩
  clear t1 HT;go_enter func144,ntmps144;go_wp2;refine ζG (v:=.tuple #[AM ⟨0,0,0⟩,iI 16]) ?_ rfl ?_
  ·rw[results_cell_tmp rfl];simp[asAddr,Result.andThen,go_sem];rfl
  ·exact⟨by rw[HE.o.1,HE.o.2],((Gr.refl w).alloc _).alloc _⟩
theorem VQ{a:Nat}(hs:a+b+c<=255)(i:Int)(w:World):Calls prog 143 #[AM ⟨a,b,c⟩,iI i] w λe w'=>e=.returned (iI (BO ⟨a,b,c⟩ i))/\Gr w w':=by
 have hN:CF ⟨a,b,c⟩=1+(a:Int)+b+c:=φ (EG hs);have HZ:=(λW=>LV ⟨a,b,c⟩ W)
 have HK:Hid (BO ⟨a,b,c⟩ i=if 0<=i/\i<(a:Int)+b+c then (if i<a then 1 else if i<(a:Int)+b then 2 else 3)else 0):=⟨by
  unfold BO;rw[hN];simp only[];by_cases h:0<=i/\i<(a:Int)+b+c
  ·rw[φ h,φ Ω]
  ·rw[ξ h,ξ Ω]⟩
 rw[hN]at HZ;unfold AM at HZ⊢;by_cases h0:i<0
 ·have HE:Hid (BO ⟨a,b,c⟩ i=0):=⟨by rw[HK.o,ξ Ω]⟩;go_enter func143,ntmps143;go_wp2;go_ret;exact⟨AS (by rw[HE.o]),(Gr.refl w).alloc _⟩
 ·by_cases h1:(a:Int)+b+c<=i
  ·have HE:Hid (BO ⟨a,b,c⟩ i=0):=⟨by rw[HK.o,ξ Ω]⟩;have d1:decide (1+(a:Int)+b+c-1<=i)=true:=θ Ω;go_enter func143,ntmps143;go_wp2_with(go_at_call 78;refine(HZ _).mono ?_;rintro e w1 ⟨rfl,X⟩;have Y:=(((Gr.refl w).alloc _).trans X));go_ret;exact⟨AS (by rw[HE.o]),Y⟩
  ·have d1:decide (1+(a:Int)+b+c-1<=i)=false:=ζ Ω;have HE:Hid (BO ⟨a,b,c⟩ i=if i<a then 1 else if i<(a:Int)+b then 2 else 3):=⟨by rw[HK.o,φ Ω]⟩;by_cases h2:i<a
   ·go_enter func143,ntmps143;go_wp2_with(go_at_call 78;refine(HZ _).mono ?_;rintro e w1 ⟨rfl,X⟩;have k0:=(X.cell (b:=w.heap.size) (by simp) 0).trans (ζF _ _ _ 0 rfl);have Y:=(((Gr.refl w).alloc _).trans X));go_ret;exact⟨AS (by rw[HE.o,φ h2]),Y⟩
   ·by_cases h3:i<(a:Int)+b
    ·go_enter func143,ntmps143;go_wp2_with(go_at_call 78;refine(HZ _).mono ?_;rintro e w1 ⟨rfl,X⟩;have k0:=(X.cell (b:=w.heap.size) (by simp) 0).trans (ζF _ _ _ 0 rfl);have k1:=(X.cell (b:=w.heap.size) (by simp) 1).trans (ζF _ _ _ 1 rfl);have Y:=(((Gr.refl w).alloc _).trans X));go_ret;exact⟨AS (by rw[HE.o,ξ Ω,φ h3]),Y⟩
    ·go_enter func143,ntmps143;go_wp2_with(go_at_call 78;refine(HZ _).mono ?_;rintro e w1 ⟨rfl,X⟩;have k0:=(X.cell (b:=w.heap.size) (by simp) 0).trans (ζF _ _ _ 0 rfl);have k1:=(X.cell (b:=w.heap.size) (by simp) 1).trans (ζF _ _ _ 1 rfl);have Y:=(((Gr.refl w).alloc _).trans X));go_ret;exact⟨AS (by rw[HE.o,ξ Ω,ξ Ω]),Y⟩
def spV(q:Nat):Value:=.iface 91 (pP q)
theorem XN(n:Nat)(a:Addr)(w:World):(nilAhead (n+1) 91 (.pointer (some a)) "Load").run prog w=.ok (some false) w:=by kernel_rfl
theorem VB(n:Nat)(a:Addr)(w:World):(method (n+1) 91 (.pointer (some a)) "Load").run prog w=.ok (216,.pointer (some a)) w:=by kernel_rfl
def Vm.rdH(v:Vm)(a:Int):Hdr:=if 0<a/\v.ldE a=0 then tkH (v.ldV a)else ⟨0,0,0⟩
def Vm.rdE(v:Vm)(a:Int):Int:=if a=0 then 18 else if a<0 then 5 else if v.ldE a=0 then tkE (v.ldV a)else v.ldE a
theorem AF.ldV_lt{v:Vm}(h:AF v)(a:Int):v.ldV a<18446744073709551616:=by
 unfold Vm.ldV
 split
 ·rw[ω];rcases υ (v.at a) v.pl.wd.length with hl|hl
  ·rw[η hl];exact h.pl.w64 _ (μ hl)
  simp_all
 ·decide
structure Sp where
 T:TypeId
 rv:Value
 FL:FuncId
 P:Int->Prop
 M:Prop
 D:Nat->Prop
 I:Vm->(Nat->Prop)->World->Prop
variable{z:Sp}
def Sp.v(z:Sp):Value:=.iface z.T z.rv
structure Sp.Ok(z:Sp):Prop where
 nl:∀n w,(nilAhead (n+1) z.T z.rv "Load").run prog w=.ok (some false) w
 ml:∀n w,(method (n+1) z.T z.rv "Load").run prog w=.ok (z.FL,z.rv) w
 cl:∀args w,(callFunc z.FL args).run prog w=.ok (.enter z.FL args) w
 nn:∀w,(binOp BinOp.eql 161 (.iface z.T z.rv) .nilIface).run prog w=.ok (.bool false) w
 ok:∀{u S w},z.I u S w->AF u
 fr:∀{u S S' T' w w'},z.I u S w->AB T' w w'->(∀k,k<w.heap.size->T' k->¬S k/\¬z.D k)->(∀k,S k->S' k)->z.I u S' w'
 nw:∀{u S w},z.I u S w->∀k,z.D k->k<w.heap.size
 ct:∀{u S w},z.I u S w->z.I u (AC S w) w
 ld:∀{u S w},z.I u S w->∀a,z.P a->Calls prog z.FL #[z.rv,iI a] w (λe w'=>e=.returned (.tuple #[uU (u.ldV a:Nat),iI (u.ldE a)])/\AB (λk=>z.M/\S k) w w'/\z.I u (plus S w) w')
def Sp.E(z:Sp)(u:Vm)(S:Nat->Prop)(w w':World):Prop:=AB (λk=>z.M/\S k) w w'/\z.I u (plus S w) w'
theorem Sp.Ok.gr(h:Sp.Ok z)(hI:z.I u S w)(g:Gr w w'):z.I u S w':=h.fr hI (g.touch (λ_=>False)) (λ_ _ h=>h.elim) (λ_ h=>h)
theorem Sp.Ok.mono(h:Sp.Ok z)(hI:z.I u S w)(hs:∀k,S k->S' k):z.I u S' w:=h.fr hI (AB.refl (λ_=>False) w) (λ_ _ h=>h.elim) hs
theorem Sp.Ok.get(h:Sp.Ok z)(hI:z.I u S w)(g:Gr w w'):z.E u S w w':=⟨g.touch _,h.mono (h.gr hI g) (λ_ h=>.inl h)⟩
theorem Sp.E.ro(h:z.E u S w w')(hM:¬z.M):Gr w w':=(h.1.mono (λ_ _ hk=>hM hk.1)).gr
theorem Sp.E.trans(h:z.E u S w w1)(k:z.E u (plus S w) w1 w')(hS:Sp.Ok z):z.E u S w w':=by
 have hz:=h.1.size;refine⟨h.1.trans' k.1 (λ_ hi hh=>⟨hh.1,hh.2.elim id (λh=>by omega)⟩),hS.mono k.2 (λi hi=>?_)⟩;rcases hi with h1|h1
 ·exact h1
 ·exact .inr Ω
theorem Sp.E.gr(h:z.E u S w w1)(g:Gr w1 w')(hS:Sp.Ok z):z.E u S w w':=⟨h.1.trans (g.touch _),hS.gr h.2 g⟩
theorem Sp.E.rec{t:Nat}(h:z.E u (AC S w) w1 w')(hr:Rec w1 b t xs)(hb:w.heap.size<=b):Rec w' b t xs:=hr.touch h.1 (λhh=>by have:=hh.2.2;omega)
theorem Sp.E.cells(h:z.E u (AC S w) w1 w')(hS:Sp.Ok z)(hI:z.I u S w)(g:Gr w w1)(hb:w.heap.size<=b)(hb1:b<w1.heap.size){w2:World}(t:AB (λk=>k=b) w' w2):z.E u S w w2:=by
 refine⟨(((g.touch (λk=>z.M/\S k)).trans' h.1 (λ_ _ hh=>⟨hh.1,hh.2.1⟩))).trans' t (λi hi hh=>by omega),hS.fr h.2 t (λi _ hh=>?_) (λi hi=>?_)⟩
 ·refine⟨λhp=>?_,λhd=>?_⟩
  ·rcases hp with hp|hp
   ·have:=hp.2;omega
   ·omega
  ·have:=hS.nw hI _ hd;omega
 ·rcases hi with h1|h1
  ·exact .inl h1.1
  ·exact .inr (β g.size h1)
theorem ZGx(W:World)(b:Nat)(x y z:Value):AB (λk=>k=b) W (((W.setCell ⟨b,0,none⟩ x).setCell ⟨b,1,none⟩ y).setCell ⟨b,2,none⟩ z):=
 (((AB.refl (λk=>k=b) W).setCell (a:=⟨b,0,none⟩) (λ_=>rfl) x).setCell (a:=⟨b,1,none⟩) (λ_=>rfl) y).setCell (a:=⟨b,2,none⟩) (λ_=>rfl) z
theorem NP(hS:Sp.Ok z)(hI:z.I u S w)(a:Int)(hP:0<a->z.P a):Calls prog 93 #[z.v,iI a] w λe w'=>e=.returned (.tuple #[AM (u.rdH a),iI (u.rdE a)])/\z.E u S w w':=by
 have HS:=hS;have HI:=hI;have U:=hS.ok hI;have hx:=U.ldV_lt a;have n1:=hS.nl;have n2:=hS.ml;have n3:=hS.cl;unfold Sp.v;have KL:=(λ(W:World) (blk:Nat) (p q r:Value)=>TR W blk p q r);rcases(by omega:a=0\/a<0\/0<a)with h0|h0|h0
 ·subst h0;go_enter func93,ntmps93;go_wp2;refine ζG (v:=.tuple #[AM ⟨0,0,0⟩,iI 18]) ?_ rfl ?_
  ·rw[results_cell_tmp rfl];simp[asAddr,Result.andThen,go_sem];rfl
  ·exact⟨rfl,HS.get HI ((Gr.refl w).alloc _)⟩
 ·have d0:(a==0)=false:=by simp;omega
  have d1:decide (a<0)=true:=θ h0;have HE:Hid (u.rdH a=⟨0,0,0⟩/\u.rdE a=5):=⟨⟨ξ Ω,by unfold Vm.rdE;rw[ξ Ω,φ h0]⟩⟩;go_enter func93,ntmps93;go_wp2;refine ζG (v:=.tuple #[AM ⟨0,0,0⟩,iI 5]) ?_ rfl ?_
  ·rw[results_cell_tmp rfl];simp[asAddr,Result.andThen,go_sem];rfl
  ·exact⟨by rw[HE.o.1,HE.o.2],HS.get HI ((Gr.refl w).alloc _)⟩
 ·have d0:(a==0)=false:=by simp;omega
  have d1:decide (a<0)=false:=ζ Ω;have Y:=(hS.ld (hS.gr (hS.ct hI) ((Gr.refl w).alloc (.cells #[.int .i64 0,.int .i64 0,.int .i64 0] 64))) a (hP h0));by_cases hE:u.ldE a=0
  ·have HE:Hid (u.rdH a=tkH (u.ldV a)/\u.rdE a=tkE (u.ldV a)):=⟨⟨φ ⟨h0,hE⟩,by unfold Vm.rdE;rw[ξ Ω,ξ Ω,φ hE]⟩⟩;have HT:=(λW=>XFZ hx W);have hh:AM (tkH (u.ldV a))=.agg #[iI (tkH (u.ldV a)).p,iI (tkH (u.ldV a)).f,iI (tkH (u.ldV a)).k]:=rfl;rw[hh]at HT;rw[hE]at Y;generalize tkH (u.ldV a)=h at HT HE;generalize tkE (u.ldV a)=er at HT HE;obtain⟨p,f,k⟩:=h;go_enter func93,ntmps93
   go_wp2_with(first
    | (go_at_call 144;refine(HT _).mono ?_;rintro e w2 ⟨rfl,V⟩;have r2:=Z.gr V;have k0:=r2.cc 0;have k1:=r2.cc 1;have k2:=r2.cc 2;have kf:=r2.free;have M:=r2;have N:=(J.o.gr V HS))
    | (refine Y.mono ?_;rintro e w1 ⟨rfl,X⟩;have J:Hid (z.E u (AC S w) _ w1):=⟨X⟩;have Z:=(Sp.E.rec (z:=z) X (Rec.new w 64 [iI 0,iI 0,iI 0]) (ϑ _))))
   have R3:=Rec.set (Rec.set (Rec.set M 0 (iI p)) 1 (iI f)) 2 (iI k);refine ζG (v:=.tuple #[AM ⟨p,f,k⟩,iI er]) ?_ rfl ?_
   ·rw[results_cell_tmp rfl];have hl:=KL _ w.heap.size _ _ _ (R3.cc 0) (R3.cc 1) (R3.cc 2);simp[asAddr,Result.andThen,hl,AM]
   ·exact⟨by rw[HE.o.1,HE.o.2],N.cells HS HI ((Gr.refl w).alloc _) (ϑ _) (by rw[γ];omega) (ZGx _ _ _ _ _)⟩
  ·have HE:Hid (u.rdH a=⟨0,0,0⟩/\u.rdE a=u.ldE a):=⟨⟨ξ (λh=>hE h.2),by unfold Vm.rdE;rw[ξ Ω,ξ Ω,ξ hE]⟩⟩;obtain⟨y,hy⟩:∃y,y=u.ldE a:=⟨_,rfl⟩;have d2:(y==0)=false:=by rw[hy];simpa using hE
   rw[<-hy]at Y;have HY:=ι hy;clear hE hy hS hI hP U;go_enter func93,ntmps93;go_wp2_with(refine Y.mono ?_;rintro e w1 ⟨rfl,X⟩;have J:Hid (z.E u (AC S w) _ w1):=⟨X⟩;have r2:=Sp.E.rec (z:=z) X (Rec.new w 64 [iI 0,iI 0,iI 0]) (ϑ _);have k0:=r2.cc 0;have k1:=r2.cc 1;have k2:=r2.cc 2;have kf:=r2.free;have Z:=r2);have R3:=Rec.set (Rec.set (Rec.set Z 0 (iI 0)) 1 (iI 0)) 2 (iI 0);refine ζG (v:=.tuple #[AM ⟨0,0,0⟩,iI y]) ?_ rfl ?_
   ·rw[results_cell_tmp rfl];have hl:=KL _ w.heap.size _ _ _ (R3.cc 0) (R3.cc 1) (R3.cc 2);simp[asAddr,Result.andThen,hl,AM]
   ·exact⟨by rw[HE.o.1,HE.o.2,HY.o],J.o.cells HS HI ((Gr.refl w).alloc _) (ϑ _) (by rw[γ];omega) (ZGx _ _ _ _ _)⟩
def spM(q:Nat):Sp:=⟨91,pP q,216,λ_=>True,False,λ_=>False,λu S w=>AD w S q u⟩
theorem SI(q:Nat):(spM q).Ok:=
 ⟨λn w=>XN n _ w,λn w=>VB n _ w,λargs w=>by kernel_rfl,λw=>by kernel_rfl,λh=>AD.ok h,λh t hT hs=>AD.mono (AD.touch h t (λk hk hl=>λht=>(hT k hl ht).1 hk)) hs,λ_ _ h=>h.elim,λh=>AD.cut h,
  λ{u S w} h a _=>(JV (S:=S) h a).mono λ_ _ hh=>⟨hh.1,hh.2.touch _,AD.mono (AD.gr h hh.2) (λ_ h=>.inl h)⟩⟩
section
variable{v:Vm}
theorem PS(hV:AD w S q v)(a:Int):Calls prog 93 #[spV q,iI a] w λe w'=>e=.returned (.tuple #[AM (v.rdH a),iI (v.rdE a)])/\Gr w w':=
 (NP (z:=spM q) (SI q) hV a (λ_=>trivial)).mono λ_ _ h=>⟨h.1,h.2.ro (λh=>h)⟩
end
def Vm.plE(v:Vm)(a i kd:Int):Int:=if v.rdE a≠0 then v.rdE a else if BO (v.rdH a) i=kd then 0 else if BO (v.rdH a) i=0 then 19 else 20
def Vm.plA(v:Vm)(a i kd:Int):Int:=if v.plE a i kd=0 then a+1+i else 0
def Vm.gtE(v:Vm)(a i kd:Int):Int:=if v.plE a i kd≠0 then v.plE a i kd else v.ldE (a+1+i)
def Vm.gtV(v:Vm)(a i kd:Int):Nat:=if v.plE a i kd≠0 then 0 else v.ldV (a+1+i)
def Vm.ptE(v:Vm)(a i:Int):Int:=if v.gtE a i 1≠0 then v.gtE a i 1 else if 2147483647<v.gtV a i 1 then 25 else 0
def Vm.ptV(v:Vm)(a i:Int):Nat:=if v.ptE a i=0 then v.gtV a i 1 else 0
theorem Jzk(h:tkE x=0):∃p f k:Nat,tkH x=⟨p,f,k⟩/\p+f+k<=255:=by
 unfold tkE at h
 split at h
 ·rename_i ho;refine⟨x%256,x/256%256,x/65536%256,φ ho,?_⟩;unfold F8 at ho
  simp_all
 ·cases h
theorem F3{v:Vm}(h:v.rdE a=0):0<a/\v.ldE a=0/\∃p f k:Nat,v.rdH a=⟨p,f,k⟩/\p+f+k<=255:=by
 unfold Vm.rdE at h
 split at h
 ·cases h
 ·split at h
  ·cases h
  ·split at h
   ·rename_i h0;have ha:0<a:=Ω
    refine⟨ha,h0,?_⟩;obtain⟨p,f,k,e1,e2⟩:=Jzk h;exact⟨p,f,k,by unfold Vm.rdH;simp_all,e2⟩
   omega
theorem K9{v:Vm}(h:v.ldE a=0):0<=a/\a<v.n:=by
 grind [AF.hit]
section
variable{v:Vm}
theorem P0(hS:Sp.Ok z)(hI:z.I v S w)(a i kd:Int)(hk:kd≠0)(hP:0<a->z.P a):Calls prog 196 #[z.v,iI a,iI i,iI kd] w λe w'=>e=.returned (.tuple #[iI (v.plA a i kd),iI (v.plE a i kd)])/\z.E v S w w':=by
 have HS:=hS;have hn:=(hS.ok hI).n2;have Y:=(NP hS hI a hP);by_cases hE:v.rdE a=0
 ·obtain⟨ha,hl,p,f,k,hh,hs⟩:=F3 hE;have hr:=K9 hl;rw[hh]at Y;have HP:Hid (v.plE a i kd=if BO ⟨p,f,k⟩ i=kd then 0 else if BO ⟨p,f,k⟩ i=0 then 19 else 20):=⟨by unfold Vm.plE;rw[ξ (λh=>h hE),hh]⟩;have HA:Hid (v.plA a i kd=if v.plE a i kd=0 then a+1+i else 0):=⟨rfl⟩;have HK:=(λW=>VQ hs i W);have hN:CF ⟨p,f,k⟩=1+(p:Int)+f+k:=φ (EG hs)
  have M:BO ⟨p,f,k⟩ i≠0->0<=i/\i<255:=λh=>by
   unfold BO at h
   split at h
   ·rename_i h';rw[hN]at h';omega
   ·exact absurd rfl h
  generalize BO ⟨(p:Int),(f:Int),(k:Int)⟩ i=kk at HP HK M;have HE:=hE;unfold AM at Y HK;by_cases h1:kk=kd
  ·have e0:v.plE a i kd=0:=by rw[HP.o,φ h1]
   have X:Hid (v.plE a i kd=0/\v.plA a i kd=a+1+i):=⟨⟨e0,by rw[HA.o,φ e0]⟩⟩;have hii:=M (by rw[h1];exact hk);go_enter func196,ntmps196
   go_wp2_with(first
    | (go_at_call 93;refine(Y).mono ?_;rintro e w1 ⟨rfl,Z⟩;rw[HE];have J:=Z)
    | (go_at_call 143;refine(HK _).mono ?_;rintro e w2 ⟨rfl,V⟩;have U:=V))
   go_ret2;exact⟨BP (BN (by rw[X.o.2])) (BN (by rw[X.o.1])),J.gr (((Gr.refl _).alloc _).trans U) HS⟩
  ·by_cases h2:kk=0
   ·have e0:v.plE a i kd=19:=by rw[HP.o,ξ h1,φ h2]
    have X:Hid (v.plE a i kd=19/\v.plA a i kd=0):=⟨⟨e0,by rw[HA.o,ξ (by rw[e0];decide)]⟩⟩;go_enter func196,ntmps196
    go_wp2_with(first
     | (go_at_call 93;refine(Y).mono ?_;rintro e w1 ⟨rfl,Z⟩;rw[HE];have J:=Z)
     | (go_at_call 143;refine(HK _).mono ?_;rintro e w2 ⟨rfl,V⟩;have U:=V))
    go_ret2;exact⟨BP (BN (by rw[X.o.2])) (BN (by rw[X.o.1])),J.gr (((Gr.refl _).alloc _).trans U) HS⟩
   ·have e0:v.plE a i kd=20:=by rw[HP.o,ξ h1,ξ h2]
    have X:Hid (v.plE a i kd=20/\v.plA a i kd=0):=⟨⟨e0,by rw[HA.o,ξ (by rw[e0];decide)]⟩⟩;go_enter func196,ntmps196
    go_wp2_with(first
     | (go_at_call 93;refine(Y).mono ?_;rintro e w1 ⟨rfl,Z⟩;rw[HE];have J:=Z)
     | (go_at_call 143;refine(HK _).mono ?_;rintro e w2 ⟨rfl,V⟩;have U:=V))
    go_ret2;exact⟨BP (BN (by rw[X.o.2])) (BN (by rw[X.o.1])),J.gr (((Gr.refl _).alloc _).trans U) HS⟩
 ·have e1:v.plE a i kd=v.rdE a:=by unfold Vm.plE;rw[φ hE]
  have X:Hid (v.plE a i kd=v.rdE a/\v.plA a i kd=0):=⟨⟨e1,by unfold Vm.plA;rw[ξ (by rw[e1];exact hE)]⟩⟩;obtain⟨y,hy⟩:∃y,y=v.rdE a:=⟨_,rfl⟩;have d2:(y==0)=false:=by rw[hy];simpa using hE
  rw[<-hy]at X Y;clear hE hy e1 hS hI hP;unfold AM at Y;go_enter func196,ntmps196;go_wp2_with(go_at_call 93;refine(Y).mono ?_;rintro e w1 ⟨rfl,Z⟩;have J:=Z);go_ret2;exact⟨BP (BN (by rw[X.o.2])) (BN (by rw[X.o.1])),J.gr ((Gr.refl _).alloc _) HS⟩
theorem XM(hS:Sp.Ok z)(hI:z.I v S w)(a i kd:Int)(hk:kd≠0)(hP:0<a->z.P a)(hQ:v.plE a i kd=0->z.P (a+1+i)):Calls prog 168 #[z.v,iI a,iI i,iI kd] w λe w'=>e=.returned (.tuple #[uU (v.gtV a i kd:Nat),iI (v.gtE a i kd)])/\z.E v S w w':=by
 have HS:=hS;have X:=(P0 hS hI a i kd hk hP);have n2:=hS.ml;have n3:=hS.cl;unfold Sp.v at X⊢;by_cases hE:v.plE a i kd=0
 ·have HE:Hid (v.gtE a i kd=v.ldE (a+1+i)/\v.gtV a i kd=v.ldV (a+1+i)):=⟨⟨ξ (λh=>h hE),ξ (λh=>h hE)⟩⟩;have HA:Hid (v.plA a i kd=a+1+i):=⟨φ hE⟩;rw[hE,HA.o]at X;have J:=(hQ hE);generalize a+1+i=U at HE X J;go_enter func168,ntmps168
  go_wp2_with(first
   | (go_at_call 196;refine(X).mono ?_;rintro e w1 ⟨rfl,Z⟩;have Y:=Z)
   | (refine(HS.ld Y.2 U J).mono ?_;rintro e w2 ⟨rfl,M⟩;have V:Hid (z.E v (plus S w) w1 w2):=⟨M⟩))
  go_ret2;exact⟨BP (congrArg (λn:Nat=>uU (n:Int)) HE.o.2.symm) (BN HE.o.1.symm),Y.trans V.o HS⟩
 ·have HE:Hid (v.gtE a i kd=v.plE a i kd/\v.gtV a i kd=0):=⟨⟨φ hE,φ hE⟩⟩;obtain⟨y,hy⟩:∃y,y=v.plE a i kd:=⟨_,rfl⟩;have d2:(y==0)=false:=by simp_all
  rw[<-hy]at HE X;clear hE hy hS hI hP hQ;go_enter func168,ntmps168;go_wp2_with(go_at_call 196;refine(X).mono ?_;rintro e w1 ⟨rfl,Z⟩;have Y:=Z);go_ret2;exact⟨BP (congrArg (λn:Nat=>uU (n:Int)) HE.o.2.symm) (BN HE.o.1.symm),Y⟩
theorem Jk4(hok:AF v)(a i kd:Int):v.gtV a i kd<18446744073709551616:=by
 unfold Vm.gtV
 split
 ·decide
 ·exact hok.ldV_lt _
theorem YJ(hS:Sp.Ok z)(hI:z.I v S w)(a i:Int)(hP:0<a->z.P a)(hQ:v.plE a i 1=0->z.P (a+1+i)):Calls prog 117 #[z.v,iI a,iI i] w λe w'=>e=.returned (.tuple #[iI (v.ptV a i:Nat),iI (v.ptE a i)])/\z.E v S w w':=by
 have HS:=hS;have X:=(XM hS hI a i 1 (by decide) hP hQ);have hx:=Jk4 (hS.ok hI) a i 1;unfold Sp.v at X⊢;by_cases hE:v.gtE a i 1=0
 ·by_cases hb:2147483647<v.gtV a i 1
  ·have e1:v.ptE a i=25:=by unfold Vm.ptE;rw[ξ (λh=>h hE),φ hb]
   have HE:Hid (v.ptE a i=25/\v.ptV a i=0):=⟨⟨e1,by unfold Vm.ptV;rw[ξ (by rw[e1];decide)]⟩⟩;rw[hE]at X;generalize v.gtV a i 1=x at X hb hx;have d0:decide (2147483647<(x:Int))=true:=θ Ω;go_enter func117,ntmps117;go_wp2_with(go_at_call 168;refine(X).mono ?_;rintro e w1 ⟨rfl,Y⟩;have Z:=Y);go_ret2;exact⟨BP (congrArg (λn:Nat=>iI (n:Int)) HE.o.2.symm) (BN HE.o.1.symm),Z⟩
  ·have e1:v.ptE a i=0:=by unfold Vm.ptE;rw[ξ (λh=>h hE),ξ hb]
   have HE:Hid (v.ptE a i=0/\v.ptV a i=v.gtV a i 1):=⟨⟨e1,by unfold Vm.ptV;rw[φ e1]⟩⟩;rw[hE]at X;generalize v.gtV a i 1=x at X hb hx HE;have d0:decide (2147483647<(x:Int))=false:=ζ Ω;go_enter func117,ntmps117;go_wp2_with(go_at_call 168;refine(X).mono ?_;rintro e w1 ⟨rfl,Y⟩;have Z:=Y);go_ret2;exact⟨BP (congrArg (λn:Nat=>iI (n:Int)) HE.o.2.symm) (BN HE.o.1.symm),Z⟩
 ·have e1:v.ptE a i=v.gtE a i 1:=by unfold Vm.ptE;rw[φ hE]
  have HE:Hid (v.ptE a i=v.gtE a i 1/\v.ptV a i=0):=⟨⟨e1,by unfold Vm.ptV;rw[ξ (by rw[e1];exact hE)]⟩⟩;obtain⟨y,hy⟩:∃y,y=v.gtE a i 1:=⟨_,rfl⟩;have d2:(y==0)=false:=by rw[hy];simpa using hE
  rw[<-hy]at HE X;clear hE hy hS hI e1 hP hQ;go_enter func117,ntmps117;go_wp2_with(go_at_call 168;refine(X).mono ?_;rintro e w1 ⟨rfl,Y⟩;have Z:=Y);go_ret2;exact⟨BP (congrArg (λn:Nat=>iI (n:Int)) HE.o.2.symm) (BN HE.o.1.symm),Z⟩
end
section
variable{v:Vm}
theorem JNY(hV:AD w S q v)(a i kd:Int)(hk:kd≠0):Calls prog 196 #[spV q,iI a,iI i,iI kd] w λe w'=>e=.returned (.tuple #[iI (v.plA a i kd),iI (v.plE a i kd)])/\Gr w w':=
 (P0 (z:=spM q) (SI q) hV a i kd hk (λ_=>trivial)).mono λ_ _ h=>⟨h.1,h.2.ro (λh=>h)⟩
theorem ZZi(hV:AD w S q v)(a i:Int):Calls prog 117 #[spV q,iI a,iI i] w λe w'=>e=.returned (.tuple #[iI (v.ptV a i:Nat),iI (v.ptE a i)])/\Gr w w':=
 (YJ (z:=spM q) (SI q) hV a i (λ_=>trivial) (λ_=>trivial)).mono λ_ _ h=>⟨h.1,h.2.ro (λh=>h)⟩
end
abbrev Lg:=List (Int×Nat)
variable{l:Lg}
def lgV(l:Lg):List Value:=l.flatMap λx=>[iI x.1,uU (x.2:Nat)]
structure DS(w:World)(S:Nat->Prop)(k:Nat)(sp:Value)(l:Lg):Prop where
 sk:S k
 ll:l.length<=1048576
 lv:∀x∈l,x.2<18446744073709551616
 row:∃vl,Rec w k 269 [sp,vl]/\w.ownsRow 0 276 2 vl l.length (lgV l)/\∀g,vl.ownBlock=some g->S g
theorem DS.touch(h:DS w S k sp l)(t:AB T w w')(hS:∀k,S k->k<w.heap.size->¬T k):DS w' S k sp l:=by
 obtain⟨h1,h2,h3,vl,hr,ho,hs⟩:=h;exact⟨h1,h2,h3,vl,hr.touch t (hS _ h1 hr.lt),BX ho t (λg hg=>hS g (hs g hg) (BE ho hg).2),hs⟩
theorem DS.gr(h:DS w S k sp l)(t:Gr w w'):DS w' S k sp l:=h.touch (t.touch (λ_=>False)) (λ_ _ _ h=>h)
theorem DS.mono(h:DS w S k sp l)(hT:∀k,S k->T k):DS w T k sp l:=by
 obtain⟨h1,h2,h3,vl,hr,ho,hs⟩:=h;exact⟨hT _ h1,h2,h3,vl,hr,ho,λg hg=>hT g (hs g hg)⟩
def VSi(why at':Int):Value:=.iface 309 (.agg #[iI why,iI at'])
theorem Y3(a:Addr)(w:World):(binOp BinOp.eql 161 (.iface 91 (.pointer (some a))) .nilIface).run prog w=.ok (.bool false) w:=by kernel_rfl
section
variable{v:Vm}
theorem UO(n:Nat)(a:Addr)(w:World):(nilAhead (n+1) 91 (.pointer (some a)) "Store").run prog w=.ok (some false) w:=by kernel_rfl
theorem TL(n:Nat)(a:Addr)(w:World):(method (n+1) 91 (.pointer (some a)) "Store").run prog w=.ok (217,.pointer (some a)) w:=by kernel_rfl
theorem Qbw:(prog.info? 276).map (λi=>(i.zero,i.size,i.bytes))=some (some (.agg #[iI 0,uU 0]),2,16):=by kernel_rfl
end
section
variable{v:Vm}
theorem Ypt(x y z r:Value):#[x,y,z]++((Array.replicate 19 undef).setIfInBounds 3 r).setIfInBounds 0 r =
  #[x, y, z, r, undef, undef, r, undef, undef, undef, undef, undef, undef, undef, undef, undef, undef, undef, undef, undef, undef, undef] := by kernel_rfl
theorem Jv4(p2 p5 p4:Addr)(w:World):CallsD prog 227 #[.pointer (some p2),.pointer (some p5),.pointer (some p4)] .returning w λe u' w'=>e=.returned (.tuple #[])/\u'=.returning/\w'=w:=by
 refine callsD_of_wpS func227 rfl λc₀ cs hu=>?_;apply wpS_seq;apply wpS_region;simp[wpOpsS,go_sem,recoverD,hu,ntmps227,Exit.thenS];rw[Ypt];refine wpS_of_wp ?_;go_wp2;refine⟨rfl,.returning,?_,_,ζl rfl _ _ _,rfl,rfl,rfl⟩;cases c₀
 simp_all
end
section
variable{v:Vm}
def EZ(w:World)(k:Nat):World:=((w.alloc (.cells #[.pointer (some ⟨k,0,none⟩)] 211)).alloc (.cells #[.int .i64 0,.int .i64 0] 215)).alloc (.cells #[.int .i64 0] 3)
theorem Zo0(W:World)(blk:Nat)(p q:Value)(h0:W.cell? ⟨blk,0,none⟩=some p)(h1:W.cell? ⟨blk,1,none⟩=some q):(loadVar 215 ⟨blk,0,none⟩).run prog W=.ok (.agg #[p,q]) W:=by
 have a1:(isAgg 215).run prog W=.ok true W:=by kernel_rfl
 have a2:(sizeOf 215).run prog W=.ok 2 W:=by kernel_rfl
 simp[loadVar,Sem.run_bind,a1,a2,Result.andThen,loadCells,go_sem,h0,h1]
def AN(w:World)(sp:Value):World:=(w.alloc (.cells #[.int .i64 0,.int .i64 0] 215)).alloc (.cells #[sp,.slice none 0 0] 269)
theorem Q7(w:World)(sp:Value):DS (AN w sp) (λi=>i=w.heap.size+1) (w.heap.size+1) sp []:=by
 have:=Rec.new (w.alloc (.cells #[.int .i64 0,.int .i64 0] 215)) 269 [sp,.slice none 0 0];rw[γ]at this;exact⟨rfl,ζf _,(λx hx=>by cases hx),.slice none 0 0,this,GP _ _ _ _,(λg hg=>by cases hg)⟩
end
def YP(v:Vm)(a b:Int):Prop:=v.rdE a=0/\∃i:Nat,(i:Int)<(v.rdH a).p/\v.ptE a i=0/\v.ptV a i≠0/\b=(v.ptV a i:Nat)
def Rch(v:Vm)(rs:List Int)(a:Int):Prop:=∀P:Int->Prop,(∀r∈rs,r≠0->P r)->(∀a b,P a->YP v a b->P b)->P a
theorem Rch.root{v:Vm}{r:Int}(h:r∈rs)(h0:r≠0):Rch v rs r:=λ_ h1 _=>h1 r h h0
theorem Rch.step{v:Vm}{b:Int}(h:Rch v rs a)(hp:YP v a b):Rch v rs b:=λP h1 h2=>h2 a b (h P h1 h2) hp
def Vm.osz(v:Vm)(a:Int):Int:=CF (v.rdH a)
structure DP(v:Vm)(rs:List Int)(n:Nat):Prop where
 rd:∀a,Rch v rs a->v.rdE a=0
 pt:∀a,Rch v rs a->∀i:Nat,(i:Int)<(v.rdH a).p->v.ptE a i=0
 rm:∀a,Rch v rs a->a+v.osz a<=n
 dj:∀a b,Rch v rs a->Rch v rs b->a=b\/a+v.osz a<=b\/b+v.osz b<=a
def Hs(L:List Ob)(a:Int):Prop:=∃o∈L,(o.1:Int)=a
structure Mk(v:Vm)(rs:List Int)(n:Nat)(L:List Ob):Prop where
 good:AP n L
 ats:∀o∈L,Rch v rs o.1/\v.rdE o.1=0/\(o.2:Int)=v.osz o.1
theorem Mk.nil(v:Vm)(rs:List Int)(n:Nat):Mk v rs n []:=⟨AP.nil n,λ_ h=>by cases h⟩
theorem DC{v:Vm}(h:v.rdE a=0):0<a/\1<=v.osz a/\v.osz a<=256:=by
 obtain⟨h0,-,p,f,k,e,hs⟩:=F3 h;refine⟨h0,?_⟩;unfold Vm.osz;rw[e,show CF ⟨p,f,k⟩=1+(p:Int)+f+k from φ (EG hs)];omega
theorem Mk.hs{v:Vm}(h:Mk v rs n L)(ha:Hs L a):Rch v rs a/\v.rdE a=0:=by
 obtain⟨o,ho,rfl⟩:=ha;exact⟨(h.ats o ho).1,(h.ats o ho).2.1⟩
theorem QH9{v:Vm}{b:Int}(hr:v.rdE a=0)(he:DA L n a (v.osz a)=0):Hs (C2 L n a (v.osz a)) b↔b=a\/Hs L b:=by
 have h0:=(DC hr).1;unfold C2 Hs;rw[φ he];constructor
 ·rintro⟨o,ho,rfl⟩;rcases GD.1 ho with rfl|ho
  ·left;omega
  grind
 ·rintro(rfl|⟨o,ho,rfl⟩)
  ·exact⟨_,GD.2 (.inl rfl),by omega⟩
  ·exact⟨o,GD.2 (.inr ho),rfl⟩
theorem Mk.add{v:Vm}(h:Mk v rs n L)(ha:Rch v rs a)(hr:v.rdE a=0)(he:DA L n a (v.osz a)=0):Mk v rs n (C2 L n a (v.osz a)):=by
 refine⟨V9U h.good _ _,λo ho=>?_⟩;have hp:=DC hr;unfold C2 at ho;rw[φ he]at ho;rcases GD.1 ho with rfl|ho
 ·grind
 ·exact h.ats o ho
theorem ZoS{s z:Int}(he:DA L n s z=0):(C2 L n s z).length=L.length+1:=by
 unfold C2;rw[φ he,YKx]
theorem Mk.fail{v:Vm}(h:Mk v rs n L)(ha:Rch v rs a)(hn:¬Hs L a)(he:DA L n a (v.osz a)≠0):¬DP v rs n:=λhS=>by
 have hr:=hS.rd a ha;have hp:=DC hr;have hm:=hS.rm a ha;unfold DA at he;rw[ξ Ω,ξ Ω]at he
 split at he
 ·rename_i hc;obtain⟨o,ho,h1,h2⟩:=SE.1 hc;obtain⟨q1,q2,q3⟩:=h.ats o ho;rcases hS.dj a o.1 ha q1 with e|e|e
  ·exact hn ⟨o,ho,e.symm⟩
  ·omega
  ·omega
 omega
def Cl(v:Vm)(L:List Ob)(a:Int):Prop:=∀i:Nat,(i:Int)<(v.rdH a).p->v.ptE a i=0/\(v.ptV a i≠0->Hs L (v.ptV a i:Nat))
structure BM(v:Vm)(rs:List Int)(n:Nat)(L:List Ob):Prop where
 mkd:Mk v rs n L
 all:∀a,Rch v rs a->Hs L a
 cl:∀o∈L,Cl v L o.1
theorem BM.of{v:Vm}(h:Mk v rs n L)(hr:∀r∈rs,r≠0->Hs L r)(hc:∀o∈L,Cl v L o.1):BM v rs n L:=by
 refine⟨h,λa ha=>ha (Hs L) hr ?_,hc⟩;rintro a b ⟨o,ho,rfl⟩ ⟨-,i,hi,h0,h1,rfl⟩;exact(hc o ho i hi).2 h1
theorem BM.sound{v:Vm}(h:BM v rs n L):DP v rs n:=by
 refine⟨λa ha=>(h.mkd.hs (h.all a ha)).2,λa ha i hi=>?_,λa ha=>?_,λa b ha hb=>?_⟩
 ·obtain⟨o,ho,rfl⟩:=h.all a ha;exact(h.cl o ho i hi).1
 ·obtain⟨o,ho,rfl⟩:=h.all a ha;have:=(h.mkd.good.sz o ho).2;have:=(h.mkd.ats o ho).2.2;omega
 ·obtain⟨o,ho,rfl⟩:=h.all a ha;obtain⟨q,hq,rfl⟩:=h.all b hb;have:=(h.mkd.ats o ho).2.2;have:=(h.mkd.ats q hq).2.2;rcases h.mkd.good.disj ho hq with e|e|e
  ·left;rw[e]
  ·omega
  omega
theorem YKj(h1:L.Pairwise (λo q=>o.1<q.1))(h2:M.Pairwise (λo q=>o.1<q.1))(h:∀x,x∈L↔x∈M):L=M:=by
 induction L generalizing M with
 | nil=>
  cases M with
  | nil=>rfl
  | cons m M=>grind [ζa]
 | cons l L ih=>
  cases M with
  | nil=>grind
  | cons m M=>
   obtain⟨a1,a2⟩:=ξh.1 h1;obtain⟨b1,b2⟩:=ξh.1 h2
   grind
theorem AP.lt(h:AP n L):L.Pairwise (λo q=>o.1<q.1):=by
 refine List.pairwise_iff_getElem.2 λi j hi hj hij=>?_;have:=h.at hi hj hij;have:=(h.sz _ (μ hi)).1;omega
theorem BM.unique{v:Vm}(h:BM v rs n L)(h':BM v rs n M):L=M:=by
 have X:∀{L M:List Ob},BM v rs n L->BM v rs n M->∀x∈L,x∈M:=λ{L M} h h' x hx=>by
  obtain⟨q1,q2,q3⟩:=h.mkd.ats x hx;obtain⟨o,ho,e⟩:=h'.all _ q1;obtain⟨p1,p2,p3⟩:=h'.mkd.ats o ho
  grind
 exact YKj h.mkd.good.lt h'.mkd.good.lt λx=>⟨X h h' x,X h' h x⟩
structure MkS where
 L:List Ob
 st:List Int
 lost:Bool
variable{s:MkS}
def MkS.push(s:MkS)(R:Nat)(L':List Ob)(a:Int):MkS:=if s.st.length<R then ⟨L',s.st++[a],s.lost⟩else ⟨L',s.st,true⟩
structure DK(s s':MkS):Prop where
 sub:∀a,Hs s.L a->Hs s'.L a
 len:s.L.length<=s'.L.length
 los:s'.lost=true->s.lost=true\/s.L.length<s'.L.length
 mea:2*s.L.length+s'.st.length<=2*s'.L.length+s.st.length
theorem DK.refl(s:MkS):DK s s:=⟨λ_ h=>h,ϑ _,λh=>.inl h,ϑ _⟩
theorem DK.trans{t u:MkS}(h:DK s t)(k:DK t u):DK s u:=
 ⟨λa ha=>k.sub a (h.sub a ha),β h.len k.len,λhl=>by
  rcases k.los hl with h1|h1
  ·rcases h.los h1 with h2|h2
   ·exact .inl h2
   ·exact .inr (κ h2 k.len)
  ·exact .inr (ξI h.len h1),by have:=h.mea;have:=k.mea;omega⟩
theorem Cl.mono{v:Vm}(hs:∀a,Hs L a->Hs M a)(h:Cl v L a):Cl v M a:=λi hi=>⟨(h i hi).1,λh0=>hs _ ((h i hi).2 h0)⟩
structure CE(v:Vm)(rs:List Int)(n R:Nat)(X:Int->Prop)(s:MkS):Prop where
 mkd:Mk v rs n s.L
 st:∀a∈s.st,Hs s.L a
 r:s.st.length<=R
 cl:∀a,Hs s.L a->Cl v s.L a\/a∈s.st\/s.lost=true\/X a
theorem CE.weak{v:Vm}(h:CE v rs n R X s)(hX:∀a,X a->Y a):CE v rs n R Y s:=
 ⟨h.mkd,h.st,h.r,λa ha=>(h.cl a ha).imp id (Or.imp id (Or.imp id (hX a)))⟩
theorem CE.push{v:Vm}(h:CE v rs n R X s)(ha:Rch v rs a)(hr:v.rdE a=0)(he:DA s.L n a (v.osz a)=0):
  CE v rs n R X (s.push R (C2 s.L n a (v.osz a)) a)/\DK s (s.push R (C2 s.L n a (v.osz a)) a)/\Hs (s.push R (C2 s.L n a (v.osz a)) a).L a:=by
 have hm:=h.mkd.add ha hr he;have hh:=λb=>QH9 (b:=b) hr he;have hl:=ZoS he;have Y:∀b,Hs s.L b->Hs (C2 s.L n a (v.osz a)) b:=λb hb=>(hh b).2 (.inr hb);unfold MkS.push
 split
 ·rename_i hR;refine⟨⟨hm,λb hb=>?_,by simp;omega,λb hb=>?_⟩,⟨Y,by simp_all,λh=>.inl h,by simp;omega⟩,(hh a).2 (.inl rfl)⟩
  ·rcases ζe.1 hb with hb|hb
   ·exact Y b (h.st b hb)
   simp_all
  ·rcases(hh b).1 hb with rfl|hb
   ·simp_all
   ·rcases h.cl b hb with h1|h1|h1|h1
    ·exact .inl (h1.mono Y)
    ·simp_all
    ·simp_all
    simp_all
 ·refine⟨⟨hm,λb hb=>Y b (h.st b hb),h.r,λb _=>.inr (.inr (.inl rfl))⟩,⟨Y,by simp_all,λ_=>.inr (by simp_all),by grind⟩,(hh a).2 (.inl rfl)⟩
theorem CE.pop{v:Vm}{st:List Int}{lost:Bool}(h:CE v rs n R X ⟨L,st++[a],lost⟩):CE v rs n R (λb=>X b\/b=a) ⟨L,st,lost⟩/\Hs L a:=by
 refine⟨⟨h.mkd,λb hb=>h.st b (ζe.2 (.inl hb)),by have:=h.r;grind,λb hb=>?_⟩,h.st a (ζe.2 (.inr (ζO.2 rfl)))⟩;rcases h.cl b hb with h1|h1|h1|h1
 ·exact .inl h1
 ·grind
 ·simp_all
 simp_all
theorem CE.done{v:Vm}(h:CE v rs n R X s)(hc:Cl v s.L a)(hX:∀b,X b->Y b\/b=a):CE v rs n R Y s:=
 ⟨h.mkd,h.st,h.r,λb hb=>by
  rcases h.cl b hb with h1|h1|h1|h1
  ·exact .inl h1
  ·simp_all
  ·simp_all
  grind⟩
def ClN(v:Vm)(L:List Ob)(a:Int)(k:Nat):Prop:=∀i:Nat,i<k->v.ptE a i=0/\(v.ptV a i≠0->Hs L (v.ptV a i:Nat))
theorem ClN.mono{v:Vm}(hs:∀a,Hs L a->Hs M a)(h:ClN v L a k):ClN v M a k:=λi hi=>⟨(h i hi).1,λh0=>hs _ ((h i hi).2 h0)⟩
theorem ClN.succ{v:Vm}(h:ClN v L a k)(h0:v.ptE a k=0)(h1:v.ptV a k≠0->Hs L (v.ptV a k:Nat)):ClN v L a (k+1):=λi hi=>by
 rcases υ i k with h2|h2
 ·exact h i h2
 grind
theorem ClN.cl{v:Vm}(h:ClN v L a k)(hk:(v.rdH a).p<=k):Cl v L a:=λi hi=>h i Ω
theorem CE.marks{v:Vm}(h:CE v rs n R X s)(hX:∀a,¬X a)(hst:s.st=[])(hlost:s.lost=false)(hr:∀r∈rs,r≠0->Hs s.L r):BM v rs n s.L:=by
 refine BM.of h.mkd hr λo ho=>?_;rcases h.cl o.1 ⟨o,ho,rfl⟩with h1|h1|h1|h1
 ·exact h1
 ·simp_all
 ·simp_all
 simp_all
theorem ZFY{v:Vm}(ha:Rch v rs a)(h:v.rdE a≠0):¬DP v rs n:=λhS=>h (hS.rd a ha)
theorem J7J{v:Vm}(ha:Rch v rs a)(hi:(i:Int)<(v.rdH a).p)(h:v.ptE a i≠0):¬DP v rs n:=λhS=>h (hS.pt a ha i hi)
def AJ(v:Vm):List Int->Int
 | []=>0
 | a :: r=>v.osz a+AJ v r
def BV(v:Vm):List Int->Int->Int->Int
 | [],_,_=>0
 | b :: r,t,a=>if b=a then t else BV v r (t+v.osz b) a
theorem UI(v:Vm)(a:Int):0<=v.osz a:=by
 unfold Vm.osz CF
 grind [RY]
theorem NG(v:Vm)(O P:List Int):AJ v (O++P)=AJ v O+AJ v P:=by
 induction O with
 | nil=>simp[AJ]
 | cons a r ih=>simp only[ζC,AJ,ih];omega
theorem GF(v:Vm)(O:List Int):0<=AJ v O:=by
 induction O with
 | nil=>simp[AJ]
 | cons a r ih=>have:=UI v a;simp only[AJ];omega
theorem LH(v:Vm)(hj:j<O.length):AJ v (O.take (j+1))=AJ v (O.take j)+v.osz O[j]:=by
 rw[List.take_add_one,η hj,NG];simp[AJ]
theorem RS(v:Vm)(O:List Int)(h:i<=j):AJ v (O.take i)<=AJ v (O.take j):=by
 have e:O.take j=O.take i++(O.take j).drop i:=by
  grind [ξJ,Nat.min_eq_left]
 rw[e,NG];have:=GF v ((O.take j).drop i);omega
theorem S8(v:Vm)(O:List Int)(j:Nat):AJ v (O.take j)<=AJ v O:=by
 have:=GF v (O.drop j)
 grind [NG,ξJ]
theorem YAF(v:Vm)(P:List Int)(t:Int)(h:a∈O):BV v (O++P) t a=BV v O t a:=by
 induction O generalizing t with
 | nil=>cases h
 | cons b r ih=>
  simp only[ζC,BV]
  grind
theorem UJ(v:Vm)(P:List Int)(t:Int)(h:a∉O):BV v (O++P) t a=BV v P (t+AJ v O) a:=by
 induction O generalizing t with
 | nil=>simp[AJ]
 | cons b r ih=>
  have hb:¬b=a:=λe=>h (by simp_all);simp only[ζC,BV,AJ,ξ hb]
  grind
theorem O8(v:Vm)(t:Int)(h:a∉O):BV v O t a=0:=by
 have:=UJ v [] t h;rw[List.append_nil]at this
 assumption
theorem WT(v:Vm)(hn:O.Nodup)(t:Int)(hj:j<O.length):BV v O t O[j]=t+AJ v (O.take j):=by
 have e:O=O.take j++O[j] :: O.drop (j+1):=by
  simp_all
 have Y:O[j]∉O.take j:=by
  grind
 have h:=UJ v (O[j] :: O.drop (j+1)) t Y;refine(congrArg (λX=>BV v X t O[j]) e).trans (h.trans ?_);rw[BV,φ rfl]
theorem VJ(v:Vm)(t:Int)(h:a∈O):t<=BV v O t a/\BV v O t a+v.osz a<=t+AJ v O:=by
 induction O generalizing t with
 | nil=>cases h
 | cons b r ih=>
  have h1:=GF v r;have h2:=UI v b;simp only[BV,AJ]
  grind
def CM(O:List Int)(a:Int):List Int:=if a=0\/a∈O then O else O++[a]
def DG(O l:List Int):List Int:=l.foldl CM O
theorem WN(O:List Int)(a:Int):∃X,CM O a=O++X:=by
 unfold CM
 split
 ·simp_all
 simp_all
theorem WY(O l:List Int):∃X,DG O l=O++X:=by
 induction l generalizing O with
 | nil=>exact⟨[],(List.append_nil _).symm⟩
 | cons a r ih=>
  obtain⟨X,hX⟩:=WN O a;obtain⟨Y,hY⟩:=ih (CM O a);exact⟨X++Y,by show DG (CM O a) r=_;simp_all⟩
theorem U8(O l:List Int)(a:Int):DG O (l++[a])=CM (DG O l) a:=by unfold DG;simp_all
theorem NV{b:Int}:b∈CM O a↔b∈O\/(b=a/\a≠0):=by
 unfold CM
 grind
theorem SU{l:List Int}{b:Int}:b∈DG O l↔b∈O\/(b∈l/\b≠0):=by
 induction l generalizing O with
 | nil=>simp[DG]
 | cons a r ih=>
  show b∈DG (CM O a) r↔_
  grind [NV]
theorem UK(h:O.Nodup)(a:Int):(CM O a).Nodup:=by
 unfold CM
 grind
theorem Z9(h:O.Nodup)(l:List Int):(DG O l).Nodup:=by
 induction l generalizing O with
 | nil=>exact h
 | cons a r ih=>exact ih (UK h a)
def DN(v:Vm)(a:Int):List Int:=(List.range (v.rdH a).p.toNat).map λi:Nat=>(v.ldV (a+1+i):Int)
theorem UA(v:Vm)(a:Int):(DN v a).length=(v.rdH a).p.toNat:=by unfold DN;simp
theorem XZ(v:Vm)(a:Int)(hi:i<(DN v a).length):(DN v a)[i]=(v.ldV (a+1+i):Int):=by simp only[DN,List.getElem_map,List.getElem_range]
def AT(v:Vm)(rs:List Int):Nat->List Int
 | 0=>DG [] rs
 | k+1=>if k<(AT v rs k).length then DG (AT v rs k) (DN v ((AT v rs k).getD k 0))else AT v rs k
theorem Zh5(v:Vm)(rs:List Int)(k:Nat):(AT v rs k).Nodup:=by
 induction k with
 | zero=>exact Z9 ξi _
 | succ k ih=>unfold AT;grind [Z9]
structure BR(v v':Vm):Prop where
 n:v'.n=v.n
 pt:v'.pt=v.pt
 pg:v'.pl.pg=v.pl.pg
 rm:v'.pl.rm=v.pl.rm
theorem BR.refl(v:Vm):BR v v:=⟨rfl,rfl,rfl,rfl⟩
theorem BR.trans{a b c:Vm}(h:BR a b)(k:BR b c):BR a c:=⟨k.n.trans h.n,k.pt.trans h.pt,k.pg.trans h.pg,k.rm.trans h.rm⟩
theorem BR.st(v:Vm)(a:Int)(x:Nat):BR v (v.st a x):=by
 unfold Vm.st
 split
 ·exact⟨rfl,rfl,rfl,rfl⟩
 ·exact BR.refl v
theorem BR.ldE{v:Vm}(h:BR v v')(a:Int):v'.ldE a=v.ldE a:=by unfold Vm.ldE;rw[h.n,h.pt,h.pg]
def cpV(u:Vm)(a t:Int):Nat->Vm
 | 0=>u
 | m+1=>(cpV u a t m).st (t+m) (u.ldV (a+m))
theorem V9(u:Vm)(a t:Int)(n:Nat):BR u (cpV u a t n):=by
 induction n with
 | zero=>exact BR.refl u
 | succ m ih=>exact ih.trans (BR.st _ _ _)
theorem ZI(h:AF u)(a t:Int)(n:Nat):AF (cpV u a t n):=by
 induction n with
 | zero=>exact h
 | succ m ih=>exact ih.st _ (h.ldV_lt _)
theorem Yrt(h:AF u)(a t:Int)(hm:∀m:Nat,m<n->u.ldE (t+m)=0)(b:Int):(cpV u a t n).ldV b=if t<=b/\b<t+n then u.ldV (a+(b-t))else u.ldV b:=by
 induction n with
 | zero=>rw[ξ Ω];rfl
 | succ m ih=>
  show ((cpV u a t m).st (t+m) (u.ldV (a+m))).ldV b=_
  rw[(ZI h a t m).st_ldV _ (by rw[(V9 u a t m).ldE];simp_all),ih (λj hj=>hm j Ω)]
  grind
structure DI(v:Vm)(rs:List Int)(L:List Ob)(to:Nat):Prop where
 ok:AF v
 mks:BM v rs v.n L
 pos:0<to
 ap:∀o∈L,o.1+o.2<=to\/to+sizes L<=o.1
 map:∀a:Nat,to<=a->a<to+sizes L->v.ldE a=0
 top:to+sizes L<=v.n
def Trn(v:Vm)(O:List Int)(k i j m:Nat):Prop:=1<=m/\((j<k/\(m:Int)<=(v.rdH (O.getD j 0)).p)\/(j=k/\m<=i))
structure Cpd(v v':Vm)(to:Nat)(O:List Int)(k i:Nat):Prop where
 ok:AF v'
 sm:BR v v'
 o:∀a:Int,¬(to<=a/\a<to+AJ v O)->v'.ldV a=v.ldV a
 raw:∀j (hj:j<O.length) (m:Nat),(m:Int)<v.osz O[j]->¬Trn v O k i j m->v'.ldV (to+AJ v (O.take j)+m)=v.ldV (O[j]+m)
 trn:∀j (hj:j<O.length) (m:Nat),(m:Int)<v.osz O[j]->Trn v O k i j m->(v'.ldV (to+AJ v (O.take j)+m):Int)=BV v O to (v.ldV (O[j]+m))
theorem Cpd.nil{v:Vm}(h:AF v)(to:Nat):Cpd v v to [] 0 0:=⟨h,BR.refl v,λ_ _=>rfl,λ_ h=>absurd h (ζA _),λ_ h=>absurd h (ζA _)⟩
theorem Q5{v:Vm}(h:v.rdE a=0):0<=(v.rdH a).p/\(v.rdH a).p<v.osz a:=by
 obtain⟨-,-,p,f,k,e,hs⟩:=F3 h;unfold Vm.osz;rw[e,show CF ⟨p,f,k⟩=1+(p:Int)+f+k from φ (EG hs)]
 grind
theorem XaN{v:Vm}(hz:∀o∈L,(o.2:Int)=v.osz o.1)(hn:O.Nodup)(h:∀a∈O,Hs L a):AJ v O<=sizes L:=by
 induction L generalizing O with
 | nil=>
  cases O with
  | nil=>exact ψB _
  | cons a r=>obtain⟨o,ho,-⟩:=h a (ζa ..);cases ho
 | cons o r ih=>
  have h1:=ih (λq hq=>hz q (τ _ hq)) (hn.erase (o.1:Int)) (λa ha=>by
   have hm:=(hn.mem_erase_iff).1 ha;obtain⟨q,hq,e⟩:=h a hm.2;rcases ζi.1 hq with rfl|hq
   ·omega
   ·exact⟨q,hq,e⟩)
  have h2:AJ v O<=AJ v (O.erase (o.1:Int))+v.osz o.1:=by
   clear ih h1 h hn
   induction O with
   | nil=>grind
   | cons a s ih=>
    rw[List.erase_cons];by_cases e:a=(o.1:Int)
    ·rw[φ (by simpa using e),e];simp only[AJ];omega
    ·rw[ξ (by simpa using e)];simp only[AJ];omega
  have h3:=hz o (ζa ..);simp only[sizes];omega
theorem VJ9{v:Vm}(hz:∀o∈L,(o.2:Int)=v.osz o.1)(hp:L.Pairwise (λo q=>o.1<q.1))(h:∀o∈L,(o.1:Int)∈O):(sizes L:Int)<=AJ v O:=by
 induction L generalizing O with
 | nil=>exact GF v O
 | cons o r ih=>
  have h1:=ih (O:=O.erase (o.1:Int)) (λq hq=>hz q (τ _ hq)) (ξh.1 hp).2 (λq hq=>by
   have:=(ξh.1 hp).1 q hq
   grind)
  have h2:AJ v (O.erase (o.1:Int))+v.osz o.1<=AJ v O:=by
   have hm:=h o (ζa ..);clear ih h1 h hp
   induction O with
   | nil=>cases hm
   | cons a s ih=>
    rw[List.erase_cons];by_cases e:a=(o.1:Int)
    ·rw[φ (by simpa using e),e];simp only[AJ];omega
    ·have:=ih ((ζi.1 hm).resolve_left (λe'=>e e'.symm));rw[ξ (by simpa using e)];simp only[AJ];omega
  have h3:=hz o (ζa ..);simp only[sizes];omega
theorem J7{v:Vm}{i:Int}(h:v.ptE a i=0):v.ptV a i=v.ldV (a+1+i)/\v.ldV (a+1+i)<=2147483647/\v.ldE (a+1+i)=0/\v.plE a i 1=0:=by
 have e1:v.ptV a i=v.gtV a i 1:=φ h;unfold Vm.ptE at h
 split at h
 ·omega
 ·rename_i hg;have hg:=ξD.1 hg
  split at h
  ·cases h
  ·rename_i hm;unfold Vm.gtE at hg
   split at hg
   ·omega
   ·rename_i hp;have e2:v.gtV a i 1=v.ldV (a+1+i):=ξ hp;omega
theorem Q8{i:Int}(h0:0<=i)(h1:i<h.p)(h2:h.p<CF h):BO h i=1:=by
 unfold BO;omega
theorem Xm6{v:Vm}(hr:v.rdE a=0)(hi:(i:Int)<(v.rdH a).p)(hl:v.ldE (a+1+i)=0)(hv:v.ldV (a+1+i)<=2147483647):v.ptE a i=0/\v.plE a i 1=0:=by
 have hk:v.plE a i 1=0:=by
  unfold Vm.plE;rw[ξ Ω,φ (Q8 Ω hi (Q5 hr).2)]
 refine⟨?_,hk⟩;have hg:v.gtE a i 1=0:=by unfold Vm.gtE;omega
 unfold Vm.ptE;rw[ξ Ω];have e2:v.gtV a i 1=v.ldV (a+1+i):=ξ Ω;omega
def FR(v:Vm)(L:List Ob):Prop:=∀o∈L,∀m:Nat,m<o.2->v.ldE (o.1+m)=0
section
variable{v:Vm}{to:Nat}
theorem DI.ob(c:DI v rs L to)(ha:Rch v rs a):∃o∈L,(o.1:Int)=a/\(o.2:Int)=v.osz a:=by
 obtain⟨o,ho,rfl⟩:=c.mks.all a ha;exact⟨o,ho,rfl,(c.mks.mkd.ats o ho).2.2⟩
theorem DI.sum(c:DI v rs L to)(hn:O.Nodup)(hR:∀a∈O,Rch v rs a):AJ v O<=sizes L:=
 XaN (λo ho=>(c.mks.mkd.ats o ho).2.2) hn (λa ha=>c.mks.all a (hR a ha))
theorem DI.same(c:DI v rs L to)(hf:FR v L)(hn:O.Nodup)(hR:∀a∈O,Rch v rs a)(h:Cpd v v' to O k i)(ha:Rch v rs a):
  0<a/\v'.rdE a=0/\v'.rdH a=v.rdH a/\∀m:Nat,(m:Int)<v.osz a->v'.ldE (a+m)=0/\v'.ldV (a+m)=v.ldV (a+m):=by
 obtain⟨o,ho,rfl,hz⟩:=c.ob ha;have hs:=c.sum hn hR;have hap:=c.ap o ho;have X:=c.mks.sound.rd _ ha;have hp:=DC X
 have hm:∀m:Nat,(m:Int)<v.osz o.1->v'.ldE (o.1+m)=0/\v'.ldV (o.1+m)=v.ldV (o.1+m):=λm hm=>
  ⟨by rw[h.sm.ldE];exact hf o ho m Ω,h.o _ Ω⟩
 have h0:=hm 0 Ω;rw[show (o.1:Int)+(0:Nat)=o.1 by omega]at h0;refine⟨hp.1,?_,?_,hm⟩
 ·unfold Vm.rdE at X⊢
  grind
 ·unfold Vm.rdH;rw[h0.2,h.sm.ldE]
theorem Trn.ext{X:List Int}(hj:j<O.length):Trn v (O++X) k i j m↔Trn v O k i j m:=by
 unfold Trn
 grind
theorem ZT(v:Vm){j' m':Nat}(hj:j<O.length)(hj':j' < O.length)(hm:(m:Int)<v.osz O[j])(hm':(m':Int)<v.osz O[j'])(h:AJ v (O.take j)+m=AJ v (O.take j')+m'):j=j'/\m=m':=by
 rcases ζZ j j' with h1|rfl|h1
 ·have e:=LH v hj;have:=RS v O (i:=j+1) (j:=j') Ω;omega
 ·omega
 ·have e:=LH v hj';have:=RS v O (i:=j' + 1) (j:=j) Ω;omega
theorem place_lt(v:Vm)(hj:j<O.length)(hm:(m:Int)<v.osz O[j]):AJ v (O.take j)+m<AJ v O:=by
 have e:=LH v hj;have:=S8 v O (j+1);omega
def LM(v:Vm)(O:List Int)(k i:Nat):Prop:=∀j (hj:j<O.length) (m:Nat),(m:Int)<v.osz O[j]->Trn v O k i j m->(v.ldV (O[j]+m):Int)=0\/(v.ldV (O[j]+m):Int)∈O
theorem Vqd(v:Vm)(X:List Int)(t:Int)(h0:(0:Int)∉O++X)(h:a=0\/a∈O):BV v (O++X) t a=BV v O t a:=by
 grind [O8,ζk,YAF]
theorem Cpd.take(c:DI v rs L to)(hf:FR v L)(hn:O.Nodup)(hR:∀a∈O,Rch v rs a)(h:Cpd v v' to O k i)(hK:LM v O k i)(hk:k<O.length\/(k=O.length/\i=0))(ha:Rch v rs a)(hna:a∉O)(z:Nat)(hz:(z:Int)=v.osz a):
  (∀m:Nat,m<z->v'.ldE (to+AJ v O+m)=0)/\(to:Int)+AJ v O+z<=v.n/\Cpd v (cpV v' a (to+AJ v O) z) to (O++[a]) k i/\LM v (O++[a]) k i:=by
 have M:(O++[a]).Nodup:=by
  rw[ζE];exact⟨hn,by simp,λx hx y hy e=>hna (by rw[ζO]at hy;rw[<-hy,<-e];exact hx)⟩
 have J:∀b∈O++[a],Rch v rs b:=λb hb=>by
  rcases ζe.1 hb with hb|hb
  ·exact hR b hb
  ·rw[ζO]at hb;rw[hb];exact ha
 have hs:=c.sum M J;have h0s:=GF v O;have hsa:AJ v (O++[a])=AJ v O+v.osz a:=by rw[NG];simp[AJ]
 have Z:∀m:Nat,m<z->v'.ldE (to+AJ v O+m)=0:=λm hm=>by
  rw[h.sm.ldE];have:=c.map (to+(AJ v O).toNat+m) Ω Ω;rw[<-this];congr 1;omega
 have htop:=c.top;have U:=(c.same hf hn hR h ha).2.2.2
 have V:(0:Int)∉O++[a]:=λhm=>by
  have:=(DC (c.mks.sound.rd _ (J 0 hm))).1;omega
 have Y:=Yrt h.ok a (to+AJ v O) Z;refine⟨Z,by omega,⟨ZI h.ok _ _ _,h.sm.trans (V9 _ _ _ _),λb hb=>?_,λj hj m hm hT=>?_,λj hj m hm hT=>?_⟩,λj hj m hm hT=>?_⟩
 ·rw[Y,ξ Ω];exact h.o b Ω
 ·rw[ζr,ξm]at hj;rcases υ j O.length with X|X
  ·simp only[ζH X]at hm⊢;have hl:=place_lt v X hm;have e1:(O++[a]).take j=O.take j:=by rw[ξS Ω]
   rw[e1,Y,ξ Ω];exact h.raw j X m hm (λht=>hT ((Trn.ext X).2 ht))
  ·obtain rfl:j=O.length:=Ω
   have e2:(O++[a])[O.length]'(by simp)=a:=by simp
   rw[e2]at hm;have e1:(O++[a]).take O.length=O:=by rw[ξS (ϑ _),ξd]
   rw[e1,Y,φ Ω,e2,show a+((to:Int)+AJ v O+m-(to+AJ v O))=a+m by omega];exact(U m hm).2
 ·rcases υ j O.length with X|X
  ·simp only[ζH X]at hm⊢;have hl:=place_lt v X hm;have e1:(O++[a]).take j=O.take j:=by rw[ξS Ω]
   have ht:=(Trn.ext (i:=i) (m:=m) X).1 hT;rw[e1,Y,ξ Ω,h.trn j X m hm ht];exact(Vqd v [a] to V (hK j X m hm ht)).symm
  ·obtain⟨h1,h2|h2⟩:=hT <;> omega
 ·rcases υ j O.length with X|X
  ·simp only[ζH X]at hm⊢;exact(hK j X m hm ((Trn.ext X).1 hT)).imp id (λh=>ζk _ h)
  ·obtain⟨h1,h2|h2⟩:=hT <;> omega
theorem Cpd.copy(c:DI v rs L to)(hn:O.Nodup)(hR:∀a∈O,Rch v rs a)(h:Cpd v v' to O k i)(hj:j<O.length){t:Int}(ht:t=to+AJ v (O.take j)):
  v'.rdE t=0/\v'.rdH t=v.rdH O[j]/\(j=k->∀m:Nat,i<=m->(m:Int)<(v.rdH O[j]).p->v'.ptE t m=0/\v'.ptV t m=v.ldV (O[j]+1+m)) ∧
   ∀m:Nat,(m:Int)<(v.rdH O[j]).p->v'.plE t m 1=0/\v'.ldE (t+1+m)=0:=by
 have ha:=hR _ (μ hj);have X:=c.mks.sound.rd _ ha;have hp:=DC X;have M:=Q5 X;have hs:=c.sum hn hR;have h0:=GF v (O.take j);have hpos:=c.pos
 have J:∀m:Nat,(m:Int)<v.osz O[j]->v'.ldE (t+m)=0:=λm hm=>by
  rw[h.sm.ldE];have hl:=place_lt v hj hm;have:=c.map (to+(AJ v (O.take j)).toNat+m) Ω Ω;rw[<-this];congr 1;omega
 have Z:=h.raw j hj 0 Ω (λhT=>absurd hT.1 Ω);have Y:=J 0 Ω;rw[show t+(0:Nat)=t by omega]at Y;rw[show (to:Int)+AJ v (O.take j)+(0:Nat)=t by omega,show O[j]+(0:Nat)=O[j]by omega]at Z
 have hE:v'.rdE t=0:=by
  have h1:=X;unfold Vm.rdE at h1⊢;rw[ξ Ω,ξ Ω,φ Y,Z];rw[ξ Ω,ξ Ω]at h1
  split at h1
  ·exact h1
  ·rename_i hx;exact absurd h1 hx
 have hH:v'.rdH t=v.rdH O[j]:=by
  have h1:=(F3 X).2.1;unfold Vm.rdH;rw[φ ⟨by omega,Y⟩,φ ⟨by omega,h1⟩,Z]
 refine⟨hE,hH,λhjk m hm1 hm2=>?_,λm hm=>?_⟩
 ·have U:((m+1:Nat):Int)<v.osz O[j]:=Ω
  have hr:=h.raw j hj (m+1) U (λhT=>by
   obtain⟨-,h2|h2⟩:=hT <;> omega)
  have hl:=J (m+1) U;rw[show (to:Int)+AJ v (O.take j)+(m+1:Nat)=t+1+m by omega,show O[j]+(m+1:Nat)=O[j]+1+m by omega]at hr;rw[show t+((m+1:Nat):Int)=t+1+m by omega]at hl;have V:=J7 (c.mks.sound.pt _ ha m hm2);have:=Xm6 (v:=v') (a:=t) (i:=m) hE (by rw[hH];exact hm2) hl (by rw[hr];exact V.2.1);refine⟨this.1,?_⟩;rw[(J7 this.1).1,hr]
 ·have hl:=J (m+1) Ω;rw[show t+((m+1:Nat):Int)=t+1+m by omega]at hl;refine⟨?_,hl⟩;unfold Vm.plE;rw[ξ Ω,hH,φ (Q8 Ω hm M.2)]
theorem Cpd.set(c:DI v rs L to)(hn:O.Nodup)(hR:∀a∈O,Rch v rs a)(h:Cpd v v' to O k i)(hK:LM v O k i)(hk:k<O.length){t:Int}(ht:t=to+AJ v (O.take k))(hi:(i:Int)<(v.rdH O[k]).p)
  (hx:(v.ldV (O[k]+1+i):Int)=0\/(v.ldV (O[k]+1+i):Int)∈O)  (hxx:(x:Int)=BV v O to (v.ldV (O[k]+1+i))) (hx2:x<18446744073709551616):
  Cpd v (v'.st (t+1+i) x) to O k (i+1)/\LM v O k (i+1):=by
 have ha:=hR _ (μ hk);have Y:=c.mks.sound.rd _ ha;have hpp:=Q5 Y;have h0:=GF v (O.take k);have hl:=((Cpd.copy c hn hR h hk ht).2.2.2 i hi).2;have X:=h.ok.st_ldV x hl;have hpl:=place_lt v hk (m:=i+1) Ω
 have hT:∀j m:Nat,Trn v O k (i+1) j m↔Trn v O k i j m\/(j=k/\m=i+1):=λj m=>by
  constructor
  ·rintro⟨h1,h2|h2⟩
   ·exact .inl ⟨h1,.inl h2⟩
   ·rcases υ i m with h3|h3
    ·exact .inr Ω
    ·exact .inl ⟨h1,.inr Ω⟩
  ·rintro(⟨h1,h2|h2⟩|⟨h1,h2⟩)
   ·exact⟨h1,.inl h2⟩
   ·exact⟨h1,.inr Ω⟩
   ·exact⟨by omega,.inr Ω⟩
 refine⟨⟨h.ok.st _ hx2,h.sm.trans (BR.st _ _ _),λb hb=>?_,λj hj m hm hnT=>?_,λj hj m hm hTT=>?_⟩,λj hj m hm hTT=>?_⟩
 ·rw[X,ξ Ω];exact h.o b hb
 ·have Z:¬(j=k/\m=i+1):=λe=>hnT ((hT j m).2 (.inr e));rw[X,ξ (λe=>Z (ZT v hj hk hm (m':=i+1) Ω Ω))];exact h.raw j hj m hm (λh'=>hnT ((hT j m).2 (.inl h')))
 ·by_cases e:j=k/\m=i+1
  ·obtain⟨rfl,rfl⟩:=e;rw[X,φ Ω,show O[j]+((i+1:Nat):Int)=O[j]+1+i by omega];exact hxx
  ·rw[X,ξ (λe'=>e (ZT v hj hk hm (m':=i+1) Ω Ω))];exact h.trn j hj m hm (((hT j m).1 hTT).resolve_right e)
 ·by_cases e:j=k/\m=i+1
  ·obtain⟨rfl,rfl⟩:=e;rw[show O[j]+((i+1:Nat):Int)=O[j]+1+i by omega];exact hx
  ·exact hK j hj m hm (((hT j m).1 hTT).resolve_right e)
theorem VR{v:Vm}(hk:k<O.length)(hi:(i:Int)=(v.rdH O[k]).p)(j m:Nat):Trn v O (k+1) 0 j m↔Trn v O k i j m:=by
 have e:O.getD k 0=O[k]:=by simp_all
 constructor
 ·rintro⟨h1,h2|h2⟩
  ·rcases υ j k with h3|h3
   ·exact⟨h1,.inl ⟨h3,h2.2⟩⟩
   ·obtain rfl:j=k:=Ω
    rw[e]at h2;exact⟨h1,.inr ⟨rfl,by omega⟩⟩
  ·omega
 ·rintro⟨h1,h2|h2⟩
  ·exact⟨h1,.inl ⟨by omega,h2.2⟩⟩
  ·obtain⟨rfl,h3⟩:=h2;exact⟨h1,.inl ⟨by omega,by rw[e];omega⟩⟩
theorem Cpd.next(h:Cpd v v' to O k i)(hK:LM v O k i)(hk:k<O.length)(hi:(i:Int)=(v.rdH O[k]).p):Cpd v v' to O (k+1) 0/\LM v O (k+1) 0:=
 ⟨⟨h.ok,h.sm,h.o,λj hj m hm hT=>h.raw j hj m hm (λh'=>hT ((VR hk hi j m).2 h')),λj hj m hm hT=>h.trn j hj m hm ((VR hk hi j m).1 hT)⟩,λj hj m hm hT=>hK j hj m hm ((VR hk hi j m).1 hT)⟩
theorem VqB(hR:∀a∈O,Rch v rs a){l:List Int}(hl:∀a∈l,a≠0->Rch v rs a):∀a∈DG O l,Rch v rs a:=λa ha=>by
 rcases SU.1 ha with h|⟨h,h0⟩
 ·exact hR a h
 simp_all
theorem JKk(c:DI v rs L to){b:Int}(hb:Rch v rs b):∀a∈DN v b,a≠0->Rch v rs a:=λa ha h0=>by
 obtain⟨i,hi,rfl⟩:=ζo ha;rw[XZ]at h0⊢;rw[UA]at hi;have Y:=c.mks.sound.rd _ hb;have X:=c.mks.sound.pt _ hb i Ω;have he:=J7 X;exact hb.step ⟨Y,i,by omega,X,by omega,by rw[he.1]⟩
theorem V16(c:DI v rs L to)(k:Nat):∀a∈AT v rs k,Rch v rs a:=by
 induction k with
 | zero=>exact VqB (λa h=>by cases h) (λa ha h0=>Rch.root ha h0)
 | succ k ih=>
  unfold AT
  grind [VqB,JKk,η,μ]
theorem VU(v:Vm)(rs:List Int)(k:Nat):∃X,AT v rs (k+1)=AT v rs k++X:=by
 show ∃X,(if k<(AT v rs k).length then DG (AT v rs k) (DN v ((AT v rs k).getD k 0))else AT v rs k)=AT v rs k++X
 split
 ·exact WY _ _
 simp_all
theorem YFK(v:Vm)(rs:List Int)(k:Nat):∀j,j<k->∀(hj:j<(AT v rs k).length),∀b∈DN v (AT v rs k)[j],b≠0->b∈AT v rs k:=by
 induction k with
 | zero=>omega
 | succ k ih=>
  intro j hjk hj b hb h0;by_cases hlt:k<(AT v rs k).length
  ·have e:AT v rs (k+1)=DG (AT v rs k) (DN v ((AT v rs k).getD k 0)):=by
    show (if _ then _ else _)=_
    simp_all
   obtain⟨X,hX⟩:=WY (AT v rs k) (DN v ((AT v rs k).getD k 0));have hjl:j<(AT v rs k).length:=Ω
   have e1:(AT v rs (k+1))[j]=(AT v rs k)[j]:=by
    simp_all
   rw[e1]at hb;rw[e];rcases υ j k with h1|h1
   ·grind
   ·obtain rfl:j=k:=Ω
    refine SU.2 (.inr ⟨?_,h0⟩)
    simp_all
  ·have e:AT v rs (k+1)=AT v rs k:=by
    show (if _ then _ else _)=_
    grind
   grind
theorem Zqu(v:Vm)(rs:List Int)(k:Nat):∀r∈rs,r≠0->r∈AT v rs k:=by
 induction k with
 | zero=>exact λr hr h0=>SU.2 (.inr ⟨hr,h0⟩)
 | succ k ih=>
  intro r hr h0;obtain⟨X,hX⟩:=VU v rs k
  simp_all
theorem DI.done(c:DI v rs L to)(hk:k=(AT v rs k).length):(∀a,Rch v rs a->a∈AT v rs k)/\AJ v (AT v rs k)=sizes L:=by
 have X:∀a,Rch v rs a->a∈AT v rs k:=λa ha=>by
  refine(ha (λb=>b∈AT v rs k/\Rch v rs b) (λr hr h0=>⟨Zqu v rs k r hr h0,Rch.root hr h0⟩) ?_).1;rintro x y ⟨hx,Y⟩ hp;refine⟨?_,Y.step hp⟩;obtain⟨-,i,hi,h0,h1,rfl⟩:=hp;obtain⟨j,hj,rfl⟩:=ζo hx;have he:=J7 h0;have hpp:=Q5 (c.mks.sound.rd _ Y);refine YFK v rs k j Ω hj _ ?_ Ω;rw[he.1];have Z:i<(DN v (AT v rs k)[j]).length:=by rw[UA];omega
  rw[<-XZ v _ Z]
  grind
 refine⟨X,?_⟩;have h1:=c.sum (Zh5 v rs k) (V16 c k);have h2:=VJ9 (v:=v) (λo ho=>(c.mks.mkd.ats o ho).2.2) c.mks.mkd.good.lt (O:=AT v rs k) (λo ho=>X _ (c.mks.mkd.ats o ho).1);omega
end
structure I6(v v':Vm):Prop where
 n:v'.n=v.n
 le:∀a:Int,v.ldE a=0->v'.ldE a=0/\v'.ldV a=v.ldV a
theorem BW.wider{v:Vm}(h:BW v v' F)(hv:AF v):I6 v v':=by
 refine⟨h.n,λa ha=>?_⟩;obtain⟨h0,h1⟩:=K9 ha;obtain⟨j,rfl⟩:∃j:Nat,a=j:=⟨a.toNat,by omega⟩;have hj:j<v.n:=Ω
 have hn:¬j/v.pl.pg∈F:=λhm=>by
  rw[hv.ldE_of hj,φ (h.un _ hm).2]at ha;cases ha
 rw[h.ldE hv hj,h.vl j hj,ξ hn,ξ hn];omega
theorem I6.rd{v:Vm}(h:I6 v v')(hr:v.rdE a=0):v'.rdE a=0/\v'.rdH a=v.rdH a:=by
 obtain⟨h0,h1,-⟩:=F3 hr;obtain⟨e1,e2⟩:=h.le a h1;unfold Vm.rdE at hr⊢;rw[ξ Ω,ξ Ω,φ h1]at hr;refine⟨by grind,?_⟩;unfold Vm.rdH
 simp_all
theorem I6.pt{v:Vm}(h:I6 v v')(hr:v.rdE a=0)(hi:(i:Int)<(v.rdH a).p)(hp:v.ptE a i=0):v'.ptE a i=0/\v'.ptV a i=v.ptV a i:=by
 obtain⟨e1,e2⟩:=h.rd hr;have X:=J7 hp;obtain⟨e3,e4⟩:=h.le _ X.2.2.1;have:=Xm6 (v:=v') (a:=a) (i:=i) e1 (by simp_all) e3 Ω;exact⟨this.1,by rw[(J7 this.1).1,X.1,e4]⟩
theorem I6.rch{v:Vm}(h:I6 v v')(hS:DP v rs n)(a:Int):Rch v' rs a↔Rch v rs a:=by
 constructor
 ·intro ha;refine ha (λb=>Rch v rs b) (λr hr h0=>Rch.root hr h0) ?_;rintro b c hb ⟨-,i,hi,h0,h1,rfl⟩;have X:=hS.rd b hb;rw[(h.rd X).2]at hi;have hp:=h.pt X hi (hS.pt b hb i hi);rw[hp.2]at h1⊢;exact hb.step ⟨X,i,hi,hS.pt b hb i hi,h1,rfl⟩
 ·intro ha;refine(ha (λb=>Rch v' rs b/\Rch v rs b) (λr hr h0=>⟨Rch.root hr h0,Rch.root hr h0⟩) ?_).1;rintro b c ⟨hb,Y⟩ hp;refine⟨?_,Y.step hp⟩;obtain⟨X,i,hi,h0,h1,rfl⟩:=hp;have hp:=h.pt X hi h0;rw[<-hp.2];exact hb.step ⟨(h.rd X).1,i,by rw[(h.rd X).2];exact hi,hp.1,by omega,rfl⟩
theorem I6.marks{v:Vm}(h:I6 v v')(hM:BM v rs n L):BM v' rs n L:=by
 have hS:=hM.sound;refine⟨⟨hM.mkd.good,λo ho=>?_⟩,λa ha=>hM.all a ((h.rch hS a).1 ha),λo ho i hi=>?_⟩
 ·obtain⟨h1,h2,h3⟩:=hM.mkd.ats o ho;obtain⟨e1,e2⟩:=h.rd h2;exact⟨(h.rch hS _).2 h1,e1,by rw[h3];unfold Vm.osz;rw[e2]⟩
 ·obtain⟨h1,h2,-⟩:=hM.mkd.ats o ho;rw[(h.rd h2).2]at hi;obtain⟨c1,c2⟩:=hM.cl o ho i hi;have hp:=h.pt h2 hi c1
  simp_all
def umN(v:Vm)(q0:Nat):Nat->Vm
 | 0=>v
 | k+1=>(umN v q0 k).um ((q0+k:Nat):Int)
theorem ZW(v:Vm)(p:Int):(v.um p).n=v.n/\(v.um p).pl.pg=v.pl.pg/\(v.um p).pl.rm=v.pl.rm/\(v.um p).pt.length=v.pt.length:=by
 unfold Vm.um
 split
 ·exact⟨rfl,rfl,rfl,ζb⟩
 omega
theorem L7(v:Vm)(q0 k:Nat):(umN v q0 k).n=v.n/\(umN v q0 k).pl.pg=v.pl.pg/\(umN v q0 k).pl.rm=v.pl.rm/\(umN v q0 k).pt.length=v.pt.length:=by
 induction k with
 | zero=>exact⟨rfl,rfl,rfl,rfl⟩
 | succ k ih=>
  obtain⟨h1,h2,h3,h4⟩:=ZW (umN v q0 k) ((q0+k:Nat):Int);exact⟨h1.trans ih.1,h2.trans ih.2.1,h3.trans ih.2.2.1,h4.trans ih.2.2.2⟩
theorem QD{v:Vm}(h:AF v)(q0 k:Nat):AF (umN v q0 k):=by
 induction k with
 | zero=>exact h
 | succ k ih=>exact ih.um _
theorem WD{v:Vm}(h:AF v)(q0 k:Nat){a:Nat}(ha:a<v.n):(umN v q0 k).ldE a=if q0<=a/v.pl.pg/\a/v.pl.pg<q0+k then 12 else v.ldE a:=by
 induction k with
 | zero=>rw[ξ Ω];rfl
 | succ k ih=>
  obtain⟨s1,s2,-,s4⟩:=L7 v q0 k;have X:=QD h q0 k
  show ((umN v q0 k).um ((q0+k:Nat):Int)).ldE a=_
  by_cases hf:frE (umN v q0 k).pt ((q0+k:Nat):Int)=0
  ·rw[X.um_ldE hf Ω,s2,ih];omega
  ·rw[Q1 hf];by_cases e:a/v.pl.pg=q0+k
   ·have h1:=X.ldE_of (a:=a) Ω;rw[s2,e]at h1;have hl:q0+k<(umN v q0 k).pt.length:=by rw[s4,<-e];exact(h.split ha).1
    rw[MK hl]at hf;omega
   omega
theorem VIn{v:Vm}(h:AF v)(q0 k:Nat){a:Nat}(ha:a<v.n)(hn:¬(q0<=a/v.pl.pg/\a/v.pl.pg<q0+k)):(umN v q0 k).ldV a=v.ldV a:=by
 induction k with
 | zero=>rfl
 | succ k ih=>
  obtain⟨s1,s2,-,-⟩:=L7 v q0 k;have X:=QD h q0 k
  show ((umN v q0 k).um ((q0+k:Nat):Int)).ldV a=_
  by_cases hf:frE (umN v q0 k).pt ((q0+k:Nat):Int)=0
  ·rw[X.um_ldV hf Ω (by grind)];omega
  grind [Q1]
def mkV(v:Vm)(a:Int)(x:Nat):Nat->Vm
 | 0=>v.st a x
 | m+1=>(mkV v a x m).st (a+1+m) 0
def mkE(v:Vm)(a:Int):Nat->Int
 | 0=>v.ldE a
 | m+1=>if mkE v a m≠0 then mkE v a m else v.ldE (a+1+m)
theorem QBF(v:Vm)(a:Int)(x:Nat)(m:Nat)(b:Int):(mkV v a x m).ldE b=v.ldE b:=by
 induction m with
 | zero=>exact F2 ..
 | succ m ih=>unfold mkV;rw[F2,ih]
theorem ZGy{v:Vm}(h:mkE v a m≠0)(hn:m<=n):mkE v a n=mkE v a m:=by
 induction n with
 | zero=>simp_all
 | succ n ih=>
  rcases υ n m with h'|h'
  ·grind
  ·have:=ih h'
   show (if mkE v a n≠0 then mkE v a n else _)=_
   omega
theorem Xln{v:Vm}(h:mkE v a m=0):v.ldE a=0:=by
 induction m with
 | zero=>exact h
 | succ m ih=>
  refine ih (ξD.1 λhn=>?_);have h:(if mkE v a m≠0 then mkE v a m else v.ldE (a+1+m))=0:=h;rw[φ hn]at h;exact hn h
section
variable{v:Vm}
def wkS(w:World)(k i:Nat):Prop:=i=k\/w.heap.size<=i
end
theorem Xnm(args:Array Value)(w:World):(callFunc 138 args).run prog w=.ok (.enter 138 args) w:=by kernel_rfl
theorem X1o(x y:Value)(w:World):(Instr.field 215 (.agg #[x,y]) 0).run prog w=.ok x w:=by kernel_rfl
section
variable{v:Vm}
def GY(v:Vm)(a:Int)(h:Hdr):Int:=if a<=0 then 5 else if C1 h≠0 then 15 else mkE v a (h.p+h.f+h.k).toNat
def mkVm(v:Vm)(a:Int)(h:Hdr):Vm:=if GY v a h=0 then mkV v a (CY h.p.toNat h.f.toNat h.k.toNat) (h.p+h.f+h.k).toNat else v
theorem YB{a:Nat}(hs:a+b+c<=255):CY a b c<18446744073709551616:=by
 have:=Vts hs;unfold CY;omega
end
def cwL(v:Vm)(a:Int)(n m:Nat):List Nat:=(List.range n).map λj=>if j<m then v.ldV (a+j)else 0
theorem QGZ(v:Vm)(a:Int)(n m:Nat):(cwL v a n m).length=n:=by simp[cwL]
theorem NT(v:Vm)(a:Int)(hj:j<n):(CO (cwL v a n m))[j]?=some (uU ((if j<m then v.ldV (a+j)else 0:Nat):Int)):=by
 rw[ZpD (by grind [QGZ])];simp[cwL]
theorem Z0I(v:Vm)(a:Int)(n m:Nat):(CO (cwL v a n m)).set m (uU (v.ldV (a+m):Nat))=CO (cwL v a n (m+1)):=by
 apply List.ext_getElem?;intro j;rw[ψo];have hl:∀m,(CO (cwL v a n m)).length=n:=λm=>by simp[CO,cwL]
 grind [NT]
theorem YkC(v:Vm)(a:Int)(n:Nat):CO (cwL v a n 0)=List.replicate n (uU 0):=by
 apply List.ext_getElem?;intro j;by_cases hj:j<n
 ·rw[NT v a hj,ξr,φ hj];rfl
 ·rw[ζN (by simp[CO,cwL];omega),ξr,ξ hj]
theorem YJ3(n:Nat):(madeCells #[uU 0] n).toList=List.replicate n (uU 0):=by
 unfold madeCells;apply ξs
 ·simp
 grind
section
variable{v:Vm}
def cpG(q:Nat)(S2:Nat->Prop)(v:Vm)(a t:Int)(n:Nat)(w1:World):Prop:=AD w1 S2 q (cpV v a t n)
structure YU(w wg wr:World)(S2:Nat->Prop)(k q g:Nat)(v:Vm)(a t:Int)(n m:Nat)(l:Lg):Prop where
 wk:DS wr (wkS wg k) k (spV q) l
 vm:AD wr S2 q (cpV v a t m)
 ll:l.length=m
 row:wr.ownsRow 0 37 1 (.slice (some ⟨g,0,none⟩) n n) n (CO (cwL v a n n))
 t:AB (λi=>wkS w k i\/S2 i) w wr
 wz:wg.heap.size<=wr.heap.size
 gk:g≠k
theorem Z5j(args:Array Value)(w:World):(callFunc 246 args).run prog w=.ok (.enter 246 args) w:=by kernel_rfl
theorem QRl(hV:AD w S q v){i:Int}(hp:v.plE a i 1=0)(hx:x<=2147483647):Calls prog 142 #[spV q,iI a,iI i,iI x] w λe w'=>e=.returned (iI (v.ldE (a+1+i)))/\AB S w w'/\AD w' (plus S w) q (v.st (a+1+i) x):=by
 have X:=(JNY hV a i 1 (by decide));have hA:v.plA a i 1=a+1+i:=φ hp;rw[hp,hA]at X;have n1:=UO;have n2:=TL;have d0:decide ((x:Int)<0)=false:=ζ Ω;have d1:decide (2147483647<(x:Int))=false:=ζ Ω;have hw:IntKind.u64.wrap (x:Int)=(x:Int):=by rw[ξy];omega
 have Z:=(λ(w':World) (g:Gr w w')=>MF (hV.cut.gr g) (a+1+i) (x:=x) Ω);generalize a+1+i=at' at X Z⊢;unfold spV at X⊢;go_enter func142,ntmps142
 go_wp2_with(first
  | (go_at_call 196;refine X.mono ?_;rintro e w1 ⟨rfl,U⟩;have Y:=U)
  | (go_at_call 217;refine(Z _ Y).mono ?_;rintro e w2 ⟨rfl,V,N⟩;have J:=V;have M:=N))
 go_ret;exact⟨rfl,(Y.touch S).trans (J.mono (λi _ hi=>hi.1)),M.mono (λi hi=>.inl hi.1)⟩
end
section
variable{F:Nat}{caps:Array Value}{Sx:Nat->Prop}{G:World->Prop}
def PU(Sx:Nat->Prop)(w0:World)(G:World->Prop)(e:Ending)(w1:World):Prop:=AB Sx w0 w1/\e=.returned (.tuple #[])/\G w1
def YX(w:World)(k:Nat)(Sx:Nat->Prop)(G:World->Prop)(e:Ending)(w':World):Prop:=
 ∃w1,AB Sx (EZ w k) w1/\G w1/\e=.returned (.agg #[iI 0,iI 0])/\w'=(w1.setCell ⟨w.heap.size+1,0,none⟩ (.int .i64 0)).setCell ⟨w.heap.size+1,1,none⟩ (.int .i64 0)
theorem XQn(hcf:∀args w,(callFunc F args).run prog w=.ok (.enter F args) w)(hW:DS w S k sp [])(hF:Calls prog F (#[pP k]++caps) (EZ w k) (PU Sx (EZ w k) G))(hx:∀i,w.heap.size<=i->i<=w.heap.size+2->¬Sx i):
  Calls prog 177 #[pP k,.func (.func F) #[] caps] w (YX w k Sx G):=by
 have hmf:∀(fn:Fn) (first cap:Array Value) (w:World),(Instr.makeFunc fn first cap).run prog w=.ok (.func fn first cap) w:=λ_ _ _ _=>rfl;obtain⟨vl,hr,ho,-⟩:=hW.row;obtain⟨A,c,rfl,hc1,hc2⟩:=C7 ho;have c1:=hr.cc 1;have hkl:=hr.lt
 go_enter_defers func177,ntmps177
 have Z:Rec (EZ w k) (w.heap.size+1) 215 [iI 0,iI 0]:=by
  have:=Rec.gr (Rec.new (w.alloc (.cells #[.pointer (some ⟨k,0,none⟩)] 211)) 215 [iI 0,iI 0]) ((Gr.refl _).alloc (.cells #[.int .i64 0] 3));rw[γ]at this;exact this
 go_wp2;refine hF.mono ?_;rintro e w1 ⟨Y,rfl,HG⟩;have X:=Z.touch Y (hx _ Ω Ω);have k0:=X.cc 0;have k1:=X.cc 1;have kf:=X.free;go_wp2;have R6:=Rec.set (Rec.set X 0 (iI 0)) 1 (iI 0);refine leaves_cons (f:=227) (args:=#[pP w.heap.size,pP (w.heap.size+1+1),pP (w.heap.size+1)]) (by simp) (by simp[go_sem]) ?_;refine(Jv4 _ _ _ _).mono ?_;rintro e u' w2 ⟨rfl,rfl,rfl⟩;have hl:=Zo0 _ (w.heap.size+1) _ _ (R6.cc 0) (R6.cc 1);simp only[Leaves,settle];refine⟨_,?_,w1,Y,HG,rfl,rfl⟩;simp[results,results177,asAddr,hl]
def Q2l(w:World)(sp:Value)(Sx:Nat->Prop)(G:World->Prop)(e:Ending)(w':World):Prop:=
 ∃w1,AB Sx (EZ (AN w sp) (w.heap.size+1)) w1/\G w1/\e=.returned (.agg #[iI 0,iI 0])/\AB (λi=>w.heap.size<=i) w1 w'
theorem X5(hsp:∃T rv,sp=.iface T rv)(hcf:∀args w,(callFunc F args).run prog w=.ok (.enter F args) w)
  (hF:Calls prog F (#[pP (w.heap.size+1)]++caps) (EZ (AN w sp) (w.heap.size+1)) (PU Sx (EZ (AN w sp) (w.heap.size+1)) G))
  (hx:∀i,w.heap.size<=i->i<=w.heap.size+4->i≠w.heap.size+1->¬Sx i):
  Calls prog 128 #[sp,.func (.func F) #[] caps] w (Q2l w sp Sx G):=by
 obtain⟨T,rv,rfl⟩:=hsp;have Y:(AN w (.iface T rv)).heap.size=w.heap.size+2:=by unfold AN;rw[γ,γ]
 have HP:=(XQn (k:=w.heap.size+1) (w:=AN w (.iface T rv)) (Sx:=Sx) (G:=G) hcf (Q7 w _) hF (by rw[Y];exact λi h1 h2=>hx i Ω Ω Ω));have U:=(Rec.gr (Rec.new w 215 [iI 0,iI 0]) ((Gr.refl _).alloc (.cells #[.iface T rv,.slice none 0 0] 269)))
 have V:Hid (∀e w',YX (AN w (.iface T rv)) (w.heap.size+1) Sx G e w'->e=.returned (.agg #[iI 0,iI 0])/\Rec w' w.heap.size 215 [iI 0,iI 0]/\∃w1,AB Sx (EZ (AN w (.iface T rv)) (w.heap.size+1)) w1/\G w1/\AB (λi=>w.heap.size<=i) w1 w'):=⟨by
  rintro e w' ⟨w1,t1,g1,rfl,rfl⟩;have r0:Rec (EZ (AN w (.iface T rv)) (w.heap.size+1)) w.heap.size 215 [iI 0,iI 0]:=U.gr (((((Gr.refl _).alloc _).alloc _).alloc _));have r1:=r0.touch t1 (hx _ (ϑ _) Ω Ω);rw[Y];have t2:=((AB.refl (λi=>w.heap.size+2<=i) w1).setCell (a:=⟨w.heap.size+2+1,0,none⟩) (λ_=>by show w.heap.size+2<=w.heap.size+2+1;omega) (iI 0)).setCell (a:=⟨w.heap.size+2+1,1,none⟩) (λ_=>by show w.heap.size+2<=w.heap.size+2+1;omega) (iI 0)
  exact⟨rfl,r1.touch t2 Ω,w1,t1,g1,t2.mono (λi _ h=>by omega)⟩⟩
 go_enter func128,ntmps128;go_wp2_with(go_at_call 177;refine HP.mono ?_;intro e w2 Z;obtain⟨rfl,X,hq⟩:=V.o _ _ Z;have k0:=X.cc 0;have k1:=X.cc 1;have kf:=X.free;have J:=X;have HQ:=ι hq);have R3:=Rec.set (Rec.set J 0 (iI 0)) 1 (iI 0);have hl:=Zo0 _ w.heap.size _ _ (R3.cc 0) (R3.cc 1);obtain⟨w1,t1,g1,t2⟩:=HQ.o;refine ζG (v:=.agg #[iI 0,iI 0]) ?_ rfl ⟨w1,t1,g1,rfl,(t2.setCell (a:=⟨w.heap.size,0,none⟩) (λ_=>ϑ _) _).setCell (a:=⟨w.heap.size,1,none⟩) (λ_=>ϑ _) _⟩;simp[results,results128,asAddr,hl]
end
end Go.Proofs.YtbdimhlaaoadgaaGreatDoor
