/- Lemmas. -/
import Derived.Test.YtcihfnpokdbfpaaGreatDoorTwoB
import Derived.Laws.BitsAllLaws
import Derived.Laws.Bits64b
import Derived.Shelf.Abstract
import Derived.Shelf.RegionOpen
import Derived.OwnWalkIn
import Derived.TacticsInMore
import Derived.LoopNIn
import Derived.LoopIn
import Derived.Stop.RegionWithIn
import Derived.Sort.CutIn
namespace Go.Proofs.YtcihfnpokdbfpaaGreatDoor
open _root_.Go.Proofs.Tryz
set_option maxHeartbeats 3200000
set_option maxRecDepth 100000
open Go.RowKit Word
variable{z:Int}{l:List Bool}{F pt:List Nat}{L:List Ob}{xs:List Value}{a b bm bs c f j k m n p p0 p1 p2 pg q rm x:Nat}{S S' T:Nat->Prop}{vF:Value}{W w w' w1 w2:World}
structure Vm where
 n:Nat
 pl:Pl
 pt:List Nat
variable{v':Vm}
structure AH(v:Vm):Prop where
 pl:F3 v.pl
 pt:J7 v.pt
 n2:v.n<=524288
 np:v.n=v.pt.length*v.pl.pg
 fr:∀p,p<v.pt.length->v.pt.getD p 0≠0->at_ v.pl.tk (v.pt.getD p 0-1)=true
 inj:∀p p',p<v.pt.length->p' < v.pt.length->v.pt.getD p 0≠0->v.pt.getD p 0=v.pt.getD p' 0->p=p'
 us:v.pl.used=nz v.pt
structure AE(w:World)(S:Nat->Prop)(q:Nat)(v:Vm):Prop where
 ok:AH v
 sq:S q
 row:∃S1 S2 b1 b2,Rec w q 187 [pP b1,pP b2,iI v.n]/\CN w S1 b1 v.pl/\DE w S2 b2 v.pt ∧
  (∀k,S1 k->S k)/\(∀k,S2 k->S k)/\(∀k,S1 k->¬S2 k)/\¬S1 q/\¬S2 q
theorem AE.touch{v:Vm}(h:AE w S q v)(t:AB T w w')(hS:∀k,S k->k<w.heap.size->¬T k):AE w' S q v:=by
 obtain⟨h1,h2,S1,S2,b1,b2,hr,hp,hg,s1,s2,s3,s4,s5⟩:=h;exact⟨h1,h2,S1,S2,b1,b2,hr.touch t (hS _ h2 hr.lt),hp.touch t (λk hk=>hS k (s1 k hk)),hg.touch t (λk hk=>hS k (s2 k hk)),s1,s2,s3,s4,s5⟩
theorem AE.gr{v:Vm}(h:AE w S q v)(t:Gr w w'):AE w' S q v:=h.touch (t.touch (λ_=>False)) (λ_ _ _ h=>h)
theorem AE.mono{v:Vm}(h:AE w S q v)(hT:∀k,S k->T k):AE w T q v:=by
 obtain⟨h1,h2,S1,S2,b1,b2,hr,hp,hg,s1,s2,s3,s4,s5⟩:=h;exact⟨h1,hT _ h2,S1,S2,b1,b2,hr,hp,hg,λk hk=>hT k (s1 k hk),λk hk=>hT k (s2 k hk),s3,s4,s5⟩
def AD(S:Nat->Prop)(w:World)(k:Nat):Prop:=S k/\k<w.heap.size
theorem CN.cut{p:Pl}(h:CN w S q p):CN w (AD S w) q p:=by
 obtain⟨h1,h2,vw,vt,vb,hi,ts,hr,o1,o2,o3,s1,s2,s3⟩:=h;exact⟨h1,⟨h2,hr.lt⟩,vw,vt,vb,hi,ts,hr,o1,o2,o3,λg hg=>⟨s1 g hg,(A9 o1 hg).2⟩,λg hg=>⟨s2 g hg,(A9 o2 hg).2⟩,λg hg=>⟨s3 g hg,(A9 o3 hg).2⟩⟩
theorem DE.cut(h:DE w S q pt):DE w (AD S w) q pt:=by
 obtain⟨ok,sq,g,c,L,hr,h1,h2,sg,ho,ht,hd⟩:=h;refine⟨ok,⟨sq,hr.lt⟩,g,c,L,hr,h1,h2,⟨sg,(A9 ho rfl).2⟩,ho,λk hk=>?_,hd⟩;have:=ht k hk;cases hl:L.getD k none with
 | none=>grind
 | some b=>rw[hl]at this;exact⟨⟨this.1,this.2.lt⟩,this.2⟩
theorem AE.cut{v:Vm}(h:AE w S q v):AE w (AD S w) q v:=by
 obtain⟨h1,h2,S1,S2,b1,b2,hr,hp,hg,s1,s2,s3,s4,s5⟩:=h;exact⟨h1,⟨h2,hr.lt⟩,AD S1 w,AD S2 w,b1,b2,hr,hp.cut,hg.cut,λk hk=>⟨s1 k hk.1,hk.2⟩,λk hk=>⟨s2 k hk.1,hk.2⟩,λk hk hk2=>s3 k hk.1 hk2.1,λh=>s4 h.1,λh=>s5 h.1⟩
theorem VH{a b c a' b' c':Value}(h1:a=a')(h2:b=b')(h3:c=c'):Ending.returned (.tuple #[a,b,c])=.returned (.tuple #[a',b',c']):=by simp_all
def Vm.ldE(v:Vm)(a:Int):Int:=if 0<=a/\a<v.n then frE v.pt (a/v.pl.pg)else 11
def Vm.at(v:Vm)(a:Int):Nat:=(v.pt.getD (a/v.pl.pg).toNat 0-1)*v.pl.pg+(a%v.pl.pg).toNat
def Vm.ldV(v:Vm)(a:Int):Nat:=if v.ldE a=0 then v.pl.wd.getD (v.at a) 0 else 0
def Vm.st(v:Vm)(a:Int)(x:Nat):Vm:=if v.ldE a=0 then {v with pl:={v.pl with wd:=v.pl.wd.set (v.at a) x}}else v
theorem AH.page{v:Vm}(h:AH v):1<=v.pl.pg/\v.pl.pg<=256:=⟨by have:=DR h.pl.pg;omega,h.pl.pg2⟩
theorem AH.split{v:Vm}(h:AH v)(ha:a<v.n):a/v.pl.pg<v.pt.length/\a%v.pl.pg<v.pl.pg:=by
 have hp:=h.page;refine⟨(ζC hp.1).2 (by rw[<-h.np];exact ha),ζN _ hp.1⟩
theorem AH.hit{v:Vm}{a:Int}(h0:v.ldE a=0):∃j:Nat,a=j/\j<v.n/\v.pt.getD (j/v.pl.pg) 0≠0:=by
 unfold Vm.ldE at h0
 split at h0
 ·rename_i hr;obtain⟨j,rfl⟩:∃j:Nat,a=j:=⟨a.toNat,by omega⟩;obtain⟨p,hp1,hp2,hp3⟩:=OY h0;have hpj:p=j/v.pl.pg:=Ω
  grind
 ·cases h0
section
variable{v:Vm}
theorem FY(hV:AE w S q v):cQ 150 #[pP q] w (.bool false):=by
 obtain⟨S1,S2,b1,b2,hr,-⟩:=hV.row;have c0:=hr.cc 0;go_enter func150,ntmps150;go_wp2;go_ret
 simp_all
theorem YU7(w:World):cQ 150 #[.pointer none] w (.bool true):=by
 go_enter func150,ntmps150;go_wp2;go_ret;exact⟨rfl,rfl⟩
def Xy7(w:World)(v:Vm)(a:Int)(e:Ending)(w':World):Prop:=
 Gr w w'/\∃x y:Int,e=.returned (.tuple #[iI x,iI y,iI (v.ldE a)])/\(v.ldE a=0->x=(v.pt.getD (a/v.pl.pg).toNat 0:Nat)-1/\y=a%v.pl.pg)
theorem UW(hV:AE w S q v)(a:Int):Calls prog 258 #[pP q,iI a] w (Xy7 w v a):=by
 have HV:=hV;obtain⟨S1,S2,b1,b2,hr,hp,hg,-⟩:=hV.row;obtain⟨c0,c1,c2,N⟩:=hr.k3;have HP:=hp;have HG:=hg;have M:=hV.ok.page;have hn:=hV.ok.n2;by_cases X:0<=a/\a<v.n
 ·obtain⟨j,rfl⟩:∃j:Nat,a=j:=⟨a.toNat,by omega⟩;have HE:Hid (v.ldE j=frE v.pt ((j/v.pl.pg:Nat):Int)):=⟨by unfold Vm.ldE;rw[θ X,ζ2]⟩;have HA:Hid (((j:Int)/(v.pl.pg:Int)).toNat=j/v.pl.pg/\((j%v.pl.pg:Nat):Int)=(j:Int)%(v.pl.pg:Int)):=⟨⟨by rw[<-ζ2,β],ξB ..⟩⟩;obtain⟨p,Y⟩:=ε (j/v.pl.pg);obtain⟨o,Z⟩:=ε (j%v.pl.pg);have q1:((j:Int).tdiv (v.pl.pg:Int))=(p:Int):=by rw[Y];rfl
  have q2:((j:Int)/(v.pl.pg:Int))=(p:Int):=by rw[Y];rfl
  have q3:((j:Int).tmod (v.pl.pg:Int))=(o:Int):=by rw[Z];rfl
  have q4:((j:Int)%(v.pl.pg:Int))=(o:Int):=by rw[Z];rfl
  have V:(v.pl.pg:Int)≠0:=Ω
  rw[<-Y]at HE;rw[<-Y,<-Z]at HA;have hp2:p<=524288:=by have:=ζV j v.pl.pg;omega
  have ho2:o<=524288:=by have:=Nat.mod_le j v.pl.pg;omega
  have hjI:(j:Int)<(v.n:Int):=Ω
  obtain⟨B,hB⟩:=ε v.pl.pg;have HB:=ι hB;rw[<-hB]at q1 q2 q3 q4 V M;have d0:decide ((j:Int)<0)=false:=ζ Ω;have d1:decide ((v.n:Int)<=(j:Int))=false:=ζ Ω;clear hr hp hg hV X Y Z hB;go_in
  go_wp2_with(first|(go_at_call 150;refine(FY HV).mono ?_;rintro e w1 ⟨rfl,rfl⟩)|(go_at_call 192;refine(VD HP).mono ?_;rintro e w1 ⟨rfl,rfl⟩;rw[<-HB.o]))
  have z1:∀xs m,(grow w xs m).cell? ⟨q,1,none⟩=some (pP b2):=λxs m=>((grown w xs m).cell N 1).trans c1;refine JX (by kernel_rfl) (by kernel_rfl) ?_
  repeat(go_big_quiet_step ((go_at_call 245;have hc:=λxs m=>L5 (HG.gr (grown w xs m)) (p:Int);exact BB.grown (hc _ _))))
  refine ζb ?_;intro _ U;obtain⟨⟨xs,nq⟩,J⟩:=U;subst J;go_wp2;go_quiet (fail);go_wp2
  go_ret3
  refine⟨(grown w _ _).drewN _,_,_,VH rfl rfl (BR HE.o.symm),λh0=>?_⟩;rw[HE.o]at h0;rw[HA.o.1,<-HA.o.2];refine⟨?_,rfl⟩;unfold frV;rw[θ h0,β]
 ·have E:v.ldE a=11:=by unfold Vm.ldE;rw[ψ X]
  have HE:=ι E;rcases(by omega:a<0\/(0<=a/\(v.n:Int)<=a))with h|h
  ·have d0:decide (a<0)=true:=φ h;clear hr hp hg hV X E h;go_in;go_wp2_with(go_at_call 150;refine(FY HV).mono ?_;rintro e w1 ⟨rfl,rfl⟩)
   go_ret3
   exact⟨Gr.refl w,_,_,VH rfl rfl (BR HE.o.symm),λh0=>by rw[HE.o]at h0;exact absurd h0 (by decide)⟩
  ·have d0:decide (a<0)=false:=ζ Ω;have d1:decide ((v.n:Int)<=a)=true:=φ h.2;clear hr hp hg hV X E h;go_in;go_wp2_with(go_at_call 150;refine(FY HV).mono ?_;rintro e w1 ⟨rfl,rfl⟩)
   go_ret3
   exact⟨Gr.refl w,_,_,VH rfl rfl (BR HE.o.symm),λh0=>by rw[HE.o]at h0;exact absurd h0 (by decide)⟩
theorem ViR(hok:AH v){a x y:Int}(h0:v.ldE a=0)(hx:x=(v.pt.getD (a/v.pl.pg).toNat 0:Nat)-1)(hy:y=a%v.pl.pg):DD v.pl x y=0/\x.toNat*v.pl.pg+y.toNat=v.at a:=by
 obtain⟨j,rfl,hj,X⟩:=AH.hit h0;obtain⟨h1,h2⟩:=hok.split hj;have hf:=hok.fr _ h1 X;have e1:((j:Int)/(v.pl.pg:Int)).toNat=j/v.pl.pg:=by grind
 have e2:(j:Int)%(v.pl.pg:Int)=((j%v.pl.pg:Nat):Int):=(ξB ..).symm;rw[e1]at hx;rw[e2]at hy;have hx1:0<=x:=Ω
 have hx2:x.toNat=v.pt.getD (j/v.pl.pg) 0-1:=Ω
 have hc:EL v.pl x=0:=by unfold EL;grind
 refine⟨?_,?_⟩
 ·unfold DD;omega
 ·unfold Vm.at
  grind
theorem KX(hV:AE w S q v)(a:Int):Calls prog 206 #[pP q,iI a] w λe w'=>e=.returned (.tuple #[uU (v.ldV a:Nat),iI (v.ldE a)])/\Gr w w':=by
 have HV:=hV;obtain⟨S1,S2,b1,b2,hr,hp,hg,-⟩:=hV.row;have U:=hr.lt;have c0:=hr.cc 0;have HP:=hp;by_cases h0:v.ldE a=0
 ·have HE:=h0
  have HW:Hid (∀x y:Int,x=(v.pt.getD (a/v.pl.pg).toNat 0:Nat)-1->y=a%v.pl.pg->DD v.pl x y=0/\LW v.pl x y=v.ldV a):=⟨λx y hx hy=>by
   obtain⟨h1,h2⟩:=ViR hV.ok h0 hx hy;refine⟨h1,?_⟩;unfold LW Vm.ldV
   rw[θ h1,θ h0,h2]⟩
  go_in
  go_wp2_with(first|(go_at_call 258;refine(UW HV a).mono ?_;rintro e w1 ⟨X,x,y,rfl,Z⟩;have J:=ι (HW.o x y (Z HE).1 (Z HE).2);rw[HE];have k0:=(X.cell U 0).trans c0;have Y:=X;clear X Z)|(go_at_call 259;refine(Xn2 (HP.gr Y) x y).mono ?_;rintro e w2 ⟨rfl,rfl⟩))
  go_ret2;exact⟨BT (congrArg (λn:Nat=>uU (n:Int)) J.o.2) (BR (by rw[J.o.1,HE])),Y⟩
 ·have V:Hid (v.ldV a=0):=⟨by unfold Vm.ldV;rw[ψ h0]⟩;obtain⟨x,hx⟩:=ε (v.ldE a);have HX:=ι hx;have d0:(x==0)=false:=by rw[hx];simpa using h0
  clear hr hp hg hV h0 hx;go_in;go_wp2_with(go_at_call 258;refine(UW HV a).mono ?_;rintro e w1 ⟨X,x1,y1,rfl,-⟩;rw[<-HX.o];have Y:=X);go_ret2;exact⟨BT (by rw[V.o];rfl) (BR (by rw[HX.o])),Y⟩
def Zfu(w:World)(S:Nat->Prop)(q:Nat)(v:Vm)(a:Int)(x:Nat)(w':World):Prop:=AB S w w'/\AE w' S q (v.st a x)
theorem AH.st(h:AH v)(a:Int)(hx:x<18446744073709551616):AH (v.st a x):=by
 unfold Vm.st
 split
 ·exact⟨QTa h.pl _ _ hx,h.pt,h.n2,h.np,h.fr,h.inj,h.us⟩
 ·exact h
theorem NT(hV:AE w S q v)(a:Int)(hx:x<18446744073709551616):Calls prog 207 #[pP q,iI a,uU x] w λe w'=>e=.returned (iI (v.ldE a))/\Zfu w S q v a x w':=by
 have HV:=hV;obtain⟨S1,S2,b1,b2,hr,hp,hg,s1,s2,s3,s4,s5⟩:=hV.row;have O:=hr.lt;have c0:=hr.cc 0;have HP:=hp;have U:=(hV.ok.st a hx);have hX:=hx;by_cases h0:v.ldE a=0
 ·have HE:=h0;have HS:Hid (v.st a x={v with pl:={v.pl with wd:=v.pl.wd.set (v.at a) x}}):=⟨by unfold Vm.st;rw[θ h0]⟩
  have HW:Hid (∀y z:Int,y=(v.pt.getD (a/v.pl.pg).toNat 0:Nat)-1->z=a%v.pl.pg->DD v.pl y z=0/\L8 v.pl y z x={v.pl with wd:=v.pl.wd.set (v.at a) x}):=⟨λy z hy hz=>by
   obtain⟨h1,h2⟩:=ViR hV.ok h0 hy hz;refine⟨h1,?_⟩;unfold L8
   rw[θ h1,h2]⟩
  have HK:Hid (∀(w1:World),Gr w w1->∀w2,AB S1 w1 w2->CN w2 S1 b1 {v.pl with wd:=v.pl.wd.set (v.at a) x}->Zfu w S q v a x w2):=⟨λw1 g1 w2 t2 p2=>by
   have T:AB S1 w w2:=(g1.touch S1).trans t2;refine⟨T.mono (λk _ hk=>s1 k hk),U,hV.sq,S1,S2,b1,b2,?_,?_,?_,s1,s2,s3,s4,s5⟩
   ·rw[HS.o];exact hr.touch T s4
   ·rw[HS.o];exact p2
   ·rw[HS.o];exact hg.touch T (λk hk _ hk2=>s3 k hk2 hk)⟩
  go_in
  go_wp2_with(first|(go_at_call 258;refine(UW HV a).mono ?_;rintro e w1 ⟨Y,y,z,rfl,Z⟩;have J:=ι (HW.o y z (Z HE).1 (Z HE).2);rw[HE];have k0:=(Y.cell O 0).trans c0;have X:=Y;clear Y Z)|(go_at_call 260;refine Qa (YBJ (HP.gr X) y z x hX) λw2⟨N,I⟩=>?_;have M:=N;have V:=I))
  go_ret;refine⟨AU (by rw[J.o.1,HE]),HK.o _ X _ M ?_⟩;rw[<-J.o.2];exact V
 ·have HS:Hid (v.st a x=v):=⟨by unfold Vm.st;rw[ψ h0]⟩;obtain⟨y,hy⟩:=ε (v.ldE a);have HX:=ι hy;have d0:(y==0)=false:=by rw[hy];simpa using h0
  clear hr hp hg hV h0 hx hy;go_in;go_wp2_with(go_at_call 258;refine(UW HV a).mono ?_;rintro e w1 ⟨Y,x1,y1,rfl,-⟩;rw[<-HX.o];have X:=Y);go_ret;exact⟨AU (by rw[HX.o]),X.touch S,by rw[HS.o];exact HV.gr X⟩
end
def Vm.mpE(v:Vm)(p:Int):Int:=if pgE v.pt p≠0 then 11 else if v.pt.getD p.toNat 0≠0 then 13 else if v.pl.used=v.pl.rm then 14 else 0
def Vm.mp(v:Vm)(p:Int):Vm:=if v.mpE p=0 then {v with pl:=v.pl.take,pt:=v.pt.set p.toNat (v.pl.next+1)}else v
def Vm.um(v:Vm)(p:Int):Vm:=if frE v.pt p=0 then {v with pl:=v.pl.give (v.pt.getD p.toNat 0-1),pt:=v.pt.set p.toNat 0}else v
theorem YMb{p:Pl}(h:at_ p.tk f=true):at_ p.fresh.tk f=true:=by
 unfold Pl.fresh
 split
 ·have:=GL h;unfold at_ at h⊢
  grind
 ·exact h
theorem Xiq(l:List Bool){i:Nat}(hi:i<l.length)(x:Bool)(j:Nat):at_ (l.set i x) j=if i=j then x else at_ l j:=by
 unfold at_
 grind
theorem QGm{p:Pl}(h:F3 p)(f:Nat):at_ p.take.tk f=if p.next=f then true else at_ p.fresh.tk f:=Xiq _ (LF h).1 _ _
theorem YC{p:Pl}(h:F3 p)(hf:at_ p.tk f=true):f≠p.next:=by
 rintro rfl;have h1:=(LF h).2.2
 grind [YMb]
theorem AH.frame{v:Vm}(h:AH v)(hp:v.pt.getD p 0≠0):at_ v.pl.tk (v.pt.getD p 0-1)=true:=by
 by_cases hl:p<v.pt.length
 ·exact h.fr p hl hp
 simp_all
theorem AH.mp{v:Vm}(h:AH v)(p:Int):AH (v.mp p):=by
 unfold Vm.mp
 split
 ·rename_i h0;unfold Vm.mpE at h0;by_cases h1:pgE v.pt p≠0
  ·rw[θ h1]at h0;cases h0
  ·rw[ψ h1]at h0;by_cases h2:v.pt.getD p.toNat 0≠0
   ·rw[θ h2]at h0;cases h0
   ·rw[ψ h2]at h0;have J:v.pt.getD p.toNat 0=0:=ξM.1 h2;by_cases h3:v.pl.used=v.pl.rm
    ·rw[θ h3]at h0;cases h0
    ·obtain⟨j,rfl,hj⟩:=RZ (ξM.1 h1);rw[β]at J⊢;have hn:=LF h.pl;have hle:=PY h.pl;have Y:=UN h.pl Ω;have hlen:v.pl.fresh.tk.length=v.pl.take.tk.length:=by exact List.length_set.symm
     have hn2:v.pl.next<4096:=by have:=Y.le;have:=Y.rm;omega
     refine⟨Y,h.pt.set j Ω,h.n2,?_,λi hi X=>?_,λi i' hi Z X he=>?_,?_⟩
     ·rw[ζa];have:v.pl.take.pg=v.pl.pg:=(OL v.pl).1;rw[this];exact h.np
     ·rw[FB hj,QGm h.pl];by_cases e:j=i
      ·rw[θ e,θ Ω]
      ·rw[ψ e]
       split
       ·rfl
       ·refine YMb (h.frame ?_);have:(v.pt.set j (v.pl.next+1)).getD i 0≠0:=X;rw[FB hj,ψ e]at this;exact this
     ·have X:(v.pt.set j (v.pl.next+1)).getD i 0≠0:=X;have he:(v.pt.set j (v.pl.next+1)).getD i 0=(v.pt.set j (v.pl.next+1)).getD i' 0:=he;have hi:i<v.pt.length:=by have:i<(v.pt.set j (v.pl.next+1)).length:=hi;rwa [ζa]at this
      have Z:i' < v.pt.length:=by have:i' < (v.pt.set j (v.pl.next+1)).length:=Z;rwa [ζa]at this
      rw[FB hj]at X he;rw[FB hj]at he;by_cases e:j=i <;> by_cases e':j=i'
      ·rw[<-e,e']
      ·rw[θ e,ψ e']at he;have:=YC h.pl (h.frame (p:=i') Ω);omega
      ·rw[ψ e,θ e']at he;have:=YC h.pl (h.frame (p:=i) Ω);omega
      ·rw[ψ e]at X he;rw[ψ e']at he;exact h.inj i i' hi Z X he
     ·rw[XT h.pl,Q0 hj J Ω,h.us]
 ·exact h
theorem AH.um{v:Vm}(h:AH v)(p:Int):AH (v.um p):=by
 unfold Vm.um
 split
 ·rename_i h0;obtain⟨j,rfl,hj,X⟩:=OY h0;rw[β];have hf:=h.fr j hj X;refine⟨Q60 h.pl hf,h.pt.set j Ω,h.n2,?_,λi hi hn=>?_,λi i' hi Y hn he=>?_,?_⟩
  ·rw[ζa];exact h.np
  ·have hi:i<v.pt.length:=by simp_all
   have hn:(v.pt.set j 0).getD i 0≠0:=hn
   show at_ (v.pl.tk.set _ false) ((v.pt.set j 0).getD i 0-1)=true
   rw[FB hj]at hn⊢;by_cases e:j=i
   ·simp_all
   ·rw[ψ e]at hn⊢;rw[Xiq _ (GL hf),ψ,h.fr i hi hn];intro e2;exact e (h.inj j i hj hi X Ω)
  ·have hi:i<v.pt.length:=by simp_all
   have Y:i' < v.pt.length:=by simp_all
   have hn:(v.pt.set j 0).getD i 0≠0:=hn;have he:(v.pt.set j 0).getD i 0=(v.pt.set j 0).getD i' 0:=he;rw[FB hj]at hn he;rw[FB hj]at he;by_cases e:j=i
   ·simp_all
   ·rw[ψ e]at hn he;by_cases e':j=i'
    ·simp_all
    ·rw[ψ e']at he;exact h.inj i i' hi Y hn he
  ·show (v.pl.give _).used=nz (v.pt.set j 0)
   have h1:=QG (p:=v.pl) hf;have h2:=X0 hj X;have:=h.us;omega
 ·exact h
theorem AH.place_lt{v:Vm}(h:AH v){a:Int}(h0:v.ldE a=0):v.at a<v.pl.wd.length:=by
 obtain⟨j,rfl,hj,X⟩:=AH.hit h0;obtain⟨h1,h2⟩:=h.split hj;have hf:=GL (h.fr _ h1 X);unfold Vm.at;rw[<-ζ2,β,<-ξB,β,h.pl.wl];have:(v.pt.getD (j/v.pl.pg) 0-1+1)*v.pl.pg<=v.pl.tk.length*v.pl.pg:=ζj _ hf
 grind
theorem XfE{g o f' o':Nat}(h1:o<g)(h2:o' < g)(h:f*g+o=f' * g+o'):f=f'/\o=o':=by
 have e1:(f*g+o)/g=f:=by rw[ζA,ψM Ω,ψd h1,ζ7]
 have e2:(f' * g+o')/g=f':=by rw[ζA,ψM Ω,ψd h2,ζ7]
 simp_all
theorem AH.at_inj{v:Vm}(h:AH v){a b:Int}(ha:v.ldE a=0)(hb:v.ldE b=0)(he:v.at a=v.at b):a=b:=by
 obtain⟨j,rfl,hj,X⟩:=AH.hit ha;obtain⟨i,rfl,hi,hne'⟩:=AH.hit hb;obtain⟨h1,h2⟩:=h.split hj;obtain⟨h3,h4⟩:=h.split hi;unfold Vm.at at he;rw[<-ζ2,β,<-ξB,β,<-ζ2,β,<-ξB,β]at he;obtain⟨e1,e2⟩:=XfE h2 h4 he;have e3:=h.inj _ _ h1 h3 X Ω
 grind [ζo]
theorem GO(v:Vm)(a:Int)(x:Nat)(b:Int):(v.st a x).ldE b=v.ldE b:=by unfold Vm.st;split <;> rfl
theorem AH.st_ldV{v:Vm}(h:AH v){a:Int}(x:Nat)(ha:v.ldE a=0)(b:Int):(v.st a x).ldV b=if a=b then x else v.ldV b:=by
 have e1:v.st a x={v with pl:={v.pl with wd:=v.pl.wd.set (v.at a) x}}:=θ ha;have e2:(v.st a x).at b=v.at b:=by rw[e1];rfl
 have e3:(v.st a x).pl.wd=v.pl.wd.set (v.at a) x:=by rw[e1]
 unfold Vm.ldV;rw[GO,e2,e3];by_cases hb:v.ldE b=0
 ·rw[θ hb,θ hb,FB (h.place_lt ha)];by_cases e:a=b
  ·simp_all
  ·rw[ψ e,ψ (λhe=>e (h.at_inj ha hb he))]
 grind
theorem WM{v:Vm}{p:Int}(h:v.mpE p≠0):v.mp p=v:=ψ h
theorem SY{v:Vm}{p:Int}(h:frE v.pt p≠0):v.um p=v:=ψ h
theorem SA{v:Vm}{p:Int}(h:v.mpE p=0):∃j:Nat,p=j/\j<v.pt.length/\v.pt.getD j 0=0/\v.pl.used≠v.pl.rm:=by
 unfold Vm.mpE at h
 grind [RZ]
theorem NX(h:p<pt.length):frE pt p=if pt.getD p 0=0 then 12 else 0:=by
 unfold frE pgE
 simp_all
theorem AH.ldE_of{v:Vm}(h:AH v)(ha:a<v.n):v.ldE a=if v.pt.getD (a/v.pl.pg) 0=0 then 12 else 0:=by
 unfold Vm.ldE;rw[θ ⟨by omega,by omega⟩,<-ζ2,NX (h.split ha).1]
theorem AH.mp_ldE{v:Vm}(h:AH v)(hp:v.mpE p=0)(ha:a<v.n):(v.mp p).ldE a=if a/v.pl.pg=p then 0 else v.ldE a:=by
 have e1:v.mp p={v with pl:=v.pl.take,pt:=v.pt.set p (v.pl.next+1)}:=by unfold Vm.mp;simp_all
 obtain⟨j,hj,X,-,-⟩:=SA hp;obtain rfl:p=j:=Ω
 have h1:=(h.mp p).ldE_of (a:=a) (by simp_all);have e2:(v.mp p).pl.pg=v.pl.pg:=by rw[e1];exact(OL v.pl).1
 have e3:(v.mp p).pt=v.pt.set p (v.pl.next+1):=by rw[e1]
 rw[h1,e2,e3,FB X,h.ldE_of ha]
 grind
theorem AH.mp_ldV{v:Vm}(h:AH v)(hp:v.mpE p=0)(ha:a<v.n):(v.mp p).ldV a=if a/v.pl.pg=p then 0 else v.ldV a:=by
 have e1:v.mp p={v with pl:=v.pl.take,pt:=v.pt.set p (v.pl.next+1)}:=by unfold Vm.mp;rw[θ hp,β]
 obtain⟨j,hj,J,-,-⟩:=SA hp;obtain rfl:p=j:=Ω
 have hE:=h.mp_ldE hp ha;obtain⟨n1,n2,n3⟩:=LF h.pl;have hf:v.pl.next*v.pl.pg+v.pl.pg<=v.pl.fresh.wd.length:=by rw[n2,<-ξd];exact ζj _ n1
 have e2:(v.mp p).pl.pg=v.pl.pg:=by rw[e1];exact(OL v.pl).1
 have e3:(v.mp p).pt=v.pt.set p (v.pl.next+1):=by rw[e1]
 have e4:(v.mp p).pl.wd=H5 v.pl.fresh.wd (v.pl.next*v.pl.pg) v.pl.pg:=by rw[e1];rfl
 obtain⟨s1,s2⟩:=h.split ha
 have e5:(v.mp p).at a=((v.pt.set p (v.pl.next+1)).getD (a/v.pl.pg) 0-1)*v.pl.pg+a%v.pl.pg:=by
  unfold Vm.at;rw[e2,e3,<-ζ2,β,<-ξB,β]
 unfold Vm.ldV;rw[hE,e4,e5,FB J];by_cases e:a/v.pl.pg=p
 ·rw[θ e,θ e,θ rfl,θ e.symm,YMA hf,θ ⟨by simp,by rw[ξ6];omega⟩]
 ·have en:¬p=a/v.pl.pg:=λh=>e h.symm;rw[ψ e,ψ e,ψ en];by_cases h0:v.ldE a=0
  ·rw[θ h0,θ h0];obtain⟨j',hj',hj2,Y⟩:=AH.hit h0;obtain rfl:a=j':=Ω
   have Z:=h.fr _ s1 Y;have hnx:=YC h.pl Z
   have U:v.at a=(v.pt.getD (a/v.pl.pg) 0-1)*v.pl.pg+a%v.pl.pg:=by
    unfold Vm.at;rw[<-ζ2,β,<-ξB,β]
   have X:=h.place_lt h0;rw[U]at X⊢;rw[YMA hf,ψ]
   ·unfold Pl.fresh
    split
    ·generalize (v.pt.getD (a/v.pl.pg) 0-1)*v.pl.pg+a%v.pl.pg=i at X;simp only[κ];rw[ζX X]
    ·rfl
   ·rintro⟨c1,c2⟩;generalize v.pt.getD (a/v.pl.pg) 0-1=f at *
    rcases δ f v.pl.next with hl|hl
    ·have:(f+1)*v.pl.pg<=v.pl.next*v.pl.pg:=ζj _ hl
     rw[ξd]at this;omega
    ·have:(v.pl.next+1)*v.pl.pg<=f*v.pl.pg:=ζj _ Ω;rw[ξd]at this;omega
  ·rw[ψ h0,ψ h0]
theorem AH.um_ldE{v:Vm}(h:AH v)(hp:frE v.pt p=0)(ha:a<v.n):(v.um p).ldE a=if a/v.pl.pg=p then 12 else v.ldE a:=by
 have e1:v.um p={v with pl:=v.pl.give (v.pt.getD p 0-1),pt:=v.pt.set p 0}:=by unfold Vm.um;simp_all
 obtain⟨j,hj,X,-⟩:=OY hp;obtain rfl:p=j:=Ω
 have h1:=(h.um p).ldE_of (a:=a) (by simp_all);have e2:(v.um p).pl.pg=v.pl.pg:=by rw[e1];rfl
 have e3:(v.um p).pt=v.pt.set p 0:=by rw[e1]
 rw[h1,e2,e3,FB X,h.ldE_of ha]
 grind
theorem AH.um_ldV{v:Vm}(h:AH v)(hp:frE v.pt p=0)(ha:a<v.n)(hne:a/v.pl.pg≠p):(v.um p).ldV a=v.ldV a:=by
 have e1:v.um p={v with pl:=v.pl.give (v.pt.getD p 0-1),pt:=v.pt.set p 0}:=by unfold Vm.um;simp_all
 obtain⟨j,hj,X,-⟩:=OY hp;obtain rfl:p=j:=Ω
 have hE:=h.um_ldE hp ha;rw[ψ hne]at hE
 have e5:(v.um p).at a=v.at a:=by
  rw[e1]
  show ((v.pt.set p 0).getD ((a:Int)/(v.pl.pg:Int)).toNat 0-1)*v.pl.pg+_=_
  rw[<-ζ2,β,FB X,ψ (show ¬p=a/v.pl.pg from λh=>hne h.symm)];rfl
 unfold Vm.ldV;rw[hE,e5,e1];rfl
def YQ(w:World)(S:Nat->Prop)(q:Nat)(v:Vm)(w':World):Prop:=AB S w w'/\AE w' (plus S w) q v
section
variable{v:Vm}
theorem ZXj(v:Vm)(p:Int):(frE v.pt p=11/\v.mpE p=11)\/(frE v.pt p=0/\v.mpE p=13)\/(frE v.pt p=12/\v.pl.used=v.pl.rm/\v.mpE p=14)\/(frE v.pt p=12/\v.pl.used≠v.pl.rm/\v.mpE p=0):=by
 have e1:frE v.pt p=if pgE v.pt p=0 then (if v.pt.getD p.toNat 0=0 then 12 else 0)else 11:=rfl
 have e2:v.mpE p=if pgE v.pt p≠0 then 11 else if v.pt.getD p.toNat 0≠0 then 13 else if v.pl.used=v.pl.rm then 14 else 0:=rfl
 rw[e1,e2];by_cases h:pgE v.pt p=0
 ·have h':¬pgE v.pt p≠0:=λh'=>h' h
  grind
 simp_all
theorem YZ(hV:AE w S q v)(p:Int):Calls prog 193 #[pP q,iI p] w λe w'=>e=.returned (iI (v.mpE p))/\YQ w S q (v.mp p) w':=by
 have HV:=hV;obtain⟨S1,S2,b1,b2,hr,hp,hg,s1,s2,s3,s4,s5⟩:=hV.row;have U:=hr.lt;have c0:=hr.cc 0;have c1:=hr.cc 1;have HP:=hp;have HG:=hg
 have HN:Hid (v.mpE p≠0->∀w',Gr w w'->YQ w S q (v.mp p) w'):=⟨λh w' g=>by
  rw[WM h]
  exact⟨g.touch S,(hV.gr g).mono (λk hk=>.inl hk)⟩⟩
 have HR:=hr;have HS:=(ξ s1 (ξ s2 (ξ s3 (ξ s4 s5))));rcases ZXj v p with⟨h1,h2⟩|⟨h1,h2⟩|⟨h1,h2,h3⟩|⟨h1,h2,h3⟩
 ·have HE:=(ξ h1 h2);clear hV hr hp hg s1 s2 s3 s4 s5 h1 h2;go_in
  go_wp2_with(first|(go_at_call 150;refine(FY HV).mono ?_;rintro e w1 ⟨rfl,rfl⟩)|(go_at_call 245;refine(L5 HG p).mono ?_;rintro e w1 ⟨rfl,Y⟩;rw[HE.1];have X:=Y;clear Y))
  go_ret;exact⟨AU (by rw[HE.2]),HN.o (by rw[HE.2];decide) _ X⟩
 ·have HE:=(ξ h1 h2);clear hV hr hp hg s1 s2 s3 s4 s5 h1 h2;go_in
  go_wp2_with(first|(go_at_call 150;refine(FY HV).mono ?_;rintro e w1 ⟨rfl,rfl⟩)|(go_at_call 245;refine(L5 HG p).mono ?_;rintro e w1 ⟨rfl,Y⟩;rw[HE.1];have X:=Y;clear Y))
  go_ret;exact⟨AU (by rw[HE.2]),HN.o (by rw[HE.2];decide) _ X⟩
 ·have HE:=(ξ h1 (ξ h2 h3));clear hV hr hp hg s1 s2 s3 s4 s5 h1 h2 h3;go_in
  go_wp2_with(first|(go_at_call 150;refine(FY HV).mono ?_;rintro e w1 ⟨rfl,rfl⟩)|(go_at_call 245;refine(L5 HG p).mono ?_;rintro e w1 ⟨rfl,Y⟩;rw[HE.1];have k0:=(Y.cell U 0).trans c0;have X:=Y;clear Y)|(go_at_call 246;refine(JVJ (HP.gr X)).mono ?_;rintro e w2 (⟨-,rfl,E⟩|⟨h,-⟩);rotate_left;(exact absurd HE.2.1 Ω);have Xb:=E;clear E))
  go_ret;exact⟨AU (by rw[HE.2.2]),HN.o (by rw[HE.2.2];decide) _ (X.trans Xb)⟩
 ·obtain⟨j,rfl,hj,h0,-⟩:=SA h3;have HE:=(ξ h1 (ξ h2 h3))
  have G:v.pl.next<4096:=by
   have hle:=PY hV.ok.pl;have A:=UN hV.ok.pl Ω;have hn:=LF hV.ok.pl;have hlen:v.pl.fresh.tk.length=v.pl.take.tk.length:=by unfold Pl.take;exact List.length_set.symm
   have:=A.le;have:=A.rm;omega
  have HM:=(show v.mp j={v with pl:=v.pl.take,pt:=v.pt.set j (v.pl.next+1)}by unfold Vm.mp;rw[θ h3,β]);have Xd:=(λ(w1 w2:World) (g1:Gr w w1) (t2:AB S1 w1 w2)=>YTd (((hg.gr g1).cut).touch t2 (λk hk _ hk2=>s3 k hk2 hk.1)) hj h0 G);have I:=(hV.ok.mp j);obtain⟨nx,Z⟩:=ε v.pl.next
  have V:=ι Z;rw[<-Z]at G;have B:=ι c1;clear hV hr hp hg s1 s2 s3 h1 h2 h3 Z h0;go_in
  go_wp2_with(first|(go_at_call 150;refine(FY HV).mono ?_;rintro e w1 ⟨rfl,rfl⟩)|(go_at_call 245;refine(L5 HG j).mono ?_;rintro e w1 ⟨rfl,Y⟩;rw[HE.1];have k0:=(Y.cell U 0).trans c0;have X:=Y;clear Y)|(go_at_call 246;refine(JVJ (HP.gr X)).mono ?_;rintro e w2 (⟨h,-⟩|⟨-,rfl,M,D⟩);(exact absurd h HE.2.1);rw[<-V.o];have k1:=(M.cell (ϑ U X.size) s4 1).trans ((X.cell U 1).trans B.o);have J:=ι M;have Xe:=ι D;clear M D)|(go_at_call 247;have N:=Xd _ _ X J.o;rw[<-V.o]at N;refine N.mono ?_;rintro e w3 ⟨rfl,O⟩;have Xc:=ι O;clear O N))
  go_ret;refine⟨AU (by rw[HE.2.2]),?_⟩;obtain⟨s1,s2,s3,s4,s5⟩:=HS;obtain⟨t3,p3⟩:=Xc.o;have Xa:AB S w w2:=(X.touch S).trans (J.o.mono (λk _ hk=>s1 k hk));have z1:=X.size;have z2:=J.o.size;refine⟨Xa.trans (t3.mono (λk _ hk=>s2 k hk.1)),I,.inl HV.sq,AD (plus S1 w1) w2,plus (AD S2 w1) w2,b1,b2,?_,?_,?_,λk hk=>?_,λk hk=>?_,λk hk hk2=>?_,λhk=>?_,λhk=>?_⟩
  ·rw[HM];exact((HR.gr X).touch J.o s4).touch t3 (λh=>s5 h.1)
  ·rw[HM]
   exact Xe.o.cut.touch t3 (λk hk _ hk2=>by
    rcases hk.1 with h|h
    ·exact s3 k h hk2.1
    ·have:=hk2.2;omega)
  ·rw[HM]
   show DE w3 _ b2 (v.pt.set j (v.pl.next+1))
   rw[<-V.o];exact p3
  ·rcases hk.1 with h|h
   ·exact .inl (s1 k h)
   ·exact .inr Ω
  ·rcases hk with h|h
   ·exact .inl (s2 k h.1)
   ·exact .inr Ω
  ·rcases hk2 with h|h
   ·rcases hk.1 with h'|h'
    ·exact s3 k h' h.1
    ·have:=h.2;omega
   ·have:=hk.2;omega
  ·rcases hk.1 with h|h
   ·exact s4 h
   ·omega
  ·rcases hk with h|h
   ·exact s5 h.1
   ·omega
theorem O4(hV:AE w S q v)(p:Int):Calls prog 130 #[pP q,iI p] w λe w'=>e=.returned (iI (frE v.pt p))/\YQ w S q (v.um p) w':=by
 have HV:=hV;obtain⟨S1,S2,b1,b2,hr,hp,hg,s1,s2,s3,s4,s5⟩:=hV.row;have Xb:=hr.lt;have c0:=hr.cc 0;have c1:=hr.cc 1;have HP:=hp;have HG:=hg;have HR:=hr;have HS:=(ξ s1 (ξ s2 (ξ s3 (ξ s4 s5))));by_cases h0:frE v.pt p=0
 ·have HE:=h0;obtain⟨j,rfl,hj,V⟩:=OY h0;have hf:=hV.ok.fr j hj V;obtain⟨f,Y⟩:=ε (v.pt.getD j 0-1);have HF:=ι Y;have D:=(show frV v.pt j=(f:Int)by unfold frV;rw[θ h0,β,Y];omega);rw[<-Y]at hf;have HM:=(show v.um j={v with pl:=v.pl.give f,pt:=v.pt.set j 0}by unfold Vm.um;rw[θ h0,β,Y]);have B:=(λ(w1:World) (t1:AB S2 w w1)=>XDh (p:=v.pl) (f:=f) ((hp.cut).touch t1 (λk hk _ hk2=>s3 k hk.1 hk2)) hf);have U:=(hV.ok.um j);clear hV hr hp hg s1 s2 s3 s4 h0 V hf Y;have Xa:=c0;go_in
  go_wp2_with(first|(go_at_call 150;refine(FY HV).mono ?_;rintro e w1 ⟨rfl,rfl⟩)|(go_at_call 195;refine(Yzj HG j).mono ?_;rintro e w1 ⟨rfl,(⟨h,-⟩|⟨-,Z,X⟩)⟩;(exact absurd HE h);rw[HE,D];have k0:=(Z.cell Xb s5 0).trans Xa;have J:=Z;have A:=X;clear Z X)|(go_at_call 196;refine(B _ J).mono ?_;rintro e w2 ⟨rfl,I,M⟩;have O:=I;have G:=M;clear I M))
  go_ret;refine⟨AU (by rw[HE]),?_⟩;obtain⟨s1,s2,s3,s4,s5⟩:=HS;have t1:=J;have t2:=O;have z1:=J.size;have z2:=O.size;refine⟨(t1.mono (λk _ hk=>s2 k hk)).trans (t2.mono (λk _ hk=>s1 k hk.1)),U,.inl HV.sq,plus (AD S1 w) w1,AD (plus S2 w) w1,b1,b2,?_,?_,?_,λk hk=>?_,λk hk=>?_,λk hk hk2=>?_,λhk=>?_,λhk=>?_⟩
  ·rw[HM];exact(HR.touch t1 s5).touch t2 (λh=>s4 h.1)
  ·rw[HM];exact G
  ·rw[HM];have X:=A;rw[β]at X
   exact X.cut.touch t2 (λk hk _ hk2=>by
    rcases hk.1 with h|h
    ·exact s3 k hk2.1 h
    ·have:=hk2.2;omega)
  ·rcases hk with h|h
   ·exact .inl (s1 k h.1)
   ·exact .inr Ω
  ·rcases hk.1 with h|h
   ·exact .inl (s2 k h)
   ·exact .inr Ω
  ·rcases hk with h|h
   ·rcases hk2.1 with h'|h'
    ·exact s3 k h.1 h'
    ·have:=h.2;omega
   ·have:=hk2.2;omega
  ·rcases hk with h|h
   ·exact s4 h.1
   ·omega
  ·rcases hk.1 with h|h
   ·exact s5 h
   ·omega
 ·obtain⟨y,hy⟩:=ε (frE v.pt p);have HX:=ι hy;have d0:(y==0)=false:=by rw[hy];simpa using h0
  have HM:=(SY h0);have Xc:=ι h0;clear hV hr hp hg h0 hy s1 s2 s3 s4 s5;go_in
  go_wp2_with(first|(go_at_call 150;refine(FY HV).mono ?_;rintro e w1 ⟨rfl,rfl⟩)|(go_at_call 195;refine(Yzj HG p).mono ?_;rintro e w1 ⟨rfl,(⟨-,E⟩|⟨h,-⟩)⟩;rotate_left;(exact absurd h Xc.o);rw[<-HX.o];have N:=ι E;clear E))
  go_ret;refine⟨AU (by rw[HX.o]),N.o.touch S,?_⟩;rw[HM];exact(HV.gr N.o).mono (λk hk=>.inl hk)
def Vm.new(n pg rm:Nat):Vm:=⟨n,Pl.none pg rm,List.replicate (n/pg) 0⟩
theorem AH.new(h1:FV rm=true)(h2:EX pg=true)(h3:1<=n)(h4:n<=524288)(h5:n%pg=0):AH (Vm.new n pg rm):=by
 have hd:n/pg*pg=n:=by grind [ζo,ζA]
 have h7:1<=n/pg:=by
  grind
 refine⟨Xgr h1 h2,J7.new h7 (by have:=ζV n pg;omega),h4,?_,λp hp hne=>?_,λp p' hp hp' hne=>?_,?_⟩
 ·show n=(List.replicate (n/pg) 0).length*pg
  simp_all
 ·exact absurd (PQ _ _) hne
 ·exact absurd (PQ _ _) hne
 ·show Pl.used (Pl.none pg rm)=nz (List.replicate (n/pg) 0)
  rw[UC];rfl
theorem ZEa(h1:FV rm=true)(h2:EX pg=true)(h3:1<=n)(h4:n<=524288)(h5:n%pg=0)(h6:1<=pg)(h7:pg<=256)(w:World):Calls prog 47 #[iI n,iI pg,iI rm] w λe w'=>
  ∃q,e=.returned (.tuple #[pP q,iI 0])/\Gr w w'/\AE w' (λk=>w.heap.size<=k) q (Vm.new n pg rm):=by
 have E:=(AH.new h1 h2 h3 h4 h5);have O:=(λw=>XXu rm pg Ω w);have HB:=(show (FV rm&&EX pg)=true by rw[h1,h2];rfl);have hd:n/pg*pg=n:=by have:=ζo n pg;rw[h5,ζA]at this;omega
 have h8:1<=n/pg:=by
  rcases ζF (n/pg)with h|h
  ·rw[h]at hd;omega
  ·exact h
 have h9:n/pg<=524288:=by have:=ζV n pg;omega
 obtain⟨m,hm⟩:=ε (n/pg);have q1:((n:Int).tdiv (pg:Int))=(m:Int):=by rw[hm];rfl
 have q2:((n:Int)/(pg:Int))=(m:Int):=by rw[hm];rfl
 have q3:((n:Int).tmod (pg:Int))=0:=by rw[show ((n:Int).tmod (pg:Int))=((n%pg:Nat):Int)from rfl,h5];rfl
 have q4:((n:Int)%(pg:Int))=0:=by rw[show ((n:Int)%(pg:Int))=((n%pg:Nat):Int)from rfl,h5];rfl
 rw[<-hm]at h8 h9;have HM:=ι hm;have D:=ι (λw=>J3k (w:=w) h8 h9);have hBp:(pg:Int)≠0:=Ω
 clear h1 h2 h5 hd hm;go_in
 go_wp2_with(first|(go_at_call 118;refine(O _).mono ?_;rintro e w1 (⟨h,-⟩|⟨-,rfl,M,J⟩);(exact absurd (HB.symm.trans h) (by decide));have V:=ι M;have U:=ι J;clear M J)|(go_at_call 119;refine(D.o _).mono ?_;rintro e w2 ⟨q2,rfl,Z,N⟩;have X:=(Rec.new w1 187 [pP w.heap.size,.pointer none,iI n]).gr Z;have kf:=X.free 1;have k1:=X.cc 1;have G:=ι X;have Y:=ι Z;have I:=ι N;clear Z N X))
 go_ret2;have z1:=V.o.size;have z2:=Y.o.size
 have hq:w.heap.size<w1.heap.size:=U.o.row.elim λ_ h=>by
  obtain⟨_,_,_,_,hr,-⟩:=h;exact hr.lt
 have hG:=AB.setCell (AB.refl (λk=>k=w1.heap.size) w2) (a:=⟨w1.heap.size,1,none⟩) (λ_=>rfl) (pP q2);simp only[π]at z2;refine⟨_,BT rfl rfl,?_,E,z1,AD (λb=>w.heap.size<=b) w1,λk=>w1.heap.size+1<=k,w.heap.size,q2,Rec.set G.o 1 _,?_,?_,λk hk=>hk.1,λk hk=>by omega,λk hk hk2=>by have:=hk.2;omega,λh=>by have:=h.2;omega,λh=>by omega⟩
 ·exact AB.gr ((((V.o.alloc _).trans Y.o).touch (λk=>w.heap.size<=k)).trans (hG.mono (λk _ hk=>by omega)) |>.mono (λk hk h=>by omega))
 ·have:=(U.o.cut.gr (((Gr.refl w1).alloc _).trans Y.o)).touch hG (λk hk _ he=>by have:=hk.2;omega);rw[β,β]at this;exact this
 ·have:=I.o.touch hG (λk hk _ he=>by simp only[π]at hk;omega);rw[HM.o]at this;exact this.mono (λk hk=>by simpa using hk)
end
structure B8(v v':Vm)(F:List Nat):Prop where
 ok:AH v'
 n:v'.n=v.n
 pg:v'.pl.pg=v.pl.pg
 rm:v'.pl.rm=v.pl.rm
 us:v'.pl.used=v.pl.used+F.length
 nd:F.Nodup
 un:∀p∈F,p<v.pt.length/\v.pt.getD p 0=0
 ma:∀p,p<v.pt.length->(v'.pt.getD p 0≠0↔(v.pt.getD p 0≠0\/p∈F))
 vl:∀a:Nat,a<v.n->v'.ldV a=if a/v.pl.pg∈F then 0 else v.ldV a
theorem AH.len{v:Vm}(h:AH v):v.pt.length=v.n/v.pl.pg:=by
 rw[h.np,ξR _ h.page.1]
theorem B8.len{v:Vm}(h:B8 v v' F)(hv:AH v):v'.pt.length=v.pt.length:=by
 rw[h.ok.len,hv.len,h.n,h.pg]
theorem B8.ldE{v:Vm}(h:B8 v v' F)(hv:AH v)(ha:a<v.n):v'.ldE a=if a/v.pl.pg∈F then 0 else v.ldE a:=by
 have h1:=h.ma _ (hv.split ha).1;rw[h.ok.ldE_of (by rw[h.n];exact ha),hv.ldE_of ha,h.pg]
 grind
theorem B8.refl{v:Vm}(h:AH v):B8 v v []:=
 ⟨h,rfl,rfl,rfl,rfl,ψm,λp hp=>(by cases hp),λp _=>by simp,λa _=>by simp⟩
theorem B8.mp{v:Vm}(h:B8 v v' F)(hv:AH v)(hp:v'.mpE p=0):B8 v (v'.mp p) (F++[p]):=by
 have e1:v'.mp p={v' with pl:=v'.pl.take,pt:=v'.pt.set p (v'.pl.next+1)}:=by unfold Vm.mp;simp_all
 obtain⟨j,hj,X,h0,hr⟩:=SA hp;obtain rfl:p=j:=Ω
 have hl:=h.len hv;have h1:=h.ma p Ω;have hpF:p∉F:=λhf=>h1.2 (.inr hf) h0;have hp0:v.pt.getD p 0=0:=ξM.1 (λhn=>h1.2 (.inl hn) h0);refine⟨h.ok.mp p,?_,?_,?_,?_,?_,λi hi=>?_,λi hi=>?_,λa ha=>?_⟩
 ·rw[e1];exact h.n
 ·rw[e1];exact(OL v'.pl).1.trans h.pg
 ·rw[e1];exact(OL v'.pl).2.1.trans h.rm
 ·rw[e1,ζm];rw[XT h.ok.pl,h.us];rfl
 ·rw[ψc];exact⟨h.nd,by simp,λa ha b hb=>by grind⟩
 ·rcases ζs.1 hi with h'|h'
  ·exact h.un i h'
  simp_all
 ·rw[e1];rw[FB X,ζs];by_cases e:p=i
  ·subst e;simp
  ·rw[ψ e,h.ma i hi]
   grind
 ·have:=h.ok.mp_ldV hp (a:=a) (by rw[h.n];exact ha);rw[this,h.pg,h.vl a ha]
  grind
theorem B8.um{v:Vm}(h:B8 v v' (F++[p]))(hv:AH v):frE v'.pt p=0/\B8 v (v'.um p) F:=by
 obtain⟨V,U⟩:=h.un p (by simp);have hl:=h.len hv;have h1:=(h.ma p V).2 (.inr (by simp));have X:frE v'.pt p=0:=by rw[NX Ω,ψ h1]
 have e1:v'.um p={v' with pl:=v'.pl.give (v'.pt.getD p 0-1),pt:=v'.pt.set p 0}:=by unfold Vm.um;rw[θ X,β]
 have J:=ψc.1 h.nd;have Z:p∉F:=λhf=>J.2.2 p hf p (by simp) rfl;refine⟨X,h.ok.um p,?_,?_,?_,?_,J.1,λi hi=>h.un i (by simp[hi]),λi hi=>?_,λa ha=>?_⟩
 ·rw[e1];exact h.n
 ·rw[e1];exact h.pg
 ·rw[e1];exact h.rm
 ·rw[e1]
  show (v'.pl.give _).used=_
  have h2:=QG (p:=v'.pl) (h.ok.frame h1);have h3:=h.us;rw[ζm,ξt]at h3;omega
 ·rw[e1];rw[FB Ω];by_cases e:p=i
  ·subst e;rw[θ rfl];exact⟨λh=>absurd rfl h,λh=>h.elim (λh=>absurd U h) (λh=>absurd h Z)⟩
  ·have:i∉[p]:=by simp;omega
   rw[ψ e,h.ma i hi,ζs];simp[this]
 ·by_cases e:a/v.pl.pg=p
  ·have hE:=h.ok.um_ldE X (a:=a) (by rw[h.n];exact ha);rw[h.pg,θ e]at hE;have Y:=hv.ldE_of ha;rw[e,θ U]at Y;rw[e,ψ Z];unfold Vm.ldV;rw[hE,Y];rfl
  ·have:=h.ok.um_ldV X (a:=a) (by rw[h.n];exact ha) (by rw[h.pg];exact e);rw[this,h.vl a ha];by_cases hf:a/v.pl.pg∈F
   ·rw[θ hf,θ (ζs.2 (.inl hf))]
   ·rw[ψ hf,ψ];intro hm;rcases ζs.1 hm with h'|h'
    ·exact hf h'
    ·simp at h';exact e h'
section
variable{v:Vm}
def J1(w:World)(S:Nat->Prop)(q:Nat)(v:Vm)(F:List Nat):Prop:=∃v',B8 v v' F/\AE w S q v'
theorem Y97(hv:AH v)(hG:J1 w S q v F)(hF:w.ownsRow 0 3 1 vF F.length (EI F))(hs:∀g,vF.ownBlock=some g->¬S g)
  (cs:w.cell? ⟨bs,0,none⟩=some vF) (cm:w.cell? ⟨bm,0,none⟩=some (pP q)) (ls:bs<w.heap.size) (lm:bm<w.heap.size) (ns:¬S bs) (nm:¬S bm):Calls prog 191 #[pP bs,pP bm] w λe w'=>e=.returned (.tuple #[])/\AB S w w'/\J1 w' (plus S w) q v []:=by
 obtain⟨A,c,rfl,Xd,B⟩:=B9 hF;unfold maxLen at B
 have V:F.length<=524288:=by
  obtain⟨v',hg,-⟩:=hG;have h1:=hg.us;have h2:=hg.ok.us;have h3:=OI v'.pt;have h4:=hg.ok.pt.n2;omega
 have HF:=hF;have HG:=hG;have HV:=hv;have HS:=hs;obtain⟨N,hN⟩:=ε F.length;rw[<-hN]at cs Xd V;have HN:=hN;go_in;go_wp2
 go_loopw [2] (λi wr=>∃k:Nat,k<=N/\Hid (AB S w wr)/\Hid (J1 wr (plus S w) q v (F.take k))/\i=iI ((k:Int)-1)) (λi _=>(intOf i+1).toNat)
 case atStart=>exact⟨N,μ _,⟨AB.refl S w⟩,⟨by obtain⟨v',hg,ha⟩:=HG;exact⟨v',by rw[HN,ζ0];exact hg,ha.mono (λk hk=>.inl hk)⟩⟩,by go_num⟩
 case round=>
  obtain⟨k,hk,HT,HK,rfl⟩:=hrel;by_cases E:k=0
  ·subst E;go_wp2
   go_end0
   exact⟨rfl,HT.o,HK.o⟩
  ·obtain⟨j,rfl⟩:∃j,k=j+1:=⟨k-1,by omega⟩;have Z:j<F.length:=Ω
   obtain⟨g,c',e1,-,-,-,-⟩:=E6 HF Ω;simp only[Value.slice.injEq]at e1;obtain⟨rfl,-,rfl⟩:=e1;have Y:=(A9 HF (g:=g) rfl).2;have ng:=HS g rfl;have kb:=BU HF (XS1 Z);obtain⟨p,hp⟩:=ε (F[j]);rw[<-hp]at kb;have HP:Hid (F.take (j+1)=F.take j++[p]):=⟨by rw[hp,List.take_add_one,τ Z];rfl⟩
   have KS:Hid (∀W',Gr wr W'->W'.cell? ⟨bs,0,none⟩=some (.slice (some ⟨g,0,none⟩) N c)/\W'.cell? ⟨bm,0,none⟩=some (pP q)/\W'.cell? ⟨g,j,none⟩=some (iI (p:Nat))):=
    ⟨λW' h=>⟨(h.cell (ϑ ls HT.o.size) 0).trans ((HT.o.cell ls ns 0).trans cs),(h.cell (ϑ lm HT.o.size) 0).trans ((HT.o.cell lm nm 0).trans cm),(h.cell (ϑ Y HT.o.size) j).trans ((HT.o.cell Y ng j).trans kb)⟩⟩
   clear Z Y ng kb hp cs cm;go_upto_region 3 with(fail);obtain⟨Sx,X⟩:=ε (λW'=>Gr wr W':World->Prop);have x1:∀p:AA Sx,p.w.cell? ⟨bs,0,none⟩=some (.slice (some ⟨g,0,none⟩) N c):=λp=>(KS.o _ (AA.get X p)).1;have x2:∀p:AA Sx,p.w.cell? ⟨bm,0,none⟩=some (pP q):=λp=>(KS.o _ (AA.get X p)).2.1;have x3:∀r:AA Sx,r.w.cell? ⟨g,j,none⟩=some (iI (p:Nat)):=λp=>(KS.o _ (AA.get X p)).2.2;have J:Sx wr.drew:=by rw[X];exact(Gr.refl wr).drew
   have inst:Inhabited (AA Sx):=⟨⟨_,J⟩⟩;clear X;refine BI Sx 5 [([0,1,2,3,4],5)] [] J ?_;refine AL ?_;obtain⟨vk,U,Xa⟩:=HK.o;rw[HP.o]at U;have Xb:=(U.um HV);have M:=(Xa.gr (Gr.refl wr).drew);go_wp2_with(go_at_call 130;refine Qa (O4 M (p:Int)) λw1⟨I,G⟩=>?_;have Xc:=I;have O:=G);refine⟨.inl trivial,?_⟩;refine EM ?_;refine ζb ?_;refine ζx ?_;go_wp2;have D:=HT.o.size;have h1:AB (plus S w) wr w1:=((Gr.refl wr).drew.touch _).trans Xc;go_round
   case rel=>
    refine⟨j,by omega,⟨HT.o.trans' h1 (λi hi hp=>hp.resolve_right Ω)⟩,⟨_,Xb.2,O.mono (λk hk=>?_)⟩,by go_num⟩;rcases hk with h|h
    ·exact h
    ·exact .inr (ω D h)
   case measure=>simp[intOf]
def CB(v:Vm)(p0 k:Nat):List Nat:=(List.range' p0 k).filter λp=>v.pt.getD p 0==0
theorem SC(v:Vm)(p0 k:Nat):CB v p0 (k+1)=if v.pt.getD (p0+k) 0=0 then CB v p0 k++[p0+k]else CB v p0 k:=by
 unfold CB
 grind [List.range'_concat]
theorem QO{v:Vm}:p∈CB v p0 k↔(p0<=p/\p<p0+k)/\v.pt.getD p 0=0:=by
 unfold CB;simp
theorem YNP(v:Vm)(p0:Nat)(h:k<=m):(CB v p0 k).length<=(CB v p0 m).length:=by
 induction m with
 | zero=>simp_all
 | succ m ih=>
  grind [δ,ω,SC]
def C5(v:Vm)(f t:Int):Nat:=((t-1)/v.pl.pg-f/v.pl.pg+1).toNat
def BN(v:Vm)(f t:Int):Int:=if f<0\/(v.n:Int)<t then 11 else if t<=f then 0 else if v.pl.used+(CB v (f/v.pl.pg).toNat (C5 v f t)).length<=v.pl.rm then 0 else 14
def CA(v:Vm)(f t:Int):List Nat:=if BN v f t=0/\f<t then CB v (f/v.pl.pg).toNat (C5 v f t)else []
structure UT(w wr:World)(S S':Nat->Prop)(q:Nat)(v:Vm)(p0 k bs bm:Nat)(vF:Value):Prop where
 t:AB S w wr
 g:J1 wr S' q v (CB v p0 k)
 own:wr.ownsRow 0 3 1 vF (CB v p0 k).length (EI (CB v p0 k))
 rs:Rec wr bs 42 [vF]
 rm:Rec wr bm 99 [pP q]
 sub:∀k,S' k->plus S w k
 ns:¬S' bs
 nm:¬S' bm
 ng:∀g,vF.ownBlock=some g->¬S' g
 ls:w.heap.size<=bs
 lg:∀g,vF.ownBlock=some g->w.heap.size<=g
theorem UT.map{wr:World}{v:Vm}(h:UT w wr S S' q v p0 k bs bm vF)(t:AB S' wr w1):
  AB S w w1/\w1.ownsRow 0 3 1 vF (CB v p0 k).length (EI (CB v p0 k))/\Rec w1 bs 42 [vF]/\Rec w1 bm 99 [pP q] ∧
   (∀k,plus S' wr k->plus S w k)/\¬plus S' wr bs/\¬plus S' wr bm/\(∀g,vF.ownBlock=some g->¬plus S' wr g):=by
 have hz:=h.t.size;refine⟨h.t.trans' t (λi hi hs=>(h.sub i hs).resolve_right Ω),AX h.own t h.ng,h.rs.touch t h.ns,h.rm.touch t h.nm,λk hk=>?_,λhk=>?_,λhk=>?_,λg hg hk=>?_⟩
 ·rcases hk with hk|hk
  ·exact h.sub k hk
  ·exact .inr Ω
 ·have:=h.rs.lt;exact hk.elim h.ns Ω
 ·have:=h.rm.lt;exact hk.elim h.nm Ω
 ·have:=(A9 h.own hg).2;exact hk.elim (h.ng g hg) Ω
theorem TD(hV:AE w S q v)(f t:Nat)(ht:t<=v.n)(hft:f<t):Calls prog 125 #[pP q,iI f,iI t] w λe w'=>e=.returned (iI (BN v f t))/\AB S w w'/\J1 w' (plus S w) q v (CA v f t):=by
 have HV:=hV;have hn:=hV.ok.n2;obtain⟨S1,S2,b1,b2,hr,hp,-⟩:=hV.row;have hql:=hr.lt;have c0:=hr.cc 0;have c2:=hr.cc 2;have Ya:=hV.ok.page;have HP:=hp;obtain⟨p0,Xa⟩:=ε (f/v.pl.pg);obtain⟨p1,M⟩:=ε ((t-1)/v.pl.pg);have h01:p0<=p1:=by rw[Xa,M];exact ζc Ω
 have h1l:p1<v.pt.length:=by rw[M];exact(hV.ok.split Ω).1
 have Y:(t:Int)-1=((t-1:Nat):Int):=Ω
 have Xk:Hid (C5 v f t=p1+1-p0/\((f:Int)/(v.pl.pg:Int)).toNat=p0):=⟨by
  unfold C5;rw[Y,<-ζ2,<-ζ2,<-Xa,<-M]
  exact⟨by omega,β _⟩⟩
 have HE:Hid (BN v f t=if v.pl.used+(CB v p0 (p1+1-p0)).length<=v.pl.rm then 0 else 14):=⟨by
  unfold BN
  rw[ψ Ω,ψ Ω,Xk.o.1,Xk.o.2]⟩
 have HF:Hid (CA v f t=if v.pl.used+(CB v p0 (p1+1-p0)).length<=v.pl.rm then CB v p0 (p1+1-p0)else []):=⟨by
  unfold CA;rw[HE.o,Xk.o.1,Xk.o.2]
  split
  ·rw[θ ⟨rfl,by omega⟩]
  ·rw[ψ (λh=>absurd h.1 (by decide))]⟩
 obtain⟨B,hB⟩:=ε v.pl.pg;have HB:=ι hB;rw[<-hB]at Xa M Ya;have q1:((f:Int).tdiv (B:Int))=(p0:Int):=by rw[Xa];rfl
 have q2:((f:Int)/(B:Int))=(p0:Int):=by rw[Xa];rfl
 have q3:(((t:Int)-1).tdiv (B:Int))=(p1:Int):=by rw[Y,M];rfl
 have q4:(((t:Int)-1)/(B:Int))=(p1:Int):=by rw[Y,M];rfl
 have hBp:(B:Int)≠0:=Ω
 have d0:decide ((f:Int)<0)=false:=ζ Ω;have d1:decide ((v.n:Int)<(t:Int))=false:=ζ Ω;have d2:decide ((t:Int)<=(f:Int))=false:=ζ Ω;have hpt:=hV.ok.pt.n2;clear hV hr hp hB Xa M Y;go_in
 go_wp2_with(first|(go_at_call 150;refine(FY (HV.gr ((Gr.refl w).alloc _))).mono ?_;rintro e w1 ⟨rfl,rfl⟩)|(go_at_call 192;refine(VD (HP.gr (((Gr.refl w).alloc _).alloc _))).mono ?_;rintro e w1 ⟨rfl,rfl⟩;rw[<-HB.o]))
 obtain⟨bm,Xd⟩:=ε w.heap.size;rw[<-Xd]
 have Xx:=ι (show UT w ((w.alloc (Obj.cells #[pP q] 99)).alloc (Obj.cells #[.slice none 0 0] 42)) S (AD S w) q v p0 0 (bm+1) bm (.slice none 0 0)from
  ⟨((AB.refl S w).alloc _).alloc _,⟨v,B8.refl HV.ok,HV.cut.gr (((Gr.refl w).alloc _).alloc _)⟩,FD _ _ _ _,by
   have:=Rec.new (w.alloc (Obj.cells #[pP q] 99)) 42 [.slice none 0 0];rw[π,<-Xd]at this;exact this,by
   have:=Rec.gr (Rec.new w 99 [pP q]) ((Gr.refl _).alloc (Obj.cells #[.slice none 0 0] 42));rw[<-Xd]at this
   exact this,λk hk=>.inl hk.1,λh=>by have:=h.2;omega,λh=>by have:=h.2;omega,(λg h=>by cases h),by omega,(λg h=>by cases h)⟩)
 go_loopw [10] (λp wr=>∃(k:Nat) (S':Nat->Prop) (vF:Value),k<=p1+1-p0/\Hid (UT w wr S S' q v p0 k (bm+1) bm vF)/\p=iI ((p0+k:Nat):Int)) (λp _=>p1+1-(intOf p).toNat)
 case atStart=>exact⟨0,AD S w,.slice none 0 0,by omega,Xx,by go_num⟩
 case round=>
  obtain⟨k,S',vF,hk,HI,rfl⟩:=hrel;have Xv:=ι Xd;clear Xx c0 c2 Xd;obtain⟨r,hr⟩:=ε (p0+k);rw[<-hr];by_cases Z:k=p1+1-p0
  ·have d3:decide (r<=p1)=false:=ζ Ω;have HR:=ι hr;have HL:=ι Z;clear hr Z;go_wp2;go_ret;obtain⟨v',hg,D⟩:=HI.o.g;have Ye:=hg.us;have Xo:=PY hg.ok.pl;rw[hg.rm,Ye]at Xo;rw[HL.o]at hg Xo;refine⟨AU (by rw[HE.o,θ Xo]),HI.o.t,v',?_,D.mono HI.o.sub⟩;rw[HF.o,θ Xo];exact hg
  ·have d3:decide (r<=p1)=true:=φ Ω;obtain⟨v',hg,D⟩:=HI.o.g;obtain⟨A,c,rfl,Yi,Yj⟩:=B9 HI.o.own;unfold maxLen at Yj;have hS:=SC v p0 k;rw[<-hr]at hS;have Xl:r<v.pt.length:=Ω
   have Xf:=hg.ma r Xl;have Xi:r∉CB v p0 k:=λh=>by have:=(QO.1 h).1;omega
   have Xr:=hg.len HV.ok;have G:pgE v'.pt r=0:=by unfold pgE;rw[θ ⟨by omega,by omega⟩]
   have km:=HI.o.rm.cc 0;have hr2:r<=524288:=Ω
   have lbm:=HI.o.rm.lt;have lbs:=HI.o.rs.lt;have Xq:=ι D;have Xt:=ι hg;have HK:=ι hk;have HR:=ι hr;have Xn:=ι Z;by_cases h0:v.pt.getD r 0=0
   ·rw[θ h0]at hS;have O:v'.pt.getD r 0=0:=ξM.1 (λhn=>(Xf.1 hn).elim (λh=>h h0) Xi);by_cases J:v'.pl.used=v'.pl.rm
    ·have HM:Hid (v'.mpE r=14):=⟨by
      unfold Vm.mpE
      rw[ψ (by rw[G];decide),β,ψ (by rw[O];decide),θ J]⟩
     have Xy:Hid (¬v.pl.used+(CB v p0 (p1+1-p0)).length<=v.pl.rm):=⟨by
      have h1:=YNP v p0 (show k+1<=p1+1-p0 by omega);rw[hS,ζm,ξt]at h1;have h2:=hg.us;have h3:=hg.rm
      omega⟩
     clear hS h0 O J Xf Xi Xr G hg D hk hr Z Xl
     go_wp2_with(first|(go_at_call 193;refine(YZ Xq.o r).mono ?_;rintro e w1 ⟨rfl,Y,X⟩;rw[HM.o];have V:=ι Y;have Xc:=ι X;clear Y X)|(go_at_call 191;have X:=Xc.o;rw[WM (by rw[HM.o];decide)]at X;obtain⟨-,i2,i3,i4,-,i6,i7,i8⟩:=HI.o.map V.o;refine(Y97 HV.ok ⟨_,Xt.o,X⟩ i2 i8 (i3.cc 0) (i4.cc 0) i3.lt i4.lt i6 i7).mono ?_;rintro e w2 ⟨rfl,Xw,Xj⟩;have Xb:=ι Xw;have Yd:=ι Xj;clear Xw Xj X i2 i3 i4 i6 i7 i8))
     go_ret;obtain⟨i1,i2,i3,i4,i5,i6,i7,i8⟩:=HI.o.map V.o;have hz:=HI.o.t.size;have Yg:=V.o.size;refine⟨AU (by rw[HE.o,ψ Xy.o]),i1.trans' Xb.o (λi hi hs=>(i5 i hs).resolve_right Ω),?_⟩;rw[HF.o,ψ Xy.o];obtain⟨v2,Xj,Yb⟩:=Yd.o;refine⟨v2,Xj,Yb.mono (λk hk=>?_)⟩;rcases hk with hk|hk
     ·exact i5 k hk
     ·exact .inr Ω
    ·have HM:Hid (v'.mpE r=0):=⟨by
      unfold Vm.mpE
      rw[ψ (by rw[G];decide),β,ψ (by rw[O];decide),ψ J]⟩
     have Yh:=ι (hg.mp HV.ok HM.o);have Xg:=ι hS
     have Yl:(CB v p0 k).length<=524288:=by
      have h1:=hg.us;have h2:=hg.ok.us;have h3:=OI v'.pt;have h4:=hg.ok.pt.n2;omega
     obtain⟨N,hN⟩:=ε ((CB v p0 k).length);have HN:=ι hN;rw[<-hN]at Yi Yl;clear hS h0 O J Xf Xi Xr G hg D hk hr Z Xl;rw[<-hN]at HI;clear hN;obtain⟨ii,Yk,Yn,Xz,Yc⟩:=info_parts YWy
     go_wp2_with(first|(go_at_call 193;refine(YZ Xq.o r).mono ?_;rintro e w1 ⟨rfl,Y,X⟩;rw[HM.o];have Xh:=ι (HI.o.rs.touch Y HI.o.ns);have ks:=Xh.o.cc 0;have V:=ι Y;have Xc:=ι X;have Xm:=ι (HI.o.map Y).2.1;rw[<-HN.o]at Xm;clear Y X)|(at_builtin;refine wpList_append_lies _ rfl _ _ 42 rfl 0 3 ii _ 1 8 underlying42 Yk Yn Xz Yc rfl (by decide) (.slice A N c) N (EI (CB v p0 k)) rfl (Xm.o.alloc _) ⟨w1.heap.size,0,none⟩ 1 1 [iI (r:Nat)] rfl rfl (ζY (cs:=#[iI (r:Nat)]) (t:=3) (fr:=(0,0)) (heap_alloc_new w1 (.cells #[.int .i64 (r:Nat)] 3))) (by simp[Value.oneCell']) Ω (by unfold maxLen;omega) Ω (ζe _) (w1.heap.size+1) (by simp) ?_;intro g2 Yf w2 Xe E U Xp;have t2:AB (λk=>(Value.slice A N c).ownBlock=some k) w1 w2:=(((Gr.refl _).alloc _).touch _).trans (DT E _ (λk e _=>e));have I:=ι (Xh.o.touch t2 (λe=>AG Xm.o Xh.o (by decide) e rfl rfl));have ks2:=I.o.cc 0;have kf2:=I.o.free 0;have Xb:=ι t2;have Xu:=ι Xe;have Ym:=ι (ξ U Xp);clear Xe E U Xp t2))
     have hI:=HI.o;have hN:=HN.o;obtain⟨i1,i2,i3,i4,i5,i6,i7,i8⟩:=HI.o.map V.o;have hz:=HI.o.t.size;have Yg:=V.o.size;have hz2:=Xb.o.size;have U:=Ym.o;have Xs:AB S w w2:=i1.trans' Xb.o (λi hi hs=>by have:=HI.o.lg i hs;omega);go_round
     case rel=>
      refine⟨k+1,AD (plus S' wr) w1,.slice (some ⟨g2,0,none⟩) (N+1) Yf,by have:=HK.o;have:=Xn.o;omega,⟨?_⟩,by rw[HR.o];go_num⟩;refine⟨Xs.setCell (a:=⟨bm+1,0,none⟩) (λh=>by have:=Xv.o;have h:bm+1<w.heap.size:=h;omega) _,?_,?_,?_,?_,λi hi=>i5 i hi.1,λh=>i6 h.1,λh=>i7 h.1,λg hg=>?_,by have:=Xv.o;omega,λg hg=>?_⟩
      ·refine⟨_,by rw[Xg.o];exact Yh.o,((Xc.o.cut.touch Xb.o (λi hi _ e=>i8 i e hi.1)).touch ((AB.refl (λi=>i=bm+1) w2).setCell (a:=⟨bm+1,0,none⟩) (λ_=>rfl) _) (λi hi _ e=>by subst e;exact i6 hi.1))⟩
      ·rw[Xg.o,ζm,ξt,<-HN.o,show EI (CB v p0 k++[r])=EI (CB v p0 k)++[iI (r:Nat)]by unfold EI;rw[ζI];rfl];exact AW Xu.o _ (λg hg=>AG Xu.o I.o (by decide) hg rfl)
      ·exact Rec.set I.o 0 _
      ·exact AW (i4.touch Xb.o (λe=>AG Xm.o i4 (by decide) e rfl rfl)) _ (λg hg=>by cases hg;show bm≠bm+1;omega)
      ·intro hc;cases hg;rcases U.1 with h|h
       ·exact i8 _ h hc.1
       ·have:g2<w1.heap.size:=hc.2;omega
      ·cases hg;rcases U.1 with h|h
       ·exact HI.o.lg _ h
       ·show w.heap.size<=g2
        omega
     case measure=>have:=HK.o;have:=Xn.o;have:=HR.o;simp[intOf];omega
   ·rw[ψ h0]at hS;have O:v'.pt.getD r 0≠0:=Xf.2 (.inl h0)
    have HM:Hid (v'.mpE r=13):=⟨by
     unfold Vm.mpE
     rw[ψ (by rw[G];decide),β,θ O]⟩
    have Xg:=ι hS;clear hS h0 O Xf Xi Xr G hg D hk hr Z Xl;go_wp2_with(go_at_call 193;refine(YZ Xq.o r).mono ?_;rintro e w1 ⟨rfl,Y,X⟩;rw[HM.o];have V:=ι Y;have Xc:=ι X;clear Y X);obtain⟨i1,i2,i3,i4,i5,i6,i7,i8⟩:=HI.o.map V.o;have X:=Xc.o;rw[WM (by rw[HM.o];decide)]at X;go_round
    case rel=>
     refine⟨k+1,plus S' wr,_,by have:=HK.o;have:=Xn.o;omega,⟨i1,?_,?_,i3,i4,i5,i6,i7,i8,HI.o.ls,HI.o.lg⟩,by rw[HR.o];go_num⟩
     ·rw[Xg.o];exact⟨_,Xt.o,X⟩
     ·rw[Xg.o];exact i2
    case measure=>have:=HK.o;have:=Xn.o;have:=HR.o;simp[intOf];omega
end
section
variable{v:Vm}
theorem JR1{p:Pl}(hP:CN w S q p):cQ 157 #[pP q] w (iI p.used):=by
 obtain⟨vw,vt,vb,hi,ts,hr,-⟩:=hP.row;have c4:=hr.cc 5;go_enter func157,ntmps157;go_wp2;go_ret
 simp_all
theorem VFh{p:Pl}(hP:CN w S q p):cQ 275 #[pP q] w (iI p.rm):=by
 obtain⟨vw,vt,vb,hi,ts,hr,-⟩:=hP.row;have c4:=hr.cc 3;go_enter func275,ntmps275;go_wp2;go_ret
 simp_all
theorem JS(hV:AE w S q v):cQ 129 #[pP q] w (iI v.pl.pg):=by
 have HV:=hV;obtain⟨S1,S2,b1,b2,hr,hp,-⟩:=hV.row;have c0:=hr.cc 0;have HP:=hp;go_enter func129,ntmps129
 go_wp2_with(first|(go_at_call 150;refine(FY HV).mono ?_;rintro e w1 ⟨rfl,rfl⟩)|(go_at_call 192;refine(VD HP).mono ?_;rintro e w1 ⟨rfl,rfl⟩))
 go_ret
 simp_all
theorem XOa(hV:AE w S q v):cQ 73 #[pP q] w (iI v.pl.used):=by
 have HV:=hV;obtain⟨S1,S2,b1,b2,hr,hp,-⟩:=hV.row;have c0:=hr.cc 0;have HP:=hp;go_enter func73,ntmps73
 go_wp2_with(first|(go_at_call 150;refine(FY HV).mono ?_;rintro e w1 ⟨rfl,rfl⟩)|(go_at_call 157;refine(JR1 HP).mono ?_;rintro e w1 ⟨rfl,rfl⟩))
 go_ret
 simp_all
theorem JXO(hV:AE w S q v):cQ 226 #[pP q] w (iI v.pl.rm):=by
 have HV:=hV;obtain⟨S1,S2,b1,b2,hr,hp,-⟩:=hV.row;have c0:=hr.cc 0;have HP:=hp;go_enter func226,ntmps226
 go_wp2_with(first|(go_at_call 150;refine(FY HV).mono ?_;rintro e w1 ⟨rfl,rfl⟩)|(go_at_call 275;refine(VFh HP).mono ?_;rintro e w1 ⟨rfl,rfl⟩))
 go_ret
 simp_all
theorem J0(hV:AE w S q v):cQ 71 #[pP q] w (iI v.n):=by
 have HV:=hV;obtain⟨S1,S2,b1,b2,hr,hp,-⟩:=hV.row;have c0:=hr.cc 2;go_enter func71,ntmps71;go_wp2_with(go_at_call 150;refine(FY HV).mono ?_;rintro e w1 ⟨rfl,rfl⟩);go_ret
 simp_all
theorem Jus(w:World):cQ 71 #[.pointer none] w (iI 0):=by
 go_enter func71,ntmps71;go_wp2_with(go_at_call 150;refine(YU7 _).mono ?_;rintro e w1 ⟨rfl,rfl⟩);go_ret;exact⟨rfl,rfl⟩
theorem Q7x(hV:AE w S q v)(f t:Nat)(ht:t<=v.n)(hft:t<=f):Calls prog 125 #[pP q,iI f,iI t] w λe w'=>e=.returned (iI 0)/\Gr w w':=by
 obtain⟨S1,S2,b1,b2,hr,-⟩:=hV.row;have d0:decide ((f:Int)<0)=false:=ζ Ω;have c2:=(hr.gr ((Gr.refl w).alloc (.cells #[.pointer (some ⟨q,0,none⟩)] 99))).cell (j:=2) rfl;have X:=(hV.gr ((Gr.refl w).alloc (.cells #[.pointer (some ⟨q,0,none⟩)] 99)));go_in;go_wp2_with(go_at_call 150;refine(FY X).mono ?_;rintro e w1 ⟨rfl,rfl⟩);go_ret;exact⟨rfl,(Gr.refl w).alloc _⟩
end
structure Hdr where
 p:Int
 f:Int
 k:Int
def AO(h:Hdr):Value:=.agg #[iI h.p,iI h.f,iI h.k]
def inS(x:Int):Bool:=decide (0<=x/\x<256)
def DA(h:Hdr):Int:=if inS h.p&&inS h.f&&inS h.k&&decide (h.p+h.f+h.k<256)then 0 else 15
def CD(h:Hdr):Int:=if DA h=0 then 1+h.p+h.f+h.k else 0
theorem XM(x:Int):(decide (x<0)=true/\inS x=false)\/(decide (x<0)=false/\decide (256<=x)=true/\inS x=false)\/(decide (x<0)=false/\decide (256<=x)=false/\inS x=true):=by
 by_cases h0:x<0
 ·exact .inl ⟨φ h0,ζ Ω⟩
 ·by_cases h1:256<=x
  ·exact .inr (.inl ⟨ζ h0,φ h1,ζ Ω⟩)
  ·exact .inr (.inr ⟨ζ h0,ζ h1,φ Ω⟩)
theorem TQ{h:Hdr}(he:DA h=0):∃a b c:Nat,h=⟨a,b,c⟩/\a+b+c<=255:=by
 unfold DA inS at he
 split at he
 ·rename_i hh;simp only[ζd,ζg]at hh;obtain⟨p,f,k⟩:=h;simp only at hh;exact⟨p.toNat,f.toNat,k.toNat,by grind,by omega⟩
 ·cases he
theorem DM(h:a+b+c<=255):DA ⟨a,b,c⟩=0:=by
 unfold DA inS
 grind
theorem Vhh(h:Hdr):DA h=0\/DA h=15:=by unfold DA;omega
theorem PA(h:Hdr)(w:World):Calls prog 79 #[AO h] w λe w'=>e=.returned (iI (DA h))/\Gr w w':=by
 obtain⟨p,f,k⟩:=h;unfold AO;simp only[];have HE:Hid (DA ⟨p,f,k⟩=if inS p&&inS f&&inS k&&decide (p+f+k<256)then 0 else 15):=⟨rfl⟩
 have HN:∀x,x=p\/x=f\/x=k->Hid (inS x=false->DA ⟨p,f,k⟩=15):=λx hx=>⟨λh0=>by
  rw[HE.o]
  grind⟩
 have HY:Hid (inS p=true->inS f=true->inS k=true->DA ⟨p,f,k⟩=if p+f+k<256 then 0 else 15):=⟨λa b c=>by
  rw[HE.o,a,b,c]
  simp_all⟩
 have H0:=HN p (.inl rfl);have H1:=HN f (.inr (.inl rfl));have H2:=HN k (.inr (.inr rfl));obtain⟨E,hE⟩:=ε (DA ⟨p,f,k⟩);rw[<-hE]at H0 H1 H2 HY HE⊢;clear hE;have i0:∀W,(Instr.index 83 (.agg #[iI p,iI f,iI k]) (iI 0)).run prog W=.ok (iI p) W:=λ_=>by kernel_rfl
 have i1:∀W,(Instr.index 83 (.agg #[iI p,iI f,iI k]) (iI 1)).run prog W=.ok (iI f) W:=λ_=>by kernel_rfl
 have i2:∀W,(Instr.index 83 (.agg #[iI p,iI f,iI k]) (iI 2)).run prog W=.ok (iI k) W:=λ_=>by kernel_rfl
 go_in;go_wp2
 go_loop [12] (λi=>∃j:Nat,j<=3/\i=iI j/\Hid ((1<=j->inS p=true)/\(2<=j->inS f=true)/\(3<=j->inS k=true))) (λi=>3-(intOf i).toNat)
 case atStart=>exact⟨0,by omega,rfl,⟨λh=>by omega,λh=>by omega,λh=>by omega⟩⟩
 case round=>
  obtain⟨j,hj,rfl,HJ⟩:=hrel;rcases(by omega:j=0\/j=1\/j=2\/j=3)with rfl|rfl|rfl|rfl
  ·rcases XM p with⟨p0,E1⟩|⟨p0,p1,E1⟩|⟨p0,p1,E1⟩
   ·have E1:=E1;go_wp2;go_ret;exact⟨AU (H0.o E1).symm,(Gr.refl w).alloc _⟩
   ·have E1:=E1;go_wp2;go_ret;exact⟨AU (H0.o E1).symm,(Gr.refl w).alloc _⟩
   ·have E1:=E1;go_wp2;go_round
    case rel=>exact⟨1,by omega,by go_num,⟨λ_=>E1,λh=>by omega,λh=>by omega⟩⟩
    case measure=>simp[intOf]
  ·rcases XM f with⟨p0,E1⟩|⟨p0,p1,E1⟩|⟨p0,p1,E1⟩
   ·have E1:=E1;go_wp2;go_ret;exact⟨AU (H1.o E1).symm,(Gr.refl w).alloc _⟩
   ·have E1:=E1;go_wp2;go_ret;exact⟨AU (H1.o E1).symm,(Gr.refl w).alloc _⟩
   ·have E1:=E1;go_wp2;go_round
    case rel=>exact⟨2,by omega,by go_num,⟨λ_=>HJ.o.1 Ω,λ_=>E1,λh=>by omega⟩⟩
    case measure=>simp[intOf]
  ·rcases XM k with⟨p0,E1⟩|⟨p0,p1,E1⟩|⟨p0,p1,E1⟩
   ·have E1:=E1;go_wp2;go_ret;exact⟨AU (H2.o E1).symm,(Gr.refl w).alloc _⟩
   ·have E1:=E1;go_wp2;go_ret;exact⟨AU (H2.o E1).symm,(Gr.refl w).alloc _⟩
   ·have E1:=E1;go_wp2;go_round
    case rel=>exact⟨3,by omega,by go_num,⟨λ_=>HJ.o.1 Ω,λ_=>HJ.o.2.1 Ω,λ_=>E1⟩⟩
    case measure=>simp[intOf]
  ·have j1:=HJ.o.1 Ω;have j2:=HJ.o.2.1 Ω;have j3:=HJ.o.2.2 Ω;have HZ:=ι (HY.o j1 j2 j3);unfold inS at j1 j2 j3;simp only[ζg]at j1 j2 j3;by_cases hs:p+f+k<256
   ·have d0:decide (256<=p+f+k)=false:=ζ Ω;have HS:=hs;go_wp2;go_ret;exact⟨AU (by rw[HZ.o,θ HS]),(Gr.refl w).alloc _⟩
   ·have d0:decide (256<=p+f+k)=true:=φ Ω;have HS:=hs;go_wp2;go_ret;exact⟨AU (by rw[HZ.o,ψ Ω]),(Gr.refl w).alloc _⟩
theorem LH(h:Hdr)(w:World):Calls prog 81 #[AO h] w λe w'=>e=.returned (iI (CD h))/\Gr w w':=by
 have HC:=(λW=>PA h W);rcases Vhh h with he|he
 ·obtain⟨a,b,c,rfl,hs⟩:=TQ he;have HN:Hid (CD ⟨a,b,c⟩=1+(a:Int)+b+c):=⟨θ he⟩;unfold AO at HC⊢;go_in;go_wp2_with(go_at_call 79;refine Qa (HC _) λw1 X=>?_;have hl:=(Gr.refl w).alloc (.cells #[.int .i64 a,.int .i64 b,.int .i64 c] 34);have k0:=(X.cell (b:=w.heap.size) (by simp) 0).trans (ζw _ _ _ 0 rfl);have k1:=(X.cell (b:=w.heap.size) (by simp) 1).trans (ζw _ _ _ 1 rfl);have k2:=(X.cell (b:=w.heap.size) (by simp) 2).trans (ζw _ _ _ 2 rfl);have Y:=(hl.trans X));go_ret;exact⟨AU (by rw[HN.o]),Y⟩
 ·have HN:Hid (CD h=0):=⟨ψ (by rw[he];decide)⟩;unfold AO at HC⊢;go_in;go_wp2_with(go_at_call 79;refine Qa (HC _) λw1 X=>?_;have Y:=(((Gr.refl w).alloc _).trans X));go_ret;exact⟨AU (by rw[HN.o]),Y⟩
def JM(a b c:Nat):Nat:=a+256*b+65536*c+2768240640
def C8(a b c:Nat):Nat:=(4294967295-JM a b c)*4294967296+JM a b c
def BS(h:Hdr)(i:Int):Int:=if 0<=i/\i<CD h-1 then (if i<h.p then 1 else if i<h.p+h.f then 2 else 3)else 0
theorem K8(a b i m:Nat)(hm:m=2 ^ i)(h:a<m):a ||| (b*m)=b*m+a:=by
 subst hm;rw[Nat.or_comm,<-Nat.shiftLeft_eq,Nat.shiftLeft_add_eq_or_of_lt h]
theorem Z2Y(n:Nat)(hn:n<4294967296):bits .xor .u32 IntKind.u32.max (n:Int)=((4294967295-n:Nat):Int):=by
 have h1:(BitVec.ofInt 32 (n:Int)).toNat=n:=by
  simp_all
 have h2:BitVec.ofInt 32 IntKind.u32.max=BitVec.allOnes 32:=by decide
 show IntKind.u32.wrap ((BitVec.ofInt 32 IntKind.u32.max ^^^ BitVec.ofInt 32 (n:Int)).toNat:Int)=_
 rw[h2,BitVec.allOnes_xor,BitVec.toNat_not,h1,IntKind.wrap_u32];omega
theorem XiL(hs:a+b+c<=255):bits .or .u32 (bits .or .u32 (bits .or .u32 (a:Int) ((b:Int)*256)) ((c:Int)*65536)) 2768240640=((JM a b c:Nat):Int):=by
 have e1:((b:Int)*256)=((b*256:Nat):Int):=Ω
 have e2:((c:Int)*65536)=((c*65536:Nat):Int):=Ω
 have e3:(2768240640:Int)=((165*16777216:Nat):Int):=Ω
 rw[e1,e2,e3,u32_or_nat a (b*256) Ω Ω,K8 a b 8 256 (by decide) Ω,u32_or_nat _ (c*65536) Ω Ω,K8 _ c 16 65536 (by decide) Ω,u32_or_nat _ (165*16777216) Ω Ω,K8 _ 165 24 16777216 (by decide) Ω];unfold JM;omega
theorem Vts(hs:a+b+c<=255):JM a b c<4294967296:=by unfold JM;omega
theorem J0L(hn:n<4294967296):bits .or .u64 (((4294967295-n:Nat):Int)*4294967296) (n:Int)=(((4294967295-n)*4294967296+n:Nat):Int):=by
 have e1:(((4294967295-n:Nat):Int)*4294967296)=(((4294967295-n)*4294967296:Nat):Int):=Ω
 rw[e1,bits_or_u64_nat _ _ Ω Ω,Nat.or_comm,K8 _ _ 32 4294967296 (by decide) hn]
theorem Jii(hs:a+b+c<=255)(w:World):Calls prog 163 #[AO ⟨a,b,c⟩] w λe w'=>e=.returned (.tuple #[uU (C8 a b c:Nat),iI 0])/\Gr w w':=by
 have HC:=(λW=>PA ⟨a,b,c⟩ W);have HE:=(DM hs);have f1:=XiL hs;have hn:=Vts hs;have HW:Hid (C8 a b c=(4294967295-JM a b c)*4294967296+JM a b c):=⟨rfl⟩;obtain⟨n,Y⟩:=ε (JM a b c);rw[<-Y]at f1 hn HW;have f2:=Z2Y n hn;have f3:=J0L hn;have f4:IntKind.u64.wrap (((4294967295-n:Nat):Int))=((4294967295-n:Nat):Int):=by rw[ζG];omega
 have f5:IntKind.u64.wrap (((4294967295-n:Nat):Int)*4294967296)=((4294967295-n:Nat):Int)*4294967296:=by rw[ζG];omega
 have f6:IntKind.u64.wrap (n:Int)=(n:Int):=by rw[ζG];omega
 generalize 4294967295-n=m at f2 f3 f4 f5 HW;clear Y hn;unfold AO at HC⊢;go_in;go_wp2_with(go_at_call 79;refine Qa (HC _) λw1 X=>?_;rw[HE];have hl:=(Gr.refl w).alloc (.cells #[.int .i64 a,.int .i64 b,.int .i64 c] 34);have k0:=(X.cell (b:=w.heap.size) (by simp) 0).trans (ζw _ _ _ 0 rfl);have k1:=(X.cell (b:=w.heap.size) (by simp) 1).trans (ζw _ _ _ 1 rfl);have k2:=(X.cell (b:=w.heap.size) (by simp) 2).trans (ζw _ _ _ 2 rfl);have Z:=(hl.trans X));go_ret2;exact⟨BT (by rw[HW.o];rfl) rfl,Z⟩
def GT(x:Nat):Bool:=decide (x%4294967296/16777216=165)&&decide (x/4294967296=4294967295-x%4294967296)&&decide (x%256+x/256%256+x/65536%256<=255)
def tkH(x:Nat):Hdr:=if GT x then ⟨(x%256:Nat),(x/256%256:Nat),(x/65536%256:Nat)⟩else ⟨0,0,0⟩
def tkE(x:Nat):Int:=if GT x then 0 else 16
theorem V2(n:Nat)(hn:n<4294967296):bits .and .u32 (n:Int) 255=((n%256:Nat):Int):=by
 rw[show (255:Int)=((255:Nat):Int)from rfl,u32_and_nat n 255 hn Ω];have:n &&& 255=n%256:=Nat.and_two_pow_sub_one_eq_mod n 8;omega
theorem VI(W:World)(blk:Nat)(p q r:Value)(h0:W.cell? ⟨blk,0,none⟩=some p)(h1:W.cell? ⟨blk,1,none⟩=some q)(h2:W.cell? ⟨blk,2,none⟩=some r):(loadVar 34 ⟨blk,0,none⟩).run prog W=.ok (.agg #[p,q,r]) W:=by
 have a1:(isAgg 34).run prog W=.ok true W:=by kernel_rfl
 have a2:(sizeOf 34).run prog W=.ok 3 W:=by kernel_rfl
 simp[loadVar,Sem.run_bind,a1,a2,Result.andThen,loadCells,go_sem,h0,h1,h2]
theorem ZBB{ys:List Value}(hg:Gr ((w.alloc (.cells xs.toArray 34)).alloc (.cells ys.toArray 34)) w1):Rec w1 w.heap.size 34 xs/\Rec w1 (w.heap.size+1) 34 ys:=by
 refine⟨((Rec.new w _ xs).gr ((Gr.refl _).alloc _)).gr hg,?_⟩;have:=(Rec.new (w.alloc (.cells xs.toArray 34)) 34 ys).gr hg
 simp_all
theorem Q9L{o o2:Obj}(hg:Gr ((w.alloc o).alloc o2) w1){x y z:Value}:Gr w (((w1.setCell ⟨w.heap.size,0,none⟩ x).setCell ⟨w.heap.size,1,none⟩ y).setCell ⟨w.heap.size,2,none⟩ z):=by
 have h1:AB (λk=>w.heap.size<=k) w w1:=((((Gr.refl w).alloc o).alloc o2).trans hg).touch _;have h2:=((h1.setCell (a:=⟨w.heap.size,0,none⟩) (λ_=>μ _) x).setCell (a:=⟨w.heap.size,1,none⟩) (λ_=>μ _) y).setCell (a:=⟨w.heap.size,2,none⟩) (λ_=>μ _) z;exact(h2.mono (λk hk h=>by omega)).gr
theorem XFZ(hx:x<18446744073709551616)(w:World):Calls prog 169 #[uU x] w λe w'=>e=.returned (.tuple #[AO (tkH x),iI (tkE x)])/\Gr w w':=by
 obtain⟨n,hn⟩:=ε (x%4294967296);obtain⟨h,hh⟩:=ε (x/4294967296);obtain⟨a,ha⟩:=ε (n%256);obtain⟨b,hb⟩:=ε (n/256%256);obtain⟨c,hc⟩:=ε (n/65536%256);obtain⟨d,hd⟩:=ε (n/16777216);obtain⟨m,hm⟩:=ε (4294967295-n);have J:n<4294967296:=Ω
 have HT:Hid (GT x=(decide (d=165)&&decide (h=m)&&decide (a+b+c<=255))/\tkH x=if GT x then ⟨(a:Nat),(b:Nat),(c:Nat)⟩else ⟨0,0,0⟩):=⟨by
  have e1:x%256=a:=Ω
  have e2:x/256%256=b:=Ω
  have e3:x/65536%256=c:=Ω
  unfold tkH GT;rw[e1,e2,e3,<-hn,<-hd,<-hh,<-hm]
  exact⟨rfl,rfl⟩⟩
 have g0:(x:Int)%4294967296=(n:Int):=Ω
 have g5:(x:Int)/4294967296=(h:Int):=Ω
 have g1:bits .and .u32 (n:Int) 255=(a:Int):=by rw[V2 n J,ha]
 have g2:bits .and .u32 ((n:Int)/256) 255=(b:Int):=by
  rw[show (n:Int)/256=((n/256:Nat):Int)by omega,V2 _ Ω,hb]
 have g3:bits .and .u32 ((n:Int)/65536) 255=(c:Int):=by
  rw[show (n:Int)/65536=((n/65536:Nat):Int)by omega,V2 _ Ω,hc]
 have g4:(n:Int)/16777216=(d:Int):=Ω
 have g6:bits .xor .u32 IntKind.u32.max (n:Int)=(m:Int):=by rw[Z2Y n J,hm]
 have ba:a<=255:=Ω
 have bb:b<=255:=Ω
 have bc:c<=255:=Ω
 have HC:=(λW=>PA ⟨a,b,c⟩ W)
 have M:DA ⟨a,b,c⟩=if a+b+c<=255 then 0 else 15:=by
  unfold DA inS;simp only[];rw[φ Ω,φ Ω,φ Ω];by_cases h:a+b+c<=255
  ·rw[θ h,φ Ω];rfl
  ·rw[ψ h,ζ Ω];rfl
 have V:=M;clear M;unfold AO at HC
 have KL:=(show ∀(W:World) (Y:Nat) (p q r:Value),W.cell? ⟨Y,0,none⟩=some p->W.cell? ⟨Y,1,none⟩=some q->W.cell? ⟨Y,2,none⟩=some r->(loadVar 34 ⟨Y,0,none⟩).run prog W=.ok (.agg #[p,q,r]) W by
  intro W Y p q r h0 h1 h2
  exact VI W Y p q r h0 h1 h2)
 clear hn hh ha hb hc hd hm J;by_cases t1:d=165
 ·have HT1:=t1;have d1:((d:Int) !=165)=false:=by rw[t1];rfl
  by_cases t2:h=m
  ·have HT2:=ι t2;have d2:((h:Int) !=(m:Int))=false:=by rw[t2];simp
   have d3:¬ ¬((h:Int)=bits .xor .u32 IntKind.u32.max (n:Int)):=by rw[g6,t2];simp
   by_cases t3:a+b+c<=255
   ·have HK:Hid (DA ⟨a,b,c⟩=0):=⟨by rw[V,θ t3]⟩
    have HE:Hid (tkH x=⟨(a:Nat),(b:Nat),(c:Nat)⟩/\tkE x=0):=⟨by
     have:GT x=true:=by rw[HT.o.1,φ t1,φ t2,φ t3];rfl
     unfold tkE;rw[HT.o.2,this];exact⟨rfl,rfl⟩⟩
    clear t1 t2 t3 HT;go_in;go_wp2_with(go_at_call 79;refine Qa (HC _) λw1 X=>?_;rw[HK.o];obtain⟨r1,r2⟩:=ZBB (xs:=[iI 0,iI 0,iI 0]) (ys:=[iI a,iI b,iI c]) X;have k0:=r1.cc 0;have k1:=r1.cc 1;have k2:=r1.cc 2;have kf:=r1.free;have k3:=r2.cc 0;have k4:=r2.cc 1;have k5:=r2.cc 2;have Z:=r1;have U:=X;clear X r1 r2);have R3:=Rec.set (Rec.set (Rec.set Z 0 (iI a)) 1 (iI b)) 2 (iI c);refine ζH (v:=.tuple #[AO ⟨a,b,c⟩,iI 0]) ?_ rfl ?_
    ·rw[results_cell_tmp rfl];have hl:=KL _ w.heap.size _ _ _ (R3.cc 0) (R3.cc 1) (R3.cc 2);simp[asAddr,Result.andThen,hl,AO]
    ·exact⟨by rw[HE.o.1,HE.o.2],Q9L U⟩
   ·have HK:Hid (DA ⟨a,b,c⟩=15):=⟨by rw[V,ψ t3]⟩
    have HE:Hid (tkH x=⟨0,0,0⟩/\tkE x=16):=⟨by
     have:GT x=false:=by rw[HT.o.1,ζ t3];simp
     unfold tkE;rw[HT.o.2,this];exact⟨rfl,rfl⟩⟩
    clear t1 t2 t3 HT;go_in;go_wp2_with(go_at_call 79;refine Qa (HC _) λw1 X=>?_;rw[HK.o];obtain⟨r1,r2⟩:=ZBB (xs:=[iI 0,iI 0,iI 0]) (ys:=[iI a,iI b,iI c]) X;have k0:=r1.cc 0;have k1:=r1.cc 1;have k2:=r1.cc 2;have kf:=r1.free;have k3:=r2.cc 0;have k4:=r2.cc 1;have k5:=r2.cc 2;have Z:=r1;have U:=X;clear X r1 r2);have R3:=Rec.set (Rec.set (Rec.set Z 0 (iI 0)) 1 (iI 0)) 2 (iI 0);refine ζH (v:=.tuple #[AO ⟨0,0,0⟩,iI 16]) ?_ rfl ?_
    ·rw[results_cell_tmp rfl];have hl:=KL _ w.heap.size _ _ _ (R3.cc 0) (R3.cc 1) (R3.cc 2);simp[asAddr,Result.andThen,hl,AO]
    ·exact⟨by rw[HE.o.1,HE.o.2],Q9L U⟩
  ·have d2:((h:Int) !=(m:Int))=true:=by simp;omega
   have d3:¬((h:Int)=bits .xor .u32 IntKind.u32.max (n:Int)):=by rw[g6];omega
   have HE:Hid (tkH x=⟨0,0,0⟩/\tkE x=16):=⟨by
    have:GT x=false:=by rw[HT.o.1,ζ t2];simp
    unfold tkE;rw[HT.o.2,this];exact⟨rfl,rfl⟩⟩
   clear t1 t2 HT;go_in;go_wp2;refine ζH (v:=.tuple #[AO ⟨0,0,0⟩,iI 16]) ?_ rfl ?_
   ·rw[results_cell_tmp rfl];simp[asAddr,Result.andThen,go_sem];rfl
   ·exact⟨by rw[HE.o.1,HE.o.2],((Gr.refl w).alloc _).alloc _⟩
 ·have d1:((d:Int) !=165)=true:=by simp;omega
  have d3:¬((d:Int)=165):=Ω
  have d4:¬((n:Int)/16777216=165):=Ω
  have HE:Hid (tkH x=⟨0,0,0⟩/\tkE x=16):=⟨by
   have:GT x=false:=by rw[HT.o.1,ζ t1];simp
   unfold tkE;rw[HT.o.2,this];exact⟨rfl,rfl⟩⟩
  clear t1 HT;go_in;go_wp2;refine ζH (v:=.tuple #[AO ⟨0,0,0⟩,iI 16]) ?_ rfl ?_
  ·rw[results_cell_tmp rfl];simp[asAddr,Result.andThen,go_sem];rfl
  ·exact⟨by rw[HE.o.1,HE.o.2],((Gr.refl w).alloc _).alloc _⟩
theorem S4(hs:a+b+c<=255)(i:Int)(w:World):Calls prog 148 #[AO ⟨a,b,c⟩,iI i] w λe w'=>e=.returned (iI (BS ⟨a,b,c⟩ i))/\Gr w w':=by
 have hN:CD ⟨a,b,c⟩=1+(a:Int)+b+c:=θ (DM hs);have HZ:=(λW=>LH ⟨a,b,c⟩ W)
 have HK:Hid (BS ⟨a,b,c⟩ i=if 0<=i/\i<(a:Int)+b+c then (if i<a then 1 else if i<(a:Int)+b then 2 else 3)else 0):=⟨by
  unfold BS;rw[hN];simp only[];by_cases h:0<=i/\i<(a:Int)+b+c
  ·rw[θ h,θ Ω]
  ·rw[ψ h,ψ Ω]⟩
 rw[hN]at HZ;unfold AO at HZ⊢;by_cases h0:i<0
 ·have HE:Hid (BS ⟨a,b,c⟩ i=0):=⟨by rw[HK.o,ψ Ω]⟩;go_in;go_wp2;go_ret;exact⟨AU (by rw[HE.o]),(Gr.refl w).alloc _⟩
 ·by_cases h1:(a:Int)+b+c<=i
  ·have HE:Hid (BS ⟨a,b,c⟩ i=0):=⟨by rw[HK.o,ψ Ω]⟩;have d1:decide (1+(a:Int)+b+c-1<=i)=true:=φ Ω;go_in;go_wp2_with(go_at_call 81;refine Qa (HZ _) λw1 X=>?_;have Y:=(((Gr.refl w).alloc _).trans X));go_ret;exact⟨AU (by rw[HE.o]),Y⟩
  ·have d1:decide (1+(a:Int)+b+c-1<=i)=false:=ζ Ω;have HE:Hid (BS ⟨a,b,c⟩ i=if i<a then 1 else if i<(a:Int)+b then 2 else 3):=⟨by rw[HK.o,θ Ω]⟩;by_cases h2:i<a
   ·go_in;go_wp2_with(go_at_call 81;refine Qa (HZ _) λw1 X=>?_;have k0:=(X.cell (b:=w.heap.size) (by simp) 0).trans (ζw _ _ _ 0 rfl);have Y:=(((Gr.refl w).alloc _).trans X));go_ret;exact⟨AU (by rw[HE.o,θ h2]),Y⟩
   ·by_cases h3:i<(a:Int)+b
    ·go_in;go_wp2_with(go_at_call 81;refine Qa (HZ _) λw1 X=>?_;have k0:=(X.cell (b:=w.heap.size) (by simp) 0).trans (ζw _ _ _ 0 rfl);have k1:=(X.cell (b:=w.heap.size) (by simp) 1).trans (ζw _ _ _ 1 rfl);have Y:=(((Gr.refl w).alloc _).trans X));go_ret;exact⟨AU (by rw[HE.o,ψ Ω,θ h3]),Y⟩
    ·go_in;go_wp2_with(go_at_call 81;refine Qa (HZ _) λw1 X=>?_;have k0:=(X.cell (b:=w.heap.size) (by simp) 0).trans (ζw _ _ _ 0 rfl);have k1:=(X.cell (b:=w.heap.size) (by simp) 1).trans (ζw _ _ _ 1 rfl);have Y:=(((Gr.refl w).alloc _).trans X));go_ret;exact⟨AU (by rw[HE.o,ψ Ω,ψ Ω]),Y⟩
def spV(q:Nat):Value:=.iface 99 (pP q)
theorem Y8(n:Nat)(a:Addr)(w:World):(nilAhead (n+1) 99 (.pointer (some a)) "Load").run prog w=.ok (some false) w:=by kernel_rfl
theorem WY(n:Nat)(a:Addr)(w:World):(method (n+1) 99 (.pointer (some a)) "Load").run prog w=.ok (206,.pointer (some a)) w:=by kernel_rfl
def Vm.rdH(v:Vm)(a:Int):Hdr:=if 0<a/\v.ldE a=0 then tkH (v.ldV a)else ⟨0,0,0⟩
def Vm.rdE(v:Vm)(a:Int):Int:=if a=0 then 18 else if a<0 then 5 else if v.ldE a=0 then tkE (v.ldV a)else v.ldE a
theorem AH.ldV_lt{v:Vm}(h:AH v)(a:Int):v.ldV a<18446744073709551616:=by
 unfold Vm.ldV
 split
 ·rw[κ];rcases δ (v.at a) v.pl.wd.length with hl|hl
  ·rw[τ hl];exact h.pl.w64 _ (χ hl)
  simp_all
 ·decide
structure Sp where
 T:TypeId
 rv:Value
 FL:FuncId
 P:Int->Prop
 M:Prop
 D:Nat->Prop
 I:Vm->(Nat->Prop)->World->Prop
def Sp.v(z:Sp):Value:=.iface z.T z.rv
structure Sp.Ok(z:Sp):Prop where
 nl:∀n w,(nilAhead (n+1) z.T z.rv "Load").run prog w=.ok (some false) w
 ml:∀n w,(method (n+1) z.T z.rv "Load").run prog w=.ok (z.FL,z.rv) w
 cl:∀args w,(callFunc z.FL args).run prog w=.ok (.enter z.FL args) w
 nn:∀w,(binOp BinOp.eql 160 (.iface z.T z.rv) .nilIface).run prog w=.ok (.bool false) w
 ok:∀{u S w},z.I u S w->AH u
 fr:∀{u S S' T' w w'},z.I u S w->AB T' w w'->(∀k,k<w.heap.size->T' k->¬S k/\¬z.D k)->(∀k,S k->S' k)->z.I u S' w'
 nw:∀{u S w},z.I u S w->∀k,z.D k->k<w.heap.size
 ct:∀{u S w},z.I u S w->z.I u (AD S w) w
 ld:∀{u S w},z.I u S w->∀a,z.P a->Calls prog z.FL #[z.rv,iI a] w (λe w'=>e=.returned (.tuple #[uU (u.ldV a:Nat),iI (u.ldE a)])/\AB (λk=>z.M/\S k) w w'/\z.I u (plus S w) w')
def Sp.E(z:Sp)(u:Vm)(S:Nat->Prop)(w w':World):Prop:=AB (λk=>z.M/\S k) w w'/\z.I u (plus S w) w'
section
variable{z:Sp}{u:Vm}
theorem Sp.Ok.gr(h:Sp.Ok z)(hI:z.I u S w)(g:Gr w w'):z.I u S w':=h.fr hI (g.touch (λ_=>False)) (λ_ _ h=>h.elim) (λ_ h=>h)
theorem Sp.Ok.mono(h:Sp.Ok z)(hI:z.I u S w)(hs:∀k,S k->S' k):z.I u S' w:=h.fr hI (AB.refl (λ_=>False) w) (λ_ _ h=>h.elim) hs
theorem Sp.Ok.get(h:Sp.Ok z)(hI:z.I u S w)(g:Gr w w'):z.E u S w w':=⟨g.touch _,h.mono (h.gr hI g) (λ_ h=>.inl h)⟩
theorem Sp.E.ro(h:z.E u S w w')(hM:¬z.M):Gr w w':=(h.1.mono (λ_ _ hk=>hM hk.1)).gr
theorem Sp.E.trans(h:z.E u S w w1)(k:z.E u (plus S w) w1 w')(hS:Sp.Ok z):z.E u S w w':=by
 have hz:=h.1.size;refine⟨h.1.trans' k.1 (λ_ hi hh=>⟨hh.1,hh.2.elim id (λh=>by omega)⟩),hS.mono k.2 (λi hi=>?_)⟩;rcases hi with h1|h1
 ·exact h1
 ·exact .inr Ω
theorem Sp.E.gr(h:z.E u S w w1)(g:Gr w1 w')(hS:Sp.Ok z):z.E u S w w':=⟨h.1.trans (g.touch _),hS.gr h.2 g⟩
theorem Sp.E.rec{t:Nat}(h:z.E u (AD S w) w1 w')(hr:Rec w1 b t xs)(hb:w.heap.size<=b):Rec w' b t xs:=hr.touch h.1 (λhh=>by have:=hh.2.2;omega)
theorem Sp.E.cells(h:z.E u (AD S w) w1 w')(hS:Sp.Ok z)(hI:z.I u S w)(g:Gr w w1)(hb:w.heap.size<=b)(hb1:b<w1.heap.size)(t:AB (λk=>k=b) w' w2):z.E u S w w2:=by
 refine⟨(((g.touch (λk=>z.M/\S k)).trans' h.1 (λ_ _ hh=>⟨hh.1,hh.2.1⟩))).trans' t (λi hi hh=>by omega),hS.fr h.2 t (λi _ hh=>?_) (λi hi=>?_)⟩
 ·refine⟨λhp=>?_,λhd=>?_⟩
  ·rcases hp with hp|hp
   ·have:=hp.2;omega
   ·omega
  ·have:=hS.nw hI _ hd;omega
 ·rcases hi with h1|h1
  ·exact .inl h1.1
  ·exact .inr (ω g.size h1)
theorem ZGx(W:World)(b:Nat)(x y z:Value):AB (λk=>k=b) W (((W.setCell ⟨b,0,none⟩ x).setCell ⟨b,1,none⟩ y).setCell ⟨b,2,none⟩ z):=
 (((AB.refl (λk=>k=b) W).setCell (a:=⟨b,0,none⟩) (λ_=>rfl) x).setCell (a:=⟨b,1,none⟩) (λ_=>rfl) y).setCell (a:=⟨b,2,none⟩) (λ_=>rfl) z
theorem NZ(hS:Sp.Ok z)(hI:z.I u S w)(a:Int)(hP:0<a->z.P a):Calls prog 95 #[z.v,iI a] w λe w'=>e=.returned (.tuple #[AO (u.rdH a),iI (u.rdE a)])/\z.E u S w w':=by
 have HS:=hS;have HI:=hI;have U:=hS.ok hI;have hx:=U.ldV_lt a;have n1:=hS.nl;have n2:=hS.ml;have n3:=hS.cl;unfold Sp.v;have KL:=(λ(W:World) (blk:Nat) (p q r:Value)=>VI W blk p q r);rcases(by omega:a=0\/a<0\/0<a)with h0|h0|h0
 ·subst h0;go_in;go_wp2;refine ζH (v:=.tuple #[AO ⟨0,0,0⟩,iI 18]) ?_ rfl ?_
  ·rw[results_cell_tmp rfl];simp[asAddr,Result.andThen,go_sem];rfl
  ·exact⟨rfl,HS.get HI ((Gr.refl w).alloc _)⟩
 ·have d0:(a==0)=false:=by simp;omega
  have d1:decide (a<0)=true:=φ h0;have HE:Hid (u.rdH a=⟨0,0,0⟩/\u.rdE a=5):=⟨⟨ψ Ω,by unfold Vm.rdE;rw[ψ Ω,θ h0]⟩⟩;go_in;go_wp2;refine ζH (v:=.tuple #[AO ⟨0,0,0⟩,iI 5]) ?_ rfl ?_
  ·rw[results_cell_tmp rfl];simp[asAddr,Result.andThen,go_sem];rfl
  ·exact⟨by rw[HE.o.1,HE.o.2],HS.get HI ((Gr.refl w).alloc _)⟩
 ·have d0:(a==0)=false:=by simp;omega
  have d1:decide (a<0)=false:=ζ Ω;have Y:=(hS.ld (hS.gr (hS.ct hI) ((Gr.refl w).alloc (.cells #[.int .i64 0,.int .i64 0,.int .i64 0] 34))) a (hP h0));by_cases hE:u.ldE a=0
  ·have HE:Hid (u.rdH a=tkH (u.ldV a)/\u.rdE a=tkE (u.ldV a)):=⟨⟨θ ⟨h0,hE⟩,by unfold Vm.rdE;rw[ψ Ω,ψ Ω,θ hE]⟩⟩;have HT:=(λW=>XFZ hx W);have hh:AO (tkH (u.ldV a))=.agg #[iI (tkH (u.ldV a)).p,iI (tkH (u.ldV a)).f,iI (tkH (u.ldV a)).k]:=rfl;rw[hh]at HT;rw[hE]at Y;generalize tkH (u.ldV a)=h at HT HE;generalize tkE (u.ldV a)=er at HT HE;obtain⟨p,f,k⟩:=h;go_in
   go_wp2_with(first|(go_at_call 169;refine Qa (HT _) λw2 V=>?_;have r2:=Z.gr V;have k0:=r2.cc 0;have k1:=r2.cc 1;have k2:=r2.cc 2;have kf:=r2.free;have N:=r2;have M:=(J.o.gr V HS))|(refine Qa Y λw1 X=>?_;have J:Hid (z.E u (AD S w) _ w1):=⟨X⟩;have Z:=(Sp.E.rec (z:=z) X (Rec.new w 34 [iI 0,iI 0,iI 0]) (μ _))))
   have R3:=Rec.set (Rec.set (Rec.set N 0 (iI p)) 1 (iI f)) 2 (iI k);refine ζH (v:=.tuple #[AO ⟨p,f,k⟩,iI er]) ?_ rfl ?_
   ·rw[results_cell_tmp rfl];have hl:=KL _ w.heap.size _ _ _ (R3.cc 0) (R3.cc 1) (R3.cc 2);simp[asAddr,Result.andThen,hl,AO]
   ·exact⟨by rw[HE.o.1,HE.o.2],M.cells HS HI ((Gr.refl w).alloc _) (μ _) (by rw[π];omega) (ZGx _ _ _ _ _)⟩
  ·have HE:Hid (u.rdH a=⟨0,0,0⟩/\u.rdE a=u.ldE a):=⟨⟨ψ (λh=>hE h.2),by unfold Vm.rdE;rw[ψ Ω,ψ Ω,ψ hE]⟩⟩;obtain⟨y,hy⟩:=ε (u.ldE a);have d2:(y==0)=false:=by rw[hy];simpa using hE
   rw[<-hy]at Y;have HY:=ι hy;clear hE hy hS hI hP U;go_in;go_wp2_with(refine Qa Y λw1 X=>?_;have J:Hid (z.E u (AD S w) _ w1):=⟨X⟩;have r2:=Sp.E.rec (z:=z) X (Rec.new w 34 [iI 0,iI 0,iI 0]) (μ _);have k0:=r2.cc 0;have k1:=r2.cc 1;have k2:=r2.cc 2;have kf:=r2.free;have Z:=r2);have R3:=Rec.set (Rec.set (Rec.set Z 0 (iI 0)) 1 (iI 0)) 2 (iI 0);refine ζH (v:=.tuple #[AO ⟨0,0,0⟩,iI y]) ?_ rfl ?_
   ·rw[results_cell_tmp rfl];have hl:=KL _ w.heap.size _ _ _ (R3.cc 0) (R3.cc 1) (R3.cc 2);simp[asAddr,Result.andThen,hl,AO]
   ·exact⟨by rw[HE.o.1,HE.o.2,HY.o],J.o.cells HS HI ((Gr.refl w).alloc _) (μ _) (by rw[π];omega) (ZGx _ _ _ _ _)⟩
end
def spM(q:Nat):Sp:=⟨99,pP q,206,λ_=>True,False,λ_=>False,λu S w=>AE w S q u⟩
theorem UA(q:Nat):(spM q).Ok:=
 ⟨λn w=>Y8 n _ w,λn w=>WY n _ w,λargs w=>by kernel_rfl,λw=>by kernel_rfl,λh=>AE.ok h,λh t hT hs=>AE.mono (AE.touch h t (λk hk hl=>λht=>(hT k hl ht).1 hk)) hs,λ_ _ h=>h.elim,λh=>AE.cut h,
  λ{u S w} h a _=>(KX (S:=S) h a).mono λ_ _ hh=>⟨hh.1,hh.2.touch _,AE.mono (AE.gr h hh.2) (λ_ h=>.inl h)⟩⟩
section
variable{v:Vm}
theorem Q6(hV:AE w S q v)(a:Int):Calls prog 95 #[spV q,iI a] w λe w'=>e=.returned (.tuple #[AO (v.rdH a),iI (v.rdE a)])/\Gr w w':=
 (NZ (z:=spM q) (UA q) hV a (λ_=>trivial)).mono λ_ _ h=>⟨h.1,h.2.ro (λh=>h)⟩
end
def Vm.plE(v:Vm)(a i kd:Int):Int:=if v.rdE a≠0 then v.rdE a else if BS (v.rdH a) i=kd then 0 else if BS (v.rdH a) i=0 then 19 else 20
def Vm.plA(v:Vm)(a i kd:Int):Int:=if v.plE a i kd=0 then a+1+i else 0
def Vm.gtE(v:Vm)(a i kd:Int):Int:=if v.plE a i kd≠0 then v.plE a i kd else v.ldE (a+1+i)
def Vm.gtV(v:Vm)(a i kd:Int):Nat:=if v.plE a i kd≠0 then 0 else v.ldV (a+1+i)
def Vm.ptE(v:Vm)(a i:Int):Int:=if v.gtE a i 1≠0 then v.gtE a i 1 else if 2147483647<v.gtV a i 1 then 25 else 0
def Vm.ptV(v:Vm)(a i:Int):Nat:=if v.ptE a i=0 then v.gtV a i 1 else 0
theorem Jzk(h:tkE x=0):∃p f k:Nat,tkH x=⟨p,f,k⟩/\p+f+k<=255:=by
 unfold tkE at h
 split at h
 ·rename_i ho;refine⟨x%256,x/256%256,x/65536%256,θ ho,?_⟩;unfold GT at ho
  simp_all
 ·cases h
theorem GP{v:Vm}{a:Int}(h:v.rdE a=0):0<a/\v.ldE a=0/\∃p f k:Nat,v.rdH a=⟨p,f,k⟩/\p+f+k<=255:=by
 unfold Vm.rdE at h
 split at h
 ·cases h
 ·split at h
  ·cases h
  ·split at h
   ·rename_i h0;have ha:0<a:=Ω
    refine⟨ha,h0,?_⟩;obtain⟨p,f,k,e1,e2⟩:=Jzk h;exact⟨p,f,k,by unfold Vm.rdH;simp_all,e2⟩
   omega
theorem L6{v:Vm}{a:Int}(h:v.ldE a=0):0<=a/\a<v.n:=by
 grind [AH.hit]
section
variable{z:Sp}{v:Vm}
theorem RI(hS:Sp.Ok z)(hI:z.I v S w)(a i kd:Int)(hk:kd≠0)(hP:0<a->z.P a):Calls prog 229 #[z.v,iI a,iI i,iI kd] w λe w'=>e=.returned (.tuple #[iI (v.plA a i kd),iI (v.plE a i kd)])/\z.E v S w w':=by
 have HS:=hS;have hn:=(hS.ok hI).n2;have Y:=(NZ hS hI a hP);by_cases hE:v.rdE a=0
 ·obtain⟨ha,hl,p,f,k,hh,hs⟩:=GP hE;have hr:=L6 hl;rw[hh]at Y;have HP:Hid (v.plE a i kd=if BS ⟨p,f,k⟩ i=kd then 0 else if BS ⟨p,f,k⟩ i=0 then 19 else 20):=⟨by unfold Vm.plE;rw[ψ (λh=>h hE),hh]⟩;have HA:Hid (v.plA a i kd=if v.plE a i kd=0 then a+1+i else 0):=⟨rfl⟩;have HK:=(λW=>S4 hs i W);have hN:CD ⟨p,f,k⟩=1+(p:Int)+f+k:=θ (DM hs)
  have M:BS ⟨p,f,k⟩ i≠0->0<=i/\i<255:=λh=>by
   unfold BS at h
   split at h
   ·rename_i h';rw[hN]at h';omega
   ·exact absurd rfl h
  generalize BS ⟨(p:Int),(f:Int),(k:Int)⟩ i=kk at HP HK M;have HE:=hE;unfold AO at Y HK;by_cases h1:kk=kd
  ·have e0:v.plE a i kd=0:=by rw[HP.o,θ h1]
   have X:Hid (v.plE a i kd=0/\v.plA a i kd=a+1+i):=⟨⟨e0,by rw[HA.o,θ e0]⟩⟩;have hii:=M (by rw[h1];exact hk);go_in
   go_wp2_with(first|(go_at_call 95;refine Qa (Y) λw1 J=>?_;rw[HE];have Z:=J)|(go_at_call 148;refine Qa (HK _) λw2 V=>?_;have U:=V))
   go_ret2;exact⟨BT (BR (by rw[X.o.2])) (BR (by rw[X.o.1])),Z.gr (((Gr.refl _).alloc _).trans U) HS⟩
  ·by_cases h2:kk=0
   ·have e0:v.plE a i kd=19:=by rw[HP.o,ψ h1,θ h2]
    have X:Hid (v.plE a i kd=19/\v.plA a i kd=0):=⟨⟨e0,by rw[HA.o,ψ (by rw[e0];decide)]⟩⟩;go_in
    go_wp2_with(first|(go_at_call 95;refine Qa (Y) λw1 J=>?_;rw[HE];have Z:=J)|(go_at_call 148;refine Qa (HK _) λw2 V=>?_;have U:=V))
    go_ret2;exact⟨BT (BR (by rw[X.o.2])) (BR (by rw[X.o.1])),Z.gr (((Gr.refl _).alloc _).trans U) HS⟩
   ·have e0:v.plE a i kd=20:=by rw[HP.o,ψ h1,ψ h2]
    have X:Hid (v.plE a i kd=20/\v.plA a i kd=0):=⟨⟨e0,by rw[HA.o,ψ (by rw[e0];decide)]⟩⟩;go_in
    go_wp2_with(first|(go_at_call 95;refine Qa (Y) λw1 J=>?_;rw[HE];have Z:=J)|(go_at_call 148;refine Qa (HK _) λw2 U=>?_))
    go_ret2;exact⟨BT (BR (by rw[X.o.2])) (BR (by rw[X.o.1])),Z.gr (((Gr.refl _).alloc _).trans U) HS⟩
 ·have e1:v.plE a i kd=v.rdE a:=by unfold Vm.plE;rw[θ hE]
  have X:Hid (v.plE a i kd=v.rdE a/\v.plA a i kd=0):=⟨⟨e1,by unfold Vm.plA;rw[ψ (by rw[e1];exact hE)]⟩⟩;obtain⟨y,hy⟩:=ε (v.rdE a);have d2:(y==0)=false:=by rw[hy];simpa using hE
  rw[<-hy]at X Y;clear hE hy e1 hS hI hP;unfold AO at Y;go_in;go_wp2_with(go_at_call 95;refine Qa (Y) λw1 Z=>?_);go_ret2;exact⟨BT (BR (by rw[X.o.2])) (BR (by rw[X.o.1])),Z.gr ((Gr.refl _).alloc _) HS⟩
theorem Y6(hS:Sp.Ok z)(hI:z.I v S w)(a i kd:Int)(hk:kd≠0)(hP:0<a->z.P a)(hQ:v.plE a i kd=0->z.P (a+1+i)):Calls prog 230 #[z.v,iI a,iI i,iI kd] w λe w'=>e=.returned (.tuple #[uU (v.gtV a i kd:Nat),iI (v.gtE a i kd)])/\z.E v S w w':=by
 have HS:=hS;have X:=(RI hS hI a i kd hk hP);have n2:=hS.ml;have n3:=hS.cl;unfold Sp.v at X⊢;by_cases hE:v.plE a i kd=0
 ·have HE:Hid (v.gtE a i kd=v.ldE (a+1+i)/\v.gtV a i kd=v.ldV (a+1+i)):=⟨⟨ψ (λh=>h hE),ψ (λh=>h hE)⟩⟩;have HA:Hid (v.plA a i kd=a+1+i):=⟨θ hE⟩;rw[hE,HA.o]at X;have J:=(hQ hE);generalize a+1+i=M at HE X J;go_in
  go_wp2_with(first|(go_at_call 229;refine Qa (X) λw1 Z=>?_;have Y:=Z)|(refine Qa (HS.ld Y.2 M J) λw2 V=>?_;have U:Hid (z.E v (plus S w) w1 w2):=⟨V⟩))
  go_ret2;exact⟨BT (congrArg (λn:Nat=>uU (n:Int)) HE.o.2.symm) (BR HE.o.1.symm),Y.trans U.o HS⟩
 ·have HE:Hid (v.gtE a i kd=v.plE a i kd/\v.gtV a i kd=0):=⟨⟨θ hE,θ hE⟩⟩;obtain⟨y,hy⟩:=ε (v.plE a i kd);have d2:(y==0)=false:=by simp_all
  rw[<-hy]at HE X;clear hE hy hS hI hP hQ;go_in;go_wp2_with(go_at_call 229;refine Qa (X) λw1 Y=>?_);go_ret2;exact⟨BT (congrArg (λn:Nat=>uU (n:Int)) HE.o.2.symm) (BR HE.o.1.symm),Y⟩
theorem Jk4(hok:AH v)(a i kd:Int):v.gtV a i kd<18446744073709551616:=by
 unfold Vm.gtV
 split
 ·decide
 ·exact hok.ldV_lt _
theorem Z2(hS:Sp.Ok z)(hI:z.I v S w)(a i:Int)(hP:0<a->z.P a)(hQ:v.plE a i 1=0->z.P (a+1+i)):Calls prog 168 #[z.v,iI a,iI i] w λe w'=>e=.returned (.tuple #[iI (v.ptV a i:Nat),iI (v.ptE a i)])/\z.E v S w w':=by
 have HS:=hS;have X:=(Y6 hS hI a i 1 (by decide) hP hQ);have hx:=Jk4 (hS.ok hI) a i 1;unfold Sp.v at X⊢;by_cases hE:v.gtE a i 1=0
 ·by_cases hb:2147483647<v.gtV a i 1
  ·have e1:v.ptE a i=25:=by unfold Vm.ptE;rw[ψ (λh=>h hE),θ hb]
   have HE:Hid (v.ptE a i=25/\v.ptV a i=0):=⟨⟨e1,by unfold Vm.ptV;rw[ψ (by rw[e1];decide)]⟩⟩;rw[hE]at X;generalize v.gtV a i 1=x at X hb hx;have d0:decide (2147483647<(x:Int))=true:=φ Ω;go_in;go_wp2_with(go_at_call 230;refine Qa (X) λw1 Y=>?_;have Z:=Y);go_ret2;exact⟨BT (congrArg (λn:Nat=>iI (n:Int)) HE.o.2.symm) (BR HE.o.1.symm),Z⟩
  ·have e1:v.ptE a i=0:=by unfold Vm.ptE;rw[ψ (λh=>h hE),ψ hb]
   have HE:Hid (v.ptE a i=0/\v.ptV a i=v.gtV a i 1):=⟨⟨e1,by unfold Vm.ptV;rw[θ e1]⟩⟩;rw[hE]at X;generalize v.gtV a i 1=x at X hb hx HE;have d0:decide (2147483647<(x:Int))=false:=ζ Ω;go_in;go_wp2_with(go_at_call 230;refine Qa (X) λw1 Y=>?_;have Z:=Y);go_ret2;exact⟨BT (congrArg (λn:Nat=>iI (n:Int)) HE.o.2.symm) (BR HE.o.1.symm),Z⟩
 ·have e1:v.ptE a i=v.gtE a i 1:=by unfold Vm.ptE;rw[θ hE]
  have HE:Hid (v.ptE a i=v.gtE a i 1/\v.ptV a i=0):=⟨⟨e1,by unfold Vm.ptV;rw[ψ (by rw[e1];exact hE)]⟩⟩;obtain⟨y,hy⟩:=ε (v.gtE a i 1);have d2:(y==0)=false:=by rw[hy];simpa using hE
  rw[<-hy]at HE X;clear hE hy hS hI e1 hP hQ;go_in;go_wp2_with(go_at_call 230;refine Qa (X) λw1 Z=>?_);go_ret2;exact⟨BT (congrArg (λn:Nat=>iI (n:Int)) HE.o.2.symm) (BR HE.o.1.symm),Z⟩
end
section
variable{v:Vm}
theorem JNY(hV:AE w S q v)(a i kd:Int)(hk:kd≠0):Calls prog 229 #[spV q,iI a,iI i,iI kd] w λe w'=>e=.returned (.tuple #[iI (v.plA a i kd),iI (v.plE a i kd)])/\Gr w w':=
 (RI (z:=spM q) (UA q) hV a i kd hk (λ_=>trivial)).mono λ_ _ h=>⟨h.1,h.2.ro (λh=>h)⟩
theorem ZZi(hV:AE w S q v)(a i:Int):Calls prog 168 #[spV q,iI a,iI i] w λe w'=>e=.returned (.tuple #[iI (v.ptV a i:Nat),iI (v.ptE a i)])/\Gr w w':=
 (Z2 (z:=spM q) (UA q) hV a i (λ_=>trivial) (λ_=>trivial)).mono λ_ _ h=>⟨h.1,h.2.ro (λh=>h)⟩
end
structure Ext(w:World)(m p1 b1 p2 b2 n:Nat)(L:List Ob):Prop where
 good:AS n L
 v1:BG w p1 b1 (CE n L)
 v2:BG w p2 b2 (EQ n L)
 hm:m<w.heap.size
 c0:w.cell? ⟨m,0,none⟩=some (pP p1)
 c1:w.cell? ⟨m,1,none⟩=some (pP p2)
 c2:w.cell? ⟨m,2,none⟩=some (iI L.length)
 fr:w.frozen? ⟨m,2,none⟩=false
 am:m≠p1/\m≠b1/\m≠p2/\m≠b2
 ab:p1≠b2/\p2≠b1/\b1≠b2
theorem Ext.touch{b1 b2:Nat}(h:Ext w m p1 b1 p2 b2 n L)(t:AB S w w')(h1:¬S m)(h2:¬S p1)(h3:¬S b1)(h4:¬S p2)(h5:¬S b2):Ext w' m p1 b1 p2 b2 n L:=
 ⟨h.good,h.v1.touch t h2 h3,h.v2.touch t h4 h5,ϑ h.hm t.size,(t.cell h.hm h1 0).trans h.c0,(t.cell h.hm h1 1).trans h.c1,(t.cell h.hm h1 2).trans h.c2,(t.frozen h.hm h1 2).trans h.fr,h.am,h.ab⟩
theorem Ext.gr{b1 b2:Nat}(h:Ext w m p1 b1 p2 b2 n L)(t:Gr w w'):Ext w' m p1 b1 p2 b2 n L:=
 h.touch (t.touch (λ_=>False)) (λh=>h) (λh=>h) (λh=>h) (λh=>h) (λh=>h)
theorem Ext.nb{b1 b2:Nat}(h:Ext w m p1 b1 p2 b2 n L):1<=n/\n<=1048576:=by
 have h1:=h.v1.n1;have h2:=h.v1.n2;rw[JI]at h1 h2;omega
def obS(L:List Ob)(j:Nat):Int:=((L[j]?.getD (0,0)).1:Nat)
def obZ(L:List Ob)(j:Nat):Int:=((L[j]?.getD (0,0)).2:Nat)
theorem LE(h:j<L.length):obS L j=(L[j].1:Nat)/\obZ L j=(L[j].2:Nat):=by unfold obS obZ;simp_all
theorem Vq1(h:¬j<L.length):obS L j=0/\obZ L j=0:=by unfold obS obZ;simp_all
def G3(L:List Ob)(j:Nat):Value:=.tuple #[iI (obS L j),iI (obZ L j),.bool (decide (j<L.length))]
theorem PT(h:j<L.length):G3 L j=.tuple #[iI (L[j].1:Nat),iI (L[j].2:Nat),.bool true]:=by unfold G3;grind [LE,φ]
theorem NU(h:¬j<L.length):G3 L j=.tuple #[iI 0,iI 0,.bool false]:=by unfold G3;grind [Vq1,ζ]
section
variable{b1 b2:Nat}
theorem EH(hE:Ext w m p1 b1 p2 b2 n L):cQ 203 #[pP m] w (.bool false):=by
 have c0:=hE.c0;go_enter func203,ntmps203;go_wp2;go_ret
 simp_all
theorem Jpg(w:World):cQ 203 #[.pointer none] w (.bool true):=by
 go_enter func203,ntmps203;go_wp2;go_ret;exact⟨rfl,rfl⟩
theorem F7(hE:Ext w m p1 b1 p2 b2 n L):cQ 151 #[pP m] w (iI n):=by
 have c0:=hE.c0;have HE:=hE;have HL:=(JI n L);go_enter func151,ntmps151
 go_wp2_with(first|(go_at_call 203;refine(EH HE).mono ?_;rintro e w' ⟨rfl,rfl⟩)|(go_at_call 217;refine(JJ HE.v1).mono ?_;rintro e w' ⟨rfl,rfl⟩))
 go_ret
 simp_all
theorem QOV(w:World):cQ 151 #[.pointer none] w (iI 0):=by
 go_enter func151,ntmps151;go_wp2_with(go_at_call 203;refine(Jpg _).mono ?_;rintro e w' ⟨rfl,rfl⟩);go_ret;exact⟨rfl,rfl⟩
theorem S6(hE:Ext w m p1 b1 p2 b2 n L)(hT:AQ w)(hj:j<L.length):Calls prog 205 #[pP m,iI (L[j].1:Nat)] w λe w'=>e=.returned (iI (L[j].2:Nat))/\w=w':=by
 have c1:=hE.c1;have hm:=χ hj;obtain⟨Y,X⟩:=Zox hE.good hm;have hs:=hE.good.sz _ hm;have hb:=hE.nb;obtain⟨s,J⟩:=ε (L[j].1);obtain⟨z,Z⟩:=ε (L[j].2);rw[<-J,<-Z]at Y X hs⊢;rw[<-Y]at X;have HE:=hE;have HT:=hT;have HV:=(ξ (JK X) Y);have hsb:s+z<=1048576:=Ω
 clear hE hT Y X J Z hm hj;go_in;go_wp2_with(go_at_call 251;refine Qa (L3 HE.v2 HT _) λw' rfl=>?_;rw[HV.1,HV.2]);go_ret;exact⟨AU Ω,rfl⟩
theorem NR(hE:Ext w m p1 b1 p2 b2 n L)(hT:AQ w)(a:Int):
  cQ 197 #[pP m,iI a] w (G3 L (BF L a)):=by
 have c0:=hE.c0;have HE:=hE;have HT:=hT;by_cases hj:BF L a<L.length
 ·obtain⟨h1,h2⟩:=O9 hE.good hj;rw[PT hj];have HZ:=(S6 hE hT hj);have HV:=ι (ξ (JK h2) (ξ h1 (φ h2)));go_enter func197,ntmps197
  go_wp2_with(first|(go_at_call 203;refine(EH HE).mono ?_;rintro e w' ⟨rfl,rfl⟩)|(go_at_call 251;refine(L3 HE.v1 HT _).mono ?_;rintro e w' ⟨rfl,rfl⟩;rw[HV.o.1,HV.o.2.2,HV.o.2.1])|(go_at_call 205;refine HZ.mono ?_;rintro e w' ⟨rfl,rfl⟩))
  go_ret3
  simp_all
 ·have h1:=Y3 hE.good hj;rw[NU hj];go_enter func197,ntmps197
  go_wp2_with(first|(go_at_call 203;refine(EH HE).mono ?_;rintro e w' ⟨rfl,rfl⟩)|(go_at_call 251;refine(L3 HE.v1 HT _).mono ?_;rintro e w' ⟨rfl,rfl⟩))
  go_ret3
  simp_all
theorem LX(hE:Ext w m p1 b1 p2 b2 n L)(hT:AQ w)(a:Int):
  cQ 252 #[pP m,iI a] w (G3 L (BD L a)):=by
 have c0:=hE.c0;have hb:=hE.nb;have HE:=hE;by_cases h0:a<0
 ·rw[NU (by rw[QX (λo _=>by omega)];omega)];go_enter func252,ntmps252;go_wp2_with(go_at_call 203;refine(EH HE).mono ?_;rintro e w' ⟨rfl,rfl⟩)
  go_ret3
  exact⟨rfl,rfl⟩
 ·by_cases h1:(n:Int)<=a
  ·rw[NU (by rw[QX (λo ho=>by have:=hE.good.sz o ho;omega)];omega)];go_enter func252,ntmps252
   go_wp2_with(first|(go_at_call 203;refine(EH HE).mono ?_;rintro e w' ⟨rfl,rfl⟩)|(go_at_call 151;refine(F7 HE).mono ?_;rintro e w' ⟨rfl,rfl⟩))
   go_ret3
   exact⟨rfl,rfl⟩
  ·rcases XA1 hE.good a with⟨hl,X⟩|⟨j,hj,hl,J,X⟩
   ·rw[NU (by rw[QX (λo ho=>by have:=X o ho;omega)];omega)];have HV:Hid (R9 (FA (CE n L) (a+1))=0/\decide (0<=FA (CE n L) (a+1))=false):=⟨by rw[hl];exact⟨rfl,rfl⟩⟩;go_enter func252,ntmps252
    go_wp2_with(first|(go_at_call 203;refine(EH HE).mono ?_;rintro e w' ⟨rfl,rfl⟩)|(go_at_call 151;refine(F7 HE).mono ?_;rintro e w' ⟨rfl,rfl⟩)|(go_at_call 287;refine(YA HE.v1 _).mono ?_;rintro e w' ⟨rfl,rfl⟩;rw[HV.o.1,HV.o.2]))
    go_ret3
    exact⟨rfl,rfl⟩
   ·have HZ:=(S6 hE hT hj);have hs:=hE.good.sz _ (χ hj);have HV:Hid (R9 (FA (CE n L) (a+1))=(L[j].1:Nat)/\decide (0<=FA (CE n L) (a+1))=true):=⟨by rw[hl];exact⟨θ Ω,φ Ω⟩⟩;have Y:=hE.good;by_cases Z:a<L[j].1+L[j].2
    ·have hf:=QH Y hj J Z;rw[hf,PT hj];generalize L[j].1=s at *
     generalize L[j].2=z at *
     go_enter func252,ntmps252
     go_wp2_with(first|(go_at_call 203;refine(EH HE).mono ?_;rintro e w' ⟨rfl,rfl⟩)|(go_at_call 151;refine(F7 HE).mono ?_;rintro e w' ⟨rfl,rfl⟩)|(go_at_call 287;refine(YA HE.v1 _).mono ?_;rintro e w' ⟨rfl,rfl⟩;rw[HV.o.1,HV.o.2])|(go_at_call 205;refine HZ.mono ?_;rintro e w' ⟨rfl,rfl⟩))
     go_ret3
     exact⟨rfl,rfl⟩
    ·have hf:¬BD L a<L.length:=by
      rw[QX (λo ho=>?_)];· omega
      obtain⟨i,hi,rfl⟩:=ζt ho;rcases ζS i j with h3|rfl|h3
      ·have:=Y.at hi hj h3;omega
      ·omega
      ·have:=X i hi h3;omega
     rw[NU hf];generalize L[j].1=s at *
     generalize L[j].2=z at *
     go_enter func252,ntmps252
     go_wp2_with(first|(go_at_call 203;refine(EH HE).mono ?_;rintro e w' ⟨rfl,rfl⟩)|(go_at_call 151;refine(F7 HE).mono ?_;rintro e w' ⟨rfl,rfl⟩)|(go_at_call 287;refine(YA HE.v1 _).mono ?_;rintro e w' ⟨rfl,rfl⟩;rw[HV.o.1,HV.o.2])|(go_at_call 205;refine HZ.mono ?_;rintro e w' ⟨rfl,rfl⟩))
     go_ret3
     exact⟨rfl,rfl⟩
end
section
variable{b1 b2:Nat}
def okV:Value->Bool
 | .bool b=>b
 | _=>false
theorem XG(h:AS n L)(hn:n<=1048576)(j:Nat):0<=obS L j/\0<=obZ L j/\obS L j+obZ L j<=1048576:=by
 by_cases hj:j<L.length
 ·rw[(LE hj).1,(LE hj).2];have:=h.sz _ (χ hj);omega
 grind [Vq1]
theorem Ylw(h:AS n L)(hn:n<=1048576)(j:Nat)(f t:Int):0<=BC (L.take j) f t/\BC (L.take j) f t<=1048576:=by
 have hg:AS n (L.take j):=⟨h.pw.sublist (List.take_sublist ..),λo ho=>h.sz o (ξW ho)⟩;have h1:=T0 hg f t;have h2:LM (L.take j) n f t<=n:=EY _ _;omega
theorem QS1(hE:Ext w m p1 b1 p2 b2 n L)(hT:AQ w)(f t:Int)(hf:f<=9223372036854775807)(ht:-9223372036854775808<=t):
  cQ 198 #[pP m,iI f,iI t] w (iI (BC L f t)):=by
 have hb:=hE.nb;have hg:=hE.good;have HE:=hE;have HT:=hT;rw[<-JAq hg f t];obtain⟨lo,Xd⟩:=ε (max f 0);obtain⟨hi,I⟩:=ε (min t (n:Int));have hlo0:0<=lo/\lo<=9223372036854775807:=Ω
 have hhib:hi<=1048576/\-9223372036854775808<=hi:=Ω
 have HLO:=ι Xd;have HHI:=ι I;have Xp:∀w',(Builtin.max_ #[3,3] 3 #[iI f,iI 0]).run prog w'=.ok (iI lo) w':=λw'=>by rw[NW,Xd]
 have Xo:∀w',(Builtin.min_ #[3,3] 3 #[iI t,iI n]).run prog w'=.ok (iI hi) w':=λw'=>by rw[TU,I]
 rw[<-Xd,<-I];have hmin2:=λx y=>TU prog #[3,3] 3 .i64 x y;obtain⟨jf,Xl⟩:=ε (BD L lo);obtain⟨jn,E⟩:=ε (BF L lo);have Xs:jn<=L.length:=by rw[E];exact P5 _ _
 have X:=Vth hg (f:=lo) (t:=hi);rw[<-Xl,<-E]at X;have Xr:((L[jf]?.getD (0,0)).1:Int)=obS L jf:=rfl;have Xt:((L[jf]?.getD (0,0)).2:Int)=obZ L jf:=rfl;rw[Xr,Xt]at X;have Xv:=XG hg hb.2 jf;obtain⟨s,hs⟩:=ε (obS L jf);obtain⟨z,hz⟩:=ε (obZ L jf);obtain⟨bf,U⟩:=ε (decide (jf<L.length));rw[<-hs,<-hz]at X Xv;have HF:Hid (G3 L (BD L lo)=.tuple #[iI s,iI z,.bool bf]):=⟨by rw[hs,hz,U,Xl];rfl⟩;obtain⟨s1,Xj⟩:=ε (obS L jn);obtain⟨z1,Xb⟩:=ε (obZ L jn);obtain⟨bn,Xm⟩:=ε (decide (jn<L.length));have HN:Hid (G3 L (BF L lo)=.tuple #[iI s1,iI z1,.bool bn]):=⟨by rw[Xj,Xb,Xm,E];rfl⟩;have Xh:=ι (ξ Xj (ξ Xb Xm));obtain⟨v0,Xi⟩:=ε (BC (L.take jn) lo hi);rw[<-Xi]at X;have Ya:=ι Xi;have Xu:=E
 have Xg:(bf=true/\s<lo/\lo<hi/\v0=min (s+z) hi-lo)\/(bf=false/\v0=0)\/(bf=true/\lo<=s/\v0=0)\/(bf=true/\s<lo/\hi<=lo/\v0=0):=by
  by_cases h1:jf<L.length
  ·have e1:bf=true:=by rw[U,φ h1]
   by_cases h2:s<lo
   ·by_cases h3:lo<hi
    ·left;rw[θ ⟨h1,h2,h3⟩]at X;exact⟨e1,h2,h3,X⟩
    ·right;right;right;rw[ψ (λh=>h3 h.2.2)]at X;exact⟨e1,h2,by omega,X⟩
   ·right;right;left;rw[ψ (λh=>h2 h.2.1)]at X;exact⟨e1,by omega,X⟩
  ·right;left;rw[ψ (λh=>h1 h.1)]at X;exact⟨by rw[U,ζ h1],X⟩
 have HG:=hg;clear hE hT Xd I Xl E X Xr Xt hs hz U Xj Xb Xm Xi hg;rcases Xg with⟨rfl,h2,h3,rfl⟩|⟨rfl,rfl⟩|⟨rfl,h2,rfl⟩|⟨rfl,h2,h3,rfl⟩
 all_goals
  have hmm:min (s+z) hi<=1048576:=Ω
  go_enter func198,ntmps198
  go_wp2_with(first|(go_at_call 203;refine(EH HE).mono ?_;rintro e w' ⟨rfl,rfl⟩)|(go_at_call 151;refine(F7 HE).mono ?_;rintro e w' ⟨rfl,rfl⟩)|(go_at_call 252;refine(LX HE HT _).mono ?_;rintro e w' ⟨rfl,rfl⟩;rw[HF.o])|(go_at_call 197;refine(NR HE HT _).mono ?_;rintro e w' ⟨rfl,rfl⟩;rw[HN.o]))
  clear Xp Xo
 all_goals
  go_loop [7,11,12,13] (λs7 s11 s12 s13=>∃j,jn<=j/\j<=L.length/\s7=iI (BC (L.take j) lo hi)/\s11=iI (obS L j)/\s12=iI (obZ L j)/\s13=.bool (decide (j<L.length))) (λ_ s11 _ s13=>if okV s13 then 1048577-(intOf s11).toNat else 0)
  case atStart=>exact⟨jn,μ _,Xs,by rw[<-Ya.o],by rw[Xh.o.1],by rw[Xh.o.2.1],by rw[Xh.o.2.2]⟩
  case round=>
   obtain⟨j,hj1,hj2,rfl,rfl,rfl,rfl⟩:=hrel;have Xn:=Ylw HG hb.2 j lo hi;have Yb:=XG HG hb.2 j;by_cases hj:j<L.length
   ·rw[φ hj];obtain⟨o1,o2⟩:=LE hj;have Xq:=HG.sz _ (χ hj);obtain⟨sj,Z⟩:=ε (obS L j);obtain⟨zj,J⟩:=ε (obZ L j);obtain⟨vj,Y⟩:=ε (BC (L.take j) lo hi)
    have hge:lo<=sj:=by
     rw[Z,o1];have V:BF L lo<L.length:=by have:=Xu;omega
     have hy:=N8 V;rcases δ (BF L lo) j with h|h
     ·have:=HG.at V hj h;omega
     ·have e:L[BF L lo]'V=L[j]:=by congr 1;have:=Xu;omega
      rw[e]at hy;exact hy
    have Xb:1<=zj:=by rw[J,o2];omega
    have Xa:=XN hj lo hi
    have Xe:over L[j] lo hi=max 0 (min (sj+zj) hi-sj):=by
     unfold over;rw[Z,J,o1,o2]at *
     omega
    rw[Xe,<-Y]at Xa;have M:=Ylw HG hb.2 (j+1) lo hi;have Xk:BF L (sj+zj)=j+1:=by rw[Z,J,o1,o2];exact X1z HG hj
    obtain⟨s2,G⟩:=ε (obS L (j+1));obtain⟨z2,Xc⟩:=ε (obZ L (j+1));obtain⟨O,A⟩:=ε (decide (j+1<L.length));have HX:Hid (G3 L (BF L (sj+zj))=.tuple #[iI s2,iI z2,.bool O]):=⟨by rw[Xk,G,Xc,A];rfl⟩;have Xf:=ι (ξ G (ξ Xc A))
    have B:O=true->sj+zj<=s2:=λh=>by
     rw[A]at h;have h:=of_decide_eq_true h;have:=HG.at hj h (ξ3 j);rw[Z,J,G,o1,o2,(LE h).1];omega
    have Xw:=B;rw[<-Z,<-J]at Yb⊢;rw[<-Y]at Xn⊢;have Xx:=ι Y;have Xz:=ι Z;by_cases I:sj<hi
    ·have hmj:min (sj+zj) hi<=1048576/\sj<=min (sj+zj) hi:=Ω
     have D:BC (L.take (j+1)) lo hi=vj+(min (sj+zj) hi-sj):=by rw[Xa];omega
     have hsum:0<=vj+(min (sj+zj) hi-sj)/\vj+(min (sj+zj) hi-sj)<=1048576:=by rw[<-D];exact M
     have Xy:=ι D;clear Z J Y Xe Xa D M Xk G Xc A B o1 o2 Xq;go_wp2_with(go_at_call 197;refine(NR HE HT _).mono ?_;rintro e w' ⟨rfl,rfl⟩;rw[HX.o]);go_round
     case rel=>exact⟨j+1,by omega,by omega,by rw[Xy.o],by rw[Xf.o.1],by rw[Xf.o.2.1],by rw[Xf.o.2.2]⟩
     case measure=>
      have e0:okV (Value.bool true)=true:=rfl;rw[θ e0];by_cases h:O=true
      ·have:=Xw h;rw[θ (show okV (Value.bool O)=true from h)];simp only[intOf];omega
      ·rw[ψ (show ¬okV (Value.bool O)=true from h)];simp only[intOf];omega
    ·have N:=ZG HG (j:=j) (f:=lo) (t:=hi) (λhl=>by
      have:=Xz.o;rw[(LE hl).1]at this;omega)
     have hE:Hid (BC L lo hi=vj):=⟨by rw[WC L j,N,<-Xx.o];omega⟩;clear Z J Y Xe Xa M Xk G Xc A B o1 o2 Xq N;go_wp2;go_ret;exact⟨AU hE.o.symm,rfl⟩
   ·rw[ζ hj];have N:=ZG HG (j:=j) (f:=lo) (t:=hi) (λhl=>absurd hl hj);have hE:Hid (BC L lo hi=BC (L.take j) lo hi):=⟨by rw[WC L j,N];omega⟩;obtain⟨vj,Y⟩:=ε (BC (L.take j) lo hi);rw[<-Y]at Xn⊢hE;clear N Y;go_wp2;go_ret;exact⟨AU hE.o.symm,rfl⟩
end
def AT(m b1 b2:Nat)(k:Nat):Prop:=k=m\/k=b1\/k=b2
section
variable{b1 b2:Nat}
theorem Ext.changed(hE:Ext w m p1 b1 p2 b2 n L){L':List Ob}(hg:AS n L')(t1:AB (λk=>k=b1) w w1)(v1:BG w1 p1 b1 (CE n L'))(t2:AB (λk=>k=b2) w1 w2)(v2:BG w2 p2 b2 (EQ n L'))(hz:z=L'.length):
  Ext (w2.setCell ⟨m,2,none⟩ (.int .i64 z)) m p1 b1 p2 b2 n L'/\AB (AT m b1 b2) w (w2.setCell ⟨m,2,none⟩ (.int .i64 z)):=by
 have t3:AB (λk=>k=m) w2 (w2.setCell ⟨m,2,none⟩ (.int .i64 z)):=(AB.refl (λk=>k=m) w2).setCell (a:=⟨m,2,none⟩) (λ_=>rfl) _;obtain⟨a1,a2,a3,a4⟩:=hE.am;obtain⟨a5,a6,a7⟩:=hE.ab;have X:m<w1.heap.size:=ϑ hE.hm t1.size;have hm2:m<w2.heap.size:=ϑ X t2.size;have e:∀o,w2.cell? ⟨m,o,none⟩=w.cell? ⟨m,o,none⟩:=λo=>(t2.cell X Ω o).trans (t1.cell hE.hm Ω o)
 have o:∀o,o≠2->(w2.setCell ⟨m,2,none⟩ (.int .i64 z)).cell? ⟨m,o,none⟩=w.cell? ⟨m,o,none⟩:=λo ho=>by
  rw[ξG (h:=by simp_all),e o]
 refine⟨⟨hg,(v1.touch t2 Ω Ω).touch t3 Ω Ω,v2.touch t3 Ω Ω,by simp_all,(o 0 Ω).trans hE.c0,(o 1 Ω).trans hE.c1,?_,?_,hE.am,hE.ab⟩,?_⟩
 ·rw[hz];exact ξu (h:=(e 2).trans hE.c2) ..
 ·rw[ξh,t2.frozen X Ω,t1.frozen hE.hm Ω];exact hE.fr
 ·exact((t1.mono (λk _ h=>.inr (.inl h))).trans (t2.mono (λk _ h=>.inr (.inr h)))).trans (t3.mono (λk _ h=>.inl h))
def XU(w:World)(m p1 b1 p2 b2 n:Nat)(L:List Ob)(s z:Int)(e:Ending)(w':World):Prop:=
 e=.returned (iI (DL L n s z))/\AB (AT m b1 b2) w w'/\Ext w' m p1 b1 p2 b2 n (DC L n s z)
theorem Q4(hE:Ext w m p1 b1 p2 b2 n L){s c:Int}(h:DL L n s z=c)(hc:c≠0):XU w m p1 b1 p2 b2 n L s z (.returned (iI c)) w:=by
 refine⟨by rw[h],AB.refl _ _,?_⟩;unfold DC
 simp_all
theorem Zc1(hE:Ext w m p1 b1 p2 b2 n L)(hT:AQ w)(s z:Int):Calls prog 200 #[pP m,iI s,iI z] w (XU w m p1 b1 p2 b2 n L s z):=by
 have hb:=hE.nb;have HE:=hE;have HT:=hT;by_cases h0:z<1
 ·have d0:decide (z<1)=true:=by simp[h0]
  have HR:=(Q4 hE (s:=s) (z:=z) (c:=15) (by unfold DL;rw[θ h0]) (by decide));go_in;go_wp2_with(go_at_call 203;refine(EH HE).mono ?_;rintro e w' ⟨rfl,rfl⟩);go_ret;exact HR
 ·have d0:decide (z<1)=false:=by simp;omega
  by_cases h1:s<0
  ·have d1:decide (s<0)=true:=by simp[h1]
   have HR:=(Q4 hE (s:=s) (z:=z) (c:=11) (by unfold DL;rw[ψ h0,θ (.inl h1)]) (by decide));go_in;go_wp2_with(go_at_call 203;refine(EH HE).mono ?_;rintro e w' ⟨rfl,rfl⟩);go_ret;exact HR
  ·have d1:decide (s<0)=false:=by simp;omega
   by_cases h2:(n:Int)<=s
   ·have d2:decide ((n:Int)<=s)=true:=by simp[h2]
    have HR:=(Q4 hE (s:=s) (z:=z) (c:=11) (by unfold DL;rw[ψ h0,θ (.inr (.inl h2))]) (by decide));go_in
    go_wp2_with(first|(go_at_call 203;refine(EH HE).mono ?_;rintro e w' ⟨rfl,rfl⟩)|(go_at_call 151;refine(F7 HE).mono ?_;rintro e w' ⟨rfl,rfl⟩))
    go_ret;exact HR
   ·have d2:decide ((n:Int)<=s)=false:=by simp;omega
    obtain⟨sn,rfl⟩:∃k:Nat,s=k:=⟨s.toNat,by omega⟩;by_cases h3:(n:Int)-sn<z
    ·have d3:decide ((n:Int)-(sn:Int)<z)=true:=by simp;omega
     have HR:=(Q4 hE (s:=sn) (z:=z) (c:=11) (by unfold DL;rw[ψ h0,θ (.inr (.inr h3))]) (by decide));clear hE hT;go_in
     go_wp2_with(first|(go_at_call 203;refine(EH HE).mono ?_;rintro e w' ⟨rfl,rfl⟩)|(go_at_call 151;refine(F7 HE).mono ?_;rintro e w' ⟨rfl,rfl⟩))
     go_ret;exact HR
    ·have d3:decide ((n:Int)-(sn:Int)<z)=false:=by simp;omega
     obtain⟨zn,rfl⟩:∃k:Nat,z=k:=⟨z.toNat,by omega⟩;have X:=V3K hE.good (s:=(sn:Int)) (z:=(zn:Int)) Ω;have Xt:=XG hE.good hb.2 (BF L (sn:Int));have Xe:((L[BF L (sn:Int)]?.getD (0,0)).1:Int)=obS L (BF L (sn:Int)):=rfl;rw[Xe]at X;obtain⟨s1,Xh⟩:=ε (obS L (BD L (sn:Int)));obtain⟨z1,J⟩:=ε (obZ L (BD L (sn:Int)));obtain⟨f1,Xc⟩:=ε (decide (BD L (sn:Int)<L.length));obtain⟨s2,O⟩:=ε (obS L (BF L (sn:Int)));obtain⟨z2,Xb⟩:=ε (obZ L (BF L (sn:Int)));obtain⟨f2,N⟩:=ε (decide (BF L (sn:Int)<L.length));have HF:Hid (G3 L (BD L (sn:Int))=.tuple #[iI s1,iI z1,.bool f1]):=⟨by rw[Xh,J,Xc];rfl⟩;have HN:Hid (G3 L (BF L (sn:Int))=.tuple #[iI s2,iI z2,.bool f2]):=⟨by rw[O,Xb,N];rfl⟩;rw[<-Xc,<-N,<-O]at X;rw[<-O,<-Xb]at Xt;have Xd:zn<=1048576/\sn<=1048576/\sn+zn<=n:=Ω
     have Z:∀c,IS L (sn:Int) (zn:Int)=c->DL L n (sn:Int) (zn:Int)=if c then 7 else 0:=λc hc=>by
      unfold DL;rw[ψ h0,ψ Ω,hc]
     clear Xh J Xc O Xb N Xe;cases hc:IS L (sn:Int) (zn:Int)with
     | true=>
      have HR:=(Q4 hE (s:=(sn:Int)) (z:=(zn:Int)) (c:=7) (Z true hc) (by decide));rw[hc]at X;clear hE hT Z hc;cases f1 with
      | true=>
       clear X;go_in
       go_wp2_with(first|(go_at_call 203;refine(EH HE).mono ?_;rintro e w' ⟨rfl,rfl⟩)|(go_at_call 151;refine(F7 HE).mono ?_;rintro e w' ⟨rfl,rfl⟩)|(go_at_call 252;refine(LX HE HT _).mono ?_;rintro e w' ⟨rfl,rfl⟩;rw[HF.o])|(go_at_call 197;refine(NR HE HT _).mono ?_;rintro e w' ⟨rfl,rfl⟩;rw[HN.o]))
       go_ret;exact HR
      | false=>
       have N:f2=true/\s2<(sn:Int)+zn:=by simpa using X.symm
       obtain⟨rfl,Xl⟩:=N;have d4:decide (s2<(sn:Int)+(zn:Int))=true:=by simp[Xl]
       clear X;go_in
       go_wp2_with(first|(go_at_call 203;refine(EH HE).mono ?_;rintro e w' ⟨rfl,rfl⟩)|(go_at_call 151;refine(F7 HE).mono ?_;rintro e w' ⟨rfl,rfl⟩)|(go_at_call 252;refine(LX HE HT _).mono ?_;rintro e w' ⟨rfl,rfl⟩;rw[HF.o])|(go_at_call 197;refine(NR HE HT _).mono ?_;rintro e w' ⟨rfl,rfl⟩;rw[HN.o]))
       go_ret;exact HR
     | false=>
      have M:=XCZ (L:=L) (s:=(sn:Int)) (z:=(zn:Int)) Ω Ω hc;simp only[β]at M;have J:1<=zn:=Ω
      have V:=TH hE.good (o:=(sn,zn)) J Xd.2.2 M;have Xf:=Yfk hE.good (o:=(sn,zn)) J Xd.2.2 M;have Xg:=Y48 hE.good (o:=(sn,zn)) J Xd.2.2 M;have G:=YKx L (sn,zn);have Y:DL L n (sn:Int) (zn:Int)=0:=Z false hc;have hL:DC L n (sn:Int) (zn:Int)=DS L (sn,zn):=by unfold DC;rw[θ Y];rfl
      rw[hc]at X
      obtain⟨rfl,Xr⟩:f1=false/\(f2=false\/(f2=true/\(sn:Int)+zn<=s2)):=by
       cases f1 with
       | true=>rw[Bool.true_or]at X;cases X
       | false=>
        refine⟨rfl,?_⟩;cases f2 with
        | false=>exact .inl rfl
        | true=>
         right;rw[Bool.false_or,ψg]at X;have:=of_decide_eq_false X.symm;exact⟨rfl,by omega⟩
      obtain⟨e,he⟩:=ε (sn+zn-1);have Xn:Hid ((sn:Int)+(zn:Int)-1=(e:Int)):=⟨by omega⟩;have D:EQ n (DS L (sn,zn))=(EQ n L).set e true:=by rw[he];exact Xg
      have A:CE n (DS L (sn,zn))=(CE n L).set sn true:=Xf;have K1:Hid (sn<(CE n L).length):=⟨by rw[JI];omega⟩;have K2:Hid (e<(EQ n L).length):=⟨by rw[SH];omega⟩;have KG:=V;have KS:=A;have KE:=D;have KL:=(ξ G (ξ Y hL));obtain⟨a1,a2,a3,a4⟩:=hE.am;obtain⟨a5,a6,a7⟩:=hE.ab;have E:=hE.hm;have Xo:=hE.c1;have Xv:=hE.c2;have Xq:=hE.fr;have cc0:=hE.c0;have HA:Hid (m≠b1/\m≠b2/\p2≠b1/\b2≠b1):=⟨⟨a2,a4,a6,λh=>a7 h.symm⟩⟩;have hLn:=hE.good.len;clear hE hT Z hc X M V Xf Xg D A G Y hL he a1 a2 a3 a4 a5 a6 a7;rcases Xr with rfl|⟨rfl,hge⟩
      all_goals try have d4:decide (s2<(sn:Int)+(zn:Int))=false:=by simp;omega
      all_goals
       go_in
       go_wp2_with(first|(go_at_call 203;refine(EH HE).mono ?_;rintro e w' ⟨rfl,rfl⟩)|(go_at_call 151;refine(F7 HE).mono ?_;rintro e w' ⟨rfl,rfl⟩)|(go_at_call 252;refine(LX HE HT _).mono ?_;rintro e w' ⟨rfl,rfl⟩;rw[HF.o])|(go_at_call 197;refine(NR HE HT _).mono ?_;rintro e w' ⟨rfl,rfl⟩;rw[HN.o])|(go_at_call 255;rw[Xn.o];refine(ZYZ (HE.v2.touch Xi HA.o.2.2.1 HA.o.2.2.2) e K2.o).mono ?_;rintro e' w2 ⟨rfl,I,Xa⟩;rw[<-KE]at Xa;have e2:=(I.cell Xj HA.o.2.1 2).trans Xw;have ef:=(I.frozen Xj HA.o.2.1 2).trans Xs;have Xu:=I;have Xp:=Xa;clear I Xa)|(go_at_call 255;refine(ZYZ HE.v1 sn K1.o).mono ?_;rintro e' w1 ⟨rfl,U,B⟩;rw[<-KS]at B;have e11:=(U.cell E HA.o.1 1).trans Xo;have Xw:=(U.cell E HA.o.1 2).trans Xv;have Xs:=(U.frozen E HA.o.1 2).trans Xq;have Xi:=U;have Xm:=B;have Xj:=(ϑ E U.size);clear U B))
       go_ret;have Xk:=HE.changed KG Xi Xm Xu Xp (z:=((L.length:Int)+1)) (by rw[KL.1];push_cast;rfl);exact⟨by rw[KL.2.1];rfl,Xk.2,by rw[KL.2.2];exact Xk.1⟩
theorem ZRB(c0:w.cell? ⟨m,0,none⟩=some (pP p)):cQ 203 #[pP m] w (.bool false):=by
 go_enter func203,ntmps203;go_wp2;go_ret
 simp_all
theorem Xk0(c0:w.cell? ⟨m,0,none⟩=some (pP p))(hV:BG w p b l)(hl:l.length=n):
  cQ 151 #[pP m] w (iI n):=by
 have HV:=hV;go_enter func151,ntmps151
 go_wp2_with(first|(go_at_call 203;refine(ZRB c0).mono ?_;rintro e w' ⟨rfl,rfl⟩)|(go_at_call 217;refine(JJ HV).mono ?_;rintro e w' ⟨rfl,rfl⟩))
 go_ret
 simp_all
theorem JZ2(l:List Bool)(n:Nat)(h:l.length=n):CX l 0 n false=List.replicate n false:=
 JF (by grind [GC]) (λi hi=>by
  rw[GC]at hi;rw[PH _ _ _ _ _ hi,θ Ω]
  simp[at_,ξz];split <;> rfl)
def JAm(w:World)(m p1 b1 p2 b2 n:Nat)(e:Ending)(w':World):Prop:=e=.returned (.tuple #[])/\AB (AT m b1 b2) w w'/\Ext w' m p1 b1 p2 b2 n []
theorem Zca(hE:Ext w m p1 b1 p2 b2 n L):Calls prog 153 #[pP m] w (JAm w m p1 b1 p2 b2 n):=by
 have hb:=hE.nb;have HE:=hE;have E:=hE.c0;have D:=hE.c1;have Xe:=hE.c2;have B:=hE.fr;obtain⟨a1,a2,a3,a4⟩:=hE.am;obtain⟨a5,a6,a7⟩:=hE.ab;have Z:=hE.hm;have HA:Hid (m≠b1/\m≠b2/\p2≠b1/\b2≠b1):=⟨⟨a2,a4,a6,λh=>a7 h.symm⟩⟩;have KS:Hid (CX (CE n L) 0 (n:Int) false=CE n []):=⟨by grind [JZ2,JI,V9f]⟩;have KE:Hid (CX (EQ n L) 0 (n:Int) false=EQ n []):=⟨by grind [JZ2,SH,JfC]⟩;go_in;go_upto_region 1 with(go_at_call 203;refine(EH HE).mono ?_;rintro e w' ⟨rfl,rfl⟩);obtain⟨S,hS⟩:=ε (λW'=>W'.cell? ⟨m,0,none⟩=some (pP p1):World->Prop);have x0:∀p:AA S,p.w.cell? ⟨m,0,none⟩=some (pP p1):=λp=>AA.get hS p;have Y:S w.drew:=by simp_all
 have J:Inhabited (AA S):=⟨⟨_,Y⟩⟩;clear hS;refine BI S 6 [([0,1,2,3,4],5),([],6)] [] Y ?_;refine AL ?_;go_wp2_with(go_at_call 151;refine(F7 (HE.gr (Gr.refl w).drew)).mono ?_;rintro e w' ⟨rfl,rfl⟩);refine⟨.inr (AA.of Y),?_⟩;refine P4 ?_;simp only[AF,υ,ν];refine ζb ?_;go_wp2_with(go_at_call 218;refine(JRq (HE.v1.gr (Gr.refl w).drew) 0 (n:Int) (by decide)).mono ?_;rintro e' w1 ⟨rfl,Xa,V⟩;rw[KS.o]at V;have X:=((Gr.refl w).drew.touch (λk=>k=b1)).trans Xa;have e11:=(X.cell Z HA.o.1 1).trans D;have Xf:=(X.cell Z HA.o.1 2).trans Xe;have A:=(X.cell Z HA.o.1 0).trans E;have Xb:=(X.frozen Z HA.o.1 2).trans B;have N:=X;have U:=V;have O:=(ϑ Z X.size));refine⟨.inl trivial,?_⟩;refine EM ?_;refine ζb ?_;refine ζx ?_;go_upto_region 2 with(fail);obtain⟨S,hS⟩:=ε (λW'=>W'.cell? ⟨m,1,none⟩=some (pP p2):World->Prop);have x0:∀p:AA S,p.w.cell? ⟨m,1,none⟩=some (pP p2):=λp=>AA.get hS p;have Y:S w1.drew:=by simp_all
 have J:Inhabited (AA S):=⟨⟨_,Y⟩⟩;clear hS;refine BI S 6 [([0,1,2,3,4],5),([],6)] [] Y ?_;refine AL ?_;go_wp2_with(go_at_call 151;refine(Xk0 (w:=w1.drew) A (U.gr (Gr.refl w1).drew) (JI n [])).mono ?_;rintro e w' ⟨rfl,rfl⟩);refine⟨.inr (AA.of Y),?_⟩;refine P4 ?_;simp only[AF,υ,ν];refine ζb ?_;go_wp2_with(go_at_call 218;refine(JRq ((HE.v2.touch N HA.o.2.2.1 HA.o.2.2.2).gr (Gr.refl w1).drew) 0 (n:Int) (by decide)).mono ?_;rintro e' w2 ⟨rfl,Xc,M⟩;rw[KE.o]at M;have X:=((Gr.refl w1).drew.touch (λk=>k=b2)).trans Xc;have e2:=(X.cell O HA.o.2.1 2).trans Xf;have ef:=(X.frozen O HA.o.2.1 2).trans Xb;have Xd:=X;have G:=M);refine⟨.inl trivial,?_⟩;refine EM ?_;refine ζb ?_;refine ζx ?_;clear x0 Y J;go_wp2;refine ζk (ζh rfl _ _ _) rfl ?_;have I:=HE.changed (AS.nil n) N U Xd G (z:=0) rfl;exact⟨rfl,I.2,I.1⟩
def XrP(w:World)(n:Nat)(e:Ending)(w':World):Prop:=
 ∃m p1 b1 p2 b2,e=.returned (.tuple #[pP m,iI 0])/\Gr w w'/\Ext w' m p1 b1 p2 b2 n []/\w.heap.size<=m/\w.heap.size<=p1/\w.heap.size<=b1/\w.heap.size<=p2/\w.heap.size<=b2
theorem P7(n:Nat)(h1:1<=n)(h2:n<=1048576)(w:World):Calls prog 70 #[iI n] w (XrP w n):=by
 have HN:=(ξ h1 h2);go_in
 go_wp2_with(first|(go_at_call 149;refine(XV n HN.1 HN.2 w1).mono ?_;rintro e w2 ⟨p2,b2,rfl,J,Y,hp2,hb2⟩)|(go_at_call 149;refine(XV n HN.1 HN.2 _).mono ?_;rintro e w1 ⟨p1,b1,rfl,U,X,hp1,hb1⟩))
 go_ret2;have Z:=X.gr J;have s1:=X.hp;have s2:=X.hb;have s3:=Y.hp;have s4:=Y.hb;refine⟨_,p1,b1,p2,b2,BT rfl rfl,(U.trans J).alloc _,⟨AS.nil n,?_,?_,by simp,ζM ..,ζM ..,ζM ..,ψk ..,by omega,by omega⟩,by omega,by omega,by omega,by omega,by omega⟩
 ·rw[V9f];exact Z.gr ((Gr.refl _).alloc _)
 ·rw[JfC];exact Y.gr ((Gr.refl _).alloc _)
end
open Go.Shelf
section
attribute [local go_sem] Oper.semAt_some
def YjA(box p b N:Nat)(s:List Bool×Nat)(W:World):Prop:=
 BG W p b s.1/\s.1.length=N/\AQ W/\W.cell? ⟨box,0,none⟩=some (pP p)/\s.2<=N
def XRB(s:List Bool×Nat)(x:Nat):Prop:=x=BX s.1 s.2/\BX s.1 s.2<s.1.length
def Qk5(_:List Bool×Nat)(x:Nat)(s':List Bool×Nat):Prop:=s'.2=x+1
theorem VJj{a:Int}(h:BX l a<l.length):at_ l (BX l a)=true/\a<=(BX l a:Nat):=by
 have:=H7 (λi=>at_ l i&&decide (a<=(i:Nat))) l.length h;simp only[ζd,ζg]at this;exact this
theorem ZWM{a:Int}(h:BX l a<l.length):a<=(BX l a:Nat):=(VJj h).2
def X9:Value->Bool
 | .bool b=>b
 | _=>false
def XD(s:List Bool×Nat):Prop:=¬BX s.1 s.2<s.1.length
theorem ZNp(n:Nat)(box p b N:Nat)(l0:List Bool)(w:World):
  OQ Fence.wide n prog 257 #[pP box] (λx:Nat=>#[iI (x:Int)]) (YjA box p b N) XRB Qk5 XD (l0,0) w:=by
 intro l J Jx W hg hJ hJx hI hY h0;refine callsIn_of_wp func257 rfl trivial ?_ rfl;have U:=hI _ _ h0;have c0:=U.2.2.2.1;have V:=U;simp only[ntmps257,ζ3,ζD,ξf,Nat.reduceAdd,Nat.reduceSub,ζR,ζQ,ζ9,ζZ,ζ4,ζv];gi_wp2_with(refine⟨trivial,λh=>Bool.noConfusion h,?_⟩;gi_at_call 251;refine(γ.2 (L3 V.1 V.2.2.1 _)).mono ?_;rintro e w1 ⟨rfl,rfl⟩)
 gi_loopw [3,4] (λx3 x4 wr=>∃s:List Bool×Nat,J s wr/\x3=iI (KD s.1.length (BX s.1 s.2))/\x4=.bool (decide (BX s.1 s.2<s.1.length))) (λx3 x4 _=>if X9 x4 then N-(intOf x3).toNat+1 else 0)
 case atStart=>grind
 case round=>
  obtain⟨s,hs,rfl,rfl⟩:=hrel;have hi:=hI _ _ hs;have c1:=hi.2.2.2.1;have HI:=hi;by_cases X:BX s.1 s.2<s.1.length
  ·obtain⟨x,hx⟩:=ε (BX s.1 s.2);obtain⟨fn,tmps,assign,body,hy,hR⟩:=hY s x wr hs ⟨hx,X⟩;have e1:KD s.1.length (BX s.1 s.2)=(x:Int):=by grind [JK]
   have e2:decide (BX s.1 s.2<s.1.length)=true:=by simp[X]
   rw[e1,e2];have hxN:x<N:=by rw[<-HI.2.1,hx];exact X
   have HN:=hI;have HX:=ι hx;clear hx e1 e2 hI;gi_wp2;refine⟨λh=>Bool.noConfusion h,hR.mono ?_⟩;rintro e W3 (⟨rfl,s',O,I⟩|⟨rfl,hx'⟩)
   ·have Y:=HN _ _ I;have c3:=Y.2.2.2.1;have Z:=Y;have M:s'.2=x+1:=O;have hN2:(N:Int)<=1048576:=by have:=Y.1.n2;have:=Y.2.1;omega
    have hx2:(x:Int)<N:=Ω
    have HS':=M;gi_wp2_with(refine⟨trivial,λh=>Bool.noConfusion h,?_⟩;gi_at_call 251;refine(γ.2 (L3 Z.1 Z.2.2.1 ((x:Int)+1))).mono ?_;rintro e w1 ⟨rfl,rfl⟩);go_roundw
    case rel=>grind
    case measure=>
     have e0:X9 (Value.bool true)=true:=rfl;rw[θ e0];by_cases h:BX s'.1 ((x:Int)+1)<s'.1.length
     ·have hge:=ZWM h;have h2:=Z.2.1;rw[JK h,θ (by simp_all)];simp only[intOf];omega
     ·rw[ψ (by simp[X9];omega)];omega
   ·gi_wp2
    go_end0
    simp_all
  ·have e1:KD s.1.length (BX s.1 s.2)=0:=O1 X;have e2:decide (BX s.1 s.2<s.1.length)=false:=by simp;omega
   rw[e1,e2];gi_wp2;refine⟨λ_ h=>(by cases h),?_⟩;gi_wp2
   go_end0
   exact⟨⟨_,rfl⟩,.inl ⟨s,X,hs⟩⟩
theorem Xig(q:Option Addr):Calls prog 204 #[.pointer q] w λe w'=>e=.returned (.func (.func 257) #[] #[pP w.heap.size])/\w'=w.alloc (.cells #[.pointer q] 223):=by
 go_in;go_wp2;go_ret
 simp_all
end
section
attribute [local go_sem] Oper.semAt_some
def Zxj(box m p1 b1 p2 b2 n:Nat)(L:List Ob)(j:Nat)(W:World):Prop:=
 Ext W m p1 b1 p2 b2 n L/\AQ W/\W.cell? ⟨box,0,none⟩=some (pP m)/\j<=L.length
def FE(L:List Ob)(j:Nat)(x:Ob):Prop:=L[j]?=some x
def IC(x:Ob):Array Value:=#[iI (x.1:Nat),iI (x.2:Nat)]
theorem ZjB(h:AS n L)(hj:j<L.length):BF L ((L[j].1:Int)+1)=j+1:=by
 refine NV Ω (λi hi hij=>?_) (λh2=>?_)
 ·rcases δ i j with h1|h1
  ·have:=h.at hi hj h1;omega
  grind
 ·have:=h.at hj h2 (ξ3 j);have:=h.sz _ (χ hj);omega
theorem ZVe{m' l l2:Nat}{P:Program}{args:Array Value}{R:Ending->World->Prop}(h:YieldAt Fence.wide m P l args W R):YieldAt (Fence.wide.inRound l2) m' P l args W R:=by
 obtain⟨fn,Z,X,Y,hy,hR⟩:=h;exact⟨fn,Z,X,Y,hy,hR.1,λc cs _=>hR.2 c cs (room_wide _)⟩
structure N6(n:Nat)(L:List Ob)(J:Nat->World->Prop)(B0 B1 p1:Nat)(y:Value)(s:List Bool×Nat)(A:World):Prop where
 st:s.1=CE n L
 ps:s.2<=n
 j:∃j,J j A/\BF L (s.2:Int)=j
 y:A.cell? ⟨B0,0,none⟩=some y
 v:A.cell? ⟨B1,0,none⟩=some (pP p1)
theorem Xix(n':Nat)(box m p1 b1 p2 b2 n:Nat)(L:List Ob)(w:World):
  X2 Fence.wide n' prog 202 #[pP box] IC (Zxj box m p1 b1 p2 b2 n L) (FE L) (λj _ j'=>j'=j+1) (λj=>j=L.length) 0 w:=by
 intro l J Jx W hg hJ Xi hI hY h0;refine γ.2 ((γ (n:=5)).1 ?_);refine callsIn_of_wp_marks func202 rfl trivial ?_ rfl;have Xc:=hI _ _ h0;have c0:=Xc.2.2.1;have k0:=Xc.1.c0;have Xb:=Xc;have Xt:=h0;have Xl:=hI;simp only[ntmps202,ζ3,ζD,ξf,Nat.reduceAdd,Nat.reduceSub,ζR,ζQ,ζ9,ζZ,ζ4,ζv];have hbox:box<W.heap.size:=A6 c0;have hmw:=Xb.1.hm
 gi_wp2_with(first|(refine⟨trivial,?_⟩;gi_at_call 203;refine(γ.2 (EH (Xb.1.gr ((Gr.refl W).alloc _)))).mono ?_;rintro e w1 ⟨rfl,rfl⟩)|(refine⟨trivial,?_⟩;gi_at_call 204;refine(γ.2 (Xig (some ⟨p1,0,none⟩))).mono ?_;rintro e w1 ⟨rfl,rfl⟩))
 obtain⟨W0,M⟩:=ε ((W.alloc (.cells #[.func (.yield l) #[] #[]] 284)).alloc (.cells #[.pointer (some ⟨p1,0,none⟩)] 223));have Xx:Gr W W0:=by rw[M];exact((Gr.refl W).alloc _).alloc _
 have Xj:W0.heap.size=W.heap.size+2:=by rw[M];simp
 have bY:W0.cell? ⟨W.heap.size,0,none⟩=some (.func (.yield l) #[] #[]):=by rw[M];exact((Boxed.new W _ _).alloc _).cell
 have bV:W0.cell? ⟨W.heap.size+1,0,none⟩=some (pP p1):=by
  rw[M];have:=Boxed.new (W.alloc (.cells #[.func (.yield l) #[] #[]] 284)) 223 (pP p1);rw[π]at this;exact this.cell
 rw[<-M];have X:=Xb.1.good;have hnb:=Xb.1.nb;have Xn:J 0 W0:=hJ _ _ _ Xt (Xx.touch _);have HH0:=M;have Xz:BF L ((0:Nat):Int)=0:=NV (ζe _) (λi hi h=>by omega) (λh=>by omega)
 have tI:∀s A B,N6 n L J W.heap.size (W.heap.size+1) p1 (.func (.yield l) #[] #[]) s A->AB (λk=>W0.heap.size<=k) A B->N6 n L J W.heap.size (W.heap.size+1) p1 (.func (.yield l) #[] #[]) s B:=λs A B h t=>
  ⟨h.st,h.ps,by obtain⟨j,hj,e⟩:=h.j;exact⟨j,hJ _ _ _ hj (t.mono (λk _ h=>by omega)),e⟩,(t.cell (A6 h.y) (by show ¬W0.heap.size<=W.heap.size;omega) 0).trans h.y,(t.cell (A6 h.v) (by show ¬W0.heap.size<=W.heap.size+1;omega) 0).trans h.v⟩
 refine VK (s0:=(CE n L,0)) rfl Ω (gf:=257) (lb:=#[pP (W.heap.size+1)]) rfl trivial (enters_of func257 (by kernel_rfl) rfl)
  (ZNp _ (W.heap.size+1) p1 b1 n (CE n L) _).toT (λ_=>rfl)
  (N6 n L J W.heap.size (W.heap.size+1) p1 (.func (.yield l) #[] #[])) (λc A=>c=.ret/\Jx A) tI (λc A B h t=>⟨h.1,Xi _ _ h.2 (t.mono (λk _ h=>by omega))⟩)
  (λs A h=>by
   obtain⟨j,hj,-⟩:=h.j;have hi:=Xl _ _ hj
   exact⟨by rw[h.st];exact hi.1.v1,by rw[h.st,JI],hi.2.1,h.v,h.ps⟩)
  ⟨rfl,ζe _,⟨0,Xn,Xz⟩,bY,bV⟩ ?round ?done ?stop
 case round=>
  intro lp s x W3 hsz3 Xd Ya;gi_wp2;refine⟨Gr.refl _,λW4 ht4 hI4=>?_⟩;obtain⟨V,Xm,⟨j,hj,Z⟩,hy,hv⟩:=hI4;obtain⟨hx,Xf⟩:=Ya;have I:=Xl _ _ hj;rw[V]at hx Xf
  have Y:j<L.length:=by
   rcases δ j L.length with h|h
   ·exact h
   ·have:=Y3 X (a:=(s.2:Int)) (by rw[Z];omega);omega
  have Xs:x=L[j].1:=by
   have:=(O9 X (a:=(s.2:Int)) (by rw[Z];exact Y)).1;rw[hx,this];congr 2
  subst Xs;have Xy:J j W4.drew:=hJ _ _ _ hj ((Gr.refl W4).drew.touch _);have Xq:W.heap.size<=W4.drew.heap.size:=ξV (A6 hy);obtain⟨fn,tmps,assign,body,Xu,hR⟩:=ZVe (m':=2) (l2:=lp) (hY j L[j] W4.drew Xy Xq (τ Y));have HZ:=(S6 (I.1.gr (Gr.refl W4).drew) ((Gr.refl W4).drew.tab I.2.1.lt I.2.1) Y);have cbx:=I.2.2.1;have hbxs:=Xj;have HS:=(ξ V (ξ Z Y));clear V Z hj I hx Xf Xd;dsimp only[IC]at Xu
  have Xp:=hR.mono (R':=λe W'=>∃bb:Bool,e=.returned (.bool bb)/\((bb=true/\J (j+1) W')\/(bb=false/\Jx W'))/\AB (λk=>k<W.heap.size) W4.drew W') (by
   rintro e W' ⟨⟨he,s',rfl,Xr⟩|⟨he,hx⟩,ht⟩
   ·exact⟨true,he,.inl ⟨rfl,Xr⟩,ht⟩
   ·exact⟨false,he,.inr ⟨rfl,hx⟩,ht⟩)
  clear hR;gi_wp2;obtain⟨Sx,G⟩:=ε (λA=>A.cell? ⟨W.heap.size,0,none⟩=some (.func (.yield l) #[] #[]):World->Prop);have x1:∀p:AA Sx,p.w.cell? ⟨W.heap.size,0,none⟩=some (.func (.yield l) #[] #[]):=λp=>AA.get G p;have O:Sx W4.drew:=by rw[G];exact hy
  have Xo:=ι G;clear G;have Xg:Inhabited (AA Sx):=⟨⟨_,O⟩⟩;refine IK Sx 7 [([0,1,3],2),([],4),([],5)] [6] (λ_=>trivial) O ?_;refine E3 ?_;gi_wp2;refine⟨.inr (AA.of O),?_⟩;refine PL ?_;simp only[AF,υ,ν];refine ζb ?_;gi_wp2_with(refine⟨trivial,?_⟩;gi_at_call 205;refine(CallsIn.inRound lp (γ.2 HZ)).mono ?_;rintro e w' ⟨rfl,rfl⟩);refine⟨.inr (AA.of O),?_⟩;refine PL ?_;simp only[AF,υ,ν];refine ζb ?_;gi_wp2;refine Xp.mono ?_;rintro e W5 ⟨bb,rfl,Xa,E⟩;have Xh:=(E.cell (A6 hy) (ξb _) 0).trans hy;have Xw:=(E.cell (A6 hv) (by show ¬W.heap.size+1<W.heap.size;omega) 0).trans hv;gi_wp2;refine⟨.inr (AA.of (by rw[Xo.o];exact Xh)),?_⟩;refine IB ?_;have T5:=(((Gr.refl W4).drew.touch (λk=>k<W0.heap.size)).trans (E.mono (λk _ h=>by omega)));have Xv:=(X.sz _ (χ Y));clear x1 O Xo Xg Xp E;clear Sx;cases bb with
  | true=>
   have N:J (j+1) W5:=by
    rcases Xa with⟨_,h⟩|⟨h,_⟩
    ·exact h
    ·cases h
   have Xe:=N;clear Xa N;gi_wp2;exact⟨T5,(CE n L,L[j].1+1),rfl,rfl,by have:=Xv;show L[j].1+1<=n;omega,⟨j+1,Xe,by have:=ZjB X Y;push_cast;exact this⟩,Xh,Xw⟩
  | false=>
   have N:Jx W5:=by
    rcases Xa with⟨h,_⟩|⟨_,h⟩
    ·cases h
    ·exact h
   have Xe:=N;clear Xa N;gi_wp2;exact⟨T5,rfl,Xe⟩
 case done=>
  rintro D s W3 hD U Xd hK;obtain⟨V,Xm,⟨j,hj,Z⟩,hy,hv⟩:=Xd
  have Y:¬j<L.length:=λh=>by
   have:=O9 X (a:=(s.2:Int)) (by rw[Z];exact h);unfold XD at U;rw[V]at U;exact U this.2
  have Xk:j=L.length:=by have:=P5 L (s.2:Int);omega
  have HE:=(ξ Xk hj);have HK:=hK;have HD:=hD;clear V Xm Z hy hv U Xk hj hK hD Y;gi_wp2;refine⟨by simp,.inl ⟨_,_,rfl,run_takeDeferred HK,?_⟩⟩;refine⟨.tuple #[],ζh rfl _ _ _,⟨_,rfl⟩,.inl ⟨j,HE.1,hJ _ _ _ HE.2 ((DW W3 D _ (μ D)).mono (λk _ h=>by have:=HD;omega))⟩⟩
 case stop=>
  rintro D c W3 hD ⟨rfl,hx⟩ hK;have HE:=hx;have HK:=hK;have HD:=hD;clear hx hK hD;gi_wp2;refine⟨by simp,.inl ⟨_,_,rfl,run_takeDeferred HK,?_⟩⟩;refine⟨.tuple #[],ζh rfl _ _ _,⟨_,rfl⟩,.inr (Xi _ _ HE ((DW W3 D _ (μ D)).mono (λk _ h=>by have:=HD;omega)))⟩
end
section
attribute [local go_sem] Oper.semAt_some
theorem LO(q:Option Addr):Calls prog 135 #[.pointer q] w λe w'=>e=.returned (.func (.func 202) #[] #[pP w.heap.size])/\w'=w.alloc (.cells #[.pointer q] 137):=by
 go_in;go_wp2;go_ret
 simp_all
theorem AQ.touch'(ht:AQ w)(h:AB S w W)(hS:¬S 1):AQ W:=h.tab ht.lt hS ht
end
section
attribute [local go_sem] Oper.semAt_some
end
end Go.Proofs.YtcihfnpokdbfpaaGreatDoor
