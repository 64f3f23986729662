/- Part 2 of what QueuePlays leans on: my own lemmas, merged by shake.py. -/
import Derived.Test.YtggjoonlcjjgkaaGreatDoorQueuePlaysA
import Derived.Laws.OwnMore
namespace Go.Proofs.YtggjoonlcjjgkaaGreatDoor
open _root_.Go.Proofs.Tryz
set_option maxHeartbeats 3200000
set_option maxRecDepth 100000
open Go.RowKit Word
variable{a s z:Int}{l pt:List Nat}{xs:List Value}{E T base f g i j k m n p pg q size x:Nat}{S:Nat->Prop}{P Q:Prop}{b c d e u v:Value}{w w':World}
theorem AH(k : Q)(h : Hid Q → P := by intro hq;refine OB ?_;(try simp only[AF,ν,π]);(repeat(go_big_quiet_step (fail)));refine ζb ?_;exact hq.o) : P := h ⟨k⟩
theorem DW(k : Q)(h : Hid Q → P := by intro hq;refine NR ?_;(try simp only[AF,ν,π]);(repeat(go_big_quiet_step (fail)));refine ζb ?_;exact hq.o) : P := h ⟨k⟩
theorem GB(k : Q)(h : Hid Q → P := by intro hq;refine X0q ?_;(try simp only[AF,ν,π]);(repeat(go_big_quiet_step (fail)));refine ζb ?_;refine ζA ?_;exact hq.o) : P := h ⟨k⟩
theorem LZ(k : Q)(h : Hid Q → P := by intro hq;refine I2 ?_;(try simp only[AF,ν,π]);(repeat(go_big_quiet_step (fail)));refine ζb ?_;exact hq.o) : P := h ⟨k⟩
theorem M4(k : Q)(h : Hid Q → P := by intro hq;refine YAC ?_;(try simp only[AF,ν,π]);(repeat(go_big_quiet_step (fail)));refine ζb ?_;refine ζA ?_;exact hq.o) : P := h ⟨k⟩
theorem BG(k : Q)(h : Hid Q → P := by intro hq;refine EN ?_;(try simp only[AF,ν,π]);(repeat(go_big_quiet_step (fail)));refine ζb ?_;refine ζA ?_;exact hq.o) : P := h ⟨k⟩
theorem Vqh(k : Q)(h : Hid Q → P := by intro hq;(try simp only[AF,ν,π]);(repeat(go_big_quiet_step (fail)));refine ζb ?_;exact hq.o) : P := h ⟨k⟩
theorem G7(k : Q)(h : Hid Q → P := by intro hq;refine Xw6 ?_;(try simp only[AF,ν,π]);(repeat(go_big_quiet_step (fail)));refine ζb ?_;exact hq.o) : P := h ⟨k⟩
theorem Qy5(k : Q)(h : Hid Q → P := by intro hq;refine YqX ?_;(try simp only[AF,ν,π]);(repeat(go_big_quiet_step (fail)));refine ζb ?_;refine ζA ?_;exact hq.o) : P := h ⟨k⟩
theorem G9(k : Q)(h : Hid Q → P := by intro hq;refine NP ?_;(try simp only[AF,ν,π]);(repeat(go_big_quiet_step (fail)));refine ζb ?_;exact hq.o) : P := h ⟨k⟩
theorem LP(k : Q)(h : Hid Q → P := by intro hq;refine Vy6 ?_;(try simp only[AF,ν,π]);(repeat(go_big_quiet_step (fail)));refine ζb ?_;refine ζA ?_;exact hq.o) : P := h ⟨k⟩
abbrev Ob:=Nat×Nat
variable{L:List Ob}{o:Ob}
structure AP(n:Nat)(L:List Ob):Prop where
 pw:L.Pairwise (λo q=>o.1+o.2<=q.1)
 sz:∀o∈L,1<=o.2/\o.1+o.2<=n
theorem AP.nil(n:Nat):AP n []:=⟨List.Pairwise.nil,λ_ h=>by cases h⟩
theorem AP.at(h:AP n L)(hi:i<L.length)(hj:j<L.length)(hij:i<j):L[i].1+L[i].2<=L[j].1:=List.pairwise_iff_getElem.1 h.pw i j hi hj hij
theorem AP.disj(h:AP n L){q:Ob}(ho:o∈L)(hq:q∈L):o=q\/o.1+o.2<=q.1\/q.1+q.2<=o.1:=by
 obtain⟨i,hi,rfl⟩:=ζm ho;obtain⟨j,hj,rfl⟩:=ζm hq;rcases ζS i j with X|rfl|X
 ·exact .inr (.inl (h.at hi hj X))
 ·simp_all
 ·exact .inr (.inr (h.at hj hi X))
theorem AP.len:∀{L:List Ob},AP n L->L.length<=n:=by
 intro L h
 have X:∀(L:List Ob),L.Pairwise (λo q=>o.1+o.2<=q.1)->(∀o∈L,1<=o.2/\o.1+o.2<=n)->∀a,a<=n->(∀o∈L,a<=o.1)->a+L.length<=n:=by
  intro L
  induction L with
  | nil=>simp_all
  | cons o r ih=>
   intro hp hs a ha hl;obtain⟨h1,h2⟩:=ξd.1 hp;have ho:=hs o (ζh ..);have:=ih h2 (λq hq=>hs q (ζl _ hq)) (o.1+o.2) ho.2 (λq hq=>h1 q hq)
   grind
 have:=X L h.pw h.sz 0 (ζc _) (λ_ _=>ζc _);omega
def B8(n:Nat)(L:List Ob):List Bool:=(List.range n).map λi=>L.any λo=>o.1==i
def EB(n:Nat)(L:List Ob):List Bool:=(List.range n).map λi=>L.any λo=>o.1+o.2==i+1
theorem IN(n:Nat)(L:List Ob):(B8 n L).length=n:=by simp[B8]
theorem P9(n:Nat)(L:List Ob):(EB n L).length=n:=by simp[EB]
theorem JK(f:Nat->Bool)(n i:Nat):at_ ((List.range n).map f) i=(decide (i<n)&&f i):=by
 unfold at_
 grind
theorem JY(h:AP n L)(i:Nat):at_ (B8 n L) i=true↔∃o∈L,o.1=i:=by
 unfold B8;rw[JK];simp only[ζe,ζd,ξ6,ζ1];constructor
 ·simp_all
 ·rintro⟨o,ho,rfl⟩;have:=h.sz o ho;grind
theorem SO(h:AP n L)(i:Nat):at_ (EB n L) i=true↔∃o∈L,o.1+o.2=i+1:=by
 unfold EB;rw[JK];simp only[ζe,ζd,ξ6,ζ1];constructor
 ·simp_all
 ·rintro⟨o,ho,e⟩;have:=h.sz o ho;grind
theorem Zox(h:AP n L)(ho:o∈L):BU (EB n L) (o.1:Int)=o.1+o.2-1/\o.1+o.2-1<(EB n L).length:=by
 have hs:=h.sz o ho
 have:=VuI (l:=EB n L) (a:=(o.1:Int)) (k:=o.1+o.2-1) (λi hi hc=>by
  obtain⟨q,hq,e⟩:=(SO h i).1 hc.1
  rcases h.disj ho hq with rfl|hd|hd <;> omega) ((SO h _).2 ⟨o,ho,by omega⟩) Ω
 omega
def A9(L:List Ob)(a:Int):Nat:=L.findIdx λo=>decide (a<=o.1)
theorem OC(L:List Ob)(a:Int):A9 L a<=L.length:=List.findIdx_le_length
theorem LC(h:i<A9 L a)(hi:i<L.length):(L[i].1:Int)<a:=by
 have:=List.not_of_lt_findIdx h
 simp_all
theorem MG(h:A9 L a<L.length):a<=(L[A9 L a]'h).1:=by
 have:=List.findIdx_getElem (p:=λo:Ob=>decide (a<=(o.1:Int))) (w:=h);simp only[ζd]at this;exact this
theorem L8(hj:j<=L.length)(hn:∀i (hi:i<L.length),i<j->(L[i].1:Int)<a)(hy:∀h:j<L.length,a<=(L[j].1:Int)):A9 L a=j:=by
 rcases ζS (A9 L a) j with h|h|h
 ·have h1:=MG (L:=L) (a:=a) Ω
  grind
 ·exact h
 ·have X:j<L.length:=by grind [OC]
  have h1:=LC h X
  grind
theorem NF(h:AP n L)(hj:A9 L a<L.length):BU (B8 n L) a=(L[A9 L a]).1/\BU (B8 n L) a<(B8 n L).length:=by
 have hy:=MG hj;refine VuI (λi hi hc=>?_) ((JY h _).2 ⟨_,μ hj,rfl⟩) Ω;obtain⟨q,hq,e⟩:=(JY h i).1 hc.1;obtain⟨k,hk,rfl⟩:=ζm hq;rcases ζS k (A9 L a)with X|rfl|X
 ·have:=LC X hk;omega
 ·omega
 ·have:=h.at hj hk X;omega
theorem WQ(h:AP n L)(hj:¬A9 L a<L.length):BU (B8 n L) a=(B8 n L).length:=by
 grind [XoQ,JY,ζm,LC]
theorem X1z(h:AP n L)(hj:j<L.length):A9 L ((L[j].1:Int)+(L[j].2:Int))=j+1:=by
 refine L8 Ω (λi hi hij=>?_) (λh2=>?_)
 ·have hs:=h.sz _ (μ hj);rcases δ i j with h1|h1
  ·have:=h.at hi hj h1;omega
  grind
 ·have:=h.at hj h2 (ξM j);omega
def SE(a:Int)(o:Ob):Bool:=decide ((o.1:Int)<=a/\a<o.1+o.2)
def A1(L:List Ob)(a:Int):Nat:=L.findIdx (SE a)
theorem JtS(L:List Ob)(a:Int):A1 L a<=L.length:=List.findIdx_le_length
theorem IL(h:A1 L a<L.length):((L[A1 L a]'h).1:Int)<=a/\a<(L[A1 L a]'h).1+(L[A1 L a]'h).2:=by
 have:=List.findIdx_getElem (p:=SE a) (w:=h);simp only[SE,ζd]at this;exact this
theorem XH(h:i<A1 L a)(hi:i<L.length):¬((L[i].1:Int)<=a/\a<L[i].1+L[i].2):=by
 have:=List.not_of_lt_findIdx h;simpa[SE]using this
theorem ON(h:AP n L)(hj:j<L.length)(h1:(L[j].1:Int)<=a)(h2:a<L[j].1+L[j].2):A1 L a=j:=by
 rcases ζS (A1 L a) j with X|he|X
 ·have hy:=IL (L:=L) (a:=a) Ω;have:=h.at (i:=A1 L a) Ω hj X;omega
 ·exact he
 ·exact absurd ⟨h1,h2⟩ (XH X hj)
theorem O7(h:∀o∈L,¬((o.1:Int)<=a/\a<o.1+o.2)):A1 L a=L.length:=by
 rcases δ (A1 L a) L.length with h1|h1
 ·exact absurd (IL h1) (h _ (μ h1))
 grind [JtS]
theorem XA1(h:AP n L)(a:Int):(EP (B8 n L) (a+1) = -1/\∀o∈L,a<(o.1:Int))\/∃j,∃hj:j<L.length,EP (B8 n L) (a+1)=(L[j].1:Int)/\(L[j].1:Int)<=a/\∀i (hi:i<L.length),j<i->a<(L[i].1:Int):=by
 have hx:=OC L (a+1);rcases ζG (A9 L (a+1))with h0|h0
 ·left
  have Y:∀o∈L,a<(o.1:Int):=λo ho=>by
   obtain⟨k,hk,rfl⟩:=ζm ho;have hy:=MG (L:=L) (a:=a+1) Ω;rcases ζG k with rfl|J
   ·grind
   ·have:=h.at (i:=0) (j:=k) Ω hk J
    grind
  grind [Xaz,JY]
 ·right;obtain⟨j,hj⟩:∃j,A9 L (a+1)=j+1:=⟨A9 L (a+1)-1,by omega⟩;have X:j<L.length:=Ω
  have h1:=LC (L:=L) (a:=a+1) (i:=j) Ω X
  have Y:∀i (hi:i<L.length),j<i->a<(L[i].1:Int):=λi hi hij=>by
   have hy:=MG (L:=L) (a:=a+1) Ω;rcases δ (A9 L (a+1)) i with h2|h2
   ·have:=h.at (i:=A9 L (a+1)) Ω hi h2;omega
   grind
  refine⟨j,X,YBm (λi hij hc=>?_) ((JY h _).2 ⟨_,μ X,rfl⟩) Ω,by omega,Y⟩;obtain⟨q,hq,e⟩:=(JY h i).1 hc.1;obtain⟨k,hk,rfl⟩:=ζm hq;rcases ζS k j with Z|rfl|Z
  ·have:=h.at hk X Z;omega
  ·omega
  grind
def DO(L:List Ob)(i:Nat):Bool:=L.any λo=>decide (o.1<=i/\i<o.1+o.2)
theorem N8:DO L i=true↔∃o∈L,o.1<=i/\i<o.1+o.2:=by simp[DO]
theorem Q5g:DO L i=decide (A1 L (i:Int)<L.length):=by
 by_cases h:A1 L (i:Int)<L.length
 ·rw[ξ h];have:=IL h;exact N8.2 ⟨_,μ h,by omega,by omega⟩
 ·rw[ζ h];cases hb:DO L i with
  | false=>rfl
  | true=>
   obtain⟨o,ho,h1,h2⟩:=N8.1 hb;obtain⟨k,hk,rfl⟩:=ζm ho;exact absurd ⟨by omega,by omega⟩ (XH (L:=L) (a:=(i:Int)) (i:=k) Ω hk)
def J4(L:List Ob)(n:Nat)(f t:Int):Nat:=cnt (λi=>decide (f<=(i:Nat)/\((i:Nat):Int)<t)&&DO L i) n
def C4(o:Ob)(f t:Int):Int:=max 0 (min (o.1+o.2:Int) t-max (o.1:Int) f)
def AZ(L:List Ob)(f t:Int):Int:=(L.map λo=>C4 o f t).sum
theorem SS(a b n:Nat)(h1:a<=b)(h2:b<=n):cnt (λi=>decide (a<=i/\i<b)) n=b-a:=by
 induction n generalizing b with
 | zero=>rw[LG];omega
 | succ n ih=>
  rw[CS];rcases δ n b with h|h
  ·have e:cnt (λi=>decide (a<=i/\i<b)) n=cnt (λi=>decide (a<=i/\i<b-1)) n\/a=b:=by
    by_cases X:a=b
    ·exact .inr X
    ·exact .inl (CV (λi hi=>ξe.2 Ω))
   rcases e with e|e
   ·by_cases X:a=b
    ·subst X;rw[GZ (λi _=>ζ Ω),ζ Ω];simp
    ·rw[e,ih (b-1) Ω Ω,ξ Ω];simp;omega
   ·subst e;rw[GZ (λi _=>ζ Ω),ζ Ω];simp
  simp_all
theorem XFd(n:Nat)(f t:Int):J4 [] n f t=0:=GZ (λi _=>by simp[DO])
theorem X5c(ho:o.1+o.2<=n)(f t:Int):((cnt (λi=>decide (f<=(i:Nat)/\((i:Nat):Int)<t)&&decide (o.1<=i/\i<o.1+o.2)) n:Nat):Int)=C4 o f t:=by
 unfold C4;by_cases h:max (o.1:Int) f<min (o.1+o.2:Int) t
 ·have e:cnt (λi=>decide (f<=(i:Nat)/\((i:Nat):Int)<t)&&decide (o.1<=i/\i<o.1+o.2)) n=cnt (λi=>decide ((max (o.1:Int) f).toNat<=i/\i<(min (o.1+o.2:Int) t).toNat)) n:=
   CV (λi _=>by grind)
  rw[e,SS _ _ _ Ω Ω];omega
 grind [GZ,Bool.decide_and,ζ]
theorem RE:∀{L:List Ob},AP n L->∀(f t:Int),((J4 L n f t:Nat):Int)=AZ L f t:=by
 intro L
 induction L with
 | nil=>intro _ f t;rw[XFd];rfl
 | cons o r ih=>
  intro h f t;obtain⟨h1,h2⟩:=ξd.1 h.pw;have hr:AP n r:=⟨h2,λq hq=>h.sz q (ζl _ hq)⟩;have ho:=h.sz o (ζh ..)
  have hs:=LX (f:=λi=>decide (f<=(i:Nat)/\((i:Nat):Int)<t)&&decide (o.1<=i/\i<o.1+o.2)) (g:=λi=>decide (f<=(i:Nat)/\((i:Nat):Int)<t)&&DO r i) (λi=>by
   by_cases hc:o.1<=i/\i<o.1+o.2
   ·have:DO r i=false:=by
     cases hb:DO r i with
     | false=>rfl
     | true=>obtain⟨q,hq,h3,h4⟩:=N8.1 hb;grind
    simp_all
   grind) n
  have e:J4 (o :: r) n f t=cnt (λi=>(decide (f<=(i:Nat)/\((i:Nat):Int)<t)&&decide (o.1<=i/\i<o.1+o.2))||(decide (f<=(i:Nat)/\((i:Nat):Int)<t)&&DO r i)) n:=
   CV (λi _=>by rw[<-Bool.and_or_distrib_left];rfl)
  rw[e,hs,Int.natCast_add,X5c ho.2];have:=ih hr f t;unfold J4 at this;rw[this];simp[AZ]
theorem YSu(L M:List Ob)(f t:Int):AZ (L++M) f t=AZ L f t+AZ M f t:=by simp[AZ]
theorem XLs{f t:Int}(h:(o.1+o.2:Int)<=f\/t<=o.1):C4 o f t=0:=by unfold C4;omega
theorem Q3{f t:Int}(h:∀o∈L,(o.1+o.2:Int)<=f\/t<=o.1):AZ L f t=0:=by
 induction L with
 | nil=>rfl
 | cons o r ih=>
  have:=ih (λq hq=>h q (ζl _ hq));have h2:=XLs (h o (ζh ..));simp only[AZ,ξS,List.sum_cons]at this⊢;omega
theorem VD(hj:j<L.length)(f t:Int):AZ (L.take (j+1)) f t=AZ (L.take j) f t+C4 L[j] f t:=by
 rw[ζY hj,YSu];simp[AZ]
theorem TX(L:List Ob)(j:Nat)(f t:Int):AZ L f t=AZ (L.take j) f t+AZ (L.drop j) f t:=by
 rw[<-YSu,ξH]
theorem N9(h:o∈L.take j):∃i,∃hi:i<L.length,i<j/\L[i]=o:=by
 grind [ζm,ψm]
theorem JEg(h:o∈L.drop j):∃i,∃hi:i<L.length,j<=i/\L[i]=o:=by
 grind [ζm,List.length_drop]
theorem Vth(h:AP n L){f t:Int}:
  AZ (L.take (A9 L f)) f t=if A1 L f<L.length/\(L[A1 L f]?.getD (0,0)).1<f/\f<t then min ((L[A1 L f]?.getD (0,0)).1+(L[A1 L f]?.getD (0,0)).2:Int) t-f else 0:=by
 by_cases X:A1 L f<L.length
 ·have hy:=IL X;have hg:L[A1 L f]?.getD (0,0)=L[A1 L f]:=by rw[ω X];rfl
  rw[hg];by_cases hlt:(L[A1 L f].1:Int)<f
  ·have hn:A9 L f=A1 L f+1:=L8 Ω (λi hi Y=>by
    rcases δ i (A1 L f)with h1|h1
    ·have:=h.at hi X h1;omega
    ·have:i=A1 L f:=Ω
     subst this;omega) (λh2=>by have:=h.at X h2 (ξM _);omega)
   rw[hn,VD X,Q3 (λo ho=>by
    obtain⟨i,hi,Y,rfl⟩:=N9 ho
    have:=h.at hi X Y;left;omega)]
   by_cases hft:f<t
   ·unfold C4;omega
   ·unfold C4;omega
  ·rw[φ Ω];refine Q3 (λo ho=>?_);obtain⟨i,hi,Y,rfl⟩:=N9 ho;have h1:=LC Y hi;rcases ζS i (A1 L f)with h2|rfl|h2
   ·have:=h.at hi X h2;left;omega
   ·omega
   ·have:=h.at X hi h2;omega
 ·rw[φ Ω];refine Q3 (λo ho=>?_);obtain⟨i,hi,Y,rfl⟩:=N9 ho;have h1:=LC Y hi;have h2:=XH (L:=L) (a:=f) (i:=i) Ω hi;left;omega
theorem XC(h:AP n L){f t:Int}(hj:∀hl:j<L.length,t<=(L[j].1:Int)):AZ (L.drop j) f t=0:=by
 refine Q3 (λo ho=>?_);obtain⟨i,hi,hij,rfl⟩:=JEg ho;right;have:=hj Ω;rcases δ j i with h1|h1
 ·have:=h.at (i:=j) Ω hi h1;omega
 grind
theorem JAq(h:AP n L)(f t:Int):AZ L (max f 0) (min t n)=AZ L f t:=by
 unfold AZ;congr 1;refine ξL (λo ho=>?_);have:=h.sz o ho;unfold C4;omega
def sizes:List Ob->Nat
 | []=>0
 | o :: r=>o.2+sizes r
def EA:List Ob->Nat->Option Nat
 | [],_=>none
 | o :: r,k=>if k<o.2 then some (o.1+k)else EA r (k-o.2)
def IW(L:List Ob)(k:Int):Int:=if k<0 then 0 else ((EA L k.toNat).getD 0:Nat)
def WH(L:List Ob)(k:Int):Bool:=decide (0<=k)&&(EA L k.toNat).isSome
theorem Jkd:∀{k:Nat},EA L k=none↔sizes L<=k:=by
 induction L with
 | nil=>simp[EA,sizes]
 | cons o r ih=>
  intro k;unfold EA sizes
  grind
theorem FF(hj:j<L.length):sizes (L.take (j+1))=sizes (L.take j)+L[j].2:=by
 induction L generalizing j with
 | nil=>simp at hj
 | cons o r ih=>
  cases j with
  | zero=>simp[sizes]
  | succ j=>
   have:=ih (j:=j) (by simp_all);simp only[ξK,sizes,ψq]at this⊢;omega
theorem XEK(hj:j<L.length)(hi:i<L[j].2):EA L (sizes (L.take j)+i)=some (L[j].1+i):=by
 induction L generalizing j with
 | nil=>simp at hj
 | cons o r ih=>
  cases j with
  | zero=>
   have hi:i<o.2:=hi;simp only[List.take_zero,sizes,ξq,EA,ψp]
   simp_all
  | succ j=>
   have:=ih (j:=j) (by grind) (by simp_all);simp only[ξK,sizes,ψq,EA]
   grind
theorem RY(h:AP n L):AZ L 0 n=sizes L:=by
 have X:∀(L:List Ob),(∀o∈L,1<=o.2/\o.1+o.2<=n)->AZ L 0 n=sizes L:=by
  intro L
  induction L with
  | nil=>intro _;rfl
  | cons o r ih=>
   intro hs;have h1:=ih (λq hq=>hs q (ζl _ hq));have ho:=hs o (ζh ..);have h2:C4 o 0 n=o.2:=by unfold C4;omega
   simp only[AZ,ξS,List.sum_cons,sizes]at h1⊢;omega
 exact X L h.sz
theorem Yhz(h:AP n L)(hj:j<L.length)(hi:i<=L[j].2):AZ L 0 ((L[j].1:Int)+i)=sizes (L.take j)+i:=by
 rw[TX L (j+1),XC h (j:=j+1) (λhl=>by have:=h.at hj hl (ξM _);omega),VD hj]
 have hg:AP L[j].1 (L.take j):=⟨h.pw.sublist (List.take_sublist ..),λo ho=>by
  obtain⟨q,hq,X,rfl⟩:=N9 ho;have:=h.at hq hj X
  exact⟨(h.sz _ (μ hq)).1,this⟩⟩
 have e:AZ (L.take j) 0 ((L[j].1:Int)+i)=AZ (L.take j) 0 (L[j].1:Nat):=by
  unfold AZ;congr 1;refine ξL (λo ho=>?_);have:=hg.sz o ho;unfold C4;omega
 rw[e,RY hg];unfold C4;omega
theorem FW(h:AP n L):sizes L<=n:=by
 have h1:=RY h;have h2:=RE h 0 n;have h3:J4 L n 0 n<=n:=EJ _ _;omega
def DJ:List Ob->Ob->List Ob
 | [],o=>[o]
 | q :: r,o=>if o.1<q.1 then o :: q :: r else q :: DJ r o
theorem GF{x:Ob}:x∈DJ L o↔x=o\/x∈L:=by
 induction L with
 | nil=>simp[DJ]
 | cons q r ih=>
  unfold DJ
  grind
theorem YKx(L:List Ob)(o:Ob):(DJ L o).length=L.length+1:=by
 induction L with
 | nil=>rfl
 | cons q r ih=>unfold DJ;grind
theorem QX(h:AP n L)(h1:1<=o.2)(h2:o.1+o.2<=n)(hd:∀q∈L,o.1+o.2<=q.1\/q.1+q.2<=o.1):AP n (DJ L o):=by
 refine⟨?_,λx hx=>?_⟩
 ·have X:∀(L:List Ob),L.Pairwise (λo q=>o.1+o.2<=q.1)->(∀q∈L,1<=q.2)->(∀q∈L,o.1+o.2<=q.1\/q.1+q.2<=o.1)->(DJ L o).Pairwise (λo q=>o.1+o.2<=q.1):=by
   intro L
   induction L with
   | nil=>simp[DJ]
   | cons q r ih=>
    intro hp hs hd;obtain⟨hp1,Y⟩:=ξd.1 hp;have hq:=hd q (ζh ..);have hqs:=hs q (ζh ..);unfold DJ
    split
    ·rename_i hlt;refine ξd.2 ⟨λx hx=>?_,hp⟩
     grind
    ·rename_i hlt;refine ξd.2 ⟨λx hx=>?_,ih Y (λx hx=>hs x (ζl _ hx)) (λx hx=>hd x (ζl _ hx))⟩;rcases GF.1 hx with rfl|hx
     ·omega
     grind
  exact X L h.pw (λq hq=>(h.sz q hq).1) hd
 ·rcases GF.1 hx with rfl|hx
  ·omega
  ·exact h.sz x hx
theorem WO{a b:Bool}(h:a=true↔b=true):a=b:=ψc.2 h
theorem YH{l:List Bool}{x:Bool}(hk:k<l.length):at_ (l.set k x) i=if i=k then x else at_ l i:=Q4 l k i x hk
theorem Yfk(h:AP n L)(h1:1<=o.2)(h2:o.1+o.2<=n)(hd:∀q∈L,o.1+o.2<=q.1\/q.1+q.2<=o.1):B8 n (DJ L o)=(B8 n L).set o.1 true:=
 IJ (by grind [η,IN]) (λi _=>by
  rw[YH (by rw[IN];omega)];refine WO ?_;rw[JY (QX h h1 h2 hd)]
  split
  ·rename_i e;subst e;exact⟨λ_=>rfl,λ_=>⟨o,GF.2 (.inl rfl),rfl⟩⟩
  ·rename_i e;rw[JY h];constructor
   ·rintro⟨q,hq,rfl⟩;rcases GF.1 hq with rfl|hq
    ·omega
    grind
   ·rintro⟨q,hq,rfl⟩;exact⟨q,GF.2 (.inr hq),rfl⟩)
theorem Y48(h:AP n L)(h1:1<=o.2)(h2:o.1+o.2<=n)(hd:∀q∈L,o.1+o.2<=q.1\/q.1+q.2<=o.1):EB n (DJ L o)=(EB n L).set (o.1+o.2-1) true:=
 IJ (by grind [η,P9]) (λi _=>by
  rw[YH (by rw[P9];omega)];refine WO ?_;rw[SO (QX h h1 h2 hd)]
  split
  ·rename_i e;exact⟨λ_=>rfl,λ_=>⟨o,GF.2 (.inl rfl),by omega⟩⟩
  ·rename_i e;rw[SO h];constructor
   ·rintro⟨q,hq,e2⟩;rcases GF.1 hq with rfl|hq
    ·omega
    grind
   ·rintro⟨q,hq,e2⟩;exact⟨q,GF.2 (.inr hq),e2⟩)
def G6(L:List Ob)(s z:Int):Bool:=L.any λo=>decide ((o.1:Int)<s+z/\s<o.1+o.2)
theorem RI:G6 L s z=true↔∃o∈L,(o.1:Int)<s+z/\s<o.1+o.2:=by simp[G6]
theorem V3K(h:AP n L)(hz:1<=z):G6 L s z=(decide (A1 L s<L.length)||(decide (A9 L s<L.length)&&decide (((L[A9 L s]?.getD (0,0)).1:Int)<s+z))):=by
 refine WO ?_;rw[RI];simp only[ζ6,ζe,ζd];constructor
 ·rintro⟨o,ho,h1,h2⟩;by_cases hs:(o.1:Int)<=s
  ·grind [ζm,ON]
  ·right;obtain⟨j,hj,rfl⟩:=ζm ho
   have hn:A9 L s<=j:=by
    rcases δ j (A9 L s)with X|Y
    ·have:=LC X hj;omega
    ·exact Y
   refine⟨by omega,?_⟩;rw[ω Ω]
   show (L[A9 L s].1:Int)<s+z
   rcases δ (A9 L s) j with X|Y
   ·have:=h.at (i:=A9 L s) Ω hj X;omega
   grind
 ·rintro(hf|⟨hn,hl⟩)
  ·have:=IL hf
   grind
  ·rw[ω hn]at hl;have hl:(L[A9 L s].1:Int)<s+z:=hl;have hy:=MG hn;have:=(h.sz _ (μ hn)).1
   grind
def DA(L:List Ob)(n:Nat)(s z:Int):Int:=if z<1 then 15 else if s<0\/(n:Int)<=s\/(n:Int)-s<z then 11 else if G6 L s z then 7 else 0
def C2(L:List Ob)(n:Nat)(s z:Int):List Ob:=if DA L n s z=0 then DJ L (s.toNat,z.toNat)else L
theorem YLm(h:DA L n s z=0):1<=z/\0<=s/\s+z<=n/\G6 L s z=false:=by
 unfold DA at h
 grind
theorem XCZ(hs:0<=s)(hz:1<=z)(h:G6 L s z=false):∀q∈L,s.toNat+z.toNat<=q.1\/q.1+q.2<=s.toNat:=λq hq=>by
 by_cases hc:(q.1:Int)<s+z/\s<q.1+q.2
 ·have:=RI.2 ⟨q,hq,hc⟩;simp_all
 ·omega
theorem V9U(h:AP n L)(s z:Int):AP n (C2 L n s z):=by
 unfold C2
 split
 ·rename_i he;obtain⟨h1,h2,h3,h4⟩:=YLm he;exact QX h Ω Ω (XCZ h2 h1 h4)
 ·exact h
theorem V9f(n:Nat):B8 n []=List.replicate n false:=by unfold B8;exact IJ (by simp) (λi hi=>by rw[JK];simp[at_,ξc];split <;> rfl)
theorem Y5(n:Nat):EB n []=List.replicate n false:=by unfold EB;exact IJ (by simp) (λi hi=>by rw[JK];simp[at_,ξc];split <;> rfl)
def Rec(w:World)(q T:Nat)(xs:List Value):Prop:=w.ownsRow 0 T xs.length (.slice (some ⟨q,0,none⟩) 1 1) 1 xs
theorem Rec.cell(h:Rec w q T xs)(hj:xs[j]?=some u):w.cell? ⟨q,j,none⟩=some u:=BP h hj
theorem Rec.cc(h : Rec w q T xs)(j : Nat)(hj : xs[j]? = some u := by exact rfl) : w.cell? ⟨q,j,none⟩ = some u := h.cell hj
theorem Rec.free(h:Rec w q T xs)(j:Nat):w.frozen? ⟨q,j,none⟩=false:=FT h j
theorem Rec.lt(h:Rec w q T xs):q<w.heap.size:=(BE h rfl).2
theorem Rec.k2{Q:Nat}{a:Value}{l:List Value}(H:Rec w Q T (a::b::l)):w.cell? ⟨Q,0,none⟩=some a∧w.cell? ⟨Q,1,none⟩=some b∧Q<w.heap.size:=⟨H.cc 0,H.cc 1,H.lt⟩
theorem Rec.k3{Q:Nat}{a:Value}{l:List Value}(H:Rec w Q T (a::b::c::l)):w.cell? ⟨Q,0,none⟩=some a∧w.cell? ⟨Q,1,none⟩=some b∧w.cell? ⟨Q,2,none⟩=some c∧Q<w.heap.size:=⟨H.cc 0,H.cc 1,H.cc 2,H.lt⟩
theorem Rec.k5{Q:Nat}{a:Value}{l:List Value}(H:Rec w Q T (a::b::c::d::e::l)):w.cell? ⟨Q,0,none⟩=some a∧w.cell? ⟨Q,1,none⟩=some b∧w.cell? ⟨Q,2,none⟩=some c∧w.cell? ⟨Q,3,none⟩=some d∧w.cell? ⟨Q,4,none⟩=some e∧Q<w.heap.size:=⟨H.cc 0,H.cc 1,H.cc 2,H.cc 3,H.cc 4,H.lt⟩
theorem Rec.k7{Q:Nat}{a f g:Value}{l:List Value}(H:Rec w Q T (a::b::c::d::e::f::g::l)):w.cell? ⟨Q,0,none⟩=some a∧w.cell? ⟨Q,1,none⟩=some b∧w.cell? ⟨Q,2,none⟩=some c∧w.cell? ⟨Q,3,none⟩=some d∧w.cell? ⟨Q,4,none⟩=some e∧w.cell? ⟨Q,5,none⟩=some f∧w.cell? ⟨Q,6,none⟩=some g∧Q<w.heap.size:=⟨H.cc 0,H.cc 1,H.cc 2,H.cc 3,H.cc 4,H.cc 5,H.cc 6,H.lt⟩
theorem Rec.k8{Q:Nat}{a f g h:Value}{l:List Value}(H:Rec w Q T (a::b::c::d::e::f::g::h::l)):w.cell? ⟨Q,0,none⟩=some a∧w.cell? ⟨Q,1,none⟩=some b∧w.cell? ⟨Q,2,none⟩=some c∧w.cell? ⟨Q,3,none⟩=some d∧w.cell? ⟨Q,4,none⟩=some e∧w.cell? ⟨Q,5,none⟩=some f∧w.cell? ⟨Q,6,none⟩=some g∧w.cell? ⟨Q,7,none⟩=some h∧Q<w.heap.size:=⟨H.cc 0,H.cc 1,H.cc 2,H.cc 3,H.cc 4,H.cc 5,H.cc 6,H.cc 7,H.lt⟩
theorem Rec.new(w:World)(T:Nat)(xs:List Value):Rec (w.alloc (.cells xs.toArray T)) w.heap.size T xs:=by
 have:=World.ownsRow_lit (base:=0) (e:=T) (size:=xs.length) w xs.toArray 1 (ζc _) (by unfold maxLen;omega) (by simp);exact this
theorem Rec.set(h:Rec w q T xs)(j:Nat)(u:Value):Rec (w.setCell ⟨q,j,none⟩ u) q T (xs.set j u):=by
 have:=(World.ownsRow.stored h j u).1;unfold Rec;rw[η];exact this
theorem Rec.touch(h:Rec w q T xs)(t:AB S w w')(hS:¬S q):Rec w' q T xs:=BV h t (λg hg=>by cases hg;exact hS)
theorem Rec.gr(h:Rec w q T xs)(t:Gr w w'):Rec w' q T xs:=CM h t
theorem QF(h:w.ownsRow base E size v n xs)(hg:v.ownBlock=some g):∃cur,w.heap[g]?=some (.cells cur E (0,0)):=by
 obtain⟨_,⟨rfl,_⟩|⟨g',cap,cur,rfl,_,h3,_⟩⟩:=h
 ·cases hg
 ·cases hg;exact⟨cur,h3⟩
theorem AO{b1 b2 E1 E2 s1 s2:Nat}{v1 v2:Value}{n1 n2:Nat}{xs1 xs2:List Value}(h1:w.ownsRow b1 E1 s1 v1 n1 xs1)(h2:w.ownsRow b2 E2 s2 v2 n2 xs2)(he:E1≠E2){g1 g2:Nat}(hg1:v1.ownBlock=some g1)(hg2:v2.ownBlock=some g2):g1≠g2:=by
 intro e;subst e;obtain⟨c1,e1⟩:=QF h1 hg1;obtain⟨c2,e2⟩:=QF h2 hg2;rw[e1]at e2;simp only[Option.some.injEq,Obj.cells.injEq]at e2;exact he e2.2.1
theorem DF(h:w.ownsRow base E size v n xs):∃A c,v=.slice A n c/\n<=c/\c<=maxLen:=by
 obtain⟨_,⟨rfl,rfl⟩|⟨g',cap,cur,rfl,_,_,h4,h5,_⟩⟩:=h
 ·exact⟨none,0,rfl,ϑ _,ζc _⟩
 ·exact⟨_,_,rfl,h4,h5⟩
theorem AW(h:w.ownsRow base E size v n xs)(u:Value)(hq:∀g,v.ownBlock=some g->g≠q):(w.setCell ⟨q,j,none⟩ u).ownsRow base E size v n xs:=
 ZIq h (λg hg=>Below.heap_setCell _ _ _ _ (hq g hg))
theorem YU{c:Nat}{x:Value}(h:w.ownsRow base E 1 (.slice (some ⟨g,0,none⟩) (n+1) c) (n+1) (xs++[x])):w.ownsRow base E 1 (.slice (some ⟨g,0,none⟩) n c) n xs:=by
 obtain⟨h1,⟨h,_⟩|⟨g',cap,X,e1,e2,e3,e4,e5,e6,e7⟩⟩:=h
 ·cases h
 ·simp only[Value.slice.injEq,Option.some.injEq,Addr.mk.injEq,and_true,true_and]at e1;obtain⟨rfl,rfl⟩:=e1;have hl:xs.length=n:=by simp at h1;omega
  refine⟨by rw[hl,ξD],.inr ⟨g,c,X,rfl,e2,e3,by omega,e5,e6,?_⟩⟩;rw[ξD]at e7⊢;have:X.toList.take n=(X.toList.take (n+1)).take n:=by rw[List.take_take];congr 1;omega
  rw[this,e7,<-hl,List.take_left]
theorem VcC(z:Value)(n:Nat):(Builtin.zeroCells #[z] n).toList=List.replicate n z:=by
 unfold Builtin.zeroCells;apply ξo
 ·simp
 ·intro j h1 h2;simp[Nat.mod_one]
section
variable{P:Program}(w:World)
theorem JNG(t it ty e:TypeId)(k:IntKind)(base:Nat)(i:TypeInfo)(z:Value)(ht:P.underlying t=some (.slice e))(hit:P.underlying it=some (.int k))(hi:P.info? e=some i)(hz:i.zero=some z)
  (hsize:i.size=1) (hzs:z.cells=#[z]) (hz1:z.oneCell'=true)
  (v:Value) (n:Nat) (xs:List Value) (hown:w.ownsRow base e 1 v n xs) (m:Nat) (hm:0<m) (h63:n+m<=maxLen) (hbytes:(n+m)*i.bytes<=140737488355328) (hbase:base<=w.heap.size):
  ∃g cap w',(Builtin.append_ #[t,it] ty #[v,iI m]).run P w=.ok (.slice (some ⟨g,0,none⟩) (n+m) cap) w' ∧
   w'.ownsRow base e 1 (.slice (some ⟨g,0,none⟩) (n+m) cap) (n+m) (xs++List.replicate m z)/\w.grownBy w' v.ownBlock/\(v.ownBlock=some g\/g=w.heap.size)/\g<w'.heap.size:=by
 have hsmall:n+m<=9223372036854775807:=by simp only[maxLen]at h63;omega
 have hmb:(m:Int)*(i.bytes:Int)<=281474976710656:=by
  have h1:m*i.bytes<=(n+m)*i.bytes:=ζi _ Ω;have h2:((m*i.bytes:Nat):Int)=(m:Int)*(i.bytes:Int):=by push_cast;rfl
  omega
 have hw:IntKind.i64.wrap (m:Int)=(m:Int):=ζu _ Ω;have A:¬(m:Int)<0:=Ω
 have J:¬(281474976710656:Int)<(m:Int)*(i.bytes:Int):=Ω
 have E:∀(w:World),(asInt (iI (m:Int))).run P w=.ok (m:Int) w:=λ_=>by simp[asInt,asIntOf]
 have hmle:¬(m:Int)<=0:=Ω
 have Xc:max (m:Int) 0=(m:Int):=Ω
 have I:¬m=0:=Ω
 have hne:¬m*i.size=0:=by rw[hsize];omega
 have hl:xs.length=n:=by have:=hown.1;omega
 have Xa:(xs++List.replicate m z).length=n+m:=by simp[hl]
 have grown:∀(Y:Nat) (Xd:Option Nat),
   (w.drew.alloc (.cells ((xs++List.replicate m z).toArray++Builtin.zeroCells z.cells (grownCap w (n+m) Y e-(n+m))) e)).ownsRow base e 1
    (.slice (some ⟨w.heap.size,0,none⟩) (n+m) (grownCap w (n+m) Y e)) (n+m) (xs++List.replicate m z) ∧
   w.grownBy (w.drew.alloc (.cells ((xs++List.replicate m z).toArray++Builtin.zeroCells z.cells (grownCap w (n+m) Y e-(n+m))) e)) Xd:=by
  intro Y Xd;have Xf:=grownCap_ge w (n+m) Y e;have D:grownCap w (n+m) Y e<=maxLen:=grownCap_le_maxLen w (n+m) Y e h63;refine⟨⟨by omega,.inr ⟨w.heap.size,_,_,rfl,hbase,heap_alloc_new w.drew _,Xf,D,?_,?_⟩⟩,⟨rfl,rfl,rfl,by simp,λk hk _=>Below.heap_alloc w.drew _ k hk⟩⟩
  ·rw[Array.size_append,size_zeroCells,hzs,ζT,Xa];simp;omega
  ·rw[Array.toList_append,List.toList_toArray,ξD,<-Xa];exact List.take_left
 have O:Builtin.zeroCells z.cells m=(List.replicate m z).toArray:=by rw[hzs];apply Array.ext';rw[VcC]
 rcases hown.2 with⟨rfl,rfl⟩|⟨g,cap,V,rfl,Xg,hg,hnc,D,L,U⟩
 ·obtain rfl:xs=[]:=ζw hl;have N:¬(281474976710656<Builtin.nextslicecap m 0*i.bytes):=by rw[nextslicecap_zero hm];have:=hbytes;simp only[ξq]at this;omega
  have M:¬(9223372036854775807<(m:Int)):=Ω
  have Z:=grown 0 none;simp only[ξq,ζU]at Z⊢;refine⟨_,_,_,?_,Z.1,?_,.inr rfl,by simp⟩
  ·simp[Builtin.append_,run_underlying ht,run_underlying hit,sizeOf,typeInfo,zeroValue,hi,hz,hw,A,J,M,N,Question.forced,run_firstCells_none,newRow,grownCap,hsize,E,Xc,I];rw[O];simp
  ·exact Z.2
 ·by_cases X:n+m<=cap
  ·have Xb:n*i.size+0+(List.replicate m z).length<=V.size:=by rw[hsize,L];simp;omega
   have G:=run_storeCells_at P g (n*i.size) e (List.replicate m z) 0 V w hg (by simpa using Xb) (λu hu=>by rw[ξy hu];exact hz1);simp only[ξm,hsize,ξD]at G;refine⟨g,cap,w.setRow g (V.toList.take n++List.replicate m z++V.toList.drop (n+(List.replicate m z).length)).toArray,?_,⟨by omega,.inr ⟨g,cap,_,rfl,Xg,setRow_heap w g V _ e _ hg,X,D,?_,?_⟩⟩,⟨rfl,rfl,rfl,by simp,λk _ hk=>setRow_other w g k _ (λe=>hk (by simp[Value.ownBlock,e]))⟩,.inl rfl,?_⟩
   ·simp[Builtin.append_,run_underlying ht,run_underlying hit,sizeOf,typeInfo,zeroValue,hi,hz,hw,A,J,hsize,E,I,X,O,Addr.add_lit];simp at G;simp[G]
   ·rw[ξD]at L;simp;omega
   ·rw[ξD]at U L;rw[ξD,List.toList_toArray,U,ξr,<-ξr,<-Xa];exact List.take_left
   ·simp;exact(ζp.1 hg).1
  ·have N:¬(281474976710656<Builtin.nextslicecap (n+m) cap*i.bytes):=by have:=growslice_fits (show cap<n+m by omega) hbytes;omega
   have M:¬(9223372036854775807<((n:Int)+(m:Int))):=Ω
   have B:∀j u,xs[j]?=some u->w.cell? ((⟨g,0,none⟩:Addr).add j)=some u:=hown.cells (g:=g) rfl;have Xe:=run_firstCells_some (P:=P) w.drew i.size n ⟨g,0,none⟩ n cap xs (by rw[hsize,hl];omega) (by simpa using B);rw[hsize]at Xe;have Z:=grown cap (Value.ownBlock (.slice (some ⟨g,0,none⟩) n cap));refine⟨_,_,_,?_,Z.1,Z.2,.inr rfl,by simp⟩;simp[Builtin.append_,run_underlying ht,run_underlying hit,sizeOf,typeInfo,zeroValue,hi,hz,hw,A,J,M,N,Question.forced,Xe,newRow,grownCap,hsize,E,Xc,I,X,O];congr 2;apply Array.ext';simp
theorem Z2Z{o:Oper}{a:Act}{K:Act->World->Prop}{Q:Exit->Act->World->Prop}(s x:Operand)(t it:TypeId)
  (ho:o.op=.call {callee:=.builtin .append,args:=#[s,x],argTypes:=#[t,it]}) (e:TypeId) (k:IntKind) (base:Nat) (i:TypeInfo) (z:Value) (ht:P.underlying t=some (.slice e)) (hit:P.underlying it=some (.int k)) (hi:P.info? e=some i) (hz:i.zero=some z)
  (hsize:i.size=1) (hzs:z.cells=#[z]) (hz1:z.oneCell'=true)
  (v:Value) (n:Nat) (xs:List Value) (hs:a.eval s=v) (hown:w.ownsRow base e 1 v n xs) (m:Nat) (hx:a.eval x=iI m) (hm:0<m) (h63:n+m<=maxLen) (hbytes:(n+m)*i.bytes<=140737488355328) (hbase:base<=w.heap.size)
  (h:∀g cap w',w'.ownsRow base e 1 (.slice (some ⟨g,0,none⟩) (n+m) cap) (n+m) (xs++List.replicate m z)->w.grownBy w' v.ownBlock->(v.ownBlock=some g\/g=w.heap.size)->g<w'.heap.size->K (a.put o.dst (.slice (some ⟨g,0,none⟩) (n+m) cap)) w'):o.wp P a w K Q:=by
 obtain⟨g,cap,w',hr,h2,h3,h4,h5⟩:=JNG (P:=P) w t it o.type e k base i z ht hit hi hz hsize hzs hz1 v n xs hown m hm h63 hbytes hbase;unfold Oper.wp execOp;simp only[ho,resolve,invoke,builtin,Sem.run_bind,Sem.run_pure,Result.andThen_ok,List.map_toArray,ξS,List.map_nil,hs,hx,hr];exact h g cap w' h2 h3 h4 h5
theorem ZfD{ops:Array Oper}{rest:List Oper}{o:Oper}{a:Act}{Q:Exit->Act->World->Prop}(hgd:o.guard=none)(s x:Operand)(t it:TypeId)
  (ho:o.op=.call {callee:=.builtin .append,args:=#[s,x],argTypes:=#[t,it]}) (e:TypeId) (k:IntKind) (base:Nat) (i:TypeInfo) (z:Value) (ht:P.underlying t=some (.slice e)) (hit:P.underlying it=some (.int k)) (hi:P.info? e=some i) (hz:i.zero=some z)
  (hsize:i.size=1) (hzs:z.cells=#[z]) (hz1:z.oneCell'=true)
  (v:Value) (n:Nat) (xs:List Value) (hs:a.eval s=v) (hown:w.ownsRow base e 1 v n xs) (m:Nat) (hx:a.eval x=iI m) (hm:0<m) (h63:n+m<=maxLen) (hbytes:(n+m)*i.bytes<=140737488355328) (hbase:base<=w.heap.size)
  (h:∀g cap w',w'.ownsRow base e 1 (.slice (some ⟨g,0,none⟩) (n+m) cap) (n+m) (xs++List.replicate m z)->w.grownBy w' v.ownBlock->(v.ownBlock=some g\/g=w.heap.size)->g<w'.heap.size->wpList P ops Q rest (a.put o.dst (.slice (some ⟨g,0,none⟩) (n+m) cap)) w'):wpList P ops Q (o :: rest) a w:=
 wpList_plain hgd λ_ hK=>Z2Z w s x t it ho e k base i z ht hit hi hz hsize hzs hz1 v n xs hs hown m hx hm h63 hbytes hbase λg cap w' h2 h3 h4 h5=>hK _ _ (h g cap w' h2 h3 h4 h5)
theorem YNv(t e:TypeId)(base:Nat)(i:TypeInfo)(z:Value)(ht:P.underlying t=some (.slice e))(hi:P.info? e=some i)(hz:i.zero=some z)
  (hzs:z.cells=#[z]) (hz1:z.oneCell'=true) {cap N:Nat}  (hown:w.ownsRow base e 1 (.slice (some ⟨g,0,none⟩) N cap) N xs) (o n c:Nat) (hn:0<n) (hon:o+n<=N):
  ∃w',(∀ty,(Builtin.clear_ #[t] ty #[.slice (some ⟨g,o,none⟩) n c]).run P w=.ok (.tuple #[]) w')/\w'.ownsRow base e 1 (.slice (some ⟨g,0,none⟩) N cap) N (xs.take o++List.replicate n z++xs.drop (o+n))/\w.grownBy w' (some g):=by
 have J:Builtin.zeroCells z.cells n=(List.replicate n z).toArray:=by rw[hzs];apply Array.ext';rw[VcC]
 obtain⟨hl,⟨h',_⟩|⟨g',cap',Y,h',hb,hg,M,O,U,X⟩⟩:=hown
 ·simp at h'
 ·simp only[Value.slice.injEq,Option.some.injEq,Addr.mk.injEq,and_true,true_and]at h';obtain⟨rfl,rfl⟩:=h';rw[ξD]at hl U X;have Z:=run_storeCells_at P g o e (List.replicate n z) 0 Y w hg (by simp;omega) (λu hu=>by rw[ξy hu];exact hz1);simp only[ξm,ζI]at Z;have V:n≠0:=Ω
  have hlen:xs.length=N:=hl;refine⟨_,λty=>?_,⟨by simp;omega,.inr ⟨g,cap,(Y.toList.take o++List.replicate n z++Y.toList.drop (o+n)).toArray,rfl,hb,setRow_heap w g Y _ e _ hg,M,O,by simp;omega,?_⟩⟩,⟨rfl,rfl,rfl,by simp,λk _ hk=>setRow_other w g k _ (λe=>hk (by simp[e]))⟩⟩
  ·simp[Builtin.clear_,run_underlying ht,zeroValue,typeInfo,hi,hz,J,V];simp at Z;simp[Z]
  ·rw[ξD,List.toList_toArray,<-X];apply List.ext_getElem?;intro j;rw[ξQ];by_cases hj:j<N
   ·rw[θ hj];by_cases h1:j<o
    ·rw[ξr,ξr,ζQ (by simp;omega),ζQ (by simp;omega),ξQ,ξQ,θ h1,θ h1,ξQ,θ hj]
    ·by_cases h2:j<o+n
     ·rw[ξr,ξr,ζV (by simp;omega),ζQ (by simp;omega),ζV (by simp;omega),ζQ (by simp;omega)];congr 1;simp;omega
     ·rw[ζV (by simp;omega),ζV (by simp;omega),List.getElem?_drop,List.getElem?_drop,ξQ,θ (by simp;omega)];congr 1;simp;omega
   ·rw[φ hj,ζJ (by simp;omega)]
end
structure Pl where
 pg:Nat
 rm:Nat
 tk:List Bool
 bk:List Nat
 wd:List Nat
def Pl.used(p:Pl):Nat:=cnt (at_ p.tk) p.tk.length
structure FE(p:Pl):Prop where
 pg:BM p.pg=true
 pg2:p.pg<=256
 rm:1<=p.rm/\p.rm<=4096
 wl:p.wd.length=p.tk.length*p.pg
 w64:∀x∈p.wd,x<18446744073709551616
 nd:p.bk.Nodup
 bl:∀f∈p.bk,f<p.tk.length/\at_ p.tk f=false
 us:p.used+p.bk.length=p.tk.length
 le:p.tk.length<=p.rm
def CO(l:List Nat):List Value:=l.map λx=>uU (x:Nat)
def DV(l:List Nat):List Value:=l.map λx=>iI (x:Nat)
def YL(w:World)(S:Nat->Prop)(q:Nat)(p:Pl):Prop:=
 ∃vw vt vb hi ts,Rec w q 185 [vw,vt,vb,iI p.rm,iI p.pg,iI p.used,iI hi,iI ts] ∧
  w.ownsRow 0 22 1 vw p.wd.length (CO p.wd)/\w.ownsRow 0 4 1 vt p.tk.length (p.tk.map Value.bool)/\w.ownsRow 0 3 1 vb p.bk.length (DV p.bk) ∧
  (∀g,vw.ownBlock=some g->S g)/\(∀g,vt.ownBlock=some g->S g)/\(∀g,vb.ownBlock=some g->S g)
def plus(S:Nat->Prop)(w:World)(k:Nat):Prop:=S k\/w.heap.size<=k
structure CI(w:World)(S:Nat->Prop)(q:Nat)(p:Pl):Prop where
 ok:FE p
 sq:S q
 row:YL w S q p
theorem CI.touch{T:Nat->Prop}{p:Pl}(h:CI w S q p)(t:AB T w w')(hS:∀k,S k->k<w.heap.size->¬T k):CI w' S q p:=by
 obtain⟨h1,h2,vw,vt,vb,hi,ts,hr,o1,o2,o3,s1,s2,s3⟩:=h;exact⟨h1,h2,vw,vt,vb,hi,ts,hr.touch t (hS _ h2 hr.lt),BV o1 t (λg hg=>hS g (s1 g hg) (BE o1 hg).2),BV o2 t (λg hg=>hS g (s2 g hg) (BE o2 hg).2),BV o3 t (λg hg=>hS g (s3 g hg) (BE o3 hg).2),s1,s2,s3⟩
theorem CI.gr{p:Pl}(h:CI w S q p)(t:Gr w w'):CI w' S q p:=h.touch (t.touch (λ_=>False)) (λ_ _ _ h=>h)
theorem ZpD(h:i<l.length):(CO l)[i]?=some (uU (l[i]:Nat)):=by simp[CO,h]
theorem XS1(h:i<l.length):(DV l)[i]?=some (iI (l[i]:Nat)):=by simp[DV,h]
theorem WV{l:List Bool}(h:i<l.length):(l.map Value.bool)[i]?=some (.bool (at_ l i)):=by simp[at_,h]
section
variable{p:Pl}
theorem SX(hP:CI w S q p):cQ 165 #[pP q] w (iI p.pg):=by
 obtain⟨vw,vt,vb,hi,ts,hr,-⟩:=hP.row;have c4:=hr.cc 4;clear hr hP;go_enter func165,ntmps165;go_wp2;go_ret;exact⟨rfl,rfl⟩
def DY(p:Pl)(f:Int):Int:=if decide (0<=f)&&at_ p.tk f.toNat then 0 else 6
theorem NU(hP:CI w S q p)(f:Int):cQ 212 #[pP q,iI f] w (iI (DY p f)):=by
 obtain⟨vw,vt,vb,hi,ts,hr,-,ot,-⟩:=hP.row;have c1:=hr.cc 1;obtain⟨A,c,rfl,hc1,X⟩:=DF ot;unfold maxLen at X;have hlr:=hP.ok.le;have hrm:=hP.ok.rm.2;by_cases h0:f<0
 ·have E:DY p f=6:=by unfold DY;rw[ζ Ω];rfl
  rw[E];have d0:decide (f<0)=true:=ξ h0;clear hr hP ot E;go_enter func212,ntmps212;go_wp2;go_ret;exact⟨rfl,rfl⟩
 ·obtain⟨j,rfl⟩:∃j:Nat,f=j:=⟨f.toNat,by omega⟩;have d0:decide ((j:Int)<0)=false:=ζ h0;by_cases h1:p.tk.length<=j
  ·have E:DY p j=6:=by unfold DY;rw[υ,PQ h1,ψx];rfl
   rw[E];have d1:decide (p.tk.length<=j)=true:=ξ h1;clear hr hP ot E;go_enter func212,ntmps212;go_wp2;go_ret;exact⟨rfl,rfl⟩
  ·have d1:decide (p.tk.length<=j)=false:=ζ h1;obtain⟨g,c',e1,-,-,-,-⟩:=ET ot Ω;simp only[Value.slice.injEq,true_and]at e1;obtain⟨rfl,rfl⟩:=e1;have k:=BP ot (WV (i:=j) Ω);have hj:(j:Int)<(p.tk.length:Int):=Ω
   cases hb:at_ p.tk j with
   | true=>
    have E:DY p j=0:=by unfold DY;rw[υ,hb,ξ Ω];rfl
    rw[E];rw[hb]at k;clear hr hP ot E hb;go_enter func212,ntmps212;go_wp2;go_ret;exact⟨rfl,rfl⟩
   | false=>
    have E:DY p j=6:=by unfold DY;rw[υ,hb,ψx];rfl
    rw[E];rw[hb]at k;clear hr hP ot E hb;go_enter func212,ntmps212;go_wp2;go_ret;exact⟨rfl,rfl⟩
theorem QLE(hP:CI w S q p)(hf:f<p.tk.length):f*p.pg+p.pg<=p.wd.length/\p.wd.length<=1048576:=by
 have h1:=hP.ok.wl;have h2:=hP.ok.le;have h3:=hP.ok.rm.2;have h4:=hP.ok.pg2;constructor
 ·rw[h1,<-ξk];exact ζi _ hf
 ·rw[h1];exact γ (ψv (γ h2 h3) h4) (by decide)
theorem XlR(hP:CI w S q p)(hf:f<p.tk.length):∃g c hi ts vt vb,Rec w q 185 [.slice (some ⟨g,0,none⟩) p.wd.length c,vt,vb,iI p.rm,iI p.pg,iI p.used,iI hi,iI ts] ∧
  w.ownsRow 0 22 1 (.slice (some ⟨g,0,none⟩) p.wd.length c) p.wd.length (CO p.wd)/\w.ownsRow 0 4 1 vt p.tk.length (p.tk.map Value.bool)/\w.ownsRow 0 3 1 vb p.bk.length (DV p.bk) ∧
  S g/\(∀g,vt.ownBlock=some g->S g)/\(∀g,vb.ownBlock=some g->S g)/\p.wd.length<=c/\c<=9223372036854775807:=by
 obtain⟨h1,h2,vw,vt,vb,hi,ts,hr,o1,o2,o3,s1,s2,s3⟩:=hP;have hpg:=DI h1.pg
 have X:p.wd.length≠0:=by
  rw[h1.wl];have:1<=p.tk.length*p.pg:=Nat.mul_pos Ω Ω;omega
 obtain⟨g,c,rfl,-,h3,h4,-⟩:=ET o1 X;unfold maxLen at h4;exact⟨g,c,hi,ts,vt,vb,hr,o1,o2,o3,s1 g rfl,s2,s3,h3,by omega⟩
theorem ZS{c:Nat}{vt vb v3 v5 v6 v7:Value}(hr:Rec w q 185 [.slice (some ⟨g,0,none⟩) n c,vt,vb,v3,iI pg,v5,v6,v7])(hc:n<=c)(hc2:c<=9223372036854775807)
   (hp:1<=pg) (h1:f*pg+pg<=n) (h2:n<=1048576):cQ 225 #[pP q,iI f] w (.slice (some ⟨g,f*pg,none⟩) pg pg):=by
 have c0:=hr.cc 0;have c4:=hr.cc 4;obtain⟨t,ht⟩:∃t,t=f*pg:=⟨_,rfl⟩;rw[<-ht]at h1⊢;have X:(f:Int)*(pg:Int)=(t:Int):=by rw[ht];push_cast;rfl
 have hw:IntKind.i64.wrap ((f:Int)*(pg:Int))=(t:Int):=by rw[X];exact ζu _ Ω
 have b1:(t:Int)+(pg:Int)<=(c:Int):=Ω
 have n0:¬pg=0:=Ω
 have n1:¬t+pg=t:=Ω
 clear hr ht;go_enter func225,ntmps225;go_wp2;go_ret;refine⟨?_,rfl⟩
 show Ending.returned (.slice (some ⟨g,t,none⟩) (t+pg-t) (t+pg-t))=_
 rw[ξz]
def C5(p:Pl)(f a:Int):Int:=if DY p f=0 then (if 0<=a/\a<p.pg then 0 else 11)else 6
theorem ZNg{p:Pl}{f:Int}(h:DY p f=0):∃j:Nat,f=j/\j<p.tk.length/\at_ p.tk j=true:=by
 unfold DY at h;cases hb:(decide (0<=f)&&at_ p.tk f.toNat)with
 | false=>rw[hb]at h;cases h
 | true=>
  simp at hb;exact⟨f.toNat,by omega,FY hb.2,hb.2⟩
theorem VZN(p:Pl)(f:Int):DY p f=0\/DY p f=6:=by unfold DY;split <;> simp
def YvI(w:World)(S:Nat->Prop)(q:Nat)(p:Pl)(f a:Int)(e:Ending)(w':World):Prop:=w=w' ∧
 ((C5 p f a≠0/\e=.returned (.tuple #[.pointer none,iI (C5 p f a)])) ∨
  (C5 p f a=0/\∃g:Nat,S g/\e=.returned (.tuple #[.pointer (some ⟨g,f.toNat*p.pg+a.toNat,none⟩),iI 0])/\w.cell? ⟨g,f.toNat*p.pg+a.toNat,none⟩=some (uU (p.wd.getD (f.toNat*p.pg+a.toNat) 0:Nat))/\w.frozen? ⟨g,f.toNat*p.pg+a.toNat,none⟩=false ∧
   ∀x:Nat,x<18446744073709551616->CI (w.setCell ⟨g,f.toNat*p.pg+a.toNat,none⟩ (.int .u64 x)) S q {p with wd:=p.wd.set (f.toNat*p.pg+a.toNat) x}))
theorem YEA(l:List Nat)(i x:Nat):(CO l).set i (uU (x:Nat))=CO (l.set i x):=by unfold CO;rw[ξX]
theorem Z7{p:Pl}(h:FE p)(i x:Nat)(hx:x<18446744073709551616):FE {p with wd:=p.wd.set i x}:=
 ⟨h.pg,h.pg2,h.rm,by simp[h.wl],λy hy=>by rcases ζP hy with h1|h1;exact h.w64 y h1;exact h1▸hx,h.nd,h.bl,h.us,h.le⟩
theorem QU(hP:CI w S q p)(f a:Int):Calls prog 228 #[pP q,iI f,iI a] w (YvI w S q p f a):=by
 have HP:=ι hP;rcases VZN p f with hc|hc
 ·obtain⟨j,rfl,hj,hat⟩:=ZNg hc;obtain⟨g,c,hi,ts,vt,vb,hr,o1,o2,o3,sg,s2,s3,O,L⟩:=XlR hP hj;obtain⟨D,I⟩:=QLE hP hj;have c4:=hr.cc 4;have hpg:=DI hP.ok.pg;have HR:=ι hr;have HC:=ι hc;have X:=ι o1;have HS:=ι (ψ sg (ψ s2 s3));have J:=ι o2;have V:=ι o3;have hp2:=hP.ok.pg2;clear hr o1 o2 o3 sg s2 s3 hP;by_cases N:a<0
  ·have E:C5 p j a=11:=by unfold C5;rw[θ hc,φ Ω]
   have HE:=ι E;have d0:decide (a<0)=true:=ξ N;clear hc E;go_enter func228,ntmps228;go_wp2_with(go_at_call 212;refine(NU HP.o j).mono ?_;rintro e w1 ⟨rfl,rfl⟩;rw[HC.o]);go_ret2;exact⟨rfl,.inl ⟨by rw[HE.o];decide,by rw[HE.o];rfl⟩⟩
  ·obtain⟨b,rfl⟩:∃b:Nat,a=b:=⟨a.toNat,by omega⟩;have d0:decide ((b:Int)<0)=false:=ζ N;by_cases U:p.pg<=b
   ·have E:C5 p j b=11:=by unfold C5;rw[θ hc,φ Ω]
    have HE:=ι E;have d1:decide (p.pg<=b)=true:=ξ U;clear hc E;go_enter func228,ntmps228;go_wp2_with(go_at_call 212;refine(NU HP.o j).mono ?_;rintro e w1 ⟨rfl,rfl⟩;rw[HC.o]);go_ret2;exact⟨rfl,.inl ⟨by rw[HE.o];decide,by rw[HE.o];rfl⟩⟩
   ·have E:C5 p j b=0:=by unfold C5;rw[θ hc,θ Ω]
    have HE:=ι E;have d1:decide (p.pg<=b)=false:=ζ U;have hlt:(b:Int)<(p.pg:Int):=Ω
    clear hc E;go_enter func228,ntmps228
    go_wp2_with(first
     | (go_at_call 212;refine(NU HP.o j).mono ?_;rintro e w1 ⟨rfl,rfl⟩;rw[HC.o])
     | (go_at_call 225;refine(ZS HR.o O L Ω D I).mono ?_;rintro e w1 ⟨rfl,rfl⟩))
    go_ret2;obtain⟨i,M⟩:∃i,i=j*p.pg+b:=⟨_,rfl⟩;have Z:i<p.wd.length:=Ω
    have k:=BP X.o (ZpD Z);refine⟨rfl,.inr ⟨HE.o,g,HS.o.1,by rw[υ,υ];rfl,?_,FT X.o _,λx hx=>?_⟩⟩
    ·rw[υ,υ,<-M,k,β,ω Z];rfl
    ·rw[υ,υ,<-M];have Y:=(World.ownsRow.stored X.o i (uU (x:Nat))).1;rw[YEA]at Y;refine⟨Z7 HP.o.ok i x hx,HP.o.sq,_,vt,vb,hi,ts,AW HR.o _ (λg' hg'=>?_),by simpa using Y,AW J.o _ (λg' hg'=>?_),AW V.o _ (λg' hg'=>?_),λg' hg'=>by cases hg';exact HS.o.1,HS.o.2.1,HS.o.2.2⟩
     ·exact AO HR.o X.o (by decide) hg' rfl
     ·exact AO J.o X.o (by decide) hg' rfl
     ·exact AO V.o X.o (by decide) hg' rfl
 ·have E:C5 p f a=6:=by unfold C5;rw[φ Ω]
  have HE:=ι E;have HC:=ι hc;clear hP hc E;go_enter func228,ntmps228;go_wp2_with(go_at_call 212;refine(NU HP.o f).mono ?_;rintro e w1 ⟨rfl,rfl⟩;rw[HC.o]);go_ret2;exact⟨rfl,.inl ⟨by rw[HE.o];decide,by rw[HE.o];rfl⟩⟩
def KD(p:Pl)(f a:Int):Nat:=if C5 p f a=0 then p.wd.getD (f.toNat*p.pg+a.toNat) 0 else 0
def KV(p:Pl)(f a:Int)(x:Nat):Pl:=if C5 p f a=0 then {p with wd:=p.wd.set (f.toNat*p.pg+a.toNat) x}else p
theorem Xn2(hP:CI w S q p)(f a:Int):cQ 218 #[pP q,iI f,iI a] w (.tuple #[uU (KD p f a:Nat),iI (C5 p f a)]):=by
 have HP:=ι hP;clear hP;by_cases hc:C5 p f a=0
 ·have HC:=ι hc;have HV:Hid (KD p f a=p.wd.getD (f.toNat*p.pg+a.toNat) 0):=⟨by unfold KD;rw[θ hc]⟩;clear hc;go_enter func218,ntmps218;go_wp2_with(go_at_call 228;refine(QU HP.o f a).mono ?_;rintro e w1 ⟨rfl,⟨h,-⟩|⟨-,g,-,rfl,k,-,-⟩⟩;(exact absurd HC.o h));go_ret2;exact⟨BL (by rw[HV.o,β];rfl) (BN HC.o.symm),rfl⟩
 ·have HC:=ι hc;obtain⟨c,hce⟩:∃c,c=C5 p f a:=⟨_,rfl⟩;have hc0:(c !=0)=true:=by rw[hce];simpa using hc
  have X:=ι hce.symm;have HV:Hid (KD p f a=0):=⟨by unfold KD;rw[φ hc]⟩;clear hc hce;go_enter func218,ntmps218;go_wp2_with(go_at_call 228;refine(QU HP.o f a).mono ?_;rintro e w1 ⟨rfl,⟨-,rfl⟩|⟨h,-⟩⟩;rotate_left;(exact absurd h HC.o);rw[X.o]);go_ret2;exact⟨BL (by rw[HV.o];rfl) (BN X.o.symm),rfl⟩
def JmU(w:World)(S:Nat->Prop)(q:Nat)(p:Pl)(f a:Int)(x:Nat)(e:Ending)(w':World):Prop:=e=.returned (iI (C5 p f a))/\AB S w w'/\CI w' S q (KV p f a x)
theorem YBJ(hP:CI w S q p)(f a:Int)(x:Nat)(hx:x<18446744073709551616):Calls prog 204 #[pP q,iI f,iI a,uU x] w (JmU w S q p f a x):=by
 have HP:=ι hP;clear hP;by_cases hc:C5 p f a=0
 ·have HC:=ι hc;have HV:Hid (KV p f a x={p with wd:=p.wd.set (f.toNat*p.pg+a.toNat) x}):=⟨by unfold KV;rw[θ hc]⟩;clear hc;go_enter func204,ntmps204;go_wp2_with(go_at_call 228;refine(QU HP.o f a).mono ?_;rintro e w1 ⟨rfl,⟨h,-⟩|⟨-,g,sg,rfl,k,kf,hs⟩⟩;(exact absurd HC.o h);have X:=ι (ψ sg hs);clear sg hs);go_ret;exact⟨AM HC.o.symm,(AB.refl S w).setCell (λ_=>X.o.1) _,by rw[HV.o];exact X.o.2 x hx⟩
 ·have HC:=ι hc;obtain⟨c,hce⟩:∃c,c=C5 p f a:=⟨_,rfl⟩;have hc0:(c==0)=false:=by rw[hce];simpa using hc
  have Y:=ι hce.symm;have HV:Hid (KV p f a x=p):=⟨by unfold KV;rw[φ hc]⟩;clear hc hce;go_enter func204,ntmps204;go_wp2_with(go_at_call 228;refine(QU HP.o f a).mono ?_;rintro e w1 ⟨rfl,⟨-,rfl⟩|⟨h,-⟩⟩;rotate_left;(exact absurd h HC.o);rw[Y.o]);go_ret;exact⟨AM Y.o.symm,AB.refl S w,by rw[HV.o];exact HP.o⟩
end
def E8(n:Int):Bool:=decide (1<=n)&&decide (n<=4096)
def EI(n:Int):Bool:=BM n&&decide (n<=256)
def Pl.none(pg rm:Nat):Pl:=⟨pg,rm,[],[],[]⟩
theorem Xgr{rm:Nat}(h1:E8 rm=true)(h2:EI pg=true):FE (Pl.none pg rm):=by
 unfold E8 at h1;unfold EI at h2;simp at h1 h2;exact⟨h2.1,by show pg<=256;omega,by show 1<=rm/\rm<=4096;omega,by simp[Pl.none],λx h=>(by cases h),ξN,λf h=>(by cases h),rfl,ζc _⟩
def VuW(w:World)(n k:Int)(e:Ending)(w':World):Prop:=
 ((E8 n&&EI k)=false/\e=.returned (.tuple #[.pointer none,iI 5])/\w=w') ∨
 ((E8 n&&EI k)=true/\e=.returned (.tuple #[pP w.heap.size,iI 0])/\Gr w w'/\CI w' (λb=>w.heap.size<=b) w.heap.size (Pl.none k.toNat n.toNat))
theorem XXu(n k:Int)(hk:k<=9223372036854775807)(w:World):Calls prog 76 #[iI n,iI k] w (VuW w n k):=by
 have X:((E8 n&&EI k)=false/\(decide (n<1)=true\/(decide (n<1)=false/\decide (4096<n)=true)\/(decide (n<1)=false/\decide (4096<n)=false/\CR k=false)\/(decide (n<1)=false/\decide (4096<n)=false/\CR k=true/\decide (256<k)=true))) ∨
   ((E8 n&&EI k)=true/\decide (n<1)=false/\decide (4096<n)=false/\CR k=true/\decide (256<k)=false):=by
  have hb:=MJ k;unfold E8 EI;rw[hb];by_cases h1:n<1
  ·exact .inl ⟨by rw[ζ (show ¬1<=n by omega)];rfl,.inl (ξ h1)⟩
  ·by_cases h2:4096<n
   ·exact .inl ⟨by rw[ζ (show ¬n<=4096 by omega)];simp,.inr (.inl ⟨ζ h1,ξ h2⟩)⟩
   ·rw[ξ (show 1<=n by omega),ξ (show n<=4096 by omega)];cases hp:CR k with
    | false=>exact .inl ⟨rfl,.inr (.inr (.inl ⟨ζ h1,ζ h2,rfl⟩))⟩
    | true=>
     by_cases h3:256<k
     ·exact .inl ⟨by rw[ζ (show ¬k<=256 by omega)];simp,.inr (.inr (.inr ⟨ζ h1,ζ h2,rfl,ξ h3⟩))⟩
     ·exact .inr ⟨by rw[ξ (show k<=1024 by omega),ξ (show k<=256 by omega)];rfl,ζ h1,ζ h2,rfl,ζ h3⟩
 rcases X with⟨hf,hw⟩|⟨ht,h1,h2,h3,h4⟩
 ·have HF:=ι hf;obtain⟨b,hb⟩:∃b,b=CR k:=⟨_,rfl⟩;have HB:=ι hb.symm;rw[<-hb]at hw;clear hf hb;rcases hw with h1|⟨h1,h2⟩|⟨h1,h2,rfl⟩|⟨h1,h2,rfl,h3⟩
  all_goals
   go_enter func76,ntmps76;go_wp2_with(go_at_call 115;refine(JO k hk _).mono ?_;rintro e w1 ⟨rfl,rfl⟩;rw[HB.o]);go_ret2;exact .inl ⟨HF.o,rfl,rfl⟩
 ·have HF:=ι ht;have HB:=ι h3;have hn:=of_decide_eq_false h1;obtain⟨m,rfl⟩:∃m:Nat,n=m:=⟨n.toNat,by omega⟩;have Y:=(ζ7.1 (ζ7.1 ht).2).1;have hkb:=DI Y;obtain⟨g,rfl⟩:∃g:Nat,k=g:=⟨k.toNat,by omega⟩;clear ht h3 hn Y;go_enter func76,ntmps76;go_wp2_with(go_at_call 115;refine(JO _ hk _).mono ?_;rintro e w1 ⟨rfl,rfl⟩;rw[HB.o]);go_ret2;obtain⟨hr,hp⟩:=ζ7.1 HF.o;refine .inr ⟨HF.o,rfl,(Gr.refl _).alloc _,?_⟩;rw[υ,υ];refine⟨Xgr hr hp,ϑ _,.slice none 0 0,.slice none 0 0,.slice none 0 0,0,0,Rec.new _ _ _,GR _ _ _ _,GR _ _ _ _,GR _ _ _ _,(λg h=>by cases h),(λg h=>by cases h),(λg h=>by cases h)⟩
def Pl.next(p:Pl):Nat:=if p.bk=[]then p.tk.length else p.bk.getLastD 0
def GL(l:List Nat)(i n:Nat):List Nat:=l.take i++List.replicate n 0++l.drop (i+n)
def Pl.fresh(p:Pl):Pl:=if p.bk=[]then {p with tk:=p.tk++[false],wd:=p.wd++List.replicate p.pg 0}else {p with bk:=p.bk.dropLast}
def Pl.take(p:Pl):Pl:={p.fresh with tk:=p.fresh.tk.set p.next true,wd:=GL p.fresh.wd (p.next*p.pg) p.pg}
theorem YGK(h:i+n<=l.length):(GL l i n).length=l.length:=by unfold GL;simp;omega
theorem YMA(h:i+n<=l.length)(j:Nat):(GL l i n).getD j 0=if i<=j/\j<i+n then 0 else l.getD j 0:=by
 unfold GL;simp only[β];by_cases h1:j<i
 ·rw[φ Ω,ξr,ζQ (by simp;omega),ξQ,θ h1]
 ·by_cases h2:j<i+n
  ·rw[θ Ω,ξr,ζV (by simp;omega),ζQ (by simp;omega),ξc]
   split <;> rfl
  ·rw[φ Ω,ζV (by simp;omega),List.getElem?_drop];congr 2;simp;omega
theorem YWy:(prog.info? 3).map (λi=>(i.zero,i.size,i.bytes))=some (some (iI 0),1,8):=by kernel_rfl
theorem Vck:(prog.info? 4).map (λi=>(i.zero,i.size,i.bytes))=some (some (.bool false),1,1):=by kernel_rfl
theorem QY(l:List Bool):cnt (at_ (l++[false])) (l++[false]).length=cnt (at_ l) l.length:=by
 have h1:(l++[false]).length=l.length+1:=by simp
 rw[h1,CS];have h2:at_ (l++[false]) l.length=false:=by simp[at_]
 have h3:cnt (at_ (l++[false])) l.length=cnt (at_ l) l.length:=CV (λi hi=>by simp[at_,ζQ hi]);rw[h2,h3];rfl
def S9(w:World)(S:Nat->Prop)(q:Nat)(p:Pl)(e:Ending)(w':World):Prop:=e=.returned (iI (p.next:Nat))/\AB S w w'/\YL w' (plus S w) q p.fresh
section
variable{p:Pl}
theorem VPE(hP:CI w S q p)(hb:p.bk≠[]):Calls prog 224 #[pP q] w (S9 w S q p):=by
 obtain⟨ok,sq,vw,vt,vb,hi,ts,hr,o1,o2,o3,s1,s2,s3⟩:=hP;obtain⟨bi,f,X⟩:∃bi f,p.bk=bi++[f]:=⟨p.bk.dropLast,p.bk.getLast hb,(ξR hb).symm⟩;have hN:p.next=f:=by unfold Pl.next;rw[φ hb,X];simp
 have hF:p.fresh={p with bk:=bi}:=by unfold Pl.fresh;rw[φ hb,X];simp
 have hbl:p.bk.length<=4096:=by have:=ok.us;have:=ok.le;have:=ok.rm.2;omega
 have Z:p.bk.length=bi.length+1:=by rw[X];simp
 obtain⟨gb,cb,rfl,-,M,I,hgl⟩:=ET o3 Ω;have k:=BP o3 (XS1 (i:=bi.length) Ω);have O:p.bk[bi.length]' Ω=f:=by simp[X]
 rw[O]at k;have Y:=o3;rw[X]at Y;have e1:(bi++[f]).length=bi.length+1:=by simp
 have e2:DV (bi++[f])=DV bi++[iI (f:Nat)]:=by simp[DV]
 rw[e1,e2]at Y;have J:=YU Y;have c2:=hr.cc 2;rw[Z]at c2 M;have cf:=hr.free 2;have HF:=ι hF;have HN:=ι hN;have HR:=ι hr;have H1:=ι o1;have H2:=ι o2;have H3:=ι J;have HO3:=ι o3;unfold maxLen at I;obtain⟨N,U⟩:∃N,N=bi.length:=⟨_,rfl⟩;rw[<-U]at c2 Z k M;have V:=ι U;clear hr o1 o2 o3 Y X hF hN e1 e2 J hb O U;go_enter func224,ntmps224;go_wp2;go_ret;refine⟨by rw[HN.o];rfl,(AB.refl S w).setCell (λ_=>sq) _,?_⟩;rw[HF.o];refine⟨vw,vt,.slice (some ⟨gb,0,none⟩) N cb,hi,ts,HR.o.set 2 _,AW H1.o _ (λg hg=>?_),AW H2.o _ (λg hg=>?_),?_,λg hg=>.inl (s1 g hg),λg hg=>.inl (s2 g hg),λg hg=>.inl (s3 g hg)⟩
 ·exact AO H1.o HR.o (by decide) hg rfl
 ·exact AO H2.o HR.o (by decide) hg rfl
 ·have:=H3.o;rw[<-V.o]at this
  show World.ownsRow _ 0 _ 1 _ bi.length _
  rw[<-V.o];exact AW this _ (λg hg=>AO this HR.o (by decide) hg rfl)
theorem Yqu(hP:CI w S q p)(hb:p.bk=[]):Calls prog 224 #[pP q] w (S9 w S q p):=by
 obtain⟨ok,sq,vw,vt,vb,hi,ts,hr,o1,o2,o3,s1,s2,s3⟩:=hP;obtain⟨iu,Yb,Xz,Xu,Yd⟩:=info_parts PB;obtain⟨ib,Ye,Yf,Yc,Xv⟩:=info_parts Vck;have hN:p.next=p.tk.length:=by unfold Pl.next;rw[θ hb]
 have hF:p.fresh={p with tk:=p.tk++[false],wd:=p.wd++List.replicate p.pg 0}:=by unfold Pl.fresh;rw[θ hb]
 obtain⟨Ab,cb,rfl,hcb1,Xo⟩:=DF o3;obtain⟨At,ct,rfl,hct1,Xr⟩:=DF o2;obtain⟨Aw,cw,rfl,hcw1,Xm⟩:=DF o1;have Xt:p.bk.length=0:=by rw[hb];rfl
 have Xi:p.tk.length<=4096:=γ ok.le ok.rm.2;have hpg:=DI ok.pg;have Xl:=ok.pg2;have Yg:p.wd.length<=1048576:=by rw[ok.wl];exact γ (ψv Xi Xl) (by decide)
 have c0:=hr.cc 0;have c1:=hr.cc 1;have c2:=hr.cc 2;have c4:=hr.cc 4;have cf:=λj=>hr.free j;rw[Xt]at c2;have hql:=hr.lt;have HF:=ι hF;have HN:=ι hN;have HR:=ι hr;have H1:=ι o1;have H2:=ι o2;have H3:=ι o3;have HB:=ι (ψ hb Xt);unfold maxLen at Xo Xr Xm;obtain⟨N,Xf⟩:∃N,N=p.tk.length:=⟨_,rfl⟩;have X:=ι Xf;rw[<-Xf]at c1 Xi;obtain⟨M,Xd⟩:∃M,M=p.wd.length:=⟨_,rfl⟩;have L:=ι Xd;rw[<-Xd]at c0 Yg;have Xq:=cf 1;have Xp:=cf 0;have HS:=ι (ψ s1 (ψ s2 s3))
 have Xs:∀g,(Value.slice At N ct).ownBlock=some g->g≠q:=λg hg=>by
  have:=AO o2 hr (by decide) (g1:=g) (g2:=q) (by cases At <;> simp[Value.ownBlock]at hg⊢;exact hg) rfl;exact this
 clear hr o1 o2 o3 hF hN hb Xf Xd s1 s2 s3 cf;go_enter func224,ntmps224;go_wp2_with(at_builtin;refine wpList_append_lies _ rfl _ _ 145 rfl 0 4 ib _ 1 1 underlying145 Ye Yf Yc Xv rfl (by decide) (.slice At N ct) N (p.tk.map Value.bool) rfl (by rw[X.o];exact H2.o.alloc _) ⟨w.heap.size,0,none⟩ 1 1 [.bool false] rfl rfl (ξs (cs:=#[.bool false]) (t:=4) (fr:=(0,0)) (heap_alloc_new w _)) (by simp[Value.oneCell']) Ω (by unfold maxLen;omega) Ω (ζc _) (w.heap.size+1) (by simp) ?_;intro g2 B w2 I Z J Xc;have t2:AB (λk=>(Value.slice At N ct).ownBlock=some k) w w2:=(((Gr.refl w).alloc _).touch _).trans (EC Z _ (λk e _=>e));have O:=ι (HR.o.touch t2 (λe=>Xs q e rfl));have d1:=O.o.cc 1;have Xx:=O.o.free 1;have Xg:=ι t2;have Xn:=ι I;have Ya:=ι (ψ J Xc);clear I Z J Xc t2);obtain⟨W3,Y⟩:∃W3,W3=w2.setCell ⟨q,1,none⟩ (.slice (some ⟨g2,0,none⟩) (N+1) B):=⟨_,rfl⟩;rw[<-Y];have R3:=O.o.set 1 (.slice (some ⟨g2,0,none⟩) (N+1) B);rw[<-Y]at R3
 have T3:W3.ownsRow 0 4 1 (.slice (some ⟨g2,0,none⟩) (N+1) B) (N+1) (p.tk.map Value.bool++[.bool false]):=by
  rw[Y];exact AW Xn.o _ (λg hg=>AO Xn.o O.o (by decide) hg rfl)
 have Xa:∀g,(Value.slice Aw p.wd.length cw).ownBlock=some g->¬(Value.slice At N ct).ownBlock=some g:=λg hg e=>AO H1.o (by rw[X.o]at e;exact H2.o) (by decide) hg (by rw[X.o]at e;exact e) rfl;have Xb:∀g,(Value.slice Ab p.bk.length cb).ownBlock=some g->¬(Value.slice At N ct).ownBlock=some g:=λg hg e=>AO H3.o (by rw[X.o]at e;exact H2.o) (by decide) hg (by rw[X.o]at e;exact e) rfl;have U2:=BV H1.o Xg.o Xa
 have U3:W3.ownsRow 0 22 1 (.slice Aw p.wd.length cw) p.wd.length (CO p.wd):=by
  rw[Y];exact AW U2 _ (λg hg=>AO U2 O.o (by decide) hg rfl)
 have B2:=BV H3.o Xg.o Xb
 have B3:W3.ownsRow 0 3 1 (.slice Ab p.bk.length cb) p.bk.length (DV p.bk):=by
  rw[Y];exact AW B2 _ (λg hg=>AO B2 O.o (by decide) hg rfl)
 have E:AB S w W3:=by
  rw[Y];refine(Xg.o.mono (T:=S) (λk _ h=>?_)).setCell (λ_=>sq) _;rw[X.o]at h;exact HS.o.2.1 k h
 have HW:=ι (ψ R3 (ψ T3 (ψ U3 (ψ B3 E))));have y0:=R3.cc 0;have y4:=R3.cc 4;have yf:=R3.free 0;rw[<-L.o]at y0 U3;have HU:=ι U3;clear Y R3 T3 U3 U2 B2 B3 E Xa Xb c0 c1 c2 c4 Xp Xq d1 Xx Xs;obtain⟨Sx,D⟩:∃Sx:World->Prop,Sx=λW'=>W'.cell? ⟨q,0,none⟩=some (.slice Aw M cw)/\W'.cell? ⟨q,4,none⟩=some (iI p.pg):=⟨_,rfl⟩;have x0:∀p':AA Sx,p'.w.cell? ⟨q,0,none⟩=some (.slice Aw M cw):=λp'=>(AA.get D p').1;have x4:∀p':AA Sx,p'.w.cell? ⟨q,4,none⟩=some (iI p.pg):=λp'=>(AA.get D p').2;have Xj:Sx W3.drew:=by rw[D];exact⟨y0,y4⟩
 have Xw:=ι D;clear D;have inst:Inhabited (AA Sx):=⟨⟨_,Xj⟩⟩;refine AV Sx 12 [([0,1,2,3,4,5,6,7,8],9),([10,11],12)] [] Xj ?_;refine AH ?_;go_wp2_with(at_builtin;refine ZfD _ rfl _ _ 41 3 rfl 22 .i64 0 iu _ underlying41 underlying3 Yb Xz Xu rfl (by decide) (.slice Aw M cw) M (CO p.wd) rfl (CM HU.o (Gr.refl W3).drew) p.pg rfl Ω (by unfold maxLen;omega) (by rw[Yd];omega) (ζc _) ?_;intro g4 c4 w4 G U V hlt4)
 go_frame
 have t4:AB (λk=>(Value.slice Aw M cw).ownBlock=some k) W3 w4:=((Gr.refl W3).drew.touch _).trans (EC U _ (λk e _=>e));have Xk:¬(Value.slice Aw M cw).ownBlock=some q:=λe=>AO HU.o HW.o.1 (by decide) e rfl rfl;have R4:=HW.o.1.touch t4 Xk;have A:=ι R4;have z0:=R4.cc 0;have z4:=R4.cc 4;have zf:=R4.free 0;have Xe:=ι t4;have Xh:=ι G;have Xy:=ι V;rw[<-L.o]at z0;clear R4 t4 G U V Xk;refine⟨.inr (AA.of (by rw[Xw.o];exact⟨z0,z4⟩)),?_⟩;refine AH ?_;go_wp2;refine⟨.inl trivial,?_⟩;refine EN ?_;refine ζb ?_;refine ζA ?_;go_wp2;go_ret;obtain⟨R3,T3,U3,B3,E⟩:=HW.o;have hs3:=E.size;have T4:=BV T3 Xe.o (λg hg e=>AO T3 HU.o (by decide) hg e rfl);have B4:=BV B3 Xe.o (λg hg e=>AO B3 HU.o (by decide) hg e rfl);have J:=Ya.o;have V:=Xy.o;refine⟨by rw[HN.o,<-X.o];rfl,(E.trans' Xe.o (λk hk h=>?_)).setCell (λ_=>sq) _,?_⟩
 ·rw[L.o]at h;exact HS.o.1 k h
 ·rw[HF.o];have hu:({p with tk:=p.tk++[false],wd:=p.wd++List.replicate p.pg 0}:Pl).used=p.used:=QY p.tk;refine⟨.slice (some ⟨g4,0,none⟩) (M+p.pg) c4,.slice (some ⟨g2,0,none⟩) (N+1) B,.slice Ab p.bk.length cb,hi,ts,?_,?_,?_,AW B4 _ (λg hg=>AO B4 A.o (by decide) hg rfl),λg hg=>?_,λg hg=>?_,λg hg=>.inl (HS.o.2.2 g hg)⟩
  ·rw[hu];exact A.o.set 0 _
  ·have:=AW (q:=q) (j:=0) Xh.o (.slice (some ⟨g4,0,none⟩) (M+p.pg) c4) (λg hg=>AO Xh.o A.o (by decide) hg rfl);have e1:(p.wd++List.replicate p.pg 0).length=M+p.pg:=by rw[L.o];simp
   have e2:CO (p.wd++List.replicate p.pg 0)=CO p.wd++List.replicate p.pg (uU 0):=by unfold CO;rw[ζ5,List.map_replicate];rfl
   show World.ownsRow _ 0 _ 1 _ (p.wd++List.replicate p.pg 0).length (CO (p.wd++List.replicate p.pg 0))
   rw[e1,e2];exact this
  ·have:=AW (q:=q) (j:=0) T4 (.slice (some ⟨g4,0,none⟩) (M+p.pg) c4) (λg hg=>AO T4 A.o (by decide) hg rfl)
   show World.ownsRow _ 0 _ 1 _ (p.tk++[false]).length ((p.tk++[false]).map Value.bool)
   rw[ζ5,show (p.tk++[false]).length=N+1 by rw[X.o];simp];exact this
  ·cases hg;rcases V with h|h
   ·rw[L.o]at h;exact .inl (HS.o.1 _ h)
   ·right;show w.heap.size<=g4;have:W3.drew.heap.size=W3.heap.size:=rfl;omega
  ·cases hg;rcases J.1 with h|h
   ·rw[X.o]at h;exact .inl (HS.o.2.1 _ h)
   ·right;show w.heap.size<=g2;omega
theorem VKq(hP:CI w S q p):Calls prog 224 #[pP q] w (S9 w S q p):=by
 by_cases hb:p.bk=[]
 ·exact Yqu hP hb
 ·exact VPE hP hb
theorem JX(hP:FE p):p.next<p.fresh.tk.length/\p.fresh.wd.length=p.fresh.tk.length*p.pg/\at_ p.fresh.tk p.next=false:=by
 unfold Pl.next Pl.fresh
 by_cases hb:p.bk=[]
 ·rw[θ hb,θ hb];refine⟨by simp,by simp[hP.wl,ξk],by simp[at_]⟩
 ·rw[φ hb,φ hb]
  have hm:p.bk.getLastD 0∈p.bk:=by
   obtain⟨bi,x,X⟩:∃bi x,p.bk=bi++[x]:=⟨p.bk.dropLast,p.bk.getLast hb,(ξR hb).symm⟩;rw[X];simp
  have:=hP.bl _ hm;exact⟨this.1,hP.wl,this.2⟩
theorem GA{l:List Bool}{x:Bool}(hk:k<l.length):at_ (l.set k x) i=if i=k then x else at_ l i:=Q4 l k i x hk
theorem JH{l:List Bool}(hi:i<l.length)(h:at_ l i=false):cnt (at_ (l.set i true)) l.length=cnt (at_ l) l.length+1:=by
 have X:∀k,k<=l.length->cnt (at_ (l.set i true)) k=cnt (at_ l) k+if i<k then 1 else 0:=by
  intro k
  induction k with
  | zero=>intro _;rfl
  | succ k ih=>
   intro hk;rw[CS,CS,ih Ω,GA hi];by_cases e:k=i
   ·subst e;rw[θ rfl,h,φ (ζN _),θ (ξM _)];simp
   ·rw[φ e];by_cases h1:i<k
    ·rw[θ h1,θ Ω];omega
    ·rw[φ h1,φ Ω];omega
 rw[X _ (ϑ _),θ hi]
theorem V4E{l:List Bool}(hi:i<l.length)(h:at_ l i=true):cnt (at_ (l.set i false)) l.length+1=cnt (at_ l) l.length:=by
 have h2:=JH (l:=l.set i false) (i:=i) (by simpa using hi) (by rw[GA hi,θ rfl]);rw[List.set_set,η]at h2
 have:l.set i true=l:=by
  apply ξo (by simp);intro j h1 h3;rw[List.getElem_set]
  split
  ·rename_i e;subst e;simpa[at_,hi]using h.symm
  ·rfl
 rw[this]at h2;exact h2.symm
theorem SA(h:FE p)(hroom:p.used<p.rm):FE p.take:=by
 obtain⟨h1,h2,h3⟩:=JX h
 have J:p.fresh.used=p.used:=by
  unfold Pl.used Pl.fresh
  split
  ·exact QY p.tk
  ·rfl
 have hf:(p.next*p.pg)+p.pg<=p.fresh.wd.length:=by rw[h2,<-ξk];exact ζi _ h1
 have e0:p.take.pg=p.pg/\p.take.rm=p.rm/\p.take.bk=p.fresh.bk:=by unfold Pl.take Pl.fresh;split <;> exact⟨rfl,rfl,rfl⟩
 have e1:p.take.tk=p.fresh.tk.set p.next true:=rfl
 have e2:p.take.wd=GL p.fresh.wd (p.next*p.pg) p.pg:=rfl
 have eu:p.take.used=p.used+1:=by
  rw[<-J];unfold Pl.used;rw[e1,η];exact JH h1 h3
 refine⟨by rw[e0.1];exact h.pg,by rw[e0.1];exact h.pg2,by rw[e0.2.1];exact h.rm,by rw[e0.1,e2,YGK hf,h2,e1,η],λx hx=>?_,?_,λf hf'=>?_,?_,?_⟩
 ·rw[e2]at hx;unfold GL at hx
  have X:∀y∈p.fresh.wd,y<18446744073709551616:=λy hy=>by
   unfold Pl.fresh at hy
   split at hy
   ·rcases ζg.1 hy with hy|hy
    ·exact h.w64 y hy
    ·rw[ξy hy];decide
   ·exact h.w64 y hy
  rcases ζg.1 hx with hx|hx
  ·rcases ζg.1 hx with hx|hx
   ·exact X x (ξ8 hx)
   ·rw[ξy hx];decide
  ·exact X x (List.mem_of_mem_drop hx)
 ·rw[e0.2.2];unfold Pl.fresh
  split
  ·exact h.nd
  ·exact h.nd.sublist (List.dropLast_sublist _)
 ·rw[e0.2.2]at hf';rw[e1,η];unfold Pl.fresh at hf' h1⊢;unfold Pl.next at h1⊢
  by_cases hb:p.bk=[]
  ·rw[θ hb]at hf';rw[hb]at hf';cases hf'
  ·rw[φ hb]at hf' h1⊢;rw[φ hb]at h1⊢;have hm:=(List.dropLast_sublist _).subset hf';have Z:=h.bl f hm;refine⟨Z.1,?_⟩;rw[GA h1,φ,Z.2];intro e;obtain⟨bi,x,U⟩:∃bi x,p.bk=bi++[x]:=⟨p.bk.dropLast,p.bk.getLast hb,(ξR hb).symm⟩;have Y:=h.nd;rw[U]at hf' e Y;simp at hf' e;subst e;rw[ζ0]at Y;exact Y.2.2 f hf' f (by simp) rfl
 ·rw[eu,e0.2.2,e1,η];unfold Pl.fresh;have:=h.us
  split
  ·rename_i hb;rw[hb]at this;simp[hb]at this⊢;omega
  ·rename_i hb;have:=List.length_pos_iff.2 hb;simp;omega
 ·rw[e0.2.1,e1,η];unfold Pl.fresh;have:=h.us
  split
  ·rename_i hb;rw[hb]at this;simp at this⊢;omega
  ·exact h.le
theorem MT(p:Pl):p.fresh.pg=p.pg/\p.fresh.rm=p.rm/\p.fresh.used=p.used:=by
 unfold Pl.fresh
 split
 ·exact⟨rfl,rfl,QY p.tk⟩
 ·exact⟨rfl,rfl,rfl⟩
theorem VI(h:FE p):p.take.used=p.used+1:=by
 obtain⟨h1,h2,h3⟩:=JX h
 have X:p.fresh.used=p.used:=by
  unfold Pl.used Pl.fresh
  split
  ·exact QY p.tk
  ·rfl
 have e1:p.take.tk=p.fresh.tk.set p.next true:=rfl
 rw[<-X];unfold Pl.used;rw[e1,η];exact JH h1 h3
def Xun(w:World)(S:Nat->Prop)(q:Nat)(p:Pl)(e:Ending)(w':World):Prop:=
 (p.used=p.rm/\e=.returned (.tuple #[iI 0,iI 14])/\Gr w w') ∨
 (p.used<p.rm/\e=.returned (.tuple #[iI (p.next:Nat),iI 0])/\AB S w w'/\CI w' (plus S w) q p.take)
theorem N7(h:FE p):p.used<=p.rm:=by have:=h.us;have:=h.le;omega
theorem YV(hP:CI w S q p):Calls prog 199 #[pP q] w (Xun w S q p):=by
 have HP:=ι hP;have V:=hP.ok;have Xh:=N7 V;have Xs:=V.rm;obtain⟨vw,vt,vb,hi,ts,hr,-⟩:=hP.row;have c3:=hr.cc 3;have c5:=hr.cc 5;have B:=hr.lt;obtain⟨u,hu⟩:∃u,u=p.used:=⟨_,rfl⟩;have HU:=ι hu;rw[<-hu]at c5 Xh;obtain⟨R,hR⟩:∃R,R=p.rm:=⟨_,rfl⟩;have Z:=ι hR;rw[<-hR]at c3 Xh Xs;have hr0:((R:Int)==0)=false:=ζy.2 Ω;have z3:∀m,(w.drewN m).cell? ⟨q,3,none⟩=some (iI R):=λm=>((Gr.refl w).drewN m |>.cell B _).trans c3;have z5:∀m,(w.drewN m).cell? ⟨q,5,none⟩=some (iI u):=λm=>((Gr.refl w).drewN m |>.cell B _).trans c5;have hpg:=DI V.pg;have X:=ι V;clear hr hP hu hR V;by_cases Y:u=R
 ·have d1:((u:Int)==(R:Int))=true:=by rw[Y];simp
  have Xo:=ι Y;clear Y;go_enter func199,ntmps199;go_wp2;go_quiet (fail);go_wp2;go_ret2;exact .inl ⟨by rw[<-HU.o,<-Z.o];exact Xo.o,rfl,(Gr.refl w).drewN _⟩
 ·have d1:((u:Int)==(R:Int))=false:=ζy.2 Ω;go_enter func199,ntmps199;go_wp2;go_quiet (fail);go_wp2_with(go_at_call 224;refine(VKq (HP.o.gr ((Gr.refl w).drewN nq))).mono ?_;rintro e w2 ⟨rfl,Xf,Xj⟩;have Ya:=ι Xf;have Xc:=ι Xj;clear Xf Xj);obtain⟨vw2,vt2,D,I,J,R2,o1,o2,o3,s1,s2,s3⟩:=Xc.o;obtain⟨n1,n2,n3⟩:=JX X.o;obtain⟨f1,f2,f3⟩:=MT p;have hf:p.next*p.pg+p.pg<=p.fresh.wd.length:=by rw[n2,<-ξk];exact ζi _ n1
  have Xk:p.fresh.tk.length<=4096:=by
   have h1:=(SA X.o (by rw[<-HU.o,<-Z.o];omega)).le;have h2:p.take.tk.length=p.fresh.tk.length:=η ..;have h3:p.take.rm=p.rm:=f2;rw[h2,h3,<-Z.o]at h1;omega
  have Xp:p.fresh.wd.length<=1048576:=by rw[n2];exact γ (ψv Xk X.o.pg2) (by decide)
  obtain⟨g2,cw,rfl,-,Xz,Xl,-⟩:=ET o1 Ω;obtain⟨gt,ct,rfl,-,hd1,Xn,-⟩:=ET o2 Ω;unfold maxLen at Xl Xn;obtain⟨iu,Xt,Xq,hu1,hu2⟩:=info_parts PB;obtain⟨w3,Yc,A,Xd⟩:=YNv (P:=prog) w2 41 22 0 iu _ underlying41 Xt Xq rfl (by decide) o1 (p.next*p.pg) p.pg p.pg Ω hf;rw[f1,f2,f3,<-HU.o,<-Z.o]at R2;have t3:=EC Xd (λk=>k=g2) (λk e _=>(Option.some.inj e).symm);have R3:=R2.touch t3 (AO R2 o1 (by decide) rfl rfl);have T3:=BV o2 t3 (λg hg=>AO o2 o1 (by decide) hg rfl);have B3:=BV o3 t3 (λg hg=>AO o3 o1 (by decide) hg rfl);have Xg:q≠gt:=AO R2 o2 (by decide) rfl rfl;have hgq:gt≠q:=λe=>Xg e.symm;have Xb:=ι R2;have k1:=R3.cc 1;have k5:=R3.cc 5;have k6:=R3.cc 6;have k7:=R3.cc 7;have kf:=λj=>R3.free j;have Xw:=kf 5;have Yb:=kf 6;have Xu:=kf 7;have kt:=BP T3 (WV n1);have Xx:=FT T3 p.next
  have hnl:(p.next:Int)<(p.fresh.tk.length:Int):=Ω
  have Xe:=ι (ψ R3 (ψ A (ψ T3 (ψ B3 t3))));have U:=ι (ψ s1 (ψ s2 s3));have Xy:=ι (ψ n1 (ψ n2 n3));have Xi:=ι (ψ f1 (ψ f2 f3));clear R2 o1 o2 o3 s1 s2 s3 A Xd R3 T3 B3 t3 n1 n2 n3 f1 f2 f3 kf c3 c5 z3 z5 Xc;generalize hnx:p.next=f at *
  have E:=ι hnx;clear hnx;have hmax:=NW prog;go_wp2_with(go_at_call 225;refine(ZS Xb.o Xz Ω Ω hf Xp).mono ?_;rintro e w1 ⟨rfl,rfl⟩);obtain⟨W5,M⟩:∃W5,W5=((w3.setCell ⟨gt,f,none⟩ (.bool true)).setCell ⟨q,5,none⟩ (.int .i64 ((u:Int)+1))).setCell ⟨q,7,none⟩ (.int .i64 (wrap64 (J+1))):=⟨_,rfl⟩;rw[<-M];obtain⟨R3,U3,T3,B3,t3⟩:=Xe.o;have R4:=AW (q:=gt) (j:=f) R3 (.bool true) (λg hg=>by cases hg;exact Xg)
  have R5:Rec W5 q 185 [.slice (some ⟨g2,0,none⟩) p.fresh.wd.length cw,.slice (some ⟨gt,0,none⟩) p.fresh.tk.length ct,D,iI R,iI p.pg,iI ((u:Int)+1),iI I,iI (wrap64 (J+1))]:=by
   rw[M];exact(Rec.set R4 5 _).set 7 _
  have U4:=AW (q:=gt) (j:=f) U3 (.bool true) (λg hg=>AO U3 T3 (by decide) hg rfl);have U5:=AW (q:=q) (j:=7) (AW (q:=q) (j:=5) U4 (iI ((u:Int)+1)) (λg hg=>AO U4 R4 (by decide) hg rfl)) (iI (wrap64 (J+1))) (λg hg=>AO U4 R4 (by decide) hg rfl);have T4:=(World.ownsRow.stored T3 f (.bool true)).1;have T5:=AW (q:=q) (j:=7) (AW (q:=q) (j:=5) T4 (iI ((u:Int)+1)) (λg hg=>AO T4 R4 (by decide) hg rfl)) (iI (wrap64 (J+1))) (λg hg=>AO T4 R4 (by decide) hg rfl);have B4:=AW (q:=gt) (j:=f) B3 (.bool true) (λg hg=>AO B3 T3 (by decide) hg rfl);have B5:=AW (q:=q) (j:=7) (AW (q:=q) (j:=5) B4 (iI ((u:Int)+1)) (λg hg=>AO B4 R4 (by decide) hg rfl)) (iI (wrap64 (J+1))) (λg hg=>AO B4 R4 (by decide) hg rfl);rw[<-M]at U5 T5 B5;have sq:=HP.o.sq
  have O:AB (plus S (w.drewN nq)) w2 W5:=by
   rw[M];exact(((t3.mono (λk _ h=>by rw[show k=g2 from h];exact U.o.1 g2 rfl)).setCell (λ_=>U.o.2.1 gt rfl) _).setCell (λ_=>.inl sq) _).setCell (λ_=>.inl sq) _
  have Xm:=ι (ψ R5 (ψ U5 (ψ T5 (ψ B5 O))));have y5:=R5.cc 5;have y6:=R5.cc 6;have yf:=R5.free 6;clear M R3 U3 T3 B3 t3 R4 R5 U4 U5 T4 T5 B4 B5 O k1 k5 k6 k7 Xw Yb Xu kt Xx Yc Xe;obtain⟨Sx,N⟩:∃Sx:World->Prop,Sx=λW'=>W'.cell? ⟨q,5,none⟩=some (iI ((u:Int)+1))/\W'.cell? ⟨q,6,none⟩=some (iI I):=⟨_,rfl⟩;have x5:∀p':AA Sx,p'.w.cell? ⟨q,5,none⟩=some (iI ((u:Int)+1)):=λp'=>(AA.get N p').1;have x6:∀p':AA Sx,p'.w.cell? ⟨q,6,none⟩=some (iI I):=λp'=>(AA.get N p').2;have G:Sx W5.drew:=by rw[N];exact⟨y5,y6⟩
  clear N;have inst:Inhabited (AA Sx):=⟨⟨_,G⟩⟩;refine AV Sx 12 [([0,1,2,3,4,5,6,7,8,9,10,11],12)] [] G ?_;refine AH ?_;go_wp2;refine⟨.inl trivial,?_⟩;refine EN ?_;refine ζb ?_;refine ζA ?_;go_wp2;go_ret2;obtain⟨R5,U5,T5,B5,O⟩:=Xm.o;obtain⟨n1,n2,n3⟩:=Xy.o;have Xa:p.used<p.rm:=by rw[<-HU.o,<-Z.o];omega
  refine .inr ⟨Xa,by rw[E.o];rfl,?_,SA X.o Xa,.inl sq,?_⟩
  ·refine(AB.setCell (a:=⟨q,6,none⟩) ((((Gr.refl w).drewN nq).touch S).trans' (Ya.o.trans' O (λk hk h=>?_)) (λk _ h=>h)) (λ_=>sq) _).drew;rcases h with h|h
   ·exact h
   ·exact absurd hk (ξf h)
  ·have U6:=λv=>CM (AW (q:=q) (j:=6) U5 v (λg hg=>AO U5 R5 (by decide) hg rfl)) (Gr.refl _).drew;have T6:=λv=>CM (AW (q:=q) (j:=6) T5 v (λg hg=>AO T5 R5 (by decide) hg rfl)) (Gr.refl _).drew;have B6:=λv=>CM (AW (q:=q) (j:=6) B5 v (λg hg=>AO B5 R5 (by decide) hg rfl)) (Gr.refl _).drew;have eu:p.take.used=u+1:=by rw[VI X.o,<-HU.o]
   have ew:p.take.wd=GL p.fresh.wd (f*p.pg) p.pg:=by rw[<-E.o];rfl
   have et:p.take.tk=p.fresh.tk.set f true:=by rw[<-E.o];rfl
   have Xr:p.take.wd.length=p.fresh.wd.length:=by rw[ew,YGK hf]
   have Xv:CO (GL p.fresh.wd (f*p.pg) p.pg)=List.take (f*p.pg) (CO p.fresh.wd)++List.replicate p.pg (Value.int IntKind.u64 0)++List.drop (f*p.pg+p.pg) (CO p.fresh.wd):=by
    unfold GL CO;rw[ζ5,ζ5,List.map_replicate,List.map_take,List.map_drop];rfl
   have er:p.take.rm=R:=by rw[Z.o];exact Xi.o.2.1
   have ep:p.take.pg=p.pg:=Xi.o.1;have eb:p.take.bk=p.fresh.bk:=rfl;have L:∀g,plus S (w.drewN nq) g->plus S w g:=λg h=>h;refine⟨.slice (some ⟨g2,0,none⟩) p.fresh.wd.length cw,.slice (some ⟨gt,0,none⟩) p.fresh.tk.length ct,D,max I ((u:Int)+1),wrap64 (J+1),?_,?_,?_,?_,λg hg=>L g (U.o.1 g hg),λg hg=>L g (U.o.2.1 g hg),λg hg=>L g (U.o.2.2 g hg)⟩
   rotate_left
   ·rw[Xr,ew,Xv];exact U6 _
   ·rw[et,η,ξX];exact T6 _
   ·rw[eb];exact B6 _
   ·rw[eu,er,ep];exact(R5.set 6 _).gr (Gr.refl _).drew
def Pl.give(p:Pl)(f:Nat):Pl:={p with tk:=p.tk.set f false,bk:=p.bk++[f]}
theorem OM(hf:at_ p.tk f=true):(p.give f).used+1=p.used:=by
 show cnt (at_ (p.tk.set f false)) (p.tk.set f false).length+1=_
 rw[η];exact V4E (FY hf) hf
theorem ZN(h:FE p)(hf:at_ p.tk f=true):FE (p.give f):=by
 have hl:=FY hf;refine⟨h.pg,h.pg2,h.rm,by show _=(p.tk.set f false).length*_;rw[η];exact h.wl,h.w64,?_,λg hg=>?_,?_,by show (p.tk.set f false).length<=_;rw[η];exact h.le⟩
 ·show (p.bk++[f]).Nodup
  rw[ζ0];refine⟨h.nd,by simp,λa ha b hb=>?_⟩;simp at hb;subst hb;rintro rfl;have:=(h.bl a ha).2;rw[hf]at this;cases this
 ·show g<(p.tk.set f false).length/\at_ (p.tk.set f false) g=false
  rw[η,GA hl];rcases ζg.1 hg with hg|hg
  ·have:=h.bl g hg;refine⟨this.1,?_⟩
   split
   ·rfl
   ·exact this.2
  ·simp at hg;subst hg;exact⟨hl,by rw[θ rfl]⟩
 ·have h1:=OM hf;have h2:=h.us
  show _+(p.bk++[f]).length=(p.tk.set f false).length
  rw[η,ζo];simp;omega
def VkD(w:World)(S:Nat->Prop)(q:Nat)(p:Pl)(f:Nat)(e:Ending)(w':World):Prop:=e=.returned (iI 0)/\AB S w w'/\CI w' (plus S w) q (p.give f)
theorem XDh(hP:CI w S q p)(hf:at_ p.tk f=true):Calls prog 182 #[pP q,iI f] w (VkD w S q p f):=by
 have HP:=ι hP;have Z:=hP.ok;have Xb:=FY hf;have HC:Hid (DY p f=0):=⟨by unfold DY;rw[υ,hf,ξ Ω];rfl⟩;have G:=OM hf;have Xi:=N7 Z;have hrm:=Z.rm;have L:=Z.us;have htl:=Z.le;obtain⟨vw,vt,vb,hi,ts,hr,o1,o2,o3,s1,s2,s3⟩:=hP.row;obtain⟨gt,ct,rfl,-,hd1,Xa,-⟩:=ET o2 Ω;obtain⟨Ab,cb,rfl,hcb1,I⟩:=DF o3;unfold maxLen at Xa I;obtain⟨ii,Xf,Xe,Xh,Xj⟩:=info_parts YWy;have E:q≠gt:=AO hr o2 (by decide) rfl rfl;have hgq:gt≠q:=λe=>E e.symm;have c1:=hr.cc 1;have c2:=hr.cc 2;have c5:=hr.cc 5;have cf:=λj=>hr.free j;have cf2:=cf 2;have cf5:=cf 5;have kt:=BP o2 (WV Xb);have ktf:=FT o2 f;obtain⟨N,hN⟩:∃N,N=p.bk.length:=⟨_,rfl⟩;have HN:=ι hN;rw[<-hN]at c2 L;obtain⟨u,hu⟩:∃u,u=p.used:=⟨_,rfl⟩;have HU:=ι hu;rw[<-hu]at c5 Xi G L hr;have hu2:1<=u:=Ω
 have hfI:(f:Int)<(p.tk.length:Int):=Ω
 have HR:=ι hr;have H1:=ι o1;have H2:=ι o2;have H3:=ι o3;have HS:=ι (ψ s1 (ψ s2 s3));have HF:=ι hf;have D:=ι Z;have B1:=AW (q:=gt) (j:=f) o3 (.bool false) (λg hg=>AO o3 o2 (by decide) hg rfl);have R1:=AW (q:=gt) (j:=f) hr (.bool false) (λg hg=>by cases hg;exact E);rw[<-hN]at B1;have B:=ι B1;have A:=ι R1;have Xk:∀g,(Value.slice Ab N cb).ownBlock=some g->g≠q:=λg hg=>AO o3 hr (by decide) (by rw[<-hN];exact hg) rfl;clear hr o1 o2 o3 hP hf hN hu Z cf s1 s2 s3 B1 R1;go_enter func182,ntmps182
 go_wp2_with(first
  | (go_at_call 212;refine(NU HP.o f).mono ?_;rintro e w1 ⟨rfl,rfl⟩;rw[HC.o])
  | (at_builtin;refine wpList_append_lies _ rfl _ _ 61 rfl 0 3 ii _ 1 8 underlying61 Xf Xe Xh Xj rfl (by decide) (.slice Ab N cb) N (DV p.bk) rfl (B.o.alloc _) ⟨w.heap.size,0,none⟩ 1 1 [iI (f:Nat)] rfl rfl (ξs (cs:=#[iI (f:Nat)]) (t:=3) (fr:=(0,0)) (by have:=heap_alloc_new (w.setCell ⟨gt,f,none⟩ (.bool false)) (.cells #[.int .i64 (f:Nat)] 3);simpa using this)) (by simp[Value.oneCell']) Ω (by unfold maxLen;omega) Ω (ζc _) (w.heap.size+1) (by simp) ?_;intro g2 Xl w2 J X Y V;have t2:AB (λk=>(Value.slice Ab N cb).ownBlock=some k) (w.setCell ⟨gt,f,none⟩ (.bool false)) w2:=(((Gr.refl _).alloc _).touch _).trans (EC X _ (λk e _=>e));have U:=ι (BV A.o t2 (λg hg e=>by cases hg;exact Xk q e rfl));have d2:=BP U.o (j:=2) rfl;have df2:=FT U.o 2;have d5:=BP U.o (j:=5) rfl;have df5:=FT U.o 5;have O:=ι t2;have M:=ι J;have Xd:=ι (ψ Y V);clear J X Y V t2))
 go_ret;have Y:=Xd.o;have U1:=AW (q:=gt) (j:=f) H1.o (.bool false) (λg hg=>AO H1.o H2.o (by decide) hg rfl);have Xg:∀g,vw.ownBlock=some g->¬(Value.slice Ab N cb).ownBlock=some g:=λg hg e=>AO H1.o H3.o (by decide) hg (by rw[<-HN.o];exact e) rfl;have U2:=BV U1 O.o Xg;have T1:=(World.ownsRow.stored H2.o f (.bool false)).1;have T2:=BV T1 O.o (λg hg e=>AO H2.o H3.o (by decide) hg (by rw[<-HN.o];exact e) rfl);have hsz:(w.setCell ⟨gt,f,none⟩ (.bool false)).heap.size=w.heap.size:=by simp
 have tt:AB S w w2:=((AB.refl S w).setCell (a:=⟨gt,f,none⟩) (λ_=>HS.o.2.1 gt rfl) (.bool false)).trans' O.o (λk _ h=>HS.o.2.2 k (by rw[<-HN.o];exact h));refine⟨rfl,(tt.setCell (a:=⟨q,2,none⟩) (λ_=>HP.o.sq) _).setCell (a:=⟨q,5,none⟩) (λ_=>HP.o.sq) _,ZN D.o HF.o,.inl HP.o.sq,?_⟩;have R2:=U.o;have e1:(p.give f).used=u-1:=by have:=OM HF.o;have:=HU.o;omega
 have e2:(((u-1:Nat)):Int)=(u:Int)-1:=Ω
 have e3:(p.give f).tk=p.tk.set f false:=rfl;have e4:(p.give f).bk=p.bk++[f]:=rfl;have U3:=λa b=>AW (q:=q) (j:=5) (AW (q:=q) (j:=2) U2 a (λg hg=>AO U2 R2 (by decide) hg rfl)) b (λg hg=>AO U2 R2 (by decide) hg rfl);have T3:=λa b=>AW (q:=q) (j:=5) (AW (q:=q) (j:=2) T2 a (λg hg=>AO T2 R2 (by decide) hg rfl)) b (λg hg=>AO T2 R2 (by decide) hg rfl);have B3:=λa b=>AW (q:=q) (j:=5) (AW (q:=q) (j:=2) M.o a (λg hg=>AO M.o R2 (by decide) hg rfl)) b (λg hg=>AO M.o R2 (by decide) hg rfl);refine⟨vw,.slice (some ⟨gt,0,none⟩) p.tk.length ct,.slice (some ⟨g2,0,none⟩) (N+1) Xl,hi,ts,?_,?_,?_,?_,λg hg=>.inl (HS.o.1 g hg),λg hg=>.inl (HS.o.2.1 g hg),λg hg=>?_⟩
 ·rw[e1,e2];have Xc:Rec w2 q 185 _:=R2;exact(Xc.set 2 _).set 5 _
 ·exact U3 _ _
 ·rw[e3,η,ξX];exact T3 _ _
 ·rw[e4,show (p.bk++[f]).length=N+1 by rw[HN.o];simp,show DV (p.bk++[f])=DV p.bk++[iI (f:Nat)]by unfold DV;rw[ζ5];rfl];exact B3 _ _
 ·cases hg;rcases Y.1 with h|h
  ·exact .inl (HS.o.2.2 _ (by rw[<-HN.o];exact h))
  ·right;show w.heap.size<=g2;omega
end
def JF(l:List Nat):List Value:=l.map λx=>.int .u32 (x:Nat)
def CF(pt:List Nat)(k:Nat):List Nat:=(List.range 256).map λi=>pt.getD (256*k+i) 0
def nz(l:List Nat):Nat:=cnt (λi=>l.getD i 0 !=0) l.length
def EW(pt:List Nat)(k:Nat):List Value:=JF (CF pt k)++[iI (nz (CF pt k):Nat)]
def GU(L:List (Option Nat)):List Value:=L.map λb=>.pointer (b.map λb=>⟨b,0,none⟩)
def CY(n:Nat):Nat:=(n+255)/256
structure JA(pt:List Nat):Prop where
 n1:1<=pt.length
 n2:pt.length<=524288
 lt:∀x∈pt,x<4294967296
structure C6(w:World)(S:Nat->Prop)(q:Nat)(pt:List Nat):Prop where
 ok:JA pt
 sq:S q
 row:∃g c L,Rec w q 188 [.slice (some ⟨g,0,none⟩) (CY pt.length) c,iI pt.length,iI (nz pt:Nat)]/\CY pt.length<=c/\c<=maxLen/\S g ∧
  w.ownsRow 0 281 1 (.slice (some ⟨g,0,none⟩) (CY pt.length) c) (CY pt.length) (GU L) ∧
  (∀k,k<CY pt.length->match L.getD k none with
   | none=>∀i,i<256->pt.getD (256*k+i) 0=0
   | some b=>S b/\Rec w b 284 (EW pt k)) ∧
  (∀k j b,L.getD k none=some b->L.getD j none=some b->k=j)
theorem IG(pt:List Nat)(k:Nat):(CF pt k).length=256:=by simp[CF]
theorem OE(pt:List Nat)(k:Nat)(h:i<256):(CF pt k).getD i 0=pt.getD (256*k+i) 0:=by simp[CF,h]
theorem QvL(pt:List Nat)(k:Nat)(h:i<256):(EW pt k)[i]?=some (.int .u32 (pt.getD (256*k+i) 0:Nat)):=by
 unfold EW JF;rw[ζQ (by simp[IG,h])];simp[CF,h]
theorem XMj(pt:List Nat)(k:Nat):(EW pt k)[256]?=some (iI (nz (CF pt k):Nat)):=by
 unfold EW JF;simp[IG]
theorem C6.touch{T:Nat->Prop}(h:C6 w S q pt)(t:AB T w w')(hS:∀k,S k->k<w.heap.size->¬T k):C6 w' S q pt:=by
 obtain⟨ok,sq,g,c,L,hr,h1,h2,sg,ho,ht,hd⟩:=h;refine⟨ok,sq,g,c,L,hr.touch t (hS q sq hr.lt),h1,h2,sg,BV ho t (λb hb=>by cases hb;exact hS g sg (BE ho rfl).2),λk hk=>?_,hd⟩;have:=ht k hk;cases hl:L.getD k none with
 | none=>grind
 | some b=>rw[hl]at this;exact⟨this.1,this.2.touch t (hS b this.1 this.2.lt)⟩
theorem C6.gr(h:C6 w S q pt)(t:Gr w w'):C6 w' S q pt:=h.touch (t.touch (λ_=>False)) (λ_ _ _ h=>h)
theorem C6.mono{T:Nat->Prop}(h:C6 w S q pt)(hT:∀k,S k->T k):C6 w T q pt:=by
 obtain⟨ok,sq,g,c,L,hr,h1,h2,sg,ho,ht,hd⟩:=h;refine⟨ok,hT _ sq,g,c,L,hr,h1,h2,hT _ sg,ho,λk hk=>?_,hd⟩
 grind
theorem XF(h:n<=524288):CY n<=2048:=by unfold CY;omega
theorem YO(h:p<n):p/256<CY n:=by unfold CY;omega
theorem ZL{L:List (Option Nat)}(h:k<L.length):(GU L)[k]?=some (.pointer ((L.getD k none).map λb=>⟨b,0,none⟩)):=by
 simp[GU,h]
theorem Z4(hM:C6 w S q pt)(hp:p<pt.length):cQ 223 #[pP q,iI p] w (.int .u32 (pt.getD p 0:Nat)):=by
 obtain⟨ok,sq,g,c,L,hr,h1,h2,sg,ho,ht,hd⟩:=hM;have hn:=XF ok.n2;have hk:=YO hp;have hLl:L.length=CY pt.length:=by have:=ho.1;simp[GU]at this;exact this
 have c0:=hr.cc 0;have k0:=BP ho (ZL (L:=L) (k:=p/256) Ω);have hh:=ht _ hk;obtain⟨k,Y⟩:∃k,k=p/256:=⟨_,rfl⟩;obtain⟨i,Z⟩:∃i,i=p%256:=⟨_,rfl⟩;have X:256*k+i=p:=Ω
 have hi:i<256:=Ω
 have e1:(p:Int)/256=(k:Int):=Ω
 have e2:(p:Int)%256=(i:Int):=Ω
 rw[<-Y]at k0 hk hh;have hpb:(p:Int)<=524288:=Ω
 cases hl:L.getD k none with
 | none=>
  rw[hl]at hh k0;have E:=(hh i hi);rw[X]at E;rw[E];clear hr ho ht hh hd Z Y X hl;go_enter func223,ntmps223;go_wp2;go_ret;exact⟨rfl,rfl⟩
 | some b=>
  rw[hl]at hh k0;have k1:=hh.2.cell (QvL pt k hi);rw[X]at k1;generalize pt.getD p 0=x at k1⊢;clear hr ho ht hh hd Z Y X hl;go_enter func223,ntmps223;go_wp2;go_ret;exact⟨rfl,rfl⟩
def pgE(pt:List Nat)(p:Int):Int:=if 0<=p/\p<pt.length then 0 else 11
def MU(pt:List Nat)(l:List Int):Int:=if l.all (λp=>decide (pgE pt p=0))then 0 else 11
theorem Z7Q(pt:List Nat)(p:Int):(decide (p<0)=true/\pgE pt p=11)\/(decide (p<0)=false/\decide ((pt.length:Int)<=p)=true/\pgE pt p=11)\/(decide (p<0)=false/\decide ((pt.length:Int)<=p)=false/\pgE pt p=0):=by
 by_cases h0:p<0
 ·exact .inl ⟨ξ h0,φ Ω⟩
 ·by_cases h1:(pt.length:Int)<=p
  ·exact .inr (.inl ⟨ζ h0,ξ h1,φ Ω⟩)
  ·exact .inr (.inr ⟨ζ h0,ζ h1,θ Ω⟩)
theorem QP1{l:List Int}(h:∀i,i<l.length->pgE pt (l.getD i 0)=0):MU pt l=0:=by
 unfold MU;rw[θ];rw[ξv];intro x hx;obtain⟨i,hi,rfl⟩:=ψw.1 hx
 simp_all
theorem YU3{l:List Int}(hi:i<l.length)(h:pgE pt (l.getD i 0)=11):MU pt l=11:=by
 unfold MU
 grind
theorem XaF(hM:C6 w S q pt){b:Nat}{l:List Int}(hn:l.length=n)(hn2:n<=2)(hc:∀i,i<n->w.cell? ⟨b,i,none⟩=some (iI (l.getD i 0))):cQ 222 #[pP q,.slice (some ⟨b,0,none⟩) n n] w (iI (MU pt l)):=by
 obtain⟨ok,sq,g,c,L,hr,-⟩:=hM;have c1:=hr.cc 1;have HC:=hc;clear hr hc;go_enter func222,ntmps222;go_wp2
 go_loop [11] (λi=>∃k:Nat,k<=n/\i=iI k/\Hid (∀i,i<k->pgE pt (l.getD i 0)=0)) (λi=>n-(intOf i).toNat)
 case atStart=>exact⟨0,by omega,rfl,⟨λi h=>by omega⟩⟩
 case round=>
  obtain⟨k,hk,rfl,Y⟩:=hrel;by_cases Z:k<n
  ·have X:=HC k Z;have hq:=Z7Q pt (l.getD k 0);have H1:=ι (λh=>YU3 (pt:=pt) (l:=l) (i:=k) Ω h)
   have H2:Hid (pgE pt (l.getD k 0)=0->∀i,i<k+1->pgE pt (l.getD i 0)=0):=⟨λh i hi=>by
    by_cases e:i=k
    ·subst e;exact h
    ·exact Y.o i Ω⟩
   generalize l.getD k 0=p at X hq H1 H2;clear Y HC hn;rcases hq with⟨d0,E⟩|⟨d0,d1,E⟩|⟨d0,d1,E⟩
   ·have E:=ι E;go_wp2;go_ret;exact⟨AM (by rw[H1.o E.o]),rfl⟩
   ·have E:=ι E;go_wp2;go_ret;exact⟨AM (by rw[H1.o E.o]),rfl⟩
   ·have E:=ι E;go_wp2;go_round
    case rel=>exact⟨k+1,by omega,by go_num,⟨H2.o E.o⟩⟩
    case measure=>simp[intOf];omega
  ·obtain rfl:k=n:=Ω
   have E:=ι (QP1 (pt:=pt) (l:=l) (by rw[hn];exact Y.o));go_wp2;go_ret;exact⟨AM (by rw[E.o]),rfl⟩
theorem VT9:(zeroCells284).toList=JF (List.replicate 256 0)++[iI 0]:=by kernel_rfl
theorem QV(l:List Nat):nz l=cnt (at_ (l.map λx=>x !=0)) l.length:=by
 refine CV λi hi=>?_;simp[at_,hi]
theorem O9(hi:i<l.length)(h:l.getD i 0=0)(hx:x≠0):nz (l.set i x)=nz l+1:=by
 have hm:(l.map λx=>x !=0).length=l.length:=ψt _;rw[QV,QV,η,ξX,<-hm];have:(x !=0)=true:=by simp[hx]
 rw[this];refine JH Ω ?_;rw[β,ω hi]at h;simp[at_,hi];simpa using h
theorem VP(hi:i<l.length)(h:l.getD i 0≠0):nz (l.set i 0)+1=nz l:=by
 have hm:(l.map λx=>x !=0).length=l.length:=ψt _;rw[QV,QV,η,ξX,<-hm];refine V4E Ω ?_;rw[β,ω hi]at h;simp[at_,hi];simpa using h
theorem Z2A(h:nz l=0)(hi:i<l.length):l.getD i 0=0:=by
 have:=U7 h i hi
 simp_all
theorem MQ(l:List Nat):nz l<=l.length:=EJ _ _
theorem Y7(hp:256*k+i<pt.length):CF (pt.set (256*k+i) x) k=(CF pt k).set i x:=by
 apply ξo
 ·simp[CF]
 ·intro j h1 h2;simp only[CF,List.getElem_map,List.getElem_range,List.getElem_set,β,ψg]
  grind
theorem QhQ(hi:i<256)(hj:j≠k):CF (pt.set (256*k+i) x) j=CF pt j:=by
 apply ξo
 ·simp[CF]
 ·intro y h1 h2;have hy:y<256:=by simpa[CF]using h1
  simp only[CF,List.getElem_map,List.getElem_range,β,ψg]
  grind
theorem VXI{t:Nat}(hp:256*k+i<pt.length)(hi:i<256)(ht:nz ((CF pt k).set i x)=t):
  EW (pt.set (256*k+i) x) k=((EW pt k).set i (.int .u32 x)).set 256 (iI t):=by
 unfold EW;rw[Y7 hp,ht];have hl:(JF (CF pt k)).length=256:=by simp[JF,IG]
 rw[List.set_append_left _ _ Ω,List.set_append_right _ _ (by simp[hl])];simp[JF,IG]
theorem YR(hi:i<256)(hj:j≠k):EW (pt.set (256*k+i) x) j=EW pt j:=by
 unfold EW;rw[QhQ hi hj]
theorem XyQ{c:Nat}(c0:w.cell? ⟨q,0,none⟩=some (.slice (some ⟨g,0,none⟩) n c))(c2:w.cell? ⟨q,2,none⟩=some (iI m))
  (f2:w.frozen? ⟨q,2,none⟩=false) (cg:w.cell? ⟨g,k,none⟩=some (.pointer none)) (fg:w.frozen? ⟨g,k,none⟩=false) (hqg:q≠g) (hq:q<w.heap.size) (hg:g<w.heap.size)
  (hk:k<n) (hn:n<=2048) (hi:i<256) (hm:m<=524288)  (hx:x≠0)  (hp:p=256*k+i):Calls prog 211 #[pP q,iI p,.int .u32 x] w λe w'=>e=.returned (.tuple #[]) ∧
   w'=((w.setCell ⟨g,k,none⟩ (.pointer (some ⟨w.heap.size,0,none⟩))).setCell ⟨q,2,none⟩ (.int .i64 (m+1))).alloc
   (Obj.cells ((zeroCells284.setIfInBounds i (.int .u32 x)).setIfInBounds 256 (iI 1)) 284):=by
 have e1:(p:Int)/256=(k:Int):=Ω
 have e2:(p:Int)%256=(i:Int):=Ω
 have b1:(p:Int)<=524288:=Ω
 have hkI:(k:Int)<(n:Int):=Ω
 have hiI:(i:Int)<256:=Ω
 have d0:((x:Int)==0)=false:=by simp_all
 have hz:∀h,(zeroCells284.setIfInBounds i (.int .u32 x))[256]'h=iI 0:=by
  intro h;rw[Array.getElem_setIfInBounds_ne _ Ω];have hl:(zeroCells284).toList.length=257:=by simp_all
  rw[<-Array.getElem_toList]
  ·grind [VT9,ζV,ω,Option.some.inj]
  simp_all
 clear hp;go_enter func211,ntmps211;go_wp2
 go_end0
 simp_all
def OO(w:World)(b i x t' q m' g k:Nat):World:=
 if t'=0 then (((w.setCell ⟨b,i,none⟩ (.int .u32 x)).setCell ⟨b,256,none⟩ (.int .i64 t')).setCell ⟨q,2,none⟩ (.int .i64 m')).setCell ⟨g,k,none⟩ (.pointer none)
 else ((w.setCell ⟨b,i,none⟩ (.int .u32 x)).setCell ⟨b,256,none⟩ (.int .i64 t')).setCell ⟨q,2,none⟩ (.int .i64 m')
theorem YAa{c b:Nat}{t t' m':Nat}{y:Value}(c0:w.cell? ⟨q,0,none⟩=some (.slice (some ⟨g,0,none⟩) n c))(c2:w.cell? ⟨q,2,none⟩=some (iI m))
  (f2:w.frozen? ⟨q,2,none⟩=false) (cg:w.cell? ⟨g,k,none⟩=some (pP b)) (fg:w.frozen? ⟨g,k,none⟩=false)
  (cb:w.cell? ⟨b,i,none⟩=some y) (cn:w.cell? ⟨b,256,none⟩=some (iI t)) (fi:w.frozen? ⟨b,i,none⟩=false) (fn:w.frozen? ⟨b,256,none⟩=false)
  (hqg:q≠g) (hbg:b≠g) (hbq:b≠q) (hk:k<n) (hn:n<=2048) (hi:i<256) (hm:m<=524288) (hm':m'<=524288) (ht:t<=256) (ht':t'<=256)  (hx:x<4294967296)
  (hby:if x=0 then t' + 1=t/\m' + 1=m else t'=t+1/\m'=m+1)  (hp:p=256*k+i):Calls prog 211 #[pP q,iI p,.int .u32 x] w λe w'=>e=.returned (.tuple #[]) ∧
   w'=OO w b i x t' q m' g k:=by
 have e1:(p:Int)/256=(k:Int):=Ω
 have e2:(p:Int)%256=(i:Int):=Ω
 have b1:(p:Int)<=524288:=Ω
 have hkI:(k:Int)<(n:Int):=Ω
 have hiI:(i:Int)<256:=Ω
 have hi6:¬i=256:=Ω
 clear hp;by_cases h0:x=0
 ·rw[θ h0]at hby;subst h0;obtain⟨rfl,rfl⟩:=hby;have a1:(t':Int)+1 + -1=(t':Int):=Ω
  have a2:(m':Int)+1 + -1=(m':Int):=Ω
  by_cases h1:t'=0
  ·subst h1;have E:OO w b i 0 0 q m' g k=_:=θ rfl;rw[E];go_enter func211,ntmps211;go_wp2
   go_end0
   simp_all
  ·have E:OO w b i 0 t' q m' g k=_:=φ h1;rw[E];go_enter func211,ntmps211;go_wp2
   go_end0
   simp_all
 ·rw[φ h0]at hby;obtain⟨rfl,rfl⟩:=hby;have d0:((x:Int)==0)=false:=by simp_all
  have E:OO w b i x (t+1) q (m+1) g k=_:=φ Ω;rw[E];go_enter func211,ntmps211;go_wp2
  go_end0
  simp_all
theorem QON{ys:List Value}(h:Rec w q T xs)(e:xs=ys):Rec w q T ys:=e▸h
theorem JA.set(h:JA pt)(p:Nat)(hx:x<4294967296):JA (pt.set p x):=
 ⟨by rw[η];exact h.n1,by rw[η];exact h.n2,λy hy=>by
  rcases ζP hy with h'|h'
  ·exact h.lt y h'
  omega⟩
theorem ER(hp:p<l.length)(j:Nat):(l.set p x).getD j 0=if p=j then x else l.getD j 0:=by
 grind
theorem PV{l:List (Option Nat)}{x:Option Nat}(hp:p<l.length)(j:Nat):(l.set p x).getD j none=if p=j then x else l.getD j none:=by
 grind
theorem Y9(L:List (Option Nat))(k:Nat)(b:Option Nat):GU (L.set k b)=(GU L).set k (.pointer (b.map λb=>⟨b,0,none⟩)):=by
 unfold GU;simp_all
theorem ZXw(hl:l.length=n)(h:∀i,i<n->l.getD i 0=0):l=List.replicate n 0:=by
 grind [ξo,ζI,ω]
theorem RM(n:Nat):nz (List.replicate n 0)=0:=by
 refine GZ λi hi=>?_
 simp_all
theorem Y8u(h:∀i,i<256->pt.getD (256*k+i) 0=0):EW pt k=JF (List.replicate 256 0)++[iI 0]:=by
 unfold EW
 grind [ZXw,IG,OE,RM]
def WE(w:World)(S:Nat->Prop)(q:Nat)(pt:List Nat)(p x:Nat)(w':World):Prop:=AB S w w'/\C6 w' (plus S w) q (pt.set p x)
theorem QkK(hM:C6 w S q pt)(hp:p<pt.length)(hx:x<4294967296)(hxx:if x=0 then pt.getD p 0≠0 else pt.getD p 0=0):
  Calls prog 211 #[pP q,iI p,.int .u32 x] w λe w'=>e=.returned (.tuple #[])/\WE w S q pt p x w':=by
 obtain⟨ok,sq,g,c,L,hr,h1,h2,sg,ho,ht,hd⟩:=hM;have hn:=XF ok.n2;have hk:=YO hp;have hLl:L.length=CY pt.length:=by have:=ho.1;simp[GU]at this;exact this
 obtain⟨k,Xj⟩:∃k,k=p/256:=⟨_,rfl⟩;obtain⟨i,hii⟩:∃i,i=p%256:=⟨_,rfl⟩;have Y:p=256*k+i:=Ω
 have hi:i<256:=Ω
 rw[<-Xj]at hk;have M:k<L.length:=Ω
 have cg:=BP ho (ZL M);have fg:=FT ho k;have c0:=hr.cc 0;have c2:=hr.cc 2;have f2:=hr.free 2;have V:q≠g:=AO hr ho (by decide) rfl rfl;have Xc:g≠q:=λe=>V e.symm;have hnz:=MQ pt;have hn2:=ok.n2;have Xg:=hr.lt;have Xf:=(BE ho rfl).2;have O:=ok.set p hx;have X:(pt.set p x).length=pt.length:=η;have hh:=ht k hk;cases hl:L.getD k none with
 | none=>
  rw[hl]at hh cg;have h0:pt.getD p 0=0:=by rw[Y];exact hh i hi
  have G:x≠0:=by
   intro e;subst e;rw[θ rfl]at hxx;exact hxx h0
  refine(XyQ c0 c2 f2 cg fg V Xg Xf hk hn hi Ω G Y).mono ?_;rintro e w' ⟨rfl,rfl⟩;refine⟨rfl,((AB.refl S w).setCell (a:=⟨g,k,none⟩) (λ_=>sg) _ |>.setCell (a:=⟨q,2,none⟩) (λ_=>sq) _).alloc _,O,.inl sq,g,c,L.set k (some w.heap.size),?_,by rw[X];exact h1,h2,.inl sg,?_,λj hj=>?_,λa b y ha hb=>?_⟩
  ·have r1:=(AW (q:=g) (j:=k) hr (pP w.heap.size) (λy hy=>by cases hy;exact V));have r2:Rec _ _ _ _:=Rec.set (q:=q) r1 2 (iI ((nz pt:Nat)+1));refine QON (r2.gr ((Gr.refl _).alloc _)) ?_;rw[O9 hp h0 G,X];rfl
  ·rw[X,Y9];exact CM (AW (World.ownsRow.stored ho k _).1 _ (λy hy=>by cases hy;exact Xc)) ((Gr.refl _).alloc _)
  ·rw[X]at hj;rw[PV M];by_cases e:k=j
   ·subst e;rw[θ rfl];refine⟨.inr (ϑ _),?_⟩
    have hs:∀(W:World) (Z:Array Value) (xs:List Value) (N:Nat),W.heap.size=N->Z.toList=xs->Rec (W.alloc (.cells Z 284)) N 284 xs:=by
     rintro W Z xs N rfl rfl;exact Rec.new W _ _
    refine hs _ _ _ _ (by simp) ?_;rw[Array.toList_setIfInBounds,Array.toList_setIfInBounds,VT9,Y,VXI Ω hi rfl]
    have:nz ((CF pt k).set i x)=1:=by
     rw[O9 (by rw[IG];exact hi) (by rw[OE _ _ hi];exact hh i hi) G,ZXw (IG pt k) (λy hy=>by rw[OE _ _ hy];exact hh y hy),RM]
    rw[this,Y8u hh];rfl
   ·rw[φ e];have J:=ht j hj;cases hl':L.getD j none with
    | none=>
     rw[hl']at J;intro y hy;rw[ER hp,φ Ω];exact J y hy
    | some b=>
     rw[hl']at J;refine⟨.inl J.1,?_⟩;rw[Y,YR hi (λh=>e h.symm)];have I:b≠g:=AO J.2 ho (by decide) rfl rfl;have U:b≠q:=AO J.2 hr (by decide) rfl rfl;have r1:=AW (q:=g) (j:=k) J.2 (pP w.heap.size) (λy hy=>by cases hy;exact I);exact Rec.gr (AW r1 _ (λy hy=>by cases hy;exact U)) ((Gr.refl _).alloc _)
  ·rw[PV M]at ha hb
   have Xb:∀j,L.getD j none≠some w.heap.size:=λj hj=>by
    by_cases Xk:j<CY pt.length
    ·have:=ht j Xk;rw[hj]at this;exact absurd this.2.lt (ζN _)
    ·rw[β,ζJ Ω]at hj;cases hj
   by_cases e1:k=a <;> by_cases e2:k=b
   ·rw[<-e1,e2]
   ·rw[θ e1]at ha;rw[φ e2]at hb;cases ha;exact absurd hb (Xb b)
   ·rw[φ e1]at ha;rw[θ e2]at hb;cases hb;exact absurd ha (Xb a)
   ·rw[φ e1]at ha;rw[φ e2]at hb;exact hd _ _ _ ha hb
 | some b=>
  rw[hl]at hh cg;obtain⟨sb,hb⟩:=hh;have I:b≠g:=AO hb ho (by decide) rfl rfl;have Xd:g≠b:=λe=>I e.symm;have U:b≠q:=AO hb hr (by decide) rfl rfl;have Xe:q≠b:=λe=>U e.symm;have cb:=hb.cell (QvL pt k hi);have cn:=hb.cell (XMj pt k);have Xa:i<(CF pt k).length:=by rw[IG];exact hi
  have D:(CF pt k).getD i 0=pt.getD p 0:=by rw[OE _ _ hi,Y]
  have Xl:if x=0 then nz ((CF pt k).set i x)+1=nz (CF pt k)/\nz (pt.set p x)+1=nz pt else nz ((CF pt k).set i x)=nz (CF pt k)+1/\nz (pt.set p x)=nz pt+1:=by
   by_cases e:x=0
   ·rw[θ e]at hxx⊢;subst e;exact⟨VP Xa (by rw[D];exact hxx),VP hp hxx⟩
   ·rw[φ e]at hxx⊢;exact⟨O9 Xa (by rw[D];exact hxx) e,O9 hp hxx e⟩
  have l1:=MQ (CF pt k);have l2:=MQ ((CF pt k).set i x);rw[η]at l2;rw[IG]at l1 l2;have l3:=MQ (pt.set p x);rw[X]at l3;refine(YAa c0 c2 f2 cg fg cb cn (hb.free i) (hb.free 256) V I U hk hn hi Ω (m':=nz (pt.set p x)) Ω l1 l2 hx Xl Y).mono ?_;rintro e w' ⟨rfl,rfl⟩;obtain⟨t',A⟩:∃t',t'=nz ((CF pt k).set i x):=⟨_,rfl⟩;rw[<-A];have E:=VXI (pt:=pt) (k:=k) (i:=i) (x:=x) (t:=t') Ω hi A.symm;rw[<-Y]at E
  -- the world behind the first three stores
  obtain⟨W,hW⟩:∃W,W=((w.setCell ⟨b,i,none⟩ (.int .u32 x)).setCell ⟨b,256,none⟩ (.int .i64 t')).setCell ⟨q,2,none⟩ (.int .i64 (nz (pt.set p x):Nat)):=⟨_,rfl⟩;have TW:AB S w W:=by rw[hW];exact((AB.refl S w).setCell (a:=⟨b,i,none⟩) (λ_=>sb) _ |>.setCell (a:=⟨b,256,none⟩) (λ_=>sb) _).setCell (a:=⟨q,2,none⟩) (λ_=>sq) _
  have RQ:Rec W q 188 [.slice (some ⟨g,0,none⟩) (CY pt.length) c,iI pt.length,iI (nz (pt.set p x):Nat)]:=by
   rw[hW];have r1:=AW (q:=b) (j:=i) hr (.int .u32 x) (λy hy=>by cases hy;exact Xe);have r2:=AW (q:=b) (j:=256) r1 (iI t') (λy hy=>by cases hy;exact Xe);exact Rec.set r2 2 _
  have RG:W.ownsRow 0 281 1 (.slice (some ⟨g,0,none⟩) (CY pt.length) c) (CY pt.length) (GU L):=by
   rw[hW];exact AW (AW (AW ho _ (λy hy=>by cases hy;exact Xd)) _ (λy hy=>by cases hy;exact Xd)) _ (λy hy=>by cases hy;exact Xc)
  have RB:Rec W b 284 (EW (pt.set p x) k):=by
   rw[hW,E];exact AW (Rec.set (Rec.set hb i _) 256 _) _ (λy hy=>by cases hy;exact U)
  have RO:∀j y,j≠k->j<CY pt.length->L.getD j none=some y->S y/\Rec W y 284 (EW (pt.set p x) j):=λj y hj hj2 hy=>by
   have:=ht j hj2;rw[hy]at this;refine⟨this.1,?_⟩;rw[Y,YR hi hj,hW];have B:y≠b:=λe=>hj (hd _ _ _ (by rw[e]at hy;exact hy) hl);have Xi:y≠q:=AO this.2 hr (by decide) rfl rfl;exact AW (AW (AW this.2 _ (λz hz=>by cases hz;exact B)) _ (λz hz=>by cases hz;exact B)) _ (λz hz=>by cases hz;exact Xi)
  have RN:∀j,j≠k->j<CY pt.length->L.getD j none=none->∀y,y<256->(pt.set p x).getD (256*j+y) 0=0:=λj hj hj2 hy y hy2=>by
   have:=ht j hj2;rw[hy]at this;rw[ER hp,φ Ω];exact this y hy2
  unfold OO;by_cases h0:t'=0
  ·rw[θ h0,<-hW];refine⟨rfl,TW.setCell (a:=⟨g,k,none⟩) (λ_=>sg) _,O,.inl sq,g,c,L.set k none,?_,by rw[X];exact h1,h2,.inl sg,?_,λj hj=>?_,λa y z ha hz=>?_⟩
   ·rw[X];exact AW RQ _ (λy hy=>by cases hy;exact V)
   ·rw[X,Y9];exact(World.ownsRow.stored RG k _).1
   ·rw[X]at hj;rw[PV M];by_cases e:k=j
    ·subst e;rw[θ rfl];intro y hy;have:=Z2A (l:=(CF pt k).set i x) (by rw[<-A];exact h0) (i:=y) (by rw[η,IG];exact hy);rw[<-Y7 Ω,OE _ _ hy,<-Y]at this;exact this
    ·rw[φ e];cases hl':L.getD j none with
     | none=>exact RN j (λh=>e h.symm) hj hl'
     | some y=>
      have:=RO j y (λh=>e h.symm) hj hl';have Xh:y≠g:=AO this.2 RG (by decide) rfl rfl;exact⟨.inl this.1,AW this.2 _ (λz hz=>by cases hz;exact Xh)⟩
   ·rw[PV M]at ha hz;by_cases e1:k=a
    ·rw[θ e1]at ha;cases ha
    ·by_cases e2:k=y
     ·rw[θ e2]at hz;cases hz
     ·rw[φ e1]at ha;rw[φ e2]at hz;exact hd _ _ _ ha hz
  ·rw[φ h0,<-hW];refine⟨rfl,TW,O,.inl sq,g,c,L,?_,by rw[X];exact h1,h2,.inl sg,?_,λj hj=>?_,hd⟩
   ·rw[X];exact RQ
   ·rw[X];exact RG
   ·rw[X]at hj;by_cases e:k=j
    ·subst e;rw[hl];exact⟨.inl sb,RB⟩
    ·cases hl':L.getD j none with
     | none=>exact RN j (λh=>e h.symm) hj hl'
     | some y=>
      have:=RO j y (λh=>e h.symm) hj hl';exact⟨.inl this.1,this.2⟩
def frE(pt:List Nat)(p:Int):Int:=if pgE pt p=0 then (if pt.getD p.toNat 0=0 then 12 else 0)else 11
def frV(pt:List Nat)(p:Int):Int:=if frE pt p=0 then (pt.getD p.toNat 0:Nat)-1 else 0
theorem SC(hM:C6 w S q pt){b:Nat}{p:Int}(hc:w.cell? ⟨b,0,none⟩=some (iI p)):cQ 222 #[pP q,.slice (some ⟨b,0,none⟩) 1 1] w (iI (pgE pt p)):=by
 have:=XaF hM (b:=b) (n:=1) (l:=[p]) rfl Ω (λi hi=>by
  simp_all)
 refine this.mono ?_;rintro e w' ⟨rfl,rfl⟩;refine⟨AM ?_,rfl⟩;unfold MU;rcases Z7Q pt p with h|h|h
 ·simp[h.2]
 ·simp[h.2.2]
 simp_all
theorem PX{p:Int}(h:pgE pt p=0):∃j:Nat,p=j/\j<pt.length:=by
 unfold pgE at h
 split at h
 ·exact⟨p.toNat,by omega,by omega⟩
 ·cases h
theorem XAh(pt:List Nat)(p:Int):pgE pt p=0\/pgE pt p=11:=by unfold pgE;omega
theorem KP(hM:C6 w S q pt)(p:Int):Calls prog 198 #[pP q,iI p] w λe w'=>e=.returned (.tuple #[iI (frV pt p),iI (frE pt p)])/\Gr w w':=by
 have HM:=hM;rcases XAh pt p with h0|h0
 ·obtain⟨j,rfl,hj⟩:=PX h0
  have hl:pt.getD j 0<4294967296:=by
   rw[β,ω hj];exact hM.ok.lt _ (μ hj)
  have HV:Hid (frE pt j=if pt.getD j 0=0 then 12 else 0):=⟨by unfold frE;simp_all⟩;have HF:Hid (frV pt j=if frE pt j=0 then ((pt.getD j 0:Nat):Int)-1 else 0):=⟨by unfold frV;simp_all⟩;have HG:=(λ(w':World) (h:Gr w w')=>Z4 (hM.gr h) hj);have H0:=h0;generalize pt.getD j 0=x at HV HF HG hl;by_cases hx:x=0
  ·subst hx;have E1:=HV.o;rw[θ rfl]at E1;have E2:=HF.o;rw[E1,φ (by decide)]at E2;have HE:=(ψ E1 E2);go_enter func198,ntmps198
   go_wp2_with(first
    | (go_at_call 222;refine(SC (HM.gr ((Gr.refl w).alloc _)) (p:=j) (ζz _ _ _ 0 rfl)).mono ?_;rintro e w1 ⟨rfl,rfl⟩;rw[H0])
    | (go_at_call 223;refine(HG _ ((Gr.refl w).alloc _)).mono ?_;rintro e w1 ⟨rfl,rfl⟩))
   go_ret2;exact⟨BL (BN (by rw[HE.2])) (BN (by rw[HE.1])),(Gr.refl w).alloc _⟩
  ·have E1:=HV.o;rw[φ hx]at E1;have E2:=HF.o;rw[E1,θ rfl]at E2;have HE:=(ψ E1 E2);have d0:((x:Int)==0)=false:=by simp_all
   go_enter func198,ntmps198
   go_wp2_with(first
    | (go_at_call 222;refine(SC (HM.gr ((Gr.refl w).alloc _)) (p:=j) (ζz _ _ _ 0 rfl)).mono ?_;rintro e w1 ⟨rfl,rfl⟩;rw[H0])
    | (go_at_call 223;refine(HG _ ((Gr.refl w).alloc _)).mono ?_;rintro e w1 ⟨rfl,rfl⟩))
   go_ret2;exact⟨BL (BN (by rw[HE.2])) (BN (by rw[HE.1])),(Gr.refl w).alloc _⟩
 ·have E1:frE pt p=11:=by unfold frE;omega
  have E2:frV pt p=0:=by unfold frV;omega
  have HE:=(ψ E1 E2);have H0:=h0;go_enter func198,ntmps198;go_wp2_with(go_at_call 222;refine(SC (HM.gr ((Gr.refl w).alloc _)) (p:=p) (ζz _ _ _ 0 rfl)).mono ?_;rintro e w1 ⟨rfl,rfl⟩;rw[H0]);go_ret2;exact⟨BL (BN (by rw[HE.2])) (BN (by rw[HE.1])),(Gr.refl w).alloc _⟩
theorem YTd(hM:C6 w S q pt)(hp:p<pt.length)(h0:pt.getD p 0=0)(hf:f<4096):Calls prog 200 #[pP q,iI p,iI f] w λe w'=>e=.returned (iI 0)/\WE w S q pt p (f+1) w':=by
 have HM:=hM;have HI:Hid (pgE pt p=0):=⟨by unfold pgE;rw[θ ⟨by omega,by omega⟩]⟩;have HG:=(λ(w':World) (h:Gr w w')=>Z4 (hM.gr h) hp);have HS:=(λ(w':World) (h:Gr w w')=>QkK (hM.gr h) (x:=f+1) hp Ω (by exact h0));rw[h0]at HG;go_enter func200,ntmps200
 go_wp2_with(first
  | (go_at_call 222;refine(SC (HM.gr ((Gr.refl w).alloc _)) (p:=p) (ζz _ _ _ 0 rfl)).mono ?_;rintro e w1 ⟨rfl,rfl⟩;rw[HI.o])
  | (go_at_call 223;refine(HG _ ((Gr.refl w).alloc _)).mono ?_;rintro e w1 ⟨rfl,rfl⟩)
  | (go_at_call 211;refine(HS _ ((Gr.refl w).alloc _)).mono ?_;rintro e w1 ⟨rfl,X⟩;have HE:=X))
 go_ret;obtain⟨t1,t2⟩:=HE;exact⟨rfl,(((Gr.refl w).alloc _).touch S).trans t1,t2.mono (λk hk=>hk.imp id (λh=>γ ((Gr.refl w).alloc _).size h))⟩
def QcT(w:World)(S:Nat->Prop)(q:Nat)(pt:List Nat)(p:Int)(w':World):Prop:=(frE pt p≠0/\Gr w w')\/(frE pt p=0/\WE w S q pt p.toNat 0 w')
theorem M5{p:Int}(h:frE pt p=0):∃j:Nat,p=j/\j<pt.length/\pt.getD j 0≠0:=by
 unfold frE at h
 grind [PX]
theorem XlB(pt:List Nat)(p:Int):0<=frE pt p/\frE pt p<=12:=by unfold frE;omega
theorem Yzj(hM:C6 w S q pt)(p:Int):Calls prog 181 #[pP q,iI p] w λe w'=>e=.returned (.tuple #[iI (frV pt p),iI (frE pt p)])/\QcT w S q pt p w':=by
 have HM:=hM;by_cases h0:frE pt p=0
 ·have HZ:=h0;obtain⟨j,rfl,hj,hx⟩:=M5 h0;have HS:=(λ(w':World) (h:Gr w w')=>QkK (hM.gr h) (x:=0) hj Ω (by exact hx));go_enter func181,ntmps181
  go_wp2_with(first
   | (go_at_call 198;refine(KP HM j).mono ?_;rintro e w1 ⟨rfl,Y⟩;have X:=Y)
   | (go_at_call 211;refine(HS _ X).mono ?_;rintro e w2 ⟨rfl,Z⟩;have HE:=Z))
  go_ret2;obtain⟨t1,t2⟩:=HE;refine⟨BL rfl (BN (by rw[HZ])),.inr ⟨HZ,(X.touch S).trans t1,?_⟩⟩;exact t2.mono (λk hk=>hk.imp id (λh=>γ X.size h))
 ·have HZ:=h0;have hr:=XlB pt p;obtain⟨x,hx⟩:∃x,x=frE pt p:=⟨_,rfl⟩;have HX:=ι hx;rw[<-hx]at h0 hr;have d0:(x==0)=false:=by simpa using h0
  clear hM hx;go_enter func181,ntmps181;go_wp2_with(go_at_call 198;refine(KP HM p).mono ?_;rintro e w1 ⟨rfl,Y⟩;rw[<-HX.o];have X:=Y);go_ret2;exact⟨BL rfl (BN (by rw[HX.o])),.inl ⟨HZ,X⟩⟩
theorem JA.new(h1:1<=n)(h2:n<=524288):JA (List.replicate n 0):=
 ⟨by simp_all,by simp_all,λx hx=>by simp_all⟩
theorem NX(n i:Nat):(List.replicate n 0).getD i 0=0:=by
 grind
theorem Qr3:(prog.info? 281).map (λi=>(i.zero,i.size,i.bytes))=some (some (.pointer none),1,8):=by kernel_rfl
theorem JxF(n:Nat):(madeCells #[.pointer none] n).toList=GU (List.replicate n none):=by
 unfold madeCells GU;apply ξo
 ·simp
 grind
theorem Q8(h:w.ownsRow base E size v n xs):w.ownsRow 0 E size v n xs:=by
 obtain⟨h1,h|⟨g,c,X,e1,e2,h⟩⟩:=h
 ·exact⟨h1,.inl h⟩
 ·exact⟨h1,.inr ⟨g,c,X,e1,ζc _,h⟩⟩
theorem J3k(h1:1<=n)(h2:n<=524288):Calls prog 77 #[iI n] w λe w'=>∃q,e=.returned (.tuple #[pP q,iI 0])/\Gr w w'/\C6 w' (λk=>w.heap.size<=k) q (List.replicate n 0):=by
 obtain⟨i0,hi,U,J,hz2⟩:=info_parts Qr3;have e1:((n:Int)+256-1)/256=(CY n:Int):=by unfold CY;omega
 have b0:CY n<=2048:=XF h2;have HB:Hid (i0.bytes*CY n<=281474976710656):=⟨by grind⟩;have HM:Hid (CY n<=maxLen):=⟨by unfold maxLen;omega⟩;go_enter func77,ntmps77;go_wp2_with(at_make;refine wpList_make_full _ rfl _ _ 186 rfl w.heap.size 281 i0 (.pointer none) 1 underlying186 hi U J .i64 .i64 _ _ (CY n) rfl rfl ?h1 ?h2 HB.o HM.o (ϑ _) ?h3)
 case h1=>omega
 case h2=>omega
 case h3=>
  intro w1 X Y;have Z:Gr w w1:=(J3 Y (λ_=>False) (λk e _=>by cases e)).gr;have HO:=(Q8 X);have HG:=Z;go_wp2;go_ret2;have hl:(List.replicate n 0).length=n:=ζI;have X:=HO;rw[JxF]at X;refine⟨_,BL rfl rfl,HG.alloc _,JA.new h1 h2,HG.size,w.heap.size,CY n,List.replicate (CY n) none,?_,by simp_all,HM.o,ϑ _,?_,λk hk=>?_,λk j b hk=>?_⟩
  ·grind [RM,Rec.new]
  ·rw[hl];exact CM X ((Gr.refl _).alloc _)
  ·grind
  grind
end Go.Proofs.YtggjoonlcjjgkaaGreatDoor
