/- Part 2 of what QueueSorts leans on: my own lemmas, merged by shake.py. -/
import Derived.Test.YtggjoonlcjjgkaaGreatDoorQueueSortsA
import Derived.Laws.OwnMore
namespace Go.Proofs.YtggjoonlcjjgkaaGreatDoor
open _root_.Go.Proofs.Tryz
set_option maxHeartbeats 3200000
set_option maxRecDepth 100000
open Go.RowKit Word
variable{a s z:Int}{l pt:List Nat}{xs:List Value}{E T base f g i j k m n p pg q size x:Nat}{S:Nat->Prop}{P Q:Prop}{b c d e u v:Value}{w w':World}
theorem AI(k : Q)(h : Hid Q → P := by intro hq;refine N3 ?_;(try simp only[AF,ν,π]);(repeat(go_big_quiet_step (fail)));refine ζb ?_;exact hq.o) : P := h ⟨k⟩
theorem DO(k : Q)(h : Hid Q → P := by intro hq;refine NI ?_;(try simp only[AF,ν,π]);(repeat(go_big_quiet_step (fail)));refine ζb ?_;exact hq.o) : P := h ⟨k⟩
theorem F4(k : Q)(h : Hid Q → P := by intro hq;refine X0q ?_;(try simp only[AF,ν,π]);(repeat(go_big_quiet_step (fail)));refine ζb ?_;refine ζD ?_;exact hq.o) : P := h ⟨k⟩
theorem LV(k : Q)(h : Hid Q → P := by intro hq;refine IU ?_;(try simp only[AF,ν,π]);(repeat(go_big_quiet_step (fail)));refine ζb ?_;exact hq.o) : P := h ⟨k⟩
theorem MV(k : Q)(h : Hid Q → P := by intro hq;refine YAC ?_;(try simp only[AF,ν,π]);(repeat(go_big_quiet_step (fail)));refine ζb ?_;refine ζD ?_;exact hq.o) : P := h ⟨k⟩
theorem BH(k : Q)(h : Hid Q → P := by intro hq;refine EK ?_;(try simp only[AF,ν,π]);(repeat(go_big_quiet_step (fail)));refine ζb ?_;refine ζD ?_;exact hq.o) : P := h ⟨k⟩
theorem Vqh(k : Q)(h : Hid Q → P := by intro hq;(try simp only[AF,ν,π]);(repeat(go_big_quiet_step (fail)));refine ζb ?_;exact hq.o) : P := h ⟨k⟩
theorem GZ(k : Q)(h : Hid Q → P := by intro hq;refine Xw6 ?_;(try simp only[AF,ν,π]);(repeat(go_big_quiet_step (fail)));refine ζb ?_;exact hq.o) : P := h ⟨k⟩
theorem Z5(k : Q)(h : Hid Q → P := by intro hq;refine YqX ?_;(try simp only[AF,ν,π]);(repeat(go_big_quiet_step (fail)));refine ζb ?_;refine ζD ?_;exact hq.o) : P := h ⟨k⟩
theorem G2(k : Q)(h : Hid Q → P := by intro hq;refine NG ?_;(try simp only[AF,ν,π]);(repeat(go_big_quiet_step (fail)));refine ζb ?_;exact hq.o) : P := h ⟨k⟩
theorem LK(k : Q)(h : Hid Q → P := by intro hq;refine Vy6 ?_;(try simp only[AF,ν,π]);(repeat(go_big_quiet_step (fail)));refine ζb ?_;refine ζD ?_;exact hq.o) : P := h ⟨k⟩
abbrev Ob:=Nat×Nat
variable{L:List Ob}{o:Ob}
structure AP(n:Nat)(L:List Ob):Prop where
 pw:L.Pairwise (λo q=>o.1+o.2<=q.1)
 sz:∀o∈L,1<=o.2/\o.1+o.2<=n
theorem AP.nil(n:Nat):AP n []:=⟨List.Pairwise.nil,λ_ h=>by cases h⟩
theorem AP.at(h:AP n L)(hi:i<L.length)(hj:j<L.length)(hij:i<j):L[i].1+L[i].2<=L[j].1:=List.pairwise_iff_getElem.1 h.pw i j hi hj hij
theorem AP.disj(h:AP n L){q:Ob}(ho:o∈L)(hq:q∈L):o=q\/o.1+o.2<=q.1\/q.1+q.2<=o.1:=by
 obtain⟨i,hi,rfl⟩:=ζo ho;obtain⟨j,hj,rfl⟩:=ζo hq;rcases ζR i j with X|rfl|X
 ·exact .inr (.inl (h.at hi hj X))
 ·simp_all
 ·exact .inr (.inr (h.at hj hi X))
theorem AP.len:∀{L:List Ob},AP n L->L.length<=n:=by
 intro L h
 have X:∀(L:List Ob),L.Pairwise (λo q=>o.1+o.2<=q.1)->(∀o∈L,1<=o.2/\o.1+o.2<=n)->∀a,a<=n->(∀o∈L,a<=o.1)->a+L.length<=n:=by
  intro L
  induction L with
  | nil=>simp_all
  | cons o r ih=>
   intro hp hs a ha hl;obtain⟨h1,h2⟩:=ξd.1 hp;have ho:=hs o (ζh ..);have:=ih h2 (λq hq=>hs q (ζk _ hq)) (o.1+o.2) ho.2 (λq hq=>h1 q hq)
   grind
 have:=X L h.pw h.sz 0 (ζe _) (λ_ _=>ζe _);omega
def BV(n:Nat)(L:List Ob):List Bool:=(List.range n).map λi=>L.any λo=>o.1==i
def DU(n:Nat)(L:List Ob):List Bool:=(List.range n).map λi=>L.any λo=>o.1+o.2==i+1
theorem IF(n:Nat)(L:List Ob):(BV n L).length=n:=by simp[BV]
theorem PW(n:Nat)(L:List Ob):(DU n L).length=n:=by simp[DU]
theorem JB(f:Nat->Bool)(n i:Nat):at_ ((List.range n).map f) i=(decide (i<n)&&f i):=by
 unfold at_
 grind
theorem JP(h:AP n L)(i:Nat):at_ (BV n L) i=true↔∃o∈L,o.1=i:=by
 unfold BV;rw[JB];simp only[ζd,ζc,ξ4,ζ0];constructor
 ·simp_all
 ·rintro⟨o,ho,rfl⟩;have:=h.sz o ho;grind
theorem SC(h:AP n L)(i:Nat):at_ (DU n L) i=true↔∃o∈L,o.1+o.2=i+1:=by
 unfold DU;rw[JB];simp only[ζd,ζc,ξ4,ζ0];constructor
 ·simp_all
 ·rintro⟨o,ho,e⟩;have:=h.sz o ho;grind
theorem Zox(h:AP n L)(ho:o∈L):BN (DU n L) (o.1:Int)=o.1+o.2-1/\o.1+o.2-1<(DU n L).length:=by
 have hs:=h.sz o ho
 have:=VuI (l:=DU n L) (a:=(o.1:Int)) (k:=o.1+o.2-1) (λi hi hc=>by
  obtain⟨q,hq,e⟩:=(SC h i).1 hc.1
  rcases h.disj ho hq with rfl|hd|hd <;> omega) ((SC h _).2 ⟨o,ho,by omega⟩) Ω
 omega
def A6(L:List Ob)(a:Int):Nat:=L.findIdx λo=>decide (a<=o.1)
theorem N4(L:List Ob)(a:Int):A6 L a<=L.length:=List.findIdx_le_length
theorem K0(h:i<A6 L a)(hi:i<L.length):(L[i].1:Int)<a:=by
 have:=List.not_of_lt_findIdx h
 simp_all
theorem MB(h:A6 L a<L.length):a<=(L[A6 L a]'h).1:=by
 have:=List.findIdx_getElem (p:=λo:Ob=>decide (a<=(o.1:Int))) (w:=h);simp only[ζc]at this;exact this
theorem L3(hj:j<=L.length)(hn:∀i (hi:i<L.length),i<j->(L[i].1:Int)<a)(hy:∀h:j<L.length,a<=(L[j].1:Int)):A6 L a=j:=by
 rcases ζR (A6 L a) j with h|h|h
 ·have h1:=MB (L:=L) (a:=a) Ω
  grind
 ·exact h
 ·have X:j<L.length:=by grind [N4]
  have h1:=K0 h X
  grind
theorem M7(h:AP n L)(hj:A6 L a<L.length):BN (BV n L) a=(L[A6 L a]).1/\BN (BV n L) a<(BV n L).length:=by
 have hy:=MB hj;refine VuI (λi hi hc=>?_) ((JP h _).2 ⟨_,μ hj,rfl⟩) Ω;obtain⟨q,hq,e⟩:=(JP h i).1 hc.1;obtain⟨k,hk,rfl⟩:=ζo hq;rcases ζR k (A6 L a)with X|rfl|X
 ·have:=K0 X hk;omega
 ·omega
 ·have:=h.at hj hk X;omega
theorem V7(h:AP n L)(hj:¬A6 L a<L.length):BN (BV n L) a=(BV n L).length:=by
 grind [XoQ,JP,ζo,K0]
theorem X1z(h:AP n L)(hj:j<L.length):A6 L ((L[j].1:Int)+(L[j].2:Int))=j+1:=by
 refine L3 Ω (λi hi hij=>?_) (λh2=>?_)
 ·have hs:=h.sz _ (μ hj);rcases υ i j with h1|h1
  ·have:=h.at hi hj h1;omega
  grind
 ·have:=h.at hj h2 (ξK j);omega
def RW(a:Int)(o:Ob):Bool:=decide ((o.1:Int)<=a/\a<o.1+o.2)
def A1(L:List Ob)(a:Int):Nat:=L.findIdx (RW a)
theorem JtS(L:List Ob)(a:Int):A1 L a<=L.length:=List.findIdx_le_length
theorem ID(h:A1 L a<L.length):((L[A1 L a]'h).1:Int)<=a/\a<(L[A1 L a]'h).1+(L[A1 L a]'h).2:=by
 have:=List.findIdx_getElem (p:=RW a) (w:=h);simp only[RW,ζc]at this;exact this
theorem WR(h:i<A1 L a)(hi:i<L.length):¬((L[i].1:Int)<=a/\a<L[i].1+L[i].2):=by
 have:=List.not_of_lt_findIdx h;simpa[RW]using this
theorem OE(h:AP n L)(hj:j<L.length)(h1:(L[j].1:Int)<=a)(h2:a<L[j].1+L[j].2):A1 L a=j:=by
 rcases ζR (A1 L a) j with X|he|X
 ·have hy:=ID (L:=L) (a:=a) Ω;have:=h.at (i:=A1 L a) Ω hj X;omega
 ·exact he
 ·exact absurd ⟨h1,h2⟩ (WR X hj)
theorem OW(h:∀o∈L,¬((o.1:Int)<=a/\a<o.1+o.2)):A1 L a=L.length:=by
 rcases υ (A1 L a) L.length with h1|h1
 ·exact absurd (ID h1) (h _ (μ h1))
 grind [JtS]
theorem XA1(h:AP n L)(a:Int):(EE (BV n L) (a+1) = -1/\∀o∈L,a<(o.1:Int))\/∃j,∃hj:j<L.length,EE (BV n L) (a+1)=(L[j].1:Int)/\(L[j].1:Int)<=a/\∀i (hi:i<L.length),j<i->a<(L[i].1:Int):=by
 have hx:=N4 L (a+1);rcases ζE (A6 L (a+1))with h0|h0
 ·left
  have Y:∀o∈L,a<(o.1:Int):=λo ho=>by
   obtain⟨k,hk,rfl⟩:=ζo ho;have hy:=MB (L:=L) (a:=a+1) Ω;rcases ζE k with rfl|J
   ·grind
   ·have:=h.at (i:=0) (j:=k) Ω hk J
    grind
  grind [Xaz,JP]
 ·right;obtain⟨j,hj⟩:∃j,A6 L (a+1)=j+1:=⟨A6 L (a+1)-1,by omega⟩;have X:j<L.length:=Ω
  have h1:=K0 (L:=L) (a:=a+1) (i:=j) Ω X
  have Y:∀i (hi:i<L.length),j<i->a<(L[i].1:Int):=λi hi hij=>by
   have hy:=MB (L:=L) (a:=a+1) Ω;rcases υ (A6 L (a+1)) i with h2|h2
   ·have:=h.at (i:=A6 L (a+1)) Ω hi h2;omega
   grind
  refine⟨j,X,YBm (λi hij hc=>?_) ((JP h _).2 ⟨_,μ X,rfl⟩) Ω,by omega,Y⟩;obtain⟨q,hq,e⟩:=(JP h i).1 hc.1;obtain⟨k,hk,rfl⟩:=ζo hq;rcases ζR k j with Z|rfl|Z
  ·have:=h.at hk X Z;omega
  ·omega
  grind
def DH(L:List Ob)(i:Nat):Bool:=L.any λo=>decide (o.1<=i/\i<o.1+o.2)
theorem NY:DH L i=true↔∃o∈L,o.1<=i/\i<o.1+o.2:=by simp[DH]
theorem Q5g:DH L i=decide (A1 L (i:Int)<L.length):=by
 by_cases h:A1 L (i:Int)<L.length
 ·rw[φ h];have:=ID h;exact NY.2 ⟨_,μ h,by omega,by omega⟩
 ·rw[ζ h];cases hb:DH L i with
  | false=>rfl
  | true=>
   obtain⟨o,ho,h1,h2⟩:=NY.1 hb;obtain⟨k,hk,rfl⟩:=ζo ho;exact absurd ⟨by omega,by omega⟩ (WR (L:=L) (a:=(i:Int)) (i:=k) Ω hk)
def JY(L:List Ob)(n:Nat)(f t:Int):Nat:=cnt (λi=>decide (f<=(i:Nat)/\((i:Nat):Int)<t)&&DH L i) n
def CZ(o:Ob)(f t:Int):Int:=max 0 (min (o.1+o.2:Int) t-max (o.1:Int) f)
def AZ(L:List Ob)(f t:Int):Int:=(L.map λo=>CZ o f t).sum
theorem SH(a b n:Nat)(h1:a<=b)(h2:b<=n):cnt (λi=>decide (a<=i/\i<b)) n=b-a:=by
 induction n generalizing b with
 | zero=>rw[LB];omega
 | succ n ih=>
  rw[CN];rcases υ n b with h|h
  ·have e:cnt (λi=>decide (a<=i/\i<b)) n=cnt (λi=>decide (a<=i/\i<b-1)) n\/a=b:=by
    by_cases X:a=b
    ·exact .inr X
    ·exact .inl (CQ (λi hi=>ξt.2 Ω))
   rcases e with e|e
   ·by_cases X:a=b
    ·subst X;rw[GS (λi _=>ζ Ω),ζ Ω];simp
    ·rw[e,ih (b-1) Ω Ω,φ Ω];simp;omega
   ·subst e;rw[GS (λi _=>ζ Ω),ζ Ω];simp
  simp_all
theorem XFd(n:Nat)(f t:Int):JY [] n f t=0:=GS (λi _=>by simp[DH])
theorem X5c(ho:o.1+o.2<=n)(f t:Int):((cnt (λi=>decide (f<=(i:Nat)/\((i:Nat):Int)<t)&&decide (o.1<=i/\i<o.1+o.2)) n:Nat):Int)=CZ o f t:=by
 unfold CZ;by_cases h:max (o.1:Int) f<min (o.1+o.2:Int) t
 ·have e:cnt (λi=>decide (f<=(i:Nat)/\((i:Nat):Int)<t)&&decide (o.1<=i/\i<o.1+o.2)) n=cnt (λi=>decide ((max (o.1:Int) f).toNat<=i/\i<(min (o.1+o.2:Int) t).toNat)) n:=
   CQ (λi _=>by grind)
  rw[e,SH _ _ _ Ω Ω];omega
 grind [GS,Bool.decide_and,ζ]
theorem Q2:∀{L:List Ob},AP n L->∀(f t:Int),((JY L n f t:Nat):Int)=AZ L f t:=by
 intro L
 induction L with
 | nil=>intro _ f t;rw[XFd];rfl
 | cons o r ih=>
  intro h f t;obtain⟨h1,h2⟩:=ξd.1 h.pw;have hr:AP n r:=⟨h2,λq hq=>h.sz q (ζk _ hq)⟩;have ho:=h.sz o (ζh ..)
  have hs:=LT (f:=λi=>decide (f<=(i:Nat)/\((i:Nat):Int)<t)&&decide (o.1<=i/\i<o.1+o.2)) (g:=λi=>decide (f<=(i:Nat)/\((i:Nat):Int)<t)&&DH r i) (λi=>by
   by_cases hc:o.1<=i/\i<o.1+o.2
   ·have:DH r i=false:=by
     cases hb:DH r i with
     | false=>rfl
     | true=>obtain⟨q,hq,h3,h4⟩:=NY.1 hb;grind
    simp_all
   grind) n
  have e:JY (o :: r) n f t=cnt (λi=>(decide (f<=(i:Nat)/\((i:Nat):Int)<t)&&decide (o.1<=i/\i<o.1+o.2))||(decide (f<=(i:Nat)/\((i:Nat):Int)<t)&&DH r i)) n:=
   CQ (λi _=>by rw[<-Bool.and_or_distrib_left];rfl)
  rw[e,hs,Int.natCast_add,X5c ho.2];have:=ih hr f t;unfold JY at this;rw[this];simp[AZ]
theorem YSu(L M:List Ob)(f t:Int):AZ (L++M) f t=AZ L f t+AZ M f t:=by simp[AZ]
theorem XLs{f t:Int}(h:(o.1+o.2:Int)<=f\/t<=o.1):CZ o f t=0:=by unfold CZ;omega
theorem QS{f t:Int}(h:∀o∈L,(o.1+o.2:Int)<=f\/t<=o.1):AZ L f t=0:=by
 induction L with
 | nil=>rfl
 | cons o r ih=>
  have:=ih (λq hq=>h q (ζk _ hq));have h2:=XLs (h o (ζh ..));simp only[AZ,ξp,List.sum_cons]at this⊢;omega
theorem US(hj:j<L.length)(f t:Int):AZ (L.take (j+1)) f t=AZ (L.take j) f t+CZ L[j] f t:=by
 rw[ζX hj,YSu];simp[AZ]
theorem TL(L:List Ob)(j:Nat)(f t:Int):AZ L f t=AZ (L.take j) f t+AZ (L.drop j) f t:=by
 rw[<-YSu,ψq]
theorem NZ(h:o∈L.take j):∃i,∃hi:i<L.length,i<j/\L[i]=o:=by
 grind [ζo,List.length_take]
theorem JEg(h:o∈L.drop j):∃i,∃hi:i<L.length,j<=i/\L[i]=o:=by
 grind [ζo,List.length_drop]
theorem Vth(h:AP n L){f t:Int}:
  AZ (L.take (A6 L f)) f t=if A1 L f<L.length/\(L[A1 L f]?.getD (0,0)).1<f/\f<t then min ((L[A1 L f]?.getD (0,0)).1+(L[A1 L f]?.getD (0,0)).2:Int) t-f else 0:=by
 by_cases X:A1 L f<L.length
 ·have hy:=ID X;have hg:L[A1 L f]?.getD (0,0)=L[A1 L f]:=by rw[η X];rfl
  rw[hg];by_cases hlt:(L[A1 L f].1:Int)<f
  ·have hn:A6 L f=A1 L f+1:=L3 Ω (λi hi Y=>by
    rcases υ i (A1 L f)with h1|h1
    ·have:=h.at hi X h1;omega
    ·have:i=A1 L f:=Ω
     subst this;omega) (λh2=>by have:=h.at X h2 (ξK _);omega)
   rw[hn,US X,QS (λo ho=>by
    obtain⟨i,hi,Y,rfl⟩:=NZ ho
    have:=h.at hi X Y;left;omega)]
   by_cases hft:f<t
   ·unfold CZ;omega
   ·unfold CZ;omega
  ·rw[ψ Ω];refine QS (λo ho=>?_);obtain⟨i,hi,Y,rfl⟩:=NZ ho;have h1:=K0 Y hi;rcases ζR i (A1 L f)with h2|rfl|h2
   ·have:=h.at hi X h2;left;omega
   ·omega
   ·have:=h.at X hi h2;omega
 ·rw[ψ Ω];refine QS (λo ho=>?_);obtain⟨i,hi,Y,rfl⟩:=NZ ho;have h1:=K0 Y hi;have h2:=WR (L:=L) (a:=f) (i:=i) Ω hi;left;omega
theorem WM(h:AP n L){f t:Int}(hj:∀hl:j<L.length,t<=(L[j].1:Int)):AZ (L.drop j) f t=0:=by
 refine QS (λo ho=>?_);obtain⟨i,hi,hij,rfl⟩:=JEg ho;right;have:=hj Ω;rcases υ j i with h1|h1
 ·have:=h.at (i:=j) Ω hi h1;omega
 grind
theorem JAq(h:AP n L)(f t:Int):AZ L (max f 0) (min t n)=AZ L f t:=by
 unfold AZ;congr 1;refine ξI (λo ho=>?_);have:=h.sz o ho;unfold CZ;omega
def sizes:List Ob->Nat
 | []=>0
 | o :: r=>o.2+sizes r
def DT:List Ob->Nat->Option Nat
 | [],_=>none
 | o :: r,k=>if k<o.2 then some (o.1+k)else DT r (k-o.2)
def IN(L:List Ob)(k:Int):Int:=if k<0 then 0 else ((DT L k.toNat).getD 0:Nat)
def V0(L:List Ob)(k:Int):Bool:=decide (0<=k)&&(DT L k.toNat).isSome
theorem Jkd:∀{k:Nat},DT L k=none↔sizes L<=k:=by
 induction L with
 | nil=>simp[DT,sizes]
 | cons o r ih=>
  intro k;unfold DT sizes
  grind
theorem E6(hj:j<L.length):sizes (L.take (j+1))=sizes (L.take j)+L[j].2:=by
 induction L generalizing j with
 | nil=>simp at hj
 | cons o r ih=>
  cases j with
  | zero=>simp[sizes]
  | succ j=>
   have:=ih (j:=j) (by simp_all);simp only[ξH,sizes,ψm]at this⊢;omega
theorem XEK(hj:j<L.length)(hi:i<L[j].2):DT L (sizes (L.take j)+i)=some (L[j].1+i):=by
 induction L generalizing j with
 | nil=>simp at hj
 | cons o r ih=>
  cases j with
  | zero=>
   have hi:i<o.2:=hi;simp only[List.take_zero,sizes,ξz,DT,ψl]
   simp_all
  | succ j=>
   have:=ih (j:=j) (by grind) (by simp_all);simp only[ξH,sizes,ψm,DT]
   grind
theorem RJ(h:AP n L):AZ L 0 n=sizes L:=by
 have X:∀(L:List Ob),(∀o∈L,1<=o.2/\o.1+o.2<=n)->AZ L 0 n=sizes L:=by
  intro L
  induction L with
  | nil=>intro _;rfl
  | cons o r ih=>
   intro hs;have h1:=ih (λq hq=>hs q (ζk _ hq));have ho:=hs o (ζh ..);have h2:CZ o 0 n=o.2:=by unfold CZ;omega
   simp only[AZ,ξp,List.sum_cons,sizes]at h1⊢;omega
 exact X L h.sz
theorem Yhz(h:AP n L)(hj:j<L.length)(hi:i<=L[j].2):AZ L 0 ((L[j].1:Int)+i)=sizes (L.take j)+i:=by
 rw[TL L (j+1),WM h (j:=j+1) (λhl=>by have:=h.at hj hl (ξK _);omega),US hj]
 have hg:AP L[j].1 (L.take j):=⟨h.pw.sublist (List.take_sublist ..),λo ho=>by
  obtain⟨q,hq,X,rfl⟩:=NZ ho;have:=h.at hq hj X
  exact⟨(h.sz _ (μ hq)).1,this⟩⟩
 have e:AZ (L.take j) 0 ((L[j].1:Int)+i)=AZ (L.take j) 0 (L[j].1:Nat):=by
  unfold AZ;congr 1;refine ξI (λo ho=>?_);have:=hg.sz o ho;unfold CZ;omega
 rw[e,RJ hg];unfold CZ;omega
theorem FO(h:AP n L):sizes L<=n:=by
 have h1:=RJ h;have h2:=Q2 h 0 n;have h3:JY L n 0 n<=n:=D0 _ _;omega
def DC:List Ob->Ob->List Ob
 | [],o=>[o]
 | q :: r,o=>if o.1<q.1 then o :: q :: r else q :: DC r o
theorem F8{x:Ob}:x∈DC L o↔x=o\/x∈L:=by
 induction L with
 | nil=>simp[DC]
 | cons q r ih=>
  unfold DC
  grind
theorem YKx(L:List Ob)(o:Ob):(DC L o).length=L.length+1:=by
 induction L with
 | nil=>rfl
 | cons q r ih=>unfold DC;grind
theorem QN(h:AP n L)(h1:1<=o.2)(h2:o.1+o.2<=n)(hd:∀q∈L,o.1+o.2<=q.1\/q.1+q.2<=o.1):AP n (DC L o):=by
 refine⟨?_,λx hx=>?_⟩
 ·have Y:∀(L:List Ob),L.Pairwise (λo q=>o.1+o.2<=q.1)->(∀q∈L,1<=q.2)->(∀q∈L,o.1+o.2<=q.1\/q.1+q.2<=o.1)->(DC L o).Pairwise (λo q=>o.1+o.2<=q.1):=by
   intro L
   induction L with
   | nil=>simp[DC]
   | cons q r ih=>
    intro hp hs hd;obtain⟨hp1,X⟩:=ξd.1 hp;have hq:=hd q (ζh ..);have hqs:=hs q (ζh ..);unfold DC
    split
    ·rename_i hlt;refine ξd.2 ⟨λx hx=>?_,hp⟩
     grind
    ·rename_i hlt;refine ξd.2 ⟨λx hx=>?_,ih X (λx hx=>hs x (ζk _ hx)) (λx hx=>hd x (ζk _ hx))⟩;rcases F8.1 hx with rfl|hx
     ·omega
     grind
  exact Y L h.pw (λq hq=>(h.sz q hq).1) hd
 ·rcases F8.1 hx with rfl|hx
  ·omega
  ·exact h.sz x hx
theorem V5{a b:Bool}(h:a=true↔b=true):a=b:=ψa.2 h
theorem X1{l:List Bool}{x:Bool}(hk:k<l.length):at_ (l.set k x) i=if i=k then x else at_ l i:=QT l k i x hk
theorem Yfk(h:AP n L)(h1:1<=o.2)(h2:o.1+o.2<=n)(hd:∀q∈L,o.1+o.2<=q.1\/q.1+q.2<=o.1):BV n (DC L o)=(BV n L).set o.1 true:=
 IC (by grind [ω,IF]) (λi _=>by
  rw[X1 (by rw[IF];omega)];refine V5 ?_;rw[JP (QN h h1 h2 hd)]
  split
  ·rename_i e;subst e;exact⟨λ_=>rfl,λ_=>⟨o,F8.2 (.inl rfl),rfl⟩⟩
  ·rename_i e;rw[JP h];constructor
   ·rintro⟨q,hq,rfl⟩;rcases F8.1 hq with rfl|hq
    ·omega
    grind
   ·rintro⟨q,hq,rfl⟩;exact⟨q,F8.2 (.inr hq),rfl⟩)
theorem Y48(h:AP n L)(h1:1<=o.2)(h2:o.1+o.2<=n)(hd:∀q∈L,o.1+o.2<=q.1\/q.1+q.2<=o.1):DU n (DC L o)=(DU n L).set (o.1+o.2-1) true:=
 IC (by grind [ω,PW]) (λi _=>by
  rw[X1 (by rw[PW];omega)];refine V5 ?_;rw[SC (QN h h1 h2 hd)]
  split
  ·rename_i e;exact⟨λ_=>rfl,λ_=>⟨o,F8.2 (.inl rfl),by omega⟩⟩
  ·rename_i e;rw[SC h];constructor
   ·rintro⟨q,hq,e2⟩;rcases F8.1 hq with rfl|hq
    ·omega
    grind
   ·rintro⟨q,hq,e2⟩;exact⟨q,F8.2 (.inr hq),e2⟩)
def GY(L:List Ob)(s z:Int):Bool:=L.any λo=>decide ((o.1:Int)<s+z/\s<o.1+o.2)
theorem Q4:GY L s z=true↔∃o∈L,(o.1:Int)<s+z/\s<o.1+o.2:=by simp[GY]
theorem V3K(h:AP n L)(hz:1<=z):GY L s z=(decide (A1 L s<L.length)||(decide (A6 L s<L.length)&&decide (((L[A6 L s]?.getD (0,0)).1:Int)<s+z))):=by
 refine V5 ?_;rw[Q4];simp only[ζW,ζd,ζc];constructor
 ·rintro⟨o,ho,h1,h2⟩;by_cases hs:(o.1:Int)<=s
  ·grind [ζo,OE]
  ·right;obtain⟨j,hj,rfl⟩:=ζo ho
   have hn:A6 L s<=j:=by
    rcases υ j (A6 L s)with X|Y
    ·have:=K0 X hj;omega
    ·exact Y
   refine⟨by omega,?_⟩;rw[η Ω]
   show (L[A6 L s].1:Int)<s+z
   rcases υ (A6 L s) j with X|Y
   ·have:=h.at (i:=A6 L s) Ω hj X;omega
   grind
 ·rintro(hf|⟨hn,hl⟩)
  ·have:=ID hf
   grind
  ·rw[η hn]at hl;have hl:(L[A6 L s].1:Int)<s+z:=hl;have hy:=MB hn;have:=(h.sz _ (μ hn)).1
   grind
def C5(L:List Ob)(n:Nat)(s z:Int):Int:=if z<1 then 15 else if s<0\/(n:Int)<=s\/(n:Int)-s<z then 11 else if GY L s z then 7 else 0
def CX(L:List Ob)(n:Nat)(s z:Int):List Ob:=if C5 L n s z=0 then DC L (s.toNat,z.toNat)else L
theorem YLm(h:C5 L n s z=0):1<=z/\0<=s/\s+z<=n/\GY L s z=false:=by
 unfold C5 at h
 grind
theorem XCZ(hs:0<=s)(hz:1<=z)(h:GY L s z=false):∀q∈L,s.toNat+z.toNat<=q.1\/q.1+q.2<=s.toNat:=λq hq=>by
 by_cases hc:(q.1:Int)<s+z/\s<q.1+q.2
 ·have:=Q4.2 ⟨q,hq,hc⟩;simp_all
 ·omega
theorem V9U(h:AP n L)(s z:Int):AP n (CX L n s z):=by
 unfold CX
 split
 ·rename_i he;obtain⟨h1,h2,h3,h4⟩:=YLm he;exact QN h Ω Ω (XCZ h2 h1 h4)
 ·exact h
theorem V9f(n:Nat):BV n []=List.replicate n false:=by unfold BV;exact IC (by simp) (λi hi=>by rw[JB];simp[at_,ξc];split <;> rfl)
theorem YL(n:Nat):DU n []=List.replicate n false:=by unfold DU;exact IC (by simp) (λi hi=>by rw[JB];simp[at_,ξc];split <;> rfl)
def Rec(w:World)(q T:Nat)(xs:List Value):Prop:=w.ownsRow 0 T xs.length (.slice (some ⟨q,0,none⟩) 1 1) 1 xs
theorem Rec.cell(h:Rec w q T xs)(hj:xs[j]?=some u):w.cell? ⟨q,j,none⟩=some u:=BP h hj
theorem Rec.cc(h : Rec w q T xs)(j : Nat)(hj : xs[j]? = some u := by exact rfl) : w.cell? ⟨q,j,none⟩ = some u := h.cell hj
theorem Rec.free(h:Rec w q T xs)(j:Nat):w.frozen? ⟨q,j,none⟩=false:=FK h j
theorem Rec.lt(h:Rec w q T xs):q<w.heap.size:=(BB h rfl).2
theorem Rec.k2{Q:Nat}{a:Value}{l:List Value}(H:Rec w Q T (a::b::l)):w.cell? ⟨Q,0,none⟩=some a∧w.cell? ⟨Q,1,none⟩=some b∧Q<w.heap.size:=⟨H.cc 0,H.cc 1,H.lt⟩
theorem Rec.k3{Q:Nat}{a:Value}{l:List Value}(H:Rec w Q T (a::b::c::l)):w.cell? ⟨Q,0,none⟩=some a∧w.cell? ⟨Q,1,none⟩=some b∧w.cell? ⟨Q,2,none⟩=some c∧Q<w.heap.size:=⟨H.cc 0,H.cc 1,H.cc 2,H.lt⟩
theorem Rec.k5{Q:Nat}{a:Value}{l:List Value}(H:Rec w Q T (a::b::c::d::e::l)):w.cell? ⟨Q,0,none⟩=some a∧w.cell? ⟨Q,1,none⟩=some b∧w.cell? ⟨Q,2,none⟩=some c∧w.cell? ⟨Q,3,none⟩=some d∧w.cell? ⟨Q,4,none⟩=some e∧Q<w.heap.size:=⟨H.cc 0,H.cc 1,H.cc 2,H.cc 3,H.cc 4,H.lt⟩
theorem Rec.k7{Q:Nat}{a f g:Value}{l:List Value}(H:Rec w Q T (a::b::c::d::e::f::g::l)):w.cell? ⟨Q,0,none⟩=some a∧w.cell? ⟨Q,1,none⟩=some b∧w.cell? ⟨Q,2,none⟩=some c∧w.cell? ⟨Q,3,none⟩=some d∧w.cell? ⟨Q,4,none⟩=some e∧w.cell? ⟨Q,5,none⟩=some f∧w.cell? ⟨Q,6,none⟩=some g∧Q<w.heap.size:=⟨H.cc 0,H.cc 1,H.cc 2,H.cc 3,H.cc 4,H.cc 5,H.cc 6,H.lt⟩
theorem Rec.k8{Q:Nat}{a f g h:Value}{l:List Value}(H:Rec w Q T (a::b::c::d::e::f::g::h::l)):w.cell? ⟨Q,0,none⟩=some a∧w.cell? ⟨Q,1,none⟩=some b∧w.cell? ⟨Q,2,none⟩=some c∧w.cell? ⟨Q,3,none⟩=some d∧w.cell? ⟨Q,4,none⟩=some e∧w.cell? ⟨Q,5,none⟩=some f∧w.cell? ⟨Q,6,none⟩=some g∧w.cell? ⟨Q,7,none⟩=some h∧Q<w.heap.size:=⟨H.cc 0,H.cc 1,H.cc 2,H.cc 3,H.cc 4,H.cc 5,H.cc 6,H.cc 7,H.lt⟩
theorem Rec.new(w:World)(T:Nat)(xs:List Value):Rec (w.alloc (.cells xs.toArray T)) w.heap.size T xs:=by
 have:=World.ownsRow_lit (base:=0) (e:=T) (size:=xs.length) w xs.toArray 1 (ζe _) (by unfold maxLen;omega) (by simp);exact this
theorem Rec.set(h:Rec w q T xs)(j:Nat)(u:Value):Rec (w.setCell ⟨q,j,none⟩ u) q T (xs.set j u):=by
 have:=(World.ownsRow.stored h j u).1;unfold Rec;rw[ω];exact this
theorem Rec.touch(h:Rec w q T xs)(t:AB S w w')(hS:¬S q):Rec w' q T xs:=BX h t (λg hg=>by cases hg;exact hS)
theorem Rec.gr(h:Rec w q T xs)(t:Gr w w'):Rec w' q T xs:=CM h t
theorem P5(h:w.ownsRow base E size v n xs)(hg:v.ownBlock=some g):∃cur,w.heap[g]?=some (.cells cur E (0,0)):=by
 obtain⟨_,⟨rfl,_⟩|⟨g',cap,cur,rfl,_,h3,_⟩⟩:=h
 ·cases hg
 ·cases hg;exact⟨cur,h3⟩
theorem AO{b1 b2 E1 E2 s1 s2:Nat}{v1 v2:Value}{n1 n2:Nat}{xs1 xs2:List Value}(h1:w.ownsRow b1 E1 s1 v1 n1 xs1)(h2:w.ownsRow b2 E2 s2 v2 n2 xs2)(he:E1≠E2){g1 g2:Nat}(hg1:v1.ownBlock=some g1)(hg2:v2.ownBlock=some g2):g1≠g2:=by
 intro e;subst e;obtain⟨c1,e1⟩:=P5 h1 hg1;obtain⟨c2,e2⟩:=P5 h2 hg2;rw[e1]at e2;simp only[Option.some.injEq,Obj.cells.injEq]at e2;exact he e2.2.1
theorem FE(h:w.ownsRow base E size v n xs):∃A c,v=.slice A n c/\n<=c/\c<=maxLen:=by
 obtain⟨_,⟨rfl,rfl⟩|⟨g',cap,cur,rfl,_,_,h4,h5,_⟩⟩:=h
 ·exact⟨none,0,rfl,ϑ _,ζe _⟩
 ·exact⟨_,_,rfl,h4,h5⟩
theorem AV(h:w.ownsRow base E size v n xs)(u:Value)(hq:∀g,v.ownBlock=some g->g≠q):(w.setCell ⟨q,j,none⟩ u).ownsRow base E size v n xs:=
 ZIq h (λg hg=>Below.heap_setCell _ _ _ _ (hq g hg))
theorem YB{c:Nat}{x:Value}(h:w.ownsRow base E 1 (.slice (some ⟨g,0,none⟩) (n+1) c) (n+1) (xs++[x])):w.ownsRow base E 1 (.slice (some ⟨g,0,none⟩) n c) n xs:=by
 obtain⟨h1,⟨h,_⟩|⟨g',cap,X,e1,e2,e3,e4,e5,e6,e7⟩⟩:=h
 ·cases h
 ·simp only[Value.slice.injEq,Option.some.injEq,Addr.mk.injEq,and_true,true_and]at e1;obtain⟨rfl,rfl⟩:=e1;have hl:xs.length=n:=by simp at h1;omega
  refine⟨by rw[hl,ξw],.inr ⟨g,c,X,rfl,e2,e3,by omega,e5,e6,?_⟩⟩;rw[ξw]at e7⊢;have:X.toList.take n=(X.toList.take (n+1)).take n:=by rw[List.take_take];congr 1;omega
  rw[this,e7,<-hl,List.take_left]
theorem VcC(z:Value)(n:Nat):(Builtin.zeroCells #[z] n).toList=List.replicate n z:=by
 unfold Builtin.zeroCells;apply ξn
 ·simp
 ·intro j h1 h2;simp[Nat.mod_one]
section
variable{P:Program}(w:World)
theorem JNG(t it ty e:TypeId)(k:IntKind)(base:Nat)(i:TypeInfo)(z:Value)(ht:P.underlying t=some (.slice e))(hit:P.underlying it=some (.int k))(hi:P.info? e=some i)(hz:i.zero=some z)
  (hsize:i.size=1) (hzs:z.cells=#[z]) (hz1:z.oneCell'=true)
  (v:Value) (n:Nat) (xs:List Value) (hown:w.ownsRow base e 1 v n xs) (m:Nat) (hm:0<m) (h63:n+m<=maxLen) (hbytes:(n+m)*i.bytes<=140737488355328) (hbase:base<=w.heap.size):
  ∃g cap w',(Builtin.append_ #[t,it] ty #[v,iI m]).run P w=.ok (.slice (some ⟨g,0,none⟩) (n+m) cap) w' ∧
   w'.ownsRow base e 1 (.slice (some ⟨g,0,none⟩) (n+m) cap) (n+m) (xs++List.replicate m z)/\w.grownBy w' v.ownBlock/\(v.ownBlock=some g\/g=w.heap.size)/\g<w'.heap.size:=by
 have hsmall:n+m<=9223372036854775807:=by simp only[maxLen]at h63;omega
 have hmb:(m:Int)*(i.bytes:Int)<=281474976710656:=by
  have h1:m*i.bytes<=(n+m)*i.bytes:=ζi _ Ω;have h2:((m*i.bytes:Nat):Int)=(m:Int)*(i.bytes:Int):=by push_cast;rfl
  omega
 have hw:IntKind.i64.wrap (m:Int)=(m:Int):=ζt _ Ω;have Xa:¬(m:Int)<0:=Ω
 have U:¬(281474976710656:Int)<(m:Int)*(i.bytes:Int):=Ω
 have O:∀(w:World),(asInt (iI (m:Int))).run P w=.ok (m:Int) w:=λ_=>by simp[asInt,asIntOf]
 have hmle:¬(m:Int)<=0:=Ω
 have Xb:max (m:Int) 0=(m:Int):=Ω
 have A:¬m=0:=Ω
 have hne:¬m*i.size=0:=by rw[hsize];omega
 have hl:xs.length=n:=by have:=hown.1;omega
 have L:(xs++List.replicate m z).length=n+m:=by simp[hl]
 have grown:∀(Y:Nat) (Xc:Option Nat),
   (w.drew.alloc (.cells ((xs++List.replicate m z).toArray++Builtin.zeroCells z.cells (grownCap w (n+m) Y e-(n+m))) e)).ownsRow base e 1
    (.slice (some ⟨w.heap.size,0,none⟩) (n+m) (grownCap w (n+m) Y e)) (n+m) (xs++List.replicate m z) ∧
   w.grownBy (w.drew.alloc (.cells ((xs++List.replicate m z).toArray++Builtin.zeroCells z.cells (grownCap w (n+m) Y e-(n+m))) e)) Xc:=by
  intro Y Xc;have Xf:=grownCap_ge w (n+m) Y e;have I:grownCap w (n+m) Y e<=maxLen:=grownCap_le_maxLen w (n+m) Y e h63;refine⟨⟨by omega,.inr ⟨w.heap.size,_,_,rfl,hbase,heap_alloc_new w.drew _,Xf,I,?_,?_⟩⟩,⟨rfl,rfl,rfl,by simp,λk hk _=>Below.heap_alloc w.drew _ k hk⟩⟩
  ·rw[Array.size_append,size_zeroCells,hzs,ζS,L];simp;omega
  ·rw[Array.toList_append,List.toList_toArray,ξw,<-L];exact List.take_left
 have B:Builtin.zeroCells z.cells m=(List.replicate m z).toArray:=by rw[hzs];apply Array.ext';rw[VcC]
 rcases hown.2 with⟨rfl,rfl⟩|⟨g,cap,J,rfl,Xg,hg,hnc,I,D,N⟩
 ·obtain rfl:xs=[]:=ζv hl;have M:¬(281474976710656<Builtin.nextslicecap m 0*i.bytes):=by rw[nextslicecap_zero hm];have:=hbytes;simp only[ξz]at this;omega
  have V:¬(9223372036854775807<(m:Int)):=Ω
  have Z:=grown 0 none;simp only[ξz,ζV]at Z⊢;refine⟨_,_,_,?_,Z.1,?_,.inr rfl,by simp⟩
  ·simp[Builtin.append_,run_underlying ht,run_underlying hit,sizeOf,typeInfo,zeroValue,hi,hz,hw,Xa,U,V,M,Question.forced,run_firstCells_none,newRow,grownCap,hsize,O,Xb,A];rw[B];simp
  ·exact Z.2
 ·by_cases X:n+m<=cap
  ·have Xe:n*i.size+0+(List.replicate m z).length<=J.size:=by rw[hsize,D];simp;omega
   have G:=run_storeCells_at P g (n*i.size) e (List.replicate m z) 0 J w hg (by simpa using Xe) (λu hu=>by rw[ξv hu];exact hz1);simp only[ξk,hsize,ξw]at G;refine⟨g,cap,w.setRow g (J.toList.take n++List.replicate m z++J.toList.drop (n+(List.replicate m z).length)).toArray,?_,⟨by omega,.inr ⟨g,cap,_,rfl,Xg,setRow_heap w g J _ e _ hg,X,I,?_,?_⟩⟩,⟨rfl,rfl,rfl,by simp,λk _ hk=>setRow_other w g k _ (λe=>hk (by simp[Value.ownBlock,e]))⟩,.inl rfl,?_⟩
   ·simp[Builtin.append_,run_underlying ht,run_underlying hit,sizeOf,typeInfo,zeroValue,hi,hz,hw,Xa,U,hsize,O,A,X,B,Addr.add_lit];simp at G;simp[G]
   ·rw[ξw]at D;simp;omega
   ·rw[ξw]at N D;rw[ξw,List.toList_toArray,N,ξr,<-ξr,<-L];exact List.take_left
   ·simp;exact(ζn.1 hg).1
  ·have M:¬(281474976710656<Builtin.nextslicecap (n+m) cap*i.bytes):=by have:=growslice_fits (show cap<n+m by omega) hbytes;omega
   have V:¬(9223372036854775807<((n:Int)+(m:Int))):=Ω
   have E:∀j u,xs[j]?=some u->w.cell? ((⟨g,0,none⟩:Addr).add j)=some u:=hown.cells (g:=g) rfl;have Xd:=run_firstCells_some (P:=P) w.drew i.size n ⟨g,0,none⟩ n cap xs (by rw[hsize,hl];omega) (by simpa using E);rw[hsize]at Xd;have Z:=grown cap (Value.ownBlock (.slice (some ⟨g,0,none⟩) n cap));refine⟨_,_,_,?_,Z.1,Z.2,.inr rfl,by simp⟩;simp[Builtin.append_,run_underlying ht,run_underlying hit,sizeOf,typeInfo,zeroValue,hi,hz,hw,Xa,U,V,M,Question.forced,Xd,newRow,grownCap,hsize,O,Xb,A,X,B];congr 2;apply Array.ext';simp
theorem Z2Z{o:Oper}{a:Act}{K:Act->World->Prop}{Q:Exit->Act->World->Prop}(s x:Operand)(t it:TypeId)
  (ho:o.op=.call {callee:=.builtin .append,args:=#[s,x],argTypes:=#[t,it]}) (e:TypeId) (k:IntKind) (base:Nat) (i:TypeInfo) (z:Value) (ht:P.underlying t=some (.slice e)) (hit:P.underlying it=some (.int k)) (hi:P.info? e=some i) (hz:i.zero=some z)
  (hsize:i.size=1) (hzs:z.cells=#[z]) (hz1:z.oneCell'=true)
  (v:Value) (n:Nat) (xs:List Value) (hs:a.eval s=v) (hown:w.ownsRow base e 1 v n xs) (m:Nat) (hx:a.eval x=iI m) (hm:0<m) (h63:n+m<=maxLen) (hbytes:(n+m)*i.bytes<=140737488355328) (hbase:base<=w.heap.size)
  (h:∀g cap w',w'.ownsRow base e 1 (.slice (some ⟨g,0,none⟩) (n+m) cap) (n+m) (xs++List.replicate m z)->w.grownBy w' v.ownBlock->(v.ownBlock=some g\/g=w.heap.size)->g<w'.heap.size->K (a.put o.dst (.slice (some ⟨g,0,none⟩) (n+m) cap)) w'):o.wp P a w K Q:=by
 obtain⟨g,cap,w',hr,h2,h3,h4,h5⟩:=JNG (P:=P) w t it o.type e k base i z ht hit hi hz hsize hzs hz1 v n xs hown m hm h63 hbytes hbase;unfold Oper.wp execOp;simp only[ho,resolve,invoke,builtin,Sem.run_bind,Sem.run_pure,Result.andThen_ok,List.map_toArray,ξp,List.map_nil,hs,hx,hr];exact h g cap w' h2 h3 h4 h5
theorem ZfD{ops:Array Oper}{rest:List Oper}{o:Oper}{a:Act}{Q:Exit->Act->World->Prop}(hgd:o.guard=none)(s x:Operand)(t it:TypeId)
  (ho:o.op=.call {callee:=.builtin .append,args:=#[s,x],argTypes:=#[t,it]}) (e:TypeId) (k:IntKind) (base:Nat) (i:TypeInfo) (z:Value) (ht:P.underlying t=some (.slice e)) (hit:P.underlying it=some (.int k)) (hi:P.info? e=some i) (hz:i.zero=some z)
  (hsize:i.size=1) (hzs:z.cells=#[z]) (hz1:z.oneCell'=true)
  (v:Value) (n:Nat) (xs:List Value) (hs:a.eval s=v) (hown:w.ownsRow base e 1 v n xs) (m:Nat) (hx:a.eval x=iI m) (hm:0<m) (h63:n+m<=maxLen) (hbytes:(n+m)*i.bytes<=140737488355328) (hbase:base<=w.heap.size)
  (h:∀g cap w',w'.ownsRow base e 1 (.slice (some ⟨g,0,none⟩) (n+m) cap) (n+m) (xs++List.replicate m z)->w.grownBy w' v.ownBlock->(v.ownBlock=some g\/g=w.heap.size)->g<w'.heap.size->wpList P ops Q rest (a.put o.dst (.slice (some ⟨g,0,none⟩) (n+m) cap)) w'):wpList P ops Q (o :: rest) a w:=
 wpList_plain hgd λ_ hK=>Z2Z w s x t it ho e k base i z ht hit hi hz hsize hzs hz1 v n xs hs hown m hx hm h63 hbytes hbase λg cap w' h2 h3 h4 h5=>hK _ _ (h g cap w' h2 h3 h4 h5)
theorem YNv(t e:TypeId)(base:Nat)(i:TypeInfo)(z:Value)(ht:P.underlying t=some (.slice e))(hi:P.info? e=some i)(hz:i.zero=some z)
  (hzs:z.cells=#[z]) (hz1:z.oneCell'=true) {cap N:Nat}  (hown:w.ownsRow base e 1 (.slice (some ⟨g,0,none⟩) N cap) N xs) (o n c:Nat) (hn:0<n) (hon:o+n<=N):
  ∃w',(∀ty,(Builtin.clear_ #[t] ty #[.slice (some ⟨g,o,none⟩) n c]).run P w=.ok (.tuple #[]) w')/\w'.ownsRow base e 1 (.slice (some ⟨g,0,none⟩) N cap) N (xs.take o++List.replicate n z++xs.drop (o+n))/\w.grownBy w' (some g):=by
 have V:Builtin.zeroCells z.cells n=(List.replicate n z).toArray:=by rw[hzs];apply Array.ext';rw[VcC]
 obtain⟨hl,⟨h',_⟩|⟨g',cap',Y,h',hb,hg,M,U,O,X⟩⟩:=hown
 ·simp at h'
 ·simp only[Value.slice.injEq,Option.some.injEq,Addr.mk.injEq,and_true,true_and]at h';obtain⟨rfl,rfl⟩:=h';rw[ξw]at hl O X;have Z:=run_storeCells_at P g o e (List.replicate n z) 0 Y w hg (by simp;omega) (λu hu=>by rw[ξv hu];exact hz1);simp only[ξk,ζG]at Z;have J:n≠0:=Ω
  have hlen:xs.length=N:=hl;refine⟨_,λty=>?_,⟨by simp;omega,.inr ⟨g,cap,(Y.toList.take o++List.replicate n z++Y.toList.drop (o+n)).toArray,rfl,hb,setRow_heap w g Y _ e _ hg,M,U,by simp;omega,?_⟩⟩,⟨rfl,rfl,rfl,by simp,λk _ hk=>setRow_other w g k _ (λe=>hk (by simp[e]))⟩⟩
  ·simp[Builtin.clear_,run_underlying ht,zeroValue,typeInfo,hi,hz,V,J];simp at Z;simp[Z]
  ·rw[ξw,List.toList_toArray,<-X];apply List.ext_getElem?;intro j;rw[ξP];by_cases hj:j<N
   ·rw[θ hj];by_cases h1:j<o
    ·rw[ξr,ξr,ζU (by simp;omega),ζU (by simp;omega),ξP,ξP,θ h1,θ h1,ξP,θ hj]
    ·by_cases h2:j<o+n
     ·rw[ξr,ξr,ζ5 (by simp;omega),ζU (by simp;omega),ζ5 (by simp;omega),ζU (by simp;omega)];congr 1;simp;omega
     ·rw[ζ5 (by simp;omega),ζ5 (by simp;omega),List.getElem?_drop,List.getElem?_drop,ξP,θ (by simp;omega)];congr 1;simp;omega
   ·rw[ψ hj,ζH (by simp;omega)]
end
structure Pl where
 pg:Nat
 rm:Nat
 tk:List Bool
 bk:List Nat
 wd:List Nat
def Pl.used(p:Pl):Nat:=cnt (at_ p.tk) p.tk.length
structure E5(p:Pl):Prop where
 pg:BI p.pg=true
 pg2:p.pg<=256
 rm:1<=p.rm/\p.rm<=4096
 wl:p.wd.length=p.tk.length*p.pg
 w64:∀x∈p.wd,x<18446744073709551616
 nd:p.bk.Nodup
 bl:∀f∈p.bk,f<p.tk.length/\at_ p.tk f=false
 us:p.used+p.bk.length=p.tk.length
 le:p.tk.length<=p.rm
def CI(l:List Nat):List Value:=l.map λx=>uU (x:Nat)
def DN(l:List Nat):List Value:=l.map λx=>iI (x:Nat)
def X5(w:World)(S:Nat->Prop)(q:Nat)(p:Pl):Prop:=
 ∃vw vt vb hi ts,Rec w q 185 [vw,vt,vb,iI p.rm,iI p.pg,iI p.used,iI hi,iI ts] ∧
  w.ownsRow 0 22 1 vw p.wd.length (CI p.wd)/\w.ownsRow 0 4 1 vt p.tk.length (p.tk.map Value.bool)/\w.ownsRow 0 3 1 vb p.bk.length (DN p.bk) ∧
  (∀g,vw.ownBlock=some g->S g)/\(∀g,vt.ownBlock=some g->S g)/\(∀g,vb.ownBlock=some g->S g)
def plus(S:Nat->Prop)(w:World)(k:Nat):Prop:=S k\/w.heap.size<=k
structure CD(w:World)(S:Nat->Prop)(q:Nat)(p:Pl):Prop where
 ok:E5 p
 sq:S q
 row:X5 w S q p
theorem CD.touch{T:Nat->Prop}{p:Pl}(h:CD w S q p)(t:AB T w w')(hS:∀k,S k->k<w.heap.size->¬T k):CD w' S q p:=by
 obtain⟨h1,h2,vw,vt,vb,hi,ts,hr,o1,o2,o3,s1,s2,s3⟩:=h;exact⟨h1,h2,vw,vt,vb,hi,ts,hr.touch t (hS _ h2 hr.lt),BX o1 t (λg hg=>hS g (s1 g hg) (BB o1 hg).2),BX o2 t (λg hg=>hS g (s2 g hg) (BB o2 hg).2),BX o3 t (λg hg=>hS g (s3 g hg) (BB o3 hg).2),s1,s2,s3⟩
theorem CD.gr{p:Pl}(h:CD w S q p)(t:Gr w w'):CD w' S q p:=h.touch (t.touch (λ_=>False)) (λ_ _ _ h=>h)
theorem ZpD(h:i<l.length):(CI l)[i]?=some (uU (l[i]:Nat)):=by simp[CI,h]
theorem XS1(h:i<l.length):(DN l)[i]?=some (iI (l[i]:Nat)):=by simp[DN,h]
theorem WE{l:List Bool}(h:i<l.length):(l.map Value.bool)[i]?=some (.bool (at_ l i)):=by simp[at_,h]
section
variable{p:Pl}
theorem SK(hP:CD w S q p):cQ 165 #[pP q] w (iI p.pg):=by
 obtain⟨vw,vt,vb,hi,ts,hr,-⟩:=hP.row;have c4:=hr.cc 4;clear hr hP;go_enter func165,ntmps165;go_wp2;go_ret;exact⟨rfl,rfl⟩
def DQ(p:Pl)(f:Int):Int:=if decide (0<=f)&&at_ p.tk f.toNat then 0 else 6
theorem NL(hP:CD w S q p)(f:Int):cQ 212 #[pP q,iI f] w (iI (DQ p f)):=by
 obtain⟨vw,vt,vb,hi,ts,hr,-,ot,-⟩:=hP.row;have c1:=hr.cc 1;obtain⟨A,c,rfl,hc1,X⟩:=FE ot;unfold maxLen at X;have hlr:=hP.ok.le;have hrm:=hP.ok.rm.2;by_cases h0:f<0
 ·have E:DQ p f=6:=by unfold DQ;rw[ζ Ω];rfl
  rw[E];have d0:decide (f<0)=true:=φ h0;clear hr hP ot E;go_enter func212,ntmps212;go_wp2;go_ret;exact⟨rfl,rfl⟩
 ·obtain⟨j,rfl⟩:∃j:Nat,f=j:=⟨f.toNat,by omega⟩;have d0:decide ((j:Int)<0)=false:=ζ h0;by_cases h1:p.tk.length<=j
  ·have E:DQ p j=6:=by unfold DQ;rw[δ,PG h1,ψw];rfl
   rw[E];have d1:decide (p.tk.length<=j)=true:=φ h1;clear hr hP ot E;go_enter func212,ntmps212;go_wp2;go_ret;exact⟨rfl,rfl⟩
  ·have d1:decide (p.tk.length<=j)=false:=ζ h1;obtain⟨g,c',e1,-,-,-,-⟩:=EX ot Ω;simp only[Value.slice.injEq,true_and]at e1;obtain⟨rfl,rfl⟩:=e1;have k:=BP ot (WE (i:=j) Ω);have hj:(j:Int)<(p.tk.length:Int):=Ω
   cases hb:at_ p.tk j with
   | true=>
    have E:DQ p j=0:=by unfold DQ;rw[δ,hb,φ Ω];rfl
    rw[E];rw[hb]at k;clear hr hP ot E hb;go_enter func212,ntmps212;go_wp2;go_ret;exact⟨rfl,rfl⟩
   | false=>
    have E:DQ p j=6:=by unfold DQ;rw[δ,hb,ψw];rfl
    rw[E];rw[hb]at k;clear hr hP ot E hb;go_enter func212,ntmps212;go_wp2;go_ret;exact⟨rfl,rfl⟩
theorem QLE(hP:CD w S q p)(hf:f<p.tk.length):f*p.pg+p.pg<=p.wd.length/\p.wd.length<=1048576:=by
 have h1:=hP.ok.wl;have h2:=hP.ok.le;have h3:=hP.ok.rm.2;have h4:=hP.ok.pg2;constructor
 ·rw[h1,<-ξj];exact ζi _ hf
 ·rw[h1];exact χ (ψt (χ h2 h3) h4) (by decide)
theorem XlR(hP:CD w S q p)(hf:f<p.tk.length):∃g c hi ts vt vb,Rec w q 185 [.slice (some ⟨g,0,none⟩) p.wd.length c,vt,vb,iI p.rm,iI p.pg,iI p.used,iI hi,iI ts] ∧
  w.ownsRow 0 22 1 (.slice (some ⟨g,0,none⟩) p.wd.length c) p.wd.length (CI p.wd)/\w.ownsRow 0 4 1 vt p.tk.length (p.tk.map Value.bool)/\w.ownsRow 0 3 1 vb p.bk.length (DN p.bk) ∧
  S g/\(∀g,vt.ownBlock=some g->S g)/\(∀g,vb.ownBlock=some g->S g)/\p.wd.length<=c/\c<=9223372036854775807:=by
 obtain⟨h1,h2,vw,vt,vb,hi,ts,hr,o1,o2,o3,s1,s2,s3⟩:=hP;have hpg:=DA h1.pg
 have X:p.wd.length≠0:=by
  rw[h1.wl];have:1<=p.tk.length*p.pg:=Nat.mul_pos Ω Ω;omega
 obtain⟨g,c,rfl,-,h3,h4,-⟩:=EX o1 X;unfold maxLen at h4;exact⟨g,c,hi,ts,vt,vb,hr,o1,o2,o3,s1 g rfl,s2,s3,h3,by omega⟩
theorem ZB{c:Nat}{vt vb v3 v5 v6 v7:Value}(hr:Rec w q 185 [.slice (some ⟨g,0,none⟩) n c,vt,vb,v3,iI pg,v5,v6,v7])(hc:n<=c)(hc2:c<=9223372036854775807)
   (hp:1<=pg) (h1:f*pg+pg<=n) (h2:n<=1048576):cQ 225 #[pP q,iI f] w (.slice (some ⟨g,f*pg,none⟩) pg pg):=by
 have c0:=hr.cc 0;have c4:=hr.cc 4;obtain⟨t,ht⟩:∃t,t=f*pg:=⟨_,rfl⟩;rw[<-ht]at h1⊢;have X:(f:Int)*(pg:Int)=(t:Int):=by rw[ht];push_cast;rfl
 have hw:IntKind.i64.wrap ((f:Int)*(pg:Int))=(t:Int):=by rw[X];exact ζt _ Ω
 have b1:(t:Int)+(pg:Int)<=(c:Int):=Ω
 have n0:¬pg=0:=Ω
 have n1:¬t+pg=t:=Ω
 clear hr ht;go_enter func225,ntmps225;go_wp2;go_ret;refine⟨?_,rfl⟩
 show Ending.returned (.slice (some ⟨g,t,none⟩) (t+pg-t) (t+pg-t))=_
 rw[ξL]
def C0(p:Pl)(f a:Int):Int:=if DQ p f=0 then (if 0<=a/\a<p.pg then 0 else 11)else 6
theorem ZNg{p:Pl}{f:Int}(h:DQ p f=0):∃j:Nat,f=j/\j<p.tk.length/\at_ p.tk j=true:=by
 unfold DQ at h;cases hb:(decide (0<=f)&&at_ p.tk f.toNat)with
 | false=>rw[hb]at h;cases h
 | true=>
  simp at hb;exact⟨f.toNat,by omega,FQ hb.2,hb.2⟩
theorem VZN(p:Pl)(f:Int):DQ p f=0\/DQ p f=6:=by unfold DQ;split <;> simp
def YvI(w:World)(S:Nat->Prop)(q:Nat)(p:Pl)(f a:Int)(e:Ending)(w':World):Prop:=w=w' ∧
 ((C0 p f a≠0/\e=.returned (.tuple #[.pointer none,iI (C0 p f a)])) ∨
  (C0 p f a=0/\∃g:Nat,S g/\e=.returned (.tuple #[.pointer (some ⟨g,f.toNat*p.pg+a.toNat,none⟩),iI 0])/\w.cell? ⟨g,f.toNat*p.pg+a.toNat,none⟩=some (uU (p.wd.getD (f.toNat*p.pg+a.toNat) 0:Nat))/\w.frozen? ⟨g,f.toNat*p.pg+a.toNat,none⟩=false ∧
   ∀x:Nat,x<18446744073709551616->CD (w.setCell ⟨g,f.toNat*p.pg+a.toNat,none⟩ (.int .u64 x)) S q {p with wd:=p.wd.set (f.toNat*p.pg+a.toNat) x}))
theorem YEA(l:List Nat)(i x:Nat):(CI l).set i (uU (x:Nat))=CI (l.set i x):=by unfold CI;rw[ξV]
theorem ZP{p:Pl}(h:E5 p)(i x:Nat)(hx:x<18446744073709551616):E5 {p with wd:=p.wd.set i x}:=
 ⟨h.pg,h.pg2,h.rm,by simp[h.wl],λy hy=>by rcases ζM hy with h1|h1;exact h.w64 y h1;exact h1▸hx,h.nd,h.bl,h.us,h.le⟩
theorem QK(hP:CD w S q p)(f a:Int):Calls prog 228 #[pP q,iI f,iI a] w (YvI w S q p f a):=by
 have HP:=ι hP;rcases VZN p f with hc|hc
 ·obtain⟨j,rfl,hj,hat⟩:=ZNg hc;obtain⟨g,c,hi,ts,vt,vb,hr,o1,o2,o3,sg,s2,s3,L,D⟩:=XlR hP hj;obtain⟨I,O⟩:=QLE hP hj;have c4:=hr.cc 4;have hpg:=DA hP.ok.pg;have HR:=ι hr;have HC:=ι hc;have X:=ι o1;have HS:=ι (ξ sg (ξ s2 s3));have U:=ι o2;have V:=ι o3;have hp2:=hP.ok.pg2;clear hr o1 o2 o3 sg s2 s3 hP;by_cases Y:a<0
  ·have E:C0 p j a=11:=by unfold C0;rw[θ hc,ψ Ω]
   have HE:=ι E;have d0:decide (a<0)=true:=φ Y;clear hc E;go_enter func228,ntmps228;go_wp2_with(go_at_call 212;refine(NL HP.o j).mono ?_;rintro e w1 ⟨rfl,rfl⟩;rw[HC.o]);go_ret2;exact⟨rfl,.inl ⟨by rw[HE.o];decide,by rw[HE.o];rfl⟩⟩
  ·obtain⟨b,rfl⟩:∃b:Nat,a=b:=⟨a.toNat,by omega⟩;have d0:decide ((b:Int)<0)=false:=ζ Y;by_cases M:p.pg<=b
   ·have E:C0 p j b=11:=by unfold C0;rw[θ hc,ψ Ω]
    have HE:=ι E;have d1:decide (p.pg<=b)=true:=φ M;clear hc E;go_enter func228,ntmps228;go_wp2_with(go_at_call 212;refine(NL HP.o j).mono ?_;rintro e w1 ⟨rfl,rfl⟩;rw[HC.o]);go_ret2;exact⟨rfl,.inl ⟨by rw[HE.o];decide,by rw[HE.o];rfl⟩⟩
   ·have E:C0 p j b=0:=by unfold C0;rw[θ hc,θ Ω]
    have HE:=ι E;have d1:decide (p.pg<=b)=false:=ζ M;have hlt:(b:Int)<(p.pg:Int):=Ω
    clear hc E;go_enter func228,ntmps228
    go_wp2_with(first
     | (go_at_call 212;refine(NL HP.o j).mono ?_;rintro e w1 ⟨rfl,rfl⟩;rw[HC.o])
     | (go_at_call 225;refine(ZB HR.o L D Ω I O).mono ?_;rintro e w1 ⟨rfl,rfl⟩))
    go_ret2;obtain⟨i,J⟩:∃i,i=j*p.pg+b:=⟨_,rfl⟩;have N:i<p.wd.length:=Ω
    have k:=BP X.o (ZpD N);refine⟨rfl,.inr ⟨HE.o,g,HS.o.1,by rw[δ,δ];rfl,?_,FK X.o _,λx hx=>?_⟩⟩
    ·rw[δ,δ,<-J,k,β,η N];rfl
    ·rw[δ,δ,<-J];have Z:=(World.ownsRow.stored X.o i (uU (x:Nat))).1;rw[YEA]at Z;refine⟨ZP HP.o.ok i x hx,HP.o.sq,_,vt,vb,hi,ts,AV HR.o _ (λg' hg'=>?_),by simpa using Z,AV U.o _ (λg' hg'=>?_),AV V.o _ (λg' hg'=>?_),λg' hg'=>by cases hg';exact HS.o.1,HS.o.2.1,HS.o.2.2⟩
     ·exact AO HR.o X.o (by decide) hg' rfl
     ·exact AO U.o X.o (by decide) hg' rfl
     ·exact AO V.o X.o (by decide) hg' rfl
 ·have E:C0 p f a=6:=by unfold C0;rw[ψ Ω]
  have HE:=ι E;have HC:=ι hc;clear hP hc E;go_enter func228,ntmps228;go_wp2_with(go_at_call 212;refine(NL HP.o f).mono ?_;rintro e w1 ⟨rfl,rfl⟩;rw[HC.o]);go_ret2;exact⟨rfl,.inl ⟨by rw[HE.o];decide,by rw[HE.o];rfl⟩⟩
def J6(p:Pl)(f a:Int):Nat:=if C0 p f a=0 then p.wd.getD (f.toNat*p.pg+a.toNat) 0 else 0
def KN(p:Pl)(f a:Int)(x:Nat):Pl:=if C0 p f a=0 then {p with wd:=p.wd.set (f.toNat*p.pg+a.toNat) x}else p
theorem Xn2(hP:CD w S q p)(f a:Int):cQ 218 #[pP q,iI f,iI a] w (.tuple #[uU (J6 p f a:Nat),iI (C0 p f a)]):=by
 have HP:=ι hP;clear hP;by_cases hc:C0 p f a=0
 ·have HC:=ι hc;have HV:Hid (J6 p f a=p.wd.getD (f.toNat*p.pg+a.toNat) 0):=⟨by unfold J6;rw[θ hc]⟩;clear hc;go_enter func218,ntmps218;go_wp2_with(go_at_call 228;refine(QK HP.o f a).mono ?_;rintro e w1 ⟨rfl,⟨h,-⟩|⟨-,g,-,rfl,k,-,-⟩⟩;(exact absurd HC.o h));go_ret2;exact⟨BG (by rw[HV.o,β];rfl) (BJ HC.o.symm),rfl⟩
 ·have HC:=ι hc;obtain⟨c,hce⟩:∃c,c=C0 p f a:=⟨_,rfl⟩;have hc0:(c !=0)=true:=by rw[hce];simpa using hc
  have X:=ι hce.symm;have HV:Hid (J6 p f a=0):=⟨by unfold J6;rw[ψ hc]⟩;clear hc hce;go_enter func218,ntmps218;go_wp2_with(go_at_call 228;refine(QK HP.o f a).mono ?_;rintro e w1 ⟨rfl,⟨-,rfl⟩|⟨h,-⟩⟩;rotate_left;(exact absurd h HC.o);rw[X.o]);go_ret2;exact⟨BG (by rw[HV.o];rfl) (BJ X.o.symm),rfl⟩
def JmU(w:World)(S:Nat->Prop)(q:Nat)(p:Pl)(f a:Int)(x:Nat)(e:Ending)(w':World):Prop:=e=.returned (iI (C0 p f a))/\AB S w w'/\CD w' S q (KN p f a x)
theorem YBJ(hP:CD w S q p)(f a:Int)(x:Nat)(hx:x<18446744073709551616):Calls prog 204 #[pP q,iI f,iI a,uU x] w (JmU w S q p f a x):=by
 have HP:=ι hP;clear hP;by_cases hc:C0 p f a=0
 ·have HC:=ι hc;have HV:Hid (KN p f a x={p with wd:=p.wd.set (f.toNat*p.pg+a.toNat) x}):=⟨by unfold KN;rw[θ hc]⟩;clear hc;go_enter func204,ntmps204;go_wp2_with(go_at_call 228;refine(QK HP.o f a).mono ?_;rintro e w1 ⟨rfl,⟨h,-⟩|⟨-,g,sg,rfl,k,kf,hs⟩⟩;(exact absurd HC.o h);have X:=ι (ξ sg hs);clear sg hs);go_ret;exact⟨AM HC.o.symm,(AB.refl S w).setCell (λ_=>X.o.1) _,by rw[HV.o];exact X.o.2 x hx⟩
 ·have HC:=ι hc;obtain⟨c,hce⟩:∃c,c=C0 p f a:=⟨_,rfl⟩;have hc0:(c==0)=false:=by rw[hce];simpa using hc
  have Y:=ι hce.symm;have HV:Hid (KN p f a x=p):=⟨by unfold KN;rw[ψ hc]⟩;clear hc hce;go_enter func204,ntmps204;go_wp2_with(go_at_call 228;refine(QK HP.o f a).mono ?_;rintro e w1 ⟨rfl,⟨-,rfl⟩|⟨h,-⟩⟩;rotate_left;(exact absurd h HC.o);rw[Y.o]);go_ret;exact⟨AM Y.o.symm,AB.refl S w,by rw[HV.o];exact HP.o⟩
end
def EW(n:Int):Bool:=decide (1<=n)&&decide (n<=4096)
def DZ(n:Int):Bool:=BI n&&decide (n<=256)
def Pl.none(pg rm:Nat):Pl:=⟨pg,rm,[],[],[]⟩
theorem Xgr{rm:Nat}(h1:EW rm=true)(h2:DZ pg=true):E5 (Pl.none pg rm):=by
 unfold EW at h1;unfold DZ at h2;simp at h1 h2;exact⟨h2.1,by show pg<=256;omega,by show 1<=rm/\rm<=4096;omega,by simp[Pl.none],λx h=>(by cases h),ξM,λf h=>(by cases h),rfl,ζe _⟩
def VuW(w:World)(n k:Int)(e:Ending)(w':World):Prop:=
 ((EW n&&DZ k)=false/\e=.returned (.tuple #[.pointer none,iI 5])/\w=w') ∨
 ((EW n&&DZ k)=true/\e=.returned (.tuple #[pP w.heap.size,iI 0])/\Gr w w'/\CD w' (λb=>w.heap.size<=b) w.heap.size (Pl.none k.toNat n.toNat))
theorem XXu(n k:Int)(hk:k<=9223372036854775807)(w:World):Calls prog 76 #[iI n,iI k] w (VuW w n k):=by
 have X:((EW n&&DZ k)=false/\(decide (n<1)=true\/(decide (n<1)=false/\decide (4096<n)=true)\/(decide (n<1)=false/\decide (4096<n)=false/\CL k=false)\/(decide (n<1)=false/\decide (4096<n)=false/\CL k=true/\decide (256<k)=true))) ∨
   ((EW n&&DZ k)=true/\decide (n<1)=false/\decide (4096<n)=false/\CL k=true/\decide (256<k)=false):=by
  have hb:=MD k;unfold EW DZ;rw[hb];by_cases h1:n<1
  ·exact .inl ⟨by rw[ζ (show ¬1<=n by omega)];rfl,.inl (φ h1)⟩
  ·by_cases h2:4096<n
   ·exact .inl ⟨by rw[ζ (show ¬n<=4096 by omega)];simp,.inr (.inl ⟨ζ h1,φ h2⟩)⟩
   ·rw[φ (show 1<=n by omega),φ (show n<=4096 by omega)];cases hp:CL k with
    | false=>exact .inl ⟨rfl,.inr (.inr (.inl ⟨ζ h1,ζ h2,rfl⟩))⟩
    | true=>
     by_cases h3:256<k
     ·exact .inl ⟨by rw[ζ (show ¬k<=256 by omega)];simp,.inr (.inr (.inr ⟨ζ h1,ζ h2,rfl,φ h3⟩))⟩
     ·exact .inr ⟨by rw[φ (show k<=1024 by omega),φ (show k<=256 by omega)];rfl,ζ h1,ζ h2,rfl,ζ h3⟩
 rcases X with⟨hf,hw⟩|⟨ht,h1,h2,h3,h4⟩
 ·have HF:=ι hf;obtain⟨b,hb⟩:∃b,b=CL k:=⟨_,rfl⟩;have HB:=ι hb.symm;rw[<-hb]at hw;clear hf hb;rcases hw with h1|⟨h1,h2⟩|⟨h1,h2,rfl⟩|⟨h1,h2,rfl,h3⟩
  all_goals
   go_enter func76,ntmps76;go_wp2_with(go_at_call 115;refine(JF k hk _).mono ?_;rintro e w1 ⟨rfl,rfl⟩;rw[HB.o]);go_ret2;exact .inl ⟨HF.o,rfl,rfl⟩
 ·have HF:=ι ht;have HB:=ι h3;have hn:=of_decide_eq_false h1;obtain⟨m,rfl⟩:∃m:Nat,n=m:=⟨n.toNat,by omega⟩;have Y:=(ζ6.1 (ζ6.1 ht).2).1;have hkb:=DA Y;obtain⟨g,rfl⟩:∃g:Nat,k=g:=⟨k.toNat,by omega⟩;clear ht h3 hn Y;go_enter func76,ntmps76;go_wp2_with(go_at_call 115;refine(JF _ hk _).mono ?_;rintro e w1 ⟨rfl,rfl⟩;rw[HB.o]);go_ret2;obtain⟨hr,hp⟩:=ζ6.1 HF.o;refine .inr ⟨HF.o,rfl,(Gr.refl _).alloc _,?_⟩;rw[δ,δ];refine⟨Xgr hr hp,ϑ _,.slice none 0 0,.slice none 0 0,.slice none 0 0,0,0,Rec.new _ _ _,G5 _ _ _ _,G5 _ _ _ _,G5 _ _ _ _,(λg h=>by cases h),(λg h=>by cases h),(λg h=>by cases h)⟩
def Pl.next(p:Pl):Nat:=if p.bk=[]then p.tk.length else p.bk.getLastD 0
def GE(l:List Nat)(i n:Nat):List Nat:=l.take i++List.replicate n 0++l.drop (i+n)
def Pl.fresh(p:Pl):Pl:=if p.bk=[]then {p with tk:=p.tk++[false],wd:=p.wd++List.replicate p.pg 0}else {p with bk:=p.bk.dropLast}
def Pl.take(p:Pl):Pl:={p.fresh with tk:=p.fresh.tk.set p.next true,wd:=GE p.fresh.wd (p.next*p.pg) p.pg}
theorem YGK(h:i+n<=l.length):(GE l i n).length=l.length:=by unfold GE;simp;omega
theorem YMA(h:i+n<=l.length)(j:Nat):(GE l i n).getD j 0=if i<=j/\j<i+n then 0 else l.getD j 0:=by
 unfold GE;simp only[β];by_cases h1:j<i
 ·rw[ψ Ω,ξr,ζU (by simp;omega),ξP,θ h1]
 ·by_cases h2:j<i+n
  ·rw[θ Ω,ξr,ζ5 (by simp;omega),ζU (by simp;omega),ξc]
   split <;> rfl
  ·rw[ψ Ω,ζ5 (by simp;omega),List.getElem?_drop];congr 2;simp;omega
theorem YWy:(prog.info? 3).map (λi=>(i.zero,i.size,i.bytes))=some (some (iI 0),1,8):=by kernel_rfl
theorem Vck:(prog.info? 4).map (λi=>(i.zero,i.size,i.bytes))=some (some (.bool false),1,1):=by kernel_rfl
theorem QO(l:List Bool):cnt (at_ (l++[false])) (l++[false]).length=cnt (at_ l) l.length:=by
 have h1:(l++[false]).length=l.length+1:=by simp
 rw[h1,CN];have h2:at_ (l++[false]) l.length=false:=by simp[at_]
 have h3:cnt (at_ (l++[false])) l.length=cnt (at_ l) l.length:=CQ (λi hi=>by simp[at_,ζU hi]);rw[h2,h3];rfl
def SS(w:World)(S:Nat->Prop)(q:Nat)(p:Pl)(e:Ending)(w':World):Prop:=e=.returned (iI (p.next:Nat))/\AB S w w'/\X5 w' (plus S w) q p.fresh
section
variable{p:Pl}
theorem VPE(hP:CD w S q p)(hb:p.bk≠[]):Calls prog 224 #[pP q] w (SS w S q p):=by
 obtain⟨ok,sq,vw,vt,vb,hi,ts,hr,o1,o2,o3,s1,s2,s3⟩:=hP;obtain⟨bi,f,X⟩:∃bi f,p.bk=bi++[f]:=⟨p.bk.dropLast,p.bk.getLast hb,(ξQ hb).symm⟩;have hN:p.next=f:=by unfold Pl.next;rw[ψ hb,X];simp
 have hF:p.fresh={p with bk:=bi}:=by unfold Pl.fresh;rw[ψ hb,X];simp
 have hbl:p.bk.length<=4096:=by have:=ok.us;have:=ok.le;have:=ok.rm.2;omega
 have Z:p.bk.length=bi.length+1:=by rw[X];simp
 obtain⟨gb,cb,rfl,-,O,I,hgl⟩:=EX o3 Ω;have k:=BP o3 (XS1 (i:=bi.length) Ω);have V:p.bk[bi.length]' Ω=f:=by simp[X]
 rw[V]at k;have Y:=o3;rw[X]at Y;have e1:(bi++[f]).length=bi.length+1:=by simp
 have e2:DN (bi++[f])=DN bi++[iI (f:Nat)]:=by simp[DN]
 rw[e1,e2]at Y;have J:=YB Y;have c2:=hr.cc 2;rw[Z]at c2 O;have cf:=hr.free 2;have HF:=ι hF;have HN:=ι hN;have HR:=ι hr;have H1:=ι o1;have H2:=ι o2;have H3:=ι J;have HO3:=ι o3;unfold maxLen at I;obtain⟨N,U⟩:∃N,N=bi.length:=⟨_,rfl⟩;rw[<-U]at c2 Z k O;have M:=ι U;clear hr o1 o2 o3 Y X hF hN e1 e2 J hb V U;go_enter func224,ntmps224;go_wp2;go_ret;refine⟨by rw[HN.o];rfl,(AB.refl S w).setCell (λ_=>sq) _,?_⟩;rw[HF.o];refine⟨vw,vt,.slice (some ⟨gb,0,none⟩) N cb,hi,ts,HR.o.set 2 _,AV H1.o _ (λg hg=>?_),AV H2.o _ (λg hg=>?_),?_,λg hg=>.inl (s1 g hg),λg hg=>.inl (s2 g hg),λg hg=>.inl (s3 g hg)⟩
 ·exact AO H1.o HR.o (by decide) hg rfl
 ·exact AO H2.o HR.o (by decide) hg rfl
 ·have:=H3.o;rw[<-M.o]at this
  show World.ownsRow _ 0 _ 1 _ bi.length _
  rw[<-M.o];exact AV this _ (λg hg=>AO this HR.o (by decide) hg rfl)
theorem Yqu(hP:CD w S q p)(hb:p.bk=[]):Calls prog 224 #[pP q] w (SS w S q p):=by
 obtain⟨ok,sq,vw,vt,vb,hi,ts,hr,o1,o2,o3,s1,s2,s3⟩:=hP;obtain⟨iu,Yd,Yc,Ye,Ya⟩:=info_parts O1;obtain⟨ib,Xx,Yb,Xy,Xv⟩:=info_parts Vck;have hN:p.next=p.tk.length:=by unfold Pl.next;rw[θ hb]
 have hF:p.fresh={p with tk:=p.tk++[false],wd:=p.wd++List.replicate p.pg 0}:=by unfold Pl.fresh;rw[θ hb]
 obtain⟨Ab,cb,rfl,hcb1,Xj⟩:=FE o3;obtain⟨At,ct,rfl,hct1,Xn⟩:=FE o2;obtain⟨Aw,cw,rfl,hcw1,Xo⟩:=FE o1;have Xh:p.bk.length=0:=by rw[hb];rfl
 have Xq:p.tk.length<=4096:=χ ok.le ok.rm.2;have hpg:=DA ok.pg;have Xi:=ok.pg2;have Xw:p.wd.length<=1048576:=by rw[ok.wl];exact χ (ψt Xq Xi) (by decide)
 have c0:=hr.cc 0;have c1:=hr.cc 1;have c2:=hr.cc 2;have c4:=hr.cc 4;have cf:=λj=>hr.free j;rw[Xh]at c2;have hql:=hr.lt;have HF:=ι hF;have HN:=ι hN;have HR:=ι hr;have H1:=ι o1;have H2:=ι o2;have H3:=ι o3;have HB:=ι (ξ hb Xh);unfold maxLen at Xj Xn Xo;obtain⟨N,Xe⟩:∃N,N=p.tk.length:=⟨_,rfl⟩;have X:=ι Xe;rw[<-Xe]at c1 Xq;obtain⟨M,Xf⟩:∃M,M=p.wd.length:=⟨_,rfl⟩;have D:=ι Xf;rw[<-Xf]at c0 Xw;have Xm:=cf 1;have Xk:=cf 0;have HS:=ι (ξ s1 (ξ s2 s3))
 have Xr:∀g,(Value.slice At N ct).ownBlock=some g->g≠q:=λg hg=>by
  have:=AO o2 hr (by decide) (g1:=g) (g2:=q) (by cases At <;> simp[Value.ownBlock]at hg⊢;exact hg) rfl;exact this
 clear hr o1 o2 o3 hF hN hb Xe Xf s1 s2 s3 cf;go_enter func224,ntmps224;go_wp2_with(at_builtin;refine wpList_append_lies _ rfl _ _ 145 rfl 0 4 ib _ 1 1 underlying145 Xx Yb Xy Xv rfl (by decide) (.slice At N ct) N (p.tk.map Value.bool) rfl (by rw[X.o];exact H2.o.alloc _) ⟨w.heap.size,0,none⟩ 1 1 [.bool false] rfl rfl (ξx (cs:=#[.bool false]) (t:=4) (fr:=(0,0)) (heap_alloc_new w _)) (by simp[Value.oneCell']) Ω (by unfold maxLen;omega) Ω (ζe _) (w.heap.size+1) (by simp) ?_;intro g2 A w2 L V Z Xa;have t2:AB (λk=>(Value.slice At N ct).ownBlock=some k) w w2:=(((Gr.refl w).alloc _).touch _).trans (ER V _ (λk e _=>e));have O:=ι (HR.o.touch t2 (λe=>Xr q e rfl));have d1:=O.o.cc 1;have Xz:=O.o.free 1;have Xd:=ι t2;have Xs:=ι L;have Yg:=ι (ξ Z Xa);clear L V Z Xa t2);obtain⟨W3,Y⟩:∃W3,W3=w2.setCell ⟨q,1,none⟩ (.slice (some ⟨g2,0,none⟩) (N+1) A):=⟨_,rfl⟩;rw[<-Y];have R3:=O.o.set 1 (.slice (some ⟨g2,0,none⟩) (N+1) A);rw[<-Y]at R3
 have T3:W3.ownsRow 0 4 1 (.slice (some ⟨g2,0,none⟩) (N+1) A) (N+1) (p.tk.map Value.bool++[.bool false]):=by
  rw[Y];exact AV Xs.o _ (λg hg=>AO Xs.o O.o (by decide) hg rfl)
 have Xb:∀g,(Value.slice Aw p.wd.length cw).ownBlock=some g->¬(Value.slice At N ct).ownBlock=some g:=λg hg e=>AO H1.o (by rw[X.o]at e;exact H2.o) (by decide) hg (by rw[X.o]at e;exact e) rfl;have Xc:∀g,(Value.slice Ab p.bk.length cb).ownBlock=some g->¬(Value.slice At N ct).ownBlock=some g:=λg hg e=>AO H3.o (by rw[X.o]at e;exact H2.o) (by decide) hg (by rw[X.o]at e;exact e) rfl;have U2:=BX H1.o Xd.o Xb
 have U3:W3.ownsRow 0 22 1 (.slice Aw p.wd.length cw) p.wd.length (CI p.wd):=by
  rw[Y];exact AV U2 _ (λg hg=>AO U2 O.o (by decide) hg rfl)
 have B2:=BX H3.o Xd.o Xc
 have B3:W3.ownsRow 0 3 1 (.slice Ab p.bk.length cb) p.bk.length (DN p.bk):=by
  rw[Y];exact AV B2 _ (λg hg=>AO B2 O.o (by decide) hg rfl)
 have G:AB S w W3:=by
  rw[Y];refine(Xd.o.mono (T:=S) (λk _ h=>?_)).setCell (λ_=>sq) _;rw[X.o]at h;exact HS.o.2.1 k h
 have HW:=ι (ξ R3 (ξ T3 (ξ U3 (ξ B3 G))));have y0:=R3.cc 0;have y4:=R3.cc 4;have yf:=R3.free 0;rw[<-D.o]at y0 U3;have HU:=ι U3;clear Y R3 T3 U3 U2 B2 B3 G Xb Xc c0 c1 c2 c4 Xk Xm d1 Xz Xr;obtain⟨Sx,E⟩:∃Sx:World->Prop,Sx=λW'=>W'.cell? ⟨q,0,none⟩=some (.slice Aw M cw)/\W'.cell? ⟨q,4,none⟩=some (iI p.pg):=⟨_,rfl⟩;have x0:∀p':AA Sx,p'.w.cell? ⟨q,0,none⟩=some (.slice Aw M cw):=λp'=>(AA.get E p').1;have x4:∀p':AA Sx,p'.w.cell? ⟨q,4,none⟩=some (iI p.pg):=λp'=>(AA.get E p').2;have Xt:Sx W3.drew:=by rw[E];exact⟨y0,y4⟩
 have Xu:=ι E;clear E;have inst:Inhabited (AA Sx):=⟨⟨_,Xt⟩⟩;refine AW Sx 12 [([0,1,2,3,4,5,6,7,8],9),([10,11],12)] [] Xt ?_;refine AI ?_;go_wp2_with(at_builtin;refine ZfD _ rfl _ _ 41 3 rfl 22 .i64 0 iu _ underlying41 underlying3 Yd Yc Ye rfl (by decide) (.slice Aw M cw) M (CI p.wd) rfl (CM HU.o (Gr.refl W3).drew) p.pg rfl Ω (by unfold maxLen;omega) (by rw[Ya];omega) (ζe _) ?_;intro g4 c4 w4 I J U hlt4)
 go_frame
 have t4:AB (λk=>(Value.slice Aw M cw).ownBlock=some k) W3 w4:=((Gr.refl W3).drew.touch _).trans (ER J _ (λk e _=>e));have Xp:¬(Value.slice Aw M cw).ownBlock=some q:=λe=>AO HU.o HW.o.1 (by decide) e rfl rfl;have R4:=HW.o.1.touch t4 Xp;have B:=ι R4;have z0:=R4.cc 0;have z4:=R4.cc 4;have zf:=R4.free 0;have Xg:=ι t4;have Xl:=ι I;have Yf:=ι U;rw[<-D.o]at z0;clear R4 t4 I J U Xp;refine⟨.inr (AA.of (by rw[Xu.o];exact⟨z0,z4⟩)),?_⟩;refine AI ?_;go_wp2;refine⟨.inl trivial,?_⟩;refine EK ?_;refine ζb ?_;refine ζD ?_;go_wp2;go_ret;obtain⟨R3,T3,U3,B3,G⟩:=HW.o;have hs3:=G.size;have T4:=BX T3 Xg.o (λg hg e=>AO T3 HU.o (by decide) hg e rfl);have B4:=BX B3 Xg.o (λg hg e=>AO B3 HU.o (by decide) hg e rfl);have Z:=Yg.o;have U:=Yf.o;refine⟨by rw[HN.o,<-X.o];rfl,(G.trans' Xg.o (λk hk h=>?_)).setCell (λ_=>sq) _,?_⟩
 ·rw[D.o]at h;exact HS.o.1 k h
 ·rw[HF.o];have hu:({p with tk:=p.tk++[false],wd:=p.wd++List.replicate p.pg 0}:Pl).used=p.used:=QO p.tk;refine⟨.slice (some ⟨g4,0,none⟩) (M+p.pg) c4,.slice (some ⟨g2,0,none⟩) (N+1) A,.slice Ab p.bk.length cb,hi,ts,?_,?_,?_,AV B4 _ (λg hg=>AO B4 B.o (by decide) hg rfl),λg hg=>?_,λg hg=>?_,λg hg=>.inl (HS.o.2.2 g hg)⟩
  ·rw[hu];exact B.o.set 0 _
  ·have:=AV (q:=q) (j:=0) Xl.o (.slice (some ⟨g4,0,none⟩) (M+p.pg) c4) (λg hg=>AO Xl.o B.o (by decide) hg rfl);have e1:(p.wd++List.replicate p.pg 0).length=M+p.pg:=by rw[D.o];simp
   have e2:CI (p.wd++List.replicate p.pg 0)=CI p.wd++List.replicate p.pg (uU 0):=by unfold CI;rw[ζ4,List.map_replicate];rfl
   show World.ownsRow _ 0 _ 1 _ (p.wd++List.replicate p.pg 0).length (CI (p.wd++List.replicate p.pg 0))
   rw[e1,e2];exact this
  ·have:=AV (q:=q) (j:=0) T4 (.slice (some ⟨g4,0,none⟩) (M+p.pg) c4) (λg hg=>AO T4 B.o (by decide) hg rfl)
   show World.ownsRow _ 0 _ 1 _ (p.tk++[false]).length ((p.tk++[false]).map Value.bool)
   rw[ζ4,show (p.tk++[false]).length=N+1 by rw[X.o];simp];exact this
  ·cases hg;rcases U with h|h
   ·rw[D.o]at h;exact .inl (HS.o.1 _ h)
   ·right;show w.heap.size<=g4;have:W3.drew.heap.size=W3.heap.size:=rfl;omega
  ·cases hg;rcases Z.1 with h|h
   ·rw[X.o]at h;exact .inl (HS.o.2.1 _ h)
   ·right;show w.heap.size<=g2;omega
theorem VKq(hP:CD w S q p):Calls prog 224 #[pP q] w (SS w S q p):=by
 by_cases hb:p.bk=[]
 ·exact Yqu hP hb
 ·exact VPE hP hb
theorem JO(hP:E5 p):p.next<p.fresh.tk.length/\p.fresh.wd.length=p.fresh.tk.length*p.pg/\at_ p.fresh.tk p.next=false:=by
 unfold Pl.next Pl.fresh
 by_cases hb:p.bk=[]
 ·rw[θ hb,θ hb];refine⟨by simp,by simp[hP.wl,ξj],by simp[at_]⟩
 ·rw[ψ hb,ψ hb]
  have hm:p.bk.getLastD 0∈p.bk:=by
   obtain⟨bi,x,X⟩:∃bi x,p.bk=bi++[x]:=⟨p.bk.dropLast,p.bk.getLast hb,(ξQ hb).symm⟩;rw[X];simp
  have:=hP.bl _ hm;exact⟨this.1,hP.wl,this.2⟩
theorem F3{l:List Bool}{x:Bool}(hk:k<l.length):at_ (l.set k x) i=if i=k then x else at_ l i:=QT l k i x hk
theorem I8{l:List Bool}(hi:i<l.length)(h:at_ l i=false):cnt (at_ (l.set i true)) l.length=cnt (at_ l) l.length+1:=by
 have X:∀k,k<=l.length->cnt (at_ (l.set i true)) k=cnt (at_ l) k+if i<k then 1 else 0:=by
  intro k
  induction k with
  | zero=>intro _;rfl
  | succ k ih=>
   intro hk;rw[CN,CN,ih Ω,F3 hi];by_cases e:k=i
   ·subst e;rw[θ rfl,h,ψ (ζP _),θ (ξK _)];simp
   ·rw[ψ e];by_cases h1:i<k
    ·rw[θ h1,θ Ω];omega
    ·rw[ψ h1,ψ Ω];omega
 rw[X _ (ϑ _),θ hi]
theorem Z9{l:List Bool}(hi:i<l.length)(h:at_ l i=true):cnt (at_ (l.set i false)) l.length+1=cnt (at_ l) l.length:=by
 have h2:=I8 (l:=l.set i false) (i:=i) (by simpa using hi) (by rw[F3 hi,θ rfl]);rw[List.set_set,ω]at h2
 have:l.set i true=l:=by
  apply ξn (by simp);intro j h1 h3;rw[List.getElem_set]
  split
  ·rename_i e;subst e;simpa[at_,hi]using h.symm
  ·rfl
 rw[this]at h2;exact h2.symm
theorem RS(h:E5 p)(hroom:p.used<p.rm):E5 p.take:=by
 obtain⟨h1,h2,h3⟩:=JO h
 have U:p.fresh.used=p.used:=by
  unfold Pl.used Pl.fresh
  split
  ·exact QO p.tk
  ·rfl
 have hf:(p.next*p.pg)+p.pg<=p.fresh.wd.length:=by rw[h2,<-ξj];exact ζi _ h1
 have e0:p.take.pg=p.pg/\p.take.rm=p.rm/\p.take.bk=p.fresh.bk:=by unfold Pl.take Pl.fresh;split <;> exact⟨rfl,rfl,rfl⟩
 have e1:p.take.tk=p.fresh.tk.set p.next true:=rfl
 have e2:p.take.wd=GE p.fresh.wd (p.next*p.pg) p.pg:=rfl
 have eu:p.take.used=p.used+1:=by
  rw[<-U];unfold Pl.used;rw[e1,ω];exact I8 h1 h3
 refine⟨by rw[e0.1];exact h.pg,by rw[e0.1];exact h.pg2,by rw[e0.2.1];exact h.rm,by rw[e0.1,e2,YGK hf,h2,e1,ω],λx hx=>?_,?_,λf hf'=>?_,?_,?_⟩
 ·rw[e2]at hx;unfold GE at hx
  have X:∀y∈p.fresh.wd,y<18446744073709551616:=λy hy=>by
   unfold Pl.fresh at hy
   split at hy
   ·rcases ζg.1 hy with hy|hy
    ·exact h.w64 y hy
    ·rw[ξv hy];decide
   ·exact h.w64 y hy
  rcases ζg.1 hx with hx|hx
  ·rcases ζg.1 hx with hx|hx
   ·exact X x (ξ6 hx)
   ·rw[ξv hx];decide
  ·exact X x (List.mem_of_mem_drop hx)
 ·rw[e0.2.2];unfold Pl.fresh
  split
  ·exact h.nd
  ·exact h.nd.sublist (List.dropLast_sublist _)
 ·rw[e0.2.2]at hf';rw[e1,ω];unfold Pl.fresh at hf' h1⊢;unfold Pl.next at h1⊢
  by_cases hb:p.bk=[]
  ·rw[θ hb]at hf';rw[hb]at hf';cases hf'
  ·rw[ψ hb]at hf' h1⊢;rw[ψ hb]at h1⊢;have hm:=(List.dropLast_sublist _).subset hf';have Z:=h.bl f hm;refine⟨Z.1,?_⟩;rw[F3 h1,ψ,Z.2];intro e;obtain⟨bi,x,J⟩:∃bi x,p.bk=bi++[x]:=⟨p.bk.dropLast,p.bk.getLast hb,(ξQ hb).symm⟩;have Y:=h.nd;rw[J]at hf' e Y;simp at hf' e;subst e;rw[ζZ]at Y;exact Y.2.2 f hf' f (by simp) rfl
 ·rw[eu,e0.2.2,e1,ω];unfold Pl.fresh;have:=h.us
  split
  ·rename_i hb;rw[hb]at this;simp[hb]at this⊢;omega
  ·rename_i hb;have:=List.length_pos_iff.2 hb;simp;omega
 ·rw[e0.2.1,e1,ω];unfold Pl.fresh;have:=h.us
  split
  ·rename_i hb;rw[hb]at this;simp at this⊢;omega
  ·exact h.le
theorem MO(p:Pl):p.fresh.pg=p.pg/\p.fresh.rm=p.rm/\p.fresh.used=p.used:=by
 unfold Pl.fresh
 split
 ·exact⟨rfl,rfl,QO p.tk⟩
 ·exact⟨rfl,rfl,rfl⟩
theorem UX(h:E5 p):p.take.used=p.used+1:=by
 obtain⟨h1,h2,h3⟩:=JO h
 have X:p.fresh.used=p.used:=by
  unfold Pl.used Pl.fresh
  split
  ·exact QO p.tk
  ·rfl
 have e1:p.take.tk=p.fresh.tk.set p.next true:=rfl
 rw[<-X];unfold Pl.used;rw[e1,ω];exact I8 h1 h3
def Xun(w:World)(S:Nat->Prop)(q:Nat)(p:Pl)(e:Ending)(w':World):Prop:=
 (p.used=p.rm/\e=.returned (.tuple #[iI 0,iI 14])/\Gr w w') ∨
 (p.used<p.rm/\e=.returned (.tuple #[iI (p.next:Nat),iI 0])/\AB S w w'/\CD w' (plus S w) q p.take)
theorem NX(h:E5 p):p.used<=p.rm:=by have:=h.us;have:=h.le;omega
theorem YC(hP:CD w S q p):Calls prog 199 #[pP q] w (Xun w S q p):=by
 have HP:=ι hP;have U:=hP.ok;have Xi:=NX U;have Xr:=U.rm;obtain⟨vw,vt,vb,hi,ts,hr,-⟩:=hP.row;have c3:=hr.cc 3;have c5:=hr.cc 5;have Xg:=hr.lt;obtain⟨u,hu⟩:∃u,u=p.used:=⟨_,rfl⟩;have HU:=ι hu;rw[<-hu]at c5 Xi;obtain⟨R,hR⟩:∃R,R=p.rm:=⟨_,rfl⟩;have Z:=ι hR;rw[<-hR]at c3 Xi Xr;have hr0:((R:Int)==0)=false:=ζy.2 Ω;have z3:∀m,(w.drewN m).cell? ⟨q,3,none⟩=some (iI R):=λm=>((Gr.refl w).drewN m |>.cell Xg _).trans c3;have z5:∀m,(w.drewN m).cell? ⟨q,5,none⟩=some (iI u):=λm=>((Gr.refl w).drewN m |>.cell Xg _).trans c5;have hpg:=DA U.pg;have X:=ι U;clear hr hP hu hR U;by_cases Y:u=R
 ·have d1:((u:Int)==(R:Int))=true:=by rw[Y];simp
  have Xq:=ι Y;clear Y;go_enter func199,ntmps199;go_wp2;go_quiet (fail);go_wp2;go_ret2;exact .inl ⟨by rw[<-HU.o,<-Z.o];exact Xq.o,rfl,(Gr.refl w).drewN _⟩
 ·have d1:((u:Int)==(R:Int))=false:=ζy.2 Ω;go_enter func199,ntmps199;go_wp2;go_quiet (fail);go_wp2_with(go_at_call 224;refine(VKq (HP.o.gr ((Gr.refl w).drewN nq))).mono ?_;rintro e w2 ⟨rfl,A,Xj⟩;have Xp:=ι A;have Xe:=ι Xj;clear A Xj);obtain⟨vw2,vt2,B,N,J,R2,o1,o2,o3,s1,s2,s3⟩:=Xe.o;obtain⟨n1,n2,n3⟩:=JO X.o;obtain⟨f1,f2,f3⟩:=MO p;have hf:p.next*p.pg+p.pg<=p.fresh.wd.length:=by rw[n2,<-ξj];exact ζi _ n1
  have Xx:p.fresh.tk.length<=4096:=by
   have h1:=(RS X.o (by rw[<-HU.o,<-Z.o];omega)).le;have h2:p.take.tk.length=p.fresh.tk.length:=ω ..;have h3:p.take.rm=p.rm:=f2;rw[h2,h3,<-Z.o]at h1;omega
  have Xs:p.fresh.wd.length<=1048576:=by rw[n2];exact χ (ψt Xx X.o.pg2) (by decide)
  obtain⟨g2,cw,rfl,-,Yb,Yc,-⟩:=EX o1 Ω;obtain⟨gt,ct,rfl,-,hd1,Xm,-⟩:=EX o2 Ω;unfold maxLen at Yc Xm;obtain⟨iu,Ya,Xv,hu1,hu2⟩:=info_parts O1;obtain⟨w3,Xo,Xa,D⟩:=YNv (P:=prog) w2 41 22 0 iu _ underlying41 Ya Xv rfl (by decide) o1 (p.next*p.pg) p.pg p.pg Ω hf;rw[f1,f2,f3,<-HU.o,<-Z.o]at R2;have t3:=ER D (λk=>k=g2) (λk e _=>(Option.some.inj e).symm);have R3:=R2.touch t3 (AO R2 o1 (by decide) rfl rfl);have T3:=BX o2 t3 (λg hg=>AO o2 o1 (by decide) hg rfl);have B3:=BX o3 t3 (λg hg=>AO o3 o1 (by decide) hg rfl);have Xc:q≠gt:=AO R2 o2 (by decide) rfl rfl;have hgq:gt≠q:=λe=>Xc e.symm;have G:=ι R2;have k1:=R3.cc 1;have k5:=R3.cc 5;have k6:=R3.cc 6;have k7:=R3.cc 7;have kf:=λj=>R3.free j;have Xn:=kf 5;have Xz:=kf 6;have Xu:=kf 7;have kt:=BP T3 (WE n1);have Xl:=FK T3 p.next
  have hnl:(p.next:Int)<(p.fresh.tk.length:Int):=Ω
  have Xb:=ι (ξ R3 (ξ Xa (ξ T3 (ξ B3 t3))));have M:=ι (ξ s1 (ξ s2 s3));have Xw:=ι (ξ n1 (ξ n2 n3));have Xd:=ι (ξ f1 (ξ f2 f3));clear R2 o1 o2 o3 s1 s2 s3 Xa D R3 T3 B3 t3 n1 n2 n3 f1 f2 f3 kf c3 c5 z3 z5 Xe;generalize hnx:p.next=f at *
  have L:=ι hnx;clear hnx;have hmax:=NN prog;go_wp2_with(go_at_call 225;refine(ZB G.o Yb Ω Ω hf Xs).mono ?_;rintro e w1 ⟨rfl,rfl⟩);obtain⟨W5,V⟩:∃W5,W5=((w3.setCell ⟨gt,f,none⟩ (.bool true)).setCell ⟨q,5,none⟩ (.int .i64 ((u:Int)+1))).setCell ⟨q,7,none⟩ (.int .i64 (wrap64 (J+1))):=⟨_,rfl⟩;rw[<-V];obtain⟨R3,U3,T3,B3,t3⟩:=Xb.o;have R4:=AV (q:=gt) (j:=f) R3 (.bool true) (λg hg=>by cases hg;exact Xc)
  have R5:Rec W5 q 185 [.slice (some ⟨g2,0,none⟩) p.fresh.wd.length cw,.slice (some ⟨gt,0,none⟩) p.fresh.tk.length ct,B,iI R,iI p.pg,iI ((u:Int)+1),iI N,iI (wrap64 (J+1))]:=by
   rw[V];exact(Rec.set R4 5 _).set 7 _
  have U4:=AV (q:=gt) (j:=f) U3 (.bool true) (λg hg=>AO U3 T3 (by decide) hg rfl);have U5:=AV (q:=q) (j:=7) (AV (q:=q) (j:=5) U4 (iI ((u:Int)+1)) (λg hg=>AO U4 R4 (by decide) hg rfl)) (iI (wrap64 (J+1))) (λg hg=>AO U4 R4 (by decide) hg rfl);have T4:=(World.ownsRow.stored T3 f (.bool true)).1;have T5:=AV (q:=q) (j:=7) (AV (q:=q) (j:=5) T4 (iI ((u:Int)+1)) (λg hg=>AO T4 R4 (by decide) hg rfl)) (iI (wrap64 (J+1))) (λg hg=>AO T4 R4 (by decide) hg rfl);have B4:=AV (q:=gt) (j:=f) B3 (.bool true) (λg hg=>AO B3 T3 (by decide) hg rfl);have B5:=AV (q:=q) (j:=7) (AV (q:=q) (j:=5) B4 (iI ((u:Int)+1)) (λg hg=>AO B4 R4 (by decide) hg rfl)) (iI (wrap64 (J+1))) (λg hg=>AO B4 R4 (by decide) hg rfl);rw[<-V]at U5 T5 B5;have sq:=HP.o.sq
  have O:AB (plus S (w.drewN nq)) w2 W5:=by
   rw[V];exact(((t3.mono (λk _ h=>by rw[show k=g2 from h];exact M.o.1 g2 rfl)).setCell (λ_=>M.o.2.1 gt rfl) _).setCell (λ_=>.inl sq) _).setCell (λ_=>.inl sq) _
  have Xy:=ι (ξ R5 (ξ U5 (ξ T5 (ξ B5 O))));have y5:=R5.cc 5;have y6:=R5.cc 6;have yf:=R5.free 6;clear V R3 U3 T3 B3 t3 R4 R5 U4 U5 T4 T5 B4 B5 O k1 k5 k6 k7 Xn Xz Xu kt Xl Xo Xb;obtain⟨Sx,I⟩:∃Sx:World->Prop,Sx=λW'=>W'.cell? ⟨q,5,none⟩=some (iI ((u:Int)+1))/\W'.cell? ⟨q,6,none⟩=some (iI N):=⟨_,rfl⟩;have x5:∀p':AA Sx,p'.w.cell? ⟨q,5,none⟩=some (iI ((u:Int)+1)):=λp'=>(AA.get I p').1;have x6:∀p':AA Sx,p'.w.cell? ⟨q,6,none⟩=some (iI N):=λp'=>(AA.get I p').2;have Xf:Sx W5.drew:=by rw[I];exact⟨y5,y6⟩
  clear I;have inst:Inhabited (AA Sx):=⟨⟨_,Xf⟩⟩;refine AW Sx 12 [([0,1,2,3,4,5,6,7,8,9,10,11],12)] [] Xf ?_;refine AI ?_;go_wp2;refine⟨.inl trivial,?_⟩;refine EK ?_;refine ζb ?_;refine ζD ?_;go_wp2;go_ret2;obtain⟨R5,U5,T5,B5,O⟩:=Xy.o;obtain⟨n1,n2,n3⟩:=Xw.o;have Xh:p.used<p.rm:=by rw[<-HU.o,<-Z.o];omega
  refine .inr ⟨Xh,by rw[L.o];rfl,?_,RS X.o Xh,.inl sq,?_⟩
  ·refine(AB.setCell (a:=⟨q,6,none⟩) ((((Gr.refl w).drewN nq).touch S).trans' (Xp.o.trans' O (λk hk h=>?_)) (λk _ h=>h)) (λ_=>sq) _).drew;rcases h with h|h
   ·exact h
   ·exact absurd hk (ξe h)
  ·have U6:=λv=>CM (AV (q:=q) (j:=6) U5 v (λg hg=>AO U5 R5 (by decide) hg rfl)) (Gr.refl _).drew;have T6:=λv=>CM (AV (q:=q) (j:=6) T5 v (λg hg=>AO T5 R5 (by decide) hg rfl)) (Gr.refl _).drew;have B6:=λv=>CM (AV (q:=q) (j:=6) B5 v (λg hg=>AO B5 R5 (by decide) hg rfl)) (Gr.refl _).drew;have eu:p.take.used=u+1:=by rw[UX X.o,<-HU.o]
   have ew:p.take.wd=GE p.fresh.wd (f*p.pg) p.pg:=by rw[<-L.o];rfl
   have et:p.take.tk=p.fresh.tk.set f true:=by rw[<-L.o];rfl
   have Xk:p.take.wd.length=p.fresh.wd.length:=by rw[ew,YGK hf]
   have Xt:CI (GE p.fresh.wd (f*p.pg) p.pg)=List.take (f*p.pg) (CI p.fresh.wd)++List.replicate p.pg (Value.int IntKind.u64 0)++List.drop (f*p.pg+p.pg) (CI p.fresh.wd):=by
    unfold GE CI;rw[ζ4,ζ4,List.map_replicate,List.map_take,List.map_drop];rfl
   have er:p.take.rm=R:=by rw[Z.o];exact Xd.o.2.1
   have ep:p.take.pg=p.pg:=Xd.o.1;have eb:p.take.bk=p.fresh.bk:=rfl;have E:∀g,plus S (w.drewN nq) g->plus S w g:=λg h=>h;refine⟨.slice (some ⟨g2,0,none⟩) p.fresh.wd.length cw,.slice (some ⟨gt,0,none⟩) p.fresh.tk.length ct,B,max N ((u:Int)+1),wrap64 (J+1),?_,?_,?_,?_,λg hg=>E g (M.o.1 g hg),λg hg=>E g (M.o.2.1 g hg),λg hg=>E g (M.o.2.2 g hg)⟩
   rotate_left
   ·rw[Xk,ew,Xt];exact U6 _
   ·rw[et,ω,ξV];exact T6 _
   ·rw[eb];exact B6 _
   ·rw[eu,er,ep];exact(R5.set 6 _).gr (Gr.refl _).drew
def Pl.give(p:Pl)(f:Nat):Pl:={p with tk:=p.tk.set f false,bk:=p.bk++[f]}
theorem OD(hf:at_ p.tk f=true):(p.give f).used+1=p.used:=by
 show cnt (at_ (p.tk.set f false)) (p.tk.set f false).length+1=_
 rw[ω];exact Z9 (FQ hf) hf
theorem Y6(h:E5 p)(hf:at_ p.tk f=true):E5 (p.give f):=by
 have hl:=FQ hf;refine⟨h.pg,h.pg2,h.rm,by show _=(p.tk.set f false).length*_;rw[ω];exact h.wl,h.w64,?_,λg hg=>?_,?_,by show (p.tk.set f false).length<=_;rw[ω];exact h.le⟩
 ·show (p.bk++[f]).Nodup
  rw[ζZ];refine⟨h.nd,by simp,λa ha b hb=>?_⟩;simp at hb;subst hb;rintro rfl;have:=(h.bl a ha).2;rw[hf]at this;cases this
 ·show g<(p.tk.set f false).length/\at_ (p.tk.set f false) g=false
  rw[ω,F3 hl];rcases ζg.1 hg with hg|hg
  ·have:=h.bl g hg;refine⟨this.1,?_⟩
   split
   ·rfl
   ·exact this.2
  ·simp at hg;subst hg;exact⟨hl,by rw[θ rfl]⟩
 ·have h1:=OD hf;have h2:=h.us
  show _+(p.bk++[f]).length=(p.tk.set f false).length
  rw[ω,ζs];simp;omega
def VkD(w:World)(S:Nat->Prop)(q:Nat)(p:Pl)(f:Nat)(e:Ending)(w':World):Prop:=e=.returned (iI 0)/\AB S w w'/\CD w' (plus S w) q (p.give f)
theorem XDh(hP:CD w S q p)(hf:at_ p.tk f=true):Calls prog 182 #[pP q,iI f] w (VkD w S q p f):=by
 have HP:=ι hP;have Z:=hP.ok;have Xj:=FQ hf;have HC:Hid (DQ p f=0):=⟨by unfold DQ;rw[δ,hf,φ Ω];rfl⟩;have Xf:=OD hf;have Xk:=NX Z;have hrm:=Z.rm;have E:=Z.us;have htl:=Z.le;obtain⟨vw,vt,vb,hi,ts,hr,o1,o2,o3,s1,s2,s3⟩:=hP.row;obtain⟨gt,ct,rfl,-,hd1,Xa,-⟩:=EX o2 Ω;obtain⟨Ab,cb,rfl,hcb1,L⟩:=FE o3;unfold maxLen at Xa L;obtain⟨ii,B,Xg,Xl,Xc⟩:=info_parts YWy;have D:q≠gt:=AO hr o2 (by decide) rfl rfl;have hgq:gt≠q:=λe=>D e.symm;have c1:=hr.cc 1;have c2:=hr.cc 2;have c5:=hr.cc 5;have cf:=λj=>hr.free j;have cf2:=cf 2;have cf5:=cf 5;have kt:=BP o2 (WE Xj);have ktf:=FK o2 f;obtain⟨N,hN⟩:∃N,N=p.bk.length:=⟨_,rfl⟩;have HN:=ι hN;rw[<-hN]at c2 E;obtain⟨u,hu⟩:∃u,u=p.used:=⟨_,rfl⟩;have HU:=ι hu;rw[<-hu]at c5 Xk Xf E hr;have hu2:1<=u:=Ω
 have hfI:(f:Int)<(p.tk.length:Int):=Ω
 have HR:=ι hr;have H1:=ι o1;have H2:=ι o2;have H3:=ι o3;have HS:=ι (ξ s1 (ξ s2 s3));have HF:=ι hf;have I:=ι Z;have B1:=AV (q:=gt) (j:=f) o3 (.bool false) (λg hg=>AO o3 o2 (by decide) hg rfl);have R1:=AV (q:=gt) (j:=f) hr (.bool false) (λg hg=>by cases hg;exact D);rw[<-hN]at B1;have Xd:=ι B1;have G:=ι R1;have Xe:∀g,(Value.slice Ab N cb).ownBlock=some g->g≠q:=λg hg=>AO o3 hr (by decide) (by rw[<-hN];exact hg) rfl;clear hr o1 o2 o3 hP hf hN hu Z cf s1 s2 s3 B1 R1;go_enter func182,ntmps182
 go_wp2_with(first
  | (go_at_call 212;refine(NL HP.o f).mono ?_;rintro e w1 ⟨rfl,rfl⟩;rw[HC.o])
  | (at_builtin;refine wpList_append_lies _ rfl _ _ 61 rfl 0 3 ii _ 1 8 underlying61 B Xg Xl Xc rfl (by decide) (.slice Ab N cb) N (DN p.bk) rfl (Xd.o.alloc _) ⟨w.heap.size,0,none⟩ 1 1 [iI (f:Nat)] rfl rfl (ξx (cs:=#[iI (f:Nat)]) (t:=3) (fr:=(0,0)) (by have:=heap_alloc_new (w.setCell ⟨gt,f,none⟩ (.bool false)) (.cells #[.int .i64 (f:Nat)] 3);simpa using this)) (by simp[Value.oneCell']) Ω (by unfold maxLen;omega) Ω (ζe _) (w.heap.size+1) (by simp) ?_;intro g2 Xb w2 J Y X V;have t2:AB (λk=>(Value.slice Ab N cb).ownBlock=some k) (w.setCell ⟨gt,f,none⟩ (.bool false)) w2:=(((Gr.refl _).alloc _).touch _).trans (ER Y _ (λk e _=>e));have U:=ι (BX G.o t2 (λg hg e=>by cases hg;exact Xe q e rfl));have d2:=BP U.o (j:=2) rfl;have df2:=FK U.o 2;have d5:=BP U.o (j:=5) rfl;have df5:=FK U.o 5;have M:=ι t2;have O:=ι J;have Xi:=ι (ξ X V);clear J Y X V t2))
 go_ret;have X:=Xi.o;have U1:=AV (q:=gt) (j:=f) H1.o (.bool false) (λg hg=>AO H1.o H2.o (by decide) hg rfl);have A:∀g,vw.ownBlock=some g->¬(Value.slice Ab N cb).ownBlock=some g:=λg hg e=>AO H1.o H3.o (by decide) hg (by rw[<-HN.o];exact e) rfl;have U2:=BX U1 M.o A;have T1:=(World.ownsRow.stored H2.o f (.bool false)).1;have T2:=BX T1 M.o (λg hg e=>AO H2.o H3.o (by decide) hg (by rw[<-HN.o];exact e) rfl);have hsz:(w.setCell ⟨gt,f,none⟩ (.bool false)).heap.size=w.heap.size:=by simp
 have tt:AB S w w2:=((AB.refl S w).setCell (a:=⟨gt,f,none⟩) (λ_=>HS.o.2.1 gt rfl) (.bool false)).trans' M.o (λk _ h=>HS.o.2.2 k (by rw[<-HN.o];exact h));refine⟨rfl,(tt.setCell (a:=⟨q,2,none⟩) (λ_=>HP.o.sq) _).setCell (a:=⟨q,5,none⟩) (λ_=>HP.o.sq) _,Y6 I.o HF.o,.inl HP.o.sq,?_⟩;have R2:=U.o;have e1:(p.give f).used=u-1:=by have:=OD HF.o;have:=HU.o;omega
 have e2:(((u-1:Nat)):Int)=(u:Int)-1:=Ω
 have e3:(p.give f).tk=p.tk.set f false:=rfl;have e4:(p.give f).bk=p.bk++[f]:=rfl;have U3:=λa b=>AV (q:=q) (j:=5) (AV (q:=q) (j:=2) U2 a (λg hg=>AO U2 R2 (by decide) hg rfl)) b (λg hg=>AO U2 R2 (by decide) hg rfl);have T3:=λa b=>AV (q:=q) (j:=5) (AV (q:=q) (j:=2) T2 a (λg hg=>AO T2 R2 (by decide) hg rfl)) b (λg hg=>AO T2 R2 (by decide) hg rfl);have B3:=λa b=>AV (q:=q) (j:=5) (AV (q:=q) (j:=2) O.o a (λg hg=>AO O.o R2 (by decide) hg rfl)) b (λg hg=>AO O.o R2 (by decide) hg rfl);refine⟨vw,.slice (some ⟨gt,0,none⟩) p.tk.length ct,.slice (some ⟨g2,0,none⟩) (N+1) Xb,hi,ts,?_,?_,?_,?_,λg hg=>.inl (HS.o.1 g hg),λg hg=>.inl (HS.o.2.1 g hg),λg hg=>?_⟩
 ·rw[e1,e2];have Xh:Rec w2 q 185 _:=R2;exact(Xh.set 2 _).set 5 _
 ·exact U3 _ _
 ·rw[e3,ω,ξV];exact T3 _ _
 ·rw[e4,show (p.bk++[f]).length=N+1 by rw[HN.o];simp,show DN (p.bk++[f])=DN p.bk++[iI (f:Nat)]by unfold DN;rw[ζ4];rfl];exact B3 _ _
 ·cases hg;rcases X.1 with h|h
  ·exact .inl (HS.o.2.2 _ (by rw[<-HN.o];exact h))
  ·right;show w.heap.size<=g2;omega
end
def I6(l:List Nat):List Value:=l.map λx=>.int .u32 (x:Nat)
def CA(pt:List Nat)(k:Nat):List Nat:=(List.range 256).map λi=>pt.getD (256*k+i) 0
def nz(l:List Nat):Nat:=cnt (λi=>l.getD i 0 !=0) l.length
def EM(pt:List Nat)(k:Nat):List Value:=I6 (CA pt k)++[iI (nz (CA pt k):Nat)]
def GM(L:List (Option Nat)):List Value:=L.map λb=>.pointer (b.map λb=>⟨b,0,none⟩)
def CT(n:Nat):Nat:=(n+255)/256
structure I1(pt:List Nat):Prop where
 n1:1<=pt.length
 n2:pt.length<=524288
 lt:∀x∈pt,x<4294967296
structure C1(w:World)(S:Nat->Prop)(q:Nat)(pt:List Nat):Prop where
 ok:I1 pt
 sq:S q
 row:∃g c L,Rec w q 188 [.slice (some ⟨g,0,none⟩) (CT pt.length) c,iI pt.length,iI (nz pt:Nat)]/\CT pt.length<=c/\c<=maxLen/\S g ∧
  w.ownsRow 0 281 1 (.slice (some ⟨g,0,none⟩) (CT pt.length) c) (CT pt.length) (GM L) ∧
  (∀k,k<CT pt.length->match L.getD k none with
   | none=>∀i,i<256->pt.getD (256*k+i) 0=0
   | some b=>S b/\Rec w b 284 (EM pt k)) ∧
  (∀k j b,L.getD k none=some b->L.getD j none=some b->k=j)
theorem H9(pt:List Nat)(k:Nat):(CA pt k).length=256:=by simp[CA]
theorem N6(pt:List Nat)(k:Nat)(h:i<256):(CA pt k).getD i 0=pt.getD (256*k+i) 0:=by simp[CA,h]
theorem Z4(pt:List Nat)(k:Nat)(h:i<256):(EM pt k)[i]?=some (.int .u32 (pt.getD (256*k+i) 0:Nat)):=by
 unfold EM I6;rw[ζU (by simp[H9,h])];simp[CA,h]
theorem XMj(pt:List Nat)(k:Nat):(EM pt k)[256]?=some (iI (nz (CA pt k):Nat)):=by
 unfold EM I6;simp[H9]
theorem C1.touch{T:Nat->Prop}(h:C1 w S q pt)(t:AB T w w')(hS:∀k,S k->k<w.heap.size->¬T k):C1 w' S q pt:=by
 obtain⟨ok,sq,g,c,L,hr,h1,h2,sg,ho,ht,hd⟩:=h;refine⟨ok,sq,g,c,L,hr.touch t (hS q sq hr.lt),h1,h2,sg,BX ho t (λb hb=>by cases hb;exact hS g sg (BB ho rfl).2),λk hk=>?_,hd⟩;have:=ht k hk;cases hl:L.getD k none with
 | none=>grind
 | some b=>rw[hl]at this;exact⟨this.1,this.2.touch t (hS b this.1 this.2.lt)⟩
theorem C1.gr(h:C1 w S q pt)(t:Gr w w'):C1 w' S q pt:=h.touch (t.touch (λ_=>False)) (λ_ _ _ h=>h)
theorem C1.mono{T:Nat->Prop}(h:C1 w S q pt)(hT:∀k,S k->T k):C1 w T q pt:=by
 obtain⟨ok,sq,g,c,L,hr,h1,h2,sg,ho,ht,hd⟩:=h;refine⟨ok,hT _ sq,g,c,L,hr,h1,h2,hT _ sg,ho,λk hk=>?_,hd⟩
 grind
theorem WP(h:n<=524288):CT n<=2048:=by unfold CT;omega
theorem X6(h:p<n):p/256<CT n:=by unfold CT;omega
theorem Y4{L:List (Option Nat)}(h:k<L.length):(GM L)[k]?=some (.pointer ((L.getD k none).map λb=>⟨b,0,none⟩)):=by
 simp[GM,h]
theorem ZM(hM:C1 w S q pt)(hp:p<pt.length):cQ 223 #[pP q,iI p] w (.int .u32 (pt.getD p 0:Nat)):=by
 obtain⟨ok,sq,g,c,L,hr,h1,h2,sg,ho,ht,hd⟩:=hM;have hn:=WP ok.n2;have hk:=X6 hp;have hLl:L.length=CT pt.length:=by have:=ho.1;simp[GM]at this;exact this
 have c0:=hr.cc 0;have k0:=BP ho (Y4 (L:=L) (k:=p/256) Ω);have hh:=ht _ hk;obtain⟨k,Y⟩:∃k,k=p/256:=⟨_,rfl⟩;obtain⟨i,Z⟩:∃i,i=p%256:=⟨_,rfl⟩;have X:256*k+i=p:=Ω
 have hi:i<256:=Ω
 have e1:(p:Int)/256=(k:Int):=Ω
 have e2:(p:Int)%256=(i:Int):=Ω
 rw[<-Y]at k0 hk hh;have hpb:(p:Int)<=524288:=Ω
 cases hl:L.getD k none with
 | none=>
  rw[hl]at hh k0;have E:=(hh i hi);rw[X]at E;rw[E];clear hr ho ht hh hd Z Y X hl;go_enter func223,ntmps223;go_wp2;go_ret;exact⟨rfl,rfl⟩
 | some b=>
  rw[hl]at hh k0;have k1:=hh.2.cell (Z4 pt k hi);rw[X]at k1;generalize pt.getD p 0=x at k1⊢;clear hr ho ht hh hd Z Y X hl;go_enter func223,ntmps223;go_wp2;go_ret;exact⟨rfl,rfl⟩
def pgE(pt:List Nat)(p:Int):Int:=if 0<=p/\p<pt.length then 0 else 11
def MP(pt:List Nat)(l:List Int):Int:=if l.all (λp=>decide (pgE pt p=0))then 0 else 11
theorem Z7Q(pt:List Nat)(p:Int):(decide (p<0)=true/\pgE pt p=11)\/(decide (p<0)=false/\decide ((pt.length:Int)<=p)=true/\pgE pt p=11)\/(decide (p<0)=false/\decide ((pt.length:Int)<=p)=false/\pgE pt p=0):=by
 by_cases h0:p<0
 ·exact .inl ⟨φ h0,ψ Ω⟩
 ·by_cases h1:(pt.length:Int)<=p
  ·exact .inr (.inl ⟨ζ h0,φ h1,ψ Ω⟩)
  ·exact .inr (.inr ⟨ζ h0,ζ h1,θ Ω⟩)
theorem QP1{l:List Int}(h:∀i,i<l.length->pgE pt (l.getD i 0)=0):MP pt l=0:=by
 unfold MP;rw[θ];rw[ξu];intro x hx;obtain⟨i,hi,rfl⟩:=ψu.1 hx
 simp_all
theorem YU3{l:List Int}(hi:i<l.length)(h:pgE pt (l.getD i 0)=11):MP pt l=11:=by
 unfold MP
 grind
theorem XaF(hM:C1 w S q pt){b:Nat}{l:List Int}(hn:l.length=n)(hn2:n<=2)(hc:∀i,i<n->w.cell? ⟨b,i,none⟩=some (iI (l.getD i 0))):cQ 222 #[pP q,.slice (some ⟨b,0,none⟩) n n] w (iI (MP pt l)):=by
 obtain⟨ok,sq,g,c,L,hr,-⟩:=hM;have c1:=hr.cc 1;have HC:=hc;clear hr hc;go_enter func222,ntmps222;go_wp2
 go_loop [11] (λi=>∃k:Nat,k<=n/\i=iI k/\Hid (∀i,i<k->pgE pt (l.getD i 0)=0)) (λi=>n-(intOf i).toNat)
 case atStart=>exact⟨0,by omega,rfl,⟨λi h=>by omega⟩⟩
 case round=>
  obtain⟨k,hk,rfl,Y⟩:=hrel;by_cases Z:k<n
  ·have X:=HC k Z;have hq:=Z7Q pt (l.getD k 0);have H1:=ι (λh=>YU3 (pt:=pt) (l:=l) (i:=k) Ω h)
   have H2:Hid (pgE pt (l.getD k 0)=0->∀i,i<k+1->pgE pt (l.getD i 0)=0):=⟨λh i hi=>by
    by_cases e:i=k
    ·subst e;exact h
    ·exact Y.o i Ω⟩
   generalize l.getD k 0=p at X hq H1 H2;clear Y HC hn;rcases hq with⟨d0,E⟩|⟨d0,d1,E⟩|⟨d0,d1,E⟩
   ·have E:=ι E;go_wp2;go_ret;exact⟨AM (by rw[H1.o E.o]),rfl⟩
   ·have E:=ι E;go_wp2;go_ret;exact⟨AM (by rw[H1.o E.o]),rfl⟩
   ·have E:=ι E;go_wp2;go_round
    case rel=>exact⟨k+1,by omega,by go_num,⟨H2.o E.o⟩⟩
    case measure=>simp[intOf];omega
  ·obtain rfl:k=n:=Ω
   have E:=ι (QP1 (pt:=pt) (l:=l) (by rw[hn];exact Y.o));go_wp2;go_ret;exact⟨AM (by rw[E.o]),rfl⟩
theorem VT9:(zeroCells284).toList=I6 (List.replicate 256 0)++[iI 0]:=by kernel_rfl
theorem QL(l:List Nat):nz l=cnt (at_ (l.map λx=>x !=0)) l.length:=by
 refine CQ λi hi=>?_;simp[at_,hi]
theorem OZ(hi:i<l.length)(h:l.getD i 0=0)(hx:x≠0):nz (l.set i x)=nz l+1:=by
 have hm:(l.map λx=>x !=0).length=l.length:=ξZ _;rw[QL,QL,ω,ξV,<-hm];have:(x !=0)=true:=by simp[hx]
 rw[this];refine I8 Ω ?_;rw[β,η hi]at h;simp[at_,hi];simpa using h
theorem VA(hi:i<l.length)(h:l.getD i 0≠0):nz (l.set i 0)+1=nz l:=by
 have hm:(l.map λx=>x !=0).length=l.length:=ξZ _;rw[QL,QL,ω,ξV,<-hm];refine Z9 Ω ?_;rw[β,η hi]at h;simp[at_,hi];simpa using h
theorem Z2A(h:nz l=0)(hi:i<l.length):l.getD i 0=0:=by
 have:=UN h i hi
 simp_all
theorem ML(l:List Nat):nz l<=l.length:=D0 _ _
theorem YN(hp:256*k+i<pt.length):CA (pt.set (256*k+i) x) k=(CA pt k).set i x:=by
 apply ξn
 ·simp[CA]
 ·intro j h1 h2;simp only[CA,List.getElem_map,List.getElem_range,List.getElem_set,β,ψe]
  grind
theorem QhQ(hi:i<256)(hj:j≠k):CA (pt.set (256*k+i) x) j=CA pt j:=by
 apply ξn
 ·simp[CA]
 ·intro y h1 h2;have hy:y<256:=by simpa[CA]using h1
  simp only[CA,List.getElem_map,List.getElem_range,β,ψe]
  grind
theorem VXI{t:Nat}(hp:256*k+i<pt.length)(hi:i<256)(ht:nz ((CA pt k).set i x)=t):
  EM (pt.set (256*k+i) x) k=((EM pt k).set i (.int .u32 x)).set 256 (iI t):=by
 unfold EM;rw[YN hp,ht];have hl:(I6 (CA pt k)).length=256:=by simp[I6,H9]
 rw[List.set_append_left _ _ Ω,List.set_append_right _ _ (by simp[hl])];simp[I6,H9]
theorem X8(hi:i<256)(hj:j≠k):EM (pt.set (256*k+i) x) j=EM pt j:=by
 unfold EM;rw[QhQ hi hj]
theorem XyQ{c:Nat}(c0:w.cell? ⟨q,0,none⟩=some (.slice (some ⟨g,0,none⟩) n c))(c2:w.cell? ⟨q,2,none⟩=some (iI m))
  (f2:w.frozen? ⟨q,2,none⟩=false) (cg:w.cell? ⟨g,k,none⟩=some (.pointer none)) (fg:w.frozen? ⟨g,k,none⟩=false) (hqg:q≠g) (hq:q<w.heap.size) (hg:g<w.heap.size)
  (hk:k<n) (hn:n<=2048) (hi:i<256) (hm:m<=524288)  (hx:x≠0)  (hp:p=256*k+i):Calls prog 211 #[pP q,iI p,.int .u32 x] w λe w'=>e=.returned (.tuple #[]) ∧
   w'=((w.setCell ⟨g,k,none⟩ (.pointer (some ⟨w.heap.size,0,none⟩))).setCell ⟨q,2,none⟩ (.int .i64 (m+1))).alloc
   (Obj.cells ((zeroCells284.setIfInBounds i (.int .u32 x)).setIfInBounds 256 (iI 1)) 284):=by
 have e1:(p:Int)/256=(k:Int):=Ω
 have e2:(p:Int)%256=(i:Int):=Ω
 have b1:(p:Int)<=524288:=Ω
 have hkI:(k:Int)<(n:Int):=Ω
 have hiI:(i:Int)<256:=Ω
 have d0:((x:Int)==0)=false:=by simp_all
 have hz:∀h,(zeroCells284.setIfInBounds i (.int .u32 x))[256]'h=iI 0:=by
  intro h;rw[Array.getElem_setIfInBounds_ne _ Ω];have hl:(zeroCells284).toList.length=257:=by simp_all
  rw[<-Array.getElem_toList]
  ·grind [VT9,ζ5,η,Option.some.inj]
  simp_all
 clear hp;go_enter func211,ntmps211;go_wp2
 go_end0
 simp_all
def OF(w:World)(b i x t' q m' g k:Nat):World:=
 if t'=0 then (((w.setCell ⟨b,i,none⟩ (.int .u32 x)).setCell ⟨b,256,none⟩ (.int .i64 t')).setCell ⟨q,2,none⟩ (.int .i64 m')).setCell ⟨g,k,none⟩ (.pointer none)
 else ((w.setCell ⟨b,i,none⟩ (.int .u32 x)).setCell ⟨b,256,none⟩ (.int .i64 t')).setCell ⟨q,2,none⟩ (.int .i64 m')
theorem YAa{c b:Nat}{t t' m':Nat}{y:Value}(c0:w.cell? ⟨q,0,none⟩=some (.slice (some ⟨g,0,none⟩) n c))(c2:w.cell? ⟨q,2,none⟩=some (iI m))
  (f2:w.frozen? ⟨q,2,none⟩=false) (cg:w.cell? ⟨g,k,none⟩=some (pP b)) (fg:w.frozen? ⟨g,k,none⟩=false)
  (cb:w.cell? ⟨b,i,none⟩=some y) (cn:w.cell? ⟨b,256,none⟩=some (iI t)) (fi:w.frozen? ⟨b,i,none⟩=false) (fn:w.frozen? ⟨b,256,none⟩=false)
  (hqg:q≠g) (hbg:b≠g) (hbq:b≠q) (hk:k<n) (hn:n<=2048) (hi:i<256) (hm:m<=524288) (hm':m'<=524288) (ht:t<=256) (ht':t'<=256)  (hx:x<4294967296)
  (hby:if x=0 then t' + 1=t/\m' + 1=m else t'=t+1/\m'=m+1)  (hp:p=256*k+i):Calls prog 211 #[pP q,iI p,.int .u32 x] w λe w'=>e=.returned (.tuple #[]) ∧
   w'=OF w b i x t' q m' g k:=by
 have e1:(p:Int)/256=(k:Int):=Ω
 have e2:(p:Int)%256=(i:Int):=Ω
 have b1:(p:Int)<=524288:=Ω
 have hkI:(k:Int)<(n:Int):=Ω
 have hiI:(i:Int)<256:=Ω
 have hi6:¬i=256:=Ω
 clear hp;by_cases h0:x=0
 ·rw[θ h0]at hby;subst h0;obtain⟨rfl,rfl⟩:=hby;have a1:(t':Int)+1 + -1=(t':Int):=Ω
  have a2:(m':Int)+1 + -1=(m':Int):=Ω
  by_cases h1:t'=0
  ·subst h1;have E:OF w b i 0 0 q m' g k=_:=θ rfl;rw[E];go_enter func211,ntmps211;go_wp2
   go_end0
   simp_all
  ·have E:OF w b i 0 t' q m' g k=_:=ψ h1;rw[E];go_enter func211,ntmps211;go_wp2
   go_end0
   simp_all
 ·rw[ψ h0]at hby;obtain⟨rfl,rfl⟩:=hby;have d0:((x:Int)==0)=false:=by simp_all
  have E:OF w b i x (t+1) q (m+1) g k=_:=ψ Ω;rw[E];go_enter func211,ntmps211;go_wp2
  go_end0
  simp_all
theorem QON{ys:List Value}(h:Rec w q T xs)(e:xs=ys):Rec w q T ys:=e▸h
theorem I1.set(h:I1 pt)(p:Nat)(hx:x<4294967296):I1 (pt.set p x):=
 ⟨by rw[ω];exact h.n1,by rw[ω];exact h.n2,λy hy=>by
  rcases ζM hy with h'|h'
  ·exact h.lt y h'
  omega⟩
theorem EG(hp:p<l.length)(j:Nat):(l.set p x).getD j 0=if p=j then x else l.getD j 0:=by
 grind
theorem PM{l:List (Option Nat)}{x:Option Nat}(hp:p<l.length)(j:Nat):(l.set p x).getD j none=if p=j then x else l.getD j none:=by
 grind
theorem YQ(L:List (Option Nat))(k:Nat)(b:Option Nat):GM (L.set k b)=(GM L).set k (.pointer (b.map λb=>⟨b,0,none⟩)):=by
 unfold GM;simp_all
theorem ZXw(hl:l.length=n)(h:∀i,i<n->l.getD i 0=0):l=List.replicate n 0:=by
 grind [ξn,ζG,η]
theorem Q9(n:Nat):nz (List.replicate n 0)=0:=by
 refine GS λi hi=>?_
 simp_all
theorem Y8u(h:∀i,i<256->pt.getD (256*k+i) 0=0):EM pt k=I6 (List.replicate 256 0)++[iI 0]:=by
 unfold EM
 grind [ZXw,H9,N6,Q9]
def VX(w:World)(S:Nat->Prop)(q:Nat)(pt:List Nat)(p x:Nat)(w':World):Prop:=AB S w w'/\C1 w' (plus S w) q (pt.set p x)
theorem Z0(hM:C1 w S q pt)(hp:p<pt.length)(hx:x<4294967296)(hxx:if x=0 then pt.getD p 0≠0 else pt.getD p 0=0):
  Calls prog 211 #[pP q,iI p,.int .u32 x] w λe w'=>e=.returned (.tuple #[])/\VX w S q pt p x w':=by
 obtain⟨ok,sq,g,c,L,hr,h1,h2,sg,ho,ht,hd⟩:=hM;have hn:=WP ok.n2;have hk:=X6 hp;have hLl:L.length=CT pt.length:=by have:=ho.1;simp[GM]at this;exact this
 obtain⟨k,Xi⟩:∃k,k=p/256:=⟨_,rfl⟩;obtain⟨i,hii⟩:∃i,i=p%256:=⟨_,rfl⟩;have Y:p=256*k+i:=Ω
 have hi:i<256:=Ω
 rw[<-Xi]at hk;have O:k<L.length:=Ω
 have cg:=BP ho (Y4 O);have fg:=FK ho k;have c0:=hr.cc 0;have c2:=hr.cc 2;have f2:=hr.free 2;have M:q≠g:=AO hr ho (by decide) rfl rfl;have Xa:g≠q:=λe=>M e.symm;have hnz:=ML pt;have hn2:=ok.n2;have Xj:=hr.lt;have Xg:=(BB ho rfl).2;have U:=ok.set p hx;have X:(pt.set p x).length=pt.length:=ω;have hh:=ht k hk;cases hl:L.getD k none with
 | none=>
  rw[hl]at hh cg;have h0:pt.getD p 0=0:=by rw[Y];exact hh i hi
  have A:x≠0:=by
   intro e;subst e;rw[θ rfl]at hxx;exact hxx h0
  refine(XyQ c0 c2 f2 cg fg M Xj Xg hk hn hi Ω A Y).mono ?_;rintro e w' ⟨rfl,rfl⟩;refine⟨rfl,((AB.refl S w).setCell (a:=⟨g,k,none⟩) (λ_=>sg) _ |>.setCell (a:=⟨q,2,none⟩) (λ_=>sq) _).alloc _,U,.inl sq,g,c,L.set k (some w.heap.size),?_,by rw[X];exact h1,h2,.inl sg,?_,λj hj=>?_,λa b y ha hb=>?_⟩
  ·have r1:=(AV (q:=g) (j:=k) hr (pP w.heap.size) (λy hy=>by cases hy;exact M));have r2:Rec _ _ _ _:=Rec.set (q:=q) r1 2 (iI ((nz pt:Nat)+1));refine QON (r2.gr ((Gr.refl _).alloc _)) ?_;rw[OZ hp h0 A,X];rfl
  ·rw[X,YQ];exact CM (AV (World.ownsRow.stored ho k _).1 _ (λy hy=>by cases hy;exact Xa)) ((Gr.refl _).alloc _)
  ·rw[X]at hj;rw[PM O];by_cases e:k=j
   ·subst e;rw[θ rfl];refine⟨.inr (ϑ _),?_⟩
    have hs:∀(W:World) (Z:Array Value) (xs:List Value) (N:Nat),W.heap.size=N->Z.toList=xs->Rec (W.alloc (.cells Z 284)) N 284 xs:=by
     rintro W Z xs N rfl rfl;exact Rec.new W _ _
    refine hs _ _ _ _ (by simp) ?_;rw[Array.toList_setIfInBounds,Array.toList_setIfInBounds,VT9,Y,VXI Ω hi rfl]
    have:nz ((CA pt k).set i x)=1:=by
     rw[OZ (by rw[H9];exact hi) (by rw[N6 _ _ hi];exact hh i hi) A,ZXw (H9 pt k) (λy hy=>by rw[N6 _ _ hy];exact hh y hy),Q9]
    rw[this,Y8u hh];rfl
   ·rw[ψ e];have J:=ht j hj;cases hl':L.getD j none with
    | none=>
     rw[hl']at J;intro y hy;rw[EG hp,ψ Ω];exact J y hy
    | some b=>
     rw[hl']at J;refine⟨.inl J.1,?_⟩;rw[Y,X8 hi (λh=>e h.symm)];have I:b≠g:=AO J.2 ho (by decide) rfl rfl;have V:b≠q:=AO J.2 hr (by decide) rfl rfl;have r1:=AV (q:=g) (j:=k) J.2 (pP w.heap.size) (λy hy=>by cases hy;exact I);exact Rec.gr (AV r1 _ (λy hy=>by cases hy;exact V)) ((Gr.refl _).alloc _)
  ·rw[PM O]at ha hb
   have Xb:∀j,L.getD j none≠some w.heap.size:=λj hj=>by
    by_cases Xk:j<CT pt.length
    ·have:=ht j Xk;rw[hj]at this;exact absurd this.2.lt (ζP _)
    ·rw[β,ζH Ω]at hj;cases hj
   by_cases e1:k=a <;> by_cases e2:k=b
   ·rw[<-e1,e2]
   ·rw[θ e1]at ha;rw[ψ e2]at hb;cases ha;exact absurd hb (Xb b)
   ·rw[ψ e1]at ha;rw[θ e2]at hb;cases hb;exact absurd ha (Xb a)
   ·rw[ψ e1]at ha;rw[ψ e2]at hb;exact hd _ _ _ ha hb
 | some b=>
  rw[hl]at hh cg;obtain⟨sb,hb⟩:=hh;have I:b≠g:=AO hb ho (by decide) rfl rfl;have B:g≠b:=λe=>I e.symm;have V:b≠q:=AO hb hr (by decide) rfl rfl;have Xe:q≠b:=λe=>V e.symm;have cb:=hb.cell (Z4 pt k hi);have cn:=hb.cell (XMj pt k);have Xd:i<(CA pt k).length:=by rw[H9];exact hi
  have E:(CA pt k).getD i 0=pt.getD p 0:=by rw[N6 _ _ hi,Y]
  have Xl:if x=0 then nz ((CA pt k).set i x)+1=nz (CA pt k)/\nz (pt.set p x)+1=nz pt else nz ((CA pt k).set i x)=nz (CA pt k)+1/\nz (pt.set p x)=nz pt+1:=by
   by_cases e:x=0
   ·rw[θ e]at hxx⊢;subst e;exact⟨VA Xd (by rw[E];exact hxx),VA hp hxx⟩
   ·rw[ψ e]at hxx⊢;exact⟨OZ Xd (by rw[E];exact hxx) e,OZ hp hxx e⟩
  have l1:=ML (CA pt k);have l2:=ML ((CA pt k).set i x);rw[ω]at l2;rw[H9]at l1 l2;have l3:=ML (pt.set p x);rw[X]at l3;refine(YAa c0 c2 f2 cg fg cb cn (hb.free i) (hb.free 256) M I V hk hn hi Ω (m':=nz (pt.set p x)) Ω l1 l2 hx Xl Y).mono ?_;rintro e w' ⟨rfl,rfl⟩;obtain⟨t',G⟩:∃t',t'=nz ((CA pt k).set i x):=⟨_,rfl⟩;rw[<-G];have D:=VXI (pt:=pt) (k:=k) (i:=i) (x:=x) (t:=t') Ω hi G.symm;rw[<-Y]at D
  -- the world behind the first three stores
  obtain⟨W,hW⟩:∃W,W=((w.setCell ⟨b,i,none⟩ (.int .u32 x)).setCell ⟨b,256,none⟩ (.int .i64 t')).setCell ⟨q,2,none⟩ (.int .i64 (nz (pt.set p x):Nat)):=⟨_,rfl⟩;have TW:AB S w W:=by rw[hW];exact((AB.refl S w).setCell (a:=⟨b,i,none⟩) (λ_=>sb) _ |>.setCell (a:=⟨b,256,none⟩) (λ_=>sb) _).setCell (a:=⟨q,2,none⟩) (λ_=>sq) _
  have RQ:Rec W q 188 [.slice (some ⟨g,0,none⟩) (CT pt.length) c,iI pt.length,iI (nz (pt.set p x):Nat)]:=by
   rw[hW];have r1:=AV (q:=b) (j:=i) hr (.int .u32 x) (λy hy=>by cases hy;exact Xe);have r2:=AV (q:=b) (j:=256) r1 (iI t') (λy hy=>by cases hy;exact Xe);exact Rec.set r2 2 _
  have RG:W.ownsRow 0 281 1 (.slice (some ⟨g,0,none⟩) (CT pt.length) c) (CT pt.length) (GM L):=by
   rw[hW];exact AV (AV (AV ho _ (λy hy=>by cases hy;exact B)) _ (λy hy=>by cases hy;exact B)) _ (λy hy=>by cases hy;exact Xa)
  have RB:Rec W b 284 (EM (pt.set p x) k):=by
   rw[hW,D];exact AV (Rec.set (Rec.set hb i _) 256 _) _ (λy hy=>by cases hy;exact V)
  have RO:∀j y,j≠k->j<CT pt.length->L.getD j none=some y->S y/\Rec W y 284 (EM (pt.set p x) j):=λj y hj hj2 hy=>by
   have:=ht j hj2;rw[hy]at this;refine⟨this.1,?_⟩;rw[Y,X8 hi hj,hW];have Xc:y≠b:=λe=>hj (hd _ _ _ (by rw[e]at hy;exact hy) hl);have Xf:y≠q:=AO this.2 hr (by decide) rfl rfl;exact AV (AV (AV this.2 _ (λz hz=>by cases hz;exact Xc)) _ (λz hz=>by cases hz;exact Xc)) _ (λz hz=>by cases hz;exact Xf)
  have RN:∀j,j≠k->j<CT pt.length->L.getD j none=none->∀y,y<256->(pt.set p x).getD (256*j+y) 0=0:=λj hj hj2 hy y hy2=>by
   have:=ht j hj2;rw[hy]at this;rw[EG hp,ψ Ω];exact this y hy2
  unfold OF;by_cases h0:t'=0
  ·rw[θ h0,<-hW];refine⟨rfl,TW.setCell (a:=⟨g,k,none⟩) (λ_=>sg) _,U,.inl sq,g,c,L.set k none,?_,by rw[X];exact h1,h2,.inl sg,?_,λj hj=>?_,λa y z ha hz=>?_⟩
   ·rw[X];exact AV RQ _ (λy hy=>by cases hy;exact M)
   ·rw[X,YQ];exact(World.ownsRow.stored RG k _).1
   ·rw[X]at hj;rw[PM O];by_cases e:k=j
    ·subst e;rw[θ rfl];intro y hy;have:=Z2A (l:=(CA pt k).set i x) (by rw[<-G];exact h0) (i:=y) (by rw[ω,H9];exact hy);rw[<-YN Ω,N6 _ _ hy,<-Y]at this;exact this
    ·rw[ψ e];cases hl':L.getD j none with
     | none=>exact RN j (λh=>e h.symm) hj hl'
     | some y=>
      have:=RO j y (λh=>e h.symm) hj hl';have Xh:y≠g:=AO this.2 RG (by decide) rfl rfl;exact⟨.inl this.1,AV this.2 _ (λz hz=>by cases hz;exact Xh)⟩
   ·rw[PM O]at ha hz;by_cases e1:k=a
    ·rw[θ e1]at ha;cases ha
    ·by_cases e2:k=y
     ·rw[θ e2]at hz;cases hz
     ·rw[ψ e1]at ha;rw[ψ e2]at hz;exact hd _ _ _ ha hz
  ·rw[ψ h0,<-hW];refine⟨rfl,TW,U,.inl sq,g,c,L,?_,by rw[X];exact h1,h2,.inl sg,?_,λj hj=>?_,hd⟩
   ·rw[X];exact RQ
   ·rw[X];exact RG
   ·rw[X]at hj;by_cases e:k=j
    ·subst e;rw[hl];exact⟨.inl sb,RB⟩
    ·cases hl':L.getD j none with
     | none=>exact RN j (λh=>e h.symm) hj hl'
     | some y=>
      have:=RO j y (λh=>e h.symm) hj hl';exact⟨.inl this.1,this.2⟩
def frE(pt:List Nat)(p:Int):Int:=if pgE pt p=0 then (if pt.getD p.toNat 0=0 then 12 else 0)else 11
def frV(pt:List Nat)(p:Int):Int:=if frE pt p=0 then (pt.getD p.toNat 0:Nat)-1 else 0
theorem RU(hM:C1 w S q pt){b:Nat}{p:Int}(hc:w.cell? ⟨b,0,none⟩=some (iI p)):cQ 222 #[pP q,.slice (some ⟨b,0,none⟩) 1 1] w (iI (pgE pt p)):=by
 have:=XaF hM (b:=b) (n:=1) (l:=[p]) rfl Ω (λi hi=>by
  simp_all)
 refine this.mono ?_;rintro e w' ⟨rfl,rfl⟩;refine⟨AM ?_,rfl⟩;unfold MP;rcases Z7Q pt p with h|h|h
 ·simp[h.2]
 ·simp[h.2.2]
 simp_all
theorem PO{p:Int}(h:pgE pt p=0):∃j:Nat,p=j/\j<pt.length:=by
 unfold pgE at h
 split at h
 ·exact⟨p.toNat,by omega,by omega⟩
 ·cases h
theorem XAh(pt:List Nat)(p:Int):pgE pt p=0\/pgE pt p=11:=by unfold pgE;omega
theorem KH(hM:C1 w S q pt)(p:Int):Calls prog 198 #[pP q,iI p] w λe w'=>e=.returned (.tuple #[iI (frV pt p),iI (frE pt p)])/\Gr w w':=by
 have HM:=hM;rcases XAh pt p with h0|h0
 ·obtain⟨j,rfl,hj⟩:=PO h0
  have hl:pt.getD j 0<4294967296:=by
   rw[β,η hj];exact hM.ok.lt _ (μ hj)
  have HV:Hid (frE pt j=if pt.getD j 0=0 then 12 else 0):=⟨by unfold frE;simp_all⟩;have HF:Hid (frV pt j=if frE pt j=0 then ((pt.getD j 0:Nat):Int)-1 else 0):=⟨by unfold frV;simp_all⟩;have HG:=(λ(w':World) (h:Gr w w')=>ZM (hM.gr h) hj);have H0:=h0;generalize pt.getD j 0=x at HV HF HG hl;by_cases hx:x=0
  ·subst hx;have E1:=HV.o;rw[θ rfl]at E1;have E2:=HF.o;rw[E1,ψ (by decide)]at E2;have HE:=(ξ E1 E2);go_enter func198,ntmps198
   go_wp2_with(first
    | (go_at_call 222;refine(RU (HM.gr ((Gr.refl w).alloc _)) (p:=j) (ζA _ _ _ 0 rfl)).mono ?_;rintro e w1 ⟨rfl,rfl⟩;rw[H0])
    | (go_at_call 223;refine(HG _ ((Gr.refl w).alloc _)).mono ?_;rintro e w1 ⟨rfl,rfl⟩))
   go_ret2;exact⟨BG (BJ (by rw[HE.2])) (BJ (by rw[HE.1])),(Gr.refl w).alloc _⟩
  ·have E1:=HV.o;rw[ψ hx]at E1;have E2:=HF.o;rw[E1,θ rfl]at E2;have HE:=(ξ E1 E2);have d0:((x:Int)==0)=false:=by simp_all
   go_enter func198,ntmps198
   go_wp2_with(first
    | (go_at_call 222;refine(RU (HM.gr ((Gr.refl w).alloc _)) (p:=j) (ζA _ _ _ 0 rfl)).mono ?_;rintro e w1 ⟨rfl,rfl⟩;rw[H0])
    | (go_at_call 223;refine(HG _ ((Gr.refl w).alloc _)).mono ?_;rintro e w1 ⟨rfl,rfl⟩))
   go_ret2;exact⟨BG (BJ (by rw[HE.2])) (BJ (by rw[HE.1])),(Gr.refl w).alloc _⟩
 ·have E1:frE pt p=11:=by unfold frE;omega
  have E2:frV pt p=0:=by unfold frV;omega
  have HE:=(ξ E1 E2);have H0:=h0;go_enter func198,ntmps198;go_wp2_with(go_at_call 222;refine(RU (HM.gr ((Gr.refl w).alloc _)) (p:=p) (ζA _ _ _ 0 rfl)).mono ?_;rintro e w1 ⟨rfl,rfl⟩;rw[H0]);go_ret2;exact⟨BG (BJ (by rw[HE.2])) (BJ (by rw[HE.1])),(Gr.refl w).alloc _⟩
theorem YTd(hM:C1 w S q pt)(hp:p<pt.length)(h0:pt.getD p 0=0)(hf:f<4096):Calls prog 200 #[pP q,iI p,iI f] w λe w'=>e=.returned (iI 0)/\VX w S q pt p (f+1) w':=by
 have HM:=hM;have HI:Hid (pgE pt p=0):=⟨by unfold pgE;rw[θ ⟨by omega,by omega⟩]⟩;have HG:=(λ(w':World) (h:Gr w w')=>ZM (hM.gr h) hp);have HS:=(λ(w':World) (h:Gr w w')=>Z0 (hM.gr h) (x:=f+1) hp Ω (by exact h0));rw[h0]at HG;go_enter func200,ntmps200
 go_wp2_with(first
  | (go_at_call 222;refine(RU (HM.gr ((Gr.refl w).alloc _)) (p:=p) (ζA _ _ _ 0 rfl)).mono ?_;rintro e w1 ⟨rfl,rfl⟩;rw[HI.o])
  | (go_at_call 223;refine(HG _ ((Gr.refl w).alloc _)).mono ?_;rintro e w1 ⟨rfl,rfl⟩)
  | (go_at_call 211;refine(HS _ ((Gr.refl w).alloc _)).mono ?_;rintro e w1 ⟨rfl,X⟩;have HE:=X))
 go_ret;obtain⟨t1,t2⟩:=HE;exact⟨rfl,(((Gr.refl w).alloc _).touch S).trans t1,t2.mono (λk hk=>hk.imp id (λh=>χ ((Gr.refl w).alloc _).size h))⟩
def QcT(w:World)(S:Nat->Prop)(q:Nat)(pt:List Nat)(p:Int)(w':World):Prop:=(frE pt p≠0/\Gr w w')\/(frE pt p=0/\VX w S q pt p.toNat 0 w')
theorem MW{p:Int}(h:frE pt p=0):∃j:Nat,p=j/\j<pt.length/\pt.getD j 0≠0:=by
 unfold frE at h
 grind [PO]
theorem XlB(pt:List Nat)(p:Int):0<=frE pt p/\frE pt p<=12:=by unfold frE;omega
theorem Yzj(hM:C1 w S q pt)(p:Int):Calls prog 181 #[pP q,iI p] w λe w'=>e=.returned (.tuple #[iI (frV pt p),iI (frE pt p)])/\QcT w S q pt p w':=by
 have HM:=hM;by_cases h0:frE pt p=0
 ·have HZ:=h0;obtain⟨j,rfl,hj,hx⟩:=MW h0;have HS:=(λ(w':World) (h:Gr w w')=>Z0 (hM.gr h) (x:=0) hj Ω (by exact hx));go_enter func181,ntmps181
  go_wp2_with(first
   | (go_at_call 198;refine(KH HM j).mono ?_;rintro e w1 ⟨rfl,Y⟩;have X:=Y)
   | (go_at_call 211;refine(HS _ X).mono ?_;rintro e w2 ⟨rfl,Z⟩;have HE:=Z))
  go_ret2;obtain⟨t1,t2⟩:=HE;refine⟨BG rfl (BJ (by rw[HZ])),.inr ⟨HZ,(X.touch S).trans t1,?_⟩⟩;exact t2.mono (λk hk=>hk.imp id (λh=>χ X.size h))
 ·have HZ:=h0;have hr:=XlB pt p;obtain⟨x,hx⟩:∃x,x=frE pt p:=⟨_,rfl⟩;have HX:=ι hx;rw[<-hx]at h0 hr;have d0:(x==0)=false:=by simpa using h0
  clear hM hx;go_enter func181,ntmps181;go_wp2_with(go_at_call 198;refine(KH HM p).mono ?_;rintro e w1 ⟨rfl,Y⟩;rw[<-HX.o];have X:=Y);go_ret2;exact⟨BG rfl (BJ (by rw[HX.o])),.inl ⟨HZ,X⟩⟩
theorem I1.new(h1:1<=n)(h2:n<=524288):I1 (List.replicate n 0):=
 ⟨by simp_all,by simp_all,λx hx=>by simp_all⟩
theorem NP(n i:Nat):(List.replicate n 0).getD i 0=0:=by
 grind
theorem Qr3:(prog.info? 281).map (λi=>(i.zero,i.size,i.bytes))=some (some (.pointer none),1,8):=by kernel_rfl
theorem JxF(n:Nat):(madeCells #[.pointer none] n).toList=GM (List.replicate n none):=by
 unfold madeCells GM;apply ξn
 ·simp
 grind
theorem QW(h:w.ownsRow base E size v n xs):w.ownsRow 0 E size v n xs:=by
 obtain⟨h1,h|⟨g,c,X,e1,e2,h⟩⟩:=h
 ·exact⟨h1,.inl h⟩
 ·exact⟨h1,.inr ⟨g,c,X,e1,ζe _,h⟩⟩
theorem J3k(h1:1<=n)(h2:n<=524288):Calls prog 77 #[iI n] w λe w'=>∃q,e=.returned (.tuple #[pP q,iI 0])/\Gr w w'/\C1 w' (λk=>w.heap.size<=k) q (List.replicate n 0):=by
 obtain⟨i0,hi,U,J,hz2⟩:=info_parts Qr3;have e1:((n:Int)+256-1)/256=(CT n:Int):=by unfold CT;omega
 have b0:CT n<=2048:=WP h2;have HB:Hid (i0.bytes*CT n<=281474976710656):=⟨by grind⟩;have HM:Hid (CT n<=maxLen):=⟨by unfold maxLen;omega⟩;go_enter func77,ntmps77;go_wp2_with(at_make;refine wpList_make_full _ rfl _ _ 186 rfl w.heap.size 281 i0 (.pointer none) 1 underlying186 hi U J .i64 .i64 _ _ (CT n) rfl rfl ?h1 ?h2 HB.o HM.o (ϑ _) ?h3)
 case h1=>omega
 case h2=>omega
 case h3=>
  intro w1 X Y;have Z:Gr w w1:=(JX Y (λ_=>False) (λk e _=>by cases e)).gr;have HO:=(QW X);have HG:=Z;go_wp2;go_ret2;have hl:(List.replicate n 0).length=n:=ζG;have X:=HO;rw[JxF]at X;refine⟨_,BG rfl rfl,HG.alloc _,I1.new h1 h2,HG.size,w.heap.size,CT n,List.replicate (CT n) none,?_,by simp_all,HM.o,ϑ _,?_,λk hk=>?_,λk j b hk=>?_⟩
  ·grind [Q9,Rec.new]
  ·rw[hl];exact CM X ((Gr.refl _).alloc _)
  ·grind
  grind
end Go.Proofs.YtggjoonlcjjgkaaGreatDoor
