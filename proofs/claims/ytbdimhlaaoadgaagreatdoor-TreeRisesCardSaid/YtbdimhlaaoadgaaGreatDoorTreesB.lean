/- Part 2 of what Trees leans on: my own lemmas, merged by shake.py. -/
import Derived.Test.YtbdimhlaaoadgaaGreatDoorTreesA
import Derived.Shelf.Abstract
import Derived.Shelf.RegionOpen
import Derived.OwnWalkIn
import Derived.TacticsInMore
import Derived.LoopNIn
import Derived.LoopIn
import Derived.Stop.RegionWithIn
import Derived.Sort.CutIn
namespace Go.Proofs.YtbdimhlaaoadgaaGreatDoor
open _root_.Go.Proofs.Tryz
set_option maxHeartbeats 3200000
set_option maxRecDepth 100000
open Go.RowKit Word
variable{a base f s z:Int}{l:List Bool}{B BASE F X b i j k m m' n p p1 p2 q x:Nat}{S:Nat->Prop}{P Q:Prop}{v:Value}{W w w' w1 wr:World}
theorem AE(k : Q)(h : Hid Q → P := by intro hq;refine OM ?_;(try simp only[AG,ν,π]);(repeat(go_big_quiet_step (fail)));refine ζd ?_;exact hq.o) : P := h ⟨k⟩
theorem EL(k : Q)(h : Hid Q → P := by intro hq;refine N3 ?_;(try simp only[AG,ν,π]);(repeat(go_big_quiet_step (fail)));refine ζd ?_;exact hq.o) : P := h ⟨k⟩
theorem GM(k : Q)(h : Hid Q → P := by intro hq;refine X0q ?_;(try simp only[AG,ν,π]);(repeat(go_big_quiet_step (fail)));refine ζd ?_;refine ζI ?_;exact hq.o) : P := h ⟨k⟩
theorem L8(k : Q)(h : Hid Q → P := by intro hq;refine I4 ?_;(try simp only[AG,ν,π]);(repeat(go_big_quiet_step (fail)));refine ζd ?_;exact hq.o) : P := h ⟨k⟩
theorem NE(k : Q)(h : Hid Q → P := by intro hq;refine YAC ?_;(try simp only[AG,ν,π]);(repeat(go_big_quiet_step (fail)));refine ζd ?_;refine ζI ?_;exact hq.o) : P := h ⟨k⟩
theorem AL(k : Q)(h : Hid Q → P := by intro hq;refine ET ?_;(try simp only[AG,ν,π]);(repeat(go_big_quiet_step (fail)));refine ζd ?_;refine ζI ?_;exact hq.o) : P := h ⟨k⟩
theorem Vqh(k : Q)(h : Hid Q → P := by intro hq;(try simp only[AG,ν,π]);(repeat(go_big_quiet_step (fail)));refine ζd ?_;exact hq.o) : P := h ⟨k⟩
theorem G6(k : Q)(h : Hid Q → P := by intro hq;refine Xw6 ?_;(try simp only[AG,ν,π]);(repeat(go_big_quiet_step (fail)));refine ζd ?_;exact hq.o) : P := h ⟨k⟩
theorem Qy5(k : Q)(h : Hid Q → P := by intro hq;refine YqX ?_;(try simp only[AG,ν,π]);(repeat(go_big_quiet_step (fail)));refine ζd ?_;refine ζI ?_;exact hq.o) : P := h ⟨k⟩
theorem G8(k : Q)(h : Hid Q → P := by intro hq;refine NZ ?_;(try simp only[AG,ν,π]);(repeat(go_big_quiet_step (fail)));refine ζd ?_;exact hq.o) : P := h ⟨k⟩
theorem LX(k : Q)(h : Hid Q → P := by intro hq;refine Vy6 ?_;(try simp only[AG,ν,π]);(repeat(go_big_quiet_step (fail)));refine ζd ?_;refine ζI ?_;exact hq.o) : P := h ⟨k⟩
abbrev Ob:=Nat×Nat
variable{L:List Ob}{o:Ob}
structure AP(n:Nat)(L:List Ob):Prop where
 pw:L.Pairwise (λo q=>o.1+o.2<=q.1)
 sz:∀o∈L,1<=o.2/\o.1+o.2<=n
theorem AP.nil(n:Nat):AP n []:=⟨List.Pairwise.nil,λ_ h=>by cases h⟩
theorem AP.at(h:AP n L)(hi:i<L.length)(hj:j<L.length)(hij:i<j):L[i].1+L[i].2<=L[j].1:=List.pairwise_iff_getElem.1 h.pw i j hi hj hij
theorem AP.disj(h:AP n L){q:Ob}(ho:o∈L)(hq:q∈L):o=q\/o.1+o.2<=q.1\/q.1+q.2<=o.1:=by
 obtain⟨i,hi,rfl⟩:=ζo ho;obtain⟨j,hj,rfl⟩:=ζo hq;rcases ζZ i j with X|rfl|X
 ·exact .inr (.inl (h.at hi hj X))
 ·simp_all
 ·exact .inr (.inr (h.at hj hi X))
theorem AP.len:∀{L:List Ob},AP n L->L.length<=n:=by
 intro L h
 have X:∀(L:List Ob),L.Pairwise (λo q=>o.1+o.2<=q.1)->(∀o∈L,1<=o.2/\o.1+o.2<=n)->∀a,a<=n->(∀o∈L,a<=o.1)->a+L.length<=n:=by
  intro L
  induction L with
  | nil=>simp_all
  | cons o r ih=>
   intro hp hs a ha hl;obtain⟨h1,h2⟩:=ξh.1 hp;have ho:=hs o (ζa ..);have:=ih h2 (λq hq=>hs q (τ _ hq)) (o.1+o.2) ho.2 (λq hq=>h1 q hq)
   grind
 have:=X L h.pw h.sz 0 (ζf _) (λ_ _=>ζf _);omega
def B8(n:Nat)(L:List Ob):List Bool:=(List.range n).map λi=>L.any λo=>o.1==i
def EA(n:Nat)(L:List Ob):List Bool:=(List.range n).map λi=>L.any λo=>o.1+o.2==i+1
theorem IQ(n:Nat)(L:List Ob):(B8 n L).length=n:=by simp[B8]
theorem QO(n:Nat)(L:List Ob):(EA n L).length=n:=by simp[EA]
theorem JR(f:Nat->Bool)(n i:Nat):at_ ((List.range n).map f) i=(decide (i<n)&&f i):=by
 unfold at_
 grind
theorem J5(h:AP n L)(i:Nat):at_ (B8 n L) i=true↔∃o∈L,o.1=i:=by
 unfold B8;rw[JR];simp only[ζh,ζg,ψb,ξa];constructor
 ·simp_all
 ·rintro⟨o,ho,rfl⟩;have:=h.sz o ho;grind
theorem TD(h:AP n L)(i:Nat):at_ (EA n L) i=true↔∃o∈L,o.1+o.2=i+1:=by
 unfold EA;rw[JR];simp only[ζh,ζg,ψb,ξa];constructor
 ·simp_all
 ·rintro⟨o,ho,e⟩;have:=h.sz o ho;grind
theorem Zox(h:AP n L)(ho:o∈L):BU (EA n L) (o.1:Int)=o.1+o.2-1/\o.1+o.2-1<(EA n L).length:=by
 have hs:=h.sz o ho
 have:=VuI (l:=EA n L) (a:=(o.1:Int)) (k:=o.1+o.2-1) (λi hi hc=>by
  obtain⟨q,hq,e⟩:=(TD h i).1 hc.1
  rcases h.disj ho hq with rfl|hd|hd <;> omega) ((TD h _).2 ⟨o,ho,by omega⟩) Ω
 omega
def BA(L:List Ob)(a:Int):Nat:=L.findIdx λo=>decide (a<=o.1)
theorem ON(L:List Ob)(a:Int):BA L a<=L.length:=List.findIdx_le_length
theorem LK(h:i<BA L a)(hi:i<L.length):(L[i].1:Int)<a:=by
 have:=List.not_of_lt_findIdx h
 simp_all
theorem MS(h:BA L a<L.length):a<=(L[BA L a]'h).1:=by
 have:=List.findIdx_getElem (p:=λo:Ob=>decide (a<=(o.1:Int))) (w:=h);simp only[ζg]at this;exact this
theorem MH(hj:j<=L.length)(hn:∀i (hi:i<L.length),i<j->(L[i].1:Int)<a)(hy:∀h:j<L.length,a<=(L[j].1:Int)):BA L a=j:=by
 rcases ζZ (BA L a) j with h|h|h
 ·have h1:=MS (L:=L) (a:=a) Ω
  grind
 ·exact h
 ·have X:j<L.length:=by grind [ON]
  have h1:=LK h X
  grind
theorem NS(h:AP n L)(hj:BA L a<L.length):BU (B8 n L) a=(L[BA L a]).1/\BU (B8 n L) a<(B8 n L).length:=by
 have hy:=MS hj;refine VuI (λi hi hc=>?_) ((J5 h _).2 ⟨_,μ hj,rfl⟩) Ω;obtain⟨q,hq,e⟩:=(J5 h i).1 hc.1;obtain⟨k,hk,rfl⟩:=ζo hq;rcases ζZ k (BA L a)with X|rfl|X
 ·have:=LK X hk;omega
 ·omega
 ·have:=h.at hj hk X;omega
theorem XL(h:AP n L)(hj:¬BA L a<L.length):BU (B8 n L) a=(B8 n L).length:=by
 grind [XoQ,J5,ζo,LK]
theorem X1z(h:AP n L)(hj:j<L.length):BA L ((L[j].1:Int)+(L[j].2:Int))=j+1:=by
 refine MH Ω (λi hi hij=>?_) (λh2=>?_)
 ·have hs:=h.sz _ (μ hj);rcases υ i j with h1|h1
  ·have:=h.at hi hj h1;omega
  grind
 ·have:=h.at hj h2 (ξQ j);omega
def S4(a:Int)(o:Ob):Bool:=decide ((o.1:Int)<=a/\a<o.1+o.2)
def A9(L:List Ob)(a:Int):Nat:=L.findIdx (S4 a)
theorem JtS(L:List Ob)(a:Int):A9 L a<=L.length:=List.findIdx_le_length
theorem IN(h:A9 L a<L.length):((L[A9 L a]'h).1:Int)<=a/\a<(L[A9 L a]'h).1+(L[A9 L a]'h).2:=by
 have:=List.findIdx_getElem (p:=S4 a) (w:=h);simp only[S4,ζg]at this;exact this
theorem X2(h:i<A9 L a)(hi:i<L.length):¬((L[i].1:Int)<=a/\a<L[i].1+L[i].2):=by
 have:=List.not_of_lt_findIdx h;simpa[S4]using this
theorem OW(h:AP n L)(hj:j<L.length)(h1:(L[j].1:Int)<=a)(h2:a<L[j].1+L[j].2):A9 L a=j:=by
 rcases ζZ (A9 L a) j with X|he|X
 ·have hy:=IN (L:=L) (a:=a) Ω;have:=h.at (i:=A9 L a) Ω hj X;omega
 ·exact he
 ·exact absurd ⟨h1,h2⟩ (X2 X hj)
theorem PL(h:∀o∈L,¬((o.1:Int)<=a/\a<o.1+o.2)):A9 L a=L.length:=by
 rcases υ (A9 L a) L.length with h1|h1
 ·exact absurd (IN h1) (h _ (μ h1))
 grind [JtS]
theorem XA1(h:AP n L)(a:Int):(EO (B8 n L) (a+1) = -1/\∀o∈L,a<(o.1:Int))\/∃j,∃hj:j<L.length,EO (B8 n L) (a+1)=(L[j].1:Int)/\(L[j].1:Int)<=a/\∀i (hi:i<L.length),j<i->a<(L[i].1:Int):=by
 have hx:=ON L (a+1);rcases ζJ (BA L (a+1))with h0|h0
 ·left
  have Y:∀o∈L,a<(o.1:Int):=λo ho=>by
   obtain⟨k,hk,rfl⟩:=ζo ho;have hy:=MS (L:=L) (a:=a+1) Ω;rcases ζJ k with rfl|J
   ·grind
   ·have:=h.at (i:=0) (j:=k) Ω hk J
    grind
  grind [Xaz,J5]
 ·right;obtain⟨j,hj⟩:∃j,BA L (a+1)=j+1:=⟨BA L (a+1)-1,by omega⟩;have X:j<L.length:=Ω
  have h1:=LK (L:=L) (a:=a+1) (i:=j) Ω X
  have Y:∀i (hi:i<L.length),j<i->a<(L[i].1:Int):=λi hi hij=>by
   have hy:=MS (L:=L) (a:=a+1) Ω;rcases υ (BA L (a+1)) i with h2|h2
   ·have:=h.at (i:=BA L (a+1)) Ω hi h2;omega
   grind
  refine⟨j,X,YBm (λi hij hc=>?_) ((J5 h _).2 ⟨_,μ X,rfl⟩) Ω,by omega,Y⟩;obtain⟨q,hq,e⟩:=(J5 h i).1 hc.1;obtain⟨k,hk,rfl⟩:=ζo hq;rcases ζZ k j with Z|rfl|Z
  ·have:=h.at hk X Z;omega
  ·omega
  grind
def DL(L:List Ob)(i:Nat):Bool:=L.any λo=>decide (o.1<=i/\i<o.1+o.2)
theorem OK:DL L i=true↔∃o∈L,o.1<=i/\i<o.1+o.2:=by simp[DL]
theorem Q5g:DL L i=decide (A9 L (i:Int)<L.length):=by
 by_cases h:A9 L (i:Int)<L.length
 ·rw[θ h];have:=IN h;exact OK.2 ⟨_,μ h,by omega,by omega⟩
 ·rw[ζ h];cases hb:DL L i with
  | false=>rfl
  | true=>
   obtain⟨o,ho,h1,h2⟩:=OK.1 hb;obtain⟨k,hk,rfl⟩:=ζo ho;exact absurd ⟨by omega,by omega⟩ (X2 (L:=L) (a:=(i:Int)) (i:=k) Ω hk)
def KH(L:List Ob)(n:Nat)(f t:Int):Nat:=cnt (λi=>decide (f<=(i:Nat)/\((i:Nat):Int)<t)&&DL L i) n
def over(o:Ob)(f t:Int):Int:=max 0 (min (o.1+o.2:Int) t-max (o.1:Int) f)
def A8(L:List Ob)(f t:Int):Int:=(L.map λo=>over o f t).sum
theorem TJ(a b n:Nat)(h1:a<=b)(h2:b<=n):cnt (λi=>decide (a<=i/\i<b)) n=b-a:=by
 induction n generalizing b with
 | zero=>rw[LP];omega
 | succ n ih=>
  rw[CS];rcases υ n b with h|h
  ·have e:cnt (λi=>decide (a<=i/\i<b)) n=cnt (λi=>decide (a<=i/\i<b-1)) n\/a=b:=by
    by_cases X:a=b
    ·exact .inr X
    ·exact .inl (CT (λi hi=>ξP.2 Ω))
   rcases e with e|e
   ·by_cases X:a=b
    ·subst X;rw[GZ (λi _=>ζ Ω),ζ Ω];simp
    ·rw[e,ih (b-1) Ω Ω,θ Ω];simp;omega
   ·subst e;rw[GZ (λi _=>ζ Ω),ζ Ω];simp
  simp_all
theorem XFd(n:Nat)(f t:Int):KH [] n f t=0:=GZ (λi _=>by simp[DL])
theorem X5c(ho:o.1+o.2<=n)(f t:Int):((cnt (λi=>decide (f<=(i:Nat)/\((i:Nat):Int)<t)&&decide (o.1<=i/\i<o.1+o.2)) n:Nat):Int)=over o f t:=by
 unfold over;by_cases h:max (o.1:Int) f<min (o.1+o.2:Int) t
 ·have e:cnt (λi=>decide (f<=(i:Nat)/\((i:Nat):Int)<t)&&decide (o.1<=i/\i<o.1+o.2)) n=cnt (λi=>decide ((max (o.1:Int) f).toNat<=i/\i<(min (o.1+o.2:Int) t).toNat)) n:=
   CT (λi _=>by grind)
  rw[e,TJ _ _ _ Ω Ω];omega
 grind [GZ,Bool.decide_and,ζ]
theorem SD:∀{L:List Ob},AP n L->∀(f t:Int),((KH L n f t:Nat):Int)=A8 L f t:=by
 intro L
 induction L with
 | nil=>intro _ f t;rw[XFd];rfl
 | cons o r ih=>
  intro h f t;obtain⟨h1,h2⟩:=ξh.1 h.pw;have hr:AP n r:=⟨h2,λq hq=>h.sz q (τ _ hq)⟩;have ho:=h.sz o (ζa ..)
  have hs:=L6 (f:=λi=>decide (f<=(i:Nat)/\((i:Nat):Int)<t)&&decide (o.1<=i/\i<o.1+o.2)) (g:=λi=>decide (f<=(i:Nat)/\((i:Nat):Int)<t)&&DL r i) (λi=>by
   by_cases hc:o.1<=i/\i<o.1+o.2
   ·have:DL r i=false:=by
     cases hb:DL r i with
     | false=>rfl
     | true=>obtain⟨q,hq,h3,h4⟩:=OK.1 hb;grind
    simp_all
   grind) n
  have e:KH (o :: r) n f t=cnt (λi=>(decide (f<=(i:Nat)/\((i:Nat):Int)<t)&&decide (o.1<=i/\i<o.1+o.2))||(decide (f<=(i:Nat)/\((i:Nat):Int)<t)&&DL r i)) n:=
   CT (λi _=>by rw[<-Bool.and_or_distrib_left];rfl)
  rw[e,hs,Int.natCast_add,X5c ho.2];have:=ih hr f t;unfold KH at this;rw[this];simp[A8]
theorem YSu(L M:List Ob)(f t:Int):A8 (L++M) f t=A8 L f t+A8 M f t:=by simp[A8]
theorem XLs{t:Int}(h:(o.1+o.2:Int)<=f\/t<=o.1):over o f t=0:=by unfold over;omega
theorem RV{t:Int}(h:∀o∈L,(o.1+o.2:Int)<=f\/t<=o.1):A8 L f t=0:=by
 induction L with
 | nil=>rfl
 | cons o r ih=>
  have:=ih (λq hq=>h q (τ _ hq));have h2:=XLs (h o (ζa ..));simp only[A8,ζ6,List.sum_cons]at this⊢;omega
theorem VT(hj:j<L.length)(f t:Int):A8 (L.take (j+1)) f t=A8 (L.take j) f t+over L[j] f t:=by
 rw[ζ4 hj,YSu];simp[A8]
theorem UM(L:List Ob)(j:Nat)(f t:Int):A8 L f t=A8 (L.take j) f t+A8 (L.drop j) f t:=by
 rw[<-YSu,ξJ]
theorem OL(h:o∈L.take j):∃i,∃hi:i<L.length,i<j/\L[i]=o:=by
 grind [ζo,ψs]
theorem JEg(h:o∈L.drop j):∃i,∃hi:i<L.length,j<=i/\L[i]=o:=by
 grind [ζo,List.length_drop]
theorem Vth(h:AP n L){t:Int}:
  A8 (L.take (BA L f)) f t=if A9 L f<L.length/\(L[A9 L f]?.getD (0,0)).1<f/\f<t then min ((L[A9 L f]?.getD (0,0)).1+(L[A9 L f]?.getD (0,0)).2:Int) t-f else 0:=by
 by_cases X:A9 L f<L.length
 ·have hy:=IN X;have hg:L[A9 L f]?.getD (0,0)=L[A9 L f]:=by rw[η X];rfl
  rw[hg];by_cases hlt:(L[A9 L f].1:Int)<f
  ·have hn:BA L f=A9 L f+1:=MH Ω (λi hi Y=>by
    rcases υ i (A9 L f)with h1|h1
    ·have:=h.at hi X h1;omega
    ·have:i=A9 L f:=Ω
     subst this;omega) (λh2=>by have:=h.at X h2 (ξQ _);omega)
   rw[hn,VT X,RV (λo ho=>by
    obtain⟨i,hi,Y,rfl⟩:=OL ho
    have:=h.at hi X Y;left;omega)]
   by_cases hft:f<t
   ·unfold over;omega
   ·unfold over;omega
  ·rw[ξ Ω];refine RV (λo ho=>?_);obtain⟨i,hi,Y,rfl⟩:=OL ho;have h1:=LK Y hi;rcases ζZ i (A9 L f)with h2|rfl|h2
   ·have:=h.at hi X h2;left;omega
   ·omega
   ·have:=h.at X hi h2;omega
 ·rw[ξ Ω];refine RV (λo ho=>?_);obtain⟨i,hi,Y,rfl⟩:=OL ho;have h1:=LK Y hi;have h2:=X2 (L:=L) (a:=f) (i:=i) Ω hi;left;omega
theorem XX(h:AP n L){t:Int}(hj:∀hl:j<L.length,t<=(L[j].1:Int)):A8 (L.drop j) f t=0:=by
 refine RV (λo ho=>?_);obtain⟨i,hi,hij,rfl⟩:=JEg ho;right;have:=hj Ω;rcases υ j i with h1|h1
 ·have:=h.at (i:=j) Ω hi h1;omega
 grind
theorem JAq(h:AP n L)(f t:Int):A8 L (max f 0) (min t n)=A8 L f t:=by
 unfold A8;congr 1;refine ξO (λo ho=>?_);have:=h.sz o ho;unfold over;omega
def sizes:List Ob->Nat
 | []=>0
 | o :: r=>o.2+sizes r
def D0:List Ob->Nat->Option Nat
 | [],_=>none
 | o :: r,k=>if k<o.2 then some (o.1+k)else D0 r (k-o.2)
def IY(L:List Ob)(k:Int):Int:=if k<0 then 0 else ((D0 L k.toNat).getD 0:Nat)
def XD(L:List Ob)(k:Int):Bool:=decide (0<=k)&&(D0 L k.toNat).isSome
theorem Jkd:∀{k:Nat},D0 L k=none↔sizes L<=k:=by
 induction L with
 | nil=>simp[D0,sizes]
 | cons o r ih=>
  intro k;unfold D0 sizes
  grind
theorem FD(hj:j<L.length):sizes (L.take (j+1))=sizes (L.take j)+L[j].2:=by
 induction L generalizing j with
 | nil=>simp at hj
 | cons o r ih=>
  cases j with
  | zero=>simp[sizes]
  | succ j=>
   have:=ih (j:=j) (by simp_all);simp only[ξN,sizes,ψv]at this⊢;omega
theorem XEK(hj:j<L.length)(hi:i<L[j].2):D0 L (sizes (L.take j)+i)=some (L[j].1+i):=by
 induction L generalizing j with
 | nil=>simp at hj
 | cons o r ih=>
  cases j with
  | zero=>
   have hi:i<o.2:=hi;simp only[List.take_zero,sizes,ξt,D0,ψu]
   simp_all
  | succ j=>
   have:=ih (j:=j) (by grind) (by simp_all);simp only[ξN,sizes,ψv,D0]
   grind
theorem SS(h:AP n L):A8 L 0 n=sizes L:=by
 have X:∀(L:List Ob),(∀o∈L,1<=o.2/\o.1+o.2<=n)->A8 L 0 n=sizes L:=by
  intro L
  induction L with
  | nil=>intro _;rfl
  | cons o r ih=>
   intro hs;have h1:=ih (λq hq=>hs q (τ _ hq));have ho:=hs o (ζa ..);have h2:over o 0 n=o.2:=by unfold over;omega
   simp only[A8,ζ6,List.sum_cons,sizes]at h1⊢;omega
 exact X L h.sz
theorem Yhz(h:AP n L)(hj:j<L.length)(hi:i<=L[j].2):A8 L 0 ((L[j].1:Int)+i)=sizes (L.take j)+i:=by
 rw[UM L (j+1),XX h (j:=j+1) (λhl=>by have:=h.at hj hl (ξQ _);omega),VT hj]
 have hg:AP L[j].1 (L.take j):=⟨h.pw.sublist (List.take_sublist ..),λo ho=>by
  obtain⟨q,hq,X,rfl⟩:=OL ho;have:=h.at hq hj X
  exact⟨(h.sz _ (μ hq)).1,this⟩⟩
 have e:A8 (L.take j) 0 ((L[j].1:Int)+i)=A8 (L.take j) 0 (L[j].1:Nat):=by
  unfold A8;congr 1;refine ξO (λo ho=>?_);have:=hg.sz o ho;unfold over;omega
 rw[e,SS hg];unfold over;omega
theorem FT(h:AP n L):sizes L<=n:=by
 have h1:=SS h;have h2:=SD h 0 n;have h3:KH L n 0 n<=n:=EJ _ _;omega
def DE:List Ob->Ob->List Ob
 | [],o=>[o]
 | q :: r,o=>if o.1<q.1 then o :: q :: r else q :: DE r o
theorem GD{x:Ob}:x∈DE L o↔x=o\/x∈L:=by
 induction L with
 | nil=>simp[DE]
 | cons q r ih=>
  unfold DE
  grind
theorem YKx(L:List Ob)(o:Ob):(DE L o).length=L.length+1:=by
 induction L with
 | nil=>rfl
 | cons q r ih=>unfold DE;grind
theorem RJ(h:AP n L)(h1:1<=o.2)(h2:o.1+o.2<=n)(hd:∀q∈L,o.1+o.2<=q.1\/q.1+q.2<=o.1):AP n (DE L o):=by
 refine⟨?_,λx hx=>?_⟩
 ·have X:∀(L:List Ob),L.Pairwise (λo q=>o.1+o.2<=q.1)->(∀q∈L,1<=q.2)->(∀q∈L,o.1+o.2<=q.1\/q.1+q.2<=o.1)->(DE L o).Pairwise (λo q=>o.1+o.2<=q.1):=by
   intro L
   induction L with
   | nil=>simp[DE]
   | cons q r ih=>
    intro hp hs hd;obtain⟨hp1,Y⟩:=ξh.1 hp;have hq:=hd q (ζa ..);have hqs:=hs q (ζa ..);unfold DE
    split
    ·rename_i hlt;refine ξh.2 ⟨λx hx=>?_,hp⟩
     grind
    ·rename_i hlt;refine ξh.2 ⟨λx hx=>?_,ih Y (λx hx=>hs x (τ _ hx)) (λx hx=>hd x (τ _ hx))⟩;rcases GD.1 hx with rfl|hx
     ·omega
     grind
  exact X L h.pw (λq hq=>(h.sz q hq).1) hd
 ·rcases GD.1 hx with rfl|hx
  ·omega
  ·exact h.sz x hx
theorem XJ{a b:Bool}(h:a=true↔b=true):a=b:=ψi.2 h
theorem YY{x:Bool}(hk:k<l.length):at_ (l.set k x) i=if i=k then x else at_ l i:=RW l k i x hk
theorem Yfk(h:AP n L)(h1:1<=o.2)(h2:o.1+o.2<=n)(hd:∀q∈L,o.1+o.2<=q.1\/q.1+q.2<=o.1):B8 n (DE L o)=(B8 n L).set o.1 true:=
 IL (by grind [ζb,IQ]) (λi _=>by
  rw[YY (by rw[IQ];omega)];refine XJ ?_;rw[J5 (RJ h h1 h2 hd)]
  split
  ·rename_i e;subst e;exact⟨λ_=>rfl,λ_=>⟨o,GD.2 (.inl rfl),rfl⟩⟩
  ·rename_i e;rw[J5 h];constructor
   ·rintro⟨q,hq,rfl⟩;rcases GD.1 hq with rfl|hq
    ·omega
    grind
   ·rintro⟨q,hq,rfl⟩;exact⟨q,GD.2 (.inr hq),rfl⟩)
theorem Y48(h:AP n L)(h1:1<=o.2)(h2:o.1+o.2<=n)(hd:∀q∈L,o.1+o.2<=q.1\/q.1+q.2<=o.1):EA n (DE L o)=(EA n L).set (o.1+o.2-1) true:=
 IL (by grind [ζb,QO]) (λi _=>by
  rw[YY (by rw[QO];omega)];refine XJ ?_;rw[TD (RJ h h1 h2 hd)]
  split
  ·rename_i e;exact⟨λ_=>rfl,λ_=>⟨o,GD.2 (.inl rfl),by omega⟩⟩
  ·rename_i e;rw[TD h];constructor
   ·rintro⟨q,hq,e2⟩;rcases GD.1 hq with rfl|hq
    ·omega
    grind
   ·rintro⟨q,hq,e2⟩;exact⟨q,GD.2 (.inr hq),e2⟩)
def G5(L:List Ob)(s z:Int):Bool:=L.any λo=>decide ((o.1:Int)<s+z/\s<o.1+o.2)
theorem SE:G5 L s z=true↔∃o∈L,(o.1:Int)<s+z/\s<o.1+o.2:=by simp[G5]
theorem V3K(h:AP n L)(hz:1<=z):G5 L s z=(decide (A9 L s<L.length)||(decide (BA L s<L.length)&&decide (((L[BA L s]?.getD (0,0)).1:Int)<s+z))):=by
 refine XJ ?_;rw[SE];simp only[ζ9,ζh,ζg];constructor
 ·rintro⟨o,ho,h1,h2⟩;by_cases hs:(o.1:Int)<=s
  ·grind [ζo,OW]
  ·right;obtain⟨j,hj,rfl⟩:=ζo ho
   have hn:BA L s<=j:=by
    rcases υ j (BA L s)with X|Y
    ·have:=LK X hj;omega
    ·exact Y
   refine⟨by omega,?_⟩;rw[η Ω]
   show (L[BA L s].1:Int)<s+z
   rcases υ (BA L s) j with X|Y
   ·have:=h.at (i:=BA L s) Ω hj X;omega
   grind
 ·rintro(hf|⟨hn,hl⟩)
  ·have:=IN hf
   grind
  ·rw[η hn]at hl;have hl:(L[BA L s].1:Int)<s+z:=hl;have hy:=MS hn;have:=(h.sz _ (μ hn)).1
   grind
def DA(L:List Ob)(n:Nat)(s z:Int):Int:=if z<1 then 15 else if s<0\/(n:Int)<=s\/(n:Int)-s<z then 11 else if G5 L s z then 7 else 0
def C2(L:List Ob)(n:Nat)(s z:Int):List Ob:=if DA L n s z=0 then DE L (s.toNat,z.toNat)else L
theorem YLm(h:DA L n s z=0):1<=z/\0<=s/\s+z<=n/\G5 L s z=false:=by
 unfold DA at h
 grind
theorem XCZ(hs:0<=s)(hz:1<=z)(h:G5 L s z=false):∀q∈L,s.toNat+z.toNat<=q.1\/q.1+q.2<=s.toNat:=λq hq=>by
 by_cases hc:(q.1:Int)<s+z/\s<q.1+q.2
 ·have:=SE.2 ⟨q,hq,hc⟩;simp_all
 ·omega
theorem V9U(h:AP n L)(s z:Int):AP n (C2 L n s z):=by
 unfold C2
 split
 ·rename_i he;obtain⟨h1,h2,h3,h4⟩:=YLm he;exact RJ h Ω Ω (XCZ h2 h1 h4)
 ·exact h
theorem V9f(n:Nat):B8 n []=List.replicate n false:=by unfold B8;exact IL (by simp) (λi hi=>by rw[JR];simp[at_,ξr];split <;> rfl)
theorem ZJ(n:Nat):EA n []=List.replicate n false:=by unfold EA;exact IL (by simp) (λi hi=>by rw[JR];simp[at_,ξr];split <;> rfl)
def nbl(n B:Nat):Nat:=(n+B-1)/B
theorem QnL(hB:1<=B)(h1:n<=j*B)(h2:∀i,i<j->i*B<n):nbl n B=j:=by
 refine Nat.div_eq_of_lt_le ?_ ?_
 ·cases j with
  | zero=>simp
  | succ i=>
   have:=h2 i Ω
   grind
 grind
theorem I3(hB:1<=B):j<nbl n B↔j*B<n:=by
 unfold nbl
 grind [ξg,ξp]
structure Idx(w:World)(x p b a:Nat)(l:List Bool)(B:Nat):Prop where
 vec:BB w p b l
 b1:1<=B
 b2:B<=1024
 hx:x<w.heap.size
 ha:a<w.heap.size
 c0:w.cell? ⟨x,0,none⟩=some (pP p)
 c1:∃cap,w.cell? ⟨x,1,none⟩=some (.slice (some ⟨a,0,none⟩) (nbl l.length B) cap)
 c2:w.cell? ⟨x,2,none⟩=some (iI B)
 c3:w.cell? ⟨x,3,none⟩=some (iI (cnt (at_ l) l.length:Nat))
 ca:∀j,j<nbl l.length B->w.cell? ⟨a,j,none⟩=some (iI (cnt (at_ l) (j*B):Nat))
theorem Idx.touch{a:Nat}(h:Idx w x p b a l B)(t:AB S w w')(h1:¬S x)(h2:¬S p)(h3:¬S b)(h4:¬S a):Idx w' x p b a l B:=by
 obtain⟨X,hc⟩:=h.c1
 exact⟨h.vec.touch t h2 h3,h.b1,h.b2,κ h.hx t.size,κ h.ha t.size,by rw[t.cell h.hx h1];exact h.c0,⟨X,by rw[t.cell h.hx h1];exact hc⟩,by rw[t.cell h.hx h1];exact h.c2,
  by rw[t.cell h.hx h1];exact h.c3,λj hj=>by rw[t.cell h.ha h4];exact h.ca j hj⟩
theorem Idx.gr{a:Nat}(h:Idx w x p b a l B)(t:Gr w w'):Idx w' x p b a l B:=h.touch (t.touch (λ_=>False)) (λh=>h) (λh=>h) (λh=>h) (λh=>h)
theorem LY(h:1<=B):nbl n B<=n:=by
 rcases υ n (nbl n B)with h1|h1
 ·have:=(I3 h).1 h1;have h2:n*1<=n*B:=Nat.mul_le_mul_left n h;omega
 ·exact h1
theorem ZsP{a:Nat}(hX:Idx w x p b a l B):
  cQ 253 #[pP x] w (iI (cnt (at_ l) l.length:Nat)):=by
 have c3:=hX.c3;go_enter func253,ntmps253;go_wp2;go_ret
 simp_all
theorem VlR(l:List Bool){b:Int}(h:b<=0):DT l 0 b=0:=by
 rw[J0];unfold EN;have:cnt (λi=>decide ((0:Int)<=(i:Nat)/\((i:Nat):Int)<b)&&at_ l i) l.length=cnt (λ_=>false) l.length:=CT (λi _=>by grind);rw[this];generalize l.length=n
 induction n with
 | zero=>rfl
 | succ n ih=>grind [CS]
theorem Zde{a:Nat}(hX:Idx w x p b a l B)(i:Int):
  A4 prog 259 #[pP x,iI i] w (iI (DT l 0 i:Nat)):=by
 have HX:=hX;have k0:=hX.c0;have k2:=hX.c2;have k3:=hX.c3;obtain⟨O,k1⟩:=hX.c1;have n2:=hX.vec.n2;unfold A4;by_cases h0:i<=0
 ·have d0:decide (i<=0)=true:=by simp[h0]
  rw[VlR l h0];go_enter func259,ntmps259;go_wp2;go_ret;exact⟨rfl,Gr.refl _⟩
 ·obtain⟨r,rfl⟩:∃r:Nat,i=r:=⟨i.toNat,by omega⟩;have hr:0<r:=Ω
  have d0:decide ((r:Int)<=0)=false:=by simp;omega
  by_cases h1:l.length<=r
  ·have d1:decide (l.length<=r)=true:=by simp[h1]
   rw[Vbb l Ω];obtain⟨N,hN⟩:∃N,N=cnt (at_ l) l.length:=⟨_,rfl⟩;rw[<-hN]at k3⊢;clear hN k1 k2;go_enter func259,ntmps259;go_wp2_with(go_at_call 175;refine(IS HX.vec).mono ?_;rintro e w1 ⟨rfl,rfl⟩);go_ret;exact⟨rfl,Gr.refl _⟩
  ·have d1:decide (l.length<=r)=false:=by simp;omega
   obtain⟨j,hj⟩:∃j,j=r/B:=⟨_,rfl⟩;have hB:=HX.b1;have hB2:=HX.b2;have V:j*B<=r:=by rw[hj];exact ζn r B
   have Z:j<nbl l.length B:=(I3 hB).2 Ω;have ka:=HX.ca j Z;have q1:((r:Int).tdiv (B:Int))=(j:Int):=by rw[hj];rfl
   have q2:((r:Int)/(B:Int))=(j:Int):=by rw[hj];rfl
   obtain⟨t,ht⟩:∃t,t=j*B:=⟨_,rfl⟩;have M:(j:Int)*(B:Int)=(t:Int):=Ω
   have hs:=V9n l (a:=0) (b:=(t:Int)) (c:=(r:Int)) Ω Ω;have hu:=VG l (r:=t) Ω;rw[<-ht]at ka;rw[hu]at hs;obtain⟨c1,U⟩:∃c,c=cnt (at_ l) t:=⟨_,rfl⟩;obtain⟨c2,X⟩:∃c,c=DT l (t:Int) (r:Int):=⟨_,rfl⟩;obtain⟨c3,Y⟩:∃c,c=DT l 0 (r:Int):=⟨_,rfl⟩;have hb1:c1<=1048576:=by grind [EJ]
   have hb2:c2<=1048576:=by have:=EJ (WV l (t:Int) (r:Int)) l.length;unfold DT at X;omega
   rw[<-U]at ka hs;rw[<-X,<-Y]at hs;rw[<-Y];obtain⟨N,hN⟩:∃N,N=nbl l.length B:=⟨_,rfl⟩;rw[<-hN]at Z k1;have HNn:=hN;have htb:(t:Int)<=1048576:=Ω
   have hBp:(B:Int)≠0:=Ω
   have H2:=X.symm;have HS:=hs;clear U X Y hN hj ht hu hs V k3;have hjb:(j:Int)<N:=Ω
   have hjl:j<=1048576:=by grind [LY]
   have w3:IntKind.i64.wrap ((j:Int)*(B:Int))=(t:Int):=by rw[M,ζw _ Ω]
   have w4:IntKind.i64.wrap ((c1:Int)+(c2:Int))=(c3:Int):=by rw[HS,ζw _ Ω]
   have z0:∀xs m,(grow w xs m).cell? ⟨x,0,none⟩=some (pP p):=λxs m=>((grown w xs m).cell HX.hx 0).trans k0;have z1:∀xs m,(grow w xs m).cell? ⟨x,1,none⟩=some (.slice (some ⟨a,0,none⟩) N O):=λxs m=>((grown w xs m).cell HX.hx 1).trans k1;have z2:∀xs m,(grow w xs m).cell? ⟨x,2,none⟩=some (iI B):=λxs m=>((grown w xs m).cell HX.hx 2).trans k2;have z4:∀xs m,(grow w xs m).cell? ⟨a,j,none⟩=some (iI c1):=λxs m=>((grown w xs m).cell HX.ha j).trans ka;go_enter func259,ntmps259;go_upto_region 6 with(go_at_call 175;refine(IS HX.vec).mono ?_;rintro e w1 ⟨rfl,rfl⟩);refine I5 (by kernel_rfl) (by kernel_rfl) ?_
   repeat(go_big_quiet_step (first
    | (go_at_call 281;have hc:=λxs m=>V7Z (HX.vec.gr (grown w xs m)) (t:Int) (r:Int) Ω;simp only[H2]at hc;exact A4.grown (hc _ _))))
   refine ζd ?_;intro _ I;obtain⟨⟨xs,nq⟩,J⟩:=I;subst J;go_wp2;go_ret;exact⟨by simp_all,grown w _ _⟩
theorem Qza(g:FuncId)(b1 b2:Addr)(n:Nat)(hn:n<=1048576)(t:Nat->Bool)(w:World)
  (hg:∀args W,(callFunc g args).run prog W=.ok (.enter g args) W)
  (hm:∀i j,i<=j->j<n->t i=true->t j=true)
  (hf:∀i W,i<n->Gr w W->Calls prog g #[iI (i:Nat),.pointer (some b1),.pointer (some b2)] W (λe W'=>e=.returned (.bool (t i))/\Gr W W')):
  A4 prog 293 #[iI n,.func (.func g) #[] #[.pointer (some b1),.pointer (some b2)]] w (iI (first t n:Nat)):=by
 have HF:=hf;have HM:=hm;unfold A4;go_enter func293,ntmps293;go_wp2
 go_loopw [5,6] (λx y wr=>∃lo hi:Nat,lo<=hi/\hi<=n/\Hid (∀i,i<lo->t i=false)/\Hid (hi<n->t hi=true)/\Hid (Gr w wr)/\x=iI lo/\y=iI hi) (λx y _=>(intOf y).toNat-(intOf x).toNat)
 case atStart=>exact⟨0,n,by omega,by omega,⟨λi h=>by omega⟩,⟨λh=>by omega⟩,⟨Gr.refl _⟩,rfl,rfl⟩
 case round=>
  obtain⟨lo,hi,h1,h2,hl,hh,hG,rfl,rfl⟩:=hrel;by_cases hlt:lo<hi
  ·obtain⟨m,Y⟩:∃m,m=(lo+hi)/2:=⟨_,rfl⟩;have hm1:lo<=m/\m<hi:=Ω
   have q1:((lo:Int)+(hi:Int))/2=(m:Int):=Ω
   clear Y;cases ht:t m with
   | false=>
    have HC:=(HF m wr Ω hG.o);have HN:=ht;go_wp2_with(refine HC.mono ?_;rintro e W2 ⟨rfl,h2⟩;rw[HN];have X:=ι (hG.o.trans h2);clear h2);go_roundw
    case rel=>
     refine⟨m+1,hi,by omega,by omega,⟨λi hi'=>?_⟩,hh,X,by go_num,rfl⟩;cases hti:t i with
     | false=>rfl
     | true=>have:=HM i m Ω Ω hti;rw[HN]at this;cases this
    case measure=>simp[intOf];omega
   | true=>
    have HC:=(HF m wr Ω hG.o);have HN:=ht;go_wp2_with(refine HC.mono ?_;rintro e W2 ⟨rfl,h2⟩;rw[HN];have X:=ι (hG.o.trans h2);clear h2);go_roundw
    case rel=>exact⟨lo,m,by omega,by omega,hl,⟨λ_=>HN⟩,X,rfl,by go_num⟩
    case measure=>simp[intOf];omega
  ·obtain rfl:lo=hi:=Ω
   have E:=(GA h2 hl.o hh.o);go_wp2;go_ret;exact⟨AS (by rw[E]),hG.o⟩
theorem Z1(l:List Bool){a:Nat}(h:cnt (at_ l) a=q):BU l (a:Int)=CV l q:=by
 obtain⟨j,hj⟩:∃j,j=BU l (a:Int):=⟨_,rfl⟩;have hle:j<=l.length:=by rw[hj];exact GU _ _
 have hno:∀i,i<j->¬(at_ l i=true/\a<=i):=λi hi hc=>by
  have:=IG (λi=>at_ l i&&decide ((a:Int)<=i)) l.length i (by rw[hj]at hi;exact hi)
  simp_all
 rw[<-hj];rcases υ j l.length with X|hge
 ·have hat:=GL (λi=>at_ l i&&decide ((a:Int)<=i)) l.length (by rw[hj]at X;exact X)
  have Y:at_ l j=true/\(a:Int)<=j:=by
   have e:first (λi=>at_ l i&&decide ((a:Int)<=i)) l.length=j:=hj.symm
   simp_all
  have hc:cnt (at_ l) j=q:=by
   grind [PK]
  exact(YH X Y.1 hc).symm
 grind [υ,PK,TF,VZZ]
theorem Z7T(h:q<cnt (at_ l) l.length):BU l ((CV l q:Int)+1)=CV l (q+1):=by
 obtain⟨h1,h2,h3⟩:=XT h;have:=Z1 l (a:=CV l q+1) (q:=q+1) (by grind [CS])
 assumption
theorem VVz{a:Nat}(hX:Idx w x p b a l B)(bx bk:Addr)(k:Nat)(hbx:w.cell? bx=some (pP x))(hbk:w.cell? bk=some (iI k))
  (i:Nat) (hi:i<nbl l.length B):
  Calls prog 294 #[iI i,.pointer (some bx),.pointer (some bk)] w λe w'=>e=.returned (.bool (decide (k<cnt (at_ l) (i*B))))/\Gr w w':=by
 obtain⟨cap,c1⟩:=hX.c1;have ca:=hX.ca i hi;have hi0:(0:Int)<=(i:Int):=Ω
 go_enter func294,ntmps294;go_upto_region 1 with(fail);go_quiet (fail);go_wp2;go_ret;exact⟨Zbf (by simp),(Gr.refl w).drewN _⟩
theorem YDO(l:List Bool)(hB:1<=B)(hk:k<cnt (at_ l) l.length):
  ∃j,first (λi=>decide (k<cnt (at_ l) (i*B))) (nbl l.length B)=j+1/\j<nbl l.length B/\cnt (at_ l) (j*B)<=k:=by
 obtain⟨f,hf⟩:∃f,f=first (λi=>decide (k<cnt (at_ l) (i*B))) (nbl l.length B):=⟨_,rfl⟩
 have hle:f<=nbl l.length B:=by grind [GU]
 have hn:0<l.length:=by
  grind [ζJ,LP]
 have hN:0<nbl l.length B:=(I3 hB).2 Ω
 have h0:f≠0:=λh=>by
  have:=GL (λi=>decide (k<cnt (at_ l) (i*B))) (nbl l.length B) Ω;rw[<-hf,h]at this
  grind [LP]
 obtain⟨j,rfl⟩:∃j,f=j+1:=⟨f-1,by omega⟩;refine⟨j,hf.symm,by omega,?_⟩;have:=IG (λi=>decide (k<cnt (at_ l) (i*B))) (nbl l.length B) j Ω
 simp_all
theorem TO(u v:Value)(T1 T2:TypeId):
  Gr w ((w.alloc (.cells #[u] T1)).alloc (.cells #[v] T2))/\((w.alloc (.cells #[u] T1)).alloc (.cells #[v] T2)).cell? ⟨w.heap.size,0,none⟩=some u/\((w.alloc (.cells #[u] T1)).alloc (.cells #[v] T2)).cell? ⟨w.heap.size+1,0,none⟩=some v:=by
 refine⟨((Gr.refl w).alloc _).alloc _,?_,?_⟩
 ·simp_all
 simp_all
theorem Zo5(x:Nat)(q:Int)(hq:q<0):A4 prog 292 #[pP x,iI q] w (.tuple #[iI 0,.bool false]):=by
 go_enter func292,ntmps292;go_upto_region 1 with(fail);obtain⟨hg,c1,c2⟩:=TO (w:=w) (pP x) (iI q) 326 3;generalize (w.alloc (.cells #[.pointer (some ⟨x,0,none⟩)] 326)).alloc (.cells #[.int .i64 q] 3)=W2 at *
 go_quiet (fail);go_wp2;go_ret2;exact⟨BP rfl rfl,hg.drewN _⟩
theorem V1d{a:Nat}(hX:Idx w x p b a l B)(q:Nat)(hq:cnt (at_ l) l.length<=q):
  A4 prog 292 #[pP x,iI q] w (.tuple #[iI 0,.bool false]):=by
 have k3:=hX.c3;have hx:=hX.hx;have d0:decide ((q:Int)<0)=false:=by simp
 go_enter func292,ntmps292;go_upto_region 1 with(fail);obtain⟨hg,c1,c2⟩:=TO (w:=w) (pP x) (iI q) 326 3;generalize (w.alloc (.cells #[.pointer (some ⟨x,0,none⟩)] 326)).alloc (.cells #[.int .i64 q] 3)=W2 at *
 have c3:=(hg.cell hx 3).trans k3;go_quiet (fail);go_wp2;go_ret2;exact⟨BP rfl rfl,hg.drewN _⟩
theorem Zrb(args:Array Value)(W:World):(callFunc 294 args).run prog W=.ok (.enter 294 args) W:=by kernel_rfl
theorem JlP{a:Nat}(hX:Idx w x p b a l B)(hT:AO w)(k:Nat)(hk:k<cnt (at_ l) l.length):
  A4 prog 292 #[pP x,iI k] w (.tuple #[iI (CV l k:Nat),.bool true]):=by
 have HX:=hX;have HT:=hT;have HK:=hk;obtain⟨j,E,V,J⟩:=YDO l hX.b1 hk;obtain⟨N,hN⟩:∃N,N=cnt (at_ l) l.length:=⟨_,rfl⟩;have k0:=hX.c0;have k2:=hX.c2;have k3:=hX.c3;obtain⟨Z,k1⟩:=hX.c1;have ka:=hX.ca j V;have hx:=hX.hx;have n2:=hX.vec.n2;have Xa:=LY (n:=l.length) hX.b1;have hb2:=hX.b2;rw[<-hN]at k3;have hNk:k<N:=by rw[hN];exact hk
 have G:N<=l.length:=by rw[hN];exact EJ _ _
 have d0:decide ((k:Int)<0)=false:=by simp
 have d1:decide (N<=k)=false:=by simp;omega
 have hkb:k<=1048576:=Ω
 have Xc:j*B<l.length:=(I3 hX.b1).1 V;obtain⟨t,ht⟩:∃t,t=j*B:=⟨_,rfl⟩;rw[<-ht]at Xc ka J;obtain⟨c,hc⟩:∃c,c=cnt (at_ l) t:=⟨_,rfl⟩;rw[<-hc]at ka J;have hw3:IntKind.i64.wrap ((j:Int)*(B:Int))=(t:Int):=by rw[show (j:Int)*(B:Int)=(t:Int)by rw[ht,Int.natCast_mul],ζw _ Ω]
 have Xe:=(Z1 l hc.symm);have HP:Hid (∀n,n<=k->CV l n<l.length):=⟨λn hn=>(XT (l:=l) (q:=n) Ω).1⟩;have Xb:Hid (∀n,n<=k->BU l ((CV l n:Int)+1)=CV l (n+1)):=⟨λn hn=>Z7T Ω⟩;obtain⟨M,hM⟩:∃M,M=nbl l.length B:=⟨_,rfl⟩;have A:=E;rw[<-hM]at k1 V Xa;have HM:=ι hM;have hjM:(j:Int)<M:=Ω
 clear hX hk hN ht hc E hM hT G;unfold A4;go_enter func292,ntmps292;go_upto_region 1 with(fail);obtain⟨hg,c1,c2⟩:=TO (w:=w) (pP x) (iI k) 326 3;generalize (w.alloc (.cells #[.pointer (some ⟨x,0,none⟩)] 326)).alloc (.cells #[.int .i64 k] 3)=W2 at *
 have z0:=(hg.cell hx 0).trans k0;have z1:=(hg.cell hx 1).trans k1;have z2:=(hg.cell hx 2).trans k2;have z3:=(hg.cell hx 3).trans k3;have K1:=ι k1;clear k0 k1 k2 k3;have HG:=ι hg;have HC:=ι (ψ c1 c2);clear hg;go_quiet (fail)
 have HS:=ι (Qza 294 ⟨w.heap.size,0,none⟩ ⟨w.heap.size+1,0,none⟩ M Ω (λi=>decide (k<cnt (at_ l) (i*B))) (W2.drewN nq) Zrb
  (λi i' h1 h2 h3=>by
   have:=TF (at_ l) (ζm B h1)
   simp at h3⊢;omega)
  (λi W hi hgW=>VVz (HX.gr ((HG.o.drewN nq).trans hgW)) _ _ k (by
    rw[hgW.cell (b:=w.heap.size) (by have:=AV HC.o.1;exact this)];exact HC.o.1) (by
    rw[hgW.cell (b:=w.heap.size+1) (by have:=AV HC.o.2;exact this)];exact HC.o.2) i (by rw[<-HM.o];exact hi)))
 rw[HM.o,A,<-HM.o]at HS;have hmf:∀(fn:Fn) (first Z:Array Value) (w:World),(Instr.makeFunc fn first Z).run prog w=.ok (.func fn first Z) w:=λ_ _ _ _=>rfl;go_upto_region 4 with(go_at_call 293;refine HS.o.mono ?_;rintro e W3 ⟨rfl,h3⟩;have X:=ι (HG.o.trans (((Gr.refl W2).drewN nq).trans h3));have y0:=(h3.cell (b:=w.heap.size) (AV HC.o.1) 0).trans HC.o.1;have y1:=(h3.cell (b:=w.heap.size+1) (AV HC.o.2) 0).trans HC.o.2;clear h3);have v0:=(X.o.cell hx 0).trans HX.c0;have v2:=(X.o.cell hx 2).trans HX.c2
 have v1:W3.cell? ⟨x,1,none⟩=some (.slice (some ⟨a,0,none⟩) M Z):=by
  exact(X.o.cell hx 1).trans K1.o
 have va:W3.cell? ⟨a,j,none⟩=some (iI c):=(X.o.cell HX.ha j).trans ka;have O:=ι (HX.vec.gr X.o);have Y:=ι (X.o.tab HT.lt HT);have D:=HP.o c J
 have HN:Hid (∀n,Calls prog 249 #[pP p,iI t] (W3.drewN n) λe w'=>e=.returned (.tuple #[iI (CV l c:Nat),.bool true])/\w'=W3.drewN n):=⟨λn=>
  (KY (O.o.gr ((Gr.refl W3).drewN n)) (((Gr.refl W3).drewN n).tab Y.o.lt Y.o) t).mono λe w' ⟨he,hw⟩=>⟨by rw[he,Xe,IT D,θ D],hw.symm⟩⟩
 clear z0 z1 z2 z3 ka HS;go_quiet ((go_at_call 249;exact Calls.quiet_of_same (HN.o _)));go_wp2
 go_loop [7,9] (λs7 s9=>∃n:Nat,c<=n/\n<=k/\s7=iI (CV l n:Nat)/\s9=iI n) (λ_ s9=>k-(intOf s9).toNat)
 case atStart=>exact⟨c,ϑ _,J,rfl,rfl⟩
 case round=>
  obtain⟨n,hn1,I,rfl,rfl⟩:=hrel;have hp:=HP.o n I;obtain⟨r,hr⟩:∃r,r=CV l n:=⟨_,rfl⟩;have HE:=Xb.o n I;rw[<-hr]at hp HE⊢;by_cases hlt:n<k
  ·have U:=HP.o (n+1) Ω;have Xd:=ι HE;have HR:=ι (ψ (IT U) (θ U));clear hr HE U;go_wp2_with(go_at_call 249;refine(KY (O.o.gr ((Gr.refl W3).drewN _)) (((Gr.refl W3).drewN _).tab Y.o.lt Y.o) _).mono ?_;rintro e w' ⟨rfl,rfl⟩;rw[Xd.o,HR.o.1,HR.o.2]);go_round
   case rel=>exact⟨n+1,by omega,by omega,rfl,by go_num⟩
   case measure=>simp[intOf];omega
  ·obtain rfl:n=k:=Ω
   have HR:=ι hr;clear hr HE;go_wp2;go_ret2;exact⟨BP (by rw[HR.o];rfl) rfl,X.o.drewN _⟩
theorem Qax{a:Nat}(hX:Idx w x p b a l B)(hT:AO w)(q:Int):
  A4 prog 292 #[pP x,iI q] w (.tuple #[iI (KP l q),.bool (M7 l q)]):=by
 by_cases h:q<0
 ·have e1:KP l q=0:=by unfold KP;rw[φ h]
  have e2:M7 l q=false:=by unfold M7;grind
  grind [Zo5]
 ·obtain⟨k,rfl⟩:∃k:Nat,q=k:=⟨q.toNat,by omega⟩;have e1:KP l k=JJ l.length (CV l k):=by unfold KP;grind
  have e2:M7 l k=decide (CV l k<l.length):=by rfl
  rw[e1,e2];rcases υ k (cnt (at_ l) l.length)with hk|hk
  ·grind [XT,IT,θ,JlP]
  grind [VZZ,NI,ζ,V1d]
theorem QTm:(prog.info? 3).map (λi=>(i.zero,i.size,i.bytes))=some (some (iI 0),1,8):=by kernel_rfl
def ZQP(w:World)(l:List Bool)(B:Nat)(e:Ending)(w':World):Prop:=
 ∃x p b a,e=.returned (.tuple #[pP x,iI 0])/\Gr w w'/\Idx w' x p b a l B/\w.heap.size<=x/\w.heap.size<=p/\w.heap.size<=b/\w.heap.size<=a
def IZ(l:List Bool)(B k:Nat):List Value:=(List.range k).map λj=>iI (cnt (at_ l) (j*B):Nat)
theorem X5M(l:List Bool)(B k:Nat):IZ l B (k+1)=IZ l B k++[iI (cnt (at_ l) (k*B):Nat)]:=by
 unfold IZ;rw[ψx,ζ1];rfl
structure E7(w:World)(l:List Bool)(B X p b BASE k m:Nat)(v:Value)(wr:World):Prop where
 gr:Gr w wr
 vec:BB wr p b l
 own:wr.ownsRow BASE 3 1 v k (IZ l B k)
 c0:wr.cell? ⟨X,0,none⟩=some (pP p)
 c1:wr.cell? ⟨X,1,none⟩=some v
 c2:wr.cell? ⟨X,2,none⟩=some (iI B)
 c3:wr.cell? ⟨X,3,none⟩=some (iI (DT l 0 (m*B:Nat):Nat))
 free:∀o,wr.frozen? ⟨X,o,none⟩=false
 lt:X<BASE
 ltp:p<X
 ltb:b<X
 ge:w.heap.size<=p/\w.heap.size<=b
 base:BASE<=wr.heap.size
theorem E7.far(h:E7 w l B X p b BASE k m v wr):v.ownBlock≠some X:=λe=>by
 have:=(BE h.own e).1;have:=h.lt;omega
theorem E7.grow{wr':World}(h:E7 w l B X p b BASE k m v wr)(g:Gr wr wr'):E7 w l B X p b BASE k m v wr':=by
 have hX:X<wr.heap.size:=by have:=h.lt;have:=h.base;omega
 exact⟨h.gr.trans g,h.vec.gr g,CL h.own g,(g.cell hX 0).trans h.c0,(g.cell hX 1).trans h.c1,(g.cell hX 2).trans h.c2,(g.cell hX 3).trans h.c3,λo=>(g.frozen hX o).trans (h.free o),h.lt,h.ltp,h.ltb,h.ge,β h.base g.size⟩
theorem E7.append(h:E7 w l B X p b BASE k m v wr){g c:Nat}
  (hown:w1.ownsRow BASE 3 1 (.slice (some ⟨g,0,none⟩) (k+1) c) (k+1) (IZ l B (k+1))) (hgrow:wr.grownBy w1 v.ownBlock):
  E7 w l B X p b BASE (k+1) m (.slice (some ⟨g,0,none⟩) (k+1) c) (w1.setCell ⟨X,1,none⟩ (.slice (some ⟨g,0,none⟩) (k+1) c)):=by
 have hX:X<wr.heap.size:=by have:=h.lt;have:=h.base;omega
 have t:AB (λi=>v.ownBlock=some i) wr w1:=DM hgrow _ (λk e _=>e);have t2:AB (λi=>i=X) w1 (w1.setCell ⟨X,1,none⟩ (.slice (some ⟨g,0,none⟩) (k+1) c)):=(AB.refl (λi=>i=X) w1).setCell (a:=⟨X,1,none⟩) (λ_=>rfl) _;have Y:∀i,i<BASE->v.ownBlock≠some i:=λi hi e=>by have:=(BE h.own e).1;omega
 have e:∀o,w1.cell? ⟨X,o,none⟩=wr.cell? ⟨X,o,none⟩:=λo=>t.cell hX (Y X h.lt) o
 have o:∀o,o≠1->(w1.setCell ⟨X,1,none⟩ (.slice (some ⟨g,0,none⟩) (k+1) c)).cell? ⟨X,o,none⟩=wr.cell? ⟨X,o,none⟩:=λo ho=>by
  rw[ξx (h:=by simp_all),e o]
 have hp:=h.ltp;have hb:=h.ltb;have hl:=h.lt;refine⟨?_,?_,?_,(o 0 Ω).trans h.c0,?_,(o 2 Ω).trans h.c2,(o 3 Ω).trans h.c3,?_,h.lt,h.ltp,h.ltb,h.ge,β h.base (β t.size t2.size)⟩
 ·refine(((h.gr.touch (λ_=>False)).trans' t (λi hi e=>?_)).trans' t2 (λi hi e=>?_)).gr
  ·have:=(BE h.own e).1;have:=h.ge;omega
  ·have:=h.ge;omega
 ·exact(h.vec.touch t (Y p Ω) (Y b Ω)).touch t2 Ω Ω
 ·refine BX hown t2 (λi hi e=>?_);have:=(BE hown hi).1;omega
 ·exact ξn (h:=(e 1).trans h.c1) ..
 ·intro o;rw[ξf,t.frozen hX (Y X h.lt)];exact h.free o
theorem E7.count(h:E7 w l B X p b BASE k m v wr)(hz:z=(DT l 0 (m' * B:Nat):Nat)):
  E7 w l B X p b BASE k m' v (wr.setCell ⟨X,3,none⟩ (.int .i64 z)):=by
 have t2:AB (λi=>i=X) wr (wr.setCell ⟨X,3,none⟩ (.int .i64 z)):=(AB.refl (λi=>i=X) wr).setCell (a:=⟨X,3,none⟩) (λ_=>rfl) _;have hp:=h.ltp;have hb:=h.ltb;have hl:=h.lt
 have o:∀o,o≠3->(wr.setCell ⟨X,3,none⟩ (.int .i64 z)).cell? ⟨X,o,none⟩=wr.cell? ⟨X,o,none⟩:=λo ho=>by
  rw[ξx (h:=by simp_all)]
 refine⟨?_,h.vec.touch t2 Ω Ω,?_,(o 0 Ω).trans h.c0,(o 1 Ω).trans h.c1,(o 2 Ω).trans h.c2,?_,?_,h.lt,h.ltp,h.ltb,h.ge,β h.base t2.size⟩
 ·refine((h.gr.touch (λ_=>False)).trans' t2 (λi hi e=>?_)).gr;have:=h.ge;omega
 ·refine BX h.own t2 (λi hi e=>?_);have:=(BE h.own hi).1;omega
 ·rw[hz];exact ξn (h:=h.c3) ..
 ·intro o;rw[ξf];exact h.free o
theorem E7.done(h:E7 w l B X p b BASE k k v wr)(h1:1<=B)(h2:B<=1024)(hk:k=nbl l.length B)(hl:l.length<=k*B):
  ∃a,Idx wr X p b a l B/\w.heap.size<=a:=by
 have hn:=h.vec.n1;have Y:k≠0:=by grind
 obtain⟨g,c,rfl,hg1,hg2,hg3,Z⟩:=E6 h.own Y;have:=h.lt;refine⟨g,⟨h.vec,h1,h2,by omega,Z,h.c0,⟨c,by rw[h.c1,hk]⟩,h.c2,?_,λj hj=>?_⟩,by have:=h.ge;have:=h.ltp;omega⟩
 ·rw[h.c3,Vbb l Ω]
 ·refine BS h.own ?_;unfold IZ
  simp_all
theorem JHa{r:Nat}{T:TypeId}(hg:Gr w w1)(hV:BB w1 q r l)(h1:w.heap.size<=q)(h2:w.heap.size<=r):
  E7 w l B w1.heap.size q r (w1.heap.size+1) 0 0 (.slice none 0 0) (w1.alloc (.cells #[.pointer (some ⟨q,0,none⟩),.slice none 0 0,.int .i64 B,.int .i64 0] T)):=by
 have hp:=hV.hp;have hb:=hV.hb;refine⟨hg.alloc _,hV.gr ((Gr.refl w1).alloc _),GP _ _ _ _,ζM ..,ζM ..,ζM ..,?_,λo=>ξ5 ..,by omega,hp,hb,⟨h1,h2⟩,by simp⟩;rw[show DT l 0 ((0*B:Nat):Int)=0 from VlR l (by simp)]
 simp_all
theorem XFA(hV:BB w p b l)(n:Int)(hn:BL n=false)(hn2:n<=9223372036854775807):
  cQ 251 #[pP p,iI n] w (.tuple #[.pointer none,iI 5]):=by
 have n1:((l.length:Int)==0)=false:=by have:=hV.n1;grind
 have HV:=hV;rw[MU]at hn;cases hp:CR n with
 | false=>
  go_enter func251,ntmps251
  go_wp2_with(first
   | (go_at_call 175;refine(IS HV).mono ?_;rintro e w1 ⟨rfl,rfl⟩)
   | (go_at_call 165;refine(JW n hn2 _).mono ?_;rintro e w1 ⟨rfl,rfl⟩))
  go_ret2
  simp_all
 | true=>
  rw[hp]at hn;have d1:decide ((1024:Int)<n)=true:=by simp at hn;simp;omega
  go_enter func251,ntmps251
  go_wp2_with(first
   | (go_at_call 175;refine(IS HV).mono ?_;rintro e w1 ⟨rfl,rfl⟩)
   | (go_at_call 165;refine(JW n hn2 _).mono ?_;rintro e w1 ⟨rfl,rfl⟩))
  go_ret2
  simp_all
theorem Zv3(hV:BB w p b l)(B:Nat)(hB:BL B=true):
  Calls prog 251 #[pP p,iI B] w (ZQP w l B):=by
 have n1:((l.length:Int)==0)=false:=by have:=hV.n1;exact ζD.2 Ω
 have n2:=hV.n2;have hb:=DD hB;have Xf:1<=B:=Ω
 have Xr:B<=1024:=Ω
 have d1:decide ((1024:Int)<(B:Int))=false:=by simp;omega
 have HP:Hid (CR B=true):=⟨by rw[MU]at hB;simp at hB;exact hB.1⟩;obtain⟨i0,hi,Xp,Xk,Xj⟩:=info_parts QTm;have HV:=hV;clear hV hB hb;go_enter func251,ntmps251
 go_wp2_with(first
  | (go_at_call 175;refine(IS HV).mono ?_;rintro e w1 ⟨rfl,rfl⟩)
  | (go_at_call 165;refine(JW B Ω _).mono ?_;rintro e w1 ⟨rfl,rfl⟩;rw[HP.o])
  | (go_at_call 280;refine(Z27 HV).mono ?_;rintro e w1 ⟨q,r,rfl,Xh,Xb,Xe,G⟩))
 have Xd:=ι (JHa (B:=B) (T:=352) Xh Xb Xe G);generalize w1.alloc (.cells #[.pointer (some ⟨q,0,none⟩),.slice none 0 0,.int .i64 B,.int .i64 0] 352)=W2 at *
 obtain⟨X,hX⟩:∃X,X=w1.heap.size:=⟨_,rfl⟩;rw[<-hX]at Xd⊢;clear hX;clear Xh Xb Xe G
 go_loopw [7] (λs7 wr=>∃k t v,Hid (E7 w l B X q r (X+1) k k v wr)/\Hid (t=k*B)/\k<=t/\t<=1048576+1024/\Hid (∀i,i<k->i*B<l.length)/\s7=iI (t:Nat)) (λs7 _=>1048576+1025-(intOf s7).toNat)
 case atStart=>exact⟨0,0,_,Xd,⟨by simp⟩,by omega,by omega,⟨λi h=>by omega⟩,rfl⟩
 case round=>
  obtain⟨k,t,v,HN,ht,hkt,htb,Xg,rfl⟩:=hrel;by_cases Xm:t<l.length
  ·have Xq:Hid (∀i,i<k+1->i*B<l.length):=⟨λi h=>by
    rcases υ i k with h1|h1
    ·exact Xg.o i h1
    ·rw[show i=k by omega,<-ht.o];exact Xm⟩
   have Xa:Hid (t+B=(k+1)*B):=⟨by rw[ξp,ht.o]⟩;go_upto_region 9 with(go_at_call 175;refine(IS (HV.gr HN.o.gr)).mono ?_;rintro e w1 ⟨rfl,rfl⟩);have c1:=HN.o.c1;obtain⟨c,hc⟩:∃c,c=DT l 0 (k*B:Nat):=⟨_,rfl⟩;have c3:=HN.o.c3;have fr:=HN.o.free 1;rw[<-hc]at c3
   have Xi:IZ l B (k+1)=IZ l B k++[iI (c:Nat)]:=by
    rw[X5M,hc,VG l (by rw[<-ht.o];omega)]
   have Xo:=Xi;have HC:=ι hc;have HX:Hid (X<wr.heap.size):=⟨by have:=HN.o.base;omega⟩;clear Xi hc;have KS:Hid (∀W',Gr wr W'->W'.cell? ⟨X,1,none⟩=some v/\W'.cell? ⟨X,3,none⟩=some (iI (c:Nat))/\W'.frozen? ⟨X,1,none⟩=false):=⟨λW' h=>⟨(h.cell HX.o 1).trans c1,(h.cell HX.o 3).trans c3,(h.frozen HX.o 1).trans fr⟩⟩;obtain⟨S,hS⟩:∃S:World->Prop,S=λW'=>W'.cell? ⟨X,1,none⟩=some v/\W'.cell? ⟨X,3,none⟩=some (iI (c:Nat))/\W'.frozen? ⟨X,1,none⟩=false:=⟨_,rfl⟩;have x1:∀p:AA S,p.w.cell? ⟨X,1,none⟩=some v:=λp=>(AA.get hS p).1;have x3:∀p:AA S,p.w.cell? ⟨X,3,none⟩=some (iI (c:Nat)):=λp=>(AA.get hS p).2.1;have Z:S wr.drew:=by rw[hS];exact KS.o _ (Gr.refl _).drew
   have HS:=ι hS;clear hS;have V:Inhabited (AA S):=⟨⟨_,Z⟩⟩;refine AI S 13 [([0,1,2,3,4,5,6,7,8],9),([],10),([11,12],13)] [] Z ?_;refine AE ?_;go_wp2;refine⟨.inr (AA.of (by rw[HS.o];exact KS.o _ ((Gr.refl _).alloc _).drew)),?_⟩;refine OM ?_;simp only[AG,ν,π];refine ζd ?_;go_wp2_with(at_builtin;refine wpList_append_lies _ rfl _ _ 70 rfl (X+1) 3 i0 _ 1 8 underlying70 hi Xp Xk Xj rfl Ω v k (IZ l B k) rfl ((HN.o.own.alloc _).drew) ⟨wr.heap.size,0,none⟩ 1 1 [iI (c:Nat)] rfl rfl (ξv (cs:=#[iI (c:Nat)]) (t:=3) (fr:=(0,0)) (heap_alloc_new wr _)) (by simp[Value.oneCell']) Ω (by unfold maxLen;omega) Ω (by have:=HX.o;simp;omega) (wr.heap.size+1) (by simp) ?_;intro g cp w1 U Y Xs D)
   go_frame
   have O:Gr wr (wr.alloc (.cells #[.int .i64 (c:Nat)] 3)).drew:=((Gr.refl _).alloc _).drew
   have M:w1.cell? ⟨X,1,none⟩=some v/\w1.cell? ⟨X,3,none⟩=some (iI (c:Nat))/\w1.frozen? ⟨X,1,none⟩=false:=by
    have hz:=KS.o _ O
    exact⟨(Y.cell_far ⟨X,1,none⟩ (by have:=HX.o;simp;omega) (Ne.symm HN.o.far)).trans hz.1,(Y.cell_far ⟨X,3,none⟩ (by have:=HX.o;simp;omega) (Ne.symm HN.o.far)).trans hz.2.1,
     (Y.frozen_far ⟨X,1,none⟩ (by have:=HX.o;simp;omega) (Ne.symm HN.o.far)).trans hz.2.2⟩
   refine⟨.inr (AA.of (by rw[HS.o];exact M)),?_⟩;have HM:=((HN.o.grow O).append (by rw[Xo];exact U) Y);have k1:=M.1;have k3:=M.2.2;clear O U Y Xs D M;refine AE ?_;go_wp2;refine⟨.inl trivial,?_⟩;refine ET ?_;refine ζd ?_;refine ζI ?_;generalize w1.setCell ⟨X,1,none⟩ (.slice (some ⟨g,0,none⟩) (k+1) cp)=W3 at HM⊢;generalize (Value.slice (some ⟨g,0,none⟩) (k+1) cp)=v3 at HM⊢;clear x1 x3 Z HS V k1 k3 KS c1 c3 fr HX;clear S;obtain⟨tb,J⟩:∃tb,tb=t+B:=⟨_,rfl⟩;obtain⟨d,hd⟩:∃d,d=DT l (t:Int) (tb:Int):=⟨_,rfl⟩;obtain⟨e,he⟩:∃e,e=DT l 0 ((k+1)*B:Nat):=⟨_,rfl⟩
   have Xc:(c:Int)+(d:Int)=(e:Int):=by
    have:=V9n l (a:=0) (b:=(t:Int)) (c:=(tb:Int)) Ω Ω;rw[hd,he,HC.o,<-ht.o,<-Xa.o,<-J];exact this
   have hel:e<=l.length:=by rw[he];exact EJ _ _
   have Xl:IntKind.i64.wrap ((t:Int)+(B:Int))=(tb:Int):=by rw[J,ζw _ Ω];omega
   have Xn:IntKind.i64.wrap ((c:Int)+(d:Int))=(e:Int):=by rw[Xc,ζw _ Ω]
   have HD:=ι hd;have HE:=ι he;have HTB:=ι J;have k3:W3.cell? ⟨X,3,none⟩=some (iI (c:Nat)):=by rw[HM.c3,HC.o]
   have fr:W3.frozen? ⟨X,3,none⟩=false:=HM.free 3;have HX:Hid (X<W3.heap.size):=⟨by have:=HM.base;omega⟩;clear Xc hd he J;go_upto_region 10 with(fail);obtain⟨S,hS⟩:∃S:World->Prop,S=λW'=>W'.cell? ⟨X,3,none⟩=some (iI (c:Nat)):=⟨_,rfl⟩;have x3:∀p:AA S,p.w.cell? ⟨X,3,none⟩=some (iI (c:Nat)):=λp=>AA.get hS p;have Z:S W3.drew:=by rw[hS];exact k3
   have HS:=ι hS;clear hS;have V:Inhabited (AA S):=⟨⟨_,Z⟩⟩;refine AI S 13 [([0,1,2,3,4,5,6,7,8],9),([10,11,12],13)] [] Z ?_;refine AE ?_;go_wp2_with(go_at_call 281;refine(V7Z (HV.gr (HM.gr.drew)) (t:Int) (tb:Int) Ω).mono ?_;rintro e' W4 ⟨rfl,I⟩;rw[<-HD.o]);have N:Gr W3 W4:=(Gr.refl W3).drew.trans I;have q3:=(N.cell HX.o 3).trans k3;have qf:=(N.frozen HX.o 3).trans fr;have A:=ι ((HM.grow N).count (m':=k+1) (z:=(e:Nat)) (by rw[HE.o]));clear I N;refine⟨.inr (AA.of (by rw[HS.o];exact q3)),?_⟩;refine AE ?_;go_wp2;refine⟨.inl trivial,?_⟩;refine ET ?_;refine ζd ?_;refine ζI ?_;generalize W4.setCell ⟨X,3,none⟩ (.int .i64 (e:Nat))=W5 at A⊢;clear x3 Z HS V q3 qf k3 fr Xl Xn;clear S;go_wp2;go_roundw
   case rel=>exact⟨k+1,t+B,v3,A,Xa,by omega,by omega,Xq,by go_num⟩
   case measure=>simp[intOf];omega
  ·have E:=ι (QnL Xf (show l.length<=k*B by rw[<-ht.o];omega) Xg.o);have HF:=ι (HN.o.done Xf Xr E.o.symm (by rw[<-ht.o];omega));go_wp2_with(go_at_call 175;refine(IS (HV.gr HN.o.gr)).mono ?_;rintro e w1 ⟨rfl,rfl⟩);go_ret2;obtain⟨a,hI,ha⟩:=HF.o;exact⟨X,q,r,a,BP rfl rfl,HN.o.gr,hI,by have:=HN.o.ge;have:=HN.o.ltp;omega,HN.o.ge.1,HN.o.ge.2,ha⟩
structure Ext(w:World)(m p1 b1 p2 b2 n:Nat)(L:List Ob):Prop where
 good:AP n L
 v1:BB w p1 b1 (B8 n L)
 v2:BB w p2 b2 (EA n L)
 hm:m<w.heap.size
 c0:w.cell? ⟨m,0,none⟩=some (pP p1)
 c1:w.cell? ⟨m,1,none⟩=some (pP p2)
 c2:w.cell? ⟨m,2,none⟩=some (iI L.length)
 fr:w.frozen? ⟨m,2,none⟩=false
 am:m≠p1/\m≠b1/\m≠p2/\m≠b2
 ab:p1≠b2/\p2≠b1/\b1≠b2
theorem Ext.touch{b1 b2:Nat}(h:Ext w m p1 b1 p2 b2 n L)(t:AB S w w')(h1:¬S m)(h2:¬S p1)(h3:¬S b1)(h4:¬S p2)(h5:¬S b2):Ext w' m p1 b1 p2 b2 n L:=
 ⟨h.good,h.v1.touch t h2 h3,h.v2.touch t h4 h5,κ h.hm t.size,(t.cell h.hm h1 0).trans h.c0,(t.cell h.hm h1 1).trans h.c1,(t.cell h.hm h1 2).trans h.c2,(t.frozen h.hm h1 2).trans h.fr,h.am,h.ab⟩
theorem Ext.gr{b1 b2:Nat}(h:Ext w m p1 b1 p2 b2 n L)(t:Gr w w'):Ext w' m p1 b1 p2 b2 n L:=
 h.touch (t.touch (λ_=>False)) (λh=>h) (λh=>h) (λh=>h) (λh=>h) (λh=>h)
theorem Ext.nb{b1 b2:Nat}(h:Ext w m p1 b1 p2 b2 n L):1<=n/\n<=1048576:=by
 have h1:=h.v1.n1;have h2:=h.v1.n2;rw[IQ]at h1 h2;omega
def obS(L:List Ob)(j:Nat):Int:=((L[j]?.getD (0,0)).1:Nat)
def obZ(L:List Ob)(j:Nat):Int:=((L[j]?.getD (0,0)).2:Nat)
theorem J3(h:j<L.length):obS L j=(L[j].1:Nat)/\obZ L j=(L[j].2:Nat):=by unfold obS obZ;simp_all
theorem Vq1(h:¬j<L.length):obS L j=0/\obZ L j=0:=by unfold obS obZ;simp_all
def GG(L:List Ob)(j:Nat):Value:=.tuple #[iI (obS L j),iI (obZ L j),.bool (decide (j<L.length))]
theorem OC(h:j<L.length):GG L j=.tuple #[iI (L[j].1:Nat),iI (L[j].2:Nat),.bool true]:=by unfold GG;grind [J3,θ]
theorem MG(h:¬j<L.length):GG L j=.tuple #[iI 0,iI 0,.bool false]:=by unfold GG;grind [Vq1,ζ]
section
variable{b1 b2:Nat}
theorem DU(hE:Ext w m p1 b1 p2 b2 n L):cQ 174 #[pP m] w (.bool false):=by
 have c0:=hE.c0;go_enter func174,ntmps174;go_wp2;go_ret
 simp_all
theorem Jpg(w:World):cQ 174 #[.pointer none] w (.bool true):=by
 go_enter func174,ntmps174;go_wp2;go_ret;exact⟨rfl,rfl⟩
theorem FH(hE:Ext w m p1 b1 p2 b2 n L):cQ 125 #[pP m] w (iI n):=by
 have c0:=hE.c0;have HE:=hE;have HL:=(IQ n L);go_enter func125,ntmps125
 go_wp2_with(first
  | (go_at_call 174;refine(DU HE).mono ?_;rintro e w' ⟨rfl,rfl⟩)
  | (go_at_call 175;refine(IS HE.v1).mono ?_;rintro e w' ⟨rfl,rfl⟩))
 go_ret
 simp_all
theorem QOV(w:World):cQ 125 #[.pointer none] w (iI 0):=by
 go_enter func125,ntmps125;go_wp2_with(go_at_call 174;refine(Jpg _).mono ?_;rintro e w' ⟨rfl,rfl⟩);go_ret;exact⟨rfl,rfl⟩
theorem Q4(hE:Ext w m p1 b1 p2 b2 n L)(hT:AO w)(hj:j<L.length):
  Calls prog 215 #[pP m,iI (L[j].1:Nat)] w λe w'=>e=.returned (iI (L[j].2:Nat))/\w=w':=by
 have c1:=hE.c1;have hm:=μ hj;obtain⟨Y,X⟩:=Zox hE.good hm;have hs:=hE.good.sz _ hm;have hb:=hE.nb;obtain⟨s,J⟩:∃s,s=L[j].1:=⟨_,rfl⟩;obtain⟨z,Z⟩:∃z,z=L[j].2:=⟨_,rfl⟩;rw[<-J,<-Z]at Y X hs⊢;rw[<-Y]at X;have HE:=hE;have HT:=hT;have HV:=(ψ (IT X) Y);have hsb:s+z<=1048576:=Ω
 clear hE hT Y X J Z hm hj;go_enter func215,ntmps215;go_wp2_with(go_at_call 249;refine(KY HE.v2 HT _).mono ?_;rintro e w' ⟨rfl,rfl⟩;rw[HV.1,HV.2]);go_ret;exact⟨AS Ω,rfl⟩
theorem MD(hE:Ext w m p1 b1 p2 b2 n L)(hT:AO w)(a:Int):
  cQ 208 #[pP m,iI a] w (GG L (BA L a)):=by
 have c0:=hE.c0;have HE:=hE;have HT:=hT;by_cases hj:BA L a<L.length
 ·obtain⟨h1,h2⟩:=NS hE.good hj;rw[OC hj];have HZ:=(Q4 hE hT hj);have HV:=ι (ψ (IT h2) (ψ h1 (θ h2)));go_enter func208,ntmps208
  go_wp2_with(first
   | (go_at_call 174;refine(DU HE).mono ?_;rintro e w' ⟨rfl,rfl⟩)
   | (go_at_call 249;refine(KY HE.v1 HT _).mono ?_;rintro e w' ⟨rfl,rfl⟩;rw[HV.o.1,HV.o.2.2,HV.o.2.1])
   | (go_at_call 215;refine HZ.mono ?_;rintro e w' ⟨rfl,rfl⟩))
  go_ret3
  simp_all
 ·have h1:=XL hE.good hj;rw[MG hj];go_enter func208,ntmps208
  go_wp2_with(first
   | (go_at_call 174;refine(DU HE).mono ?_;rintro e w' ⟨rfl,rfl⟩)
   | (go_at_call 249;refine(KY HE.v1 HT _).mono ?_;rintro e w' ⟨rfl,rfl⟩))
  go_ret3
  simp_all
theorem KV(hE:Ext w m p1 b1 p2 b2 n L)(hT:AO w)(a:Int):
  cQ 222 #[pP m,iI a] w (GG L (A9 L a)):=by
 have c0:=hE.c0;have hb:=hE.nb;have HE:=hE;by_cases h0:a<0
 ·rw[MG (by rw[PL (λo _=>by omega)];omega)];go_enter func222,ntmps222;go_wp2_with(go_at_call 174;refine(DU HE).mono ?_;rintro e w' ⟨rfl,rfl⟩)
  go_ret3
  exact⟨rfl,rfl⟩
 ·by_cases h1:(n:Int)<=a
  ·rw[MG (by rw[PL (λo ho=>by have:=hE.good.sz o ho;omega)];omega)];go_enter func222,ntmps222
   go_wp2_with(first
    | (go_at_call 174;refine(DU HE).mono ?_;rintro e w' ⟨rfl,rfl⟩)
    | (go_at_call 125;refine(FH HE).mono ?_;rintro e w' ⟨rfl,rfl⟩))
   go_ret3
   exact⟨rfl,rfl⟩
  ·rcases XA1 hE.good a with⟨hl,X⟩|⟨j,hj,hl,J,X⟩
   ·rw[MG (by rw[PL (λo ho=>by have:=X o ho;omega)];omega)];have HV:Hid (QH (EO (B8 n L) (a+1))=0/\decide (0<=EO (B8 n L) (a+1))=false):=⟨by rw[hl];exact⟨rfl,rfl⟩⟩;go_enter func222,ntmps222
    go_wp2_with(first
     | (go_at_call 174;refine(DU HE).mono ?_;rintro e w' ⟨rfl,rfl⟩)
     | (go_at_call 125;refine(FH HE).mono ?_;rintro e w' ⟨rfl,rfl⟩)
     | (go_at_call 261;refine(WH HE.v1 _).mono ?_;rintro e w' ⟨rfl,rfl⟩;rw[HV.o.1,HV.o.2]))
    go_ret3
    exact⟨rfl,rfl⟩
   ·have HZ:=(Q4 hE hT hj);have hs:=hE.good.sz _ (μ hj);have HV:Hid (QH (EO (B8 n L) (a+1))=(L[j].1:Nat)/\decide (0<=EO (B8 n L) (a+1))=true):=⟨by rw[hl];exact⟨φ Ω,θ Ω⟩⟩;have Y:=hE.good;by_cases Z:a<L[j].1+L[j].2
    ·have hf:=OW Y hj J Z;rw[hf,OC hj];generalize L[j].1=s at *
     generalize L[j].2=z at *
     go_enter func222,ntmps222
     go_wp2_with(first
      | (go_at_call 174;refine(DU HE).mono ?_;rintro e w' ⟨rfl,rfl⟩)
      | (go_at_call 125;refine(FH HE).mono ?_;rintro e w' ⟨rfl,rfl⟩)
      | (go_at_call 261;refine(WH HE.v1 _).mono ?_;rintro e w' ⟨rfl,rfl⟩;rw[HV.o.1,HV.o.2])
      | (go_at_call 215;refine HZ.mono ?_;rintro e w' ⟨rfl,rfl⟩))
     go_ret3
     exact⟨rfl,rfl⟩
    ·have hf:¬A9 L a<L.length:=by
      rw[PL (λo ho=>?_)];· omega
      obtain⟨i,hi,rfl⟩:=ζo ho;rcases ζZ i j with h3|rfl|h3
      ·have:=Y.at hi hj h3;omega
      ·omega
      ·have:=X i hi h3;omega
     rw[MG hf];generalize L[j].1=s at *
     generalize L[j].2=z at *
     go_enter func222,ntmps222
     go_wp2_with(first
      | (go_at_call 174;refine(DU HE).mono ?_;rintro e w' ⟨rfl,rfl⟩)
      | (go_at_call 125;refine(FH HE).mono ?_;rintro e w' ⟨rfl,rfl⟩)
      | (go_at_call 261;refine(WH HE.v1 _).mono ?_;rintro e w' ⟨rfl,rfl⟩;rw[HV.o.1,HV.o.2])
      | (go_at_call 215;refine HZ.mono ?_;rintro e w' ⟨rfl,rfl⟩))
     go_ret3
     exact⟨rfl,rfl⟩
end
section
variable{b1 b2:Nat}
def okV:Value->Bool
 | .bool b=>b
 | _=>false
theorem VL(h:AP n L)(hn:n<=1048576)(j:Nat):0<=obS L j/\0<=obZ L j/\obS L j+obZ L j<=1048576:=by
 by_cases hj:j<L.length
 ·rw[(J3 hj).1,(J3 hj).2];have:=h.sz _ (μ hj);omega
 grind [Vq1]
theorem Ylw(h:AP n L)(hn:n<=1048576)(j:Nat)(f t:Int):0<=A8 (L.take j) f t/\A8 (L.take j) f t<=1048576:=by
 have hg:AP n (L.take j):=⟨h.pw.sublist (List.take_sublist ..),λo ho=>h.sz o (ψc ho)⟩;have h1:=SD hg f t;have h2:KH (L.take j) n f t<=n:=EJ _ _;omega
theorem QS1(hE:Ext w m p1 b1 p2 b2 n L)(hT:AO w)(f t:Int)(hf:f<=9223372036854775807)(ht:-9223372036854775808<=t):
  cQ 209 #[pP m,iI f,iI t] w (iI (A8 L f t)):=by
 have hb:=hE.nb;have hg:=hE.good;have HE:=hE;have HT:=hT;rw[<-JAq hg f t];obtain⟨lo,Xe⟩:∃lo,lo=max f 0:=⟨_,rfl⟩;obtain⟨hi,M⟩:∃hi,hi=min t (n:Int):=⟨_,rfl⟩;have hlo0:0<=lo/\lo<=9223372036854775807:=Ω
 have hhib:hi<=1048576/\-9223372036854775808<=hi:=Ω
 have HLO:=ι Xe;have HHI:=ι M;have Xq:∀w',(Builtin.max_ #[3,3] 3 #[iI f,iI 0]).run prog w'=.ok (iI lo) w':=λw'=>by rw[N8,Xe]
 have Xu:∀w',(Builtin.min_ #[3,3] 3 #[iI t,iI n]).run prog w'=.ok (iI hi) w':=λw'=>by rw[WU,M]
 rw[<-Xe,<-M];have hmin2:=λx y=>WU prog #[3,3] 3 .i64 x y;obtain⟨jf,Xh⟩:∃j,j=A9 L lo:=⟨_,rfl⟩;obtain⟨jn,N⟩:∃j,j=BA L lo:=⟨_,rfl⟩;have Xs:jn<=L.length:=by rw[N];exact ON _ _
 have X:=Vth hg (f:=lo) (t:=hi);rw[<-Xh,<-N]at X;have Xp:((L[jf]?.getD (0,0)).1:Int)=obS L jf:=rfl;have Xt:((L[jf]?.getD (0,0)).2:Int)=obZ L jf:=rfl;rw[Xp,Xt]at X;have Xx:=VL hg hb.2 jf;obtain⟨s,hs⟩:∃s,s=obS L jf:=⟨_,rfl⟩;obtain⟨z,hz⟩:∃z,z=obZ L jf:=⟨_,rfl⟩;obtain⟨bf,U⟩:∃b,b=decide (jf<L.length):=⟨_,rfl⟩;rw[<-hs,<-hz]at X Xx;have HF:Hid (GG L (A9 L lo)=.tuple #[iI s,iI z,.bool bf]):=⟨by rw[hs,hz,U,Xh];rfl⟩;obtain⟨s1,Xj⟩:∃s,s=obS L jn:=⟨_,rfl⟩;obtain⟨z1,Xc⟩:∃z,z=obZ L jn:=⟨_,rfl⟩;obtain⟨bn,Xi⟩:∃b,b=decide (jn<L.length):=⟨_,rfl⟩;have HN:Hid (GG L (BA L lo)=.tuple #[iI s1,iI z1,.bool bn]):=⟨by rw[Xj,Xc,Xi,N];rfl⟩;have Xk:=ι (ψ Xj (ψ Xc Xi));obtain⟨v0,Xn⟩:∃v,v=A8 (L.take jn) lo hi:=⟨_,rfl⟩;rw[<-Xn]at X;have Yb:=ι Xn;have Xo:=N
 have Xl:(bf=true/\s<lo/\lo<hi/\v0=min (s+z) hi-lo)\/(bf=false/\v0=0)\/(bf=true/\lo<=s/\v0=0)\/(bf=true/\s<lo/\hi<=lo/\v0=0):=by
  by_cases h1:jf<L.length
  ·have e1:bf=true:=by rw[U,θ h1]
   by_cases h2:s<lo
   ·by_cases h3:lo<hi
    ·left;rw[φ ⟨h1,h2,h3⟩]at X;exact⟨e1,h2,h3,X⟩
    ·right;right;right;rw[ξ (λh=>h3 h.2.2)]at X;exact⟨e1,h2,by omega,X⟩
   ·right;right;left;rw[ξ (λh=>h2 h.2.1)]at X;exact⟨e1,by omega,X⟩
  ·right;left;rw[ξ (λh=>h1 h.1)]at X;exact⟨by rw[U,ζ h1],X⟩
 have HG:=hg;clear hE hT Xe M Xh N X Xp Xt hs hz U Xj Xc Xi Xn hg;rcases Xl with⟨rfl,h2,h3,rfl⟩|⟨rfl,rfl⟩|⟨rfl,h2,rfl⟩|⟨rfl,h2,h3,rfl⟩
 all_goals
  have hmm:min (s+z) hi<=1048576:=Ω
  go_enter func209,ntmps209
  go_wp2_with(first
   | (go_at_call 174;refine(DU HE).mono ?_;rintro e w' ⟨rfl,rfl⟩)
   | (go_at_call 125;refine(FH HE).mono ?_;rintro e w' ⟨rfl,rfl⟩)
   | (go_at_call 222;refine(KV HE HT _).mono ?_;rintro e w' ⟨rfl,rfl⟩;rw[HF.o])
   | (go_at_call 208;refine(MD HE HT _).mono ?_;rintro e w' ⟨rfl,rfl⟩;rw[HN.o]))
  clear Xq Xu
 all_goals
  go_loop [7,11,12,13] (λs7 s11 s12 s13=>∃j,jn<=j/\j<=L.length/\s7=iI (A8 (L.take j) lo hi)/\s11=iI (obS L j)/\s12=iI (obZ L j)/\s13=.bool (decide (j<L.length))) (λ_ s11 _ s13=>if okV s13 then 1048577-(intOf s11).toNat else 0)
  case atStart=>exact⟨jn,ϑ _,Xs,by rw[<-Yb.o],by rw[Xk.o.1],by rw[Xk.o.2.1],by rw[Xk.o.2.2]⟩
  case round=>
   obtain⟨j,hj1,hj2,rfl,rfl,rfl,rfl⟩:=hrel;have Xr:=Ylw HG hb.2 j lo hi;have Xw:=VL HG hb.2 j;by_cases hj:j<L.length
   ·rw[θ hj];obtain⟨o1,o2⟩:=J3 hj;have Xv:=HG.sz _ (μ hj);obtain⟨sj,Y⟩:∃s,s=obS L j:=⟨_,rfl⟩;obtain⟨zj,J⟩:∃z,z=obZ L j:=⟨_,rfl⟩;obtain⟨vj,Z⟩:∃v,v=A8 (L.take j) lo hi:=⟨_,rfl⟩
    have hge:lo<=sj:=by
     rw[Y,o1];have E:BA L lo<L.length:=by have:=Xo;omega
     have hy:=MS E;rcases υ (BA L lo) j with h|h
     ·have:=HG.at E hj h;omega
     ·have e:L[BA L lo]'E=L[j]:=by congr 1;have:=Xo;omega
      rw[e]at hy;exact hy
    have Xc:1<=zj:=by rw[J,o2];omega
    have Xd:=VT hj lo hi
    have Xg:over L[j] lo hi=max 0 (min (sj+zj) hi-sj):=by
     unfold over;rw[Y,J,o1,o2]at *
     omega
    rw[Xg,<-Z]at Xd;have D:=Ylw HG hb.2 (j+1) lo hi;have Xf:BA L (sj+zj)=j+1:=by rw[Y,J,o1,o2];exact X1z HG hj
    obtain⟨s2,I⟩:∃s,s=obS L (j+1):=⟨_,rfl⟩;obtain⟨z2,Xb⟩:∃z,z=obZ L (j+1):=⟨_,rfl⟩;obtain⟨G,Xa⟩:∃b,b=decide (j+1<L.length):=⟨_,rfl⟩;have HX:Hid (GG L (BA L (sj+zj))=.tuple #[iI s2,iI z2,.bool G]):=⟨by rw[Xf,I,Xb,Xa];rfl⟩;have Xm:=ι (ψ I (ψ Xb Xa))
    have A:G=true->sj+zj<=s2:=λh=>by
     rw[Xa]at h;have h:=of_decide_eq_true h;have:=HG.at hj h (ξQ j);rw[Y,J,I,o1,o2,(J3 h).1];omega
    have Xz:=A;rw[<-Y,<-J]at Xw⊢;rw[<-Z]at Xr⊢;have Ya:=ι Z;have Xy:=ι Y;by_cases M:sj<hi
    ·have hmj:min (sj+zj) hi<=1048576/\sj<=min (sj+zj) hi:=Ω
     have O:A8 (L.take (j+1)) lo hi=vj+(min (sj+zj) hi-sj):=by rw[Xd];omega
     have hsum:0<=vj+(min (sj+zj) hi-sj)/\vj+(min (sj+zj) hi-sj)<=1048576:=by rw[<-O];exact D
     have Yc:=ι O;clear Y J Z Xg Xd O D Xf I Xb Xa A o1 o2 Xv;go_wp2_with(go_at_call 208;refine(MD HE HT _).mono ?_;rintro e w' ⟨rfl,rfl⟩;rw[HX.o]);go_round
     case rel=>exact⟨j+1,by omega,by omega,by rw[Yc.o],by rw[Xm.o.1],by rw[Xm.o.2.1],by rw[Xm.o.2.2]⟩
     case measure=>
      have e0:okV (Value.bool true)=true:=rfl;rw[φ e0];by_cases h:G=true
      ·have:=Xz h;rw[φ (show okV (Value.bool G)=true from h)];simp only[intOf];omega
      ·rw[ξ (show ¬okV (Value.bool G)=true from h)];simp only[intOf];omega
    ·have V:=XX HG (j:=j) (f:=lo) (t:=hi) (λhl=>by
      have:=Xy.o;rw[(J3 hl).1]at this;omega)
     have hE:Hid (A8 L lo hi=vj):=⟨by rw[UM L j,V,<-Ya.o];omega⟩;clear Y J Z Xg Xd D Xf I Xb Xa A o1 o2 Xv V;go_wp2;go_ret;exact⟨AS hE.o.symm,rfl⟩
   ·rw[ζ hj];have V:=XX HG (j:=j) (f:=lo) (t:=hi) (λhl=>absurd hl hj);have hE:Hid (A8 L lo hi=A8 (L.take j) lo hi):=⟨by rw[UM L j,V];omega⟩;obtain⟨vj,Z⟩:∃v,v=A8 (L.take j) lo hi:=⟨_,rfl⟩;rw[<-Z]at Xr⊢hE;clear V Z;go_wp2;go_ret;exact⟨AS hE.o.symm,rfl⟩
end
def AR(m b1 b2:Nat)(k:Nat):Prop:=k=m\/k=b1\/k=b2
section
variable{b1 b2:Nat}
theorem Ext.changed(hE:Ext w m p1 b1 p2 b2 n L){w2:World}{L':List Ob}(hg:AP n L')(t1:AB (λk=>k=b1) w w1)(v1:BB w1 p1 b1 (B8 n L'))(t2:AB (λk=>k=b2) w1 w2)(v2:BB w2 p2 b2 (EA n L'))(hz:z=L'.length):
  Ext (w2.setCell ⟨m,2,none⟩ (.int .i64 z)) m p1 b1 p2 b2 n L'/\AB (AR m b1 b2) w (w2.setCell ⟨m,2,none⟩ (.int .i64 z)):=by
 have t3:AB (λk=>k=m) w2 (w2.setCell ⟨m,2,none⟩ (.int .i64 z)):=(AB.refl (λk=>k=m) w2).setCell (a:=⟨m,2,none⟩) (λ_=>rfl) _;obtain⟨a1,a2,a3,a4⟩:=hE.am;obtain⟨a5,a6,a7⟩:=hE.ab;have X:m<w1.heap.size:=κ hE.hm t1.size;have hm2:m<w2.heap.size:=κ X t2.size;have e:∀o,w2.cell? ⟨m,o,none⟩=w.cell? ⟨m,o,none⟩:=λo=>(t2.cell X Ω o).trans (t1.cell hE.hm Ω o)
 have o:∀o,o≠2->(w2.setCell ⟨m,2,none⟩ (.int .i64 z)).cell? ⟨m,o,none⟩=w.cell? ⟨m,o,none⟩:=λo ho=>by
  rw[ξx (h:=by simp_all),e o]
 refine⟨⟨hg,(v1.touch t2 Ω Ω).touch t3 Ω Ω,v2.touch t3 Ω Ω,by simp_all,(o 0 Ω).trans hE.c0,(o 1 Ω).trans hE.c1,?_,?_,hE.am,hE.ab⟩,?_⟩
 ·rw[hz];exact ξn (h:=(e 2).trans hE.c2) ..
 ·rw[ξf,t2.frozen X Ω,t1.frozen hE.hm Ω];exact hE.fr
 ·exact((t1.mono (λk _ h=>.inr (.inl h))).trans (t2.mono (λk _ h=>.inr (.inr h)))).trans (t3.mono (λk _ h=>.inl h))
def V0(w:World)(m p1 b1 p2 b2 n:Nat)(L:List Ob)(s z:Int)(e:Ending)(w':World):Prop:=
 e=.returned (iI (DA L n s z))/\AB (AR m b1 b2) w w'/\Ext w' m p1 b1 p2 b2 n (C2 L n s z)
theorem PQ(hE:Ext w m p1 b1 p2 b2 n L){c:Int}(h:DA L n s z=c)(hc:c≠0):V0 w m p1 b1 p2 b2 n L s z (.returned (iI c)) w:=by
 refine⟨by rw[h],AB.refl _ _,?_⟩;unfold C2
 simp_all
theorem Zc1(hE:Ext w m p1 b1 p2 b2 n L)(hT:AO w)(s z:Int):
  Calls prog 211 #[pP m,iI s,iI z] w (V0 w m p1 b1 p2 b2 n L s z):=by
 have hb:=hE.nb;have HE:=hE;have HT:=hT;by_cases h0:z<1
 ·have d0:decide (z<1)=true:=by simp[h0]
  have HR:=(PQ hE (s:=s) (z:=z) (c:=15) (by unfold DA;rw[φ h0]) (by decide));go_enter func211,ntmps211;go_wp2_with(go_at_call 174;refine(DU HE).mono ?_;rintro e w' ⟨rfl,rfl⟩);go_ret;exact HR
 ·have d0:decide (z<1)=false:=by simp;omega
  by_cases h1:s<0
  ·have d1:decide (s<0)=true:=by simp[h1]
   have HR:=(PQ hE (s:=s) (z:=z) (c:=11) (by unfold DA;rw[ξ h0,φ (.inl h1)]) (by decide));go_enter func211,ntmps211;go_wp2_with(go_at_call 174;refine(DU HE).mono ?_;rintro e w' ⟨rfl,rfl⟩);go_ret;exact HR
  ·have d1:decide (s<0)=false:=by simp;omega
   by_cases h2:(n:Int)<=s
   ·have d2:decide ((n:Int)<=s)=true:=by simp[h2]
    have HR:=(PQ hE (s:=s) (z:=z) (c:=11) (by unfold DA;rw[ξ h0,φ (.inr (.inl h2))]) (by decide));go_enter func211,ntmps211
    go_wp2_with(first
     | (go_at_call 174;refine(DU HE).mono ?_;rintro e w' ⟨rfl,rfl⟩)
     | (go_at_call 125;refine(FH HE).mono ?_;rintro e w' ⟨rfl,rfl⟩))
    go_ret;exact HR
   ·have d2:decide ((n:Int)<=s)=false:=by simp;omega
    obtain⟨sn,rfl⟩:∃k:Nat,s=k:=⟨s.toNat,by omega⟩;by_cases h3:(n:Int)-sn<z
    ·have d3:decide ((n:Int)-(sn:Int)<z)=true:=by simp;omega
     have HR:=(PQ hE (s:=sn) (z:=z) (c:=11) (by unfold DA;rw[ξ h0,φ (.inr (.inr h3))]) (by decide));clear hE hT;go_enter func211,ntmps211
     go_wp2_with(first
      | (go_at_call 174;refine(DU HE).mono ?_;rintro e w' ⟨rfl,rfl⟩)
      | (go_at_call 125;refine(FH HE).mono ?_;rintro e w' ⟨rfl,rfl⟩))
     go_ret;exact HR
    ·have d3:decide ((n:Int)-(sn:Int)<z)=false:=by simp;omega
     obtain⟨zn,rfl⟩:∃k:Nat,z=k:=⟨z.toNat,by omega⟩;have X:=V3K hE.good (s:=(sn:Int)) (z:=(zn:Int)) Ω;have Xo:=VL hE.good hb.2 (BA L (sn:Int));have Xl:((L[BA L (sn:Int)]?.getD (0,0)).1:Int)=obS L (BA L (sn:Int)):=rfl;rw[Xl]at X;obtain⟨s1,Xg⟩:∃v,v=obS L (A9 L (sn:Int)):=⟨_,rfl⟩;obtain⟨z1,U⟩:∃v,v=obZ L (A9 L (sn:Int)):=⟨_,rfl⟩;obtain⟨f1,Xc⟩:∃v,v=decide (A9 L (sn:Int)<L.length):=⟨_,rfl⟩;obtain⟨s2,O⟩:∃v,v=obS L (BA L (sn:Int)):=⟨_,rfl⟩;obtain⟨z2,Xa⟩:∃v,v=obZ L (BA L (sn:Int)):=⟨_,rfl⟩;obtain⟨f2,N⟩:∃v,v=decide (BA L (sn:Int)<L.length):=⟨_,rfl⟩;have HF:Hid (GG L (A9 L (sn:Int))=.tuple #[iI s1,iI z1,.bool f1]):=⟨by rw[Xg,U,Xc];rfl⟩;have HN:Hid (GG L (BA L (sn:Int))=.tuple #[iI s2,iI z2,.bool f2]):=⟨by rw[O,Xa,N];rfl⟩;rw[<-Xc,<-N,<-O]at X;rw[<-O,<-Xa]at Xo;have Xb:zn<=1048576/\sn<=1048576/\sn+zn<=n:=Ω
     have Z:∀c,G5 L (sn:Int) (zn:Int)=c->DA L n (sn:Int) (zn:Int)=if c then 7 else 0:=λc hc=>by
      unfold DA;rw[ξ h0,ξ Ω,hc]
     clear Xg U Xc O Xa N Xl;cases hc:G5 L (sn:Int) (zn:Int)with
     | true=>
      have HR:=(PQ hE (s:=(sn:Int)) (z:=(zn:Int)) (c:=7) (Z true hc) (by decide));rw[hc]at X;clear hE hT Z hc;cases f1 with
      | true=>
       clear X;go_enter func211,ntmps211
       go_wp2_with(first
        | (go_at_call 174;refine(DU HE).mono ?_;rintro e w' ⟨rfl,rfl⟩)
        | (go_at_call 125;refine(FH HE).mono ?_;rintro e w' ⟨rfl,rfl⟩)
        | (go_at_call 222;refine(KV HE HT _).mono ?_;rintro e w' ⟨rfl,rfl⟩;rw[HF.o])
        | (go_at_call 208;refine(MD HE HT _).mono ?_;rintro e w' ⟨rfl,rfl⟩;rw[HN.o]))
       go_ret;exact HR
      | false=>
       have N:f2=true/\s2<(sn:Int)+zn:=by simpa using X.symm
       obtain⟨rfl,Xu⟩:=N;have d4:decide (s2<(sn:Int)+(zn:Int))=true:=by simp[Xu]
       clear X;go_enter func211,ntmps211
       go_wp2_with(first
        | (go_at_call 174;refine(DU HE).mono ?_;rintro e w' ⟨rfl,rfl⟩)
        | (go_at_call 125;refine(FH HE).mono ?_;rintro e w' ⟨rfl,rfl⟩)
        | (go_at_call 222;refine(KV HE HT _).mono ?_;rintro e w' ⟨rfl,rfl⟩;rw[HF.o])
        | (go_at_call 208;refine(MD HE HT _).mono ?_;rintro e w' ⟨rfl,rfl⟩;rw[HN.o]))
       go_ret;exact HR
     | false=>
      have M:=XCZ (L:=L) (s:=(sn:Int)) (z:=(zn:Int)) Ω Ω hc;simp only[χ]at M;have U:1<=zn:=Ω
      have V:=RJ hE.good (o:=(sn,zn)) U Xb.2.2 M;have Xj:=Yfk hE.good (o:=(sn,zn)) U Xb.2.2 M;have Xf:=Y48 hE.good (o:=(sn,zn)) U Xb.2.2 M;have G:=YKx L (sn,zn);have Y:DA L n (sn:Int) (zn:Int)=0:=Z false hc;have hL:C2 L n (sn:Int) (zn:Int)=DE L (sn,zn):=by unfold C2;rw[φ Y];rfl
      rw[hc]at X
      obtain⟨rfl,Xx⟩:f1=false/\(f2=false\/(f2=true/\(sn:Int)+zn<=s2)):=by
       cases f1 with
       | true=>rw[Bool.true_or]at X;cases X
       | false=>
        refine⟨rfl,?_⟩;cases f2 with
        | false=>exact .inl rfl
        | true=>
         right;rw[Bool.false_or,ξ2]at X;have:=of_decide_eq_false X.symm;exact⟨rfl,by omega⟩
      obtain⟨e,he⟩:∃e,e=sn+zn-1:=⟨_,rfl⟩;have Xq:Hid ((sn:Int)+(zn:Int)-1=(e:Int)):=⟨by omega⟩;have A:EA n (DE L (sn,zn))=(EA n L).set e true:=by rw[he];exact Xf
      have D:B8 n (DE L (sn,zn))=(B8 n L).set sn true:=Xj;have K1:Hid (sn<(B8 n L).length):=⟨by rw[IQ];omega⟩;have K2:Hid (e<(EA n L).length):=⟨by rw[QO];omega⟩;have KG:=V;have KS:=D;have KE:=A;have KL:=(ψ G (ψ Y hL));obtain⟨a1,a2,a3,a4⟩:=hE.am;obtain⟨a5,a6,a7⟩:=hE.ab;have I:=hE.hm;have Xs:=hE.c1;have Xp:=hE.c2;have Xw:=hE.fr;have cc0:=hE.c0;have HA:Hid (m≠b1/\m≠b2/\p2≠b1/\b2≠b1):=⟨⟨a2,a4,a6,λh=>a7 h.symm⟩⟩;have hLn:=hE.good.len;clear hE hT Z hc X M V Xj Xf A D G Y hL he a1 a2 a3 a4 a5 a6 a7;rcases Xx with rfl|⟨rfl,hge⟩
      all_goals try have d4:decide (s2<(sn:Int)+(zn:Int))=false:=by simp;omega
      all_goals
       go_enter func211,ntmps211
       go_wp2_with(first
        | (go_at_call 174;refine(DU HE).mono ?_;rintro e w' ⟨rfl,rfl⟩)
        | (go_at_call 125;refine(FH HE).mono ?_;rintro e w' ⟨rfl,rfl⟩)
        | (go_at_call 222;refine(KV HE HT _).mono ?_;rintro e w' ⟨rfl,rfl⟩;rw[HF.o])
        | (go_at_call 208;refine(MD HE HT _).mono ?_;rintro e w' ⟨rfl,rfl⟩;rw[HN.o])
        | (go_at_call 252;rw[Xq.o];refine(ZYZ (HE.v2.touch Xk HA.o.2.2.1 HA.o.2.2.2) e K2.o).mono ?_;rintro e' w2 ⟨rfl,E,Xd⟩;rw[<-KE]at Xd;have e2:=(E.cell Xi HA.o.2.1 2).trans Xn;have ef:=(E.frozen Xi HA.o.2.1 2).trans Xt;have Xr:=E;have Xv:=Xd;clear E Xd)
        | (go_at_call 252;refine(ZYZ HE.v1 sn K1.o).mono ?_;rintro e' w1 ⟨rfl,J,Xe⟩;rw[<-KS]at Xe;have e11:=(J.cell I HA.o.1 1).trans Xs;have Xn:=(J.cell I HA.o.1 2).trans Xp;have Xt:=(J.frozen I HA.o.1 2).trans Xw;have Xk:=J;have Xm:=Xe;have Xi:=(κ I J.size);clear J Xe))
       go_ret;have Xh:=HE.changed KG Xk Xm Xr Xv (z:=((L.length:Int)+1)) (by rw[KL.1];push_cast;rfl);exact⟨by rw[KL.2.1];rfl,Xh.2,by rw[KL.2.2];exact Xh.1⟩
theorem ZRB(c0:w.cell? ⟨m,0,none⟩=some (pP p)):cQ 174 #[pP m] w (.bool false):=by
 go_enter func174,ntmps174;go_wp2;go_ret
 simp_all
theorem Xk0(c0:w.cell? ⟨m,0,none⟩=some (pP p))(hV:BB w p b l)(hl:l.length=n):
  cQ 125 #[pP m] w (iI n):=by
 have HV:=hV;go_enter func125,ntmps125
 go_wp2_with(first
  | (go_at_call 174;refine(ZRB c0).mono ?_;rintro e w' ⟨rfl,rfl⟩)
  | (go_at_call 175;refine(IS HV).mono ?_;rintro e w' ⟨rfl,rfl⟩))
 go_ret
 simp_all
theorem ZG(l:List Bool)(n:Nat)(h:l.length=n):CP l 0 n false=List.replicate n false:=
 IL (by grind [FM]) (λi hi=>by
  rw[FM]at hi;rw[NX _ _ _ _ _ hi,φ Ω]
  simp[at_,ξr];split <;> rfl)
def JAm(w:World)(m p1 b1 p2 b2 n:Nat)(e:Ending)(w':World):Prop:=e=.returned (.tuple #[])/\AB (AR m b1 b2) w w'/\Ext w' m p1 b1 p2 b2 n []
theorem Zca(hE:Ext w m p1 b1 p2 b2 n L):
  Calls prog 127 #[pP m] w (JAm w m p1 b1 p2 b2 n):=by
 have hb:=hE.nb;have HE:=hE;have Xe:=hE.c0;have Xa:=hE.c1;have D:=hE.c2;have Xf:=hE.fr;obtain⟨a1,a2,a3,a4⟩:=hE.am;obtain⟨a5,a6,a7⟩:=hE.ab;have Z:=hE.hm;have HA:Hid (m≠b1/\m≠b2/\p2≠b1/\b2≠b1):=⟨⟨a2,a4,a6,λh=>a7 h.symm⟩⟩;have KS:Hid (CP (B8 n L) 0 (n:Int) false=B8 n []):=⟨by grind [ZG,IQ,V9f]⟩;have KE:Hid (CP (EA n L) 0 (n:Int) false=EA n []):=⟨by grind [ZG,QO,ZJ]⟩;go_enter func127,ntmps127;go_upto_region 1 with(go_at_call 174;refine(DU HE).mono ?_;rintro e w' ⟨rfl,rfl⟩);obtain⟨S,hS⟩:∃S:World->Prop,S=λW'=>W'.cell? ⟨m,0,none⟩=some (pP p1):=⟨_,rfl⟩;have x0:∀p:AA S,p.w.cell? ⟨m,0,none⟩=some (pP p1):=λp=>AA.get hS p;have Y:S w.drew:=by simp_all
 have J:Inhabited (AA S):=⟨⟨_,Y⟩⟩;clear hS;refine AI S 6 [([0,1,2,3,4],5),([],6)] [] Y ?_;refine AE ?_;go_wp2_with(go_at_call 125;refine(FH (HE.gr (Gr.refl w).drew)).mono ?_;rintro e w' ⟨rfl,rfl⟩);refine⟨.inr (AA.of Y),?_⟩;refine OM ?_;simp only[AG,ν,π];refine ζd ?_;go_wp2_with(go_at_call 176;refine(Y7 (HE.v1.gr (Gr.refl w).drew) 0 (n:Int) (by decide)).mono ?_;rintro e' w1 ⟨rfl,A,I⟩;rw[KS.o]at I;have X:=((Gr.refl w).drew.touch (λk=>k=b1)).trans A;have e11:=(X.cell Z HA.o.1 1).trans Xa;have E:=(X.cell Z HA.o.1 2).trans D;have Xd:=(X.cell Z HA.o.1 0).trans Xe;have Xb:=(X.frozen Z HA.o.1 2).trans Xf;have N:=X;have U:=I;have M:=(κ Z X.size));refine⟨.inl trivial,?_⟩;refine ET ?_;refine ζd ?_;refine ζI ?_;go_upto_region 2 with(fail);obtain⟨S,hS⟩:∃S:World->Prop,S=λW'=>W'.cell? ⟨m,1,none⟩=some (pP p2):=⟨_,rfl⟩;have x0:∀p:AA S,p.w.cell? ⟨m,1,none⟩=some (pP p2):=λp=>AA.get hS p;have Y:S w1.drew:=by simp_all
 have J:Inhabited (AA S):=⟨⟨_,Y⟩⟩;clear hS;refine AI S 6 [([0,1,2,3,4],5),([],6)] [] Y ?_;refine AE ?_;go_wp2_with(go_at_call 125;refine(Xk0 (w:=w1.drew) Xd (U.gr (Gr.refl w1).drew) (IQ n [])).mono ?_;rintro e w' ⟨rfl,rfl⟩);refine⟨.inr (AA.of Y),?_⟩;refine OM ?_;simp only[AG,ν,π];refine ζd ?_;go_wp2_with(go_at_call 176;refine(Y7 ((HE.v2.touch N HA.o.2.2.1 HA.o.2.2.2).gr (Gr.refl w1).drew) 0 (n:Int) (by decide)).mono ?_;rintro e' w2 ⟨rfl,Xg,O⟩;rw[KE.o]at O;have X:=((Gr.refl w1).drew.touch (λk=>k=b2)).trans Xg;have e2:=(X.cell M HA.o.2.1 2).trans E;have ef:=(X.frozen M HA.o.2.1 2).trans Xb;have G:=X;have Xc:=O);refine⟨.inl trivial,?_⟩;refine ET ?_;refine ζd ?_;refine ζI ?_;clear x0 Y J;go_wp2;refine ζz (ζl rfl _ _ _) rfl ?_;have V:=HE.changed (AP.nil n) N U G Xc (z:=0) rfl;exact⟨rfl,V.2,V.1⟩
def XrP(w:World)(n:Nat)(e:Ending)(w':World):Prop:=
 ∃m p1 b1 p2 b2,e=.returned (.tuple #[pP m,iI 0])/\Gr w w'/\Ext w' m p1 b1 p2 b2 n []/\w.heap.size<=m/\w.heap.size<=p1/\w.heap.size<=b1/\w.heap.size<=p2/\w.heap.size<=b2
theorem OQ(n:Nat)(h1:1<=n)(h2:n<=1048576)(w:World):Calls prog 66 #[iI n] w (XrP w n):=by
 have HN:=(ψ h1 h2);go_enter func66,ntmps66
 go_wp2_with(first
  | (go_at_call 123;refine(V1 n HN.1 HN.2 w1).mono ?_;rintro e w2 ⟨p2,b2,rfl,Z,X,hp2,hb2⟩)
  | (go_at_call 123;refine(V1 n HN.1 HN.2 _).mono ?_;rintro e w1 ⟨p1,b1,rfl,U,Y,hp1,hb1⟩))
 go_ret2;have J:=Y.gr Z;have s1:=Y.hp;have s2:=Y.hb;have s3:=X.hp;have s4:=X.hb;refine⟨_,p1,b1,p2,b2,BP rfl rfl,(U.trans Z).alloc _,⟨AP.nil n,?_,?_,by simp,ζM ..,ζM ..,ζM ..,ξ5 ..,by omega,by omega⟩,by omega,by omega,by omega,by omega,by omega⟩
 ·rw[V9f];exact J.gr ((Gr.refl _).alloc _)
 ·rw[ZJ];exact X.gr ((Gr.refl _).alloc _)
end
open Go.Shelf
section
attribute [local go_sem] Oper.semAt_some
def YjA(box p b N:Nat)(s:List Bool×Nat)(W:World):Prop:=
 BB W p b s.1/\s.1.length=N/\AO W/\W.cell? ⟨box,0,none⟩=some (pP p)/\s.2<=N
def XRB(s:List Bool×Nat)(x:Nat):Prop:=x=BU s.1 s.2/\BU s.1 s.2<s.1.length
def Qk5(_:List Bool×Nat)(x:Nat)(s':List Bool×Nat):Prop:=s'.2=x+1
theorem VJj(h:BU l a<l.length):at_ l (BU l a)=true/\a<=(BU l a:Nat):=by
 have:=GL (λi=>at_ l i&&decide (a<=(i:Nat))) l.length h;simp only[ζh,ζg]at this;exact this
theorem ZWM(h:BU l a<l.length):a<=(BU l a:Nat):=(VJj h).2
def WG:Value->Bool
 | .bool b=>b
 | _=>false
def VI(s:List Bool×Nat):Prop:=¬BU s.1 s.2<s.1.length
theorem ZNp(n:Nat)(box p b N:Nat)(l0:List Bool)(w:World):
  NB Fence.wide n prog 254 #[pP box] (λx:Nat=>#[iI (x:Int)]) (YjA box p b N) XRB Qk5 VI (l0,0) w:=by
 intro l J Jx W hg hJ hJx hI hY h0;refine callsIn_of_wp func254 rfl trivial ?_ rfl;have U:=hI _ _ h0;have c0:=U.2.2.2.1;have V:=U;simp only[ntmps254,ζ0,ζu,ξc,Nat.reduceAdd,Nat.reduceSub,ζR,ζQ,ζ5,ζX,ζU,ζC];gi_wp2_with(refine⟨trivial,λh=>Bool.noConfusion h,?_⟩;gi_at_call 249;refine(δ.2 (KY V.1 V.2.2.1 _)).mono ?_;rintro e w1 ⟨rfl,rfl⟩)
 gi_loopw [3,4] (λx3 x4 wr=>∃s:List Bool×Nat,J s wr/\x3=iI (JJ s.1.length (BU s.1 s.2))/\x4=.bool (decide (BU s.1 s.2<s.1.length))) (λx3 x4 _=>if WG x4 then N-(intOf x3).toNat+1 else 0)
 case atStart=>grind
 case round=>
  obtain⟨s,hs,rfl,rfl⟩:=hrel;have hi:=hI _ _ hs;have c1:=hi.2.2.2.1;have HI:=hi;by_cases X:BU s.1 s.2<s.1.length
  ·obtain⟨x,hx⟩:∃x,x=BU s.1 s.2:=⟨_,rfl⟩;obtain⟨fn,tmps,assign,body,hy,hR⟩:=hY s x wr hs ⟨hx,X⟩;have e1:JJ s.1.length (BU s.1 s.2)=(x:Int):=by grind [IT]
   have e2:decide (BU s.1 s.2<s.1.length)=true:=by simp[X]
   rw[e1,e2];have hxN:x<N:=by rw[<-HI.2.1,hx];exact X
   have HN:=hI;have HX:=ι hx;clear hx e1 e2 hI;gi_wp2;refine⟨λh=>Bool.noConfusion h,hR.mono ?_⟩;rintro e W3 (⟨rfl,s',I,O⟩|⟨rfl,hx'⟩)
   ·have Y:=HN _ _ O;have c3:=Y.2.2.2.1;have Z:=Y;have M:s'.2=x+1:=I;have hN2:(N:Int)<=1048576:=by have:=Y.1.n2;have:=Y.2.1;omega
    have hx2:(x:Int)<N:=Ω
    have HS':=M;gi_wp2_with(refine⟨trivial,λh=>Bool.noConfusion h,?_⟩;gi_at_call 249;refine(δ.2 (KY Z.1 Z.2.2.1 ((x:Int)+1))).mono ?_;rintro e w1 ⟨rfl,rfl⟩);go_roundw
    case rel=>grind
    case measure=>
     have e0:WG (Value.bool true)=true:=rfl;rw[φ e0];by_cases h:BU s'.1 ((x:Int)+1)<s'.1.length
     ·have hge:=ZWM h;have h2:=Z.2.1;rw[IT h,φ (by simp_all)];simp only[intOf];omega
     ·rw[ξ (by simp[WG];omega)];omega
   ·gi_wp2
    go_end0
    simp_all
  ·have e1:JJ s.1.length (BU s.1 s.2)=0:=NI X;have e2:decide (BU s.1 s.2<s.1.length)=false:=by simp;omega
   rw[e1,e2];gi_wp2;refine⟨λ_ h=>(by cases h),?_⟩;gi_wp2
   go_end0
   exact⟨⟨_,rfl⟩,.inl ⟨s,X,hs⟩⟩
theorem Xig(q:Option Addr):
  Calls prog 214 #[.pointer q] w λe w'=>e=.returned (.func (.func 254) #[] #[pP w.heap.size])/\w'=w.alloc (.cells #[.pointer q] 202):=by
 go_enter func214,ntmps214;go_wp2;go_ret
 simp_all
end
section
attribute [local go_sem] Oper.semAt_some
def Zxj(box m p1 b1 p2 b2 n:Nat)(L:List Ob)(j:Nat)(W:World):Prop:=
 Ext W m p1 b1 p2 b2 n L/\AO W/\W.cell? ⟨box,0,none⟩=some (pP m)/\j<=L.length
def ER(L:List Ob)(j:Nat)(x:Ob):Prop:=L[j]?=some x
def GO(x:Ob):Array Value:=#[iI (x.1:Nat),iI (x.2:Nat)]
theorem ZjB(h:AP n L)(hj:j<L.length):BA L ((L[j].1:Int)+1)=j+1:=by
 refine MH Ω (λi hi hij=>?_) (λh2=>?_)
 ·rcases υ i j with h1|h1
  ·have:=h.at hi hj h1;omega
  grind
 ·have:=h.at hj h2 (ξQ j);have:=h.sz _ (μ hj);omega
theorem ZVe{l l2:Nat}{P:Program}{args:Array Value}{R:Ending->World->Prop}(h:YieldAt Fence.wide m P l args W R):YieldAt (Fence.wide.inRound l2) m' P l args W R:=by
 obtain⟨fn,Z,X,Y,hy,hR⟩:=h;exact⟨fn,Z,X,Y,hy,hR.1,λc cs _=>hR.2 c cs (room_wide _)⟩
structure MP(n:Nat)(L:List Ob)(J:Nat->World->Prop)(B0 B1 p1:Nat)(y:Value)(s:List Bool×Nat)(A:World):Prop where
 st:s.1=B8 n L
 ps:s.2<=n
 j:∃j,J j A/\BA L (s.2:Int)=j
 y:A.cell? ⟨B0,0,none⟩=some y
 v:A.cell? ⟨B1,0,none⟩=some (pP p1)
theorem Xix(n':Nat)(box m p1 b1 p2 b2 n:Nat)(L:List Ob)(w:World):
  V8 Fence.wide n' prog 213 #[pP box] GO (Zxj box m p1 b1 p2 b2 n L) (ER L) (λj _ j'=>j'=j+1) (λj=>j=L.length) 0 w:=by
 intro l J Jx W hg hJ Xn hI hY h0;refine δ.2 ((δ (n:=5)).1 ?_);refine callsIn_of_wp_marks func213 rfl trivial ?_ rfl;have Xd:=hI _ _ h0;have c0:=Xd.2.2.1;have k0:=Xd.1.c0;have E:=Xd;have Xr:=h0;have Xh:=hI;simp only[ntmps213,ζ0,ζu,ξc,Nat.reduceAdd,Nat.reduceSub,ζR,ζQ,ζ5,ζX,ζU,ζC];have hbox:box<W.heap.size:=AV c0;have hmw:=E.1.hm
 gi_wp2_with(first
  | (refine⟨trivial,?_⟩;gi_at_call 174;refine(δ.2 (DU (E.1.gr ((Gr.refl W).alloc _)))).mono ?_;rintro e w1 ⟨rfl,rfl⟩)
  | (refine⟨trivial,?_⟩;gi_at_call 214;refine(δ.2 (Xig (some ⟨p1,0,none⟩))).mono ?_;rintro e w1 ⟨rfl,rfl⟩))
 obtain⟨W0,M⟩:∃W0,W0=(W.alloc (.cells #[.func (.yield l) #[] #[]] 296)).alloc (.cells #[.pointer (some ⟨p1,0,none⟩)] 202):=⟨_,rfl⟩;have Xs:Gr W W0:=by rw[M];exact((Gr.refl W).alloc _).alloc _
 have Xf:W0.heap.size=W.heap.size+2:=by rw[M];simp
 have bY:W0.cell? ⟨W.heap.size,0,none⟩=some (.func (.yield l) #[] #[]):=by rw[M];exact((Boxed.new W _ _).alloc _).cell
 have bV:W0.cell? ⟨W.heap.size+1,0,none⟩=some (pP p1):=by
  rw[M];have:=Boxed.new (W.alloc (.cells #[.func (.yield l) #[] #[]] 296)) 202 (pP p1);rw[γ]at this;exact this.cell
 rw[<-M];have X:=E.1.good;have hnb:=E.1.nb;have Xg:J 0 W0:=hJ _ _ _ Xr (Xs.touch _);have HH0:=M;have Xv:BA L ((0:Nat):Int)=0:=MH (ζf _) (λi hi h=>by omega) (λh=>by omega)
 have tI:∀s A B,MP n L J W.heap.size (W.heap.size+1) p1 (.func (.yield l) #[] #[]) s A->AB (λk=>W0.heap.size<=k) A B->MP n L J W.heap.size (W.heap.size+1) p1 (.func (.yield l) #[] #[]) s B:=λs A B h t=>
  ⟨h.st,h.ps,by obtain⟨j,hj,e⟩:=h.j;exact⟨j,hJ _ _ _ hj (t.mono (λk _ h=>by omega)),e⟩,(t.cell (AV h.y) (by show ¬W0.heap.size<=W.heap.size;omega) 0).trans h.y,(t.cell (AV h.v) (by show ¬W0.heap.size<=W.heap.size+1;omega) 0).trans h.v⟩
 refine TT (s0:=(B8 n L,0)) rfl Ω (gf:=254) (lb:=#[pP (W.heap.size+1)]) rfl trivial (enters_of func254 (by kernel_rfl) rfl)
  (ZNp _ (W.heap.size+1) p1 b1 n (B8 n L) _).toT (λ_=>rfl)
  (MP n L J W.heap.size (W.heap.size+1) p1 (.func (.yield l) #[] #[])) (λc A=>c=.ret/\Jx A) tI (λc A B h t=>⟨h.1,Xn _ _ h.2 (t.mono (λk _ h=>by omega))⟩)
  (λs A h=>by
   obtain⟨j,hj,-⟩:=h.j;have hi:=Xh _ _ hj
   exact⟨by rw[h.st];exact hi.1.v1,by rw[h.st,IQ],hi.2.1,h.v,h.ps⟩)
  ⟨rfl,ζf _,⟨0,Xg,Xv⟩,bY,bV⟩ ?round ?done ?stop
 case round=>
  intro lp s x W3 hsz3 Xc Ya;gi_wp2;refine⟨Gr.refl _,λW4 ht4 hI4=>?_⟩;obtain⟨V,Xj,⟨j,hj,Z⟩,hy,hv⟩:=hI4;obtain⟨hx,Xl⟩:=Ya;have N:=Xh _ _ hj;rw[V]at hx Xl
  have Y:j<L.length:=by
   rcases υ j L.length with h|h
   ·exact h
   ·have:=XL X (a:=(s.2:Int)) (by rw[Z];omega);omega
  have Xy:x=L[j].1:=by
   have:=(NS X (a:=(s.2:Int)) (by rw[Z];exact Y)).1;rw[hx,this];congr 2
  subst Xy;have Xt:J j W4.drew:=hJ _ _ _ hj ((Gr.refl W4).drew.touch _);have Xo:W.heap.size<=W4.drew.heap.size:=Nat.le_of_lt (AV hy);obtain⟨fn,tmps,assign,body,Xu,hR⟩:=ZVe (m':=2) (l2:=lp) (hY j L[j] W4.drew Xt Xo (η Y));have HZ:=(Q4 (N.1.gr (Gr.refl W4).drew) ((Gr.refl W4).drew.tab N.2.1.lt N.2.1) Y);have cbx:=N.2.2.1;have hbxs:=Xf;have HS:=(ψ V (ψ Z Y));clear V Z hj N hx Xl Xc;dsimp only[GO]at Xu
  have Xp:=hR.mono (R':=λe W'=>∃bb:Bool,e=.returned (.bool bb)/\((bb=true/\J (j+1) W')\/(bb=false/\Jx W'))/\AB (λk=>k<W.heap.size) W4.drew W') (by
   rintro e W' ⟨⟨he,s',rfl,Xw⟩|⟨he,hx⟩,ht⟩
   ·exact⟨true,he,.inl ⟨rfl,Xw⟩,ht⟩
   ·exact⟨false,he,.inr ⟨rfl,hx⟩,ht⟩)
  clear hR;gi_wp2;obtain⟨Sx,Xa⟩:∃S:World->Prop,S=λA=>A.cell? ⟨W.heap.size,0,none⟩=some (.func (.yield l) #[] #[]):=⟨_,rfl⟩;have x1:∀p:AA Sx,p.w.cell? ⟨W.heap.size,0,none⟩=some (.func (.yield l) #[] #[]):=λp=>AA.get Xa p;have I:Sx W4.drew:=by rw[Xa];exact hy
  have Xk:=ι Xa;clear Xa;have Xm:Inhabited (AA Sx):=⟨⟨_,I⟩⟩;refine GX Sx 7 [([0,1,3],2),([],4),([],5)] [6] (λ_=>trivial) I ?_;refine EL ?_;gi_wp2;refine⟨.inr (AA.of I),?_⟩;refine N3 ?_;simp only[AG,ν,π];refine ζd ?_;gi_wp2_with(refine⟨trivial,?_⟩;gi_at_call 215;refine(CallsIn.inRound lp (δ.2 HZ)).mono ?_;rintro e w' ⟨rfl,rfl⟩);refine⟨.inr (AA.of I),?_⟩;refine N3 ?_;simp only[AG,ν,π];refine ζd ?_;gi_wp2;refine Xp.mono ?_;rintro e W5 ⟨bb,rfl,Xb,G⟩;have Xi:=(G.cell (AV hy) (ζL _) 0).trans hy;have Xz:=(G.cell (AV hv) (by show ¬W.heap.size+1<W.heap.size;omega) 0).trans hv;gi_wp2;refine⟨.inr (AA.of (by rw[Xk.o];exact Xi)),?_⟩;refine GM ?_;have T5:=(((Gr.refl W4).drew.touch (λk=>k<W0.heap.size)).trans (G.mono (λk _ h=>by omega)));have Xx:=(X.sz _ (μ Y));clear x1 I Xk Xm Xp G;clear Sx;cases bb with
  | true=>
   have O:J (j+1) W5:=by
    rcases Xb with⟨_,h⟩|⟨h,_⟩
    ·exact h
    ·cases h
   have Xe:=O;clear Xb O;gi_wp2;exact⟨T5,(B8 n L,L[j].1+1),rfl,rfl,by have:=Xx;show L[j].1+1<=n;omega,⟨j+1,Xe,by have:=ZjB X Y;push_cast;exact this⟩,Xi,Xz⟩
  | false=>
   have O:Jx W5:=by
    rcases Xb with⟨h,_⟩|⟨_,h⟩
    ·cases h
    ·exact h
   have Xe:=O;clear Xb O;gi_wp2;exact⟨T5,rfl,Xe⟩
 case done=>
  rintro D s W3 hD U Xc hK;obtain⟨V,Xj,⟨j,hj,Z⟩,hy,hv⟩:=Xc
  have Y:¬j<L.length:=λh=>by
   have:=NS X (a:=(s.2:Int)) (by rw[Z];exact h);unfold VI at U;rw[V]at U;exact U this.2
  have Xq:j=L.length:=by have:=ON L (s.2:Int);omega
  have HE:=(ψ Xq hj);have HK:=hK;have HD:=hD;clear V Xj Z hy hv U Xq hj hK hD Y;gi_wp2;refine⟨by simp,.inl ⟨_,_,rfl,run_takeDeferred HK,?_⟩⟩;refine⟨.tuple #[],ζl rfl _ _ _,⟨_,rfl⟩,.inl ⟨j,HE.1,hJ _ _ _ HE.2 ((DH W3 D _ (ϑ D)).mono (λk _ h=>by have:=HD;omega))⟩⟩
 case stop=>
  rintro D c W3 hD ⟨rfl,hx⟩ hK;have HE:=hx;have HK:=hK;have HD:=hD;clear hx hK hD;gi_wp2;refine⟨by simp,.inl ⟨_,_,rfl,run_takeDeferred HK,?_⟩⟩;refine⟨.tuple #[],ζl rfl _ _ _,⟨_,rfl⟩,.inr (Xn _ _ HE ((DH W3 D _ (ϑ D)).mono (λk _ h=>by have:=HD;omega)))⟩
end
section
attribute [local go_sem] Oper.semAt_some
theorem KJ(q:Option Addr):
  Calls prog 160 #[.pointer q] w λe w'=>e=.returned (.func (.func 213) #[] #[pP w.heap.size])/\w'=w.alloc (.cells #[.pointer q] 120):=by
 go_enter func160,ntmps160;go_wp2;go_ret
 simp_all
theorem AO.touch'(ht:AO w)(h:AB S w W)(hS:¬S 1):AO W:=h.tab ht.lt hS ht
end
section
attribute [local go_sem] Oper.semAt_some
end
def CZ(n:Nat)(L:List Ob):List Bool:=(List.range n).map (DL L)
theorem JY(n:Nat)(L:List Ob):(CZ n L).length=n:=by simp[CZ]
theorem V3(h:AP n L)(i:Nat):at_ (CZ n L) i=DL L i:=by
 unfold CZ;rw[JR];by_cases hi:i<n
 ·simp_all
 ·rw[ζ hi];cases hb:DL L i with
  | false=>rfl
  | true=>
   obtain⟨o,ho,h1,h2⟩:=OK.1 hb;have:=h.sz o ho;omega
theorem Yht(h:AP n L)(f t:Int):((DT (CZ n L) f t:Nat):Int)=A8 L f t:=by
 rw[<-SD h,J0,JY];congr 1;exact ZVB (λi _=>by rw[V3 h])
theorem UB(h:AP n L)(k:Nat)(hk:k<=n):((cnt (at_ (CZ n L)) k:Nat):Int)=A8 L 0 k:=by
 rw[<-Yht h,VG _ (by grind [JY])]
theorem YKJ:∀{q k:Nat},D0 L q=some k->∃j,∃hj:j<L.length,∃i,i<L[j].2/\q=sizes (L.take j)+i/\k=L[j].1+i:=by
 induction L with
 | nil=>intro q k h;cases h
 | cons o r ih=>
  intro q k h;unfold D0 at h;by_cases hq:q<o.2
  ·rw[φ hq]at h;exact⟨0,by simp,q,hq,by simp[sizes],(Option.some.inj h).symm⟩
  ·rw[ξ hq]at h;obtain⟨j,hj,i,h1,h2,h3⟩:=ih h;exact⟨j+1,by simp_all,i,h1,by simp[sizes];omega,h3⟩
theorem XUI(hj:j<L.length)(hi:i<L[j].2):DL L (L[j].1+i)=true:=OK.2 ⟨_,μ hj,by omega,by omega⟩
theorem Qh2(h:AP n L)(q:Nat):(∀k,D0 L q=some k->CV (CZ n L) q=k/\k<n)/\(D0 L q=none->CV (CZ n L) q=n):=by
 refine⟨λk hk=>?_,λhn=>?_⟩
 ·obtain⟨j,hj,i,h1,rfl,rfl⟩:=YKJ hk;have hs:=h.sz _ (μ hj);have hc:=UB h (L[j].1+i) Ω;have ho:=Yhz h hj (i:=i) Ω;obtain⟨e1,e2⟩:=YTa (l:=CZ n L) (k:=L[j].1+i) (q:=sizes (L.take j)+i) (by grind [V3,XUI]) (by grind);omega
 ·have hle:=Jkd.1 hn;have hc:=UB h n (ϑ n);rw[SS h]at hc;have:=Vit (f:=at_ (CZ n L)) (n:=n) (k:=q) Ω;unfold CV
  grind [JY]
theorem Zop(h:AP n L)(k:Int):KP (CZ n L) k=IY L k/\M7 (CZ n L) k=XD L k:=by
 unfold KP M7 IY XD;by_cases hk:k<0
 ·grind
 ·rw[ξ hk,ξ hk,θ Ω,JY];obtain⟨h1,h2⟩:=Qh2 h k.toNat;cases hw:D0 L k.toNat with
  | none=>grind [NI]
  | some x=>grind [IT]
theorem Jw5(hj:j<L.length):CZ n (L.take (j+1))=CP (CZ n (L.take j)) (L[j].1:Nat) ((L[j].1:Int)+(L[j].2:Int)) true:=by
 refine IL (by grind [FM,JY]) (λi hi=>?_);rw[JY]at hi;rw[NX _ _ _ _ _ (by grind [JY])];unfold CZ;rw[JR,JR,θ hi];unfold DL
 grind [ζ4]
theorem ZPf(n:Nat):CZ n []=List.replicate n false:=by
 unfold CZ;exact IL (by simp) (λi hi=>by rw[JR];simp[at_,ξr,DL];split <;> rfl)
def F4(w:World)(F t n B:Nat)(L:List Ob):Prop:=
 AP n L/\t<w.heap.size/\F<=t/\∃v vb x p b a,w.cell? ⟨t,0,none⟩=some (pP v)/\w.cell? ⟨t,1,none⟩=some (pP x)/\BB w v vb (CZ n L)/\Idx w x p b a (CZ n L) B ∧
  F<=v/\F<=vb/\F<=x/\F<=p/\F<=b/\F<=a
theorem F4.touch{t:Nat}(h:F4 w F t n B L)(ht:AB S w w')(hS:∀k,F<=k->k<w.heap.size->¬S k):F4 w' F t n B L:=by
 obtain⟨hg,h1,h2,v,vb,x,p,b,a,c0,c1,hV,hX,k1,k2,k3,k4,k5,k6⟩:=h;exact⟨hg,κ h1 ht.size,h2,v,vb,x,p,b,a,(ht.cell h1 (hS t h2 h1) 0).trans c0,(ht.cell h1 (hS t h2 h1) 1).trans c1,hV.touch ht (hS v k1 hV.hp) (hS vb k2 hV.hb),hX.touch ht (hS x k3 hX.hx) (hS p k4 hX.vec.hp) (hS b k5 hX.vec.hb) (hS a k6 hX.ha),k1,k2,k3,k4,k5,k6⟩
theorem F4.gr{t:Nat}(h:F4 w F t n B L)(g:Gr w w'):F4 w' F t n B L:=h.touch (g.touch (λ_=>False)) (λ_ _ _ h=>h)
section
variable{t:Nat}
theorem VXx(hO:F4 w F t n B L)(hT:AO w)(k:Int):
  A4 prog 284 #[pP t,iI k] w (.tuple #[iI (IY L k),.bool (XD L k)]):=by
 obtain⟨hg,h1,h2,v,vb,x,p,b,a,c0,c1,hV,hX,-⟩:=hO;rw[<-(Zop hg k).1,<-(Zop hg k).2];have HT:=hT;go_enter func284,ntmps284;go_wp2_with(go_at_call 292;refine(Qax hX HT k).mono ?_;rintro e w1 ⟨rfl,hg1⟩);go_ret2
 simp_all
theorem YWi(hO:F4 w F t n B L)(i:Int):A4 prog 219 #[pP t,iI i] w (iI (A8 L 0 i)):=by
 obtain⟨hg,h1,h2,v,vb,x,p,b,a,c0,c1,hV,hX,-⟩:=hO;rw[<-Yht hg];go_enter func219,ntmps219;go_wp2_with(go_at_call 259;refine(Zde hX i).mono ?_;rintro e w1 ⟨rfl,hg1⟩);go_ret
 simp_all
theorem ZaO(hO:F4 w F t n B L)(i:Int):cQ 218 #[pP t,iI i] w (.bool (decide (0<=i)&&DL L i.toNat)):=by
 obtain⟨hg,h1,h2,v,vb,x,p,b,a,c0,c1,hV,hX,-⟩:=hO;rw[<-V3 hg];go_enter func218,ntmps218;go_wp2_with(go_at_call 258;refine(X89 hV i).mono ?_;rintro e w1 ⟨rfl,rfl⟩);go_ret
 simp_all
theorem XcN(hO:F4 w F t n B L):cQ 212 #[pP t] w (iI (sizes L:Nat)):=by
 obtain⟨hg,h1,h2,v,vb,x,p,b,a,c0,c1,hV,hX,-⟩:=hO
 have HL:Hid (cnt (at_ (CZ n L)) (CZ n L).length=sizes L):=⟨by
  have:=UB hg n (ϑ n)
  grind [SS,JY]⟩
 go_enter func212,ntmps212;go_wp2_with(go_at_call 253;refine(ZsP hX).mono ?_;rintro e w1 ⟨rfl,rfl⟩;rw[HL.o]);go_ret
 simp_all
end
section
attribute [local go_sem] Oper.semAt_some
theorem JWx(k:Int)(w:World):cQ 210 #[.pointer none,iI k] w (.tuple #[.pointer none,iI 9]):=by
 refine(δ (n:=5)).1 ?_;refine callsIn_of_wp_marks func210 rfl trivial ?_ rfl;simp only[ntmps210,ζ0,ζu,ξc,Nat.reduceAdd,Nat.reduceSub,ζR,ζQ,ζ5,ζX,ζU,ζC];gi_wp2_with(refine⟨trivial,?_⟩;gi_at_call 125;refine(δ.2 (QOV _)).mono ?_;rintro e w1 ⟨rfl,rfl⟩);refine⟨.tuple #[.pointer none,iI 9],?_,rfl,rfl⟩;simp[results,f210,go_sem]
structure R9(W0:World)(v vb n:Nat)(L:List Ob)(j:Nat)(A:World):Prop where
 t:AB (λi=>i=vb\/W0.heap.size<=i) W0 A
 jl:j<=L.length
 vec:BB A v vb (CZ n (L.take j))
def V4V(w:World)(n:Nat)(L:List Ob)(k:Int)(e:Ending)(w':World):Prop:=
 Gr w w'/\((BL k=false/\e=.returned (.tuple #[.pointer none,iI 5]))\/(BL k=true/\∃t B:Nat,k=B/\e=.returned (.tuple #[pP t,iI 0])/\F4 w' w.heap.size t n B L))
theorem TC{b1 b2:Nat}(hE:Ext w m p1 b1 p2 b2 n L)(hT:AO w)(k:Int)(hk:k<=9223372036854775807):
  Calls prog 210 #[pP m,iI k] w (V4V w n L k):=by
 have HT:=hT;obtain⟨Xr,Xu⟩:=hE.nb;have hn0:((n:Int)==0)=false:=ζD.2 Ω;clear hT;refine(δ (n:=5)).1 ?_;refine callsIn_of_wp_marks func210 rfl trivial ?_ rfl;simp only[ntmps210,ζ0,ζu,ξc,Nat.reduceAdd,Nat.reduceSub,ζR,ζQ,ζ5,ζX,ζU,ζC]
 gi_wp2_with(first
  | (refine⟨trivial,?_⟩;gi_at_call 125;refine(δ.2 (FH hE)).mono ?_;rintro e w1 ⟨rfl,rfl⟩)
  | (refine⟨trivial,?_⟩;gi_at_call 123;refine(δ.2 (V1 n Xr Xu _)).mono ?_;rintro e w1 ⟨v,vb,rfl,G,Xf,hv,Xd⟩;have O:=Xf;have HP:=(ψ hv Xd);clear Xf hv Xd)
  | (refine⟨trivial,?_⟩;gi_at_call 160;refine(δ.2 (KJ (some ⟨m,0,none⟩))).mono ?_;rintro e w2 ⟨rfl,rfl⟩))
 obtain⟨X,hX⟩:∃X,X=w1.heap.size:=⟨_,rfl⟩;obtain⟨W0,J⟩:∃W0,W0=(w1.alloc (.cells #[.pointer (some ⟨v,0,none⟩)] 202)).alloc (.cells #[.pointer (some ⟨m,0,none⟩)] 120):=⟨_,rfl⟩;have M:Gr w1 W0:=by rw[J];exact((Gr.refl w1).alloc _).alloc _
 have hs0:W0.heap.size=X+2:=by rw[J,hX];simp
 have e0:W0.cell? ⟨X,0,none⟩=some (pP v):=by rw[J,hX];exact((Boxed.new w1 _ _).alloc _).cell
 have e1:W0.cell? ⟨X+1,0,none⟩=some (pP m):=by
  rw[J,hX];have:=Boxed.new (w1.alloc (.cells #[.pointer (some ⟨v,0,none⟩)] 202)) 120 (pP m);rw[γ]at this;exact this.cell
 have Xs:=G.size;have Xm:=O.hp;have Xt:=O.hb;have hz4:=HP.1;have hz5:=HP.2;rw[<-hX]at Xs Xm Xt;have o1:=hE.hm;have o2:=hE.v1.hp;have o3:=hE.v1.hb;have o4:=hE.v2.hp;have o5:=hE.v2.hb;have o6:=HT.lt;have Xl:=(G.trans M);have Xp:=(hE.gr (G.trans M));have Xv:=(O.gr M);have V:=hE.good;have E:=(ψ e0 e1);rw[<-J,<-hX];clear J hX M e0 e1;have Xo:R9 W0 v vb n L 0 W0:=⟨AB.refl _ _,ζf _,by show BB W0 v vb (CZ n []);rw[ZPf];exact Xv⟩
 have tI:∀j A B,R9 W0 v vb n L j A->AB (λi=>W0.heap.size<=i) A B->R9 W0 v vb n L j B:=λj A B h t=>
  ⟨h.t.trans (t.mono (λi _ h=>.inr h)),h.jl,h.vec.touch t Ω Ω⟩
 refine TT (s0:=0) rfl Ω (gf:=213) (lb:=#[pP (X+1)]) rfl trivial (enters_of func213 (by kernel_rfl) rfl)
  (Xix _ (X+1) m p1 b1 p2 b2 n L _) (λ_=>rfl)
  (R9 W0 v vb n L) (λ_ _=>False) tI (λ_ _ _ h _=>h)
  (λj A h=>⟨Xp.touch h.t Ω Ω Ω Ω Ω,(Xl.tab HT.lt HT).touch' h.t Ω,(h.t.cell Ω Ω 0).trans E.2,h.jl⟩)
  Xo ?round ?done (λ_ _ _ _ h _=>h.elim)
 case round=>
  intro lp j x W3 hsz3 Y Z;dsimp only[GO];gi_wp2;refine⟨Gr.refl _,λW4 ht4 hI4=>?_⟩
  have I:j<L.length:=by
   rcases υ j L.length with h|h
   ·exact h
   ·unfold ER at Z;rw[ζN h]at Z;cases Z
  obtain rfl:x=L[j]:=by unfold ER at Z;rw[η I]at Z;exact(Option.some.inj Z).symm
  have hsz':=V.sz _ (μ I);have Xw:=(Jw5 (n:=n) I);have c6:=(hI4.t.cell (b:=X) Ω Ω 0).trans E.1;clear Y ht4 Z;gi_wp2_with(refine⟨trivial,?_⟩;gi_at_call 250;refine(CallsIn.inRound lp (δ.2 (XBA hI4.vec _ _ Ω))).mono ?_;rintro e w5 ⟨rfl,Xh,Xk⟩);rw[<-Xw]at Xk;exact⟨Xh.mono (λi _ h=>by have h:i=vb:=h;omega),j+1,rfl,hI4.t.trans (Xh.mono (λi _ h=>.inl h)),by omega,Xk⟩
 case done=>
  rintro D j W3 hD rfl Y hK;have c6:=(Y.t.cell (b:=X) Ω Ω 0).trans E.1;have N:=Y.vec;rw[ξd]at N;have HT3:=Y.t;have HK:=hK;have HD:=hD;have Xc:Gr w W3:=((Xl.touch (λ_=>False)).trans' Y.t (λi hi h=>by omega)).gr;have Xa:=Xc;have hz6:=Y.t.size;clear Y hK hD Xc;cases hb:BL k with
  | false=>
   gi_wp2_with(refine⟨trivial,?_⟩;gi_at_call 251;refine(δ.2 (XFA N k hb hk)).mono ?_;rintro e w4 ⟨rfl,rfl⟩);refine⟨by simp,.inl ⟨_,_,rfl,run_takeDeferred HK,?_⟩⟩;refine⟨.tuple #[.pointer none,iI 5],?_,((Xa.touch (λ_=>False)).trans' (DH _ D _ (ϑ D)) (λi hi h=>by have:=HD;omega)).gr,.inl ⟨hb,rfl⟩⟩;simp[results,f210,go_sem]
  | true=>
   have hbp:=DD hb;obtain⟨B,rfl⟩:∃B:Nat,k=B:=⟨k.toNat,by omega⟩;gi_wp2_with(refine⟨trivial,?_⟩;gi_at_call 251;refine(δ.2 (Zv3 N B hb)).mono ?_;rintro e w4 ⟨x,p,b,a,rfl,U,Xi,Xg,Xb,Xj,Xe⟩;have c64:=(U.cell (AV c6) 0).trans c6;have Xn:=Xi;have HZ4:=(ψ Xg (ψ Xb (ψ Xj Xe)));clear Xi Xg Xb Xj Xe)
   have Xq:(w4.alloc (.cells #[.pointer (some ⟨v,0,none⟩),.pointer (some ⟨x,0,none⟩)] 330)).heap[D]?=some (.deferred (some [])):=
    (((U.alloc _).block (ζs.1 HK).1)).trans HK
   have tt:=((Xa.trans (U.alloc (.cells #[.pointer (some ⟨v,0,none⟩),.pointer (some ⟨x,0,none⟩)] 330))).touch (λ_=>False)).trans' (DH _ D (.deferred none) (ϑ D)) (λi hi h=>by have:=HD;omega);refine⟨by simp,.inl ⟨_,_,rfl,run_takeDeferred Xq,?_⟩⟩;refine⟨.tuple #[pP w4.heap.size,iI 0],?_,tt.gr,.inr ⟨hb,w4.heap.size,B,rfl,rfl,?_⟩⟩
   ·simp[results,f210,go_sem]
   ·have t5:=DW (w4.alloc (.cells #[.pointer (some ⟨v,0,none⟩),.pointer (some ⟨x,0,none⟩)] 330)) D (.deferred none);have hs4:=U.size;have hdl:=(ζs.1 HK).1;have hl:w4.heap.size<(w4.alloc (.cells #[.pointer (some ⟨v,0,none⟩),.pointer (some ⟨x,0,none⟩)] 330)).heap.size:=by rw[γ];omega
    exact⟨V,κ hl t5.size,by omega,v,vb,x,p,b,a,(t5.cell (b:=w4.heap.size) hl Ω 0).trans (ζM ..),(t5.cell (b:=w4.heap.size) hl Ω 1).trans (ζM ..),
     ((N.gr U).gr ((Gr.refl _).alloc _)).touch t5 Ω Ω,(Xn.gr ((Gr.refl _).alloc _)).touch t5 Ω Ω Ω Ω,by omega,by omega,by omega,by omega,by omega,by omega⟩
end
def B7:List Ob->Nat->Nat
 | [],_=>0
 | o :: r,q=>if q<o.2 then 0 else B7 r (q-o.2)+1
theorem VBJ:∀{q:Nat},q<sizes L->∃hj:B7 L q<L.length,∃i,i<(L[B7 L q]'hj).2/\q=sizes (L.take (B7 L q))+i/\D0 L q=some ((L[B7 L q]'hj).1+i):=by
 induction L with
 | nil=>intro q h;simp[sizes]at h
 | cons o r ih=>
  intro q h;by_cases hq:q<o.2
  ·have e:B7 (o :: r) q=0:=φ hq;refine⟨by rw[e];simp,q,?_⟩;simp only[e];exact⟨hq,by simp[sizes],by unfold D0;simp_all⟩
  ·have e:B7 (o :: r) q=B7 r (q-o.2)+1:=ξ hq;unfold sizes at h;obtain⟨hj,i,h1,h2,h3⟩:=ih (q:=q-o.2) Ω;refine⟨by grind,i,?_⟩;simp only[e];exact⟨h1,by simp only[ξN,sizes];omega,by unfold D0;grind⟩
theorem VNq(hj:j<L.length)(hi:i<L[j].2):B7 L (sizes (L.take j)+i)=j:=by
 induction L generalizing j with
 | nil=>simp at hj
 | cons o r ih=>
  cases j with
  | zero=>
   have hi:i<o.2:=hi;simp only[List.take_zero,sizes,ξt,B7]
   simp_all
  | succ j=>
   have:=ih (j:=j) (by grind) (by simp_all);simp only[ξN,sizes,B7]
   grind
theorem Zut(L:List Ob)(j:Nat):sizes (L.take j)<=sizes L:=by
 induction L generalizing j with
 | nil=>simp[sizes]
 | cons o r ih=>
  cases j with
  | zero=>simp[sizes]
  | succ j=>have:=ih j;simp only[ξN,sizes];omega
theorem JX(hj:j<L.length):sizes (L.take j)+L[j].2<=sizes L:=by
 rw[<-FD hj];grind [Zut]
def toV(L:List Ob)(base a:Int):Int:=if A9 L a<L.length then base+A8 L 0 a else 0
def toE(L:List Ob)(a:Int):Int:=if A9 L a<L.length then 0 else 6
theorem SO(h:AP n L)(hj:j<L.length)(h1:(L[j].1:Int)<=a)(h2:a<L[j].1+L[j].2):
  toV L base a=base+sizes (L.take j)+a-(L[j].1:Nat)/\toE L a=0:=by
 have e:=OW h hj h1 h2;have hs:=Yhz h hj (i:=(a-L[j].1).toNat) Ω;rw[show (L[j].1:Int)+((a-L[j].1).toNat:Nat)=a by omega]at hs;unfold toV toE;omega
theorem O7(h:¬A9 L a<L.length):toV L base a=0/\toE L a=6:=by
 unfold toV toE;omega
theorem QFq(a:Int):(decide (0<=a)&&DL L a.toNat)=decide (A9 L a<L.length):=by
 grind [θ,Q5g,ζ,PL]
def inF(L:List Ob)(base b:Int):Bool:=decide (base<=b)&&decide (b<base+(sizes L:Nat))
def CQ(L:List Ob)(base b:Int):Int:=if inF L base b then IY L (b-base)else 0
def NK(L:List Ob)(base b:Int):Int:=if inF L base b then (B7 L (b-base).toNat:Nat)else 0
def FZ(L:List Ob)(base b:Int):Int:=if inF L base b then 0 else 11
theorem FG{b:Int}:inF L base b=true↔base<=b/\b<base+(sizes L:Nat):=by simp[inF]
theorem VF{b:Int}(h:¬(base<=b/\b<base+(sizes L:Nat))):inF L base b=false:=by
 cases e:inF L base b with
 | false=>rfl
 | true=>exact absurd (FG.1 e) h
theorem Z2d(hj:j<L.length)(hi:i<L[j].2):IY L ((sizes (L.take j)+i:Nat):Int)=(L[j].1+i:Nat):=by
 unfold IY;rw[ξ Ω,χ,XEK hj hi];rfl
theorem QCo{b:Int}(hj:j<L.length)(h1:base+(sizes (L.take j):Nat)<=b)(h2:b<base+(sizes (L.take j):Nat)+(L[j].2:Nat)):
  CQ L base b=(L[j].1:Nat)+b-(base+(sizes (L.take j):Nat))/\NK L base b=j/\FZ L base b=0:=by
 have hm:=JX hj;have Y:inF L base b=true:=FG.2 ⟨by omega,by omega⟩;obtain⟨i,hi⟩:∃i:Nat,b-base=((sizes (L.take j)+i:Nat):Int):=⟨(b-base).toNat-sizes (L.take j),by omega⟩;have X:i<L[j].2:=Ω
 unfold CQ NK FZ;rw[Y,φ rfl,φ rfl,φ rfl,hi,Z2d hj X,χ,VNq hj X];omega
theorem MN{b:Int}(h:inF L base b=false):CQ L base b=0/\NK L base b=0/\FZ L base b=11:=by
 unfold CQ NK FZ;simp_all
theorem Zeb(h:AP n L){b:Int}(hb:inF L base b=true):∃j,∃hj:j<L.length,NK L base b=j/\(L[j].1:Int)<=CQ L base b/\CQ L base b<L[j].1+L[j].2/\A9 L (CQ L base b)=j/\FZ L base b=0:=by
 obtain⟨h1,h2⟩:=FG.1 hb;obtain⟨hj,i,hi,e,-⟩:=VBJ (L:=L) (q:=(b-base).toNat) Ω;obtain⟨a1,a2,a3⟩:=QCo (base:=base) (b:=b) hj Ω Ω;refine⟨_,hj,a2,by omega,by omega,OW h hj Ω Ω,a3⟩
theorem Ye3{M:List Ob}(h:∀y∈M,¬o.1<y.1):DE M o=M++[o]:=by
 induction M with
 | nil=>rfl
 | cons y r ih=>
  unfold DE
  grind
theorem Zne(h:AP n L)(hj:j<L.length):C2 (L.take j) n (L[j].1:Nat) (L[j].2:Nat)=L.take (j+1):=by
 have hs:=h.sz _ (μ hj)
 have hle:∀o∈L.take j,o.1+o.2<=L[j].1:=λo ho=>by
  obtain⟨i,hi,X,rfl⟩:=OL ho;exact h.at hi hj X
 have hc:G5 (L.take j) (L[j].1:Nat) (L[j].2:Nat)=false:=by
  cases e:G5 (L.take j) (L[j].1:Nat) (L[j].2:Nat)with
  | false=>rfl
  | true=>obtain⟨o,ho,h1,h2⟩:=SE.1 e;grind
 have he:DA (L.take j) n (L[j].1:Nat) (L[j].2:Nat)=0:=by
  unfold DA;grind
 unfold C2;rw[φ he,χ,χ,Ye3 (λy hy=>by grind),ζ4 hj]
def Fwd(w:World)(F f n B:Nat)(base:Nat)(L:List Ob):Prop:=
 f<w.heap.size/\F<=f/\base<2147483648/\∃t o p1 b1 p2 b2,w.cell? ⟨f,0,none⟩=some (pP t)/\w.cell? ⟨f,1,none⟩=some (pP o)/\w.cell? ⟨f,2,none⟩=some (iI base) ∧
  F4 w F t n B L/\Ext w o p1 b1 p2 b2 n L/\F<=o/\F<=p1/\F<=b1/\F<=p2/\F<=b2
theorem Fwd.touch{f base:Nat}(h:Fwd w F f n B base L)(t:AB S w w')(hS:∀k,F<=k->k<w.heap.size->¬S k):Fwd w' F f n B base L:=by
 obtain⟨h1,h2,h3,tt,o,p1,b1,p2,b2,c0,c1,c2,hO,hE,k1,k2,k3,k4,k5⟩:=h;exact⟨κ h1 t.size,h2,h3,tt,o,p1,b1,p2,b2,(t.cell h1 (hS f h2 h1) 0).trans c0,(t.cell h1 (hS f h2 h1) 1).trans c1,(t.cell h1 (hS f h2 h1) 2).trans c2,hO.touch t hS,hE.touch t (hS _ k1 hE.hm) (hS _ k2 hE.v1.hp) (hS _ k3 hE.v1.hb) (hS _ k4 hE.v2.hp) (hS _ k5 hE.v2.hb),k1,k2,k3,k4,k5⟩
theorem Fwd.gr{f base:Nat}(h:Fwd w F f n B base L)(g:Gr w w'):Fwd w' F f n B base L:=h.touch (g.touch (λ_=>False)) (λ_ _ _ h=>h)
theorem Fwd.good{f base:Nat}(h:Fwd w F f n B base L):AP n L/\n<=1048576:=by
 obtain⟨_,_,_,_,_,_,_,_,_,_,_,_,hO,hE,_⟩:=h;exact⟨hE.good,hE.nb.2⟩
theorem X8(h:AP n L)(hn:n<=1048576)(a:Int):0<=A8 L 0 a/\A8 L 0 a<=1048576:=by
 rw[<-SD h];have:KH L n 0 a<=n:=EJ _ _;omega
section
variable{f base:Nat}
theorem RA(hF:Fwd w F f n B base L)(a:Int):A4 prog 163 #[pP f,iI a] w (.tuple #[iI (toV L base a),iI (toE L a)]):=by
 obtain⟨hg,hn⟩:=hF.good;obtain⟨h1,h2,h3,t,o,p1,b1,p2,b2,c0,c1,c2,hO,hE,-⟩:=hF;have Z:=X8 hg hn a;have hl:=QFq (L:=L) a;by_cases hf:A9 L a<L.length
 ·have HV:Hid (toV L base a=base+A8 L 0 a/\toE L a=0):=⟨by unfold toV toE;omega⟩;have HL:Hid ((decide (0<=a)&&DL L a.toNat)=true):=⟨by simp_all⟩;rw[HV.o.1,HV.o.2];obtain⟨ov,X⟩:∃ov,ov=A8 L 0 a:=⟨_,rfl⟩;rw[<-X]at Z⊢;have J:=X.symm;have z0:∀xs m,(grow w xs m).cell? ⟨f,0,none⟩=some (pP t):=λxs m=>((grown w xs m).cell h1 0).trans c0;have z2:∀xs m,(grow w xs m).cell? ⟨f,2,none⟩=some (iI base):=λxs m=>((grown w xs m).cell h1 2).trans c2;have hwr:IntKind.i64.wrap ((base:Int)+ov)=(base:Int)+ov:=ζw _ Ω;clear hl hf X;unfold A4;go_enter func163,ntmps163;go_wp2_with(go_at_call 218;refine(ZaO hO a).mono ?_;rintro e w1 ⟨rfl,rfl⟩;rw[HL.o]);refine I5 (by kernel_rfl) (by kernel_rfl) ?_
  repeat(go_big_quiet_step ((go_at_call 219;have hc:=λxs m=>YWi (hO.gr (grown w xs m)) a;simp only[J]at hc;exact A4.grown (hc _ _))))
  refine ζd ?_;intro _ U;obtain⟨⟨xs,nq⟩,Y⟩:=U;subst Y;go_wp2;go_ret2;exact⟨rfl,grown w _ _⟩
 ·have HV:=ι (O7 (base:=base) hf);have HL:Hid ((decide (0<=a)&&DL L a.toNat)=false):=⟨by simp_all⟩;rw[HV.o.1,HV.o.2];unfold A4;go_enter func163,ntmps163;go_wp2_with(go_at_call 218;refine(ZaO hO a).mono ?_;rintro e w1 ⟨rfl,rfl⟩;rw[HL.o]);go_ret2;exact⟨rfl,Gr.refl _⟩
theorem ZQ(hF:Fwd w F f n B base L):cQ 220 #[pP f] w (iI base):=by
 obtain⟨h1,h2,h3,t,o,p1,b1,p2,b2,c0,c1,c2,-⟩:=hF;go_enter func220,ntmps220;go_wp2;go_ret
 simp_all
theorem ZY(hF:Fwd w F f n B base L):cQ 193 #[pP f] w (iI (sizes L:Nat)):=by
 obtain⟨h1,h2,h3,t,o,p1,b1,p2,b2,c0,c1,c2,hO,-⟩:=hF;go_enter func193,ntmps193;go_wp2_with(go_at_call 212;refine(XcN hO).mono ?_;rintro e w1 ⟨rfl,rfl⟩);go_ret
 simp_all
theorem NC(hF:Fwd w F f n B base L):A4 prog 159 #[pP f] w (iI ((base:Int)+(sizes L:Nat))):=by
 obtain⟨hg,hn⟩:=hF.good;have hs:=FT hg;obtain⟨h1,h2,h3,t,o,p1,b1,p2,b2,c0,c1,c2,hO,-⟩:=hF;have z0:∀xs m,(grow w xs m).cell? ⟨f,0,none⟩=some (pP t):=λxs m=>((grown w xs m).cell h1 0).trans c0;have z2:∀xs m,(grow w xs m).cell? ⟨f,2,none⟩=some (iI base):=λxs m=>((grown w xs m).cell h1 2).trans c2;have hwr:IntKind.i64.wrap ((base:Int)+(sizes L:Nat))=(base:Int)+(sizes L:Nat):=ζw _ Ω;go_enter func159,ntmps159;go_wp2;refine I5 (by kernel_rfl) (by kernel_rfl) ?_
 repeat(go_big_quiet_step ((go_at_call 212;have hc:=λxs m=>XcN (hO.gr (grown w xs m));exact A4.grown_same (hc _ _))))
 refine ζd ?_;intro _ X;obtain⟨⟨xs,nq⟩,hw''⟩:=X;go_wp2;go_ret;exact⟨rfl,grown w _ _⟩
theorem ND(hF:Fwd w F f n B base L)(hT:AO w)(b:Int)(_hb:b<=9223372036854775807):A4 prog 260 #[pP f,iI b] w (.tuple #[iI (CQ L base b),iI (FZ L base b)]):=by
 obtain⟨hg,hn⟩:=hF.good;have hs:=FT hg;have HF:=hF;obtain⟨h1,h2,h3,t,o,p1,b1,p2,b2,c0,c1,c2,hO,-⟩:=hF;have HO:=hO;by_cases hb1:b<base
 ·have E:=ι (MN (VF (L:=L) (base:=base) (b:=b) Ω));rw[E.o.1,E.o.2.2];unfold A4;go_enter func260,ntmps260;go_wp2;go_ret2;exact⟨rfl,Gr.refl _⟩
 ·by_cases hb2:(base:Int)+(sizes L:Nat)<=b
  ·have E:=ι (MN (VF (L:=L) (base:=base) (b:=b) Ω));rw[E.o.1,E.o.2.2];unfold A4;go_enter func260,ntmps260;go_wp2_with(go_at_call 159;refine(NC HF).mono ?_;rintro e w1 ⟨rfl,X⟩);go_ret2
   simp_all
  ·have hin:inF L base b=true:=FG.2 ⟨by omega,by omega⟩;have E:Hid (CQ L base b=IY L (b-base)/\FZ L base b=0):=⟨by unfold CQ FZ;simp_all⟩;rw[E.o.1,E.o.2];obtain⟨q,hq⟩:∃q,q=b-(base:Int):=⟨_,rfl⟩;have hwr:IntKind.i64.wrap (b-(base:Int))=b-(base:Int):=ζw _ Ω;unfold A4;go_enter func260,ntmps260;go_wp2_with(go_at_call 159;refine(NC HF).mono ?_;rintro e w1 ⟨rfl,X⟩);have z0:∀xs m,(grow w1 xs m).cell? ⟨f,0,none⟩=some (pP t):=λxs m=>((X.trans (grown w1 xs m)).cell h1 0).trans c0;have z2:∀xs m,(grow w1 xs m).cell? ⟨f,2,none⟩=some (iI base):=λxs m=>((X.trans (grown w1 xs m)).cell h1 2).trans c2;refine I5 (by kernel_rfl) (by kernel_rfl) ?_
   repeat(go_big_quiet_step ((go_at_call 284;have hc:=λxs m=>VXx (HO.gr (X.trans (grown w1 xs m))) ((X.trans (grown w1 xs m)).tab hT.lt hT) (b-(base:Int));exact A4.grown (hc _ _))))
   refine ζd ?_;intro _ Z;obtain⟨⟨xs,nq⟩,Y⟩:=Z;subst Y;go_wp2;go_ret2;exact⟨rfl,X.trans (grown w1 _ _)⟩
end
section
attribute [local go_sem] Oper.semAt_some
theorem VEu(k b:Int)(w:World):cQ 158 #[.pointer none,iI k,iI b] w (.tuple #[.pointer none,iI 9]):=by
 refine(δ (n:=5)).1 ?_;refine callsIn_of_wp_marks func158 rfl trivial ?_ rfl;simp only[ntmps158,ζ0,ζu,ξc,Nat.reduceAdd,Nat.reduceSub,ζR,ζQ,ζ5,ζX,ζU,ζC];gi_wp2_with(refine⟨trivial,?_⟩;gi_at_call 210;refine(δ.2 (JWx k _)).mono ?_;rintro e w1 ⟨rfl,rfl⟩);refine⟨.tuple #[.pointer none,iI 9],?_,rfl,rfl⟩;simp[results,f158,go_sem]
structure RM(W0:World)(o p1 b1 p2 b2 n:Nat)(L:List Ob)(j:Nat)(A:World):Prop where
 t:AB (λi=>AR o b1 b2 i\/W0.heap.size<=i) W0 A
 jl:j<=L.length
 ext:Ext A o p1 b1 p2 b2 n (L.take j)
def FY(b:Int):Bool:=decide (0<=b)&&decide (b<2147483648)
def VWZ(w:World)(n:Nat)(L:List Ob)(k b:Int)(e:Ending)(w':World):Prop:=
 Gr w w'/\(((BL k&&FY b)=false/\e=.returned (.tuple #[.pointer none,iI 5]))\/((BL k&&FY b)=true/\∃f B base:Nat,k=B/\b=base/\e=.returned (.tuple #[pP f,iI 0])/\Fwd w' w.heap.size f n B base L))
theorem XJm{b1 b2:Nat}(hE:Ext w m p1 b1 p2 b2 n L)(hT:AO w)(k b:Int)(hk:k<=9223372036854775807)(hbad:(BL k&&FY b)=false):
  Calls prog 158 #[pP m,iI k,iI b] w (VWZ w n L k b):=by
 have HT:=hT;have HB:=hbad;refine(δ (n:=5)).1 ?_;refine callsIn_of_wp_marks func158 rfl trivial ?_ rfl;simp only[ntmps158,ζ0,ζu,ξc,Nat.reduceAdd,Nat.reduceSub,ζR,ζQ,ζ5,ζX,ζU,ζC];cases hok:BL k with
 | false=>
  gi_wp2_with(refine⟨trivial,?_⟩;gi_at_call 210;refine(δ.2 (TC hE HT k hk)).mono ?_;rintro e w1 ⟨X,⟨-,rfl⟩|⟨hb,-⟩⟩;rotate_left;(rw[hok]at hb;cases hb);have Z:=X);refine⟨.tuple #[.pointer none,iI 5],?_,Z,.inl ⟨HB,rfl⟩⟩;simp[results,f158,go_sem]
 | true=>
  rw[hok,ξ2]at hbad;by_cases h0:b<0
  ·gi_wp2_with(refine⟨trivial,?_⟩;gi_at_call 210;refine(δ.2 (TC hE HT k hk)).mono ?_;rintro e w1 ⟨X,⟨hb,-⟩|⟨-,t,B,Y,rfl,hO⟩⟩;(rw[hok]at hb;cases hb));refine⟨.tuple #[.pointer none,iI 5],?_,X,.inl ⟨HB,rfl⟩⟩;simp[results,f158,go_sem]
  ·have h1:2147483648<=b:=by
    unfold FY at hbad;rw[θ Ω,ξ2]at hbad;have:=of_decide_eq_false hbad;omega
   gi_wp2_with(refine⟨trivial,?_⟩;gi_at_call 210;refine(δ.2 (TC hE HT k hk)).mono ?_;rintro e w1 ⟨X,⟨hb,-⟩|⟨-,t,B,Y,rfl,hO⟩⟩;(rw[hok]at hb;cases hb));refine⟨.tuple #[.pointer none,iI 5],?_,X,.inl ⟨HB,rfl⟩⟩;simp[results,f158,go_sem]
theorem WM{b1 b2:Nat}(hE:Ext w m p1 b1 p2 b2 n L)(hT:AO w)(k b:Int)(hk:k<=9223372036854775807):
  Calls prog 158 #[pP m,iI k,iI b] w (VWZ w n L k b):=by
 cases hgo:(BL k&&FY b)with
 | false=>exact XJm hE hT k b hk hgo
 | true=>
  obtain⟨Xf,E⟩:=ζY.1 hgo;have Xg:0<=b/\b<2147483648:=by unfold FY at E;simpa using E
  obtain⟨base,rfl⟩:∃base:Nat,b=base:=⟨b.toNat,by omega⟩;obtain⟨hb0,hb1⟩:=Xg;have d0:decide ((base:Int)<0)=false:=ζ Ω;have d1:decide ((2147483648:Int)<=(base:Int))=false:=ζ Ω;have HO:=Xf;have HE:=hE;have HT:=hT;obtain⟨Xy,Yd⟩:=hE.nb;have hTl:=hT.lt;clear hE hT Xf E;refine(δ (n:=5)).1 ?_;refine callsIn_of_wp_marks func158 rfl trivial ?_ rfl;simp only[ntmps158,ζ0,ζu,ξc,Nat.reduceAdd,Nat.reduceSub,ζR,ζQ,ζ5,ζX,ζU,ζC]
  gi_wp2_with(first
   | (refine⟨trivial,?_⟩;gi_at_call 210;refine(δ.2 (TC HE HT k hk)).mono ?_;rintro e w1 ⟨Xc,⟨hb,-⟩|⟨-,t,B,Xn,rfl,hO⟩⟩;(rw[HO]at hb;cases hb);have Ya:=hO;have Xu:=Xn;clear hO Xn)
   | (refine⟨trivial,?_⟩;gi_at_call 125;refine(δ.2 (FH (HE.gr Xc))).mono ?_;rintro e w2 ⟨rfl,rfl⟩)
   | (refine⟨trivial,?_⟩;gi_at_call 66;refine(δ.2 (OQ n Xy Yd _)).mono ?_;rintro e w2 ⟨o,q1,r1,q2,r2,rfl,Xa,Xm,Xk,Xe,Xo,Xi,Xd⟩;have U:=Xm;have HX:=(ψ Xk (ψ Xe (ψ Xo (ψ Xi Xd))));clear Xm Xk Xe Xo Xi Xd)
   | (refine⟨trivial,?_⟩;gi_at_call 160;refine(δ.2 (KJ (some ⟨m,0,none⟩))).mono ?_;rintro e w3 ⟨rfl,rfl⟩))
  obtain⟨X,hX⟩:∃X,X=w2.heap.size:=⟨_,rfl⟩;obtain⟨W0,V⟩:∃W0,W0=(w2.alloc (.cells #[.pointer (some ⟨o,0,none⟩)] 120)).alloc (.cells #[.pointer (some ⟨m,0,none⟩)] 120):=⟨_,rfl⟩;have I:Gr w2 W0:=by rw[V];exact((Gr.refl w2).alloc _).alloc _
  have hs0:W0.heap.size=X+2:=by rw[V,hX];simp
  have e0:W0.cell? ⟨X,0,none⟩=some (pP o):=by rw[V,hX];exact((Boxed.new w2 _ _).alloc _).cell
  have e1:W0.cell? ⟨X+1,0,none⟩=some (pP m):=by
   rw[V,hX];have:=Boxed.new (w2.alloc (.cells #[.pointer (some ⟨o,0,none⟩)] 120)) 120 (pP m);rw[γ]at this;exact this.cell
  have Xz:=Xc.size;have Xr:=Xa.size;have o1:=HE.hm;have o2:=HE.v1.hp;have o3:=HE.v1.hb;have o4:=HE.v2.hp;have o5:=HE.v2.hb;have j1:=U.hm;have j2:=U.v1.hp;have j3:=U.v1.hb;have j4:=U.v2.hp;have j5:=U.v2.hb;rw[<-hX]at Xr j1 j2 j3 j4 j5;have N:=((Xc.trans Xa).trans I);have Xv:=(HE.gr N);have Yc:=(U.gr I);have Xt:=(Xa.trans I);have M:=HE.good;have Xb:=(ψ e0 e1);have HW1:=(show w.heap.size<=w1.heap.size from Xz);rw[<-V,<-hX];clear V hX I e0 e1;have Y:∀i,AR o r1 r2 i->w1.heap.size<=i/\i<X:=λi h=>by rcases h with rfl|rfl|rfl <;> omega
  have Xs:RM W0 o q1 r1 q2 r2 n L 0 W0:=⟨AB.refl _ _,ζf _,Yc⟩
  have tI:∀j A B,RM W0 o q1 r1 q2 r2 n L j A->AB (λi=>W0.heap.size<=i) A B->RM W0 o q1 r1 q2 r2 n L j B:=λj A B h t=>
   ⟨h.t.trans (t.mono (λi _ h=>.inr h)),h.jl,h.ext.touch t Ω Ω Ω Ω Ω⟩
  refine TT (s0:=0) rfl Ω (gf:=213) (lb:=#[pP (X+1)]) rfl trivial (enters_of func213 (by kernel_rfl) rfl)
   (Xix _ (X+1) m p1 b1 p2 b2 n L _) (λ_=>rfl)
   (RM W0 o q1 r1 q2 r2 n L) (λ_ _=>False) tI (λ_ _ _ h _=>h)
   (λj A h=>⟨Xv.touch h.t (λh=>by rcases h with h|h;have:=Y _ h;omega;omega) (λh=>by rcases h with h|h;have:=Y _ h;omega;omega) (λh=>by rcases h with h|h;have:=Y _ h;omega;omega) (λh=>by rcases h with h|h;have:=Y _ h;omega;omega) (λh=>by rcases h with h|h;have:=Y _ h;omega;omega),
    (N.tab HT.lt HT).touch' h.t (λh=>by rcases h with h|h;have:=Y _ h;omega;omega),(h.t.cell Ω (λh=>by rcases h with h|h;have:=Y _ h;omega;omega) 0).trans Xb.2,h.jl⟩)
   Xs ?round ?done (λ_ _ _ _ h _=>h.elim)
  case round=>
   intro lp j x W3 hsz3 Z J;dsimp only[GO];gi_wp2;refine⟨Gr.refl _,λW4 ht4 hI4=>?_⟩
   have G:j<L.length:=by
    rcases υ j L.length with h|h
    ·exact h
    ·unfold ER at J;rw[ζN h]at J;cases J
   obtain rfl:x=L[j]:=by unfold ER at J;rw[η G]at J;exact(Option.some.inj J).symm
   have hsz':=M.sz _ (μ G);have Ye:=(Zne M G);have c6:=(hI4.t.cell (b:=X) Ω (λh=>by rcases h with h|h;have:=Y _ h;omega;omega) 0).trans Xb.1;have Yb:=((N.tab HT.lt HT).touch' hI4.t (λh=>by rcases h with h|h;have:=Y _ h;omega;omega));clear Z ht4 J;gi_wp2_with(refine⟨trivial,?_⟩;gi_at_call 211;refine(CallsIn.inRound lp (δ.2 (Zc1 hI4.ext Yb _ _))).mono ?_;rintro e w5 ⟨rfl,Xl,Xp⟩);rw[Ye]at Xp;exact⟨Xl.mono (λi _ h=>by have:=Y _ h;omega),j+1,rfl,hI4.t.trans (Xl.mono (λi _ h=>.inl h)),by omega,Xp⟩
  case done=>
   rintro D j W3 hD rfl Z hK;have c6:=(Z.t.cell (b:=X) Ω (λh=>by rcases h with h|h;have:=Y _ h;omega;omega) 0).trans Xb.1;have Xj:=Z.ext;rw[ξd]at Xj;have Xx:=((Xt.touch (λi=>w1.heap.size<=i)).trans' Z.t (λi hi h=>by rcases h with h|h;exact(Y _ h).1;omega));have HK:=hK;have HD:=hD;have Xh:Gr w W3:=((N.touch (λ_=>False)).trans' Z.t (λi hi h=>by rcases h with h|h;have:=Y _ h;omega;omega)).gr;have Xq:=Xh;have hz6:=Z.t.size;clear Z hK hD Xh;gi_wp2;obtain⟨O,hO⟩:∃O:Obj,O=.cells #[pP t,pP o,iI base] 295:=⟨_,rfl⟩;rw[<-hO];have Xw:(W3.alloc O).heap[D]?=some (.deferred (some [])):=(((Gr.refl W3).alloc _).block (ζs.1 HK).1).trans HK;have tt:=((Xq.alloc O).touch (λ_=>False)).trans' (DH _ D (.deferred none) (ϑ D)) (λi hi h=>by have:=HD;have:=N.size;omega);refine⟨by simp,.inl ⟨_,_,rfl,run_takeDeferred Xw,?_⟩⟩;refine⟨.tuple #[pP W3.heap.size,iI 0],?_,tt.gr,.inr ⟨hgo,W3.heap.size,B,base,Xu,rfl,rfl,?_⟩⟩
   ·simp[results,f158,go_sem]
   ·have t5:=DW (W3.alloc O) D (.deferred none);have hdl:=(ζs.1 HK).1;have hl:W3.heap.size<(W3.alloc O).heap.size:=by rw[γ];omega
    subst hO
    exact⟨κ hl t5.size,by omega,by omega,t,o,q1,r1,q2,r2,(t5.cell (b:=W3.heap.size) hl Ω 0).trans (ζM ..),(t5.cell (b:=W3.heap.size) hl Ω 1).trans (ζM ..),(t5.cell (b:=W3.heap.size) hl Ω 2).trans (ζM ..),
     Ya.touch ((Xx.trans (((Gr.refl W3).alloc _).touch _)).trans' t5 (λi hi h=>by omega)) (λk _ h1 h2=>by omega),(Xj.gr ((Gr.refl _).alloc _)).touch t5 Ω Ω Ω Ω Ω,by omega,by omega,by omega,by omega,by omega⟩
end
end Go.Proofs.YtbdimhlaaoadgaaGreatDoor
