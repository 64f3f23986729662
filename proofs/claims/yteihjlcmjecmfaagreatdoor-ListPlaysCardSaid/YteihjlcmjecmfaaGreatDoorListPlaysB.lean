/- Part 2 of what ListPlays leans on: my own lemmas, merged by shake.py. -/
import Derived.Test.YteihjlcmjecmfaaGreatDoorListPlaysA
import Derived.Laws.OwnMore
namespace Go.Proofs.YteihjlcmjecmfaaGreatDoor
open _root_.Go.Proofs.Tryz
set_option maxHeartbeats 3200000
set_option maxRecDepth 100000
open Go.RowKit Word
abbrev Ob:=Nat×Nat
structure AO(n:Nat)(L:List Ob):Prop where
 pw:L.Pairwise (λo q=>o.1+o.2<=q.1)
 sz:∀o∈L,1<=o.2/\o.1+o.2<=n
theorem AO.nil(n:Nat):AO n []:=⟨List.Pairwise.nil,λ_ h=>by cases h⟩
theorem AO.at{n:Nat}{L:List Ob}(h:AO n L){i j:Nat}(hi:i<L.length)(hj:j<L.length)(hij:i<j):L[i].1+L[i].2<=L[j].1:=List.pairwise_iff_getElem.1 h.pw i j hi hj hij
theorem AO.disj{n:Nat}{L:List Ob}(h:AO n L){o q:Ob}(ho:o∈L)(hq:q∈L):o=q\/o.1+o.2<=q.1\/q.1+q.2<=o.1:=by
 obtain⟨i,hi,rfl⟩:=ζr ho;obtain⟨j,hj,rfl⟩:=ζr hq;rcases ζU i j with X|rfl|X
 ·exact .inr (.inl (h.at hi hj X))
 ·simp_all
 ·exact .inr (.inr (h.at hj hi X))
theorem AO.len{n:Nat}:∀{L:List Ob},AO n L->L.length<=n:=by
 intro L h
 have X:∀(L:List Ob),L.Pairwise (λo q=>o.1+o.2<=q.1)->(∀o∈L,1<=o.2/\o.1+o.2<=n)->∀a,a<=n->(∀o∈L,a<=o.1)->a+L.length<=n:=by
  intro L
  induction L with
  | nil=>simp_all
  | cons o r ih=>
   intro hp hs a ha hl;obtain⟨h1,h2⟩:=ξe.1 hp;have ho:=hs o (ζq ..);have:=ih h2 (λq hq=>hs q (ζA _ hq)) (o.1+o.2) ho.2 (λq hq=>h1 q hq)
   grind
 have:=X L h.pw h.sz 0 (ζe _) (λ_ _=>ζe _);omega
def BZ(n:Nat)(L:List Ob):List Bool:=(List.range n).map λi=>L.any λo=>o.1==i
def EA(n:Nat)(L:List Ob):List Bool:=(List.range n).map λi=>L.any λo=>o.1+o.2==i+1
theorem IL(n:Nat)(L:List Ob):(BZ n L).length=n:=by simp[BZ]
theorem PU(n:Nat)(L:List Ob):(EA n L).length=n:=by simp[EA]
theorem JI(f:Nat->Bool)(n i:Nat):at_ ((List.range n).map f) i=(decide (i<n)&&f i):=by
 unfold at_
 grind
theorem JX{n:Nat}{L:List Ob}(h:AO n L)(i:Nat):at_ (BZ n L) i=true↔∃o∈L,o.1=i:=by
 unfold BZ;rw[JI];simp only[ζd,ζf,ξ5,ζ0];constructor
 ·simp_all
 ·rintro⟨o,ho,rfl⟩;have:=h.sz o ho;grind
theorem SC{n:Nat}{L:List Ob}(h:AO n L)(i:Nat):at_ (EA n L) i=true↔∃o∈L,o.1+o.2=i+1:=by
 unfold EA;rw[JI];simp only[ζd,ζf,ξ5,ζ0];constructor
 ·simp_all
 ·rintro⟨o,ho,e⟩;have:=h.sz o ho;grind
theorem Zox{n:Nat}{L:List Ob}(h:AO n L){o:Ob}(ho:o∈L):BR (EA n L) (o.1:Int)=o.1+o.2-1/\o.1+o.2-1<(EA n L).length:=by
 have hs:=h.sz o ho
 have:=VuI (l:=EA n L) (a:=(o.1:Int)) (k:=o.1+o.2-1) (λi hi hc=>by
  obtain⟨q,hq,e⟩:=(SC h i).1 hc.1
  rcases h.disj ho hq with rfl|hd|hd <;> omega) ((SC h _).2 ⟨o,ho,by omega⟩) Ω
 omega
def BA(L:List Ob)(a:Int):Nat:=L.findIdx λo=>decide (a<=o.1)
theorem N6(L:List Ob)(a:Int):BA L a<=L.length:=List.findIdx_le_length
theorem K8{L:List Ob}{a:Int}{i:Nat}(h:i<BA L a)(hi:i<L.length):(L[i].1:Int)<a:=by
 have:=List.not_of_lt_findIdx h
 simp_all
theorem MF{L:List Ob}{a:Int}(h:BA L a<L.length):a<=(L[BA L a]'h).1:=by
 have:=List.findIdx_getElem (p:=λo:Ob=>decide (a<=(o.1:Int))) (w:=h);simp only[ζf]at this;exact this
theorem L5{L:List Ob}{a:Int}{j:Nat}(hj:j<=L.length)(hn:∀i (hi:i<L.length),i<j->(L[i].1:Int)<a)(hy:∀h:j<L.length,a<=(L[j].1:Int)):BA L a=j:=by
 rcases ζU (BA L a) j with h|h|h
 ·have h1:=MF (L:=L) (a:=a) Ω
  grind
 ·exact h
 ·have X:j<L.length:=by grind [N6]
  have h1:=K8 h X
  grind
theorem NF{n:Nat}{L:List Ob}(h:AO n L){a:Int}(hj:BA L a<L.length):BR (BZ n L) a=(L[BA L a]).1/\BR (BZ n L) a<(BZ n L).length:=by
 have hy:=MF hj;refine VuI (λi hi hc=>?_) ((JX h _).2 ⟨_,χ hj,rfl⟩) Ω;obtain⟨q,hq,e⟩:=(JX h i).1 hc.1;obtain⟨k,hk,rfl⟩:=ζr hq;rcases ζU k (BA L a)with X|rfl|X
 ·have:=K8 X hk;omega
 ·omega
 ·have:=h.at hj hk X;omega
theorem WE{n:Nat}{L:List Ob}(h:AO n L){a:Int}(hj:¬BA L a<L.length):BR (BZ n L) a=(BZ n L).length:=by
 grind [XoQ,JX,ζr,K8]
theorem X1z{n:Nat}{L:List Ob}(h:AO n L){j:Nat}(hj:j<L.length):BA L ((L[j].1:Int)+(L[j].2:Int))=j+1:=by
 refine L5 Ω (λi hi hij=>?_) (λh2=>?_)
 ·have hs:=h.sz _ (χ hj);rcases ω i j with h1|h1
  ·have:=h.at hi hj h1;omega
  grind
 ·have:=h.at hj h2 (ξo j);omega
def RV(a:Int)(o:Ob):Bool:=decide ((o.1:Int)<=a/\a<o.1+o.2)
def A7(L:List Ob)(a:Int):Nat:=L.findIdx (RV a)
theorem JtS(L:List Ob)(a:Int):A7 L a<=L.length:=List.findIdx_le_length
theorem II{L:List Ob}{a:Int}(h:A7 L a<L.length):((L[A7 L a]'h).1:Int)<=a/\a<(L[A7 L a]'h).1+(L[A7 L a]'h).2:=by
 have:=List.findIdx_getElem (p:=RV a) (w:=h);simp only[RV,ζf]at this;exact this
theorem WU{L:List Ob}{a:Int}{i:Nat}(h:i<A7 L a)(hi:i<L.length):¬((L[i].1:Int)<=a/\a<L[i].1+L[i].2):=by
 have:=List.not_of_lt_findIdx h;simpa[RV]using this
theorem OE{n:Nat}{L:List Ob}(h:AO n L){a:Int}{j:Nat}(hj:j<L.length)(h1:(L[j].1:Int)<=a)(h2:a<L[j].1+L[j].2):A7 L a=j:=by
 rcases ζU (A7 L a) j with X|he|X
 ·have hy:=II (L:=L) (a:=a) Ω;have:=h.at (i:=A7 L a) Ω hj X;omega
 ·exact he
 ·exact absurd ⟨h1,h2⟩ (WU X hj)
theorem OV{L:List Ob}{a:Int}(h:∀o∈L,¬((o.1:Int)<=a/\a<o.1+o.2)):A7 L a=L.length:=by
 rcases ω (A7 L a) L.length with h1|h1
 ·exact absurd (II h1) (h _ (χ h1))
 grind [JtS]
theorem XA1{n:Nat}{L:List Ob}(h:AO n L)(a:Int):(EL (BZ n L) (a+1) = -1/\∀o∈L,a<(o.1:Int))\/∃j,∃hj:j<L.length,EL (BZ n L) (a+1)=(L[j].1:Int)/\(L[j].1:Int)<=a/\∀i (hi:i<L.length),j<i->a<(L[i].1:Int):=by
 have hx:=N6 L (a+1);rcases ζB (BA L (a+1))with h0|h0
 ·left
  have Y:∀o∈L,a<(o.1:Int):=λo ho=>by
   obtain⟨k,hk,rfl⟩:=ζr ho;have hy:=MF (L:=L) (a:=a+1) Ω;rcases ζB k with rfl|J
   ·grind
   ·have:=h.at (i:=0) (j:=k) Ω hk J
    grind
  grind [Xaz,JX]
 ·right;obtain⟨j,hj⟩:∃j,BA L (a+1)=j+1:=⟨BA L (a+1)-1,by omega⟩;have X:j<L.length:=Ω
  have h1:=K8 (L:=L) (a:=a+1) (i:=j) Ω X
  have Y:∀i (hi:i<L.length),j<i->a<(L[i].1:Int):=λi hi hij=>by
   have hy:=MF (L:=L) (a:=a+1) Ω;rcases ω (BA L (a+1)) i with h2|h2
   ·have:=h.at (i:=BA L (a+1)) Ω hi h2;omega
   grind
  refine⟨j,X,YBm (λi hij hc=>?_) ((JX h _).2 ⟨_,χ X,rfl⟩) Ω,by omega,Y⟩;obtain⟨q,hq,e⟩:=(JX h i).1 hc.1;obtain⟨k,hk,rfl⟩:=ζr hq;rcases ζU k j with Z|rfl|Z
  ·have:=h.at hk X Z;omega
  ·omega
  grind
def DM(L:List Ob)(i:Nat):Bool:=L.any λo=>decide (o.1<=i/\i<o.1+o.2)
theorem N3{L:List Ob}{i:Nat}:DM L i=true↔∃o∈L,o.1<=i/\i<o.1+o.2:=by simp[DM]
theorem Q5g{L:List Ob}{i:Nat}:DM L i=decide (A7 L (i:Int)<L.length):=by
 by_cases h:A7 L (i:Int)<L.length
 ·rw[θ h];have:=II h;exact N3.2 ⟨_,χ h,by omega,by omega⟩
 ·rw[φ h];cases hb:DM L i with
  | false=>rfl
  | true=>
   obtain⟨o,ho,h1,h2⟩:=N3.1 hb;obtain⟨k,hk,rfl⟩:=ζr ho;exact absurd ⟨by omega,by omega⟩ (WU (L:=L) (a:=(i:Int)) (i:=k) Ω hk)
def J2(L:List Ob)(n:Nat)(f t:Int):Nat:=cnt (λi=>decide (f<=(i:Nat)/\((i:Nat):Int)<t)&&DM L i) n
def C3(o:Ob)(f t:Int):Int:=max 0 (min (o.1+o.2:Int) t-max (o.1:Int) f)
def A6(L:List Ob)(f t:Int):Int:=(L.map λo=>C3 o f t).sum
theorem SI(a b n:Nat)(h1:a<=b)(h2:b<=n):cnt (λi=>decide (a<=i/\i<b)) n=b-a:=by
 induction n generalizing b with
 | zero=>rw[LC];omega
 | succ n ih=>
  rw[CR];rcases ω n b with h|h
  ·have e:cnt (λi=>decide (a<=i/\i<b)) n=cnt (λi=>decide (a<=i/\i<b-1)) n\/a=b:=by
    by_cases X:a=b
    ·exact .inr X
    ·exact .inl (CT (λi hi=>ξJ.2 Ω))
   rcases e with e|e
   ·by_cases X:a=b
    ·subst X;rw[GZ (λi _=>φ Ω),φ Ω];simp
    ·rw[e,ih (b-1) Ω Ω,θ Ω];simp;omega
   ·subst e;rw[GZ (λi _=>φ Ω),φ Ω];simp
  simp_all
theorem XFd(n:Nat)(f t:Int):J2 [] n f t=0:=GZ (λi _=>by simp[DM])
theorem X5c{n:Nat}{o:Ob}(ho:o.1+o.2<=n)(f t:Int):((cnt (λi=>decide (f<=(i:Nat)/\((i:Nat):Int)<t)&&decide (o.1<=i/\i<o.1+o.2)) n:Nat):Int)=C3 o f t:=by
 unfold C3;by_cases h:max (o.1:Int) f<min (o.1+o.2:Int) t
 ·have e:cnt (λi=>decide (f<=(i:Nat)/\((i:Nat):Int)<t)&&decide (o.1<=i/\i<o.1+o.2)) n=cnt (λi=>decide ((max (o.1:Int) f).toNat<=i/\i<(min (o.1+o.2:Int) t).toNat)) n:=
   CT (λi _=>by grind)
  rw[e,SI _ _ _ Ω Ω];omega
 grind [GZ,Bool.decide_and,φ]
theorem Q3{n:Nat}:∀{L:List Ob},AO n L->∀(f t:Int),((J2 L n f t:Nat):Int)=A6 L f t:=by
 intro L
 induction L with
 | nil=>intro _ f t;rw[XFd];rfl
 | cons o r ih=>
  intro h f t;obtain⟨h1,h2⟩:=ξe.1 h.pw;have hr:AO n r:=⟨h2,λq hq=>h.sz q (ζA _ hq)⟩;have ho:=h.sz o (ζq ..)
  have hs:=LT (f:=λi=>decide (f<=(i:Nat)/\((i:Nat):Int)<t)&&decide (o.1<=i/\i<o.1+o.2)) (g:=λi=>decide (f<=(i:Nat)/\((i:Nat):Int)<t)&&DM r i) (λi=>by
   by_cases hc:o.1<=i/\i<o.1+o.2
   ·have:DM r i=false:=by
     cases hb:DM r i with
     | false=>rfl
     | true=>obtain⟨q,hq,h3,h4⟩:=N3.1 hb;grind
    simp_all
   grind) n
  have e:J2 (o :: r) n f t=cnt (λi=>(decide (f<=(i:Nat)/\((i:Nat):Int)<t)&&decide (o.1<=i/\i<o.1+o.2))||(decide (f<=(i:Nat)/\((i:Nat):Int)<t)&&DM r i)) n:=
   CT (λi _=>by rw[<-Bool.and_or_distrib_left];rfl)
  rw[e,hs,Int.natCast_add,X5c ho.2];have:=ih hr f t;unfold J2 at this;rw[this];simp[A6]
theorem YSu(L M:List Ob)(f t:Int):A6 (L++M) f t=A6 L f t+A6 M f t:=by simp[A6]
theorem XLs{o:Ob}{f t:Int}(h:(o.1+o.2:Int)<=f\/t<=o.1):C3 o f t=0:=by unfold C3;omega
theorem QU{L:List Ob}{f t:Int}(h:∀o∈L,(o.1+o.2:Int)<=f\/t<=o.1):A6 L f t=0:=by
 induction L with
 | nil=>rfl
 | cons o r ih=>
  have:=ih (λq hq=>h q (ζA _ hq));have h2:=XLs (h o (ζq ..));simp only[A6,ξG,List.sum_cons]at this⊢;omega
theorem US{L:List Ob}{j:Nat}(hj:j<L.length)(f t:Int):A6 (L.take (j+1)) f t=A6 (L.take j) f t+C3 L[j] f t:=by
 rw[ζY hj,YSu];simp[A6]
theorem TJ(L:List Ob)(j:Nat)(f t:Int):A6 L f t=A6 (L.take j) f t+A6 (L.drop j) f t:=by
 rw[<-YSu,ψq]
theorem N4{L:List Ob}{j:Nat}{o:Ob}(h:o∈L.take j):∃i,∃hi:i<L.length,i<j/\L[i]=o:=by
 grind [ζr,List.length_take]
theorem JEg{L:List Ob}{j:Nat}{o:Ob}(h:o∈L.drop j):∃i,∃hi:i<L.length,j<=i/\L[i]=o:=by
 grind [ζr,List.length_drop]
theorem Vth{n:Nat}{L:List Ob}(h:AO n L){f t:Int}:
  A6 (L.take (BA L f)) f t=if A7 L f<L.length/\(L[A7 L f]?.getD (0,0)).1<f/\f<t then min ((L[A7 L f]?.getD (0,0)).1+(L[A7 L f]?.getD (0,0)).2:Int) t-f else 0:=by
 by_cases X:A7 L f<L.length
 ·have hy:=II X;have hg:L[A7 L f]?.getD (0,0)=L[A7 L f]:=by rw[ζb X];rfl
  rw[hg];by_cases hlt:(L[A7 L f].1:Int)<f
  ·have hn:BA L f=A7 L f+1:=L5 Ω (λi hi Y=>by
    rcases ω i (A7 L f)with h1|h1
    ·have:=h.at hi X h1;omega
    ·have:i=A7 L f:=Ω
     subst this;omega) (λh2=>by have:=h.at X h2 (ξo _);omega)
   rw[hn,US X,QU (λo ho=>by
    obtain⟨i,hi,Y,rfl⟩:=N4 ho
    have:=h.at hi X Y;left;omega)]
   by_cases hft:f<t
   ·unfold C3;omega
   ·unfold C3;omega
  ·rw[κ Ω];refine QU (λo ho=>?_);obtain⟨i,hi,Y,rfl⟩:=N4 ho;have h1:=K8 Y hi;rcases ζU i (A7 L f)with h2|rfl|h2
   ·have:=h.at hi X h2;left;omega
   ·omega
   ·have:=h.at X hi h2;omega
 ·rw[κ Ω];refine QU (λo ho=>?_);obtain⟨i,hi,Y,rfl⟩:=N4 ho;have h1:=K8 Y hi;have h2:=WU (L:=L) (a:=f) (i:=i) Ω hi;left;omega
theorem WP{n:Nat}{L:List Ob}(h:AO n L){j:Nat}{f t:Int}(hj:∀hl:j<L.length,t<=(L[j].1:Int)):A6 (L.drop j) f t=0:=by
 refine QU (λo ho=>?_);obtain⟨i,hi,hij,rfl⟩:=JEg ho;right;have:=hj Ω;rcases ω j i with h1|h1
 ·have:=h.at (i:=j) Ω hi h1;omega
 grind
theorem JAq{n:Nat}{L:List Ob}(h:AO n L)(f t:Int):A6 L (max f 0) (min t n)=A6 L f t:=by
 unfold A6;congr 1;refine ξI (λo ho=>?_);have:=h.sz o ho;unfold C3;omega
def sizes:List Ob->Nat
 | []=>0
 | o :: r=>o.2+sizes r
def DZ:List Ob->Nat->Option Nat
 | [],_=>none
 | o :: r,k=>if k<o.2 then some (o.1+k)else DZ r (k-o.2)
def IW(L:List Ob)(k:Int):Int:=if k<0 then 0 else ((DZ L k.toNat).getD 0:Nat)
def V5(L:List Ob)(k:Int):Bool:=decide (0<=k)&&(DZ L k.toNat).isSome
theorem Jkd{L:List Ob}:∀{k:Nat},DZ L k=none↔sizes L<=k:=by
 induction L with
 | nil=>simp[DZ,sizes]
 | cons o r ih=>
  intro k;unfold DZ sizes
  grind
theorem FF{L:List Ob}{j:Nat}(hj:j<L.length):sizes (L.take (j+1))=sizes (L.take j)+L[j].2:=by
 induction L generalizing j with
 | nil=>simp at hj
 | cons o r ih=>
  cases j with
  | zero=>simp[sizes]
  | succ j=>
   have:=ih (j:=j) (by simp_all);simp only[ξH,sizes,ψm]at this⊢;omega
theorem XEK{L:List Ob}{j i:Nat}(hj:j<L.length)(hi:i<L[j].2):DZ L (sizes (L.take j)+i)=some (L[j].1+i):=by
 induction L generalizing j with
 | nil=>simp at hj
 | cons o r ih=>
  cases j with
  | zero=>
   have hi:i<o.2:=hi;simp only[List.take_zero,sizes,ξs,DZ,ψl]
   simp_all
  | succ j=>
   have:=ih (j:=j) (by grind) (by simp_all);simp only[ξH,sizes,ψm,DZ]
   grind
theorem RI{n:Nat}{L:List Ob}(h:AO n L):A6 L 0 n=sizes L:=by
 have X:∀(L:List Ob),(∀o∈L,1<=o.2/\o.1+o.2<=n)->A6 L 0 n=sizes L:=by
  intro L
  induction L with
  | nil=>intro _;rfl
  | cons o r ih=>
   intro hs;have h1:=ih (λq hq=>hs q (ζA _ hq));have ho:=hs o (ζq ..);have h2:C3 o 0 n=o.2:=by unfold C3;omega
   simp only[A6,ξG,List.sum_cons,sizes]at h1⊢;omega
 exact X L h.sz
theorem Yhz{n:Nat}{L:List Ob}(h:AO n L){j i:Nat}(hj:j<L.length)(hi:i<=L[j].2):A6 L 0 ((L[j].1:Int)+i)=sizes (L.take j)+i:=by
 rw[TJ L (j+1),WP h (j:=j+1) (λhl=>by have:=h.at hj hl (ξo _);omega),US hj]
 have hg:AO L[j].1 (L.take j):=⟨h.pw.sublist (List.take_sublist ..),λo ho=>by
  obtain⟨q,hq,X,rfl⟩:=N4 ho;have:=h.at hq hj X
  exact⟨(h.sz _ (χ hq)).1,this⟩⟩
 have e:A6 (L.take j) 0 ((L[j].1:Int)+i)=A6 (L.take j) 0 (L[j].1:Nat):=by
  unfold A6;congr 1;refine ξI (λo ho=>?_);have:=hg.sz o ho;unfold C3;omega
 rw[e,RI hg];unfold C3;omega
theorem FW{n:Nat}{L:List Ob}(h:AO n L):sizes L<=n:=by
 have h1:=RI h;have h2:=Q3 h 0 n;have h3:J2 L n 0 n<=n:=EG _ _;omega
def DF:List Ob->Ob->List Ob
 | [],o=>[o]
 | q :: r,o=>if o.1<q.1 then o :: q :: r else q :: DF r o
theorem GH{L:List Ob}{o x:Ob}:x∈DF L o↔x=o\/x∈L:=by
 induction L with
 | nil=>simp[DF]
 | cons q r ih=>
  unfold DF
  grind
theorem YKx(L:List Ob)(o:Ob):(DF L o).length=L.length+1:=by
 induction L with
 | nil=>rfl
 | cons q r ih=>unfold DF;grind
theorem QO{n:Nat}{L:List Ob}(h:AO n L){o:Ob}(h1:1<=o.2)(h2:o.1+o.2<=n)(hd:∀q∈L,o.1+o.2<=q.1\/q.1+q.2<=o.1):AO n (DF L o):=by
 refine⟨?_,λx hx=>?_⟩
 ·have X:∀(L:List Ob),L.Pairwise (λo q=>o.1+o.2<=q.1)->(∀q∈L,1<=q.2)->(∀q∈L,o.1+o.2<=q.1\/q.1+q.2<=o.1)->(DF L o).Pairwise (λo q=>o.1+o.2<=q.1):=by
   intro L
   induction L with
   | nil=>simp[DF]
   | cons q r ih=>
    intro hp hs hd;obtain⟨hp1,Y⟩:=ξe.1 hp;have hq:=hd q (ζq ..);have hqs:=hs q (ζq ..);unfold DF
    split
    ·rename_i hlt;refine ξe.2 ⟨λx hx=>?_,hp⟩
     grind
    ·rename_i hlt;refine ξe.2 ⟨λx hx=>?_,ih Y (λx hx=>hs x (ζA _ hx)) (λx hx=>hd x (ζA _ hx))⟩;rcases GH.1 hx with rfl|hx
     ·omega
     grind
  exact X L h.pw (λq hq=>(h.sz q hq).1) hd
 ·rcases GH.1 hx with rfl|hx
  ·omega
  ·exact h.sz x hx
theorem WC{a b:Bool}(h:a=true↔b=true):a=b:=ψa.2 h
theorem XZ{l:List Bool}{k i:Nat}{x:Bool}(hk:k<l.length):at_ (l.set k x) i=if i=k then x else at_ l i:=QV l k i x hk
theorem Yfk{n:Nat}{L:List Ob}(h:AO n L){o:Ob}(h1:1<=o.2)(h2:o.1+o.2<=n)(hd:∀q∈L,o.1+o.2<=q.1\/q.1+q.2<=o.1):BZ n (DF L o)=(BZ n L).set o.1 true:=
 IH (by grind [ν,IL]) (λi _=>by
  rw[XZ (by rw[IL];omega)];refine WC ?_;rw[JX (QO h h1 h2 hd)]
  split
  ·rename_i e;subst e;exact⟨λ_=>rfl,λ_=>⟨o,GH.2 (.inl rfl),rfl⟩⟩
  ·rename_i e;rw[JX h];constructor
   ·rintro⟨q,hq,rfl⟩;rcases GH.1 hq with rfl|hq
    ·omega
    grind
   ·rintro⟨q,hq,rfl⟩;exact⟨q,GH.2 (.inr hq),rfl⟩)
theorem Y48{n:Nat}{L:List Ob}(h:AO n L){o:Ob}(h1:1<=o.2)(h2:o.1+o.2<=n)(hd:∀q∈L,o.1+o.2<=q.1\/q.1+q.2<=o.1):EA n (DF L o)=(EA n L).set (o.1+o.2-1) true:=
 IH (by grind [ν,PU]) (λi _=>by
  rw[XZ (by rw[PU];omega)];refine WC ?_;rw[SC (QO h h1 h2 hd)]
  split
  ·rename_i e;exact⟨λ_=>rfl,λ_=>⟨o,GH.2 (.inl rfl),by omega⟩⟩
  ·rename_i e;rw[SC h];constructor
   ·rintro⟨q,hq,e2⟩;rcases GH.1 hq with rfl|hq
    ·omega
    grind
   ·rintro⟨q,hq,e2⟩;exact⟨q,GH.2 (.inr hq),e2⟩)
def G4(L:List Ob)(s z:Int):Bool:=L.any λo=>decide ((o.1:Int)<s+z/\s<o.1+o.2)
theorem Q4{L:List Ob}{s z:Int}:G4 L s z=true↔∃o∈L,(o.1:Int)<s+z/\s<o.1+o.2:=by simp[G4]
theorem V3K{n:Nat}{L:List Ob}(h:AO n L){s z:Int}(hz:1<=z):G4 L s z=(decide (A7 L s<L.length)||(decide (BA L s<L.length)&&decide (((L[BA L s]?.getD (0,0)).1:Int)<s+z))):=by
 refine WC ?_;rw[Q4];simp only[ζW,ζd,ζf];constructor
 ·rintro⟨o,ho,h1,h2⟩;by_cases hs:(o.1:Int)<=s
  ·grind [ζr,OE]
  ·right;obtain⟨j,hj,rfl⟩:=ζr ho
   have hn:BA L s<=j:=by
    rcases ω j (BA L s)with X|Y
    ·have:=K8 X hj;omega
    ·exact Y
   refine⟨by omega,?_⟩;rw[ζb Ω]
   show (L[BA L s].1:Int)<s+z
   rcases ω (BA L s) j with X|Y
   ·have:=h.at (i:=BA L s) Ω hj X;omega
   grind
 ·rintro(hf|⟨hn,hl⟩)
  ·have:=II hf
   grind
  ·rw[ζb hn]at hl;have hl:(L[BA L s].1:Int)<s+z:=hl;have hy:=MF hn;have:=(h.sz _ (χ hn)).1
   grind
def C9(L:List Ob)(n:Nat)(s z:Int):Int:=if z<1 then 15 else if s<0\/(n:Int)<=s\/(n:Int)-s<z then 11 else if G4 L s z then 7 else 0
def C0(L:List Ob)(n:Nat)(s z:Int):List Ob:=if C9 L n s z=0 then DF L (s.toNat,z.toNat)else L
theorem YLm{L:List Ob}{n:Nat}{s z:Int}(h:C9 L n s z=0):1<=z/\0<=s/\s+z<=n/\G4 L s z=false:=by
 unfold C9 at h
 grind
theorem XCZ{L:List Ob}{s z:Int}(hs:0<=s)(hz:1<=z)(h:G4 L s z=false):∀q∈L,s.toNat+z.toNat<=q.1\/q.1+q.2<=s.toNat:=λq hq=>by
 by_cases hc:(q.1:Int)<s+z/\s<q.1+q.2
 ·have:=Q4.2 ⟨q,hq,hc⟩;simp_all
 ·omega
theorem V9U{n:Nat}{L:List Ob}(h:AO n L)(s z:Int):AO n (C0 L n s z):=by
 unfold C0
 split
 ·rename_i he;obtain⟨h1,h2,h3,h4⟩:=YLm he;exact QO h Ω Ω (XCZ h2 h1 h4)
 ·exact h
theorem V9f(n:Nat):BZ n []=List.replicate n false:=by unfold BZ;exact IH (by simp) (λi hi=>by rw[JI];simp[at_,δ,ξd];split <;> rfl)
theorem YM(n:Nat):EA n []=List.replicate n false:=by unfold EA;exact IH (by simp) (λi hi=>by rw[JI];simp[at_,δ,ξd];split <;> rfl)
def Rec(w:World)(q T:Nat)(xs:List Value):Prop:=w.ownsRow 0 T xs.length (.slice (some ⟨q,0,none⟩) 1 1) 1 xs
theorem Rec.cell{w:World}{q T:Nat}{xs:List Value}(h:Rec w q T xs){j:Nat}{u:Value}(hj:xs[j]?=some u):w.cell? ⟨q,j,none⟩=some u:=BM h hj
theorem Rec.cc{w : World}{q T : Nat}{xs : List Value}(h : Rec w q T xs)(j : Nat){u : Value}(hj : xs[j]? = some u := by exact rfl) : w.cell? ⟨q,j,none⟩ = some u := h.cell hj
theorem Rec.free{w:World}{q T:Nat}{xs:List Value}(h:Rec w q T xs)(j:Nat):w.frozen? ⟨q,j,none⟩=false:=ET h j
theorem Rec.lt{w:World}{q T:Nat}{xs:List Value}(h:Rec w q T xs):q<w.heap.size:=(A9 h rfl).2
theorem Rec.k2{w:World}{Q T:Nat}{a b:Value}{l:List Value}(H:Rec w Q T (a::b::l)):w.cell? ⟨Q,0,none⟩=some a∧w.cell? ⟨Q,1,none⟩=some b∧Q<w.heap.size:=⟨H.cc 0,H.cc 1,H.lt⟩
theorem Rec.k3{w:World}{Q T:Nat}{a b c:Value}{l:List Value}(H:Rec w Q T (a::b::c::l)):w.cell? ⟨Q,0,none⟩=some a∧w.cell? ⟨Q,1,none⟩=some b∧w.cell? ⟨Q,2,none⟩=some c∧Q<w.heap.size:=⟨H.cc 0,H.cc 1,H.cc 2,H.lt⟩
theorem Rec.k4{w:World}{Q T:Nat}{a b c d:Value}{l:List Value}(H:Rec w Q T (a::b::c::d::l)):w.cell? ⟨Q,0,none⟩=some a∧w.cell? ⟨Q,1,none⟩=some b∧w.cell? ⟨Q,2,none⟩=some c∧w.cell? ⟨Q,3,none⟩=some d∧Q<w.heap.size:=⟨H.cc 0,H.cc 1,H.cc 2,H.cc 3,H.lt⟩
theorem Rec.k7{w:World}{Q T:Nat}{a b c d e f g:Value}{l:List Value}(H:Rec w Q T (a::b::c::d::e::f::g::l)):w.cell? ⟨Q,0,none⟩=some a∧w.cell? ⟨Q,1,none⟩=some b∧w.cell? ⟨Q,2,none⟩=some c∧w.cell? ⟨Q,3,none⟩=some d∧w.cell? ⟨Q,4,none⟩=some e∧w.cell? ⟨Q,5,none⟩=some f∧w.cell? ⟨Q,6,none⟩=some g∧Q<w.heap.size:=⟨H.cc 0,H.cc 1,H.cc 2,H.cc 3,H.cc 4,H.cc 5,H.cc 6,H.lt⟩
theorem Rec.k8{w:World}{Q T:Nat}{a b c d e f g h:Value}{l:List Value}(H:Rec w Q T (a::b::c::d::e::f::g::h::l)):w.cell? ⟨Q,0,none⟩=some a∧w.cell? ⟨Q,1,none⟩=some b∧w.cell? ⟨Q,2,none⟩=some c∧w.cell? ⟨Q,3,none⟩=some d∧w.cell? ⟨Q,4,none⟩=some e∧w.cell? ⟨Q,5,none⟩=some f∧w.cell? ⟨Q,6,none⟩=some g∧w.cell? ⟨Q,7,none⟩=some h∧Q<w.heap.size:=⟨H.cc 0,H.cc 1,H.cc 2,H.cc 3,H.cc 4,H.cc 5,H.cc 6,H.cc 7,H.lt⟩
theorem Rec.new(w:World)(T:Nat)(xs:List Value):Rec (w.alloc (.cells xs.toArray T)) w.heap.size T xs:=by
 have:=World.ownsRow_lit (base:=0) (e:=T) (size:=xs.length) w xs.toArray 1 (ζe _) (by unfold maxLen;omega) (by simp);exact this
theorem Rec.set{w:World}{q T:Nat}{xs:List Value}(h:Rec w q T xs)(j:Nat)(u:Value):Rec (w.setCell ⟨q,j,none⟩ u) q T (xs.set j u):=by
 have:=(World.ownsRow.stored h j u).1;unfold Rec;rw[ν];exact this
theorem Rec.touch{S:Nat->Prop}{w w':World}{q T:Nat}{xs:List Value}(h:Rec w q T xs)(t:AB S w w')(hS:¬S q):Rec w' q T xs:=BS h t (λg hg=>by cases hg;exact hS)
theorem Rec.gr{w w':World}{q T:Nat}{xs:List Value}(h:Rec w q T xs)(t:Gr w w'):Rec w' q T xs:=CK h t
theorem P4{w:World}{base E size:Nat}{v:Value}{n:Nat}{xs:List Value}(h:w.ownsRow base E size v n xs){g:Nat}(hg:v.ownBlock=some g):∃cur,w.heap[g]?=some (.cells cur E (0,0)):=by
 obtain⟨_,⟨rfl,_⟩|⟨g',cap,cur,rfl,_,h3,_⟩⟩:=h
 ·cases hg
 ·cases hg;exact⟨cur,h3⟩
theorem AN{w:World}{b1 b2 E1 E2 s1 s2:Nat}{v1 v2:Value}{n1 n2:Nat}{xs1 xs2:List Value}(h1:w.ownsRow b1 E1 s1 v1 n1 xs1)(h2:w.ownsRow b2 E2 s2 v2 n2 xs2)(he:E1≠E2){g1 g2:Nat}(hg1:v1.ownBlock=some g1)(hg2:v2.ownBlock=some g2):g1≠g2:=by
 intro e;subst e;obtain⟨c1,e1⟩:=P4 h1 hg1;obtain⟨c2,e2⟩:=P4 h2 hg2;rw[e1]at e2;simp only[Option.some.injEq,Obj.cells.injEq]at e2;exact he e2.2.1
theorem CV{w:World}{base E size:Nat}{v:Value}{n:Nat}{xs:List Value}(h:w.ownsRow base E size v n xs):∃A c,v=.slice A n c/\n<=c/\c<=maxLen:=by
 obtain⟨_,⟨rfl,rfl⟩|⟨g',cap,cur,rfl,_,_,h4,h5,_⟩⟩:=h
 ·exact⟨none,0,rfl,π _,ζe _⟩
 ·exact⟨_,_,rfl,h4,h5⟩
theorem AX{w:World}{base E size:Nat}{v:Value}{n:Nat}{xs:List Value}(h:w.ownsRow base E size v n xs){q j:Nat}(u:Value)(hq:∀g,v.ownBlock=some g->g≠q):(w.setCell ⟨q,j,none⟩ u).ownsRow base E size v n xs:=
 ZIq h (λg hg=>Below.heap_setCell _ _ _ _ (hq g hg))
theorem YA{w:World}{base E:Nat}{g n c:Nat}{xs:List Value}{x:Value}(h:w.ownsRow base E 1 (.slice (some ⟨g,0,none⟩) (n+1) c) (n+1) (xs++[x])):w.ownsRow base E 1 (.slice (some ⟨g,0,none⟩) n c) n xs:=by
 obtain⟨h1,⟨h,_⟩|⟨g',cap,X,e1,e2,e3,e4,e5,e6,e7⟩⟩:=h
 ·cases h
 ·simp only[Value.slice.injEq,Option.some.injEq,Addr.mk.injEq,and_true,true_and]at e1;obtain⟨rfl,rfl⟩:=e1;have hl:xs.length=n:=by simp at h1;omega
  refine⟨by rw[hl,ξz],.inr ⟨g,c,X,rfl,e2,e3,by omega,e5,e6,?_⟩⟩;rw[ξz]at e7⊢;have:X.toList.take n=(X.toList.take (n+1)).take n:=by rw[List.take_take];congr 1;omega
  rw[this,e7,<-hl,List.take_left]
theorem VcC(z:Value)(n:Nat):(Builtin.zeroCells #[z] n).toList=List.replicate n z:=by
 unfold Builtin.zeroCells;apply ζ4
 ·simp
 ·intro j h1 h2;simp[Nat.mod_one]
section
variable {P:Program} (w:World)
theorem JNG(t it ty e:TypeId)(k:IntKind)(base:Nat)(i:TypeInfo)(z:Value)(ht:P.underlying t=some (.slice e))(hit:P.underlying it=some (.int k))(hi:P.info? e=some i)(hz:i.zero=some z)
  (hsize:i.size=1) (hzs:z.cells=#[z]) (hz1:z.oneCell'=true)
  (v:Value) (n:Nat) (xs:List Value) (hown:w.ownsRow base e 1 v n xs) (m:Nat) (hm:0<m) (h63:n+m<=maxLen) (hbytes:(n+m)*i.bytes<=140737488355328) (hbase:base<=w.heap.size):
  ∃g cap w',(Builtin.append_ #[t,it] ty #[v,iI m]).run P w=.ok (.slice (some ⟨g,0,none⟩) (n+m) cap) w' ∧
   w'.ownsRow base e 1 (.slice (some ⟨g,0,none⟩) (n+m) cap) (n+m) (xs++List.replicate m z)/\w.grownBy w' v.ownBlock/\(v.ownBlock=some g\/g=w.heap.size)/\g<w'.heap.size:=by
 have hsmall:n+m<=9223372036854775807:=by simp only[maxLen]at h63;omega
 have hmb:(m:Int)*(i.bytes:Int)<=281474976710656:=by
  have h1:m*i.bytes<=(n+m)*i.bytes:=ζi _ Ω;have h2:((m*i.bytes:Nat):Int)=(m:Int)*(i.bytes:Int):=by push_cast;rfl
  omega
 have hw:IntKind.i64.wrap (m:Int)=(m:Int):=ζx _ Ω;have Xa:¬(m:Int)<0:=Ω
 have M:¬(281474976710656:Int)<(m:Int)*(i.bytes:Int):=Ω
 have O:∀(w:World),(asInt (iI (m:Int))).run P w=.ok (m:Int) w:=λ_=>by simp[asInt,asIntOf]
 have hmle:¬(m:Int)<=0:=Ω
 have Xd:max (m:Int) 0=(m:Int):=Ω
 have B:¬m=0:=Ω
 have hne:¬m*i.size=0:=by rw[hsize];omega
 have hl:xs.length=n:=by have:=hown.1;omega
 have L:(xs++List.replicate m z).length=n+m:=by simp[hl]
 have grown:∀(Y:Nat) (Xb:Option Nat),
   (w.drew.alloc (.cells ((xs++List.replicate m z).toArray++Builtin.zeroCells z.cells (grownCap w (n+m) Y e-(n+m))) e)).ownsRow base e 1
    (.slice (some ⟨w.heap.size,0,none⟩) (n+m) (grownCap w (n+m) Y e)) (n+m) (xs++List.replicate m z) ∧
   w.grownBy (w.drew.alloc (.cells ((xs++List.replicate m z).toArray++Builtin.zeroCells z.cells (grownCap w (n+m) Y e-(n+m))) e)) Xb:=by
  intro Y Xb;have Xg:=grownCap_ge w (n+m) Y e;have I:grownCap w (n+m) Y e<=maxLen:=grownCap_le_maxLen w (n+m) Y e h63;refine⟨⟨by omega,.inr ⟨w.heap.size,_,_,rfl,hbase,heap_alloc_new w.drew _,Xg,I,?_,?_⟩⟩,⟨rfl,rfl,rfl,by simp,λk hk _=>Below.heap_alloc w.drew _ k hk⟩⟩
  ·rw[Array.size_append,size_zeroCells,hzs,ζV,L];simp;omega
  ·rw[Array.toList_append,List.toList_toArray,ξz,<-L];exact List.take_left
 have G:Builtin.zeroCells z.cells m=(List.replicate m z).toArray:=by rw[hzs];apply Array.ext';rw[VcC]
 rcases hown.2 with⟨rfl,rfl⟩|⟨g,cap,N,rfl,Xf,hg,hnc,I,E,J⟩
 ·obtain rfl:xs=[]:=ζz hl;have U:¬(281474976710656<Builtin.nextslicecap m 0*i.bytes):=by rw[nextslicecap_zero hm];have:=hbytes;simp only[ξs]at this;omega
  have V:¬(9223372036854775807<(m:Int)):=Ω
  have Z:=grown 0 none;simp only[ξs,ζN]at Z⊢;refine⟨_,_,_,?_,Z.1,?_,.inr rfl,by simp⟩
  ·simp[Builtin.append_,run_underlying ht,run_underlying hit,sizeOf,typeInfo,zeroValue,hi,hz,hw,Xa,M,V,U,Question.forced,run_firstCells_none,newRow,grownCap,hsize,O,Xd,B];rw[G];simp
  ·exact Z.2
 ·by_cases X:n+m<=cap
  ·have Xc:n*i.size+0+(List.replicate m z).length<=N.size:=by rw[hsize,E];simp;omega
   have A:=run_storeCells_at P g (n*i.size) e (List.replicate m z) 0 N w hg (by simpa using Xc) (λu hu=>by rw[ξt hu];exact hz1);simp only[ξn,hsize,ξz]at A;refine⟨g,cap,w.setRow g (N.toList.take n++List.replicate m z++N.toList.drop (n+(List.replicate m z).length)).toArray,?_,⟨by omega,.inr ⟨g,cap,_,rfl,Xf,setRow_heap w g N _ e _ hg,X,I,?_,?_⟩⟩,⟨rfl,rfl,rfl,by simp,λk _ hk=>setRow_other w g k _ (λe=>hk (by simp[Value.ownBlock,e]))⟩,.inl rfl,?_⟩
   ·simp[Builtin.append_,run_underlying ht,run_underlying hit,sizeOf,typeInfo,zeroValue,hi,hz,hw,Xa,M,hsize,O,B,X,G,Addr.add_lit];simp at A;simp[A]
   ·rw[ξz]at E;simp;omega
   ·rw[ξz]at J E;rw[ξz,List.toList_toArray,J,ξc,<-ξc,<-L];exact List.take_left
   ·simp;exact(ζn.1 hg).1
  ·have U:¬(281474976710656<Builtin.nextslicecap (n+m) cap*i.bytes):=by have:=growslice_fits (show cap<n+m by omega) hbytes;omega
   have V:¬(9223372036854775807<((n:Int)+(m:Int))):=Ω
   have D:∀j u,xs[j]?=some u->w.cell? ((⟨g,0,none⟩:Addr).add j)=some u:=hown.cells (g:=g) rfl;have Xe:=run_firstCells_some (P:=P) w.drew i.size n ⟨g,0,none⟩ n cap xs (by rw[hsize,hl];omega) (by simpa using D);rw[hsize]at Xe;have Z:=grown cap (Value.ownBlock (.slice (some ⟨g,0,none⟩) n cap));refine⟨_,_,_,?_,Z.1,Z.2,.inr rfl,by simp⟩;simp[Builtin.append_,run_underlying ht,run_underlying hit,sizeOf,typeInfo,zeroValue,hi,hz,hw,Xa,M,V,U,Question.forced,Xe,newRow,grownCap,hsize,O,Xd,B,X,G];congr 2;apply Array.ext';simp
theorem Z2Z{o:Oper}{a:Act}{K:Act->World->Prop}{Q:Exit->Act->World->Prop}(s x:Operand)(t it:TypeId)
  (ho:o.op=.call {callee:=.builtin .append,args:=#[s,x],argTypes:=#[t,it]}) (e:TypeId) (k:IntKind) (base:Nat) (i:TypeInfo) (z:Value) (ht:P.underlying t=some (.slice e)) (hit:P.underlying it=some (.int k)) (hi:P.info? e=some i) (hz:i.zero=some z)
  (hsize:i.size=1) (hzs:z.cells=#[z]) (hz1:z.oneCell'=true)
  (v:Value) (n:Nat) (xs:List Value) (hs:a.eval s=v) (hown:w.ownsRow base e 1 v n xs) (m:Nat) (hx:a.eval x=iI m) (hm:0<m) (h63:n+m<=maxLen) (hbytes:(n+m)*i.bytes<=140737488355328) (hbase:base<=w.heap.size)
  (h:∀g cap w',w'.ownsRow base e 1 (.slice (some ⟨g,0,none⟩) (n+m) cap) (n+m) (xs++List.replicate m z)->w.grownBy w' v.ownBlock->(v.ownBlock=some g\/g=w.heap.size)->g<w'.heap.size->K (a.put o.dst (.slice (some ⟨g,0,none⟩) (n+m) cap)) w'):o.wp P a w K Q:=by
 obtain⟨g,cap,w',hr,h2,h3,h4,h5⟩:=JNG (P:=P) w t it o.type e k base i z ht hit hi hz hsize hzs hz1 v n xs hown m hm h63 hbytes hbase;unfold Oper.wp execOp;simp only[ho,resolve,invoke,builtin,Sem.run_bind,Sem.run_pure,Result.andThen_ok,List.map_toArray,ξG,List.map_nil,hs,hx,hr];exact h g cap w' h2 h3 h4 h5
theorem ZfD{ops:Array Oper}{rest:List Oper}{o:Oper}{a:Act}{Q:Exit->Act->World->Prop}(hgd:o.guard=none)(s x:Operand)(t it:TypeId)
  (ho:o.op=.call {callee:=.builtin .append,args:=#[s,x],argTypes:=#[t,it]}) (e:TypeId) (k:IntKind) (base:Nat) (i:TypeInfo) (z:Value) (ht:P.underlying t=some (.slice e)) (hit:P.underlying it=some (.int k)) (hi:P.info? e=some i) (hz:i.zero=some z)
  (hsize:i.size=1) (hzs:z.cells=#[z]) (hz1:z.oneCell'=true)
  (v:Value) (n:Nat) (xs:List Value) (hs:a.eval s=v) (hown:w.ownsRow base e 1 v n xs) (m:Nat) (hx:a.eval x=iI m) (hm:0<m) (h63:n+m<=maxLen) (hbytes:(n+m)*i.bytes<=140737488355328) (hbase:base<=w.heap.size)
  (h:∀g cap w',w'.ownsRow base e 1 (.slice (some ⟨g,0,none⟩) (n+m) cap) (n+m) (xs++List.replicate m z)->w.grownBy w' v.ownBlock->(v.ownBlock=some g\/g=w.heap.size)->g<w'.heap.size->wpList P ops Q rest (a.put o.dst (.slice (some ⟨g,0,none⟩) (n+m) cap)) w'):wpList P ops Q (o :: rest) a w:=
 wpList_plain hgd λ_ hK=>Z2Z w s x t it ho e k base i z ht hit hi hz hsize hzs hz1 v n xs hs hown m hx hm h63 hbytes hbase λg cap w' h2 h3 h4 h5=>hK _ _ (h g cap w' h2 h3 h4 h5)
theorem YNv(t e:TypeId)(base:Nat)(i:TypeInfo)(z:Value)(ht:P.underlying t=some (.slice e))(hi:P.info? e=some i)(hz:i.zero=some z)
  (hzs:z.cells=#[z]) (hz1:z.oneCell'=true) {g cap N:Nat} {xs:List Value} (hown:w.ownsRow base e 1 (.slice (some ⟨g,0,none⟩) N cap) N xs) (o n c:Nat) (hn:0<n) (hon:o+n<=N):
  ∃w',(∀ty,(Builtin.clear_ #[t] ty #[.slice (some ⟨g,o,none⟩) n c]).run P w=.ok (.tuple #[]) w')/\w'.ownsRow base e 1 (.slice (some ⟨g,0,none⟩) N cap) N (xs.take o++List.replicate n z++xs.drop (o+n))/\w.grownBy w' (some g):=by
 have M:Builtin.zeroCells z.cells n=(List.replicate n z).toArray:=by rw[hzs];apply Array.ext';rw[VcC]
 obtain⟨hl,⟨h',_⟩|⟨g',cap',Y,h',hb,hg,O,J,V,X⟩⟩:=hown
 ·simp at h'
 ·simp only[Value.slice.injEq,Option.some.injEq,Addr.mk.injEq,and_true,true_and]at h';obtain⟨rfl,rfl⟩:=h';rw[ξz]at hl V X;have Z:=run_storeCells_at P g o e (List.replicate n z) 0 Y w hg (by simp;omega) (λu hu=>by rw[ξt hu];exact hz1);simp only[ξn,ζG]at Z;have U:n≠0:=Ω
  have hlen:xs.length=N:=hl;refine⟨_,λty=>?_,⟨by simp;omega,.inr ⟨g,cap,(Y.toList.take o++List.replicate n z++Y.toList.drop (o+n)).toArray,rfl,hb,setRow_heap w g Y _ e _ hg,O,J,by simp;omega,?_⟩⟩,⟨rfl,rfl,rfl,by simp,λk _ hk=>setRow_other w g k _ (λe=>hk (by simp[e]))⟩⟩
  ·simp[Builtin.clear_,run_underlying ht,zeroValue,typeInfo,hi,hz,M,U];simp at Z;simp[Z]
  ·rw[ξz,List.toList_toArray,<-X];apply ψe;intro j;rw[ξN];by_cases hj:j<N
   ·rw[μ hj];by_cases h1:j<o
    ·rw[ξc,ξc,ζP (by simp;omega),ζP (by simp;omega),ξN,ξN,μ h1,μ h1,ξN,μ hj]
    ·by_cases h2:j<o+n
     ·rw[ξc,ξc,ζX (by simp;omega),ζP (by simp;omega),ζX (by simp;omega),ζP (by simp;omega)];congr 1;simp;omega
     ·rw[ζX (by simp;omega),ζX (by simp;omega),List.getElem?_drop,List.getElem?_drop,ξN,μ (by simp;omega)];congr 1;simp;omega
   ·rw[κ hj,ζv (by simp;omega)]
end
structure Pl where
 pg:Nat
 rm:Nat
 tk:List Bool
 bk:List Nat
 wd:List Nat
def Pl.used(p:Pl):Nat:=cnt (at_ p.tk) p.tk.length
structure FD(p:Pl):Prop where
 pg:BJ p.pg=true
 pg2:p.pg<=256
 rm:1<=p.rm/\p.rm<=4096
 wl:p.wd.length=p.tk.length*p.pg
 w64:∀x∈p.wd,x<18446744073709551616
 nd:p.bk.Nodup
 bl:∀f∈p.bk,f<p.tk.length/\at_ p.tk f=false
 us:p.used+p.bk.length=p.tk.length
 le:p.tk.length<=p.rm
def CN(l:List Nat):List Value:=l.map λx=>uU (x:Nat)
def DT(l:List Nat):List Value:=l.map λx=>iI (x:Nat)
def X4(w:World)(S:Nat->Prop)(q:Nat)(p:Pl):Prop:=
 ∃vw vt vb hi ts,Rec w q 200 [vw,vt,vb,iI p.rm,iI p.pg,iI p.used,iI hi,iI ts] ∧
  w.ownsRow 0 22 1 vw p.wd.length (CN p.wd)/\w.ownsRow 0 4 1 vt p.tk.length (p.tk.map Value.bool)/\w.ownsRow 0 3 1 vb p.bk.length (DT p.bk) ∧
  (∀g,vw.ownBlock=some g->S g)/\(∀g,vt.ownBlock=some g->S g)/\(∀g,vb.ownBlock=some g->S g)
def plus(S:Nat->Prop)(w:World)(k:Nat):Prop:=S k\/w.heap.size<=k
structure CH(w:World)(S:Nat->Prop)(q:Nat)(p:Pl):Prop where
 ok:FD p
 sq:S q
 row:X4 w S q p
theorem CH.touch{S T:Nat->Prop}{w w':World}{q:Nat}{p:Pl}(h:CH w S q p)(t:AB T w w')(hS:∀k,S k->k<w.heap.size->¬T k):CH w' S q p:=by
 obtain⟨h1,h2,vw,vt,vb,hi,ts,hr,o1,o2,o3,s1,s2,s3⟩:=h;exact⟨h1,h2,vw,vt,vb,hi,ts,hr.touch t (hS _ h2 hr.lt),BS o1 t (λg hg=>hS g (s1 g hg) (A9 o1 hg).2),BS o2 t (λg hg=>hS g (s2 g hg) (A9 o2 hg).2),BS o3 t (λg hg=>hS g (s3 g hg) (A9 o3 hg).2),s1,s2,s3⟩
theorem CH.gr{S:Nat->Prop}{w w':World}{q:Nat}{p:Pl}(h:CH w S q p)(t:Gr w w'):CH w' S q p:=h.touch (t.touch (λ_=>False)) (λ_ _ _ h=>h)
theorem ZpD{l:List Nat}{i:Nat}(h:i<l.length):(CN l)[i]?=some (uU (l[i]:Nat)):=by simp[CN,h]
theorem XS1{l:List Nat}{i:Nat}(h:i<l.length):(DT l)[i]?=some (iI (l[i]:Nat)):=by simp[DT,h]
theorem WJ{l:List Bool}{i:Nat}(h:i<l.length):(l.map Value.bool)[i]?=some (.bool (at_ l i)):=by simp[at_,h]
section
variable {w:World} {S:Nat->Prop} {q:Nat} {p:Pl}
theorem SL(hP:CH w S q p):cQ 163 #[pP q] w (iI p.pg):=by
 obtain⟨vw,vt,vb,hi,ts,hr,-⟩:=hP.row;have c4:=hr.cc 4;clear hr hP;go_enter func163,ntmps163;go_wp2;go_ret;exact⟨rfl,rfl⟩
def DV(p:Pl)(f:Int):Int:=if decide (0<=f)&&at_ p.tk f.toNat then 0 else 6
theorem NQ(hP:CH w S q p)(f:Int):cQ 202 #[pP q,iI f] w (iI (DV p f)):=by
 obtain⟨vw,vt,vb,hi,ts,hr,-,ot,-⟩:=hP.row;have c1:=hr.cc 1;obtain⟨A,c,rfl,hc1,X⟩:=CV ot;unfold maxLen at X;have hlr:=hP.ok.le;have hrm:=hP.ok.rm.2;by_cases h0:f<0
 ·have E:DV p f=6:=by unfold DV;rw[φ Ω];rfl
  rw[E];have d0:decide (f<0)=true:=θ h0;clear hr hP ot E;go_enter func202,ntmps202;go_wp2;go_ret;exact⟨rfl,rfl⟩
 ·obtain⟨j,rfl⟩:∃j:Nat,f=j:=⟨f.toNat,by omega⟩;have d0:decide ((j:Int)<0)=false:=φ h0;by_cases h1:p.tk.length<=j
  ·have E:DV p j=6:=by unfold DV;rw[η,PD h1,Bool.and_false];rfl
   rw[E];have d1:decide (p.tk.length<=j)=true:=θ h1;clear hr hP ot E;go_enter func202,ntmps202;go_wp2;go_ret;exact⟨rfl,rfl⟩
  ·have d1:decide (p.tk.length<=j)=false:=φ h1;obtain⟨g,c',e1,-,-,-,-⟩:=E7 ot Ω;simp only[Value.slice.injEq,true_and]at e1;obtain⟨rfl,rfl⟩:=e1;have k:=BM ot (WJ (i:=j) Ω);have hj:(j:Int)<(p.tk.length:Int):=Ω
   cases hb:at_ p.tk j with
   | true=>
    have E:DV p j=0:=by unfold DV;rw[η,hb,θ Ω];rfl
    rw[E];rw[hb]at k;clear hr hP ot E hb;go_enter func202,ntmps202;go_wp2;go_ret;exact⟨rfl,rfl⟩
   | false=>
    have E:DV p j=6:=by unfold DV;rw[η,hb,Bool.and_false];rfl
    rw[E];rw[hb]at k;clear hr hP ot E hb;go_enter func202,ntmps202;go_wp2;go_ret;exact⟨rfl,rfl⟩
theorem QLE(hP:CH w S q p){f:Nat}(hf:f<p.tk.length):f*p.pg+p.pg<=p.wd.length/\p.wd.length<=1048576:=by
 have h1:=hP.ok.wl;have h2:=hP.ok.le;have h3:=hP.ok.rm.2;have h4:=hP.ok.pg2;constructor
 ·rw[h1,<-ξm];exact ζi _ hf
 ·rw[h1];exact ζa (ψt (ζa h2 h3) h4) (by decide)
theorem XlR(hP:CH w S q p){f:Nat}(hf:f<p.tk.length):∃g c hi ts vt vb,Rec w q 200 [.slice (some ⟨g,0,none⟩) p.wd.length c,vt,vb,iI p.rm,iI p.pg,iI p.used,iI hi,iI ts] ∧
  w.ownsRow 0 22 1 (.slice (some ⟨g,0,none⟩) p.wd.length c) p.wd.length (CN p.wd)/\w.ownsRow 0 4 1 vt p.tk.length (p.tk.map Value.bool)/\w.ownsRow 0 3 1 vb p.bk.length (DT p.bk) ∧
  S g/\(∀g,vt.ownBlock=some g->S g)/\(∀g,vb.ownBlock=some g->S g)/\p.wd.length<=c/\c<=9223372036854775807:=by
 obtain⟨h1,h2,vw,vt,vb,hi,ts,hr,o1,o2,o3,s1,s2,s3⟩:=hP;have hpg:=DE h1.pg
 have X:p.wd.length≠0:=by
  rw[h1.wl];have:1<=p.tk.length*p.pg:=Nat.mul_pos Ω Ω;omega
 obtain⟨g,c,rfl,-,h3,h4,-⟩:=E7 o1 X;unfold maxLen at h4;exact⟨g,c,hi,ts,vt,vb,hr,o1,o2,o3,s1 g rfl,s2,s3,h3,by omega⟩
theorem Y9{g c n pg:Nat}{vt vb v3 v5 v6 v7:Value}(hr:Rec w q 200 [.slice (some ⟨g,0,none⟩) n c,vt,vb,v3,iI pg,v5,v6,v7])(hc:n<=c)(hc2:c<=9223372036854775807)
  {f:Nat} (hp:1<=pg) (h1:f*pg+pg<=n) (h2:n<=1048576):cQ 225 #[pP q,iI f] w (.slice (some ⟨g,f*pg,none⟩) pg pg):=by
 have c0:=hr.cc 0;have c4:=hr.cc 4;obtain⟨t,ht⟩:∃t,t=f*pg:=⟨_,rfl⟩;rw[<-ht]at h1⊢;have X:(f:Int)*(pg:Int)=(t:Int):=by rw[ht];push_cast;rfl
 have hw:IntKind.i64.wrap ((f:Int)*(pg:Int))=(t:Int):=by rw[X];exact ζx _ Ω
 have b1:(t:Int)+(pg:Int)<=(c:Int):=Ω
 have n0:¬pg=0:=Ω
 have n1:¬t+pg=t:=Ω
 clear hr ht;go_enter func225,ntmps225;go_wp2;go_ret;refine⟨?_,rfl⟩
 show Ending.returned (.slice (some ⟨g,t,none⟩) (t+pg-t) (t+pg-t))=_
 rw[ξL]
def C5(p:Pl)(f a:Int):Int:=if DV p f=0 then (if 0<=a/\a<p.pg then 0 else 11)else 6
theorem ZNg{p:Pl}{f:Int}(h:DV p f=0):∃j:Nat,f=j/\j<p.tk.length/\at_ p.tk j=true:=by
 unfold DV at h;cases hb:(decide (0<=f)&&at_ p.tk f.toNat)with
 | false=>rw[hb]at h;cases h
 | true=>
  simp at hb;exact⟨f.toNat,by omega,FY hb.2,hb.2⟩
theorem VZN(p:Pl)(f:Int):DV p f=0\/DV p f=6:=by unfold DV;split <;> simp
def YvI(w:World)(S:Nat->Prop)(q:Nat)(p:Pl)(f a:Int)(e:Ending)(w':World):Prop:=w=w' ∧
 ((C5 p f a≠0/\e=.returned (.tuple #[.pointer none,iI (C5 p f a)])) ∨
  (C5 p f a=0/\∃g:Nat,S g/\e=.returned (.tuple #[.pointer (some ⟨g,f.toNat*p.pg+a.toNat,none⟩),iI 0])/\w.cell? ⟨g,f.toNat*p.pg+a.toNat,none⟩=some (uU (p.wd.getD (f.toNat*p.pg+a.toNat) 0:Nat))/\w.frozen? ⟨g,f.toNat*p.pg+a.toNat,none⟩=false ∧
   ∀x:Nat,x<18446744073709551616->CH (w.setCell ⟨g,f.toNat*p.pg+a.toNat,none⟩ (.int .u64 x)) S q {p with wd:=p.wd.set (f.toNat*p.pg+a.toNat) x}))
theorem YEA(l:List Nat)(i x:Nat):(CN l).set i (uU (x:Nat))=CN (l.set i x):=by unfold CN;rw[ξV]
theorem ZO{p:Pl}(h:FD p)(i x:Nat)(hx:x<18446744073709551616):FD {p with wd:=p.wd.set i x}:=
 ⟨h.pg,h.pg2,h.rm,by simp[h.wl],λy hy=>by rcases ζk hy with h1|h1;exact h.w64 y h1;exact h1▸hx,h.nd,h.bl,h.us,h.le⟩
theorem QK(hP:CH w S q p)(f a:Int):Calls prog 231 #[pP q,iI f,iI a] w (YvI w S q p f a):=by
 have HP:=ι hP;rcases VZN p f with hc|hc
 ·obtain⟨j,rfl,hj,hat⟩:=ZNg hc;obtain⟨g,c,hi,ts,vt,vb,hr,o1,o2,o3,sg,s2,s3,D,L⟩:=XlR hP hj;obtain⟨O,I⟩:=QLE hP hj;have c4:=hr.cc 4;have hpg:=DE hP.ok.pg;have HR:=ι hr;have HC:=ι hc;have X:=ι o1;have HS:=ι (ϑ sg (ϑ s2 s3));have J:=ι o2;have Y:=ι o3;have hp2:=hP.ok.pg2;clear hr o1 o2 o3 sg s2 s3 hP;by_cases V:a<0
  ·have E:C5 p j a=11:=by unfold C5;rw[μ hc,κ Ω]
   have HE:=ι E;have d0:decide (a<0)=true:=θ V;clear hc E;go_enter func231,ntmps231;go_wp2_with(go_at_call 202;refine(NQ HP.o j).mono ?_;rintro e w1 ⟨rfl,rfl⟩;rw[HC.o]);go_ret2;exact⟨rfl,.inl ⟨by rw[HE.o];decide,by rw[HE.o];rfl⟩⟩
  ·obtain⟨b,rfl⟩:∃b:Nat,a=b:=⟨a.toNat,by omega⟩;have d0:decide ((b:Int)<0)=false:=φ V;by_cases N:p.pg<=b
   ·have E:C5 p j b=11:=by unfold C5;rw[μ hc,κ Ω]
    have HE:=ι E;have d1:decide (p.pg<=b)=true:=θ N;clear hc E;go_enter func231,ntmps231;go_wp2_with(go_at_call 202;refine(NQ HP.o j).mono ?_;rintro e w1 ⟨rfl,rfl⟩;rw[HC.o]);go_ret2;exact⟨rfl,.inl ⟨by rw[HE.o];decide,by rw[HE.o];rfl⟩⟩
   ·have E:C5 p j b=0:=by unfold C5;rw[μ hc,μ Ω]
    have HE:=ι E;have d1:decide (p.pg<=b)=false:=φ N;have hlt:(b:Int)<(p.pg:Int):=Ω
    clear hc E;go_enter func231,ntmps231
    go_wp2_with(first
     | (go_at_call 202;refine(NQ HP.o j).mono ?_;rintro e w1 ⟨rfl,rfl⟩;rw[HC.o])
     | (go_at_call 225;refine(Y9 HR.o D L Ω O I).mono ?_;rintro e w1 ⟨rfl,rfl⟩))
    go_ret2;obtain⟨i,M⟩:∃i,i=j*p.pg+b:=⟨_,rfl⟩;have Z:i<p.wd.length:=Ω
    have k:=BM X.o (ZpD Z);refine⟨rfl,.inr ⟨HE.o,g,HS.o.1,by rw[η,η];rfl,?_,ET X.o _,λx hx=>?_⟩⟩
    ·rw[η,η,<-M,k,δ,ζb Z];rfl
    ·rw[η,η,<-M];have U:=(World.ownsRow.stored X.o i (uU (x:Nat))).1;rw[YEA]at U;refine⟨ZO HP.o.ok i x hx,HP.o.sq,_,vt,vb,hi,ts,AX HR.o _ (λg' hg'=>?_),by simpa using U,AX J.o _ (λg' hg'=>?_),AX Y.o _ (λg' hg'=>?_),λg' hg'=>by cases hg';exact HS.o.1,HS.o.2.1,HS.o.2.2⟩
     ·exact AN HR.o X.o (by decide) hg' rfl
     ·exact AN J.o X.o (by decide) hg' rfl
     ·exact AN Y.o X.o (by decide) hg' rfl
 ·have E:C5 p f a=6:=by unfold C5;rw[κ Ω]
  have HE:=ι E;have HC:=ι hc;clear hP hc E;go_enter func231,ntmps231;go_wp2_with(go_at_call 202;refine(NQ HP.o f).mono ?_;rintro e w1 ⟨rfl,rfl⟩;rw[HC.o]);go_ret2;exact⟨rfl,.inl ⟨by rw[HE.o];decide,by rw[HE.o];rfl⟩⟩
def J8(p:Pl)(f a:Int):Nat:=if C5 p f a=0 then p.wd.getD (f.toNat*p.pg+a.toNat) 0 else 0
def KQ(p:Pl)(f a:Int)(x:Nat):Pl:=if C5 p f a=0 then {p with wd:=p.wd.set (f.toNat*p.pg+a.toNat) x}else p
theorem Xn2(hP:CH w S q p)(f a:Int):cQ 210 #[pP q,iI f,iI a] w (.tuple #[uU (J8 p f a:Nat),iI (C5 p f a)]):=by
 have HP:=ι hP;clear hP;by_cases hc:C5 p f a=0
 ·have HC:=ι hc;have HV:Hid (J8 p f a=p.wd.getD (f.toNat*p.pg+a.toNat) 0):=⟨by unfold J8;rw[μ hc]⟩;clear hc;go_enter func210,ntmps210;go_wp2_with(go_at_call 231;refine(QK HP.o f a).mono ?_;rintro e w1 ⟨rfl,⟨h,-⟩|⟨-,g,-,rfl,k,-,-⟩⟩;(exact absurd HC.o h));go_ret2;exact⟨BI (by rw[HV.o,δ];rfl) (BL HC.o.symm),rfl⟩
 ·have HC:=ι hc;obtain⟨c,hce⟩:∃c,c=C5 p f a:=⟨_,rfl⟩;have hc0:(c !=0)=true:=by rw[hce];simpa using hc
  have X:=ι hce.symm;have HV:Hid (J8 p f a=0):=⟨by unfold J8;rw[κ hc]⟩;clear hc hce;go_enter func210,ntmps210;go_wp2_with(go_at_call 231;refine(QK HP.o f a).mono ?_;rintro e w1 ⟨rfl,⟨-,rfl⟩|⟨h,-⟩⟩;rotate_left;(exact absurd h HC.o);rw[X.o]);go_ret2;exact⟨BI (by rw[HV.o];rfl) (BL X.o.symm),rfl⟩
def JmU(w:World)(S:Nat->Prop)(q:Nat)(p:Pl)(f a:Int)(x:Nat)(e:Ending)(w':World):Prop:=e=.returned (iI (C5 p f a))/\AB S w w'/\CH w' S q (KQ p f a x)
theorem YBJ(hP:CH w S q p)(f a:Int)(x:Nat)(hx:x<18446744073709551616):Calls prog 211 #[pP q,iI f,iI a,uU x] w (JmU w S q p f a x):=by
 have HP:=ι hP;clear hP;by_cases hc:C5 p f a=0
 ·have HC:=ι hc;have HV:Hid (KQ p f a x={p with wd:=p.wd.set (f.toNat*p.pg+a.toNat) x}):=⟨by unfold KQ;rw[μ hc]⟩;clear hc;go_enter func211,ntmps211;go_wp2_with(go_at_call 231;refine(QK HP.o f a).mono ?_;rintro e w1 ⟨rfl,⟨h,-⟩|⟨-,g,sg,rfl,k,kf,hs⟩⟩;(exact absurd HC.o h);have X:=ι (ϑ sg hs);clear sg hs);go_ret;exact⟨AL HC.o.symm,(AB.refl S w).setCell (λ_=>X.o.1) _,by rw[HV.o];exact X.o.2 x hx⟩
 ·have HC:=ι hc;obtain⟨c,hce⟩:∃c,c=C5 p f a:=⟨_,rfl⟩;have hc0:(c==0)=false:=by rw[hce];simpa using hc
  have Y:=ι hce.symm;have HV:Hid (KQ p f a x=p):=⟨by unfold KQ;rw[κ hc]⟩;clear hc hce;go_enter func211,ntmps211;go_wp2_with(go_at_call 231;refine(QK HP.o f a).mono ?_;rintro e w1 ⟨rfl,⟨-,rfl⟩|⟨h,-⟩⟩;rotate_left;(exact absurd h HC.o);rw[Y.o]);go_ret;exact⟨AL Y.o.symm,AB.refl S w,by rw[HV.o];exact HP.o⟩
end
def E6(n:Int):Bool:=decide (1<=n)&&decide (n<=4096)
def EF(n:Int):Bool:=BJ n&&decide (n<=256)
def Pl.none(pg rm:Nat):Pl:=⟨pg,rm,[],[],[]⟩
theorem Xgr{pg rm:Nat}(h1:E6 rm=true)(h2:EF pg=true):FD (Pl.none pg rm):=by
 unfold E6 at h1;unfold EF at h2;simp at h1 h2;exact⟨h2.1,by show pg<=256;omega,by show 1<=rm/\rm<=4096;omega,by simp[Pl.none],λx h=>(by cases h),ξT,λf h=>(by cases h),rfl,ζe _⟩
def VuW(w:World)(n k:Int)(e:Ending)(w':World):Prop:=
 ((E6 n&&EF k)=false/\e=.returned (.tuple #[.pointer none,iI 5])/\w=w') ∨
 ((E6 n&&EF k)=true/\e=.returned (.tuple #[pP w.heap.size,iI 0])/\Gr w w'/\CH w' (λb=>w.heap.size<=b) w.heap.size (Pl.none k.toNat n.toNat))
theorem XXu(n k:Int)(hk:k<=9223372036854775807)(w:World):Calls prog 80 #[iI n,iI k] w (VuW w n k):=by
 have X:((E6 n&&EF k)=false/\(decide (n<1)=true\/(decide (n<1)=false/\decide (4096<n)=true)\/(decide (n<1)=false/\decide (4096<n)=false/\CQ k=false)\/(decide (n<1)=false/\decide (4096<n)=false/\CQ k=true/\decide (256<k)=true))) ∨
   ((E6 n&&EF k)=true/\decide (n<1)=false/\decide (4096<n)=false/\CQ k=true/\decide (256<k)=false):=by
  have hb:=MH k;unfold E6 EF;rw[hb];by_cases h1:n<1
  ·exact .inl ⟨by rw[φ (show ¬1<=n by omega)];rfl,.inl (θ h1)⟩
  ·by_cases h2:4096<n
   ·exact .inl ⟨by rw[φ (show ¬n<=4096 by omega)];simp,.inr (.inl ⟨φ h1,θ h2⟩)⟩
   ·rw[θ (show 1<=n by omega),θ (show n<=4096 by omega)];cases hp:CQ k with
    | false=>exact .inl ⟨rfl,.inr (.inr (.inl ⟨φ h1,φ h2,rfl⟩))⟩
    | true=>
     by_cases h3:256<k
     ·exact .inl ⟨by rw[φ (show ¬k<=256 by omega)];simp,.inr (.inr (.inr ⟨φ h1,φ h2,rfl,θ h3⟩))⟩
     ·exact .inr ⟨by rw[θ (show k<=1024 by omega),θ (show k<=256 by omega)];rfl,φ h1,φ h2,rfl,φ h3⟩
 rcases X with⟨hf,hw⟩|⟨ht,h1,h2,h3,h4⟩
 ·have HF:=ι hf;obtain⟨b,hb⟩:∃b,b=CQ k:=⟨_,rfl⟩;have HB:=ι hb.symm;rw[<-hb]at hw;clear hf hb;rcases hw with h1|⟨h1,h2⟩|⟨h1,h2,rfl⟩|⟨h1,h2,rfl,h3⟩
  all_goals
   go_enter func80,ntmps80;go_wp2_with(go_at_call 119;refine(JM k hk _).mono ?_;rintro e w1 ⟨rfl,rfl⟩;rw[HB.o]);go_ret2;exact .inl ⟨HF.o,rfl,rfl⟩
 ·have HF:=ι ht;have HB:=ι h3;have hn:=of_decide_eq_false h1;obtain⟨m,rfl⟩:∃m:Nat,n=m:=⟨n.toNat,by omega⟩;have Y:=(ζ5.1 (ζ5.1 ht).2).1;have hkb:=DE Y;obtain⟨g,rfl⟩:∃g:Nat,k=g:=⟨k.toNat,by omega⟩;clear ht h3 hn Y;go_enter func80,ntmps80;go_wp2_with(go_at_call 119;refine(JM _ hk _).mono ?_;rintro e w1 ⟨rfl,rfl⟩;rw[HB.o]);go_ret2;obtain⟨hr,hp⟩:=ζ5.1 HF.o;refine .inr ⟨HF.o,rfl,(Gr.refl _).alloc _,?_⟩;rw[η,η];refine⟨Xgr hr hp,π _,.slice none 0 0,.slice none 0 0,.slice none 0 0,0,0,Rec.new _ _ _,GD _ _ _ _,GD _ _ _ _,GD _ _ _ _,(λg h=>by cases h),(λg h=>by cases h),(λg h=>by cases h)⟩
def Pl.next(p:Pl):Nat:=if p.bk=[]then p.tk.length else p.bk.getLastD 0
def GL(l:List Nat)(i n:Nat):List Nat:=l.take i++List.replicate n 0++l.drop (i+n)
def Pl.fresh(p:Pl):Pl:=if p.bk=[]then {p with tk:=p.tk++[false],wd:=p.wd++List.replicate p.pg 0}else {p with bk:=p.bk.dropLast}
def Pl.take(p:Pl):Pl:={p.fresh with tk:=p.fresh.tk.set p.next true,wd:=GL p.fresh.wd (p.next*p.pg) p.pg}
theorem YGK{l:List Nat}{i n:Nat}(h:i+n<=l.length):(GL l i n).length=l.length:=by unfold GL;simp;omega
theorem YMA{l:List Nat}{i n:Nat}(h:i+n<=l.length)(j:Nat):(GL l i n).getD j 0=if i<=j/\j<i+n then 0 else l.getD j 0:=by
 unfold GL;simp only[δ];by_cases h1:j<i
 ·rw[κ Ω,ξc,ζP (by simp;omega),ξN,μ h1]
 ·by_cases h2:j<i+n
  ·rw[μ Ω,ξc,ζX (by simp;omega),ζP (by simp;omega),ξd]
   split <;> rfl
  ·rw[κ Ω,ζX (by simp;omega),List.getElem?_drop];congr 2;simp;omega
theorem YWy:(prog.info? 3).map (λi=>(i.zero,i.size,i.bytes))=some (some (iI 0),1,8):=by kernel_rfl
theorem Vck:(prog.info? 4).map (λi=>(i.zero,i.size,i.bytes))=some (some (.bool false),1,1):=by kernel_rfl
theorem QP(l:List Bool):cnt (at_ (l++[false])) (l++[false]).length=cnt (at_ l) l.length:=by
 have h1:(l++[false]).length=l.length+1:=by simp
 rw[h1,CR];have h2:at_ (l++[false]) l.length=false:=by simp[at_]
 have h3:cnt (at_ (l++[false])) l.length=cnt (at_ l) l.length:=CT (λi hi=>by simp[at_,δ,ζP hi]);rw[h2,h3];rfl
def SX(w:World)(S:Nat->Prop)(q:Nat)(p:Pl)(e:Ending)(w':World):Prop:=e=.returned (iI (p.next:Nat))/\AB S w w'/\X4 w' (plus S w) q p.fresh
section
variable {w:World} {S:Nat->Prop} {q:Nat} {p:Pl}
theorem VPE(hP:CH w S q p)(hb:p.bk≠[]):Calls prog 224 #[pP q] w (SX w S q p):=by
 obtain⟨ok,sq,vw,vt,vb,hi,ts,hr,o1,o2,o3,s1,s2,s3⟩:=hP;obtain⟨bi,f,X⟩:∃bi f,p.bk=bi++[f]:=⟨p.bk.dropLast,p.bk.getLast hb,(ξO hb).symm⟩;have hN:p.next=f:=by unfold Pl.next;rw[κ hb,X];simp
 have hF:p.fresh={p with bk:=bi}:=by unfold Pl.fresh;rw[κ hb,X];simp
 have hbl:p.bk.length<=4096:=by have:=ok.us;have:=ok.le;have:=ok.rm.2;omega
 have J:p.bk.length=bi.length+1:=by rw[X];simp
 obtain⟨gb,cb,rfl,-,V,I,hgl⟩:=E7 o3 Ω;have k:=BM o3 (XS1 (i:=bi.length) Ω);have O:p.bk[bi.length]' Ω=f:=by simp[X]
 rw[O]at k;have Y:=o3;rw[X]at Y;have e1:(bi++[f]).length=bi.length+1:=by simp
 have e2:DT (bi++[f])=DT bi++[iI (f:Nat)]:=by simp[DT]
 rw[e1,e2]at Y;have Z:=YA Y;have c2:=hr.cc 2;rw[J]at c2 V;have cf:=hr.free 2;have HF:=ι hF;have HN:=ι hN;have HR:=ι hr;have H1:=ι o1;have H2:=ι o2;have H3:=ι Z;have HO3:=ι o3;unfold maxLen at I;obtain⟨N,U⟩:∃N,N=bi.length:=⟨_,rfl⟩;rw[<-U]at c2 J k V;have M:=ι U;clear hr o1 o2 o3 Y X hF hN e1 e2 Z hb O U;go_enter func224,ntmps224;go_wp2;go_ret;refine⟨by rw[HN.o];rfl,(AB.refl S w).setCell (λ_=>sq) _,?_⟩;rw[HF.o];refine⟨vw,vt,.slice (some ⟨gb,0,none⟩) N cb,hi,ts,HR.o.set 2 _,AX H1.o _ (λg hg=>?_),AX H2.o _ (λg hg=>?_),?_,λg hg=>.inl (s1 g hg),λg hg=>.inl (s2 g hg),λg hg=>.inl (s3 g hg)⟩
 ·exact AN H1.o HR.o (by decide) hg rfl
 ·exact AN H2.o HR.o (by decide) hg rfl
 ·have:=H3.o;rw[<-M.o]at this
  show World.ownsRow _ 0 _ 1 _ bi.length _
  rw[<-M.o];exact AX this _ (λg hg=>AN this HR.o (by decide) hg rfl)
theorem Yqu(hP:CH w S q p)(hb:p.bk=[]):Calls prog 224 #[pP q] w (SX w S q p):=by
 obtain⟨ok,sq,vw,vt,vb,hi,ts,hr,o1,o2,o3,s1,s2,s3⟩:=hP;obtain⟨iu,Yf,Xy,Xu,Xx⟩:=info_parts O0;obtain⟨ib,Xw,Yb,Ye,Ya⟩:=info_parts Vck;have hN:p.next=p.tk.length:=by unfold Pl.next;rw[μ hb]
 have hF:p.fresh={p with tk:=p.tk++[false],wd:=p.wd++List.replicate p.pg 0}:=by unfold Pl.fresh;rw[μ hb]
 obtain⟨Ab,cb,rfl,hcb1,Xr⟩:=CV o3;obtain⟨At,ct,rfl,hct1,Xk⟩:=CV o2;obtain⟨Aw,cw,rfl,hcw1,Xo⟩:=CV o1;have Xl:p.bk.length=0:=by rw[hb];rfl
 have Xi:p.tk.length<=4096:=ζa ok.le ok.rm.2;have hpg:=DE ok.pg;have Xq:=ok.pg2;have Xv:p.wd.length<=1048576:=by rw[ok.wl];exact ζa (ψt Xi Xq) (by decide)
 have c0:=hr.cc 0;have c1:=hr.cc 1;have c2:=hr.cc 2;have c4:=hr.cc 4;have cf:=λj=>hr.free j;rw[Xl]at c2;have hql:=hr.lt;have HF:=ι hF;have HN:=ι hN;have HR:=ι hr;have H1:=ι o1;have H2:=ι o2;have H3:=ι o3;have HB:=ι (ϑ hb Xl);unfold maxLen at Xr Xk Xo;obtain⟨N,Xg⟩:∃N,N=p.tk.length:=⟨_,rfl⟩;have X:=ι Xg;rw[<-Xg]at c1 Xi;obtain⟨M,Xf⟩:∃M,M=p.wd.length:=⟨_,rfl⟩;have E:=ι Xf;rw[<-Xf]at c0 Xv;have Xt:=cf 1;have Xm:=cf 0;have HS:=ι (ϑ s1 (ϑ s2 s3))
 have Xp:∀g,(Value.slice At N ct).ownBlock=some g->g≠q:=λg hg=>by
  have:=AN o2 hr (by decide) (g1:=g) (g2:=q) (by cases At <;> simp[Value.ownBlock]at hg⊢;exact hg) rfl;exact this
 clear hr o1 o2 o3 hF hN hb Xg Xf s1 s2 s3 cf;go_enter func224,ntmps224;go_wp2_with(at_builtin;refine wpList_append_lies _ rfl _ _ 198 rfl 0 4 ib _ 1 1 underlying198 Xw Yb Ye Ya rfl (by decide) (.slice At N ct) N (p.tk.map Value.bool) rfl (by rw[X.o];exact H2.o.alloc _) ⟨w.heap.size,0,none⟩ 1 1 [.bool false] rfl rfl (ξi (cs:=#[.bool false]) (t:=4) (fr:=(0,0)) (heap_alloc_new w _)) (by simp[Value.oneCell']) Ω (by unfold maxLen;omega) Ω (ζe _) (w.heap.size+1) (by simp) ?_;intro g2 B w2 L U J Xc;have t2:AB (λk=>(Value.slice At N ct).ownBlock=some k) w w2:=(((Gr.refl w).alloc _).touch _).trans (EB U _ (λk e _=>e));have O:=ι (HR.o.touch t2 (λe=>Xp q e rfl));have d1:=O.o.cc 1;have Yd:=O.o.free 1;have Xd:=ι t2;have Xj:=ι L;have Xz:=ι (ϑ J Xc);clear L U J Xc t2);obtain⟨W3,Y⟩:∃W3,W3=w2.setCell ⟨q,1,none⟩ (.slice (some ⟨g2,0,none⟩) (N+1) B):=⟨_,rfl⟩;rw[<-Y];have R3:=O.o.set 1 (.slice (some ⟨g2,0,none⟩) (N+1) B);rw[<-Y]at R3
 have T3:W3.ownsRow 0 4 1 (.slice (some ⟨g2,0,none⟩) (N+1) B) (N+1) (p.tk.map Value.bool++[.bool false]):=by
  rw[Y];exact AX Xj.o _ (λg hg=>AN Xj.o O.o (by decide) hg rfl)
 have Xb:∀g,(Value.slice Aw p.wd.length cw).ownBlock=some g->¬(Value.slice At N ct).ownBlock=some g:=λg hg e=>AN H1.o (by rw[X.o]at e;exact H2.o) (by decide) hg (by rw[X.o]at e;exact e) rfl;have Xa:∀g,(Value.slice Ab p.bk.length cb).ownBlock=some g->¬(Value.slice At N ct).ownBlock=some g:=λg hg e=>AN H3.o (by rw[X.o]at e;exact H2.o) (by decide) hg (by rw[X.o]at e;exact e) rfl;have U2:=BS H1.o Xd.o Xb
 have U3:W3.ownsRow 0 22 1 (.slice Aw p.wd.length cw) p.wd.length (CN p.wd):=by
  rw[Y];exact AX U2 _ (λg hg=>AN U2 O.o (by decide) hg rfl)
 have B2:=BS H3.o Xd.o Xa
 have B3:W3.ownsRow 0 3 1 (.slice Ab p.bk.length cb) p.bk.length (DT p.bk):=by
  rw[Y];exact AX B2 _ (λg hg=>AN B2 O.o (by decide) hg rfl)
 have D:AB S w W3:=by
  rw[Y];refine(Xd.o.mono (T:=S) (λk _ h=>?_)).setCell (λ_=>sq) _;rw[X.o]at h;exact HS.o.2.1 k h
 have HW:=ι (ϑ R3 (ϑ T3 (ϑ U3 (ϑ B3 D))));have y0:=R3.cc 0;have y4:=R3.cc 4;have yf:=R3.free 0;rw[<-E.o]at y0 U3;have HU:=ι U3;clear Y R3 T3 U3 U2 B2 B3 D Xb Xa c0 c1 c2 c4 Xm Xt d1 Yd Xp;obtain⟨Sx,G⟩:∃Sx:World->Prop,Sx=λW'=>W'.cell? ⟨q,0,none⟩=some (.slice Aw M cw)/\W'.cell? ⟨q,4,none⟩=some (iI p.pg):=⟨_,rfl⟩;have x0:∀p':AA Sx,p'.w.cell? ⟨q,0,none⟩=some (.slice Aw M cw):=λp'=>(AA.get G p').1;have x4:∀p':AA Sx,p'.w.cell? ⟨q,4,none⟩=some (iI p.pg):=λp'=>(AA.get G p').2;have Xn:Sx W3.drew:=by rw[G];exact⟨y0,y4⟩
 have Yg:=ι G;clear G;have inst:Inhabited (AA Sx):=⟨⟨_,Xn⟩⟩;refine AR Sx 12 [([0,1,2,3,4,5,6,7,8],9),([10,11],12)] [] (by kernel_rfl) (by kernel_rfl) Xn ?_;refine AG ?_;simp only[AC,ζ,ξ]
 repeat(go_big_quiet_step (fail))
 refine ψ ?_;go_wp2_with(at_builtin;refine ZfD _ rfl _ _ 61 3 rfl 22 .i64 0 iu _ underlying61 underlying3 Yf Xy Xu rfl (by decide) (.slice Aw M cw) M (CN p.wd) rfl (CK HU.o (Gr.refl W3).drew) p.pg rfl Ω (by unfold maxLen;omega) (by rw[Xx];omega) (ζe _) ?_;intro g4 c4 w4 I Z V hlt4)
 go_frame
 have t4:AB (λk=>(Value.slice Aw M cw).ownBlock=some k) W3 w4:=((Gr.refl W3).drew.touch _).trans (EB Z _ (λk e _=>e));have Xs:¬(Value.slice Aw M cw).ownBlock=some q:=λe=>AN HU.o HW.o.1 (by decide) e rfl rfl;have R4:=HW.o.1.touch t4 Xs;have A:=ι R4;have z0:=R4.cc 0;have z4:=R4.cc 4;have zf:=R4.free 0;have Xe:=ι t4;have Xh:=ι I;have Yc:=ι V;rw[<-E.o]at z0;clear R4 t4 I Z V Xs;refine⟨.inr (AA.of (by rw[Yg.o];exact⟨z0,z4⟩)),?_⟩;refine AG ?_;simp only[AC,ζ,ξ]
 repeat(go_big_quiet_step (fail))
 refine ψ ?_;go_wp2;refine⟨.inl trivial,?_⟩;refine AS ?_;refine ψ ?_;refine τ ?_;go_wp2;go_ret;obtain⟨R3,T3,U3,B3,D⟩:=HW.o;have hs3:=D.size;have T4:=BS T3 Xe.o (λg hg e=>AN T3 HU.o (by decide) hg e rfl);have B4:=BS B3 Xe.o (λg hg e=>AN B3 HU.o (by decide) hg e rfl);have J:=Xz.o;have V:=Yc.o;refine⟨by rw[HN.o,<-X.o];rfl,(D.trans' Xe.o (λk hk h=>?_)).setCell (λ_=>sq) _,?_⟩
 ·rw[E.o]at h;exact HS.o.1 k h
 ·rw[HF.o];have hu:({p with tk:=p.tk++[false],wd:=p.wd++List.replicate p.pg 0}:Pl).used=p.used:=QP p.tk;refine⟨.slice (some ⟨g4,0,none⟩) (M+p.pg) c4,.slice (some ⟨g2,0,none⟩) (N+1) B,.slice Ab p.bk.length cb,hi,ts,?_,?_,?_,AX B4 _ (λg hg=>AN B4 A.o (by decide) hg rfl),λg hg=>?_,λg hg=>?_,λg hg=>.inl (HS.o.2.2 g hg)⟩
  ·rw[hu];exact A.o.set 0 _
  ·have:=AX (q:=q) (j:=0) Xh.o (.slice (some ⟨g4,0,none⟩) (M+p.pg) c4) (λg hg=>AN Xh.o A.o (by decide) hg rfl);have e1:(p.wd++List.replicate p.pg 0).length=M+p.pg:=by rw[E.o];simp
   have e2:CN (p.wd++List.replicate p.pg 0)=CN p.wd++List.replicate p.pg (uU 0):=by unfold CN;rw[ζ6,List.map_replicate];rfl
   show World.ownsRow _ 0 _ 1 _ (p.wd++List.replicate p.pg 0).length (CN (p.wd++List.replicate p.pg 0))
   rw[e1,e2];exact this
  ·have:=AX (q:=q) (j:=0) T4 (.slice (some ⟨g4,0,none⟩) (M+p.pg) c4) (λg hg=>AN T4 A.o (by decide) hg rfl)
   show World.ownsRow _ 0 _ 1 _ (p.tk++[false]).length ((p.tk++[false]).map Value.bool)
   rw[ζ6,show (p.tk++[false]).length=N+1 by rw[X.o];simp];exact this
  ·cases hg;rcases V with h|h
   ·rw[E.o]at h;exact .inl (HS.o.1 _ h)
   ·right;show w.heap.size<=g4;have:W3.drew.heap.size=W3.heap.size:=rfl;omega
  ·cases hg;rcases J.1 with h|h
   ·rw[X.o]at h;exact .inl (HS.o.2.1 _ h)
   ·right;show w.heap.size<=g2;omega
theorem VKq(hP:CH w S q p):Calls prog 224 #[pP q] w (SX w S q p):=by
 by_cases hb:p.bk=[]
 ·exact Yqu hP hb
 ·exact VPE hP hb
theorem JW(hP:FD p):p.next<p.fresh.tk.length/\p.fresh.wd.length=p.fresh.tk.length*p.pg/\at_ p.fresh.tk p.next=false:=by
 unfold Pl.next Pl.fresh
 by_cases hb:p.bk=[]
 ·rw[μ hb,μ hb];refine⟨by simp,by simp[hP.wl,ξm],by simp[at_]⟩
 ·rw[κ hb,κ hb]
  have hm:p.bk.getLastD 0∈p.bk:=by
   obtain⟨bi,x,X⟩:∃bi x,p.bk=bi++[x]:=⟨p.bk.dropLast,p.bk.getLast hb,(ξO hb).symm⟩;rw[X];simp
  have:=hP.bl _ hm;exact⟨this.1,hP.wl,this.2⟩
theorem GA{l:List Bool}{k i:Nat}{x:Bool}(hk:k<l.length):at_ (l.set k x) i=if i=k then x else at_ l i:=QV l k i x hk
theorem JG{l:List Bool}{i:Nat}(hi:i<l.length)(h:at_ l i=false):cnt (at_ (l.set i true)) l.length=cnt (at_ l) l.length+1:=by
 have X:∀k,k<=l.length->cnt (at_ (l.set i true)) k=cnt (at_ l) k+if i<k then 1 else 0:=by
  intro k
  induction k with
  | zero=>intro _;rfl
  | succ k ih=>
   intro hk;rw[CR,CR,ih Ω,GA hi];by_cases e:k=i
   ·subst e;rw[μ rfl,h,κ (ζS _),μ (ξo _)];simp
   ·rw[κ e];by_cases h1:i<k
    ·rw[μ h1,μ Ω];omega
    ·rw[κ h1,κ Ω];omega
 rw[X _ (π _),μ hi]
theorem Z6{l:List Bool}{i:Nat}(hi:i<l.length)(h:at_ l i=true):cnt (at_ (l.set i false)) l.length+1=cnt (at_ l) l.length:=by
 have h2:=JG (l:=l.set i false) (i:=i) (by simpa using hi) (by rw[GA hi,μ rfl]);rw[List.set_set,ν]at h2
 have:l.set i true=l:=by
  apply ζ4 (by simp);intro j h1 h3;rw[ψj]
  split
  ·rename_i e;subst e;simpa[at_,hi]using h.symm
  ·rfl
 rw[this]at h2;exact h2.symm
theorem RM(h:FD p)(hroom:p.used<p.rm):FD p.take:=by
 obtain⟨h1,h2,h3⟩:=JW h
 have U:p.fresh.used=p.used:=by
  unfold Pl.used Pl.fresh
  split
  ·exact QP p.tk
  ·rfl
 have hf:(p.next*p.pg)+p.pg<=p.fresh.wd.length:=by rw[h2,<-ξm];exact ζi _ h1
 have e0:p.take.pg=p.pg/\p.take.rm=p.rm/\p.take.bk=p.fresh.bk:=by unfold Pl.take Pl.fresh;split <;> exact⟨rfl,rfl,rfl⟩
 have e1:p.take.tk=p.fresh.tk.set p.next true:=rfl
 have e2:p.take.wd=GL p.fresh.wd (p.next*p.pg) p.pg:=rfl
 have eu:p.take.used=p.used+1:=by
  rw[<-U];unfold Pl.used;rw[e1,ν];exact JG h1 h3
 refine⟨by rw[e0.1];exact h.pg,by rw[e0.1];exact h.pg2,by rw[e0.2.1];exact h.rm,by rw[e0.1,e2,YGK hf,h2,e1,ν],λx hx=>?_,?_,λf hf'=>?_,?_,?_⟩
 ·rw[e2]at hx;unfold GL at hx
  have X:∀y∈p.fresh.wd,y<18446744073709551616:=λy hy=>by
   unfold Pl.fresh at hy
   split at hy
   ·rcases ζt.1 hy with hy|hy
    ·exact h.w64 y hy
    ·rw[ξt hy];decide
   ·exact h.w64 y hy
  rcases ζt.1 hx with hx|hx
  ·rcases ζt.1 hx with hx|hx
   ·exact X x (ξ6 hx)
   ·rw[ξt hx];decide
  ·exact X x (List.mem_of_mem_drop hx)
 ·rw[e0.2.2];unfold Pl.fresh
  split
  ·exact h.nd
  ·exact h.nd.sublist (List.dropLast_sublist _)
 ·rw[e0.2.2]at hf';rw[e1,ν];unfold Pl.fresh at hf' h1⊢;unfold Pl.next at h1⊢
  by_cases hb:p.bk=[]
  ·rw[μ hb]at hf';rw[hb]at hf';cases hf'
  ·rw[κ hb]at hf' h1⊢;rw[κ hb]at h1⊢;have hm:=(List.dropLast_sublist _).subset hf';have Z:=h.bl f hm;refine⟨Z.1,?_⟩;rw[GA h1,κ,Z.2];intro e;obtain⟨bi,x,J⟩:∃bi x,p.bk=bi++[x]:=⟨p.bk.dropLast,p.bk.getLast hb,(ξO hb).symm⟩;have Y:=h.nd;rw[J]at hf' e Y;simp at hf' e;subst e;rw[ξx]at Y;exact Y.2.2 f hf' f (by simp) rfl
 ·rw[eu,e0.2.2,e1,ν];unfold Pl.fresh;have:=h.us
  split
  ·rename_i hb;rw[hb]at this;simp[hb]at this⊢;omega
  ·rename_i hb;have:=List.length_pos_iff.2 hb;simp;omega
 ·rw[e0.2.1,e1,ν];unfold Pl.fresh;have:=h.us
  split
  ·rename_i hb;rw[hb]at this;simp at this⊢;omega
  ·exact h.le
theorem MV(p:Pl):p.fresh.pg=p.pg/\p.fresh.rm=p.rm/\p.fresh.used=p.used:=by
 unfold Pl.fresh
 split
 ·exact⟨rfl,rfl,QP p.tk⟩
 ·exact⟨rfl,rfl,rfl⟩
theorem UY(h:FD p):p.take.used=p.used+1:=by
 obtain⟨h1,h2,h3⟩:=JW h
 have X:p.fresh.used=p.used:=by
  unfold Pl.used Pl.fresh
  split
  ·exact QP p.tk
  ·rfl
 have e1:p.take.tk=p.fresh.tk.set p.next true:=rfl
 rw[<-X];unfold Pl.used;rw[e1,ν];exact JG h1 h3
def Xun(w:World)(S:Nat->Prop)(q:Nat)(p:Pl)(e:Ending)(w':World):Prop:=
 (p.used=p.rm/\e=.returned (.tuple #[iI 0,iI 14])/\Gr w w') ∨
 (p.used<p.rm/\e=.returned (.tuple #[iI (p.next:Nat),iI 0])/\AB S w w'/\CH w' (plus S w) q p.take)
theorem N0(h:FD p):p.used<=p.rm:=by have:=h.us;have:=h.le;omega
theorem YB(hP:CH w S q p):Calls prog 198 #[pP q] w (Xun w S q p):=by
 have HP:=ι hP;have U:=hP.ok;have Xc:=N0 U;have Yb:=U.rm;obtain⟨vw,vt,vb,hi,ts,hr,-⟩:=hP.row;have c3:=hr.cc 3;have c5:=hr.cc 5;have Xh:=hr.lt;obtain⟨u,hu⟩:∃u,u=p.used:=⟨_,rfl⟩;have HU:=ι hu;rw[<-hu]at c5 Xc;obtain⟨R,hR⟩:∃R,R=p.rm:=⟨_,rfl⟩;have Z:=ι hR;rw[<-hR]at c3 Xc Yb;have hr0:((R:Int)==0)=false:=ζo.2 Ω;have z3:∀m,(w.drewN m).cell? ⟨q,3,none⟩=some (iI R):=λm=>((Gr.refl w).drewN m |>.cell Xh _).trans c3;have z5:∀m,(w.drewN m).cell? ⟨q,5,none⟩=some (iI u):=λm=>((Gr.refl w).drewN m |>.cell Xh _).trans c5;have hpg:=DE U.pg;have X:=ι U;clear hr hP hu hR U;by_cases Y:u=R
 ·have d1:((u:Int)==(R:Int))=true:=by rw[Y];simp
  have Xp:=ι Y;clear Y;go_enter func198,ntmps198;go_wp2;go_quiet (fail);go_wp2;go_ret2;exact .inl ⟨by rw[<-HU.o,<-Z.o];exact Xp.o,rfl,(Gr.refl w).drewN _⟩
 ·have d1:((u:Int)==(R:Int))=false:=ζo.2 Ω;go_enter func198,ntmps198;go_wp2;go_quiet (fail);go_wp2_with(go_at_call 224;refine(VKq (HP.o.gr ((Gr.refl w).drewN nq))).mono ?_;rintro e w2 ⟨rfl,Xb,B⟩;have Xo:=ι Xb;have Xd:=ι B;clear Xb B);obtain⟨vw2,vt2,Xj,O,J,R2,o1,o2,o3,s1,s2,s3⟩:=Xd.o;obtain⟨n1,n2,n3⟩:=JW X.o;obtain⟨f1,f2,f3⟩:=MV p;have hf:p.next*p.pg+p.pg<=p.fresh.wd.length:=by rw[n2,<-ξm];exact ζi _ n1
  have Xl:p.fresh.tk.length<=4096:=by
   have h1:=(RM X.o (by rw[<-HU.o,<-Z.o];omega)).le;have h2:p.take.tk.length=p.fresh.tk.length:=ν ..;have h3:p.take.rm=p.rm:=f2;rw[h2,h3,<-Z.o]at h1;omega
  have Xn:p.fresh.wd.length<=1048576:=by rw[n2];exact ζa (ψt Xl X.o.pg2) (by decide)
  obtain⟨g2,cw,rfl,-,Xz,Xs,-⟩:=E7 o1 Ω;obtain⟨gt,ct,rfl,-,hd1,Xk,-⟩:=E7 o2 Ω;unfold maxLen at Xs Xk;obtain⟨iu,Ya,Xu,hu1,hu2⟩:=info_parts O0;obtain⟨w3,Xv,Xa,Xg⟩:=YNv (P:=prog) w2 61 22 0 iu _ underlying61 Ya Xu rfl (by decide) o1 (p.next*p.pg) p.pg p.pg Ω hf;rw[f1,f2,f3,<-HU.o,<-Z.o]at R2;have t3:=EB Xg (λk=>k=g2) (λk e _=>(Option.some.inj e).symm);have R3:=R2.touch t3 (AN R2 o1 (by decide) rfl rfl);have T3:=BS o2 t3 (λg hg=>AN o2 o1 (by decide) hg rfl);have B3:=BS o3 t3 (λg hg=>AN o3 o1 (by decide) hg rfl);have Xf:q≠gt:=AN R2 o2 (by decide) rfl rfl;have hgq:gt≠q:=λe=>Xf e.symm;have Xe:=ι R2;have k1:=R3.cc 1;have k5:=R3.cc 5;have k6:=R3.cc 6;have k7:=R3.cc 7;have kf:=λj=>R3.free j;have Yc:=kf 5;have Xw:=kf 6;have Xm:=kf 7;have kt:=BM T3 (WJ n1);have Xq:=ET T3 p.next
  have hnl:(p.next:Int)<(p.fresh.tk.length:Int):=Ω
  have Xi:=ι (ϑ R3 (ϑ Xa (ϑ T3 (ϑ B3 t3))));have M:=ι (ϑ s1 (ϑ s2 s3));have Xx:=ι (ϑ n1 (ϑ n2 n3));have A:=ι (ϑ f1 (ϑ f2 f3));clear R2 o1 o2 o3 s1 s2 s3 Xa Xg R3 T3 B3 t3 n1 n2 n3 f1 f2 f3 kf c3 c5 z3 z5 Xd;generalize hnx:p.next=f at *
  have L:=ι hnx;clear hnx;have hmax:=NS prog;go_wp2_with(go_at_call 225;refine(Y9 Xe.o Xz Ω Ω hf Xn).mono ?_;rintro e w1 ⟨rfl,rfl⟩);obtain⟨W5,V⟩:∃W5,W5=((w3.setCell ⟨gt,f,none⟩ (.bool true)).setCell ⟨q,5,none⟩ (.int .i64 ((u:Int)+1))).setCell ⟨q,7,none⟩ (.int .i64 (wrap64 (J+1))):=⟨_,rfl⟩;rw[<-V];obtain⟨R3,U3,T3,B3,t3⟩:=Xi.o;have R4:=AX (q:=gt) (j:=f) R3 (.bool true) (λg hg=>by cases hg;exact Xf)
  have R5:Rec W5 q 200 [.slice (some ⟨g2,0,none⟩) p.fresh.wd.length cw,.slice (some ⟨gt,0,none⟩) p.fresh.tk.length ct,Xj,iI R,iI p.pg,iI ((u:Int)+1),iI O,iI (wrap64 (J+1))]:=by
   rw[V];exact(Rec.set R4 5 _).set 7 _
  have U4:=AX (q:=gt) (j:=f) U3 (.bool true) (λg hg=>AN U3 T3 (by decide) hg rfl);have U5:=AX (q:=q) (j:=7) (AX (q:=q) (j:=5) U4 (iI ((u:Int)+1)) (λg hg=>AN U4 R4 (by decide) hg rfl)) (iI (wrap64 (J+1))) (λg hg=>AN U4 R4 (by decide) hg rfl);have T4:=(World.ownsRow.stored T3 f (.bool true)).1;have T5:=AX (q:=q) (j:=7) (AX (q:=q) (j:=5) T4 (iI ((u:Int)+1)) (λg hg=>AN T4 R4 (by decide) hg rfl)) (iI (wrap64 (J+1))) (λg hg=>AN T4 R4 (by decide) hg rfl);have B4:=AX (q:=gt) (j:=f) B3 (.bool true) (λg hg=>AN B3 T3 (by decide) hg rfl);have B5:=AX (q:=q) (j:=7) (AX (q:=q) (j:=5) B4 (iI ((u:Int)+1)) (λg hg=>AN B4 R4 (by decide) hg rfl)) (iI (wrap64 (J+1))) (λg hg=>AN B4 R4 (by decide) hg rfl);rw[<-V]at U5 T5 B5;have sq:=HP.o.sq
  have N:AB (plus S (w.drewN nq)) w2 W5:=by
   rw[V];exact(((t3.mono (λk _ h=>by rw[show k=g2 from h];exact M.o.1 g2 rfl)).setCell (λ_=>M.o.2.1 gt rfl) _).setCell (λ_=>.inl sq) _).setCell (λ_=>.inl sq) _
  have Xy:=ι (ϑ R5 (ϑ U5 (ϑ T5 (ϑ B5 N))));have y5:=R5.cc 5;have y6:=R5.cc 6;have yf:=R5.free 6;clear V R3 U3 T3 B3 t3 R4 R5 U4 U5 T4 T5 B4 B5 N k1 k5 k6 k7 Yc Xw Xm kt Xq Xv Xi;obtain⟨Sx,I⟩:∃Sx:World->Prop,Sx=λW'=>W'.cell? ⟨q,5,none⟩=some (iI ((u:Int)+1))/\W'.cell? ⟨q,6,none⟩=some (iI O):=⟨_,rfl⟩;have x5:∀p':AA Sx,p'.w.cell? ⟨q,5,none⟩=some (iI ((u:Int)+1)):=λp'=>(AA.get I p').1;have x6:∀p':AA Sx,p'.w.cell? ⟨q,6,none⟩=some (iI O):=λp'=>(AA.get I p').2;have G:Sx W5.drew:=by rw[I];exact⟨y5,y6⟩
  clear I;have inst:Inhabited (AA Sx):=⟨⟨_,G⟩⟩;refine AR Sx 12 [([0,1,2,3,4,5,6,7,8,9,10,11],12)] [] (by kernel_rfl) (by kernel_rfl) G ?_;refine AG ?_;simp only[AC,ζ,ξ]
  repeat(go_big_quiet_step (fail))
  refine ψ ?_;go_wp2;refine⟨.inl trivial,?_⟩;refine AS ?_;refine ψ ?_;refine τ ?_;go_wp2;go_ret2;obtain⟨R5,U5,T5,B5,N⟩:=Xy.o;obtain⟨n1,n2,n3⟩:=Xx.o;have D:p.used<p.rm:=by rw[<-HU.o,<-Z.o];omega
  refine .inr ⟨D,by rw[L.o];rfl,?_,RM X.o D,.inl sq,?_⟩
  ·refine(AB.setCell (a:=⟨q,6,none⟩) ((((Gr.refl w).drewN nq).touch S).trans' (Xo.o.trans' N (λk hk h=>?_)) (λk _ h=>h)) (λ_=>sq) _).drew;rcases h with h|h
   ·exact h
   ·exact absurd hk (ξh h)
  ·have U6:=λv=>CK (AX (q:=q) (j:=6) U5 v (λg hg=>AN U5 R5 (by decide) hg rfl)) (Gr.refl _).drew;have T6:=λv=>CK (AX (q:=q) (j:=6) T5 v (λg hg=>AN T5 R5 (by decide) hg rfl)) (Gr.refl _).drew;have B6:=λv=>CK (AX (q:=q) (j:=6) B5 v (λg hg=>AN B5 R5 (by decide) hg rfl)) (Gr.refl _).drew;have eu:p.take.used=u+1:=by rw[UY X.o,<-HU.o]
   have ew:p.take.wd=GL p.fresh.wd (f*p.pg) p.pg:=by rw[<-L.o];rfl
   have et:p.take.tk=p.fresh.tk.set f true:=by rw[<-L.o];rfl
   have Xr:p.take.wd.length=p.fresh.wd.length:=by rw[ew,YGK hf]
   have Xt:CN (GL p.fresh.wd (f*p.pg) p.pg)=List.take (f*p.pg) (CN p.fresh.wd)++List.replicate p.pg (Value.int IntKind.u64 0)++List.drop (f*p.pg+p.pg) (CN p.fresh.wd):=by
    unfold GL CN;rw[ζ6,ζ6,List.map_replicate,List.map_take,List.map_drop];rfl
   have er:p.take.rm=R:=by rw[Z.o];exact A.o.2.1
   have ep:p.take.pg=p.pg:=A.o.1;have eb:p.take.bk=p.fresh.bk:=rfl;have E:∀g,plus S (w.drewN nq) g->plus S w g:=λg h=>h;refine⟨.slice (some ⟨g2,0,none⟩) p.fresh.wd.length cw,.slice (some ⟨gt,0,none⟩) p.fresh.tk.length ct,Xj,max O ((u:Int)+1),wrap64 (J+1),?_,?_,?_,?_,λg hg=>E g (M.o.1 g hg),λg hg=>E g (M.o.2.1 g hg),λg hg=>E g (M.o.2.2 g hg)⟩
   rotate_left
   ·rw[Xr,ew,Xt];exact U6 _
   ·rw[et,ν,ξV];exact T6 _
   ·rw[eb];exact B6 _
   ·rw[eu,er,ep];exact(R5.set 6 _).gr (Gr.refl _).drew
def Pl.give(p:Pl)(f:Nat):Pl:={p with tk:=p.tk.set f false,bk:=p.bk++[f]}
theorem OD{f:Nat}(hf:at_ p.tk f=true):(p.give f).used+1=p.used:=by
 show cnt (at_ (p.tk.set f false)) (p.tk.set f false).length+1=_
 rw[ν];exact Z6 (FY hf) hf
theorem Y4(h:FD p){f:Nat}(hf:at_ p.tk f=true):FD (p.give f):=by
 have hl:=FY hf;refine⟨h.pg,h.pg2,h.rm,by show _=(p.tk.set f false).length*_;rw[ν];exact h.wl,h.w64,?_,λg hg=>?_,?_,by show (p.tk.set f false).length<=_;rw[ν];exact h.le⟩
 ·show (p.bk++[f]).Nodup
  rw[ξx];refine⟨h.nd,by simp,λa ha b hb=>?_⟩;simp at hb;subst hb;rintro rfl;have:=(h.bl a ha).2;rw[hf]at this;cases this
 ·show g<(p.tk.set f false).length/\at_ (p.tk.set f false) g=false
  rw[ν,GA hl];rcases ζt.1 hg with hg|hg
  ·have:=h.bl g hg;refine⟨this.1,?_⟩
   split
   ·rfl
   ·exact this.2
  ·simp at hg;subst hg;exact⟨hl,by rw[μ rfl]⟩
 ·have h1:=OD hf;have h2:=h.us
  show _+(p.bk++[f]).length=(p.tk.set f false).length
  rw[ν,ζh];simp;omega
def VkD(w:World)(S:Nat->Prop)(q:Nat)(p:Pl)(f:Nat)(e:Ending)(w':World):Prop:=e=.returned (iI 0)/\AB S w w'/\CH w' (plus S w) q (p.give f)
theorem XDh(hP:CH w S q p){f:Nat}(hf:at_ p.tk f=true):Calls prog 167 #[pP q,iI f] w (VkD w S q p f):=by
 have HP:=ι hP;have Z:=hP.ok;have Xj:=FY hf;have HC:Hid (DV p f=0):=⟨by unfold DV;rw[η,hf,θ Ω];rfl⟩;have B:=OD hf;have Xe:=N0 Z;have hrm:=Z.rm;have I:=Z.us;have htl:=Z.le;obtain⟨vw,vt,vb,hi,ts,hr,o1,o2,o3,s1,s2,s3⟩:=hP.row;obtain⟨gt,ct,rfl,-,hd1,G,-⟩:=E7 o2 Ω;obtain⟨Ab,cb,rfl,hcb1,L⟩:=CV o3;unfold maxLen at G L;obtain⟨ii,Xl,Xi,Xd,Xk⟩:=info_parts YWy;have D:q≠gt:=AN hr o2 (by decide) rfl rfl;have hgq:gt≠q:=λe=>D e.symm;have c1:=hr.cc 1;have c2:=hr.cc 2;have c5:=hr.cc 5;have cf:=λj=>hr.free j;have cf2:=cf 2;have cf5:=cf 5;have kt:=BM o2 (WJ Xj);have ktf:=ET o2 f;obtain⟨N,hN⟩:∃N,N=p.bk.length:=⟨_,rfl⟩;have HN:=ι hN;rw[<-hN]at c2 I;obtain⟨u,hu⟩:∃u,u=p.used:=⟨_,rfl⟩;have HU:=ι hu;rw[<-hu]at c5 Xe B I hr;have hu2:1<=u:=Ω
 have hfI:(f:Int)<(p.tk.length:Int):=Ω
 have HR:=ι hr;have H1:=ι o1;have H2:=ι o2;have H3:=ι o3;have HS:=ι (ϑ s1 (ϑ s2 s3));have HF:=ι hf;have E:=ι Z;have B1:=AX (q:=gt) (j:=f) o3 (.bool false) (λg hg=>AN o3 o2 (by decide) hg rfl);have R1:=AX (q:=gt) (j:=f) hr (.bool false) (λg hg=>by cases hg;exact D);rw[<-hN]at B1;have Xc:=ι B1;have Xf:=ι R1;have Xb:∀g,(Value.slice Ab N cb).ownBlock=some g->g≠q:=λg hg=>AN o3 hr (by decide) (by rw[<-hN];exact hg) rfl;clear hr o1 o2 o3 hP hf hN hu Z cf s1 s2 s3 B1 R1;go_enter func167,ntmps167
 go_wp2_with(first
  | (go_at_call 202;refine(NQ HP.o f).mono ?_;rintro e w1 ⟨rfl,rfl⟩;rw[HC.o])
  | (at_builtin;refine wpList_append_lies _ rfl _ _ 66 rfl 0 3 ii _ 1 8 underlying66 Xl Xi Xd Xk rfl (by decide) (.slice Ab N cb) N (DT p.bk) rfl (Xc.o.alloc _) ⟨w.heap.size,0,none⟩ 1 1 [iI (f:Nat)] rfl rfl (ξi (cs:=#[iI (f:Nat)]) (t:=3) (fr:=(0,0)) (by have:=heap_alloc_new (w.setCell ⟨gt,f,none⟩ (.bool false)) (.cells #[.int .i64 (f:Nat)] 3);simpa using this)) (by simp[Value.oneCell']) Ω (by unfold maxLen;omega) Ω (ζe _) (w.heap.size+1) (by simp) ?_;intro g2 Xa w2 U Y X V;have t2:AB (λk=>(Value.slice Ab N cb).ownBlock=some k) (w.setCell ⟨gt,f,none⟩ (.bool false)) w2:=(((Gr.refl _).alloc _).touch _).trans (EB Y _ (λk e _=>e));have J:=ι (BS Xf.o t2 (λg hg e=>by cases hg;exact Xb q e rfl));have d2:=BM J.o (j:=2) rfl;have df2:=ET J.o 2;have d5:=BM J.o (j:=5) rfl;have df5:=ET J.o 5;have O:=ι t2;have M:=ι U;have Xg:=ι (ϑ X V);clear U Y X V t2))
 go_ret;have X:=Xg.o;have U1:=AX (q:=gt) (j:=f) H1.o (.bool false) (λg hg=>AN H1.o H2.o (by decide) hg rfl);have A:∀g,vw.ownBlock=some g->¬(Value.slice Ab N cb).ownBlock=some g:=λg hg e=>AN H1.o H3.o (by decide) hg (by rw[<-HN.o];exact e) rfl;have U2:=BS U1 O.o A;have T1:=(World.ownsRow.stored H2.o f (.bool false)).1;have T2:=BS T1 O.o (λg hg e=>AN H2.o H3.o (by decide) hg (by rw[<-HN.o];exact e) rfl);have hsz:(w.setCell ⟨gt,f,none⟩ (.bool false)).heap.size=w.heap.size:=by simp
 have tt:AB S w w2:=((AB.refl S w).setCell (a:=⟨gt,f,none⟩) (λ_=>HS.o.2.1 gt rfl) (.bool false)).trans' O.o (λk _ h=>HS.o.2.2 k (by rw[<-HN.o];exact h));refine⟨rfl,(tt.setCell (a:=⟨q,2,none⟩) (λ_=>HP.o.sq) _).setCell (a:=⟨q,5,none⟩) (λ_=>HP.o.sq) _,Y4 E.o HF.o,.inl HP.o.sq,?_⟩;have R2:=J.o;have e1:(p.give f).used=u-1:=by have:=OD HF.o;have:=HU.o;omega
 have e2:(((u-1:Nat)):Int)=(u:Int)-1:=Ω
 have e3:(p.give f).tk=p.tk.set f false:=rfl;have e4:(p.give f).bk=p.bk++[f]:=rfl;have U3:=λa b=>AX (q:=q) (j:=5) (AX (q:=q) (j:=2) U2 a (λg hg=>AN U2 R2 (by decide) hg rfl)) b (λg hg=>AN U2 R2 (by decide) hg rfl);have T3:=λa b=>AX (q:=q) (j:=5) (AX (q:=q) (j:=2) T2 a (λg hg=>AN T2 R2 (by decide) hg rfl)) b (λg hg=>AN T2 R2 (by decide) hg rfl);have B3:=λa b=>AX (q:=q) (j:=5) (AX (q:=q) (j:=2) M.o a (λg hg=>AN M.o R2 (by decide) hg rfl)) b (λg hg=>AN M.o R2 (by decide) hg rfl);refine⟨vw,.slice (some ⟨gt,0,none⟩) p.tk.length ct,.slice (some ⟨g2,0,none⟩) (N+1) Xa,hi,ts,?_,?_,?_,?_,λg hg=>.inl (HS.o.1 g hg),λg hg=>.inl (HS.o.2.1 g hg),λg hg=>?_⟩
 ·rw[e1,e2];have Xh:Rec w2 q 200 _:=R2;exact(Xh.set 2 _).set 5 _
 ·exact U3 _ _
 ·rw[e3,ν,ξV];exact T3 _ _
 ·rw[e4,show (p.bk++[f]).length=N+1 by rw[HN.o];simp,show DT (p.bk++[f])=DT p.bk++[iI (f:Nat)]by unfold DT;rw[ζ6];rfl];exact B3 _ _
 ·cases hg;rcases X.1 with h|h
  ·exact .inl (HS.o.2.2 _ (by rw[<-HN.o];exact h))
  ·right;show w.heap.size<=g2;omega
end
def JE(l:List Nat):List Value:=l.map λx=>.int .u32 (x:Nat)
def CC(pt:List Nat)(k:Nat):List Nat:=(List.range 256).map λi=>pt.getD (256*k+i) 0
def nz(l:List Nat):Nat:=cnt (λi=>l.getD i 0 !=0) l.length
def EV(pt:List Nat)(k:Nat):List Value:=JE (CC pt k)++[iI (nz (CC pt k):Nat)]
def GT(L:List (Option Nat)):List Value:=L.map λb=>.pointer (b.map λb=>⟨b,0,none⟩)
def CW(n:Nat):Nat:=(n+255)/256
structure JA(pt:List Nat):Prop where
 n1:1<=pt.length
 n2:pt.length<=524288
 lt:∀x∈pt,x<4294967296
structure C6(w:World)(S:Nat->Prop)(q:Nat)(pt:List Nat):Prop where
 ok:JA pt
 sq:S q
 row:∃g c L,Rec w q 203 [.slice (some ⟨g,0,none⟩) (CW pt.length) c,iI pt.length,iI (nz pt:Nat)]/\CW pt.length<=c/\c<=maxLen/\S g ∧
  w.ownsRow 0 290 1 (.slice (some ⟨g,0,none⟩) (CW pt.length) c) (CW pt.length) (GT L) ∧
  (∀k,k<CW pt.length->match L.getD k none with
   | none=>∀i,i<256->pt.getD (256*k+i) 0=0
   | some b=>S b/\Rec w b 293 (EV pt k)) ∧
  (∀k j b,L.getD k none=some b->L.getD j none=some b->k=j)
theorem IF(pt:List Nat)(k:Nat):(CC pt k).length=256:=by simp[CC]
theorem N7(pt:List Nat)(k:Nat){i:Nat}(h:i<256):(CC pt k).getD i 0=pt.getD (256*k+i) 0:=by simp[CC,δ,h]
theorem Z1(pt:List Nat)(k:Nat){i:Nat}(h:i<256):(EV pt k)[i]?=some (.int .u32 (pt.getD (256*k+i) 0:Nat)):=by
 unfold EV JE;rw[ζP (by simp[IF,h])];simp[CC,h]
theorem XMj(pt:List Nat)(k:Nat):(EV pt k)[256]?=some (iI (nz (CC pt k):Nat)):=by
 unfold EV JE;simp[IF]
theorem C6.touch{S T:Nat->Prop}{w w':World}{q:Nat}{pt:List Nat}(h:C6 w S q pt)(t:AB T w w')(hS:∀k,S k->k<w.heap.size->¬T k):C6 w' S q pt:=by
 obtain⟨ok,sq,g,c,L,hr,h1,h2,sg,ho,ht,hd⟩:=h;refine⟨ok,sq,g,c,L,hr.touch t (hS q sq hr.lt),h1,h2,sg,BS ho t (λb hb=>by cases hb;exact hS g sg (A9 ho rfl).2),λk hk=>?_,hd⟩;have:=ht k hk;cases hl:L.getD k none with
 | none=>grind
 | some b=>rw[hl]at this;exact⟨this.1,this.2.touch t (hS b this.1 this.2.lt)⟩
theorem C6.gr{S:Nat->Prop}{w w':World}{q:Nat}{pt:List Nat}(h:C6 w S q pt)(t:Gr w w'):C6 w' S q pt:=h.touch (t.touch (λ_=>False)) (λ_ _ _ h=>h)
theorem C6.mono{S T:Nat->Prop}{w:World}{q:Nat}{pt:List Nat}(h:C6 w S q pt)(hT:∀k,S k->T k):C6 w T q pt:=by
 obtain⟨ok,sq,g,c,L,hr,h1,h2,sg,ho,ht,hd⟩:=h;refine⟨ok,hT _ sq,g,c,L,hr,h1,h2,hT _ sg,ho,λk hk=>?_,hd⟩
 grind
theorem WS{n:Nat}(h:n<=524288):CW n<=2048:=by unfold CW;omega
theorem X5{n p:Nat}(h:p<n):p/256<CW n:=by unfold CW;omega
theorem Y2{L:List (Option Nat)}{k:Nat}(h:k<L.length):(GT L)[k]?=some (.pointer ((L.getD k none).map λb=>⟨b,0,none⟩)):=by
 simp[GT,δ,h]
section
variable {w:World} {S:Nat->Prop} {q:Nat} {pt:List Nat}
theorem ZL(hM:C6 w S q pt){p:Nat}(hp:p<pt.length):cQ 223 #[pP q,iI p] w (.int .u32 (pt.getD p 0:Nat)):=by
 obtain⟨ok,sq,g,c,L,hr,h1,h2,sg,ho,ht,hd⟩:=hM;have hn:=WS ok.n2;have hk:=X5 hp;have hLl:L.length=CW pt.length:=by have:=ho.1;simp[GT]at this;exact this
 have c0:=hr.cc 0;have k0:=BM ho (Y2 (L:=L) (k:=p/256) Ω);have hh:=ht _ hk;obtain⟨k,Y⟩:∃k,k=p/256:=⟨_,rfl⟩;obtain⟨i,Z⟩:∃i,i=p%256:=⟨_,rfl⟩;have X:256*k+i=p:=Ω
 have hi:i<256:=Ω
 have e1:(p:Int)/256=(k:Int):=Ω
 have e2:(p:Int)%256=(i:Int):=Ω
 rw[<-Y]at k0 hk hh;have hpb:(p:Int)<=524288:=Ω
 cases hl:L.getD k none with
 | none=>
  rw[hl]at hh k0;have E:=(hh i hi);rw[X]at E;rw[E];clear hr ho ht hh hd Z Y X hl;go_enter func223,ntmps223;go_wp2;go_ret;exact⟨rfl,rfl⟩
 | some b=>
  rw[hl]at hh k0;have k1:=hh.2.cell (Z1 pt k hi);rw[X]at k1;generalize pt.getD p 0=x at k1⊢;clear hr ho ht hh hd Z Y X hl;go_enter func223,ntmps223;go_wp2;go_ret;exact⟨rfl,rfl⟩
def pgE(pt:List Nat)(p:Int):Int:=if 0<=p/\p<pt.length then 0 else 11
def MX(pt:List Nat)(l:List Int):Int:=if l.all (λp=>decide (pgE pt p=0))then 0 else 11
theorem Z7Q(pt:List Nat)(p:Int):(decide (p<0)=true/\pgE pt p=11)\/(decide (p<0)=false/\decide ((pt.length:Int)<=p)=true/\pgE pt p=11)\/(decide (p<0)=false/\decide ((pt.length:Int)<=p)=false/\pgE pt p=0):=by
 by_cases h0:p<0
 ·exact .inl ⟨θ h0,κ Ω⟩
 ·by_cases h1:(pt.length:Int)<=p
  ·exact .inr (.inl ⟨φ h0,θ h1,κ Ω⟩)
  ·exact .inr (.inr ⟨φ h0,φ h1,μ Ω⟩)
theorem QP1{pt:List Nat}{l:List Int}(h:∀i,i<l.length->pgE pt (l.getD i 0)=0):MX pt l=0:=by
 unfold MX;rw[μ];rw[ζ8];intro x hx;obtain⟨i,hi,rfl⟩:=ψu.1 hx
 simp_all
theorem YU3{pt:List Nat}{l:List Int}{i:Nat}(hi:i<l.length)(h:pgE pt (l.getD i 0)=11):MX pt l=11:=by
 unfold MX
 grind
theorem XaF(hM:C6 w S q pt){b n:Nat}{l:List Int}(hn:l.length=n)(hn2:n<=2)(hc:∀i,i<n->w.cell? ⟨b,i,none⟩=some (iI (l.getD i 0))):cQ 222 #[pP q,.slice (some ⟨b,0,none⟩) n n] w (iI (MX pt l)):=by
 obtain⟨ok,sq,g,c,L,hr,-⟩:=hM;have c1:=hr.cc 1;have HC:=hc;clear hr hc;go_enter func222,ntmps222;go_wp2
 go_loop [11] (λi=>∃k:Nat,k<=n/\i=iI k/\Hid (∀i,i<k->pgE pt (l.getD i 0)=0)) (λi=>n-(intOf i).toNat)
 case atStart=>exact⟨0,by omega,rfl,⟨λi h=>by omega⟩⟩
 case round=>
  obtain⟨k,hk,rfl,X⟩:=hrel;by_cases Z:k<n
  ·have Y:=HC k Z;have hq:=Z7Q pt (l.getD k 0);have H1:=ι (λh=>YU3 (pt:=pt) (l:=l) (i:=k) Ω h)
   have H2:Hid (pgE pt (l.getD k 0)=0->∀i,i<k+1->pgE pt (l.getD i 0)=0):=⟨λh i hi=>by
    by_cases e:i=k
    ·subst e;exact h
    ·exact X.o i Ω⟩
   generalize l.getD k 0=p at Y hq H1 H2;clear X HC hn;rcases hq with⟨d0,E⟩|⟨d0,d1,E⟩|⟨d0,d1,E⟩
   ·have E:=ι E;go_wp2;go_ret;exact⟨AL (by rw[H1.o E.o]),rfl⟩
   ·have E:=ι E;go_wp2;go_ret;exact⟨AL (by rw[H1.o E.o]),rfl⟩
   ·have E:=ι E;go_wp2;go_round
    case rel=>exact⟨k+1,by omega,by go_num,⟨H2.o E.o⟩⟩
    case measure=>simp[intOf];omega
  ·obtain rfl:k=n:=Ω
   have E:=ι (QP1 (pt:=pt) (l:=l) (by rw[hn];exact X.o));go_wp2;go_ret;exact⟨AL (by rw[E.o]),rfl⟩
end
theorem VT9:(zeroCells293).toList=JE (List.replicate 256 0)++[iI 0]:=by kernel_rfl
theorem QM(l:List Nat):nz l=cnt (at_ (l.map λx=>x !=0)) l.length:=by
 refine CT λi hi=>?_;simp[at_,hi]
theorem OY{l:List Nat}{i x:Nat}(hi:i<l.length)(h:l.getD i 0=0)(hx:x≠0):nz (l.set i x)=nz l+1:=by
 have hm:(l.map λx=>x !=0).length=l.length:=ξ1 _;rw[QM,QM,ν,ξV,<-hm];have:(x !=0)=true:=by simp[hx]
 rw[this];refine JG Ω ?_;rw[δ,ζb hi]at h;simp[at_,hi];simpa using h
theorem VC{l:List Nat}{i:Nat}(hi:i<l.length)(h:l.getD i 0≠0):nz (l.set i 0)+1=nz l:=by
 have hm:(l.map λx=>x !=0).length=l.length:=ξ1 _;rw[QM,QM,ν,ξV,<-hm];refine Z6 Ω ?_;rw[δ,ζb hi]at h;simp[at_,hi];simpa using h
theorem Z2A{l:List Nat}(h:nz l=0){i:Nat}(hi:i<l.length):l.getD i 0=0:=by
 have:=UN h i hi
 simp_all
theorem MS(l:List Nat):nz l<=l.length:=EG _ _
theorem YO{pt:List Nat}{k i x:Nat}(hp:256*k+i<pt.length):CC (pt.set (256*k+i) x) k=(CC pt k).set i x:=by
 apply ζ4
 ·simp[CC]
 ·intro j h1 h2;simp only[CC,List.getElem_map,List.getElem_range,ψj,δ,ξQ]
  grind
theorem QhQ{pt:List Nat}{k i x j:Nat}(hi:i<256)(hj:j≠k):CC (pt.set (256*k+i) x) j=CC pt j:=by
 apply ζ4
 ·simp[CC]
 ·intro y h1 h2;have hy:y<256:=by simpa[CC]using h1
  simp only[CC,List.getElem_map,List.getElem_range,δ,ξQ]
  grind
theorem VXI{pt:List Nat}{k i x t:Nat}(hp:256*k+i<pt.length)(hi:i<256)(ht:nz ((CC pt k).set i x)=t):
  EV (pt.set (256*k+i) x) k=((EV pt k).set i (.int .u32 x)).set 256 (iI t):=by
 unfold EV;rw[YO hp,ht];have hl:(JE (CC pt k)).length=256:=by simp[JE,IF]
 rw[List.set_append_left _ _ Ω,List.set_append_right _ _ (by simp[hl])];simp[JE,ξV,IF]
theorem X7{pt:List Nat}{k i x j:Nat}(hi:i<256)(hj:j≠k):EV (pt.set (256*k+i) x) j=EV pt j:=by
 unfold EV;rw[QhQ hi hj]
section
variable {w:World} {S:Nat->Prop} {q:Nat} {pt:List Nat}
theorem XyQ{g n c:Nat}{m:Nat}{k i:Nat}(c0:w.cell? ⟨q,0,none⟩=some (.slice (some ⟨g,0,none⟩) n c))(c2:w.cell? ⟨q,2,none⟩=some (iI m))
  (f2:w.frozen? ⟨q,2,none⟩=false) (cg:w.cell? ⟨g,k,none⟩=some (.pointer none)) (fg:w.frozen? ⟨g,k,none⟩=false) (hqg:q≠g) (hq:q<w.heap.size) (hg:g<w.heap.size)
  (hk:k<n) (hn:n<=2048) (hi:i<256) (hm:m<=524288) {x:Nat} (hx:x≠0) {p:Nat} (hp:p=256*k+i):Calls prog 201 #[pP q,iI p,.int .u32 x] w λe w'=>e=.returned (.tuple #[]) ∧
   w'=((w.setCell ⟨g,k,none⟩ (.pointer (some ⟨w.heap.size,0,none⟩))).setCell ⟨q,2,none⟩ (.int .i64 (m+1))).alloc
   (Obj.cells ((zeroCells293.setIfInBounds i (.int .u32 x)).setIfInBounds 256 (iI 1)) 293):=by
 have e1:(p:Int)/256=(k:Int):=Ω
 have e2:(p:Int)%256=(i:Int):=Ω
 have b1:(p:Int)<=524288:=Ω
 have hkI:(k:Int)<(n:Int):=Ω
 have hiI:(i:Int)<256:=Ω
 have d0:((x:Int)==0)=false:=by simp_all
 have hz:∀h,(zeroCells293.setIfInBounds i (.int .u32 x))[256]'h=iI 0:=by
  intro h;rw[Array.getElem_setIfInBounds_ne _ Ω];have hl:(zeroCells293).toList.length=257:=by simp_all
  rw[<-Array.getElem_toList]
  ·grind [VT9,ζX,ζb,Option.some.inj]
  simp_all
 clear hp;go_enter func201,ntmps201;go_wp2
 go_end0
 simp_all
def OF(w:World)(b i x t' q m' g k:Nat):World:=
 if t'=0 then (((w.setCell ⟨b,i,none⟩ (.int .u32 x)).setCell ⟨b,256,none⟩ (.int .i64 t')).setCell ⟨q,2,none⟩ (.int .i64 m')).setCell ⟨g,k,none⟩ (.pointer none)
 else ((w.setCell ⟨b,i,none⟩ (.int .u32 x)).setCell ⟨b,256,none⟩ (.int .i64 t')).setCell ⟨q,2,none⟩ (.int .i64 m')
theorem YAa{g n c b:Nat}{m t t' m':Nat}{y:Value}{k i:Nat}(c0:w.cell? ⟨q,0,none⟩=some (.slice (some ⟨g,0,none⟩) n c))(c2:w.cell? ⟨q,2,none⟩=some (iI m))
  (f2:w.frozen? ⟨q,2,none⟩=false) (cg:w.cell? ⟨g,k,none⟩=some (pP b)) (fg:w.frozen? ⟨g,k,none⟩=false)
  (cb:w.cell? ⟨b,i,none⟩=some y) (cn:w.cell? ⟨b,256,none⟩=some (iI t)) (fi:w.frozen? ⟨b,i,none⟩=false) (fn:w.frozen? ⟨b,256,none⟩=false)
  (hqg:q≠g) (hbg:b≠g) (hbq:b≠q) (hk:k<n) (hn:n<=2048) (hi:i<256) (hm:m<=524288) (hm':m'<=524288) (ht:t<=256) (ht':t'<=256) {x:Nat} (hx:x<4294967296)
  (hby:if x=0 then t' + 1=t/\m' + 1=m else t'=t+1/\m'=m+1) {p:Nat} (hp:p=256*k+i):Calls prog 201 #[pP q,iI p,.int .u32 x] w λe w'=>e=.returned (.tuple #[]) ∧
   w'=OF w b i x t' q m' g k:=by
 have e1:(p:Int)/256=(k:Int):=Ω
 have e2:(p:Int)%256=(i:Int):=Ω
 have b1:(p:Int)<=524288:=Ω
 have hkI:(k:Int)<(n:Int):=Ω
 have hiI:(i:Int)<256:=Ω
 have hi6:¬i=256:=Ω
 clear hp;by_cases h0:x=0
 ·rw[μ h0]at hby;subst h0;obtain⟨rfl,rfl⟩:=hby;have a1:(t':Int)+1 + -1=(t':Int):=Ω
  have a2:(m':Int)+1 + -1=(m':Int):=Ω
  by_cases h1:t'=0
  ·subst h1;have E:OF w b i 0 0 q m' g k=_:=μ rfl;rw[E];go_enter func201,ntmps201;go_wp2
   go_end0
   simp_all
  ·have E:OF w b i 0 t' q m' g k=_:=κ h1;rw[E];go_enter func201,ntmps201;go_wp2
   go_end0
   simp_all
 ·rw[κ h0]at hby;obtain⟨rfl,rfl⟩:=hby;have d0:((x:Int)==0)=false:=by simp_all
  have E:OF w b i x (t+1) q (m+1) g k=_:=κ Ω;rw[E];go_enter func201,ntmps201;go_wp2
  go_end0
  simp_all
end
theorem QON{w:World}{q T:Nat}{xs ys:List Value}(h:Rec w q T xs)(e:xs=ys):Rec w q T ys:=e▸h
theorem JA.set{pt:List Nat}(h:JA pt)(p:Nat){x:Nat}(hx:x<4294967296):JA (pt.set p x):=
 ⟨by rw[ν];exact h.n1,by rw[ν];exact h.n2,λy hy=>by
  rcases ζk hy with h'|h'
  ·exact h.lt y h'
  omega⟩
theorem EN{l:List Nat}{p x:Nat}(hp:p<l.length)(j:Nat):(l.set p x).getD j 0=if p=j then x else l.getD j 0:=by
 grind
theorem PJ{l:List (Option Nat)}{p:Nat}{x:Option Nat}(hp:p<l.length)(j:Nat):(l.set p x).getD j none=if p=j then x else l.getD j none:=by
 grind
theorem Vna(L:List (Option Nat))(k:Nat)(b:Option Nat):GT (L.set k b)=(GT L).set k (.pointer (b.map λb=>⟨b,0,none⟩)):=by
 unfold GT;simp_all
theorem ZXw{l:List Nat}{n:Nat}(hl:l.length=n)(h:∀i,i<n->l.getD i 0=0):l=List.replicate n 0:=by
 grind [ζ4,ζG,ζb]
theorem Q8(n:Nat):nz (List.replicate n 0)=0:=by
 refine GZ λi hi=>?_
 simp_all
theorem Y8u{pt:List Nat}{k:Nat}(h:∀i,i<256->pt.getD (256*k+i) 0=0):EV pt k=JE (List.replicate 256 0)++[iI 0]:=by
 unfold EV
 grind [ZXw,IF,N7,Q8]
def V2(w:World)(S:Nat->Prop)(q:Nat)(pt:List Nat)(p x:Nat)(w':World):Prop:=AB S w w'/\C6 w' (plus S w) q (pt.set p x)
section
variable {w:World} {S:Nat->Prop} {q:Nat} {pt:List Nat}
theorem ZX(hM:C6 w S q pt){p x:Nat}(hp:p<pt.length)(hx:x<4294967296)(hxx:if x=0 then pt.getD p 0≠0 else pt.getD p 0=0):
  Calls prog 201 #[pP q,iI p,.int .u32 x] w λe w'=>e=.returned (.tuple #[])/\V2 w S q pt p x w':=by
 obtain⟨ok,sq,g,c,L,hr,h1,h2,sg,ho,ht,hd⟩:=hM;have hn:=WS ok.n2;have hk:=X5 hp;have hLl:L.length=CW pt.length:=by have:=ho.1;simp[GT]at this;exact this
 obtain⟨k,Xl⟩:∃k,k=p/256:=⟨_,rfl⟩;obtain⟨i,hii⟩:∃i,i=p%256:=⟨_,rfl⟩;have Y:p=256*k+i:=Ω
 have hi:i<256:=Ω
 rw[<-Xl]at hk;have O:k<L.length:=Ω
 have cg:=BM ho (Y2 O);have fg:=ET ho k;have c0:=hr.cc 0;have c2:=hr.cc 2;have f2:=hr.free 2;have M:q≠g:=AN hr ho (by decide) rfl rfl;have Xc:g≠q:=λe=>M e.symm;have hnz:=MS pt;have hn2:=ok.n2;have Xj:=hr.lt;have Xi:=(A9 ho rfl).2;have V:=ok.set p hx;have X:(pt.set p x).length=pt.length:=ν;have hh:=ht k hk;cases hl:L.getD k none with
 | none=>
  rw[hl]at hh cg;have h0:pt.getD p 0=0:=by rw[Y];exact hh i hi
  have A:x≠0:=by
   intro e;subst e;rw[μ rfl]at hxx;exact hxx h0
  refine(XyQ c0 c2 f2 cg fg M Xj Xi hk hn hi Ω A Y).mono ?_;rintro e w' ⟨rfl,rfl⟩;refine⟨rfl,((AB.refl S w).setCell (a:=⟨g,k,none⟩) (λ_=>sg) _ |>.setCell (a:=⟨q,2,none⟩) (λ_=>sq) _).alloc _,V,.inl sq,g,c,L.set k (some w.heap.size),?_,by rw[X];exact h1,h2,.inl sg,?_,λj hj=>?_,λa b y ha hb=>?_⟩
  ·have r1:=(AX (q:=g) (j:=k) hr (pP w.heap.size) (λy hy=>by cases hy;exact M));have r2:Rec _ _ _ _:=Rec.set (q:=q) r1 2 (iI ((nz pt:Nat)+1));refine QON (r2.gr ((Gr.refl _).alloc _)) ?_;rw[OY hp h0 A,X];rfl
  ·rw[X,Vna];exact CK (AX (World.ownsRow.stored ho k _).1 _ (λy hy=>by cases hy;exact Xc)) ((Gr.refl _).alloc _)
  ·rw[X]at hj;rw[PJ O];by_cases e:k=j
   ·subst e;rw[μ rfl];refine⟨.inr (π _),?_⟩
    have hs:∀(W:World) (Z:Array Value) (xs:List Value) (N:Nat),W.heap.size=N->Z.toList=xs->Rec (W.alloc (.cells Z 293)) N 293 xs:=by
     rintro W Z xs N rfl rfl;exact Rec.new W _ _
    refine hs _ _ _ _ (by simp) ?_;rw[Array.toList_setIfInBounds,Array.toList_setIfInBounds,VT9,Y,VXI Ω hi rfl]
    have:nz ((CC pt k).set i x)=1:=by
     rw[OY (by rw[IF];exact hi) (by rw[N7 _ _ hi];exact hh i hi) A,ZXw (IF pt k) (λy hy=>by rw[N7 _ _ hy];exact hh y hy),Q8]
    rw[this,Y8u hh];rfl
   ·rw[κ e];have J:=ht j hj;cases hl':L.getD j none with
    | none=>
     rw[hl']at J;intro y hy;rw[EN hp,κ Ω];exact J y hy
    | some b=>
     rw[hl']at J;refine⟨.inl J.1,?_⟩;rw[Y,X7 hi (λh=>e h.symm)];have I:b≠g:=AN J.2 ho (by decide) rfl rfl;have U:b≠q:=AN J.2 hr (by decide) rfl rfl;have r1:=AX (q:=g) (j:=k) J.2 (pP w.heap.size) (λy hy=>by cases hy;exact I);exact Rec.gr (AX r1 _ (λy hy=>by cases hy;exact U)) ((Gr.refl _).alloc _)
  ·rw[PJ O]at ha hb
   have Xa:∀j,L.getD j none≠some w.heap.size:=λj hj=>by
    by_cases Xh:j<CW pt.length
    ·have:=ht j Xh;rw[hj]at this;exact absurd this.2.lt (ζS _)
    ·rw[δ,ζv Ω]at hj;cases hj
   by_cases e1:k=a <;> by_cases e2:k=b
   ·rw[<-e1,e2]
   ·rw[μ e1]at ha;rw[κ e2]at hb;cases ha;exact absurd hb (Xa b)
   ·rw[κ e1]at ha;rw[μ e2]at hb;cases hb;exact absurd ha (Xa a)
   ·rw[κ e1]at ha;rw[κ e2]at hb;exact hd _ _ _ ha hb
 | some b=>
  rw[hl]at hh cg;obtain⟨sb,hb⟩:=hh;have I:b≠g:=AN hb ho (by decide) rfl rfl;have Xb:g≠b:=λe=>I e.symm;have U:b≠q:=AN hb hr (by decide) rfl rfl;have B:q≠b:=λe=>U e.symm;have cb:=hb.cell (Z1 pt k hi);have cn:=hb.cell (XMj pt k);have Xd:i<(CC pt k).length:=by rw[IF];exact hi
  have E:(CC pt k).getD i 0=pt.getD p 0:=by rw[N7 _ _ hi,Y]
  have Xk:if x=0 then nz ((CC pt k).set i x)+1=nz (CC pt k)/\nz (pt.set p x)+1=nz pt else nz ((CC pt k).set i x)=nz (CC pt k)+1/\nz (pt.set p x)=nz pt+1:=by
   by_cases e:x=0
   ·rw[μ e]at hxx⊢;subst e;exact⟨VC Xd (by rw[E];exact hxx),VC hp hxx⟩
   ·rw[κ e]at hxx⊢;exact⟨OY Xd (by rw[E];exact hxx) e,OY hp hxx e⟩
  have l1:=MS (CC pt k);have l2:=MS ((CC pt k).set i x);rw[ν]at l2;rw[IF]at l1 l2;have l3:=MS (pt.set p x);rw[X]at l3;refine(YAa c0 c2 f2 cg fg cb cn (hb.free i) (hb.free 256) M I U hk hn hi Ω (m':=nz (pt.set p x)) Ω l1 l2 hx Xk Y).mono ?_;rintro e w' ⟨rfl,rfl⟩;obtain⟨t',G⟩:∃t',t'=nz ((CC pt k).set i x):=⟨_,rfl⟩;rw[<-G];have D:=VXI (pt:=pt) (k:=k) (i:=i) (x:=x) (t:=t') Ω hi G.symm;rw[<-Y]at D
  -- the world behind the first three stores
  obtain⟨W,hW⟩:∃W,W=((w.setCell ⟨b,i,none⟩ (.int .u32 x)).setCell ⟨b,256,none⟩ (.int .i64 t')).setCell ⟨q,2,none⟩ (.int .i64 (nz (pt.set p x):Nat)):=⟨_,rfl⟩;have TW:AB S w W:=by rw[hW];exact((AB.refl S w).setCell (a:=⟨b,i,none⟩) (λ_=>sb) _ |>.setCell (a:=⟨b,256,none⟩) (λ_=>sb) _).setCell (a:=⟨q,2,none⟩) (λ_=>sq) _
  have RQ:Rec W q 203 [.slice (some ⟨g,0,none⟩) (CW pt.length) c,iI pt.length,iI (nz (pt.set p x):Nat)]:=by
   rw[hW];have r1:=AX (q:=b) (j:=i) hr (.int .u32 x) (λy hy=>by cases hy;exact B);have r2:=AX (q:=b) (j:=256) r1 (iI t') (λy hy=>by cases hy;exact B);exact Rec.set r2 2 _
  have RG:W.ownsRow 0 290 1 (.slice (some ⟨g,0,none⟩) (CW pt.length) c) (CW pt.length) (GT L):=by
   rw[hW];exact AX (AX (AX ho _ (λy hy=>by cases hy;exact Xb)) _ (λy hy=>by cases hy;exact Xb)) _ (λy hy=>by cases hy;exact Xc)
  have RB:Rec W b 293 (EV (pt.set p x) k):=by
   rw[hW,D];exact AX (Rec.set (Rec.set hb i _) 256 _) _ (λy hy=>by cases hy;exact U)
  have RO:∀j y,j≠k->j<CW pt.length->L.getD j none=some y->S y/\Rec W y 293 (EV (pt.set p x) j):=λj y hj hj2 hy=>by
   have:=ht j hj2;rw[hy]at this;refine⟨this.1,?_⟩;rw[Y,X7 hi hj,hW];have Xe:y≠b:=λe=>hj (hd _ _ _ (by rw[e]at hy;exact hy) hl);have Xg:y≠q:=AN this.2 hr (by decide) rfl rfl;exact AX (AX (AX this.2 _ (λz hz=>by cases hz;exact Xe)) _ (λz hz=>by cases hz;exact Xe)) _ (λz hz=>by cases hz;exact Xg)
  have RN:∀j,j≠k->j<CW pt.length->L.getD j none=none->∀y,y<256->(pt.set p x).getD (256*j+y) 0=0:=λj hj hj2 hy y hy2=>by
   have:=ht j hj2;rw[hy]at this;rw[EN hp,κ Ω];exact this y hy2
  unfold OF;by_cases h0:t'=0
  ·rw[μ h0,<-hW];refine⟨rfl,TW.setCell (a:=⟨g,k,none⟩) (λ_=>sg) _,V,.inl sq,g,c,L.set k none,?_,by rw[X];exact h1,h2,.inl sg,?_,λj hj=>?_,λa y z ha hz=>?_⟩
   ·rw[X];exact AX RQ _ (λy hy=>by cases hy;exact M)
   ·rw[X,Vna];exact(World.ownsRow.stored RG k _).1
   ·rw[X]at hj;rw[PJ O];by_cases e:k=j
    ·subst e;rw[μ rfl];intro y hy;have:=Z2A (l:=(CC pt k).set i x) (by rw[<-G];exact h0) (i:=y) (by rw[ν,IF];exact hy);rw[<-YO Ω,N7 _ _ hy,<-Y]at this;exact this
    ·rw[κ e];cases hl':L.getD j none with
     | none=>exact RN j (λh=>e h.symm) hj hl'
     | some y=>
      have:=RO j y (λh=>e h.symm) hj hl';have Xf:y≠g:=AN this.2 RG (by decide) rfl rfl;exact⟨.inl this.1,AX this.2 _ (λz hz=>by cases hz;exact Xf)⟩
   ·rw[PJ O]at ha hz;by_cases e1:k=a
    ·rw[μ e1]at ha;cases ha
    ·by_cases e2:k=y
     ·rw[μ e2]at hz;cases hz
     ·rw[κ e1]at ha;rw[κ e2]at hz;exact hd _ _ _ ha hz
  ·rw[κ h0,<-hW];refine⟨rfl,TW,V,.inl sq,g,c,L,?_,by rw[X];exact h1,h2,.inl sg,?_,λj hj=>?_,hd⟩
   ·rw[X];exact RQ
   ·rw[X];exact RG
   ·rw[X]at hj;by_cases e:k=j
    ·subst e;rw[hl];exact⟨.inl sb,RB⟩
    ·cases hl':L.getD j none with
     | none=>exact RN j (λh=>e h.symm) hj hl'
     | some y=>
      have:=RO j y (λh=>e h.symm) hj hl';exact⟨.inl this.1,this.2⟩
end
def frE(pt:List Nat)(p:Int):Int:=if pgE pt p=0 then (if pt.getD p.toNat 0=0 then 12 else 0)else 11
def frV(pt:List Nat)(p:Int):Int:=if frE pt p=0 then (pt.getD p.toNat 0:Nat)-1 else 0
section
variable {w:World} {S:Nat->Prop} {q:Nat} {pt:List Nat}
theorem RT(hM:C6 w S q pt){b:Nat}{p:Int}(hc:w.cell? ⟨b,0,none⟩=some (iI p)):cQ 222 #[pP q,.slice (some ⟨b,0,none⟩) 1 1] w (iI (pgE pt p)):=by
 have:=XaF hM (b:=b) (n:=1) (l:=[p]) rfl Ω (λi hi=>by
  simp_all)
 refine this.mono ?_;rintro e w' ⟨rfl,rfl⟩;refine⟨AL ?_,rfl⟩;unfold MX;rcases Z7Q pt p with h|h|h
 ·simp[h.2]
 ·simp[h.2.2]
 simp_all
theorem PM{pt:List Nat}{p:Int}(h:pgE pt p=0):∃j:Nat,p=j/\j<pt.length:=by
 unfold pgE at h
 split at h
 ·exact⟨p.toNat,by omega,by omega⟩
 ·cases h
theorem XAh(pt:List Nat)(p:Int):pgE pt p=0\/pgE pt p=11:=by unfold pgE;omega
theorem KK(hM:C6 w S q pt)(p:Int):Calls prog 197 #[pP q,iI p] w λe w'=>e=.returned (.tuple #[iI (frV pt p),iI (frE pt p)])/\Gr w w':=by
 have HM:=hM;rcases XAh pt p with h0|h0
 ·obtain⟨j,rfl,hj⟩:=PM h0
  have hl:pt.getD j 0<4294967296:=by
   rw[δ,ζb hj];exact hM.ok.lt _ (χ hj)
  have HV:Hid (frE pt j=if pt.getD j 0=0 then 12 else 0):=⟨by unfold frE;simp_all⟩;have HF:Hid (frV pt j=if frE pt j=0 then ((pt.getD j 0:Nat):Int)-1 else 0):=⟨by unfold frV;simp_all⟩;have HG:=(λ(w':World) (h:Gr w w')=>ZL (hM.gr h) hj);have H0:=h0;generalize pt.getD j 0=x at HV HF HG hl;by_cases hx:x=0
  ·subst hx;have E1:=HV.o;rw[μ rfl]at E1;have E2:=HF.o;rw[E1,κ (by decide)]at E2;have HE:=(ϑ E1 E2);go_enter func197,ntmps197
   go_wp2_with(first
    | (go_at_call 222;refine(RT (HM.gr ((Gr.refl w).alloc _)) (p:=j) (ζC _ _ _ 0 rfl)).mono ?_;rintro e w1 ⟨rfl,rfl⟩;rw[H0])
    | (go_at_call 223;refine(HG _ ((Gr.refl w).alloc _)).mono ?_;rintro e w1 ⟨rfl,rfl⟩))
   go_ret2;exact⟨BI (BL (by rw[HE.2])) (BL (by rw[HE.1])),(Gr.refl w).alloc _⟩
  ·have E1:=HV.o;rw[κ hx]at E1;have E2:=HF.o;rw[E1,μ rfl]at E2;have HE:=(ϑ E1 E2);have d0:((x:Int)==0)=false:=by simp_all
   go_enter func197,ntmps197
   go_wp2_with(first
    | (go_at_call 222;refine(RT (HM.gr ((Gr.refl w).alloc _)) (p:=j) (ζC _ _ _ 0 rfl)).mono ?_;rintro e w1 ⟨rfl,rfl⟩;rw[H0])
    | (go_at_call 223;refine(HG _ ((Gr.refl w).alloc _)).mono ?_;rintro e w1 ⟨rfl,rfl⟩))
   go_ret2;exact⟨BI (BL (by rw[HE.2])) (BL (by rw[HE.1])),(Gr.refl w).alloc _⟩
 ·have E1:frE pt p=11:=by unfold frE;omega
  have E2:frV pt p=0:=by unfold frV;omega
  have HE:=(ϑ E1 E2);have H0:=h0;go_enter func197,ntmps197;go_wp2_with(go_at_call 222;refine(RT (HM.gr ((Gr.refl w).alloc _)) (p:=p) (ζC _ _ _ 0 rfl)).mono ?_;rintro e w1 ⟨rfl,rfl⟩;rw[H0]);go_ret2;exact⟨BI (BL (by rw[HE.2])) (BL (by rw[HE.1])),(Gr.refl w).alloc _⟩
theorem YTd(hM:C6 w S q pt){p f:Nat}(hp:p<pt.length)(h0:pt.getD p 0=0)(hf:f<4096):Calls prog 199 #[pP q,iI p,iI f] w λe w'=>e=.returned (iI 0)/\V2 w S q pt p (f+1) w':=by
 have HM:=hM;have HI:Hid (pgE pt p=0):=⟨by unfold pgE;rw[μ ⟨by omega,by omega⟩]⟩;have HG:=(λ(w':World) (h:Gr w w')=>ZL (hM.gr h) hp);have HS:=(λ(w':World) (h:Gr w w')=>ZX (hM.gr h) (x:=f+1) hp Ω (by exact h0));rw[h0]at HG;go_enter func199,ntmps199
 go_wp2_with(first
  | (go_at_call 222;refine(RT (HM.gr ((Gr.refl w).alloc _)) (p:=p) (ζC _ _ _ 0 rfl)).mono ?_;rintro e w1 ⟨rfl,rfl⟩;rw[HI.o])
  | (go_at_call 223;refine(HG _ ((Gr.refl w).alloc _)).mono ?_;rintro e w1 ⟨rfl,rfl⟩)
  | (go_at_call 201;refine(HS _ ((Gr.refl w).alloc _)).mono ?_;rintro e w1 ⟨rfl,X⟩;have HE:=X))
 go_ret;obtain⟨t1,t2⟩:=HE;exact⟨rfl,(((Gr.refl w).alloc _).touch S).trans t1,t2.mono (λk hk=>hk.imp id (λh=>ζa ((Gr.refl w).alloc _).size h))⟩
def QcT(w:World)(S:Nat->Prop)(q:Nat)(pt:List Nat)(p:Int)(w':World):Prop:=(frE pt p≠0/\Gr w w')\/(frE pt p=0/\V2 w S q pt p.toNat 0 w')
theorem M6{pt:List Nat}{p:Int}(h:frE pt p=0):∃j:Nat,p=j/\j<pt.length/\pt.getD j 0≠0:=by
 unfold frE at h
 grind [PM]
theorem XlB(pt:List Nat)(p:Int):0<=frE pt p/\frE pt p<=12:=by unfold frE;omega
theorem Yzj(hM:C6 w S q pt)(p:Int):Calls prog 166 #[pP q,iI p] w λe w'=>e=.returned (.tuple #[iI (frV pt p),iI (frE pt p)])/\QcT w S q pt p w':=by
 have HM:=hM;by_cases h0:frE pt p=0
 ·have HZ:=h0;obtain⟨j,rfl,hj,hx⟩:=M6 h0;have HS:=(λ(w':World) (h:Gr w w')=>ZX (hM.gr h) (x:=0) hj Ω (by exact hx));go_enter func166,ntmps166
  go_wp2_with(first
   | (go_at_call 197;refine(KK HM j).mono ?_;rintro e w1 ⟨rfl,Y⟩;have X:=Y)
   | (go_at_call 201;refine(HS _ X).mono ?_;rintro e w2 ⟨rfl,Z⟩;have HE:=Z))
  go_ret2;obtain⟨t1,t2⟩:=HE;refine⟨BI rfl (BL (by rw[HZ])),.inr ⟨HZ,(X.touch S).trans t1,?_⟩⟩;exact t2.mono (λk hk=>hk.imp id (λh=>ζa X.size h))
 ·have HZ:=h0;have hr:=XlB pt p;obtain⟨x,hx⟩:∃x,x=frE pt p:=⟨_,rfl⟩;have HX:=ι hx;rw[<-hx]at h0 hr;have d0:(x==0)=false:=by simpa using h0
  clear hM hx;go_enter func166,ntmps166;go_wp2_with(go_at_call 197;refine(KK HM p).mono ?_;rintro e w1 ⟨rfl,Y⟩;rw[<-HX.o];have X:=Y);go_ret2;exact⟨BI rfl (BL (by rw[HX.o])),.inl ⟨HZ,X⟩⟩
theorem JA.new{n:Nat}(h1:1<=n)(h2:n<=524288):JA (List.replicate n 0):=
 ⟨by simp_all,by simp_all,λx hx=>by simp_all⟩
theorem NT(n i:Nat):(List.replicate n 0).getD i 0=0:=by
 grind
theorem Qr3:(prog.info? 290).map (λi=>(i.zero,i.size,i.bytes))=some (some (.pointer none),1,8):=by kernel_rfl
theorem JxF(n:Nat):(madeCells #[.pointer none] n).toList=GT (List.replicate n none):=by
 unfold madeCells GT;apply ζ4
 ·simp
 grind
theorem QY{w:World}{base E size:Nat}{v:Value}{n:Nat}{xs:List Value}(h:w.ownsRow base E size v n xs):w.ownsRow 0 E size v n xs:=by
 obtain⟨h1,h|⟨g,c,X,e1,e2,h⟩⟩:=h
 ·exact⟨h1,.inl h⟩
 ·exact⟨h1,.inr ⟨g,c,X,e1,ζe _,h⟩⟩
theorem J3k{n:Nat}(h1:1<=n)(h2:n<=524288):Calls prog 81 #[iI n] w λe w'=>∃q,e=.returned (.tuple #[pP q,iI 0])/\Gr w w'/\C6 w' (λk=>w.heap.size<=k) q (List.replicate n 0):=by
 obtain⟨i0,hi,U,Z,hz2⟩:=info_parts Qr3;have e1:((n:Int)+256-1)/256=(CW n:Int):=by unfold CW;omega
 have b0:CW n<=2048:=WS h2;have HB:Hid (i0.bytes*CW n<=281474976710656):=⟨by grind⟩;have HM:Hid (CW n<=maxLen):=⟨by unfold maxLen;omega⟩;go_enter func81,ntmps81;go_wp2_with(at_make;refine wpList_make_full _ rfl _ _ 201 rfl w.heap.size 290 i0 (.pointer none) 1 underlying201 hi U Z .i64 .i64 _ _ (CW n) rfl rfl ?h1 ?h2 HB.o HM.o (π _) ?h3)
 case h1=>omega
 case h2=>omega
 case h3=>
  intro w1 X Y;have J:Gr w w1:=(J1 Y (λ_=>False) (λk e _=>by cases e)).gr;have HO:=(QY X);have HG:=J;go_wp2;go_ret2;have hl:(List.replicate n 0).length=n:=ζG;have X:=HO;rw[JxF]at X;refine⟨_,BI rfl rfl,HG.alloc _,JA.new h1 h2,HG.size,w.heap.size,CW n,List.replicate (CW n) none,?_,by simp_all,HM.o,π _,?_,λk hk=>?_,λk j b hk=>?_⟩
  ·grind [Q8,Rec.new]
  ·rw[hl];exact CK X ((Gr.refl _).alloc _)
  ·grind
  grind
end
end Go.Proofs.YteihjlcmjecmfaaGreatDoor
