/- Part 2 of what QueueNobody leans on: my own lemmas, merged by shake.py. -/
import Derived.Test.YtggjoonlcjjgkaaGreatDoorQueueNobodyA
import Derived.Shelf.Abstract
import Derived.Shelf.RegionOpen
import Derived.OwnWalkIn
import Derived.TacticsInMore
import Derived.LoopNIn
import Derived.LoopIn
import Derived.Stop.RegionWithIn
import Derived.Sort.CutIn
namespace Go.Proofs.YtggjoonlcjjgkaaGreatDoor
open _root_.Go.Proofs.Tryz
set_option maxHeartbeats 3200000
set_option maxRecDepth 100000
open Go.RowKit Word
variable{a base f s z:Int}{l:List Bool}{B BASE F X b i j k m m' n p p1 p2 q x:Nat}{S:Nat->Prop}{P Q:Prop}{v:Value}{W w w' w1 wr:World}
theorem AI(k : Q)(h : Hid Q → P := by intro hq;refine NP ?_;(try simp only[AF,μ,ν]);(repeat(go_big_quiet_step (fail)));refine ζb ?_;exact hq.o) : P := h ⟨k⟩
theorem DN(k : Q)(h : Hid Q → P := by intro hq;refine M6 ?_;(try simp only[AF,μ,ν]);(repeat(go_big_quiet_step (fail)));refine ζb ?_;exact hq.o) : P := h ⟨k⟩
theorem FY(k : Q)(h : Hid Q → P := by intro hq;refine X0q ?_;(try simp only[AF,μ,ν]);(repeat(go_big_quiet_step (fail)));refine ζb ?_;refine ζA ?_;exact hq.o) : P := h ⟨k⟩
theorem LH(k : Q)(h : Hid Q → P := by intro hq;refine IN ?_;(try simp only[AF,μ,ν]);(repeat(go_big_quiet_step (fail)));refine ζb ?_;exact hq.o) : P := h ⟨k⟩
theorem MH(k : Q)(h : Hid Q → P := by intro hq;refine YAC ?_;(try simp only[AF,μ,ν]);(repeat(go_big_quiet_step (fail)));refine ζb ?_;refine ζA ?_;exact hq.o) : P := h ⟨k⟩
theorem BE(k : Q)(h : Hid Q → P := by intro hq;refine EI ?_;(try simp only[AF,μ,ν]);(repeat(go_big_quiet_step (fail)));refine ζb ?_;refine ζA ?_;exact hq.o) : P := h ⟨k⟩
theorem Vqh(k : Q)(h : Hid Q → P := by intro hq;(try simp only[AF,μ,ν]);(repeat(go_big_quiet_step (fail)));refine ζb ?_;exact hq.o) : P := h ⟨k⟩
theorem GU(k : Q)(h : Hid Q → P := by intro hq;refine Xw6 ?_;(try simp only[AF,μ,ν]);(repeat(go_big_quiet_step (fail)));refine ζb ?_;exact hq.o) : P := h ⟨k⟩
theorem ZN(k : Q)(h : Hid Q → P := by intro hq;refine YqX ?_;(try simp only[AF,μ,ν]);(repeat(go_big_quiet_step (fail)));refine ζb ?_;refine ζA ?_;exact hq.o) : P := h ⟨k⟩
theorem TT(k : Q)(h : Hid Q → P := by intro hq;refine M4 ?_;(try simp only[AF,μ,ν]);(repeat(go_big_quiet_step (fail)));refine ζb ?_;exact hq.o) : P := h ⟨k⟩
theorem RT(k : Q)(h : Hid Q → P := by intro hq;refine Vy6 ?_;(try simp only[AF,μ,ν]);(repeat(go_big_quiet_step (fail)));refine ζb ?_;refine ζA ?_;exact hq.o) : P := h ⟨k⟩
abbrev Ob:=Nat×Nat
variable{L:List Ob}{o:Ob}
structure AO(n:Nat)(L:List Ob):Prop where
 pw:L.Pairwise (λo q=>o.1+o.2<=q.1)
 sz:∀o∈L,1<=o.2/\o.1+o.2<=n
theorem AO.nil(n:Nat):AO n []:=⟨List.Pairwise.nil,λ_ h=>by cases h⟩
theorem AO.at(h:AO n L)(hi:i<L.length)(hj:j<L.length)(hij:i<j):L[i].1+L[i].2<=L[j].1:=List.pairwise_iff_getElem.1 h.pw i j hi hj hij
theorem AO.disj(h:AO n L){q:Ob}(ho:o∈L)(hq:q∈L):o=q\/o.1+o.2<=q.1\/q.1+q.2<=o.1:=by
 obtain⟨i,hi,rfl⟩:=ζo ho;obtain⟨j,hj,rfl⟩:=ζo hq;rcases ζR i j with X|rfl|X
 ·exact .inr (.inl (h.at hi hj X))
 ·simp_all
 ·exact .inr (.inr (h.at hj hi X))
theorem AO.len:∀{L:List Ob},AO n L->L.length<=n:=by
 intro L h
 have X:∀(L:List Ob),L.Pairwise (λo q=>o.1+o.2<=q.1)->(∀o∈L,1<=o.2/\o.1+o.2<=n)->∀a,a<=n->(∀o∈L,a<=o.1)->a+L.length<=n:=by
  intro L
  induction L with
  | nil=>simp_all
  | cons o r ih=>
   intro hp hs a ha hl;obtain⟨h1,h2⟩:=ξd.1 hp;have ho:=hs o (ζh ..);have:=ih h2 (λq hq=>hs q (ζl _ hq)) (o.1+o.2) ho.2 (λq hq=>h1 q hq)
   grind
 have:=X L h.pw h.sz 0 (ζg _) (λ_ _=>ζg _);omega
def BV(n:Nat)(L:List Ob):List Bool:=(List.range n).map λi=>L.any λo=>o.1==i
def DT(n:Nat)(L:List Ob):List Bool:=(List.range n).map λi=>L.any λo=>o.1+o.2==i+1
theorem H9(n:Nat)(L:List Ob):(BV n L).length=n:=by simp[BV]
theorem PJ(n:Nat)(L:List Ob):(DT n L).length=n:=by simp[DT]
theorem I5(f:Nat->Bool)(n i:Nat):at_ ((List.range n).map f) i=(decide (i<n)&&f i):=by
 unfold at_
 grind
theorem JJ(h:AO n L)(i:Nat):at_ (BV n L) i=true↔∃o∈L,o.1=i:=by
 unfold BV;rw[I5];simp only[ζd,ζc,ξ1,ζ9];constructor
 ·simp_all
 ·rintro⟨o,ho,rfl⟩;have:=h.sz o ho;grind
theorem RJ(h:AO n L)(i:Nat):at_ (DT n L) i=true↔∃o∈L,o.1+o.2=i+1:=by
 unfold DT;rw[I5];simp only[ζd,ζc,ξ1,ζ9];constructor
 ·simp_all
 ·rintro⟨o,ho,e⟩;have:=h.sz o ho;grind
theorem Zox(h:AO n L)(ho:o∈L):BN (DT n L) (o.1:Int)=o.1+o.2-1/\o.1+o.2-1<(DT n L).length:=by
 have hs:=h.sz o ho
 have:=VuI (l:=DT n L) (a:=(o.1:Int)) (k:=o.1+o.2-1) (λi hi hc=>by
  obtain⟨q,hq,e⟩:=(RJ h i).1 hc.1
  rcases h.disj ho hq with rfl|hd|hd <;> omega) ((RJ h _).2 ⟨o,ho,by omega⟩) Ω
 omega
def A4(L:List Ob)(a:Int):Nat:=L.findIdx λo=>decide (a<=o.1)
theorem NQ(L:List Ob)(a:Int):A4 L a<=L.length:=List.findIdx_le_length
theorem KM(h:i<A4 L a)(hi:i<L.length):(L[i].1:Int)<a:=by
 have:=List.not_of_lt_findIdx h
 simp_all
theorem LY(h:A4 L a<L.length):a<=(L[A4 L a]'h).1:=by
 have:=List.findIdx_getElem (p:=λo:Ob=>decide (a<=(o.1:Int))) (w:=h);simp only[ζc]at this;exact this
theorem LP(hj:j<=L.length)(hn:∀i (hi:i<L.length),i<j->(L[i].1:Int)<a)(hy:∀h:j<L.length,a<=(L[j].1:Int)):A4 L a=j:=by
 rcases ζR (A4 L a) j with h|h|h
 ·have h1:=LY (L:=L) (a:=a) Ω
  grind
 ·exact h
 ·have X:j<L.length:=by grind [NQ]
  have h1:=KM h X
  grind
theorem MU(h:AO n L)(hj:A4 L a<L.length):BN (BV n L) a=(L[A4 L a]).1/\BN (BV n L) a<(BV n L).length:=by
 have hy:=LY hj;refine VuI (λi hi hc=>?_) ((JJ h _).2 ⟨_,κ hj,rfl⟩) Ω;obtain⟨q,hq,e⟩:=(JJ h i).1 hc.1;obtain⟨k,hk,rfl⟩:=ζo hq;rcases ζR k (A4 L a)with X|rfl|X
 ·have:=KM X hk;omega
 ·omega
 ·have:=h.at hj hk X;omega
theorem VS(h:AO n L)(hj:¬A4 L a<L.length):BN (BV n L) a=(BV n L).length:=by
 grind [XoQ,JJ,ζo,KM]
theorem X1z(h:AO n L)(hj:j<L.length):A4 L ((L[j].1:Int)+(L[j].2:Int))=j+1:=by
 refine LP Ω (λi hi hij=>?_) (λh2=>?_)
 ·have hs:=h.sz _ (κ hj);rcases υ i j with h1|h1
  ·have:=h.at hi hj h1;omega
  grind
 ·have:=h.at hj h2 (ξH j);omega
def Q9(a:Int)(o:Ob):Bool:=decide ((o.1:Int)<=a/\a<o.1+o.2)
def AZ(L:List Ob)(a:Int):Nat:=L.findIdx (Q9 a)
theorem JtS(L:List Ob)(a:Int):AZ L a<=L.length:=List.findIdx_le_length
theorem H7(h:AZ L a<L.length):((L[AZ L a]'h).1:Int)<=a/\a<(L[AZ L a]'h).1+(L[AZ L a]'h).2:=by
 have:=List.findIdx_getElem (p:=Q9 a) (w:=h);simp only[Q9,ζc]at this;exact this
theorem WD(h:i<AZ L a)(hi:i<L.length):¬((L[i].1:Int)<=a/\a<L[i].1+L[i].2):=by
 have:=List.not_of_lt_findIdx h;simpa[Q9]using this
theorem NZ(h:AO n L)(hj:j<L.length)(h1:(L[j].1:Int)<=a)(h2:a<L[j].1+L[j].2):AZ L a=j:=by
 rcases ζR (AZ L a) j with X|he|X
 ·have hy:=H7 (L:=L) (a:=a) Ω;have:=h.at (i:=AZ L a) Ω hj X;omega
 ·exact he
 ·exact absurd ⟨h1,h2⟩ (WD X hj)
theorem OJ(h:∀o∈L,¬((o.1:Int)<=a/\a<o.1+o.2)):AZ L a=L.length:=by
 rcases υ (AZ L a) L.length with h1|h1
 ·exact absurd (H7 h1) (h _ (κ h1))
 grind [JtS]
theorem XA1(h:AO n L)(a:Int):(ED (BV n L) (a+1) = -1/\∀o∈L,a<(o.1:Int))\/∃j,∃hj:j<L.length,ED (BV n L) (a+1)=(L[j].1:Int)/\(L[j].1:Int)<=a/\∀i (hi:i<L.length),j<i->a<(L[i].1:Int):=by
 have hx:=NQ L (a+1);rcases ζB (A4 L (a+1))with h0|h0
 ·left
  have Y:∀o∈L,a<(o.1:Int):=λo ho=>by
   obtain⟨k,hk,rfl⟩:=ζo ho;have hy:=LY (L:=L) (a:=a+1) Ω;rcases ζB k with rfl|J
   ·grind
   ·have:=h.at (i:=0) (j:=k) Ω hk J
    grind
  grind [Xaz,JJ]
 ·right;obtain⟨j,hj⟩:∃j,A4 L (a+1)=j+1:=⟨A4 L (a+1)-1,by omega⟩;have X:j<L.length:=Ω
  have h1:=KM (L:=L) (a:=a+1) (i:=j) Ω X
  have Y:∀i (hi:i<L.length),j<i->a<(L[i].1:Int):=λi hi hij=>by
   have hy:=LY (L:=L) (a:=a+1) Ω;rcases υ (A4 L (a+1)) i with h2|h2
   ·have:=h.at (i:=A4 L (a+1)) Ω hi h2;omega
   grind
  refine⟨j,X,YBm (λi hij hc=>?_) ((JJ h _).2 ⟨_,κ X,rfl⟩) Ω,by omega,Y⟩;obtain⟨q,hq,e⟩:=(JJ h i).1 hc.1;obtain⟨k,hk,rfl⟩:=ζo hq;rcases ζR k j with Z|rfl|Z
  ·have:=h.at hk X Z;omega
  ·omega
  grind
def DG(L:List Ob)(i:Nat):Bool:=L.any λo=>decide (o.1<=i/\i<o.1+o.2)
theorem NL:DG L i=true↔∃o∈L,o.1<=i/\i<o.1+o.2:=by simp[DG]
theorem Q5g:DG L i=decide (AZ L (i:Int)<L.length):=by
 by_cases h:AZ L (i:Int)<L.length
 ·rw[φ h];have:=H7 h;exact NL.2 ⟨_,κ h,by omega,by omega⟩
 ·rw[ζ h];cases hb:DG L i with
  | false=>rfl
  | true=>
   obtain⟨o,ho,h1,h2⟩:=NL.1 hb;obtain⟨k,hk,rfl⟩:=ζo ho;exact absurd ⟨by omega,by omega⟩ (WD (L:=L) (a:=(i:Int)) (i:=k) Ω hk)
def JQ(L:List Ob)(n:Nat)(f t:Int):Nat:=cnt (λi=>decide (f<=(i:Nat)/\((i:Nat):Int)<t)&&DG L i) n
def CY(o:Ob)(f t:Int):Int:=max 0 (min (o.1+o.2:Int) t-max (o.1:Int) f)
def AY(L:List Ob)(f t:Int):Int:=(L.map λo=>CY o f t).sum
theorem RS(a b n:Nat)(h1:a<=b)(h2:b<=n):cnt (λi=>decide (a<=i/\i<b)) n=b-a:=by
 induction n generalizing b with
 | zero=>rw[KR];omega
 | succ n ih=>
  rw[CL];rcases υ n b with h|h
  ·have e:cnt (λi=>decide (a<=i/\i<b)) n=cnt (λi=>decide (a<=i/\i<b-1)) n\/a=b:=by
    by_cases X:a=b
    ·exact .inr X
    ·exact .inl (CO (λi hi=>ξr.2 Ω))
   rcases e with e|e
   ·by_cases X:a=b
    ·subst X;rw[GO (λi _=>ζ Ω),ζ Ω];simp
    ·rw[e,ih (b-1) Ω Ω,φ Ω];simp;omega
   ·subst e;rw[GO (λi _=>ζ Ω),ζ Ω];simp
  simp_all
theorem XFd(n:Nat)(f t:Int):JQ [] n f t=0:=GO (λi _=>by simp[DG])
theorem X5c(ho:o.1+o.2<=n)(f t:Int):((cnt (λi=>decide (f<=(i:Nat)/\((i:Nat):Int)<t)&&decide (o.1<=i/\i<o.1+o.2)) n:Nat):Int)=CY o f t:=by
 unfold CY;by_cases h:max (o.1:Int) f<min (o.1+o.2:Int) t
 ·have e:cnt (λi=>decide (f<=(i:Nat)/\((i:Nat):Int)<t)&&decide (o.1<=i/\i<o.1+o.2)) n=cnt (λi=>decide ((max (o.1:Int) f).toNat<=i/\i<(min (o.1+o.2:Int) t).toNat)) n:=
   CO (λi _=>by grind)
  rw[e,RS _ _ _ Ω Ω];omega
 grind [GO,Bool.decide_and,ζ]
theorem QP:∀{L:List Ob},AO n L->∀(f t:Int),((JQ L n f t:Nat):Int)=AY L f t:=by
 intro L
 induction L with
 | nil=>intro _ f t;rw[XFd];rfl
 | cons o r ih=>
  intro h f t;obtain⟨h1,h2⟩:=ξd.1 h.pw;have hr:AO n r:=⟨h2,λq hq=>h.sz q (ζl _ hq)⟩;have ho:=h.sz o (ζh ..)
  have hs:=LF (f:=λi=>decide (f<=(i:Nat)/\((i:Nat):Int)<t)&&decide (o.1<=i/\i<o.1+o.2)) (g:=λi=>decide (f<=(i:Nat)/\((i:Nat):Int)<t)&&DG r i) (λi=>by
   by_cases hc:o.1<=i/\i<o.1+o.2
   ·have:DG r i=false:=by
     cases hb:DG r i with
     | false=>rfl
     | true=>obtain⟨q,hq,h3,h4⟩:=NL.1 hb;grind
    simp_all
   grind) n
  have e:JQ (o :: r) n f t=cnt (λi=>(decide (f<=(i:Nat)/\((i:Nat):Int)<t)&&decide (o.1<=i/\i<o.1+o.2))||(decide (f<=(i:Nat)/\((i:Nat):Int)<t)&&DG r i)) n:=
   CO (λi _=>by rw[<-Bool.and_or_distrib_left];rfl)
  rw[e,hs,Int.natCast_add,X5c ho.2];have:=ih hr f t;unfold JQ at this;rw[this];simp[AY]
theorem YSu(L M:List Ob)(f t:Int):AY (L++M) f t=AY L f t+AY M f t:=by simp[AY]
theorem XLs{t:Int}(h:(o.1+o.2:Int)<=f\/t<=o.1):CY o f t=0:=by unfold CY;omega
theorem QF{t:Int}(h:∀o∈L,(o.1+o.2:Int)<=f\/t<=o.1):AY L f t=0:=by
 induction L with
 | nil=>rfl
 | cons o r ih=>
  have:=ih (λq hq=>h q (ζl _ hq));have h2:=XLs (h o (ζh ..));simp only[AY,ξP,List.sum_cons]at this⊢;omega
theorem UD(hj:j<L.length)(f t:Int):AY (L.take (j+1)) f t=AY (L.take j) f t+CY L[j] f t:=by
 rw[ζW hj,YSu];simp[AY]
theorem S4(L:List Ob)(j:Nat)(f t:Int):AY L f t=AY (L.take j) f t+AY (L.drop j) f t:=by
 rw[<-YSu,ψn]
theorem NM(h:o∈L.take j):∃i,∃hi:i<L.length,i<j/\L[i]=o:=by
 grind [ζo,List.length_take]
theorem JEg(h:o∈L.drop j):∃i,∃hi:i<L.length,j<=i/\L[i]=o:=by
 grind [ζo,List.length_drop]
theorem Vth(h:AO n L){t:Int}:
  AY (L.take (A4 L f)) f t=if AZ L f<L.length/\(L[AZ L f]?.getD (0,0)).1<f/\f<t then min ((L[AZ L f]?.getD (0,0)).1+(L[AZ L f]?.getD (0,0)).2:Int) t-f else 0:=by
 by_cases X:AZ L f<L.length
 ·have hy:=H7 X;have hg:L[AZ L f]?.getD (0,0)=L[AZ L f]:=by rw[η X];rfl
  rw[hg];by_cases hlt:(L[AZ L f].1:Int)<f
  ·have hn:A4 L f=AZ L f+1:=LP Ω (λi hi Y=>by
    rcases υ i (AZ L f)with h1|h1
    ·have:=h.at hi X h1;omega
    ·have:i=AZ L f:=Ω
     subst this;omega) (λh2=>by have:=h.at X h2 (ξH _);omega)
   rw[hn,UD X,QF (λo ho=>by
    obtain⟨i,hi,Y,rfl⟩:=NM ho
    have:=h.at hi X Y;left;omega)]
   by_cases hft:f<t
   ·unfold CY;omega
   ·unfold CY;omega
  ·rw[ψ Ω];refine QF (λo ho=>?_);obtain⟨i,hi,Y,rfl⟩:=NM ho;have h1:=KM Y hi;rcases ζR i (AZ L f)with h2|rfl|h2
   ·have:=h.at hi X h2;left;omega
   ·omega
   ·have:=h.at X hi h2;omega
 ·rw[ψ Ω];refine QF (λo ho=>?_);obtain⟨i,hi,Y,rfl⟩:=NM ho;have h1:=KM Y hi;have h2:=WD (L:=L) (a:=f) (i:=i) Ω hi;left;omega
theorem V6(h:AO n L){t:Int}(hj:∀hl:j<L.length,t<=(L[j].1:Int)):AY (L.drop j) f t=0:=by
 refine QF (λo ho=>?_);obtain⟨i,hi,hij,rfl⟩:=JEg ho;right;have:=hj Ω;rcases υ j i with h1|h1
 ·have:=h.at (i:=j) Ω hi h1;omega
 grind
theorem JAq(h:AO n L)(f t:Int):AY L (max f 0) (min t n)=AY L f t:=by
 unfold AY;congr 1;refine ξG (λo ho=>?_);have:=h.sz o ho;unfold CY;omega
def sizes:List Ob->Nat
 | []=>0
 | o :: r=>o.2+sizes r
def DS:List Ob->Nat->Option Nat
 | [],_=>none
 | o :: r,k=>if k<o.2 then some (o.1+k)else DS r (k-o.2)
def IH(L:List Ob)(k:Int):Int:=if k<0 then 0 else ((DS L k.toNat).getD 0:Nat)
def VL(L:List Ob)(k:Int):Bool:=decide (0<=k)&&(DS L k.toNat).isSome
theorem Jkd:∀{k:Nat},DS L k=none↔sizes L<=k:=by
 induction L with
 | nil=>simp[DS,sizes]
 | cons o r ih=>
  intro k;unfold DS sizes
  grind
theorem E3(hj:j<L.length):sizes (L.take (j+1))=sizes (L.take j)+L[j].2:=by
 induction L generalizing j with
 | nil=>simp at hj
 | cons o r ih=>
  cases j with
  | zero=>simp[sizes]
  | succ j=>
   have:=ih (j:=j) (by simp_all);simp only[ξF,sizes,ψj]at this⊢;omega
theorem XEK(hj:j<L.length)(hi:i<L[j].2):DS L (sizes (L.take j)+i)=some (L[j].1+i):=by
 induction L generalizing j with
 | nil=>simp at hj
 | cons o r ih=>
  cases j with
  | zero=>
   have hi:i<o.2:=hi;simp only[List.take_zero,sizes,ξE,DS,ψi]
   simp_all
  | succ j=>
   have:=ih (j:=j) (by grind) (by simp_all);simp only[ξF,sizes,ψj,DS]
   grind
theorem Q0(h:AO n L):AY L 0 n=sizes L:=by
 have X:∀(L:List Ob),(∀o∈L,1<=o.2/\o.1+o.2<=n)->AY L 0 n=sizes L:=by
  intro L
  induction L with
  | nil=>intro _;rfl
  | cons o r ih=>
   intro hs;have h1:=ih (λq hq=>hs q (ζl _ hq));have ho:=hs o (ζh ..);have h2:CY o 0 n=o.2:=by unfold CY;omega
   simp only[AY,ξP,List.sum_cons,sizes]at h1⊢;omega
 exact X L h.sz
theorem Yhz(h:AO n L)(hj:j<L.length)(hi:i<=L[j].2):AY L 0 ((L[j].1:Int)+i)=sizes (L.take j)+i:=by
 rw[S4 L (j+1),V6 h (j:=j+1) (λhl=>by have:=h.at hj hl (ξH _);omega),UD hj]
 have hg:AO L[j].1 (L.take j):=⟨h.pw.sublist (List.take_sublist ..),λo ho=>by
  obtain⟨q,hq,X,rfl⟩:=NM ho;have:=h.at hq hj X
  exact⟨(h.sz _ (κ hq)).1,this⟩⟩
 have e:AY (L.take j) 0 ((L[j].1:Int)+i)=AY (L.take j) 0 (L[j].1:Nat):=by
  unfold AY;congr 1;refine ξG (λo ho=>?_);have:=hg.sz o ho;unfold CY;omega
 rw[e,Q0 hg];unfold CY;omega
theorem FJ(h:AO n L):sizes L<=n:=by
 have h1:=Q0 h;have h2:=QP h 0 n;have h3:JQ L n 0 n<=n:=DZ _ _;omega
def DB:List Ob->Ob->List Ob
 | [],o=>[o]
 | q :: r,o=>if o.1<q.1 then o :: q :: r else q :: DB r o
theorem F4{x:Ob}:x∈DB L o↔x=o\/x∈L:=by
 induction L with
 | nil=>simp[DB]
 | cons q r ih=>
  unfold DB
  grind
theorem YKx(L:List Ob)(o:Ob):(DB L o).length=L.length+1:=by
 induction L with
 | nil=>rfl
 | cons q r ih=>unfold DB;grind
theorem QA(h:AO n L)(h1:1<=o.2)(h2:o.1+o.2<=n)(hd:∀q∈L,o.1+o.2<=q.1\/q.1+q.2<=o.1):AO n (DB L o):=by
 refine⟨?_,λx hx=>?_⟩
 ·have X:∀(L:List Ob),L.Pairwise (λo q=>o.1+o.2<=q.1)->(∀q∈L,1<=q.2)->(∀q∈L,o.1+o.2<=q.1\/q.1+q.2<=o.1)->(DB L o).Pairwise (λo q=>o.1+o.2<=q.1):=by
   intro L
   induction L with
   | nil=>simp[DB]
   | cons q r ih=>
    intro hp hs hd;obtain⟨hp1,Y⟩:=ξd.1 hp;have hq:=hd q (ζh ..);have hqs:=hs q (ζh ..);unfold DB
    split
    ·rename_i hlt;refine ξd.2 ⟨λx hx=>?_,hp⟩
     grind
    ·rename_i hlt;refine ξd.2 ⟨λx hx=>?_,ih Y (λx hx=>hs x (ζl _ hx)) (λx hx=>hd x (ζl _ hx))⟩;rcases F4.1 hx with rfl|hx
     ·omega
     grind
  exact X L h.pw (λq hq=>(h.sz q hq).1) hd
 ·rcases F4.1 hx with rfl|hx
  ·omega
  ·exact h.sz x hx
theorem VQ{a b:Bool}(h:a=true↔b=true):a=b:=ξ6.2 h
theorem XL{x:Bool}(hk:k<l.length):at_ (l.set k x) i=if i=k then x else at_ l i:=QH l k i x hk
theorem Yfk(h:AO n L)(h1:1<=o.2)(h2:o.1+o.2<=n)(hd:∀q∈L,o.1+o.2<=q.1\/q.1+q.2<=o.1):BV n (DB L o)=(BV n L).set o.1 true:=
 H6 (by grind [ω,H9]) (λi _=>by
  rw[XL (by rw[H9];omega)];refine VQ ?_;rw[JJ (QA h h1 h2 hd)]
  split
  ·rename_i e;subst e;exact⟨λ_=>rfl,λ_=>⟨o,F4.2 (.inl rfl),rfl⟩⟩
  ·rename_i e;rw[JJ h];constructor
   ·rintro⟨q,hq,rfl⟩;rcases F4.1 hq with rfl|hq
    ·omega
    grind
   ·rintro⟨q,hq,rfl⟩;exact⟨q,F4.2 (.inr hq),rfl⟩)
theorem Y48(h:AO n L)(h1:1<=o.2)(h2:o.1+o.2<=n)(hd:∀q∈L,o.1+o.2<=q.1\/q.1+q.2<=o.1):DT n (DB L o)=(DT n L).set (o.1+o.2-1) true:=
 H6 (by grind [ω,PJ]) (λi _=>by
  rw[XL (by rw[PJ];omega)];refine VQ ?_;rw[RJ (QA h h1 h2 hd)]
  split
  ·rename_i e;exact⟨λ_=>rfl,λ_=>⟨o,F4.2 (.inl rfl),by omega⟩⟩
  ·rename_i e;rw[RJ h];constructor
   ·rintro⟨q,hq,e2⟩;rcases F4.1 hq with rfl|hq
    ·omega
    grind
   ·rintro⟨q,hq,e2⟩;exact⟨q,F4.2 (.inr hq),e2⟩)
def GT(L:List Ob)(s z:Int):Bool:=L.any λo=>decide ((o.1:Int)<s+z/\s<o.1+o.2)
theorem QR:GT L s z=true↔∃o∈L,(o.1:Int)<s+z/\s<o.1+o.2:=by simp[GT]
theorem V3K(h:AO n L)(hz:1<=z):GT L s z=(decide (AZ L s<L.length)||(decide (A4 L s<L.length)&&decide (((L[A4 L s]?.getD (0,0)).1:Int)<s+z))):=by
 refine VQ ?_;rw[QR];simp only[ζ3,ζd,ζc];constructor
 ·rintro⟨o,ho,h1,h2⟩;by_cases hs:(o.1:Int)<=s
  ·grind [ζo,NZ]
  ·right;obtain⟨j,hj,rfl⟩:=ζo ho
   have hn:A4 L s<=j:=by
    rcases υ j (A4 L s)with X|Y
    ·have:=KM X hj;omega
    ·exact Y
   refine⟨by omega,?_⟩;rw[η Ω]
   show (L[A4 L s].1:Int)<s+z
   rcases υ (A4 L s) j with X|Y
   ·have:=h.at (i:=A4 L s) Ω hj X;omega
   grind
 ·rintro(hf|⟨hn,hl⟩)
  ·have:=H7 hf
   grind
  ·rw[η hn]at hl;have hl:(L[A4 L s].1:Int)<s+z:=hl;have hy:=LY hn;have:=(h.sz _ (κ hn)).1
   grind
def C4(L:List Ob)(n:Nat)(s z:Int):Int:=if z<1 then 15 else if s<0\/(n:Int)<=s\/(n:Int)-s<z then 11 else if GT L s z then 7 else 0
def CW(L:List Ob)(n:Nat)(s z:Int):List Ob:=if C4 L n s z=0 then DB L (s.toNat,z.toNat)else L
theorem YLm(h:C4 L n s z=0):1<=z/\0<=s/\s+z<=n/\GT L s z=false:=by
 unfold C4 at h
 grind
theorem XCZ(hs:0<=s)(hz:1<=z)(h:GT L s z=false):∀q∈L,s.toNat+z.toNat<=q.1\/q.1+q.2<=s.toNat:=λq hq=>by
 by_cases hc:(q.1:Int)<s+z/\s<q.1+q.2
 ·have:=QR.2 ⟨q,hq,hc⟩;simp_all
 ·omega
theorem V9U(h:AO n L)(s z:Int):AO n (CW L n s z):=by
 unfold CW
 split
 ·rename_i he;obtain⟨h1,h2,h3,h4⟩:=YLm he;exact QA h Ω Ω (XCZ h2 h1 h4)
 ·exact h
theorem ZX(n:Nat):BV n []=List.replicate n false:=by unfold BV;exact H6 (by simp) (λi hi=>by rw[I5];simp[at_,β,ξc];split <;> rfl)
theorem X6(n:Nat):DT n []=List.replicate n false:=by unfold DT;exact H6 (by simp) (λi hi=>by rw[I5];simp[at_,β,ξc];split <;> rfl)
def nbl(n B:Nat):Nat:=(n+B-1)/B
theorem QnL(hB:1<=B)(h1:n<=j*B)(h2:∀i,i<j->i*B<n):nbl n B=j:=by
 refine Nat.div_eq_of_lt_le ?_ ?_
 ·cases j with
  | zero=>simp
  | succ i=>
   have:=h2 i Ω
   grind
 grind
theorem IM(hB:1<=B):j<nbl n B↔j*B<n:=by
 unfold nbl
 grind [ξb,ξj]
structure Idx(w:World)(x p b a:Nat)(l:List Bool)(B:Nat):Prop where
 vec:A6 w p b l
 b1:1<=B
 b2:B<=1024
 hx:x<w.heap.size
 ha:a<w.heap.size
 c0:w.cell? ⟨x,0,none⟩=some (pP p)
 c1:∃cap,w.cell? ⟨x,1,none⟩=some (.slice (some ⟨a,0,none⟩) (nbl l.length B) cap)
 c2:w.cell? ⟨x,2,none⟩=some (iI B)
 c3:w.cell? ⟨x,3,none⟩=some (iI (cnt (at_ l) l.length:Nat))
 ca:∀j,j<nbl l.length B->w.cell? ⟨a,j,none⟩=some (iI (cnt (at_ l) (j*B):Nat))
theorem Idx.touch{a:Nat}(h:Idx w x p b a l B)(t:AB S w w')(h1:¬S x)(h2:¬S p)(h3:¬S b)(h4:¬S a):Idx w' x p b a l B:=by
 obtain⟨X,hc⟩:=h.c1
 exact⟨h.vec.touch t h2 h3,h.b1,h.b2,τ h.hx t.size,τ h.ha t.size,by rw[t.cell h.hx h1];exact h.c0,⟨X,by rw[t.cell h.hx h1];exact hc⟩,by rw[t.cell h.hx h1];exact h.c2,
  by rw[t.cell h.hx h1];exact h.c3,λj hj=>by rw[t.cell h.ha h4];exact h.ca j hj⟩
theorem Idx.gr{a:Nat}(h:Idx w x p b a l B)(t:Gr w w'):Idx w' x p b a l B:=h.touch (t.touch (λ_=>False)) (λh=>h) (λh=>h) (λh=>h) (λh=>h)
theorem K8(h:1<=B):nbl n B<=n:=by
 rcases υ n (nbl n B)with h1|h1
 ·have:=(IM h).1 h1;have h2:n*1<=n*B:=Nat.mul_le_mul_left n h;omega
 ·exact h1
theorem ZsP{a:Nat}(hX:Idx w x p b a l B):
  cQ 216 #[pP x] w (iI (cnt (at_ l) l.length:Nat)):=by
 have c3:=hX.c3;go_enter func216,ntmps216;go_wp2;go_ret
 simp_all
theorem VlR(l:List Bool){b:Int}(h:b<=0):DK l 0 b=0:=by
 rw[JE];unfold EC;have:cnt (λi=>decide ((0:Int)<=(i:Nat)/\((i:Nat):Int)<b)&&at_ l i) l.length=cnt (λ_=>false) l.length:=CO (λi _=>by grind);rw[this];generalize l.length=n
 induction n with
 | zero=>rfl
 | succ n ih=>grind [CL]
theorem Zde{a:Nat}(hX:Idx w x p b a l B)(i:Int):
  A2 prog 220 #[pP x,iI i] w (iI (DK l 0 i:Nat)):=by
 have HX:=hX;have k0:=hX.c0;have k2:=hX.c2;have k3:=hX.c3;obtain⟨M,k1⟩:=hX.c1;have n2:=hX.vec.n2;unfold A2;by_cases h0:i<=0
 ·have d0:decide (i<=0)=true:=by simp[h0]
  rw[VlR l h0];go_enter func220,ntmps220;go_wp2;go_ret;exact⟨rfl,Gr.refl _⟩
 ·obtain⟨r,rfl⟩:∃r:Nat,i=r:=⟨i.toNat,by omega⟩;have hr:0<r:=Ω
  have d0:decide ((r:Int)<=0)=false:=by simp;omega
  by_cases h1:l.length<=r
  ·have d1:decide (l.length<=r)=true:=by simp[h1]
   rw[Vbb l Ω];obtain⟨N,hN⟩:∃N,N=cnt (at_ l) l.length:=⟨_,rfl⟩;rw[<-hN]at k3⊢;clear hN k1 k2;go_enter func220,ntmps220;go_wp2_with(go_at_call 123;refine(IB HX.vec).mono ?_;rintro e w1 ⟨rfl,rfl⟩);go_ret;exact⟨rfl,Gr.refl _⟩
  ·have d1:decide (l.length<=r)=false:=by simp;omega
   obtain⟨j,hj⟩:∃j,j=r/B:=⟨_,rfl⟩;have hB:=HX.b1;have hB2:=HX.b2;have V:j*B<=r:=by rw[hj];exact ζj r B
   have Z:j<nbl l.length B:=(IM hB).2 Ω;have ka:=HX.ca j Z;have q1:((r:Int).tdiv (B:Int))=(j:Int):=by rw[hj];rfl
   have q2:((r:Int)/(B:Int))=(j:Int):=by rw[hj];rfl
   obtain⟨t,ht⟩:∃t,t=j*B:=⟨_,rfl⟩;have I:(j:Int)*(B:Int)=(t:Int):=Ω
   have hs:=ZY l (a:=0) (b:=(t:Int)) (c:=(r:Int)) Ω Ω;have hu:=TQ l (r:=t) Ω;rw[<-ht]at ka;rw[hu]at hs;obtain⟨c1,U⟩:∃c,c=cnt (at_ l) t:=⟨_,rfl⟩;obtain⟨c2,X⟩:∃c,c=DK l (t:Int) (r:Int):=⟨_,rfl⟩;obtain⟨c3,Y⟩:∃c,c=DK l 0 (r:Int):=⟨_,rfl⟩;have hb1:c1<=1048576:=by grind [DZ]
   have hb2:c2<=1048576:=by have:=DZ (VE l (t:Int) (r:Int)) l.length;unfold DK at X;omega
   rw[<-U]at ka hs;rw[<-X,<-Y]at hs;rw[<-Y];obtain⟨N,hN⟩:∃N,N=nbl l.length B:=⟨_,rfl⟩;rw[<-hN]at Z k1;have HNn:=hN;have htb:(t:Int)<=1048576:=Ω
   have hBp:(B:Int)≠0:=Ω
   have H2:=X.symm;have HS:=hs;clear U X Y hN hj ht hu hs V k3;have hjb:(j:Int)<N:=Ω
   have hjl:j<=1048576:=by grind [K8]
   have w3:IntKind.i64.wrap ((j:Int)*(B:Int))=(t:Int):=by rw[I,ζt _ Ω]
   have w4:IntKind.i64.wrap ((c1:Int)+(c2:Int))=(c3:Int):=by rw[HS,ζt _ Ω]
   have z0:∀xs m,(grow w xs m).cell? ⟨x,0,none⟩=some (pP p):=λxs m=>((grown w xs m).cell HX.hx 0).trans k0;have z1:∀xs m,(grow w xs m).cell? ⟨x,1,none⟩=some (.slice (some ⟨a,0,none⟩) N M):=λxs m=>((grown w xs m).cell HX.hx 1).trans k1;have z2:∀xs m,(grow w xs m).cell? ⟨x,2,none⟩=some (iI B):=λxs m=>((grown w xs m).cell HX.hx 2).trans k2;have z4:∀xs m,(grow w xs m).cell? ⟨a,j,none⟩=some (iI c1):=λxs m=>((grown w xs m).cell HX.ha j).trans ka;go_enter func220,ntmps220;go_upto_region 6 with(go_at_call 123;refine(IB HX.vec).mono ?_;rintro e w1 ⟨rfl,rfl⟩);refine IP (by kernel_rfl) (by kernel_rfl) ?_
   repeat(go_big_quiet_step (first
    | (go_at_call 234;have hc:=λxs m=>ZV (HX.vec.gr (grown w xs m)) (t:Int) (r:Int) Ω;simp only[H2]at hc;exact A2.grown (hc _ _))))
   refine ζb ?_;intro _ O;obtain⟨⟨xs,nq⟩,J⟩:=O;subst J;go_wp2;go_ret;exact⟨by simp_all,grown w _ _⟩
theorem Qza(g:FuncId)(b1 b2:Addr)(n:Nat)(hn:n<=1048576)(t:Nat->Bool)(w:World)
  (hg:∀args W,(callFunc g args).run prog W=.ok (.enter g args) W)
  (hm:∀i j,i<=j->j<n->t i=true->t j=true)
  (hf:∀i W,i<n->Gr w W->Calls prog g #[iI (i:Nat),.pointer (some b1),.pointer (some b2)] W (λe W'=>e=.returned (.bool (t i))/\Gr W W')):
  A2 prog 240 #[iI n,.func (.func g) #[] #[.pointer (some b1),.pointer (some b2)]] w (iI (first t n:Nat)):=by
 have HF:=hf;have HM:=hm;unfold A2;go_enter func240,ntmps240;go_wp2
 go_loopw [5,6] (λx y wr=>∃lo hi:Nat,lo<=hi/\hi<=n/\Hid (∀i,i<lo->t i=false)/\Hid (hi<n->t hi=true)/\Hid (Gr w wr)/\x=iI lo/\y=iI hi) (λx y _=>(intOf y).toNat-(intOf x).toNat)
 case atStart=>exact⟨0,n,by omega,by omega,⟨λi h=>by omega⟩,⟨λh=>by omega⟩,⟨Gr.refl _⟩,rfl,rfl⟩
 case round=>
  obtain⟨lo,hi,h1,h2,hl,hh,hG,rfl,rfl⟩:=hrel;by_cases hlt:lo<hi
  ·obtain⟨m,Y⟩:∃m,m=(lo+hi)/2:=⟨_,rfl⟩;have hm1:lo<=m/\m<hi:=Ω
   have q1:((lo:Int)+(hi:Int))/2=(m:Int):=Ω
   clear Y;cases ht:t m with
   | false=>
    have HC:=(HF m wr Ω hG.o);have HN:=ht;go_wp2_with(refine HC.mono ?_;rintro e W2 ⟨rfl,h2⟩;rw[HN];have X:=ι (hG.o.trans h2);clear h2);go_roundw
    case rel=>
     refine⟨m+1,hi,by omega,by omega,⟨λi hi'=>?_⟩,hh,X,by go_num,rfl⟩;cases hti:t i with
     | false=>rfl
     | true=>have:=HM i m Ω Ω hti;rw[HN]at this;cases this
    case measure=>simp[intOf];omega
   | true=>
    have HC:=(HF m wr Ω hG.o);have HN:=ht;go_wp2_with(refine HC.mono ?_;rintro e W2 ⟨rfl,h2⟩;rw[HN];have X:=ι (hG.o.trans h2);clear h2);go_roundw
    case rel=>exact⟨lo,m,by omega,by omega,hl,⟨λ_=>HN⟩,X,rfl,by go_num⟩
    case measure=>simp[intOf];omega
  ·obtain rfl:lo=hi:=Ω
   have E:=(F2 h2 hl.o hh.o);go_wp2;go_ret;exact⟨AL (by rw[E]),hG.o⟩
theorem YN(l:List Bool){a:Nat}(h:cnt (at_ l) a=q):BN l (a:Int)=CS l q:=by
 obtain⟨j,hj⟩:∃j,j=BN l (a:Int):=⟨_,rfl⟩;have hle:j<=l.length:=by rw[hj];exact GK _ _
 have hno:∀i,i<j->¬(at_ l i=true/\a<=i):=λi hi hc=>by
  have:=G8 (λi=>at_ l i&&decide ((a:Int)<=i)) l.length i (by rw[hj]at hi;exact hi)
  simp_all
 rw[<-hj];rcases υ j l.length with X|hge
 ·have hat:=GD (λi=>at_ l i&&decide ((a:Int)<=i)) l.length (by rw[hj]at X;exact X)
  have Y:at_ l j=true/\(a:Int)<=j:=by
   have e:first (λi=>at_ l i&&decide ((a:Int)<=i)) l.length=j:=hj.symm
   simp_all
  have hc:cnt (at_ l) j=q:=by
   grind [OI]
  exact(WT X Y.1 hc).symm
 grind [υ,OI,RL,VZZ]
theorem Z7T(h:q<cnt (at_ l) l.length):BN l ((CS l q:Int)+1)=CS l (q+1):=by
 obtain⟨h1,h2,h3⟩:=WV h;have:=YN l (a:=CS l q+1) (q:=q+1) (by grind [CL])
 assumption
theorem VVz{a:Nat}(hX:Idx w x p b a l B)(bx bk:Addr)(k:Nat)(hbx:w.cell? bx=some (pP x))(hbk:w.cell? bk=some (iI k))
  (i:Nat) (hi:i<nbl l.length B):
  Calls prog 241 #[iI i,.pointer (some bx),.pointer (some bk)] w λe w'=>e=.returned (.bool (decide (k<cnt (at_ l) (i*B))))/\Gr w w':=by
 obtain⟨cap,c1⟩:=hX.c1;have ca:=hX.ca i hi;have hi0:(0:Int)<=(i:Int):=Ω
 go_enter func241,ntmps241;go_upto_region 1 with(fail);go_quiet (fail);go_wp2;go_ret;exact⟨Zbf (by simp),(Gr.refl w).drewN _⟩
theorem YDO(l:List Bool)(hB:1<=B)(hk:k<cnt (at_ l) l.length):
  ∃j,first (λi=>decide (k<cnt (at_ l) (i*B))) (nbl l.length B)=j+1/\j<nbl l.length B/\cnt (at_ l) (j*B)<=k:=by
 obtain⟨f,hf⟩:∃f,f=first (λi=>decide (k<cnt (at_ l) (i*B))) (nbl l.length B):=⟨_,rfl⟩
 have hle:f<=nbl l.length B:=by grind [GK]
 have hn:0<l.length:=by
  grind [ζB,KR]
 have hN:0<nbl l.length B:=(IM hB).2 Ω
 have h0:f≠0:=λh=>by
  have:=GD (λi=>decide (k<cnt (at_ l) (i*B))) (nbl l.length B) Ω;rw[<-hf,h]at this
  grind [KR]
 obtain⟨j,rfl⟩:∃j,f=j+1:=⟨f-1,by omega⟩;refine⟨j,hf.symm,by omega,?_⟩;have:=G8 (λi=>decide (k<cnt (at_ l) (i*B))) (nbl l.length B) j Ω
 simp_all
theorem RX(u v:Value)(T1 T2:TypeId):
  Gr w ((w.alloc (.cells #[u] T1)).alloc (.cells #[v] T2))/\((w.alloc (.cells #[u] T1)).alloc (.cells #[v] T2)).cell? ⟨w.heap.size,0,none⟩=some u/\((w.alloc (.cells #[u] T1)).alloc (.cells #[v] T2)).cell? ⟨w.heap.size+1,0,none⟩=some v:=by
 refine⟨((Gr.refl w).alloc _).alloc _,?_,?_⟩
 ·simp_all
 simp_all
theorem Zo5(x:Nat)(q:Int)(hq:q<0):A2 prog 235 #[pP x,iI q] w (.tuple #[iI 0,.bool false]):=by
 go_enter func235,ntmps235;go_upto_region 1 with(fail);obtain⟨hg,c1,c2⟩:=RX (w:=w) (pP x) (iI q) 269 3;generalize (w.alloc (.cells #[.pointer (some ⟨x,0,none⟩)] 269)).alloc (.cells #[.int .i64 q] 3)=W2 at *
 go_quiet (fail);go_wp2;go_ret2;exact⟨BG rfl rfl,hg.drewN _⟩
theorem V1d{a:Nat}(hX:Idx w x p b a l B)(q:Nat)(hq:cnt (at_ l) l.length<=q):
  A2 prog 235 #[pP x,iI q] w (.tuple #[iI 0,.bool false]):=by
 have k3:=hX.c3;have hx:=hX.hx;have d0:decide ((q:Int)<0)=false:=by simp
 go_enter func235,ntmps235;go_upto_region 1 with(fail);obtain⟨hg,c1,c2⟩:=RX (w:=w) (pP x) (iI q) 269 3;generalize (w.alloc (.cells #[.pointer (some ⟨x,0,none⟩)] 269)).alloc (.cells #[.int .i64 q] 3)=W2 at *
 have c3:=(hg.cell hx 3).trans k3;go_quiet (fail);go_wp2;go_ret2;exact⟨BG rfl rfl,hg.drewN _⟩
theorem Zrb(args:Array Value)(W:World):(callFunc 241 args).run prog W=.ok (.enter 241 args) W:=by kernel_rfl
theorem JlP{a:Nat}(hX:Idx w x p b a l B)(hT:AP w)(k:Nat)(hk:k<cnt (at_ l) l.length):
  A2 prog 235 #[pP x,iI k] w (.tuple #[iI (CS l k:Nat),.bool true]):=by
 have HX:=hX;have HT:=hT;have HK:=hk;obtain⟨j,E,U,Y⟩:=YDO l hX.b1 hk;obtain⟨N,hN⟩:∃N,N=cnt (at_ l) l.length:=⟨_,rfl⟩;have k0:=hX.c0;have k2:=hX.c2;have k3:=hX.c3;obtain⟨Z,k1⟩:=hX.c1;have ka:=hX.ca j U;have hx:=hX.hx;have n2:=hX.vec.n2;have G:=K8 (n:=l.length) hX.b1;have hb2:=hX.b2;rw[<-hN]at k3;have hNk:k<N:=by rw[hN];exact hk
 have Xe:N<=l.length:=by rw[hN];exact DZ _ _
 have d0:decide ((k:Int)<0)=false:=by simp
 have d1:decide (N<=k)=false:=by simp;omega
 have hkb:k<=1048576:=Ω
 have Xc:j*B<l.length:=(IM hX.b1).1 U;obtain⟨t,ht⟩:∃t,t=j*B:=⟨_,rfl⟩;rw[<-ht]at Xc ka Y;obtain⟨c,hc⟩:∃c,c=cnt (at_ l) t:=⟨_,rfl⟩;rw[<-hc]at ka Y;have hw3:IntKind.i64.wrap ((j:Int)*(B:Int))=(t:Int):=by rw[show (j:Int)*(B:Int)=(t:Int)by rw[ht,Int.natCast_mul],ζt _ Ω]
 have A:=(YN l hc.symm);have HP:Hid (∀n,n<=k->CS l n<l.length):=⟨λn hn=>(WV (l:=l) (q:=n) Ω).1⟩;have Xd:Hid (∀n,n<=k->BN l ((CS l n:Int)+1)=CS l (n+1)):=⟨λn hn=>Z7T Ω⟩;obtain⟨M,hM⟩:∃M,M=nbl l.length B:=⟨_,rfl⟩;have Xa:=E;rw[<-hM]at k1 U G;have HM:=ι hM;have hjM:(j:Int)<M:=Ω
 clear hX hk hN ht hc E hM hT Xe;unfold A2;go_enter func235,ntmps235;go_upto_region 1 with(fail);obtain⟨hg,c1,c2⟩:=RX (w:=w) (pP x) (iI k) 269 3;generalize (w.alloc (.cells #[.pointer (some ⟨x,0,none⟩)] 269)).alloc (.cells #[.int .i64 k] 3)=W2 at *
 have z0:=(hg.cell hx 0).trans k0;have z1:=(hg.cell hx 1).trans k1;have z2:=(hg.cell hx 2).trans k2;have z3:=(hg.cell hx 3).trans k3;have K1:=ι k1;clear k0 k1 k2 k3;have HG:=ι hg;have HC:=ι (ξ c1 c2);clear hg;go_quiet (fail)
 have HS:=ι (Qza 241 ⟨w.heap.size,0,none⟩ ⟨w.heap.size+1,0,none⟩ M Ω (λi=>decide (k<cnt (at_ l) (i*B))) (W2.drewN nq) Zrb
  (λi i' h1 h2 h3=>by
   have:=RL (at_ l) (ζi B h1)
   simp at h3⊢;omega)
  (λi W hi hgW=>VVz (HX.gr ((HG.o.drewN nq).trans hgW)) _ _ k (by
    rw[hgW.cell (b:=w.heap.size) (by have:=AT HC.o.1;exact this)];exact HC.o.1) (by
    rw[hgW.cell (b:=w.heap.size+1) (by have:=AT HC.o.2;exact this)];exact HC.o.2) i (by rw[<-HM.o];exact hi)))
 rw[HM.o,Xa,<-HM.o]at HS;have hmf:∀(fn:Fn) (first Z:Array Value) (w:World),(Instr.makeFunc fn first Z).run prog w=.ok (.func fn first Z) w:=λ_ _ _ _=>rfl;go_upto_region 4 with(go_at_call 240;refine HS.o.mono ?_;rintro e W3 ⟨rfl,h3⟩;have X:=ι (HG.o.trans (((Gr.refl W2).drewN nq).trans h3));have y0:=(h3.cell (b:=w.heap.size) (AT HC.o.1) 0).trans HC.o.1;have y1:=(h3.cell (b:=w.heap.size+1) (AT HC.o.2) 0).trans HC.o.2;clear h3);have v0:=(X.o.cell hx 0).trans HX.c0;have v2:=(X.o.cell hx 2).trans HX.c2
 have v1:W3.cell? ⟨x,1,none⟩=some (.slice (some ⟨a,0,none⟩) M Z):=by
  exact(X.o.cell hx 1).trans K1.o
 have va:W3.cell? ⟨a,j,none⟩=some (iI c):=(X.o.cell HX.ha j).trans ka;have D:=ι (HX.vec.gr X.o);have J:=ι (X.o.tab HT.lt HT);have I:=HP.o c Y
 have HN:Hid (∀n,Calls prog 213 #[pP p,iI t] (W3.drewN n) λe w'=>e=.returned (.tuple #[iI (CS l c:Nat),.bool true])/\w'=W3.drewN n):=⟨λn=>
  (J0 (D.o.gr ((Gr.refl W3).drewN n)) (((Gr.refl W3).drewN n).tab J.o.lt J.o) t).mono λe w' ⟨he,hw⟩=>⟨by rw[he,A,IC I,φ I],hw.symm⟩⟩
 clear z0 z1 z2 z3 ka HS;go_quiet ((go_at_call 213;exact Calls.quiet_of_same (HN.o _)));go_wp2
 go_loop [7,9] (λs7 s9=>∃n:Nat,c<=n/\n<=k/\s7=iI (CS l n:Nat)/\s9=iI n) (λ_ s9=>k-(intOf s9).toNat)
 case atStart=>exact⟨c,ϑ _,Y,rfl,rfl⟩
 case round=>
  obtain⟨n,hn1,O,rfl,rfl⟩:=hrel;have hp:=HP.o n O;obtain⟨r,hr⟩:∃r,r=CS l n:=⟨_,rfl⟩;have HE:=Xd.o n O;rw[<-hr]at hp HE⊢;by_cases hlt:n<k
  ·have V:=HP.o (n+1) Ω;have Xb:=ι HE;have HR:=ι (ξ (IC V) (φ V));clear hr HE V;go_wp2_with(go_at_call 213;refine(J0 (D.o.gr ((Gr.refl W3).drewN _)) (((Gr.refl W3).drewN _).tab J.o.lt J.o) _).mono ?_;rintro e w' ⟨rfl,rfl⟩;rw[Xb.o,HR.o.1,HR.o.2]);go_round
   case rel=>exact⟨n+1,by omega,by omega,rfl,by go_num⟩
   case measure=>simp[intOf];omega
  ·obtain rfl:n=k:=Ω
   have HR:=ι hr;clear hr HE;go_wp2;go_ret2;exact⟨BG (by rw[HR.o];rfl) rfl,X.o.drewN _⟩
theorem Qax{a:Nat}(hX:Idx w x p b a l B)(hT:AP w)(q:Int):
  A2 prog 235 #[pP x,iI q] w (.tuple #[iI (JT l q),.bool (L9 l q)]):=by
 by_cases h:q<0
 ·have e1:JT l q=0:=by unfold JT;rw[θ h]
  have e2:L9 l q=false:=by unfold L9;grind
  grind [Zo5]
 ·obtain⟨k,rfl⟩:∃k:Nat,q=k:=⟨q.toNat,by omega⟩;have e1:JT l k=IY l.length (CS l k):=by unfold JT;grind
  have e2:L9 l k=decide (CS l k<l.length):=by rfl
  rw[e1,e2];rcases υ k (cnt (at_ l) l.length)with hk|hk
  ·grind [WV,IC,φ,JlP]
  grind [VZZ,MN,ζ,V1d]
theorem QTm:(prog.info? 3).map (λi=>(i.zero,i.size,i.bytes))=some (some (iI 0),1,8):=by kernel_rfl
def ZQP(w:World)(l:List Bool)(B:Nat)(e:Ending)(w':World):Prop:=
 ∃x p b a,e=.returned (.tuple #[pP x,iI 0])/\Gr w w'/\Idx w' x p b a l B/\w.heap.size<=x/\w.heap.size<=p/\w.heap.size<=b/\w.heap.size<=a
def II(l:List Bool)(B k:Nat):List Value:=(List.range k).map λj=>iI (cnt (at_ l) (j*B):Nat)
theorem X5M(l:List Bool)(B k:Nat):II l B (k+1)=II l B k++[iI (cnt (at_ l) (k*B):Nat)]:=by
 unfold II;rw[ψm,ζ2];rfl
structure EV(w:World)(l:List Bool)(B X p b BASE k m:Nat)(v:Value)(wr:World):Prop where
 gr:Gr w wr
 vec:A6 wr p b l
 own:wr.ownsRow BASE 3 1 v k (II l B k)
 c0:wr.cell? ⟨X,0,none⟩=some (pP p)
 c1:wr.cell? ⟨X,1,none⟩=some v
 c2:wr.cell? ⟨X,2,none⟩=some (iI B)
 c3:wr.cell? ⟨X,3,none⟩=some (iI (DK l 0 (m*B:Nat):Nat))
 free:∀o,wr.frozen? ⟨X,o,none⟩=false
 lt:X<BASE
 ltp:p<X
 ltb:b<X
 ge:w.heap.size<=p/\w.heap.size<=b
 base:BASE<=wr.heap.size
theorem EV.far(h:EV w l B X p b BASE k m v wr):v.ownBlock≠some X:=λe=>by
 have:=(BH h.own e).1;have:=h.lt;omega
theorem EV.grow{wr':World}(h:EV w l B X p b BASE k m v wr)(g:Gr wr wr'):EV w l B X p b BASE k m v wr':=by
 have hX:X<wr.heap.size:=by have:=h.lt;have:=h.base;omega
 exact⟨h.gr.trans g,h.vec.gr g,CU h.own g,(g.cell hX 0).trans h.c0,(g.cell hX 1).trans h.c1,(g.cell hX 2).trans h.c2,(g.cell hX 3).trans h.c3,λo=>(g.frozen hX o).trans (h.free o),h.lt,h.ltp,h.ltb,h.ge,δ h.base g.size⟩
theorem EV.append(h:EV w l B X p b BASE k m v wr){g c:Nat}
  (hown:w1.ownsRow BASE 3 1 (.slice (some ⟨g,0,none⟩) (k+1) c) (k+1) (II l B (k+1))) (hgrow:wr.grownBy w1 v.ownBlock):
  EV w l B X p b BASE (k+1) m (.slice (some ⟨g,0,none⟩) (k+1) c) (w1.setCell ⟨X,1,none⟩ (.slice (some ⟨g,0,none⟩) (k+1) c)):=by
 have hX:X<wr.heap.size:=by have:=h.lt;have:=h.base;omega
 have t:AB (λi=>v.ownBlock=some i) wr w1:=E5 hgrow _ (λk e _=>e);have t2:AB (λi=>i=X) w1 (w1.setCell ⟨X,1,none⟩ (.slice (some ⟨g,0,none⟩) (k+1) c)):=(AB.refl (λi=>i=X) w1).setCell (a:=⟨X,1,none⟩) (λ_=>rfl) _;have Y:∀i,i<BASE->v.ownBlock≠some i:=λi hi e=>by have:=(BH h.own e).1;omega
 have e:∀o,w1.cell? ⟨X,o,none⟩=wr.cell? ⟨X,o,none⟩:=λo=>t.cell hX (Y X h.lt) o
 have o:∀o,o≠1->(w1.setCell ⟨X,1,none⟩ (.slice (some ⟨g,0,none⟩) (k+1) c)).cell? ⟨X,o,none⟩=wr.cell? ⟨X,o,none⟩:=λo ho=>by
  rw[ξq (h:=by simp_all),e o]
 have hp:=h.ltp;have hb:=h.ltb;have hl:=h.lt;refine⟨?_,?_,?_,(o 0 Ω).trans h.c0,?_,(o 2 Ω).trans h.c2,(o 3 Ω).trans h.c3,?_,h.lt,h.ltp,h.ltb,h.ge,δ h.base (δ t.size t2.size)⟩
 ·refine(((h.gr.touch (λ_=>False)).trans' t (λi hi e=>?_)).trans' t2 (λi hi e=>?_)).gr
  ·have:=(BH h.own e).1;have:=h.ge;omega
  ·have:=h.ge;omega
 ·exact(h.vec.touch t (Y p Ω) (Y b Ω)).touch t2 Ω Ω
 ·refine BX hown t2 (λi hi e=>?_);have:=(BH hown hi).1;omega
 ·exact ξh (h:=(e 1).trans h.c1) ..
 ·intro o;rw[ξa,t.frozen hX (Y X h.lt)];exact h.free o
theorem EV.count(h:EV w l B X p b BASE k m v wr)(hz:z=(DK l 0 (m' * B:Nat):Nat)):
  EV w l B X p b BASE k m' v (wr.setCell ⟨X,3,none⟩ (.int .i64 z)):=by
 have t2:AB (λi=>i=X) wr (wr.setCell ⟨X,3,none⟩ (.int .i64 z)):=(AB.refl (λi=>i=X) wr).setCell (a:=⟨X,3,none⟩) (λ_=>rfl) _;have hp:=h.ltp;have hb:=h.ltb;have hl:=h.lt
 have o:∀o,o≠3->(wr.setCell ⟨X,3,none⟩ (.int .i64 z)).cell? ⟨X,o,none⟩=wr.cell? ⟨X,o,none⟩:=λo ho=>by
  rw[ξq (h:=by simp_all)]
 refine⟨?_,h.vec.touch t2 Ω Ω,?_,(o 0 Ω).trans h.c0,(o 1 Ω).trans h.c1,(o 2 Ω).trans h.c2,?_,?_,h.lt,h.ltp,h.ltb,h.ge,δ h.base t2.size⟩
 ·refine((h.gr.touch (λ_=>False)).trans' t2 (λi hi e=>?_)).gr;have:=h.ge;omega
 ·refine BX h.own t2 (λi hi e=>?_);have:=(BH h.own hi).1;omega
 ·rw[hz];exact ξh (h:=h.c3) ..
 ·intro o;rw[ξa];exact h.free o
theorem EV.done(h:EV w l B X p b BASE k k v wr)(h1:1<=B)(h2:B<=1024)(hk:k=nbl l.length B)(hl:l.length<=k*B):
  ∃a,Idx wr X p b a l B/\w.heap.size<=a:=by
 have hn:=h.vec.n1;have Z:k≠0:=by grind
 obtain⟨g,c,rfl,hg1,hg2,hg3,Y⟩:=EU h.own Z;have:=h.lt;refine⟨g,⟨h.vec,h1,h2,by omega,Y,h.c0,⟨c,by rw[h.c1,hk]⟩,h.c2,?_,λj hj=>?_⟩,by have:=h.ge;have:=h.ltp;omega⟩
 ·rw[h.c3,Vbb l Ω]
 ·refine BU h.own ?_;unfold II
  simp_all
theorem JHa{r:Nat}{T:TypeId}(hg:Gr w w1)(hV:A6 w1 q r l)(h1:w.heap.size<=q)(h2:w.heap.size<=r):
  EV w l B w1.heap.size q r (w1.heap.size+1) 0 0 (.slice none 0 0) (w1.alloc (.cells #[.pointer (some ⟨q,0,none⟩),.slice none 0 0,.int .i64 B,.int .i64 0] T)):=by
 have hp:=hV.hp;have hb:=hV.hb;refine⟨hg.alloc _,hV.gr ((Gr.refl w1).alloc _),GY _ _ _ _,ζD ..,ζD ..,ζD ..,?_,λo=>ξX ..,by omega,hp,hb,⟨h1,h2⟩,by simp⟩;rw[show DK l 0 ((0*B:Nat):Int)=0 from VlR l (by simp)]
 simp_all
theorem XFA(hV:A6 w p b l)(n:Int)(hn:BI n=false)(hn2:n<=9223372036854775807):
  cQ 215 #[pP p,iI n] w (.tuple #[.pointer none,iI 5]):=by
 have n1:((l.length:Int)==0)=false:=by have:=hV.n1;grind
 have HV:=hV;rw[L1]at hn;cases hp:CK n with
 | false=>
  go_enter func215,ntmps215
  go_wp2_with(first
   | (go_at_call 123;refine(IB HV).mono ?_;rintro e w1 ⟨rfl,rfl⟩)
   | (go_at_call 115;refine(I8 n hn2 _).mono ?_;rintro e w1 ⟨rfl,rfl⟩))
  go_ret2
  simp_all
 | true=>
  rw[hp]at hn;have d1:decide ((1024:Int)<n)=true:=by simp at hn;simp;omega
  go_enter func215,ntmps215
  go_wp2_with(first
   | (go_at_call 123;refine(IB HV).mono ?_;rintro e w1 ⟨rfl,rfl⟩)
   | (go_at_call 115;refine(I8 n hn2 _).mono ?_;rintro e w1 ⟨rfl,rfl⟩))
  go_ret2
  simp_all
theorem Zv3(hV:A6 w p b l)(B:Nat)(hB:BI B=true):
  Calls prog 215 #[pP p,iI B] w (ZQP w l B):=by
 have n1:((l.length:Int)==0)=false:=by have:=hV.n1;exact ζG.2 Ω
 have n2:=hV.n2;have hb:=DA hB;have Xa:1<=B:=Ω
 have Xm:B<=1024:=Ω
 have d1:decide ((1024:Int)<(B:Int))=false:=by simp;omega
 have HP:Hid (CK B=true):=⟨by rw[L1]at hB;simp at hB;exact hB.1⟩;obtain⟨i0,hi,Xo,Xk,Xr⟩:=info_parts QTm;have HV:=hV;clear hV hB hb;go_enter func215,ntmps215
 go_wp2_with(first
  | (go_at_call 123;refine(IB HV).mono ?_;rintro e w1 ⟨rfl,rfl⟩)
  | (go_at_call 115;refine(I8 B Ω _).mono ?_;rintro e w1 ⟨rfl,rfl⟩;rw[HP.o])
  | (go_at_call 233;refine(Z27 HV).mono ?_;rintro e w1 ⟨q,r,rfl,G,I,Xb,Xf⟩))
 have Xi:=ι (JHa (B:=B) (T:=287) G I Xb Xf);generalize w1.alloc (.cells #[.pointer (some ⟨q,0,none⟩),.slice none 0 0,.int .i64 B,.int .i64 0] 287)=W2 at *
 obtain⟨X,hX⟩:∃X,X=w1.heap.size:=⟨_,rfl⟩;rw[<-hX]at Xi⊢;clear hX;clear G I Xb Xf
 go_loopw [7] (λs7 wr=>∃k t v,Hid (EV w l B X q r (X+1) k k v wr)/\Hid (t=k*B)/\k<=t/\t<=1048576+1024/\Hid (∀i,i<k->i*B<l.length)/\s7=iI (t:Nat)) (λs7 _=>1048576+1025-(intOf s7).toNat)
 case atStart=>exact⟨0,0,_,Xi,⟨by simp⟩,by omega,by omega,⟨λi h=>by omega⟩,rfl⟩
 case round=>
  obtain⟨k,t,v,HN,ht,hkt,htb,Xe,rfl⟩:=hrel;by_cases Xq:t<l.length
  ·have Xs:Hid (∀i,i<k+1->i*B<l.length):=⟨λi h=>by
    rcases υ i k with h1|h1
    ·exact Xe.o i h1
    ·rw[show i=k by omega,<-ht.o];exact Xq⟩
   have Xd:Hid (t+B=(k+1)*B):=⟨by rw[ξj,ht.o]⟩;go_upto_region 9 with(go_at_call 123;refine(IB (HV.gr HN.o.gr)).mono ?_;rintro e w1 ⟨rfl,rfl⟩);have c1:=HN.o.c1;obtain⟨c,hc⟩:∃c,c=DK l 0 (k*B:Nat):=⟨_,rfl⟩;have c3:=HN.o.c3;have fr:=HN.o.free 1;rw[<-hc]at c3
   have Xh:II l B (k+1)=II l B k++[iI (c:Nat)]:=by
    rw[X5M,hc,TQ l (by rw[<-ht.o];omega)]
   have Xl:=Xh;have HC:=ι hc;have HX:Hid (X<wr.heap.size):=⟨by have:=HN.o.base;omega⟩;clear Xh hc;have KS:Hid (∀W',Gr wr W'->W'.cell? ⟨X,1,none⟩=some v/\W'.cell? ⟨X,3,none⟩=some (iI (c:Nat))/\W'.frozen? ⟨X,1,none⟩=false):=⟨λW' h=>⟨(h.cell HX.o 1).trans c1,(h.cell HX.o 3).trans c3,(h.frozen HX.o 1).trans fr⟩⟩;obtain⟨S,hS⟩:∃S:World->Prop,S=λW'=>W'.cell? ⟨X,1,none⟩=some v/\W'.cell? ⟨X,3,none⟩=some (iI (c:Nat))/\W'.frozen? ⟨X,1,none⟩=false:=⟨_,rfl⟩;have x1:∀p:AA S,p.w.cell? ⟨X,1,none⟩=some v:=λp=>(AA.get hS p).1;have x3:∀p:AA S,p.w.cell? ⟨X,3,none⟩=some (iI (c:Nat)):=λp=>(AA.get hS p).2.1;have Z:S wr.drew:=by rw[hS];exact KS.o _ (Gr.refl _).drew
   have HS:=ι hS;clear hS;have U:Inhabited (AA S):=⟨⟨_,Z⟩⟩;refine AW S 13 [([0,1,2,3,4,5,6,7,8],9),([],10),([11,12],13)] [] Z ?_;refine AI ?_;go_wp2;refine⟨.inr (AA.of (by rw[HS.o];exact KS.o _ ((Gr.refl _).alloc _).drew)),?_⟩;refine NP ?_;simp only[AF,μ,ν];refine ζb ?_;go_wp2_with(at_builtin;refine wpList_append_lies _ rfl _ _ 61 rfl (X+1) 3 i0 _ 1 8 underlying61 hi Xo Xk Xr rfl Ω v k (II l B k) rfl ((HN.o.own.alloc _).drew) ⟨wr.heap.size,0,none⟩ 1 1 [iI (c:Nat)] rfl rfl (ξv (cs:=#[iI (c:Nat)]) (t:=3) (fr:=(0,0)) (heap_alloc_new wr _)) (by simp[Value.oneCell']) Ω (by unfold maxLen;omega) Ω (by have:=HX.o;simp;omega) (wr.heap.size+1) (by simp) ?_;intro g cp w1 V Y Xp A)
   go_frame
   have O:Gr wr (wr.alloc (.cells #[.int .i64 (c:Nat)] 3)).drew:=((Gr.refl _).alloc _).drew
   have M:w1.cell? ⟨X,1,none⟩=some v/\w1.cell? ⟨X,3,none⟩=some (iI (c:Nat))/\w1.frozen? ⟨X,1,none⟩=false:=by
    have hz:=KS.o _ O
    exact⟨(Y.cell_far ⟨X,1,none⟩ (by have:=HX.o;simp;omega) (Ne.symm HN.o.far)).trans hz.1,(Y.cell_far ⟨X,3,none⟩ (by have:=HX.o;simp;omega) (Ne.symm HN.o.far)).trans hz.2.1,
     (Y.frozen_far ⟨X,1,none⟩ (by have:=HX.o;simp;omega) (Ne.symm HN.o.far)).trans hz.2.2⟩
   refine⟨.inr (AA.of (by rw[HS.o];exact M)),?_⟩;have HM:=((HN.o.grow O).append (by rw[Xl];exact V) Y);have k1:=M.1;have k3:=M.2.2;clear O V Y Xp A M;refine AI ?_;go_wp2;refine⟨.inl trivial,?_⟩;refine EI ?_;refine ζb ?_;refine ζA ?_;generalize w1.setCell ⟨X,1,none⟩ (.slice (some ⟨g,0,none⟩) (k+1) cp)=W3 at HM⊢;generalize (Value.slice (some ⟨g,0,none⟩) (k+1) cp)=v3 at HM⊢;clear x1 x3 Z HS U k1 k3 KS c1 c3 fr HX;clear S;obtain⟨tb,J⟩:∃tb,tb=t+B:=⟨_,rfl⟩;obtain⟨d,hd⟩:∃d,d=DK l (t:Int) (tb:Int):=⟨_,rfl⟩;obtain⟨e,he⟩:∃e,e=DK l 0 ((k+1)*B:Nat):=⟨_,rfl⟩
   have Xc:(c:Int)+(d:Int)=(e:Int):=by
    have:=ZY l (a:=0) (b:=(t:Int)) (c:=(tb:Int)) Ω Ω;rw[hd,he,HC.o,<-ht.o,<-Xd.o,<-J];exact this
   have hel:e<=l.length:=by rw[he];exact DZ _ _
   have Xn:IntKind.i64.wrap ((t:Int)+(B:Int))=(tb:Int):=by rw[J,ζt _ Ω];omega
   have Xj:IntKind.i64.wrap ((c:Int)+(d:Int))=(e:Int):=by rw[Xc,ζt _ Ω]
   have HD:=ι hd;have HE:=ι he;have HTB:=ι J;have k3:W3.cell? ⟨X,3,none⟩=some (iI (c:Nat)):=by rw[HM.c3,HC.o]
   have fr:W3.frozen? ⟨X,3,none⟩=false:=HM.free 3;have HX:Hid (X<W3.heap.size):=⟨by have:=HM.base;omega⟩;clear Xc hd he J;go_upto_region 10 with(fail);obtain⟨S,hS⟩:∃S:World->Prop,S=λW'=>W'.cell? ⟨X,3,none⟩=some (iI (c:Nat)):=⟨_,rfl⟩;have x3:∀p:AA S,p.w.cell? ⟨X,3,none⟩=some (iI (c:Nat)):=λp=>AA.get hS p;have Z:S W3.drew:=by rw[hS];exact k3
   have HS:=ι hS;clear hS;have U:Inhabited (AA S):=⟨⟨_,Z⟩⟩;refine AW S 13 [([0,1,2,3,4,5,6,7,8],9),([10,11,12],13)] [] Z ?_;refine AI ?_;go_wp2_with(go_at_call 234;refine(ZV (HV.gr (HM.gr.drew)) (t:Int) (tb:Int) Ω).mono ?_;rintro e' W4 ⟨rfl,D⟩;rw[<-HD.o]);have N:Gr W3 W4:=(Gr.refl W3).drew.trans D;have q3:=(N.cell HX.o 3).trans k3;have qf:=(N.frozen HX.o 3).trans fr;have Xg:=ι ((HM.grow N).count (m':=k+1) (z:=(e:Nat)) (by rw[HE.o]));clear D N;refine⟨.inr (AA.of (by rw[HS.o];exact q3)),?_⟩;refine AI ?_;go_wp2;refine⟨.inl trivial,?_⟩;refine EI ?_;refine ζb ?_;refine ζA ?_;generalize W4.setCell ⟨X,3,none⟩ (.int .i64 (e:Nat))=W5 at Xg⊢;clear x3 Z HS U q3 qf k3 fr Xn Xj;clear S;go_wp2;go_roundw
   case rel=>exact⟨k+1,t+B,v3,Xg,Xd,by omega,by omega,Xs,by go_num⟩
   case measure=>simp[intOf];omega
  ·have E:=ι (QnL Xa (show l.length<=k*B by rw[<-ht.o];omega) Xe.o);have HF:=ι (HN.o.done Xa Xm E.o.symm (by rw[<-ht.o];omega));go_wp2_with(go_at_call 123;refine(IB (HV.gr HN.o.gr)).mono ?_;rintro e w1 ⟨rfl,rfl⟩);go_ret2;obtain⟨a,hI,ha⟩:=HF.o;exact⟨X,q,r,a,BG rfl rfl,HN.o.gr,hI,by have:=HN.o.ge;have:=HN.o.ltp;omega,HN.o.ge.1,HN.o.ge.2,ha⟩
structure Ext(w:World)(m p1 b1 p2 b2 n:Nat)(L:List Ob):Prop where
 good:AO n L
 v1:A6 w p1 b1 (BV n L)
 v2:A6 w p2 b2 (DT n L)
 hm:m<w.heap.size
 c0:w.cell? ⟨m,0,none⟩=some (pP p1)
 c1:w.cell? ⟨m,1,none⟩=some (pP p2)
 c2:w.cell? ⟨m,2,none⟩=some (iI L.length)
 fr:w.frozen? ⟨m,2,none⟩=false
 am:m≠p1/\m≠b1/\m≠p2/\m≠b2
 ab:p1≠b2/\p2≠b1/\b1≠b2
theorem Ext.touch{b1 b2:Nat}(h:Ext w m p1 b1 p2 b2 n L)(t:AB S w w')(h1:¬S m)(h2:¬S p1)(h3:¬S b1)(h4:¬S p2)(h5:¬S b2):Ext w' m p1 b1 p2 b2 n L:=
 ⟨h.good,h.v1.touch t h2 h3,h.v2.touch t h4 h5,τ h.hm t.size,(t.cell h.hm h1 0).trans h.c0,(t.cell h.hm h1 1).trans h.c1,(t.cell h.hm h1 2).trans h.c2,(t.frozen h.hm h1 2).trans h.fr,h.am,h.ab⟩
theorem Ext.gr{b1 b2:Nat}(h:Ext w m p1 b1 p2 b2 n L)(t:Gr w w'):Ext w' m p1 b1 p2 b2 n L:=
 h.touch (t.touch (λ_=>False)) (λh=>h) (λh=>h) (λh=>h) (λh=>h) (λh=>h)
theorem Ext.nb{b1 b2:Nat}(h:Ext w m p1 b1 p2 b2 n L):1<=n/\n<=1048576:=by
 have h1:=h.v1.n1;have h2:=h.v1.n2;rw[H9]at h1 h2;omega
def obS(L:List Ob)(j:Nat):Int:=((L[j]?.getD (0,0)).1:Nat)
def obZ(L:List Ob)(j:Nat):Int:=((L[j]?.getD (0,0)).2:Nat)
theorem JH(h:j<L.length):obS L j=(L[j].1:Nat)/\obZ L j=(L[j].2:Nat):=by unfold obS obZ;simp_all
theorem Vq1(h:¬j<L.length):obS L j=0/\obZ L j=0:=by unfold obS obZ;simp_all
def F7(L:List Ob)(j:Nat):Value:=.tuple #[iI (obS L j),iI (obZ L j),.bool (decide (j<L.length))]
theorem PY(h:j<L.length):F7 L j=.tuple #[iI (L[j].1:Nat),iI (L[j].2:Nat),.bool true]:=by unfold F7;grind [JH,φ]
theorem LO(h:¬j<L.length):F7 L j=.tuple #[iI 0,iI 0,.bool false]:=by unfold F7;grind [Vq1,ζ]
section
variable{b1 b2:Nat}
theorem DL(hE:Ext w m p1 b1 p2 b2 n L):cQ 122 #[pP m] w (.bool false):=by
 have c0:=hE.c0;go_enter func122,ntmps122;go_wp2;go_ret
 simp_all
theorem Jpg(w:World):cQ 122 #[.pointer none] w (.bool true):=by
 go_enter func122,ntmps122;go_wp2;go_ret;exact⟨rfl,rfl⟩
theorem EL(hE:Ext w m p1 b1 p2 b2 n L):cQ 84 #[pP m] w (iI n):=by
 have c0:=hE.c0;have HE:=hE;have HL:=(H9 n L);go_enter func84,ntmps84
 go_wp2_with(first
  | (go_at_call 122;refine(DL HE).mono ?_;rintro e w' ⟨rfl,rfl⟩)
  | (go_at_call 123;refine(IB HE.v1).mono ?_;rintro e w' ⟨rfl,rfl⟩))
 go_ret
 simp_all
theorem QOV(w:World):cQ 84 #[.pointer none] w (iI 0):=by
 go_enter func84,ntmps84;go_wp2_with(go_at_call 122;refine(Jpg _).mono ?_;rintro e w' ⟨rfl,rfl⟩);go_ret;exact⟨rfl,rfl⟩
theorem PV(hE:Ext w m p1 b1 p2 b2 n L)(hT:AP w)(hj:j<L.length):
  Calls prog 189 #[pP m,iI (L[j].1:Nat)] w λe w'=>e=.returned (iI (L[j].2:Nat))/\w=w':=by
 have c1:=hE.c1;have hm:=κ hj;obtain⟨Y,X⟩:=Zox hE.good hm;have hs:=hE.good.sz _ hm;have hb:=hE.nb;obtain⟨s,Z⟩:∃s,s=L[j].1:=⟨_,rfl⟩;obtain⟨z,J⟩:∃z,z=L[j].2:=⟨_,rfl⟩;rw[<-Z,<-J]at Y X hs⊢;rw[<-Y]at X;have HE:=hE;have HT:=hT;have HV:=(ξ (IC X) Y);have hsb:s+z<=1048576:=Ω
 clear hE hT Y X Z J hm hj;go_enter func189,ntmps189;go_wp2_with(go_at_call 213;refine(J0 HE.v2 HT _).mono ?_;rintro e w' ⟨rfl,rfl⟩;rw[HV.1,HV.2]);go_ret;exact⟨AL Ω,rfl⟩
theorem LL(hE:Ext w m p1 b1 p2 b2 n L)(hT:AP w)(a:Int):
  cQ 183 #[pP m,iI a] w (F7 L (A4 L a)):=by
 have c0:=hE.c0;have HE:=hE;have HT:=hT;by_cases hj:A4 L a<L.length
 ·obtain⟨h1,h2⟩:=MU hE.good hj;rw[PY hj];have HZ:=(PV hE hT hj);have HV:=ι (ξ (IC h2) (ξ h1 (φ h2)));go_enter func183,ntmps183
  go_wp2_with(first
   | (go_at_call 122;refine(DL HE).mono ?_;rintro e w' ⟨rfl,rfl⟩)
   | (go_at_call 213;refine(J0 HE.v1 HT _).mono ?_;rintro e w' ⟨rfl,rfl⟩;rw[HV.o.1,HV.o.2.2,HV.o.2.1])
   | (go_at_call 189;refine HZ.mono ?_;rintro e w' ⟨rfl,rfl⟩))
  go_ret3
  simp_all
 ·have h1:=VS hE.good hj;rw[LO hj];go_enter func183,ntmps183
  go_wp2_with(first
   | (go_at_call 122;refine(DL HE).mono ?_;rintro e w' ⟨rfl,rfl⟩)
   | (go_at_call 213;refine(J0 HE.v1 HT _).mono ?_;rintro e w' ⟨rfl,rfl⟩))
  go_ret3
  simp_all
theorem LJ(hE:Ext w m p1 b1 p2 b2 n L)(hT:AP w)(a:Int):
  cQ 168 #[pP m,iI a] w (F7 L (AZ L a)):=by
 have c0:=hE.c0;have hb:=hE.nb;have HE:=hE;by_cases h0:a<0
 ·rw[LO (by rw[OJ (λo _=>by omega)];omega)];go_enter func168,ntmps168;go_wp2_with(go_at_call 122;refine(DL HE).mono ?_;rintro e w' ⟨rfl,rfl⟩)
  go_ret3
  exact⟨rfl,rfl⟩
 ·by_cases h1:(n:Int)<=a
  ·rw[LO (by rw[OJ (λo ho=>by have:=hE.good.sz o ho;omega)];omega)];go_enter func168,ntmps168
   go_wp2_with(first
    | (go_at_call 122;refine(DL HE).mono ?_;rintro e w' ⟨rfl,rfl⟩)
    | (go_at_call 84;refine(EL HE).mono ?_;rintro e w' ⟨rfl,rfl⟩))
   go_ret3
   exact⟨rfl,rfl⟩
  ·rcases XA1 hE.good a with⟨hl,X⟩|⟨j,hj,hl,J,X⟩
   ·rw[LO (by rw[OJ (λo ho=>by have:=X o ho;omega)];omega)];have HV:Hid (PC (ED (BV n L) (a+1))=0/\decide (0<=ED (BV n L) (a+1))=false):=⟨by rw[hl];exact⟨rfl,rfl⟩⟩;go_enter func168,ntmps168
    go_wp2_with(first
     | (go_at_call 122;refine(DL HE).mono ?_;rintro e w' ⟨rfl,rfl⟩)
     | (go_at_call 84;refine(EL HE).mono ?_;rintro e w' ⟨rfl,rfl⟩)
     | (go_at_call 202;refine(UX HE.v1 _).mono ?_;rintro e w' ⟨rfl,rfl⟩;rw[HV.o.1,HV.o.2]))
    go_ret3
    exact⟨rfl,rfl⟩
   ·have HZ:=(PV hE hT hj);have hs:=hE.good.sz _ (κ hj);have HV:Hid (PC (ED (BV n L) (a+1))=(L[j].1:Nat)/\decide (0<=ED (BV n L) (a+1))=true):=⟨by rw[hl];exact⟨θ Ω,φ Ω⟩⟩;have Y:=hE.good;by_cases Z:a<L[j].1+L[j].2
    ·have hf:=NZ Y hj J Z;rw[hf,PY hj];generalize L[j].1=s at *
     generalize L[j].2=z at *
     go_enter func168,ntmps168
     go_wp2_with(first
      | (go_at_call 122;refine(DL HE).mono ?_;rintro e w' ⟨rfl,rfl⟩)
      | (go_at_call 84;refine(EL HE).mono ?_;rintro e w' ⟨rfl,rfl⟩)
      | (go_at_call 202;refine(UX HE.v1 _).mono ?_;rintro e w' ⟨rfl,rfl⟩;rw[HV.o.1,HV.o.2])
      | (go_at_call 189;refine HZ.mono ?_;rintro e w' ⟨rfl,rfl⟩))
     go_ret3
     exact⟨rfl,rfl⟩
    ·have hf:¬AZ L a<L.length:=by
      rw[OJ (λo ho=>?_)];· omega
      obtain⟨i,hi,rfl⟩:=ζo ho;rcases ζR i j with h3|rfl|h3
      ·have:=Y.at hi hj h3;omega
      ·omega
      ·have:=X i hi h3;omega
     rw[LO hf];generalize L[j].1=s at *
     generalize L[j].2=z at *
     go_enter func168,ntmps168
     go_wp2_with(first
      | (go_at_call 122;refine(DL HE).mono ?_;rintro e w' ⟨rfl,rfl⟩)
      | (go_at_call 84;refine(EL HE).mono ?_;rintro e w' ⟨rfl,rfl⟩)
      | (go_at_call 202;refine(UX HE.v1 _).mono ?_;rintro e w' ⟨rfl,rfl⟩;rw[HV.o.1,HV.o.2])
      | (go_at_call 189;refine HZ.mono ?_;rintro e w' ⟨rfl,rfl⟩))
     go_ret3
     exact⟨rfl,rfl⟩
end
section
variable{b1 b2:Nat}
def okV:Value->Bool
 | .bool b=>b
 | _=>false
theorem TY(h:AO n L)(hn:n<=1048576)(j:Nat):0<=obS L j/\0<=obZ L j/\obS L j+obZ L j<=1048576:=by
 by_cases hj:j<L.length
 ·rw[(JH hj).1,(JH hj).2];have:=h.sz _ (κ hj);omega
 grind [Vq1]
theorem Ylw(h:AO n L)(hn:n<=1048576)(j:Nat)(f t:Int):0<=AY (L.take j) f t/\AY (L.take j) f t<=1048576:=by
 have hg:AO n (L.take j):=⟨h.pw.sublist (List.take_sublist ..),λo ho=>h.sz o (ξ3 ho)⟩;have h1:=QP hg f t;have h2:JQ (L.take j) n f t<=n:=DZ _ _;omega
theorem QS1(hE:Ext w m p1 b1 p2 b2 n L)(hT:AP w)(f t:Int)(hf:f<=9223372036854775807)(ht:-9223372036854775808<=t):
  cQ 184 #[pP m,iI f,iI t] w (iI (AY L f t)):=by
 have hb:=hE.nb;have hg:=hE.good;have HE:=hE;have HT:=hT;rw[<-JAq hg f t];obtain⟨lo,Xd⟩:∃lo,lo=max f 0:=⟨_,rfl⟩;obtain⟨hi,Xa⟩:∃hi,hi=min t (n:Int):=⟨_,rfl⟩;have hlo0:0<=lo/\lo<=9223372036854775807:=Ω
 have hhib:hi<=1048576/\-9223372036854775808<=hi:=Ω
 have HLO:=ι Xd;have HHI:=ι Xa;have Xv:∀w',(Builtin.max_ #[3,3] 3 #[iI f,iI 0]).run prog w'=.ok (iI lo) w':=λw'=>by rw[NB,Xd]
 have Xu:∀w',(Builtin.min_ #[3,3] 3 #[iI t,iI n]).run prog w'=.ok (iI hi) w':=λw'=>by rw[VD,Xa]
 rw[<-Xd,<-Xa];have hmin2:=λx y=>VD prog #[3,3] 3 .i64 x y;obtain⟨jf,Xi⟩:∃j,j=AZ L lo:=⟨_,rfl⟩;obtain⟨jn,O⟩:∃j,j=A4 L lo:=⟨_,rfl⟩;have Xq:jn<=L.length:=by rw[O];exact NQ _ _
 have X:=Vth hg (f:=lo) (t:=hi);rw[<-Xi,<-O]at X;have Xp:((L[jf]?.getD (0,0)).1:Int)=obS L jf:=rfl;have Xs:((L[jf]?.getD (0,0)).2:Int)=obZ L jf:=rfl;rw[Xp,Xs]at X;have Xy:=TY hg hb.2 jf;obtain⟨s,hs⟩:∃s,s=obS L jf:=⟨_,rfl⟩;obtain⟨z,hz⟩:∃z,z=obZ L jf:=⟨_,rfl⟩;obtain⟨bf,U⟩:∃b,b=decide (jf<L.length):=⟨_,rfl⟩;rw[<-hs,<-hz]at X Xy;have HF:Hid (F7 L (AZ L lo)=.tuple #[iI s,iI z,.bool bf]):=⟨by rw[hs,hz,U,Xi];rfl⟩;obtain⟨s1,Xg⟩:∃s,s=obS L jn:=⟨_,rfl⟩;obtain⟨z1,Xb⟩:∃z,z=obZ L jn:=⟨_,rfl⟩;obtain⟨bn,Xh⟩:∃b,b=decide (jn<L.length):=⟨_,rfl⟩;have HN:Hid (F7 L (A4 L lo)=.tuple #[iI s1,iI z1,.bool bn]):=⟨by rw[Xg,Xb,Xh,O];rfl⟩;have Xf:=ι (ξ Xg (ξ Xb Xh));obtain⟨v0,Xk⟩:∃v,v=AY (L.take jn) lo hi:=⟨_,rfl⟩;rw[<-Xk]at X;have Xz:=ι Xk;have Xt:=O
 have Xm:(bf=true/\s<lo/\lo<hi/\v0=min (s+z) hi-lo)\/(bf=false/\v0=0)\/(bf=true/\lo<=s/\v0=0)\/(bf=true/\s<lo/\hi<=lo/\v0=0):=by
  by_cases h1:jf<L.length
  ·have e1:bf=true:=by rw[U,φ h1]
   by_cases h2:s<lo
   ·by_cases h3:lo<hi
    ·left;rw[θ ⟨h1,h2,h3⟩]at X;exact⟨e1,h2,h3,X⟩
    ·right;right;right;rw[ψ (λh=>h3 h.2.2)]at X;exact⟨e1,h2,by omega,X⟩
   ·right;right;left;rw[ψ (λh=>h2 h.2.1)]at X;exact⟨e1,by omega,X⟩
  ·right;left;rw[ψ (λh=>h1 h.1)]at X;exact⟨by rw[U,ζ h1],X⟩
 have HG:=hg;clear hE hT Xd Xa Xi O X Xp Xs hs hz U Xg Xb Xh Xk hg;rcases Xm with⟨rfl,h2,h3,rfl⟩|⟨rfl,rfl⟩|⟨rfl,h2,rfl⟩|⟨rfl,h2,h3,rfl⟩
 all_goals
  have hmm:min (s+z) hi<=1048576:=Ω
  go_enter func184,ntmps184
  go_wp2_with(first
   | (go_at_call 122;refine(DL HE).mono ?_;rintro e w' ⟨rfl,rfl⟩)
   | (go_at_call 84;refine(EL HE).mono ?_;rintro e w' ⟨rfl,rfl⟩)
   | (go_at_call 168;refine(LJ HE HT _).mono ?_;rintro e w' ⟨rfl,rfl⟩;rw[HF.o])
   | (go_at_call 183;refine(LL HE HT _).mono ?_;rintro e w' ⟨rfl,rfl⟩;rw[HN.o]))
  clear Xv Xu
 all_goals
  go_loop [7,11,12,13] (λs7 s11 s12 s13=>∃j,jn<=j/\j<=L.length/\s7=iI (AY (L.take j) lo hi)/\s11=iI (obS L j)/\s12=iI (obZ L j)/\s13=.bool (decide (j<L.length))) (λ_ s11 _ s13=>if okV s13 then 1048577-(intOf s11).toNat else 0)
  case atStart=>exact⟨jn,ϑ _,Xq,by rw[<-Xz.o],by rw[Xf.o.1],by rw[Xf.o.2.1],by rw[Xf.o.2.2]⟩
  case round=>
   obtain⟨j,hj1,hj2,rfl,rfl,rfl,rfl⟩:=hrel;have Xo:=Ylw HG hb.2 j lo hi;have Ya:=TY HG hb.2 j;by_cases hj:j<L.length
   ·rw[φ hj];obtain⟨o1,o2⟩:=JH hj;have Xr:=HG.sz _ (κ hj);obtain⟨sj,Z⟩:∃s,s=obS L j:=⟨_,rfl⟩;obtain⟨zj,J⟩:∃z,z=obZ L j:=⟨_,rfl⟩;obtain⟨vj,Y⟩:∃v,v=AY (L.take j) lo hi:=⟨_,rfl⟩
    have hge:lo<=sj:=by
     rw[Z,o1];have I:A4 L lo<L.length:=by have:=Xt;omega
     have hy:=LY I;rcases υ (A4 L lo) j with h|h
     ·have:=HG.at I hj h;omega
     ·have e:L[A4 L lo]'I=L[j]:=by congr 1;have:=Xt;omega
      rw[e]at hy;exact hy
    have Xb:1<=zj:=by rw[J,o2];omega
    have Xc:=UD hj lo hi
    have Xl:CY L[j] lo hi=max 0 (min (sj+zj) hi-sj):=by
     unfold CY;rw[Z,J,o1,o2]at *
     omega
    rw[Xl,<-Y]at Xc;have A:=Ylw HG hb.2 (j+1) lo hi;have Xn:A4 L (sj+zj)=j+1:=by rw[Z,J,o1,o2];exact X1z HG hj
    obtain⟨s2,V⟩:∃s,s=obS L (j+1):=⟨_,rfl⟩;obtain⟨z2,Xe⟩:∃z,z=obZ L (j+1):=⟨_,rfl⟩;obtain⟨G,N⟩:∃b,b=decide (j+1<L.length):=⟨_,rfl⟩;have HX:Hid (F7 L (A4 L (sj+zj))=.tuple #[iI s2,iI z2,.bool G]):=⟨by rw[Xn,V,Xe,N];rfl⟩;have Xj:=ι (ξ V (ξ Xe N))
    have D:G=true->sj+zj<=s2:=λh=>by
     rw[N]at h;have h:=of_decide_eq_true h;have:=HG.at hj h (ξH j);rw[Z,J,V,o1,o2,(JH h).1];omega
    have Yb:=D;rw[<-Z,<-J]at Ya⊢;rw[<-Y]at Xo⊢;have Yc:=ι Y;have Xw:=ι Z;by_cases Xa:sj<hi
    ·have hmj:min (sj+zj) hi<=1048576/\sj<=min (sj+zj) hi:=Ω
     have E:AY (L.take (j+1)) lo hi=vj+(min (sj+zj) hi-sj):=by rw[Xc];omega
     have hsum:0<=vj+(min (sj+zj) hi-sj)/\vj+(min (sj+zj) hi-sj)<=1048576:=by rw[<-E];exact A
     have Xx:=ι E;clear Z J Y Xl Xc E A Xn V Xe N D o1 o2 Xr;go_wp2_with(go_at_call 183;refine(LL HE HT _).mono ?_;rintro e w' ⟨rfl,rfl⟩;rw[HX.o]);go_round
     case rel=>exact⟨j+1,by omega,by omega,by rw[Xx.o],by rw[Xj.o.1],by rw[Xj.o.2.1],by rw[Xj.o.2.2]⟩
     case measure=>
      have e0:okV (Value.bool true)=true:=rfl;rw[θ e0];by_cases h:G=true
      ·have:=Yb h;rw[θ (show okV (Value.bool G)=true from h)];simp only[intOf];omega
      ·rw[ψ (show ¬okV (Value.bool G)=true from h)];simp only[intOf];omega
    ·have M:=V6 HG (j:=j) (f:=lo) (t:=hi) (λhl=>by
      have:=Xw.o;rw[(JH hl).1]at this;omega)
     have hE:Hid (AY L lo hi=vj):=⟨by rw[S4 L j,M,<-Yc.o];omega⟩;clear Z J Y Xl Xc A Xn V Xe N D o1 o2 Xr M;go_wp2;go_ret;exact⟨AL hE.o.symm,rfl⟩
   ·rw[ζ hj];have M:=V6 HG (j:=j) (f:=lo) (t:=hi) (λhl=>absurd hl hj);have hE:Hid (AY L lo hi=AY (L.take j) lo hi):=⟨by rw[S4 L j,M];omega⟩;obtain⟨vj,Y⟩:∃v,v=AY (L.take j) lo hi:=⟨_,rfl⟩;rw[<-Y]at Xo⊢hE;clear M Y;go_wp2;go_ret;exact⟨AL hE.o.symm,rfl⟩
end
def AS(m b1 b2:Nat)(k:Nat):Prop:=k=m\/k=b1\/k=b2
section
variable{b1 b2:Nat}
theorem Ext.changed(hE:Ext w m p1 b1 p2 b2 n L){w2:World}{L':List Ob}(hg:AO n L')(t1:AB (λk=>k=b1) w w1)(v1:A6 w1 p1 b1 (BV n L'))(t2:AB (λk=>k=b2) w1 w2)(v2:A6 w2 p2 b2 (DT n L'))(hz:z=L'.length):
  Ext (w2.setCell ⟨m,2,none⟩ (.int .i64 z)) m p1 b1 p2 b2 n L'/\AB (AS m b1 b2) w (w2.setCell ⟨m,2,none⟩ (.int .i64 z)):=by
 have t3:AB (λk=>k=m) w2 (w2.setCell ⟨m,2,none⟩ (.int .i64 z)):=(AB.refl (λk=>k=m) w2).setCell (a:=⟨m,2,none⟩) (λ_=>rfl) _;obtain⟨a1,a2,a3,a4⟩:=hE.am;obtain⟨a5,a6,a7⟩:=hE.ab;have X:m<w1.heap.size:=τ hE.hm t1.size;have hm2:m<w2.heap.size:=τ X t2.size;have e:∀o,w2.cell? ⟨m,o,none⟩=w.cell? ⟨m,o,none⟩:=λo=>(t2.cell X Ω o).trans (t1.cell hE.hm Ω o)
 have o:∀o,o≠2->(w2.setCell ⟨m,2,none⟩ (.int .i64 z)).cell? ⟨m,o,none⟩=w.cell? ⟨m,o,none⟩:=λo ho=>by
  rw[ξq (h:=by simp_all),e o]
 refine⟨⟨hg,(v1.touch t2 Ω Ω).touch t3 Ω Ω,v2.touch t3 Ω Ω,by simp_all,(o 0 Ω).trans hE.c0,(o 1 Ω).trans hE.c1,?_,?_,hE.am,hE.ab⟩,?_⟩
 ·rw[hz];exact ξh (h:=(e 2).trans hE.c2) ..
 ·rw[ξa,t2.frozen X Ω,t1.frozen hE.hm Ω];exact hE.fr
 ·exact((t1.mono (λk _ h=>.inr (.inl h))).trans (t2.mono (λk _ h=>.inr (.inr h)))).trans (t3.mono (λk _ h=>.inl h))
def UJ(w:World)(m p1 b1 p2 b2 n:Nat)(L:List Ob)(s z:Int)(e:Ending)(w':World):Prop:=
 e=.returned (iI (C4 L n s z))/\AB (AS m b1 b2) w w'/\Ext w' m p1 b1 p2 b2 n (CW L n s z)
theorem OO(hE:Ext w m p1 b1 p2 b2 n L){c:Int}(h:C4 L n s z=c)(hc:c≠0):UJ w m p1 b1 p2 b2 n L s z (.returned (iI c)) w:=by
 refine⟨by rw[h],AB.refl _ _,?_⟩;unfold CW
 simp_all
theorem Zc1(hE:Ext w m p1 b1 p2 b2 n L)(hT:AP w)(s z:Int):
  Calls prog 177 #[pP m,iI s,iI z] w (UJ w m p1 b1 p2 b2 n L s z):=by
 have hb:=hE.nb;have HE:=hE;have HT:=hT;by_cases h0:z<1
 ·have d0:decide (z<1)=true:=by simp[h0]
  have HR:=(OO hE (s:=s) (z:=z) (c:=15) (by unfold C4;rw[θ h0]) (by decide));go_enter func177,ntmps177;go_wp2_with(go_at_call 122;refine(DL HE).mono ?_;rintro e w' ⟨rfl,rfl⟩);go_ret;exact HR
 ·have d0:decide (z<1)=false:=by simp;omega
  by_cases h1:s<0
  ·have d1:decide (s<0)=true:=by simp[h1]
   have HR:=(OO hE (s:=s) (z:=z) (c:=11) (by unfold C4;rw[ψ h0,θ (.inl h1)]) (by decide));go_enter func177,ntmps177;go_wp2_with(go_at_call 122;refine(DL HE).mono ?_;rintro e w' ⟨rfl,rfl⟩);go_ret;exact HR
  ·have d1:decide (s<0)=false:=by simp;omega
   by_cases h2:(n:Int)<=s
   ·have d2:decide ((n:Int)<=s)=true:=by simp[h2]
    have HR:=(OO hE (s:=s) (z:=z) (c:=11) (by unfold C4;rw[ψ h0,θ (.inr (.inl h2))]) (by decide));go_enter func177,ntmps177
    go_wp2_with(first
     | (go_at_call 122;refine(DL HE).mono ?_;rintro e w' ⟨rfl,rfl⟩)
     | (go_at_call 84;refine(EL HE).mono ?_;rintro e w' ⟨rfl,rfl⟩))
    go_ret;exact HR
   ·have d2:decide ((n:Int)<=s)=false:=by simp;omega
    obtain⟨sn,rfl⟩:∃k:Nat,s=k:=⟨s.toNat,by omega⟩;by_cases h3:(n:Int)-sn<z
    ·have d3:decide ((n:Int)-(sn:Int)<z)=true:=by simp;omega
     have HR:=(OO hE (s:=sn) (z:=z) (c:=11) (by unfold C4;rw[ψ h0,θ (.inr (.inr h3))]) (by decide));clear hE hT;go_enter func177,ntmps177
     go_wp2_with(first
      | (go_at_call 122;refine(DL HE).mono ?_;rintro e w' ⟨rfl,rfl⟩)
      | (go_at_call 84;refine(EL HE).mono ?_;rintro e w' ⟨rfl,rfl⟩))
     go_ret;exact HR
    ·have d3:decide ((n:Int)-(sn:Int)<z)=false:=by simp;omega
     obtain⟨zn,rfl⟩:∃k:Nat,z=k:=⟨z.toNat,by omega⟩;have X:=V3K hE.good (s:=(sn:Int)) (z:=(zn:Int)) Ω;have Xo:=TY hE.good hb.2 (A4 L (sn:Int));have Xl:((L[A4 L (sn:Int)]?.getD (0,0)).1:Int)=obS L (A4 L (sn:Int)):=rfl;rw[Xl]at X;obtain⟨s1,Xi⟩:∃v,v=obS L (AZ L (sn:Int)):=⟨_,rfl⟩;obtain⟨z1,J⟩:∃v,v=obZ L (AZ L (sn:Int)):=⟨_,rfl⟩;obtain⟨f1,Xa⟩:∃v,v=decide (AZ L (sn:Int)<L.length):=⟨_,rfl⟩;obtain⟨s2,I⟩:∃v,v=obS L (A4 L (sn:Int)):=⟨_,rfl⟩;obtain⟨z2,Xe⟩:∃v,v=obZ L (A4 L (sn:Int)):=⟨_,rfl⟩;obtain⟨f2,N⟩:∃v,v=decide (A4 L (sn:Int)<L.length):=⟨_,rfl⟩;have HF:Hid (F7 L (AZ L (sn:Int))=.tuple #[iI s1,iI z1,.bool f1]):=⟨by rw[Xi,J,Xa];rfl⟩;have HN:Hid (F7 L (A4 L (sn:Int))=.tuple #[iI s2,iI z2,.bool f2]):=⟨by rw[I,Xe,N];rfl⟩;rw[<-Xa,<-N,<-I]at X;rw[<-I,<-Xe]at Xo;have Xb:zn<=1048576/\sn<=1048576/\sn+zn<=n:=Ω
     have Z:∀c,GT L (sn:Int) (zn:Int)=c->C4 L n (sn:Int) (zn:Int)=if c then 7 else 0:=λc hc=>by
      unfold C4;rw[ψ h0,ψ Ω,hc]
     clear Xi J Xa I Xe N Xl;cases hc:GT L (sn:Int) (zn:Int)with
     | true=>
      have HR:=(OO hE (s:=(sn:Int)) (z:=(zn:Int)) (c:=7) (Z true hc) (by decide));rw[hc]at X;clear hE hT Z hc;cases f1 with
      | true=>
       clear X;go_enter func177,ntmps177
       go_wp2_with(first
        | (go_at_call 122;refine(DL HE).mono ?_;rintro e w' ⟨rfl,rfl⟩)
        | (go_at_call 84;refine(EL HE).mono ?_;rintro e w' ⟨rfl,rfl⟩)
        | (go_at_call 168;refine(LJ HE HT _).mono ?_;rintro e w' ⟨rfl,rfl⟩;rw[HF.o])
        | (go_at_call 183;refine(LL HE HT _).mono ?_;rintro e w' ⟨rfl,rfl⟩;rw[HN.o]))
       go_ret;exact HR
      | false=>
       have N:f2=true/\s2<(sn:Int)+zn:=by simpa using X.symm
       obtain⟨rfl,Xw⟩:=N;have d4:decide (s2<(sn:Int)+(zn:Int))=true:=by simp[Xw]
       clear X;go_enter func177,ntmps177
       go_wp2_with(first
        | (go_at_call 122;refine(DL HE).mono ?_;rintro e w' ⟨rfl,rfl⟩)
        | (go_at_call 84;refine(EL HE).mono ?_;rintro e w' ⟨rfl,rfl⟩)
        | (go_at_call 168;refine(LJ HE HT _).mono ?_;rintro e w' ⟨rfl,rfl⟩;rw[HF.o])
        | (go_at_call 183;refine(LL HE HT _).mono ?_;rintro e w' ⟨rfl,rfl⟩;rw[HN.o]))
       go_ret;exact HR
     | false=>
      have V:=XCZ (L:=L) (s:=(sn:Int)) (z:=(zn:Int)) Ω Ω hc;simp only[χ]at V;have J:1<=zn:=Ω
      have M:=QA hE.good (o:=(sn,zn)) J Xb.2.2 V;have Xf:=Yfk hE.good (o:=(sn,zn)) J Xb.2.2 V;have Xk:=Y48 hE.good (o:=(sn,zn)) J Xb.2.2 V;have A:=YKx L (sn,zn);have Y:C4 L n (sn:Int) (zn:Int)=0:=Z false hc;have hL:CW L n (sn:Int) (zn:Int)=DB L (sn,zn):=by unfold CW;rw[θ Y];rfl
      rw[hc]at X
      obtain⟨rfl,Xu⟩:f1=false/\(f2=false\/(f2=true/\(sn:Int)+zn<=s2)):=by
       cases f1 with
       | true=>rw[Bool.true_or]at X;cases X
       | false=>
        refine⟨rfl,?_⟩;cases f2 with
        | false=>exact .inl rfl
        | true=>
         right;rw[Bool.false_or,ξW]at X;have:=of_decide_eq_false X.symm;exact⟨rfl,by omega⟩
      obtain⟨e,he⟩:∃e,e=sn+zn-1:=⟨_,rfl⟩;have Xm:Hid ((sn:Int)+(zn:Int)-1=(e:Int)):=⟨by omega⟩;have G:DT n (DB L (sn,zn))=(DT n L).set e true:=by rw[he];exact Xk
      have D:BV n (DB L (sn,zn))=(BV n L).set sn true:=Xf;have K1:Hid (sn<(BV n L).length):=⟨by rw[H9];omega⟩;have K2:Hid (e<(DT n L).length):=⟨by rw[PJ];omega⟩;have KG:=M;have KS:=D;have KE:=G;have KL:=(ξ A (ξ Y hL));obtain⟨a1,a2,a3,a4⟩:=hE.am;obtain⟨a5,a6,a7⟩:=hE.ab;have E:=hE.hm;have Xx:=hE.c1;have Xr:=hE.c2;have Xt:=hE.fr;have cc0:=hE.c0;have HA:Hid (m≠b1/\m≠b2/\p2≠b1/\b2≠b1):=⟨⟨a2,a4,a6,λh=>a7 h.symm⟩⟩;have hLn:=hE.good.len;clear hE hT Z hc X V M Xf Xk G D A Y hL he a1 a2 a3 a4 a5 a6 a7;rcases Xu with rfl|⟨rfl,hge⟩
      all_goals try have d4:decide (s2<(sn:Int)+(zn:Int))=false:=by simp;omega
      all_goals
       go_enter func177,ntmps177
       go_wp2_with(first
        | (go_at_call 122;refine(DL HE).mono ?_;rintro e w' ⟨rfl,rfl⟩)
        | (go_at_call 84;refine(EL HE).mono ?_;rintro e w' ⟨rfl,rfl⟩)
        | (go_at_call 168;refine(LJ HE HT _).mono ?_;rintro e w' ⟨rfl,rfl⟩;rw[HF.o])
        | (go_at_call 183;refine(LL HE HT _).mono ?_;rintro e w' ⟨rfl,rfl⟩;rw[HN.o])
        | (go_at_call 208;rw[Xm.o];refine(ZYZ (HE.v2.touch Xg HA.o.2.2.1 HA.o.2.2.2) e K2.o).mono ?_;rintro e' w2 ⟨rfl,O,Xc⟩;rw[<-KE]at Xc;have e2:=(O.cell Xj HA.o.2.1 2).trans Xn;have ef:=(O.frozen Xj HA.o.2.1 2).trans Xv;have Xs:=O;have Xq:=Xc;clear O Xc)
        | (go_at_call 208;refine(ZYZ HE.v1 sn K1.o).mono ?_;rintro e' w1 ⟨rfl,U,Xd⟩;rw[<-KS]at Xd;have e11:=(U.cell E HA.o.1 1).trans Xx;have Xn:=(U.cell E HA.o.1 2).trans Xr;have Xv:=(U.frozen E HA.o.1 2).trans Xt;have Xg:=U;have Xp:=Xd;have Xj:=(τ E U.size);clear U Xd))
       go_ret;have Xh:=HE.changed KG Xg Xp Xs Xq (z:=((L.length:Int)+1)) (by rw[KL.1];push_cast;rfl);exact⟨by rw[KL.2.1];rfl,Xh.2,by rw[KL.2.2];exact Xh.1⟩
theorem ZRB(c0:w.cell? ⟨m,0,none⟩=some (pP p)):cQ 122 #[pP m] w (.bool false):=by
 go_enter func122,ntmps122;go_wp2;go_ret
 simp_all
theorem Xk0(c0:w.cell? ⟨m,0,none⟩=some (pP p))(hV:A6 w p b l)(hl:l.length=n):
  cQ 84 #[pP m] w (iI n):=by
 have HV:=hV;go_enter func84,ntmps84
 go_wp2_with(first
  | (go_at_call 122;refine(ZRB c0).mono ?_;rintro e w' ⟨rfl,rfl⟩)
  | (go_at_call 123;refine(IB HV).mono ?_;rintro e w' ⟨rfl,rfl⟩))
 go_ret
 simp_all
theorem X2(l:List Bool)(n:Nat)(h:l.length=n):CI l 0 n false=List.replicate n false:=
 H6 (by grind [FC]) (λi hi=>by
  rw[FC]at hi;rw[M3 _ _ _ _ _ hi,θ Ω]
  simp[at_,β,ξc];split <;> rfl)
def JAm(w:World)(m p1 b1 p2 b2 n:Nat)(e:Ending)(w':World):Prop:=e=.returned (.tuple #[])/\AB (AS m b1 b2) w w'/\Ext w' m p1 b1 p2 b2 n []
theorem Zca(hE:Ext w m p1 b1 p2 b2 n L):
  Calls prog 86 #[pP m] w (JAm w m p1 b1 p2 b2 n):=by
 have hb:=hE.nb;have HE:=hE;have Xd:=hE.c0;have Xg:=hE.c1;have Xa:=hE.c2;have Xc:=hE.fr;obtain⟨a1,a2,a3,a4⟩:=hE.am;obtain⟨a5,a6,a7⟩:=hE.ab;have Z:=hE.hm;have HA:Hid (m≠b1/\m≠b2/\p2≠b1/\b2≠b1):=⟨⟨a2,a4,a6,λh=>a7 h.symm⟩⟩;have KS:Hid (CI (BV n L) 0 (n:Int) false=BV n []):=⟨by grind [X2,H9,ZX]⟩;have KE:Hid (CI (DT n L) 0 (n:Int) false=DT n []):=⟨by grind [X2,PJ,X6]⟩;go_enter func86,ntmps86;go_upto_region 1 with(go_at_call 122;refine(DL HE).mono ?_;rintro e w' ⟨rfl,rfl⟩);obtain⟨S,hS⟩:∃S:World->Prop,S=λW'=>W'.cell? ⟨m,0,none⟩=some (pP p1):=⟨_,rfl⟩;have x0:∀p:AA S,p.w.cell? ⟨m,0,none⟩=some (pP p1):=λp=>AA.get hS p;have Y:S w.drew:=by simp_all
 have J:Inhabited (AA S):=⟨⟨_,Y⟩⟩;clear hS;refine AW S 6 [([0,1,2,3,4],5),([],6)] [] Y ?_;refine AI ?_;go_wp2_with(go_at_call 84;refine(EL (HE.gr (Gr.refl w).drew)).mono ?_;rintro e w' ⟨rfl,rfl⟩);refine⟨.inr (AA.of Y),?_⟩;refine NP ?_;simp only[AF,μ,ν];refine ζb ?_;go_wp2_with(go_at_call 124;refine(XT (HE.v1.gr (Gr.refl w).drew) 0 (n:Int) (by decide)).mono ?_;rintro e' w1 ⟨rfl,Xf,O⟩;rw[KS.o]at O;have X:=((Gr.refl w).drew.touch (λk=>k=b1)).trans Xf;have e11:=(X.cell Z HA.o.1 1).trans Xg;have G:=(X.cell Z HA.o.1 2).trans Xa;have D:=(X.cell Z HA.o.1 0).trans Xd;have Xe:=(X.frozen Z HA.o.1 2).trans Xc;have U:=X;have M:=O;have I:=(τ Z X.size));refine⟨.inl trivial,?_⟩;refine EI ?_;refine ζb ?_;refine ζA ?_;go_upto_region 2 with(fail);obtain⟨S,hS⟩:∃S:World->Prop,S=λW'=>W'.cell? ⟨m,1,none⟩=some (pP p2):=⟨_,rfl⟩;have x0:∀p:AA S,p.w.cell? ⟨m,1,none⟩=some (pP p2):=λp=>AA.get hS p;have Y:S w1.drew:=by simp_all
 have J:Inhabited (AA S):=⟨⟨_,Y⟩⟩;clear hS;refine AW S 6 [([0,1,2,3,4],5),([],6)] [] Y ?_;refine AI ?_;go_wp2_with(go_at_call 84;refine(Xk0 (w:=w1.drew) D (M.gr (Gr.refl w1).drew) (H9 n [])).mono ?_;rintro e w' ⟨rfl,rfl⟩);refine⟨.inr (AA.of Y),?_⟩;refine NP ?_;simp only[AF,μ,ν];refine ζb ?_;go_wp2_with(go_at_call 124;refine(XT ((HE.v2.touch U HA.o.2.2.1 HA.o.2.2.2).gr (Gr.refl w1).drew) 0 (n:Int) (by decide)).mono ?_;rintro e' w2 ⟨rfl,E,N⟩;rw[KE.o]at N;have X:=((Gr.refl w1).drew.touch (λk=>k=b2)).trans E;have e2:=(X.cell I HA.o.2.1 2).trans G;have ef:=(X.frozen I HA.o.2.1 2).trans Xe;have Xb:=X;have A:=N);refine⟨.inl trivial,?_⟩;refine EI ?_;refine ζb ?_;refine ζA ?_;clear x0 Y J;go_wp2;refine ζx (ζk rfl _ _ _) rfl ?_;have V:=HE.changed (AO.nil n) U M Xb A (z:=0) rfl;exact⟨rfl,V.2,V.1⟩
def XrP(w:World)(n:Nat)(e:Ending)(w':World):Prop:=
 ∃m p1 b1 p2 b2,e=.returned (.tuple #[pP m,iI 0])/\Gr w w'/\Ext w' m p1 b1 p2 b2 n []/\w.heap.size<=m/\w.heap.size<=p1/\w.heap.size<=b1/\w.heap.size<=p2/\w.heap.size<=b2
theorem QG(n:Nat)(h1:1<=n)(h2:n<=1048576)(w:World):Calls prog 46 #[iI n] w (XrP w n):=by
 have HN:=(ξ h1 h2);go_enter func46,ntmps46
 go_wp2_with(first
  | (go_at_call 82;refine(UL n HN.1 HN.2 w1).mono ?_;rintro e w2 ⟨p2,b2,rfl,J,Y,hp2,hb2⟩)
  | (go_at_call 82;refine(UL n HN.1 HN.2 _).mono ?_;rintro e w1 ⟨p1,b1,rfl,U,X,hp1,hb1⟩))
 go_ret2;have Z:=X.gr J;have s1:=X.hp;have s2:=X.hb;have s3:=Y.hp;have s4:=Y.hb;refine⟨_,p1,b1,p2,b2,BG rfl rfl,(U.trans J).alloc _,⟨AO.nil n,?_,?_,by simp,ζD ..,ζD ..,ζD ..,ξX ..,by omega,by omega⟩,by omega,by omega,by omega,by omega,by omega⟩
 ·rw[ZX];exact Z.gr ((Gr.refl _).alloc _)
 ·rw[X6];exact Y.gr ((Gr.refl _).alloc _)
end
open Go.Shelf
section
attribute [local go_sem] Oper.semAt_some
def YjA(box p b N:Nat)(s:List Bool×Nat)(W:World):Prop:=
 A6 W p b s.1/\s.1.length=N/\AP W/\W.cell? ⟨box,0,none⟩=some (pP p)/\s.2<=N
def XRB(s:List Bool×Nat)(x:Nat):Prop:=x=BN s.1 s.2/\BN s.1 s.2<s.1.length
def Qk5(_:List Bool×Nat)(x:Nat)(s':List Bool×Nat):Prop:=s'.2=x+1
theorem VJj(h:BN l a<l.length):at_ l (BN l a)=true/\a<=(BN l a:Nat):=by
 have:=GD (λi=>at_ l i&&decide (a<=(i:Nat))) l.length h;simp only[ζd,ζc]at this;exact this
theorem ZWM(h:BN l a<l.length):a<=(BN l a:Nat):=(VJj h).2
def UW:Value->Bool
 | .bool b=>b
 | _=>false
def TU(s:List Bool×Nat):Prop:=¬BN s.1 s.2<s.1.length
theorem ZNp(n:Nat)(box p b N:Nat)(l0:List Bool)(w:World):
  MD Fence.wide n prog 217 #[pP box] (λx:Nat=>#[iI (x:Int)]) (YjA box p b N) XRB Qk5 TU (l0,0) w:=by
 intro l J Jx W hg hJ hJx hI hY h0;refine callsIn_of_wp func217 rfl trivial ?_ rfl;have U:=hI _ _ h0;have c0:=U.2.2.2.1;have V:=U;simp only[ntmps217,ζS,ζz,ζ6,Nat.reduceAdd,Nat.reduceSub,ζJ,ζI,ζX,ζO,ζV,ζq];gi_wp2_with(refine⟨trivial,λh=>Bool.noConfusion h,?_⟩;gi_at_call 213;refine(π.2 (J0 V.1 V.2.2.1 _)).mono ?_;rintro e w1 ⟨rfl,rfl⟩)
 gi_loopw [3,4] (λx3 x4 wr=>∃s:List Bool×Nat,J s wr/\x3=iI (IY s.1.length (BN s.1 s.2))/\x4=.bool (decide (BN s.1 s.2<s.1.length))) (λx3 x4 _=>if UW x4 then N-(intOf x3).toNat+1 else 0)
 case atStart=>grind
 case round=>
  obtain⟨s,hs,rfl,rfl⟩:=hrel;have hi:=hI _ _ hs;have c1:=hi.2.2.2.1;have HI:=hi;by_cases X:BN s.1 s.2<s.1.length
  ·obtain⟨x,hx⟩:∃x,x=BN s.1 s.2:=⟨_,rfl⟩;obtain⟨fn,tmps,assign,body,hy,hR⟩:=hY s x wr hs ⟨hx,X⟩;have e1:IY s.1.length (BN s.1 s.2)=(x:Int):=by grind [IC]
   have e2:decide (BN s.1 s.2<s.1.length)=true:=by simp[X]
   rw[e1,e2];have hxN:x<N:=by rw[<-HI.2.1,hx];exact X
   have HN:=hI;have HX:=ι hx;clear hx e1 e2 hI;gi_wp2;refine⟨λh=>Bool.noConfusion h,hR.mono ?_⟩;rintro e W3 (⟨rfl,s',M,I⟩|⟨rfl,hx'⟩)
   ·have Y:=HN _ _ I;have c3:=Y.2.2.2.1;have Z:=Y;have O:s'.2=x+1:=M;have hN2:(N:Int)<=1048576:=by have:=Y.1.n2;have:=Y.2.1;omega
    have hx2:(x:Int)<N:=Ω
    have HS':=O;gi_wp2_with(refine⟨trivial,λh=>Bool.noConfusion h,?_⟩;gi_at_call 213;refine(π.2 (J0 Z.1 Z.2.2.1 ((x:Int)+1))).mono ?_;rintro e w1 ⟨rfl,rfl⟩);go_roundw
    case rel=>grind
    case measure=>
     have e0:UW (Value.bool true)=true:=rfl;rw[θ e0];by_cases h:BN s'.1 ((x:Int)+1)<s'.1.length
     ·have hge:=ZWM h;have h2:=Z.2.1;rw[IC h,θ (by simp_all)];simp only[intOf];omega
     ·rw[ψ (by simp[UW];omega)];omega
   ·gi_wp2
    go_end0
    simp_all
  ·have e1:IY s.1.length (BN s.1 s.2)=0:=MN X;have e2:decide (BN s.1 s.2<s.1.length)=false:=by simp;omega
   rw[e1,e2];gi_wp2;refine⟨λ_ h=>(by cases h),?_⟩;gi_wp2
   go_end0
   exact⟨⟨_,rfl⟩,.inl ⟨s,X,hs⟩⟩
theorem Xig(q:Option Addr):
  Calls prog 188 #[.pointer q] w λe w'=>e=.returned (.func (.func 217) #[] #[pP w.heap.size])/\w'=w.alloc (.cells #[.pointer q] 150):=by
 go_enter func188,ntmps188;go_wp2;go_ret
 simp_all
end
section
attribute [local go_sem] Oper.semAt_some
def Zxj(box m p1 b1 p2 b2 n:Nat)(L:List Ob)(j:Nat)(W:World):Prop:=
 Ext W m p1 b1 p2 b2 n L/\AP W/\W.cell? ⟨box,0,none⟩=some (pP m)/\j<=L.length
def EH(L:List Ob)(j:Nat)(x:Ob):Prop:=L[j]?=some x
def GG(x:Ob):Array Value:=#[iI (x.1:Nat),iI (x.2:Nat)]
theorem ZjB(h:AO n L)(hj:j<L.length):A4 L ((L[j].1:Int)+1)=j+1:=by
 refine LP Ω (λi hi hij=>?_) (λh2=>?_)
 ·rcases υ i j with h1|h1
  ·have:=h.at hi hj h1;omega
  grind
 ·have:=h.at hj h2 (ξH j);have:=h.sz _ (κ hj);omega
theorem ZVe{l l2:Nat}{P:Program}{args:Array Value}{R:Ending->World->Prop}(h:YieldAt Fence.wide m P l args W R):YieldAt (Fence.wide.inRound l2) m' P l args W R:=by
 obtain⟨fn,Y,X,Z,hy,hR⟩:=h;exact⟨fn,Y,X,Z,hy,hR.1,λc cs _=>hR.2 c cs (room_wide _)⟩
structure LV(n:Nat)(L:List Ob)(J:Nat->World->Prop)(B0 B1 p1:Nat)(y:Value)(s:List Bool×Nat)(A:World):Prop where
 st:s.1=BV n L
 ps:s.2<=n
 j:∃j,J j A/\A4 L (s.2:Int)=j
 y:A.cell? ⟨B0,0,none⟩=some y
 v:A.cell? ⟨B1,0,none⟩=some (pP p1)
theorem Xix(n':Nat)(box m p1 b1 p2 b2 n:Nat)(L:List Ob)(w:World):
  UQ Fence.wide n' prog 187 #[pP box] GG (Zxj box m p1 b1 p2 b2 n L) (EH L) (λj _ j'=>j'=j+1) (λj=>j=L.length) 0 w:=by
 intro l J Jx W hg hJ Xk hI hY h0;refine π.2 ((π (n:=5)).1 ?_);refine callsIn_of_wp_marks func187 rfl trivial ?_ rfl;have Xd:=hI _ _ h0;have c0:=Xd.2.2.1;have k0:=Xd.1.c0;have Xa:=Xd;have Ya:=h0;have Xm:=hI;simp only[ntmps187,ζS,ζz,ζ6,Nat.reduceAdd,Nat.reduceSub,ζJ,ζI,ζX,ζO,ζV,ζq];have hbox:box<W.heap.size:=AT c0;have hmw:=Xa.1.hm
 gi_wp2_with(first
  | (refine⟨trivial,?_⟩;gi_at_call 122;refine(π.2 (DL (Xa.1.gr ((Gr.refl W).alloc _)))).mono ?_;rintro e w1 ⟨rfl,rfl⟩)
  | (refine⟨trivial,?_⟩;gi_at_call 188;refine(π.2 (Xig (some ⟨p1,0,none⟩))).mono ?_;rintro e w1 ⟨rfl,rfl⟩))
 obtain⟨W0,M⟩:∃W0,W0=(W.alloc (.cells #[.func (.yield l) #[] #[]] 118)).alloc (.cells #[.pointer (some ⟨p1,0,none⟩)] 150):=⟨_,rfl⟩;have Xw:Gr W W0:=by rw[M];exact((Gr.refl W).alloc _).alloc _
 have Xj:W0.heap.size=W.heap.size+2:=by rw[M];simp
 have bY:W0.cell? ⟨W.heap.size,0,none⟩=some (.func (.yield l) #[] #[]):=by rw[M];exact((Boxed.new W _ _).alloc _).cell
 have bV:W0.cell? ⟨W.heap.size+1,0,none⟩=some (pP p1):=by
  rw[M];have:=Boxed.new (W.alloc (.cells #[.func (.yield l) #[] #[]] 118)) 150 (pP p1);rw[γ]at this;exact this.cell
 rw[<-M];have X:=Xa.1.good;have hnb:=Xa.1.nb;have Xp:J 0 W0:=hJ _ _ _ Ya (Xw.touch _);have HH0:=M;have Xt:A4 L ((0:Nat):Int)=0:=LP (ζg _) (λi hi h=>by omega) (λh=>by omega)
 have tI:∀s A B,LV n L J W.heap.size (W.heap.size+1) p1 (.func (.yield l) #[] #[]) s A->AB (λk=>W0.heap.size<=k) A B->LV n L J W.heap.size (W.heap.size+1) p1 (.func (.yield l) #[] #[]) s B:=λs A B h t=>
  ⟨h.st,h.ps,by obtain⟨j,hj,e⟩:=h.j;exact⟨j,hJ _ _ _ hj (t.mono (λk _ h=>by omega)),e⟩,(t.cell (AT h.y) (by show ¬W0.heap.size<=W.heap.size;omega) 0).trans h.y,(t.cell (AT h.v) (by show ¬W0.heap.size<=W.heap.size+1;omega) 0).trans h.v⟩
 refine SA (s0:=(BV n L,0)) rfl Ω (gf:=217) (lb:=#[pP (W.heap.size+1)]) rfl trivial (enters_of func217 (by kernel_rfl) rfl)
  (ZNp _ (W.heap.size+1) p1 b1 n (BV n L) _).toT (λ_=>rfl)
  (LV n L J W.heap.size (W.heap.size+1) p1 (.func (.yield l) #[] #[])) (λc A=>c=.ret/\Jx A) tI (λc A B h t=>⟨h.1,Xk _ _ h.2 (t.mono (λk _ h=>by omega))⟩)
  (λs A h=>by
   obtain⟨j,hj,-⟩:=h.j;have hi:=Xm _ _ hj
   exact⟨by rw[h.st];exact hi.1.v1,by rw[h.st,H9],hi.2.1,h.v,h.ps⟩)
  ⟨rfl,ζg _,⟨0,Xp,Xt⟩,bY,bV⟩ ?round ?done ?stop
 case round=>
  intro lp s x W3 hsz3 Xe Xx;gi_wp2;refine⟨Gr.refl _,λW4 ht4 hI4=>?_⟩;obtain⟨V,Xo,⟨j,hj,Z⟩,hy,hv⟩:=hI4;obtain⟨hx,Xq⟩:=Xx;have I:=Xm _ _ hj;rw[V]at hx Xq
  have Y:j<L.length:=by
   rcases υ j L.length with h|h
   ·exact h
   ·have:=VS X (a:=(s.2:Int)) (by rw[Z];omega);omega
  have Xy:x=L[j].1:=by
   have:=(MU X (a:=(s.2:Int)) (by rw[Z];exact Y)).1;rw[hx,this];congr 2
  subst Xy;have Xz:J j W4.drew:=hJ _ _ _ hj ((Gr.refl W4).drew.touch _);have Xf:W.heap.size<=W4.drew.heap.size:=Nat.le_of_lt (AT hy);obtain⟨fn,tmps,assign,body,Xu,hR⟩:=ZVe (m':=2) (l2:=lp) (hY j L[j] W4.drew Xz Xf (η Y));have HZ:=(PV (I.1.gr (Gr.refl W4).drew) ((Gr.refl W4).drew.tab I.2.1.lt I.2.1) Y);have cbx:=I.2.2.1;have hbxs:=Xj;have HS:=(ξ V (ξ Z Y));clear V Z hj I hx Xq Xe;dsimp only[GG]at Xu
  have Xl:=hR.mono (R':=λe W'=>∃bb:Bool,e=.returned (.bool bb)/\((bb=true/\J (j+1) W')\/(bb=false/\Jx W'))/\AB (λk=>k<W.heap.size) W4.drew W') (by
   rintro e W' ⟨⟨he,s',rfl,Xr⟩|⟨he,hx⟩,ht⟩
   ·exact⟨true,he,.inl ⟨rfl,Xr⟩,ht⟩
   ·exact⟨false,he,.inr ⟨rfl,hx⟩,ht⟩)
  clear hR;gi_wp2;obtain⟨Sx,E⟩:∃S:World->Prop,S=λA=>A.cell? ⟨W.heap.size,0,none⟩=some (.func (.yield l) #[] #[]):=⟨_,rfl⟩;have x1:∀p:AA Sx,p.w.cell? ⟨W.heap.size,0,none⟩=some (.func (.yield l) #[] #[]):=λp=>AA.get E p;have O:Sx W4.drew:=by rw[E];exact hy
  have Xh:=ι E;clear E;have Xi:Inhabited (AA Sx):=⟨⟨_,O⟩⟩;refine F5 Sx 7 [([0,1,3],2),([],4),([],5)] [6] (λ_=>trivial) O ?_;refine DN ?_;gi_wp2;refine⟨.inr (AA.of O),?_⟩;refine M6 ?_;simp only[AF,μ,ν];refine ζb ?_;gi_wp2_with(refine⟨trivial,?_⟩;gi_at_call 189;refine(CallsIn.inRound lp (π.2 HZ)).mono ?_;rintro e w' ⟨rfl,rfl⟩);refine⟨.inr (AA.of O),?_⟩;refine M6 ?_;simp only[AF,μ,ν];refine ζb ?_;gi_wp2;refine Xl.mono ?_;rintro e W5 ⟨bb,rfl,Xb,G⟩;have Xg:=(G.cell (AT hy) (ζP _) 0).trans hy;have Xs:=(G.cell (AT hv) (by show ¬W.heap.size+1<W.heap.size;omega) 0).trans hv;gi_wp2;refine⟨.inr (AA.of (by rw[Xh.o];exact Xg)),?_⟩;refine FY ?_;have T5:=(((Gr.refl W4).drew.touch (λk=>k<W0.heap.size)).trans (G.mono (λk _ h=>by omega)));have Xv:=(X.sz _ (κ Y));clear x1 O Xh Xi Xl G;clear Sx;cases bb with
  | true=>
   have N:J (j+1) W5:=by
    rcases Xb with⟨_,h⟩|⟨h,_⟩
    ·exact h
    ·cases h
   have Xc:=N;clear Xb N;gi_wp2;exact⟨T5,(BV n L,L[j].1+1),rfl,rfl,by have:=Xv;show L[j].1+1<=n;omega,⟨j+1,Xc,by have:=ZjB X Y;push_cast;exact this⟩,Xg,Xs⟩
  | false=>
   have N:Jx W5:=by
    rcases Xb with⟨h,_⟩|⟨_,h⟩
    ·cases h
    ·exact h
   have Xc:=N;clear Xb N;gi_wp2;exact⟨T5,rfl,Xc⟩
 case done=>
  rintro D s W3 hD U Xe hK;obtain⟨V,Xo,⟨j,hj,Z⟩,hy,hv⟩:=Xe
  have Y:¬j<L.length:=λh=>by
   have:=MU X (a:=(s.2:Int)) (by rw[Z];exact h);unfold TU at U;rw[V]at U;exact U this.2
  have Xn:j=L.length:=by have:=NQ L (s.2:Int);omega
  have HE:=(ξ Xn hj);have HK:=hK;have HD:=hD;clear V Xo Z hy hv U Xn hj hK hD Y;gi_wp2;refine⟨by simp,.inl ⟨_,_,rfl,run_takeDeferred HK,?_⟩⟩;refine⟨.tuple #[],ζk rfl _ _ _,⟨_,rfl⟩,.inl ⟨j,HE.1,hJ _ _ _ HE.2 ((C5 W3 D _ (ϑ D)).mono (λk _ h=>by have:=HD;omega))⟩⟩
 case stop=>
  rintro D c W3 hD ⟨rfl,hx⟩ hK;have HE:=hx;have HK:=hK;have HD:=hD;clear hx hK hD;gi_wp2;refine⟨by simp,.inl ⟨_,_,rfl,run_takeDeferred HK,?_⟩⟩;refine⟨.tuple #[],ζk rfl _ _ _,⟨_,rfl⟩,.inr (Xk _ _ HE ((C5 W3 D _ (ϑ D)).mono (λk _ h=>by have:=HD;omega)))⟩
end
section
attribute [local go_sem] Oper.semAt_some
theorem JR(q:Option Addr):
  Calls prog 144 #[.pointer q] w λe w'=>e=.returned (.func (.func 187) #[] #[pP w.heap.size])/\w'=w.alloc (.cells #[.pointer q] 93):=by
 go_enter func144,ntmps144;go_wp2;go_ret
 simp_all
theorem AP.touch'(ht:AP w)(h:AB S w W)(hS:¬S 1):AP W:=h.tab ht.lt hS ht
end
section
attribute [local go_sem] Oper.semAt_some
end
def CX(n:Nat)(L:List Ob):List Bool:=(List.range n).map (DG L)
theorem JB(n:Nat)(L:List Ob):(CX n L).length=n:=by simp[CX]
theorem UN(h:AO n L)(i:Nat):at_ (CX n L) i=DG L i:=by
 unfold CX;rw[I5];by_cases hi:i<n
 ·simp_all
 ·rw[ζ hi];cases hb:DG L i with
  | false=>rfl
  | true=>
   obtain⟨o,ho,h1,h2⟩:=NL.1 hb;have:=h.sz o ho;omega
theorem Yht(h:AO n L)(f t:Int):((DK (CX n L) f t:Nat):Int)=AY L f t:=by
 rw[<-QP h,JE,JB];congr 1;exact ZVB (λi _=>by rw[UN h])
theorem SO(h:AO n L)(k:Nat)(hk:k<=n):((cnt (at_ (CX n L)) k:Nat):Int)=AY L 0 k:=by
 rw[<-Yht h,TQ _ (by grind [JB])]
theorem YKJ:∀{q k:Nat},DS L q=some k->∃j,∃hj:j<L.length,∃i,i<L[j].2/\q=sizes (L.take j)+i/\k=L[j].1+i:=by
 induction L with
 | nil=>intro q k h;cases h
 | cons o r ih=>
  intro q k h;unfold DS at h;by_cases hq:q<o.2
  ·rw[θ hq]at h;exact⟨0,by simp,q,hq,by simp[sizes],(Option.some.inj h).symm⟩
  ·rw[ψ hq]at h;obtain⟨j,hj,i,h1,h2,h3⟩:=ih h;exact⟨j+1,by simp_all,i,h1,by simp[sizes];omega,h3⟩
theorem XUI(hj:j<L.length)(hi:i<L[j].2):DG L (L[j].1+i)=true:=NL.2 ⟨_,κ hj,by omega,by omega⟩
theorem Qh2(h:AO n L)(q:Nat):(∀k,DS L q=some k->CS (CX n L) q=k/\k<n)/\(DS L q=none->CS (CX n L) q=n):=by
 refine⟨λk hk=>?_,λhn=>?_⟩
 ·obtain⟨j,hj,i,h1,rfl,rfl⟩:=YKJ hk;have hs:=h.sz _ (κ hj);have hc:=SO h (L[j].1+i) Ω;have ho:=Yhz h hj (i:=i) Ω;obtain⟨e1,e2⟩:=YTa (l:=CX n L) (k:=L[j].1+i) (q:=sizes (L.take j)+i) (by grind [UN,XUI]) (by grind);omega
 ·have hle:=Jkd.1 hn;have hc:=SO h n (ϑ n);rw[Q0 h]at hc;have:=Vit (f:=at_ (CX n L)) (n:=n) (k:=q) Ω;unfold CS
  grind [JB]
theorem Zop(h:AO n L)(k:Int):JT (CX n L) k=IH L k/\L9 (CX n L) k=VL L k:=by
 unfold JT L9 IH VL;by_cases hk:k<0
 ·grind
 ·rw[ψ hk,ψ hk,φ Ω,JB];obtain⟨h1,h2⟩:=Qh2 h k.toNat;cases hw:DS L k.toNat with
  | none=>grind [MN]
  | some x=>grind [IC]
theorem Jw5(hj:j<L.length):CX n (L.take (j+1))=CI (CX n (L.take j)) (L[j].1:Nat) ((L[j].1:Int)+(L[j].2:Int)) true:=by
 refine H6 (by grind [FC,JB]) (λi hi=>?_);rw[JB]at hi;rw[M3 _ _ _ _ _ (by grind [JB])];unfold CX;rw[I5,I5,φ hi];unfold DG
 grind [ζW]
theorem ZPf(n:Nat):CX n []=List.replicate n false:=by
 unfold CX;exact H6 (by simp) (λi hi=>by rw[I5];simp[at_,β,ξc,DG];split <;> rfl)
def FT(w:World)(F t n B:Nat)(L:List Ob):Prop:=
 AO n L/\t<w.heap.size/\F<=t/\∃v vb x p b a,w.cell? ⟨t,0,none⟩=some (pP v)/\w.cell? ⟨t,1,none⟩=some (pP x)/\A6 w v vb (CX n L)/\Idx w x p b a (CX n L) B ∧
  F<=v/\F<=vb/\F<=x/\F<=p/\F<=b/\F<=a
theorem FT.touch{t:Nat}(h:FT w F t n B L)(ht:AB S w w')(hS:∀k,F<=k->k<w.heap.size->¬S k):FT w' F t n B L:=by
 obtain⟨hg,h1,h2,v,vb,x,p,b,a,c0,c1,hV,hX,k1,k2,k3,k4,k5,k6⟩:=h;exact⟨hg,τ h1 ht.size,h2,v,vb,x,p,b,a,(ht.cell h1 (hS t h2 h1) 0).trans c0,(ht.cell h1 (hS t h2 h1) 1).trans c1,hV.touch ht (hS v k1 hV.hp) (hS vb k2 hV.hb),hX.touch ht (hS x k3 hX.hx) (hS p k4 hX.vec.hp) (hS b k5 hX.vec.hb) (hS a k6 hX.ha),k1,k2,k3,k4,k5,k6⟩
theorem FT.gr{t:Nat}(h:FT w F t n B L)(g:Gr w w'):FT w' F t n B L:=h.touch (g.touch (λ_=>False)) (λ_ _ _ h=>h)
section
variable{t:Nat}
theorem VXx(hO:FT w F t n B L)(hT:AP w)(k:Int):
  A2 prog 226 #[pP t,iI k] w (.tuple #[iI (IH L k),.bool (VL L k)]):=by
 obtain⟨hg,h1,h2,v,vb,x,p,b,a,c0,c1,hV,hX,-⟩:=hO;rw[<-(Zop hg k).1,<-(Zop hg k).2];have HT:=hT;go_enter func226,ntmps226;go_wp2_with(go_at_call 235;refine(Qax hX HT k).mono ?_;rintro e w1 ⟨rfl,hg1⟩);go_ret2
 simp_all
theorem YWi(hO:FT w F t n B L)(i:Int):A2 prog 193 #[pP t,iI i] w (iI (AY L 0 i)):=by
 obtain⟨hg,h1,h2,v,vb,x,p,b,a,c0,c1,hV,hX,-⟩:=hO;rw[<-Yht hg];go_enter func193,ntmps193;go_wp2_with(go_at_call 220;refine(Zde hX i).mono ?_;rintro e w1 ⟨rfl,hg1⟩);go_ret
 simp_all
theorem ZaO(hO:FT w F t n B L)(i:Int):cQ 192 #[pP t,iI i] w (.bool (decide (0<=i)&&DG L i.toNat)):=by
 obtain⟨hg,h1,h2,v,vb,x,p,b,a,c0,c1,hV,hX,-⟩:=hO;rw[<-UN hg];go_enter func192,ntmps192;go_wp2_with(go_at_call 219;refine(X89 hV i).mono ?_;rintro e w1 ⟨rfl,rfl⟩);go_ret
 simp_all
theorem XcN(hO:FT w F t n B L):cQ 186 #[pP t] w (iI (sizes L:Nat)):=by
 obtain⟨hg,h1,h2,v,vb,x,p,b,a,c0,c1,hV,hX,-⟩:=hO
 have HL:Hid (cnt (at_ (CX n L)) (CX n L).length=sizes L):=⟨by
  have:=SO hg n (ϑ n)
  grind [Q0,JB]⟩
 go_enter func186,ntmps186;go_wp2_with(go_at_call 216;refine(ZsP hX).mono ?_;rintro e w1 ⟨rfl,rfl⟩;rw[HL.o]);go_ret
 simp_all
end
section
attribute [local go_sem] Oper.semAt_some
theorem JWx(k:Int)(w:World):cQ 185 #[.pointer none,iI k] w (.tuple #[.pointer none,iI 9]):=by
 refine(π (n:=5)).1 ?_;refine callsIn_of_wp_marks func185 rfl trivial ?_ rfl;simp only[ntmps185,ζS,ζz,ζ6,Nat.reduceAdd,Nat.reduceSub,ζJ,ζI,ζX,ζO,ζV,ζq];gi_wp2_with(refine⟨trivial,?_⟩;gi_at_call 84;refine(π.2 (QOV _)).mono ?_;rintro e w1 ⟨rfl,rfl⟩);refine⟨.tuple #[.pointer none,iI 9],?_,rfl,rfl⟩;simp[results,f185,go_sem]
structure QM(W0:World)(v vb n:Nat)(L:List Ob)(j:Nat)(A:World):Prop where
 t:AB (λi=>i=vb\/W0.heap.size<=i) W0 A
 jl:j<=L.length
 vec:A6 A v vb (CX n (L.take j))
def V4V(w:World)(n:Nat)(L:List Ob)(k:Int)(e:Ending)(w':World):Prop:=
 Gr w w'/\((BI k=false/\e=.returned (.tuple #[.pointer none,iI 5]))\/(BI k=true/\∃t B:Nat,k=B/\e=.returned (.tuple #[pP t,iI 0])/\FT w' w.heap.size t n B L))
theorem RI{b1 b2:Nat}(hE:Ext w m p1 b1 p2 b2 n L)(hT:AP w)(k:Int)(hk:k<=9223372036854775807):
  Calls prog 185 #[pP m,iI k] w (V4V w n L k):=by
 have HT:=hT;obtain⟨Xu,Xm⟩:=hE.nb;have hn0:((n:Int)==0)=false:=ζG.2 Ω;clear hT;refine(π (n:=5)).1 ?_;refine callsIn_of_wp_marks func185 rfl trivial ?_ rfl;simp only[ntmps185,ζS,ζz,ζ6,Nat.reduceAdd,Nat.reduceSub,ζJ,ζI,ζX,ζO,ζV,ζq]
 gi_wp2_with(first
  | (refine⟨trivial,?_⟩;gi_at_call 84;refine(π.2 (EL hE)).mono ?_;rintro e w1 ⟨rfl,rfl⟩)
  | (refine⟨trivial,?_⟩;gi_at_call 82;refine(π.2 (UL n Xu Xm _)).mono ?_;rintro e w1 ⟨v,vb,rfl,O,Xb,hv,Xh⟩;have I:=Xb;have HP:=(ξ hv Xh);clear Xb hv Xh)
  | (refine⟨trivial,?_⟩;gi_at_call 144;refine(π.2 (JR (some ⟨m,0,none⟩))).mono ?_;rintro e w2 ⟨rfl,rfl⟩))
 obtain⟨X,hX⟩:∃X,X=w1.heap.size:=⟨_,rfl⟩;obtain⟨W0,J⟩:∃W0,W0=(w1.alloc (.cells #[.pointer (some ⟨v,0,none⟩)] 150)).alloc (.cells #[.pointer (some ⟨m,0,none⟩)] 93):=⟨_,rfl⟩;have N:Gr w1 W0:=by rw[J];exact((Gr.refl w1).alloc _).alloc _
 have hs0:W0.heap.size=X+2:=by rw[J,hX];simp
 have e0:W0.cell? ⟨X,0,none⟩=some (pP v):=by rw[J,hX];exact((Boxed.new w1 _ _).alloc _).cell
 have e1:W0.cell? ⟨X+1,0,none⟩=some (pP m):=by
  rw[J,hX];have:=Boxed.new (w1.alloc (.cells #[.pointer (some ⟨v,0,none⟩)] 150)) 93 (pP m);rw[γ]at this;exact this.cell
 have Xo:=O.size;have Xw:=I.hp;have Xn:=I.hb;have hz4:=HP.1;have hz5:=HP.2;rw[<-hX]at Xo Xw Xn;have o1:=hE.hm;have o2:=hE.v1.hp;have o3:=hE.v1.hb;have o4:=hE.v2.hp;have o5:=hE.v2.hb;have o6:=HT.lt;have Xj:=(O.trans N);have Xr:=(hE.gr (O.trans N));have Xq:=(I.gr N);have V:=hE.good;have G:=(ξ e0 e1);rw[<-J,<-hX];clear J hX N e0 e1;have Xp:QM W0 v vb n L 0 W0:=⟨AB.refl _ _,ζg _,by show A6 W0 v vb (CX n []);rw[ZPf];exact Xq⟩
 have tI:∀j A B,QM W0 v vb n L j A->AB (λi=>W0.heap.size<=i) A B->QM W0 v vb n L j B:=λj A B h t=>
  ⟨h.t.trans (t.mono (λi _ h=>.inr h)),h.jl,h.vec.touch t Ω Ω⟩
 refine SA (s0:=0) rfl Ω (gf:=187) (lb:=#[pP (X+1)]) rfl trivial (enters_of func187 (by kernel_rfl) rfl)
  (Xix _ (X+1) m p1 b1 p2 b2 n L _) (λ_=>rfl)
  (QM W0 v vb n L) (λ_ _=>False) tI (λ_ _ _ h _=>h)
  (λj A h=>⟨Xr.touch h.t Ω Ω Ω Ω Ω,(Xj.tab HT.lt HT).touch' h.t Ω,(h.t.cell Ω Ω 0).trans G.2,h.jl⟩)
  Xp ?round ?done (λ_ _ _ _ h _=>h.elim)
 case round=>
  intro lp j x W3 hsz3 Y Z;dsimp only[GG];gi_wp2;refine⟨Gr.refl _,λW4 ht4 hI4=>?_⟩
  have E:j<L.length:=by
   rcases υ j L.length with h|h
   ·exact h
   ·unfold EH at Z;rw[ζF h]at Z;cases Z
  obtain rfl:x=L[j]:=by unfold EH at Z;rw[η E]at Z;exact(Option.some.inj Z).symm
  have hsz':=V.sz _ (κ E);have Xv:=(Jw5 (n:=n) E);have c6:=(hI4.t.cell (b:=X) Ω Ω 0).trans G.1;clear Y ht4 Z;gi_wp2_with(refine⟨trivial,?_⟩;gi_at_call 214;refine(CallsIn.inRound lp (π.2 (XBA hI4.vec _ _ Ω))).mono ?_;rintro e w5 ⟨rfl,Xi,Xe⟩);rw[<-Xv]at Xe;exact⟨Xi.mono (λi _ h=>by have h:i=vb:=h;omega),j+1,rfl,hI4.t.trans (Xi.mono (λi _ h=>.inl h)),by omega,Xe⟩
 case done=>
  rintro D j W3 hD rfl Y hK;have c6:=(Y.t.cell (b:=X) Ω Ω 0).trans G.1;have M:=Y.vec;rw[ζ7]at M;have HT3:=Y.t;have HK:=hK;have HD:=hD;have Xl:Gr w W3:=((Xj.touch (λ_=>False)).trans' Y.t (λi hi h=>by omega)).gr;have Xc:=Xl;have hz6:=Y.t.size;clear Y hK hD Xl;cases hb:BI k with
  | false=>
   gi_wp2_with(refine⟨trivial,?_⟩;gi_at_call 215;refine(π.2 (XFA M k hb hk)).mono ?_;rintro e w4 ⟨rfl,rfl⟩);refine⟨by simp,.inl ⟨_,_,rfl,run_takeDeferred HK,?_⟩⟩;refine⟨.tuple #[.pointer none,iI 5],?_,((Xc.touch (λ_=>False)).trans' (C5 _ D _ (ϑ D)) (λi hi h=>by have:=HD;omega)).gr,.inl ⟨hb,rfl⟩⟩;simp[results,f185,go_sem]
  | true=>
   have hbp:=DA hb;obtain⟨B,rfl⟩:∃B:Nat,k=B:=⟨k.toNat,by omega⟩;gi_wp2_with(refine⟨trivial,?_⟩;gi_at_call 215;refine(π.2 (Zv3 M B hb)).mono ?_;rintro e w4 ⟨x,p,b,a,rfl,U,Xk,Xd,Xa,Xg,Xf⟩;have c64:=(U.cell (AT c6) 0).trans c6;have Xs:=Xk;have HZ4:=(ξ Xd (ξ Xa (ξ Xg Xf)));clear Xk Xd Xa Xg Xf)
   have Xt:(w4.alloc (.cells #[.pointer (some ⟨v,0,none⟩),.pointer (some ⟨x,0,none⟩)] 273)).heap[D]?=some (.deferred (some [])):=
    (((U.alloc _).block (ζn.1 HK).1)).trans HK
   have tt:=((Xc.trans (U.alloc (.cells #[.pointer (some ⟨v,0,none⟩),.pointer (some ⟨x,0,none⟩)] 273))).touch (λ_=>False)).trans' (C5 _ D (.deferred none) (ϑ D)) (λi hi h=>by have:=HD;omega);refine⟨by simp,.inl ⟨_,_,rfl,run_takeDeferred Xt,?_⟩⟩;refine⟨.tuple #[pP w4.heap.size,iI 0],?_,tt.gr,.inr ⟨hb,w4.heap.size,B,rfl,rfl,?_⟩⟩
   ·simp[results,f185,go_sem]
   ·have t5:=DO (w4.alloc (.cells #[.pointer (some ⟨v,0,none⟩),.pointer (some ⟨x,0,none⟩)] 273)) D (.deferred none);have hs4:=U.size;have hdl:=(ζn.1 HK).1;have hl:w4.heap.size<(w4.alloc (.cells #[.pointer (some ⟨v,0,none⟩),.pointer (some ⟨x,0,none⟩)] 273)).heap.size:=by rw[γ];omega
    exact⟨V,τ hl t5.size,by omega,v,vb,x,p,b,a,(t5.cell (b:=w4.heap.size) hl Ω 0).trans (ζD ..),(t5.cell (b:=w4.heap.size) hl Ω 1).trans (ζD ..),
     ((M.gr U).gr ((Gr.refl _).alloc _)).touch t5 Ω Ω,(Xs.gr ((Gr.refl _).alloc _)).touch t5 Ω Ω Ω Ω,by omega,by omega,by omega,by omega,by omega,by omega⟩
end
def BS:List Ob->Nat->Nat
 | [],_=>0
 | o :: r,q=>if q<o.2 then 0 else BS r (q-o.2)+1
theorem Z0:∀{q:Nat},q<sizes L->∃hj:BS L q<L.length,∃i,i<(L[BS L q]'hj).2/\q=sizes (L.take (BS L q))+i/\DS L q=some ((L[BS L q]'hj).1+i):=by
 induction L with
 | nil=>intro q h;simp[sizes]at h
 | cons o r ih=>
  intro q h;by_cases hq:q<o.2
  ·have e:BS (o :: r) q=0:=θ hq;refine⟨by rw[e];simp,q,?_⟩;simp only[e];exact⟨hq,by simp[sizes],by unfold DS;simp_all⟩
  ·have e:BS (o :: r) q=BS r (q-o.2)+1:=ψ hq;unfold sizes at h;obtain⟨hj,i,h1,h2,h3⟩:=ih (q:=q-o.2) Ω;refine⟨by grind,i,?_⟩;simp only[e];exact⟨h1,by simp only[ξF,sizes];omega,by unfold DS;grind⟩
theorem Z9(hj:j<L.length)(hi:i<L[j].2):BS L (sizes (L.take j)+i)=j:=by
 induction L generalizing j with
 | nil=>simp at hj
 | cons o r ih=>
  cases j with
  | zero=>
   have hi:i<o.2:=hi;simp only[List.take_zero,sizes,ξE,BS]
   simp_all
  | succ j=>
   have:=ih (j:=j) (by grind) (by simp_all);simp only[ξF,sizes,BS]
   grind
theorem Zut(L:List Ob)(j:Nat):sizes (L.take j)<=sizes L:=by
 induction L generalizing j with
 | nil=>simp[sizes]
 | cons o r ih=>
  cases j with
  | zero=>simp[sizes]
  | succ j=>have:=ih j;simp only[ξF,sizes];omega
theorem I9(hj:j<L.length):sizes (L.take j)+L[j].2<=sizes L:=by
 rw[<-E3 hj];grind [Zut]
def toV(L:List Ob)(base a:Int):Int:=if AZ L a<L.length then base+AY L 0 a else 0
def toE(L:List Ob)(a:Int):Int:=if AZ L a<L.length then 0 else 6
theorem QX(h:AO n L)(hj:j<L.length)(h1:(L[j].1:Int)<=a)(h2:a<L[j].1+L[j].2):
  toV L base a=base+sizes (L.take j)+a-(L[j].1:Nat)/\toE L a=0:=by
 have e:=NZ h hj h1 h2;have hs:=Yhz h hj (i:=(a-L[j].1).toNat) Ω;rw[show (L[j].1:Int)+((a-L[j].1).toNat:Nat)=a by omega]at hs;unfold toV toE;omega
theorem N6(h:¬AZ L a<L.length):toV L base a=0/\toE L a=6:=by
 unfold toV toE;omega
theorem QFq(a:Int):(decide (0<=a)&&DG L a.toNat)=decide (AZ L a<L.length):=by
 grind [φ,Q5g,ζ,OJ]
def inF(L:List Ob)(base b:Int):Bool:=decide (base<=b)&&decide (b<base+(sizes L:Nat))
def CJ(L:List Ob)(base b:Int):Int:=if inF L base b then IH L (b-base)else 0
def MO(L:List Ob)(base b:Int):Int:=if inF L base b then (BS L (b-base).toNat:Nat)else 0
def FQ(L:List Ob)(base b:Int):Int:=if inF L base b then 0 else 11
theorem GF{b:Int}:inF L base b=true↔base<=b/\b<base+(sizes L:Nat):=by simp[inF]
theorem ZT{b:Int}(h:¬(base<=b/\b<base+(sizes L:Nat))):inF L base b=false:=by
 cases e:inF L base b with
 | false=>rfl
 | true=>exact absurd (GF.1 e) h
theorem Z2d(hj:j<L.length)(hi:i<L[j].2):IH L ((sizes (L.take j)+i:Nat):Int)=(L[j].1+i:Nat):=by
 unfold IH;rw[ψ Ω,χ,XEK hj hi];rfl
theorem QCo{b:Int}(hj:j<L.length)(h1:base+(sizes (L.take j):Nat)<=b)(h2:b<base+(sizes (L.take j):Nat)+(L[j].2:Nat)):
  CJ L base b=(L[j].1:Nat)+b-(base+(sizes (L.take j):Nat))/\MO L base b=j/\FQ L base b=0:=by
 have hm:=I9 hj;have Y:inF L base b=true:=GF.2 ⟨by omega,by omega⟩;obtain⟨i,hi⟩:∃i:Nat,b-base=((sizes (L.take j)+i:Nat):Int):=⟨(b-base).toNat-sizes (L.take j),by omega⟩;have X:i<L[j].2:=Ω
 unfold CJ MO FQ;rw[Y,θ rfl,θ rfl,θ rfl,hi,Z2d hj X,χ,Z9 hj X];omega
theorem NH{b:Int}(h:inF L base b=false):CJ L base b=0/\MO L base b=0/\FQ L base b=11:=by
 unfold CJ MO FQ;simp_all
theorem Zeb(h:AO n L){b:Int}(hb:inF L base b=true):∃j,∃hj:j<L.length,MO L base b=j/\(L[j].1:Int)<=CJ L base b/\CJ L base b<L[j].1+L[j].2/\AZ L (CJ L base b)=j/\FQ L base b=0:=by
 obtain⟨h1,h2⟩:=GF.1 hb;obtain⟨hj,i,hi,e,-⟩:=Z0 (L:=L) (q:=(b-base).toNat) Ω;obtain⟨a1,a2,a3⟩:=QCo (base:=base) (b:=b) hj Ω Ω;refine⟨_,hj,a2,by omega,by omega,NZ h hj Ω Ω,a3⟩
theorem Ye3{M:List Ob}(h:∀y∈M,¬o.1<y.1):DB M o=M++[o]:=by
 induction M with
 | nil=>rfl
 | cons y r ih=>
  unfold DB
  grind
theorem Zne(h:AO n L)(hj:j<L.length):CW (L.take j) n (L[j].1:Nat) (L[j].2:Nat)=L.take (j+1):=by
 have hs:=h.sz _ (κ hj)
 have hle:∀o∈L.take j,o.1+o.2<=L[j].1:=λo ho=>by
  obtain⟨i,hi,X,rfl⟩:=NM ho;exact h.at hi hj X
 have hc:GT (L.take j) (L[j].1:Nat) (L[j].2:Nat)=false:=by
  cases e:GT (L.take j) (L[j].1:Nat) (L[j].2:Nat)with
  | false=>rfl
  | true=>obtain⟨o,ho,h1,h2⟩:=QR.1 e;grind
 have he:C4 (L.take j) n (L[j].1:Nat) (L[j].2:Nat)=0:=by
  unfold C4;grind
 unfold CW;rw[θ he,χ,χ,Ye3 (λy hy=>by grind),ζW hj]
def Fwd(w:World)(F f n B:Nat)(base:Nat)(L:List Ob):Prop:=
 f<w.heap.size/\F<=f/\base<2147483648/\∃t o p1 b1 p2 b2,w.cell? ⟨f,0,none⟩=some (pP t)/\w.cell? ⟨f,1,none⟩=some (pP o)/\w.cell? ⟨f,2,none⟩=some (iI base) ∧
  FT w F t n B L/\Ext w o p1 b1 p2 b2 n L/\F<=o/\F<=p1/\F<=b1/\F<=p2/\F<=b2
theorem Fwd.touch{f base:Nat}(h:Fwd w F f n B base L)(t:AB S w w')(hS:∀k,F<=k->k<w.heap.size->¬S k):Fwd w' F f n B base L:=by
 obtain⟨h1,h2,h3,tt,o,p1,b1,p2,b2,c0,c1,c2,hO,hE,k1,k2,k3,k4,k5⟩:=h;exact⟨τ h1 t.size,h2,h3,tt,o,p1,b1,p2,b2,(t.cell h1 (hS f h2 h1) 0).trans c0,(t.cell h1 (hS f h2 h1) 1).trans c1,(t.cell h1 (hS f h2 h1) 2).trans c2,hO.touch t hS,hE.touch t (hS _ k1 hE.hm) (hS _ k2 hE.v1.hp) (hS _ k3 hE.v1.hb) (hS _ k4 hE.v2.hp) (hS _ k5 hE.v2.hb),k1,k2,k3,k4,k5⟩
theorem Fwd.gr{f base:Nat}(h:Fwd w F f n B base L)(g:Gr w w'):Fwd w' F f n B base L:=h.touch (g.touch (λ_=>False)) (λ_ _ _ h=>h)
theorem Fwd.good{f base:Nat}(h:Fwd w F f n B base L):AO n L/\n<=1048576:=by
 obtain⟨_,_,_,_,_,_,_,_,_,_,_,_,hO,hE,_⟩:=h;exact⟨hE.good,hE.nb.2⟩
theorem WM(h:AO n L)(hn:n<=1048576)(a:Int):0<=AY L 0 a/\AY L 0 a<=1048576:=by
 rw[<-QP h];have:JQ L n 0 a<=n:=DZ _ _;omega
section
variable{f base:Nat}
theorem P4(hF:Fwd w F f n B base L)(a:Int):A2 prog 147 #[pP f,iI a] w (.tuple #[iI (toV L base a),iI (toE L a)]):=by
 obtain⟨hg,hn⟩:=hF.good;obtain⟨h1,h2,h3,t,o,p1,b1,p2,b2,c0,c1,c2,hO,hE,-⟩:=hF;have J:=WM hg hn a;have hl:=QFq (L:=L) a;by_cases hf:AZ L a<L.length
 ·have HV:Hid (toV L base a=base+AY L 0 a/\toE L a=0):=⟨by unfold toV toE;omega⟩;have HL:Hid ((decide (0<=a)&&DG L a.toNat)=true):=⟨by simp_all⟩;rw[HV.o.1,HV.o.2];obtain⟨ov,X⟩:∃ov,ov=AY L 0 a:=⟨_,rfl⟩;rw[<-X]at J⊢;have Z:=X.symm;have z0:∀xs m,(grow w xs m).cell? ⟨f,0,none⟩=some (pP t):=λxs m=>((grown w xs m).cell h1 0).trans c0;have z2:∀xs m,(grow w xs m).cell? ⟨f,2,none⟩=some (iI base):=λxs m=>((grown w xs m).cell h1 2).trans c2;have hwr:IntKind.i64.wrap ((base:Int)+ov)=(base:Int)+ov:=ζt _ Ω;clear hl hf X;unfold A2;go_enter func147,ntmps147;go_wp2_with(go_at_call 192;refine(ZaO hO a).mono ?_;rintro e w1 ⟨rfl,rfl⟩;rw[HL.o]);refine IP (by kernel_rfl) (by kernel_rfl) ?_
  repeat(go_big_quiet_step ((go_at_call 193;have hc:=λxs m=>YWi (hO.gr (grown w xs m)) a;simp only[Z]at hc;exact A2.grown (hc _ _))))
  refine ζb ?_;intro _ U;obtain⟨⟨xs,nq⟩,Y⟩:=U;subst Y;go_wp2;go_ret2;exact⟨rfl,grown w _ _⟩
 ·have HV:=ι (N6 (base:=base) hf);have HL:Hid ((decide (0<=a)&&DG L a.toNat)=false):=⟨by simp_all⟩;rw[HV.o.1,HV.o.2];unfold A2;go_enter func147,ntmps147;go_wp2_with(go_at_call 192;refine(ZaO hO a).mono ?_;rintro e w1 ⟨rfl,rfl⟩;rw[HL.o]);go_ret2;exact⟨rfl,Gr.refl _⟩
theorem YC(hF:Fwd w F f n B base L):cQ 163 #[pP f] w (iI base):=by
 obtain⟨h1,h2,h3,t,o,p1,b1,p2,b2,c0,c1,c2,-⟩:=hF;go_enter func163,ntmps163;go_wp2;go_ret
 simp_all
theorem YJ(hF:Fwd w F f n B base L):cQ 160 #[pP f] w (iI (sizes L:Nat)):=by
 obtain⟨h1,h2,h3,t,o,p1,b1,p2,b2,c0,c1,c2,hO,-⟩:=hF;go_enter func160,ntmps160;go_wp2_with(go_at_call 186;refine(XcN hO).mono ?_;rintro e w1 ⟨rfl,rfl⟩);go_ret
 simp_all
theorem ME(hF:Fwd w F f n B base L):A2 prog 143 #[pP f] w (iI ((base:Int)+(sizes L:Nat))):=by
 obtain⟨hg,hn⟩:=hF.good;have hs:=FJ hg;obtain⟨h1,h2,h3,t,o,p1,b1,p2,b2,c0,c1,c2,hO,-⟩:=hF;have z0:∀xs m,(grow w xs m).cell? ⟨f,0,none⟩=some (pP t):=λxs m=>((grown w xs m).cell h1 0).trans c0;have z2:∀xs m,(grow w xs m).cell? ⟨f,2,none⟩=some (iI base):=λxs m=>((grown w xs m).cell h1 2).trans c2;have hwr:IntKind.i64.wrap ((base:Int)+(sizes L:Nat))=(base:Int)+(sizes L:Nat):=ζt _ Ω;go_enter func143,ntmps143;go_wp2;refine IP (by kernel_rfl) (by kernel_rfl) ?_
 repeat(go_big_quiet_step ((go_at_call 186;have hc:=λxs m=>XcN (hO.gr (grown w xs m));exact A2.grown_same (hc _ _))))
 refine ζb ?_;intro _ X;obtain⟨⟨xs,nq⟩,hw''⟩:=X;go_wp2;go_ret;exact⟨rfl,grown w _ _⟩
theorem OK(hF:Fwd w F f n B base L)(hT:AP w)(b:Int)(_hb:b<=9223372036854775807):A2 prog 201 #[pP f,iI b] w (.tuple #[iI (CJ L base b),iI (FQ L base b)]):=by
 obtain⟨hg,hn⟩:=hF.good;have hs:=FJ hg;have HF:=hF;obtain⟨h1,h2,h3,t,o,p1,b1,p2,b2,c0,c1,c2,hO,-⟩:=hF;have HO:=hO;by_cases hb1:b<base
 ·have E:=ι (NH (ZT (L:=L) (base:=base) (b:=b) Ω));rw[E.o.1,E.o.2.2];unfold A2;go_enter func201,ntmps201;go_wp2;go_ret2;exact⟨rfl,Gr.refl _⟩
 ·by_cases hb2:(base:Int)+(sizes L:Nat)<=b
  ·have E:=ι (NH (ZT (L:=L) (base:=base) (b:=b) Ω));rw[E.o.1,E.o.2.2];unfold A2;go_enter func201,ntmps201;go_wp2_with(go_at_call 143;refine(ME HF).mono ?_;rintro e w1 ⟨rfl,X⟩);go_ret2
   simp_all
  ·have hin:inF L base b=true:=GF.2 ⟨by omega,by omega⟩;have E:Hid (CJ L base b=IH L (b-base)/\FQ L base b=0):=⟨by unfold CJ FQ;simp_all⟩;rw[E.o.1,E.o.2];obtain⟨q,hq⟩:∃q,q=b-(base:Int):=⟨_,rfl⟩;have hwr:IntKind.i64.wrap (b-(base:Int))=b-(base:Int):=ζt _ Ω;unfold A2;go_enter func201,ntmps201;go_wp2_with(go_at_call 143;refine(ME HF).mono ?_;rintro e w1 ⟨rfl,X⟩);have z0:∀xs m,(grow w1 xs m).cell? ⟨f,0,none⟩=some (pP t):=λxs m=>((X.trans (grown w1 xs m)).cell h1 0).trans c0;have z2:∀xs m,(grow w1 xs m).cell? ⟨f,2,none⟩=some (iI base):=λxs m=>((X.trans (grown w1 xs m)).cell h1 2).trans c2;refine IP (by kernel_rfl) (by kernel_rfl) ?_
   repeat(go_big_quiet_step ((go_at_call 226;have hc:=λxs m=>VXx (HO.gr (X.trans (grown w1 xs m))) ((X.trans (grown w1 xs m)).tab hT.lt hT) (b-(base:Int));exact A2.grown (hc _ _))))
   refine ζb ?_;intro _ Z;obtain⟨⟨xs,nq⟩,Y⟩:=Z;subst Y;go_wp2;go_ret2;exact⟨rfl,X.trans (grown w1 _ _)⟩
end
section
attribute [local go_sem] Oper.semAt_some
theorem VEu(k b:Int)(w:World):cQ 142 #[.pointer none,iI k,iI b] w (.tuple #[.pointer none,iI 9]):=by
 refine(π (n:=5)).1 ?_;refine callsIn_of_wp_marks func142 rfl trivial ?_ rfl;simp only[ntmps142,ζS,ζz,ζ6,Nat.reduceAdd,Nat.reduceSub,ζJ,ζI,ζX,ζO,ζV,ζq];gi_wp2_with(refine⟨trivial,?_⟩;gi_at_call 185;refine(π.2 (JWx k _)).mono ?_;rintro e w1 ⟨rfl,rfl⟩);refine⟨.tuple #[.pointer none,iI 9],?_,rfl,rfl⟩;simp[results,f142,go_sem]
structure QD(W0:World)(o p1 b1 p2 b2 n:Nat)(L:List Ob)(j:Nat)(A:World):Prop where
 t:AB (λi=>AS o b1 b2 i\/W0.heap.size<=i) W0 A
 jl:j<=L.length
 ext:Ext A o p1 b1 p2 b2 n (L.take j)
def FP(b:Int):Bool:=decide (0<=b)&&decide (b<2147483648)
def VWZ(w:World)(n:Nat)(L:List Ob)(k b:Int)(e:Ending)(w':World):Prop:=
 Gr w w'/\(((BI k&&FP b)=false/\e=.returned (.tuple #[.pointer none,iI 5]))\/((BI k&&FP b)=true/\∃f B base:Nat,k=B/\b=base/\e=.returned (.tuple #[pP f,iI 0])/\Fwd w' w.heap.size f n B base L))
theorem XJm{b1 b2:Nat}(hE:Ext w m p1 b1 p2 b2 n L)(hT:AP w)(k b:Int)(hk:k<=9223372036854775807)(hbad:(BI k&&FP b)=false):
  Calls prog 142 #[pP m,iI k,iI b] w (VWZ w n L k b):=by
 have HT:=hT;have HB:=hbad;refine(π (n:=5)).1 ?_;refine callsIn_of_wp_marks func142 rfl trivial ?_ rfl;simp only[ntmps142,ζS,ζz,ζ6,Nat.reduceAdd,Nat.reduceSub,ζJ,ζI,ζX,ζO,ζV,ζq];cases hok:BI k with
 | false=>
  gi_wp2_with(refine⟨trivial,?_⟩;gi_at_call 185;refine(π.2 (RI hE HT k hk)).mono ?_;rintro e w1 ⟨X,⟨-,rfl⟩|⟨hb,-⟩⟩;rotate_left;(rw[hok]at hb;cases hb);have Z:=X);refine⟨.tuple #[.pointer none,iI 5],?_,Z,.inl ⟨HB,rfl⟩⟩;simp[results,f142,go_sem]
 | true=>
  rw[hok,ξW]at hbad;by_cases h0:b<0
  ·gi_wp2_with(refine⟨trivial,?_⟩;gi_at_call 185;refine(π.2 (RI hE HT k hk)).mono ?_;rintro e w1 ⟨X,⟨hb,-⟩|⟨-,t,B,Y,rfl,hO⟩⟩;(rw[hok]at hb;cases hb));refine⟨.tuple #[.pointer none,iI 5],?_,X,.inl ⟨HB,rfl⟩⟩;simp[results,f142,go_sem]
  ·have h1:2147483648<=b:=by
    unfold FP at hbad;rw[φ Ω,ξW]at hbad;have:=of_decide_eq_false hbad;omega
   gi_wp2_with(refine⟨trivial,?_⟩;gi_at_call 185;refine(π.2 (RI hE HT k hk)).mono ?_;rintro e w1 ⟨X,⟨hb,-⟩|⟨-,t,B,Y,rfl,hO⟩⟩;(rw[hok]at hb;cases hb));refine⟨.tuple #[.pointer none,iI 5],?_,X,.inl ⟨HB,rfl⟩⟩;simp[results,f142,go_sem]
theorem U7{b1 b2:Nat}(hE:Ext w m p1 b1 p2 b2 n L)(hT:AP w)(k b:Int)(hk:k<=9223372036854775807):
  Calls prog 142 #[pP m,iI k,iI b] w (VWZ w n L k b):=by
 cases hgo:(BI k&&FP b)with
 | false=>exact XJm hE hT k b hk hgo
 | true=>
  obtain⟨Xn,E⟩:=ζ5.1 hgo;have Xk:0<=b/\b<2147483648:=by unfold FP at E;simpa using E
  obtain⟨base,rfl⟩:∃base:Nat,b=base:=⟨b.toNat,by omega⟩;obtain⟨hb0,hb1⟩:=Xk;have d0:decide ((base:Int)<0)=false:=ζ Ω;have d1:decide ((2147483648:Int)<=(base:Int))=false:=ζ Ω;have HO:=Xn;have HE:=hE;have HT:=hT;obtain⟨Yc,Xq⟩:=hE.nb;have hTl:=hT.lt;clear hE hT Xn E;refine(π (n:=5)).1 ?_;refine callsIn_of_wp_marks func142 rfl trivial ?_ rfl;simp only[ntmps142,ζS,ζz,ζ6,Nat.reduceAdd,Nat.reduceSub,ζJ,ζI,ζX,ζO,ζV,ζq]
  gi_wp2_with(first
   | (refine⟨trivial,?_⟩;gi_at_call 185;refine(π.2 (RI HE HT k hk)).mono ?_;rintro e w1 ⟨G,⟨hb,-⟩|⟨-,t,B,Xo,rfl,hO⟩⟩;(rw[HO]at hb;cases hb);have Yb:=hO;have Xu:=Xo;clear hO Xo)
   | (refine⟨trivial,?_⟩;gi_at_call 84;refine(π.2 (EL (HE.gr G))).mono ?_;rintro e w2 ⟨rfl,rfl⟩)
   | (refine⟨trivial,?_⟩;gi_at_call 46;refine(π.2 (QG n Yc Xq _)).mono ?_;rintro e w2 ⟨o,q1,r1,q2,r2,rfl,Xb,Xh,Xf,Xd,Xi,Xg,Xl⟩;have U:=Xh;have HX:=(ξ Xf (ξ Xd (ξ Xi (ξ Xg Xl))));clear Xh Xf Xd Xi Xg Xl)
   | (refine⟨trivial,?_⟩;gi_at_call 144;refine(π.2 (JR (some ⟨m,0,none⟩))).mono ?_;rintro e w3 ⟨rfl,rfl⟩))
  obtain⟨X,hX⟩:∃X,X=w2.heap.size:=⟨_,rfl⟩;obtain⟨W0,V⟩:∃W0,W0=(w2.alloc (.cells #[.pointer (some ⟨o,0,none⟩)] 93)).alloc (.cells #[.pointer (some ⟨m,0,none⟩)] 93):=⟨_,rfl⟩;have I:Gr w2 W0:=by rw[V];exact((Gr.refl w2).alloc _).alloc _
  have hs0:W0.heap.size=X+2:=by rw[V,hX];simp
  have e0:W0.cell? ⟨X,0,none⟩=some (pP o):=by rw[V,hX];exact((Boxed.new w2 _ _).alloc _).cell
  have e1:W0.cell? ⟨X+1,0,none⟩=some (pP m):=by
   rw[V,hX];have:=Boxed.new (w2.alloc (.cells #[.pointer (some ⟨o,0,none⟩)] 93)) 93 (pP m);rw[γ]at this;exact this.cell
  have Xt:=G.size;have Ye:=Xb.size;have o1:=HE.hm;have o2:=HE.v1.hp;have o3:=HE.v1.hb;have o4:=HE.v2.hp;have o5:=HE.v2.hb;have j1:=U.hm;have j2:=U.v1.hp;have j3:=U.v1.hb;have j4:=U.v2.hp;have j5:=U.v2.hb;rw[<-hX]at Ye j1 j2 j3 j4 j5;have N:=((G.trans Xb).trans I);have Xx:=(HE.gr N);have Xw:=(U.gr I);have Xv:=(Xb.trans I);have M:=HE.good;have Xc:=(ξ e0 e1);have HW1:=(show w.heap.size<=w1.heap.size from Xt);rw[<-V,<-hX];clear V hX I e0 e1;have Y:∀i,AS o r1 r2 i->w1.heap.size<=i/\i<X:=λi h=>by rcases h with rfl|rfl|rfl <;> omega
  have Xs:QD W0 o q1 r1 q2 r2 n L 0 W0:=⟨AB.refl _ _,ζg _,Xw⟩
  have tI:∀j A B,QD W0 o q1 r1 q2 r2 n L j A->AB (λi=>W0.heap.size<=i) A B->QD W0 o q1 r1 q2 r2 n L j B:=λj A B h t=>
   ⟨h.t.trans (t.mono (λi _ h=>.inr h)),h.jl,h.ext.touch t Ω Ω Ω Ω Ω⟩
  refine SA (s0:=0) rfl Ω (gf:=187) (lb:=#[pP (X+1)]) rfl trivial (enters_of func187 (by kernel_rfl) rfl)
   (Xix _ (X+1) m p1 b1 p2 b2 n L _) (λ_=>rfl)
   (QD W0 o q1 r1 q2 r2 n L) (λ_ _=>False) tI (λ_ _ _ h _=>h)
   (λj A h=>⟨Xx.touch h.t (λh=>by rcases h with h|h;have:=Y _ h;omega;omega) (λh=>by rcases h with h|h;have:=Y _ h;omega;omega) (λh=>by rcases h with h|h;have:=Y _ h;omega;omega) (λh=>by rcases h with h|h;have:=Y _ h;omega;omega) (λh=>by rcases h with h|h;have:=Y _ h;omega;omega),
    (N.tab HT.lt HT).touch' h.t (λh=>by rcases h with h|h;have:=Y _ h;omega;omega),(h.t.cell Ω (λh=>by rcases h with h|h;have:=Y _ h;omega;omega) 0).trans Xc.2,h.jl⟩)
   Xs ?round ?done (λ_ _ _ _ h _=>h.elim)
  case round=>
   intro lp j x W3 hsz3 Z J;dsimp only[GG];gi_wp2;refine⟨Gr.refl _,λW4 ht4 hI4=>?_⟩
   have Xa:j<L.length:=by
    rcases υ j L.length with h|h
    ·exact h
    ·unfold EH at J;rw[ζF h]at J;cases J
   obtain rfl:x=L[j]:=by unfold EH at J;rw[η Xa]at J;exact(Option.some.inj J).symm
   have hsz':=M.sz _ (κ Xa);have Yd:=(Zne M Xa);have c6:=(hI4.t.cell (b:=X) Ω (λh=>by rcases h with h|h;have:=Y _ h;omega;omega) 0).trans Xc.1;have Xz:=((N.tab HT.lt HT).touch' hI4.t (λh=>by rcases h with h|h;have:=Y _ h;omega;omega));clear Z ht4 J;gi_wp2_with(refine⟨trivial,?_⟩;gi_at_call 177;refine(CallsIn.inRound lp (π.2 (Zc1 hI4.ext Xz _ _))).mono ?_;rintro e w5 ⟨rfl,Xj,Xe⟩);rw[Yd]at Xe;exact⟨Xj.mono (λi _ h=>by have:=Y _ h;omega),j+1,rfl,hI4.t.trans (Xj.mono (λi _ h=>.inl h)),by omega,Xe⟩
  case done=>
   rintro D j W3 hD rfl Z hK;have c6:=(Z.t.cell (b:=X) Ω (λh=>by rcases h with h|h;have:=Y _ h;omega;omega) 0).trans Xc.1;have Xm:=Z.ext;rw[ζ7]at Xm;have Xy:=((Xv.touch (λi=>w1.heap.size<=i)).trans' Z.t (λi hi h=>by rcases h with h|h;exact(Y _ h).1;omega));have HK:=hK;have HD:=hD;have Xp:Gr w W3:=((N.touch (λ_=>False)).trans' Z.t (λi hi h=>by rcases h with h|h;have:=Y _ h;omega;omega)).gr;have Xr:=Xp;have hz6:=Z.t.size;clear Z hK hD Xp;gi_wp2;obtain⟨O,hO⟩:∃O:Obj,O=.cells #[pP t,pP o,iI base] 257:=⟨_,rfl⟩;rw[<-hO];have Ya:(W3.alloc O).heap[D]?=some (.deferred (some [])):=(((Gr.refl W3).alloc _).block (ζn.1 HK).1).trans HK;have tt:=((Xr.alloc O).touch (λ_=>False)).trans' (C5 _ D (.deferred none) (ϑ D)) (λi hi h=>by have:=HD;have:=N.size;omega);refine⟨by simp,.inl ⟨_,_,rfl,run_takeDeferred Ya,?_⟩⟩;refine⟨.tuple #[pP W3.heap.size,iI 0],?_,tt.gr,.inr ⟨hgo,W3.heap.size,B,base,Xu,rfl,rfl,?_⟩⟩
   ·simp[results,f142,go_sem]
   ·have t5:=DO (W3.alloc O) D (.deferred none);have hdl:=(ζn.1 HK).1;have hl:W3.heap.size<(W3.alloc O).heap.size:=by rw[γ];omega
    subst hO
    exact⟨τ hl t5.size,by omega,by omega,t,o,q1,r1,q2,r2,(t5.cell (b:=W3.heap.size) hl Ω 0).trans (ζD ..),(t5.cell (b:=W3.heap.size) hl Ω 1).trans (ζD ..),(t5.cell (b:=W3.heap.size) hl Ω 2).trans (ζD ..),
     Yb.touch ((Xy.trans (((Gr.refl W3).alloc _).touch _)).trans' t5 (λi hi h=>by omega)) (λk _ h1 h2=>by omega),(Xm.gr ((Gr.refl _).alloc _)).touch t5 Ω Ω Ω Ω Ω,by omega,by omega,by omega,by omega,by omega⟩
end
end Go.Proofs.YtggjoonlcjjgkaaGreatDoor
