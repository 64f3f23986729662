/- Lemmas. -/
import Derived.Test.YtcihfnpokdbfpaaGreatDoorTwoA
import Derived.Laws.OwnMore
namespace Go.Proofs.YtcihfnpokdbfpaaGreatDoor
open _root_.Go.Proofs.Tryz
set_option maxHeartbeats 3200000
set_option maxRecDepth 100000
open Go.RowKit Word
variable{a s z:Int}{l pt:List Nat}{xs:List Value}{E T base f g i j k m n p pg q size x:Nat}{S:Nat->Prop}{P Q:Prop}{b c d e h u v:Value}{w w':World}
theorem AL(k : Q)(h : Hid Q → P := by intro hq;refine P4 ?_;(try simp only[AF,υ,ν]);(repeat(go_big_quiet_step (fail)));refine ζb ?_;exact hq.o) : P := h ⟨k⟩
theorem E3(k : Q)(h : Hid Q → P := by intro hq;refine PL ?_;(try simp only[AF,υ,ν]);(repeat(go_big_quiet_step (fail)));refine ζb ?_;exact hq.o) : P := h ⟨k⟩
theorem IB(k : Q)(h : Hid Q → P := by intro hq;refine X0q ?_;(try simp only[AF,υ,ν]);(repeat(go_big_quiet_step (fail)));refine ζb ?_;refine ζx ?_;exact hq.o) : P := h ⟨k⟩
theorem NL(k : Q)(h : Hid Q → P := by intro hq;refine JV ?_;(try simp only[AF,υ,ν]);(repeat(go_big_quiet_step (fail)));refine ζb ?_;exact hq.o) : P := h ⟨k⟩
theorem OW(k : Q)(h : Hid Q → P := by intro hq;refine YAC ?_;(try simp only[AF,υ,ν]);(repeat(go_big_quiet_step (fail)));refine ζb ?_;refine ζx ?_;exact hq.o) : P := h ⟨k⟩
theorem CU(k : Q)(h : Hid Q → P := by intro hq;refine EM ?_;(try simp only[AF,υ,ν]);(repeat(go_big_quiet_step (fail)));refine ζb ?_;refine ζx ?_;exact hq.o) : P := h ⟨k⟩
theorem GV(k : Q)(h : Hid Q → P := by intro hq;refine VvO ?_;(try simp only[AF,υ,ν]);(repeat(go_big_quiet_step (fail)));refine ζb ?_;exact hq.o) : P := h ⟨k⟩
theorem NK(k : Q)(h : Hid Q → P := by intro hq;refine JV4 ?_;(try simp only[AF,υ,ν]);(repeat(go_big_quiet_step (fail)));refine ζb ?_;refine ζx ?_;exact hq.o) : P := h ⟨k⟩
theorem Qy5(k : Q)(h : Hid Q → P := by intro hq;(try simp only[AF,υ,ν]);(repeat(go_big_quiet_step (fail)));refine ζb ?_;exact hq.o) : P := h ⟨k⟩
theorem IW(k : Q)(h : Hid Q → P := by intro hq;refine Xw6 ?_;(try simp only[AF,υ,ν]);(repeat(go_big_quiet_step (fail)));refine ζb ?_;exact hq.o) : P := h ⟨k⟩
theorem Z5(k : Q)(h : Hid Q → P := by intro hq;refine YqX ?_;(try simp only[AF,υ,ν]);(repeat(go_big_quiet_step (fail)));refine ζb ?_;refine ζx ?_;exact hq.o) : P := h ⟨k⟩
theorem JE(k : Q)(h : Hid Q → P := by intro hq;refine PJ ?_;(try simp only[AF,υ,ν]);(repeat(go_big_quiet_step (fail)));refine ζb ?_;exact hq.o) : P := h ⟨k⟩
theorem ON(k : Q)(h : Hid Q → P := by intro hq;refine Vy6 ?_;(try simp only[AF,υ,ν]);(repeat(go_big_quiet_step (fail)));refine ζb ?_;refine ζx ?_;exact hq.o) : P := h ⟨k⟩
abbrev Ob:=Nat×Nat
variable{L:List Ob}{o:Ob}
structure AS(n:Nat)(L:List Ob):Prop where
 pw:L.Pairwise (λo q=>o.1+o.2<=q.1)
 sz:∀o∈L,1<=o.2/\o.1+o.2<=n
theorem AS.nil(n:Nat):AS n []:=⟨List.Pairwise.nil,λ_ h=>by cases h⟩
theorem AS.at(h:AS n L)(hi:i<L.length)(hj:j<L.length)(hij:i<j):L[i].1+L[i].2<=L[j].1:=List.pairwise_iff_getElem.1 h.pw i j hi hj hij
theorem AS.disj(h:AS n L){q:Ob}(ho:o∈L)(hq:q∈L):o=q\/o.1+o.2<=q.1\/q.1+q.2<=o.1:=by
 obtain⟨i,hi,rfl⟩:=ζt ho;obtain⟨j,hj,rfl⟩:=ζt hq;rcases ζS i j with X|rfl|X
 ·exact .inr (.inl (h.at hi hj X))
 ·simp_all
 ·exact .inr (.inr (h.at hj hi X))
theorem AS.len:∀{L:List Ob},AS n L->L.length<=n:=by
 intro L h
 have X:∀(L:List Ob),L.Pairwise (λo q=>o.1+o.2<=q.1)->(∀o∈L,1<=o.2/\o.1+o.2<=n)->∀a,a<=n->(∀o∈L,a<=o.1)->a+L.length<=n:=by
  intro L
  induction L with
  | nil=>simp_all
  | cons o r ih=>
   intro hp hs a ha hl;obtain⟨h1,h2⟩:=ξo.1 hp;have ho:=hs o (ζu ..);have:=ih h2 (λq hq=>hs q (ζB _ hq)) (o.1+o.2) ho.2 (λq hq=>h1 q hq)
   grind
 have:=X L h.pw h.sz 0 (ζe _) (λ_ _=>ζe _);omega
def CE(n:Nat)(L:List Ob):List Bool:=(List.range n).map λi=>L.any λo=>o.1==i
def EQ(n:Nat)(L:List Ob):List Bool:=(List.range n).map λi=>L.any λo=>o.1+o.2==i+1
theorem JI(n:Nat)(L:List Ob):(CE n L).length=n:=by simp[CE]
theorem SH(n:Nat)(L:List Ob):(EQ n L).length=n:=by simp[EQ]
theorem KR(f:Nat->Bool)(n i:Nat):at_ ((List.range n).map f) i=(decide (i<n)&&f i):=by
 unfold at_
 grind
theorem LG(h:AS n L)(i:Nat):at_ (CE n L) i=true↔∃o∈L,o.1=i:=by
 unfold CE;rw[KR];simp only[ζd,ζg,ψu,ξk];constructor
 ·simp_all
 ·rintro⟨o,ho,rfl⟩;have:=h.sz o ho;grind
theorem UZ(h:AS n L)(i:Nat):at_ (EQ n L) i=true↔∃o∈L,o.1+o.2=i+1:=by
 unfold EQ;rw[KR];simp only[ζd,ζg,ψu,ξk];constructor
 ·simp_all
 ·rintro⟨o,ho,e⟩;have:=h.sz o ho;grind
theorem Zox(h:AS n L)(ho:o∈L):BX (EQ n L) (o.1:Int)=o.1+o.2-1/\o.1+o.2-1<(EQ n L).length:=by
 have hs:=h.sz o ho
 have:=VuI (l:=EQ n L) (a:=(o.1:Int)) (k:=o.1+o.2-1) (λi hi hc=>by
  obtain⟨q,hq,e⟩:=(UZ h i).1 hc.1
  rcases h.disj ho hq with rfl|hd|hd <;> omega) ((UZ h _).2 ⟨o,ho,by omega⟩) Ω
 omega
def BF(L:List Ob)(a:Int):Nat:=L.findIdx λo=>decide (a<=o.1)
theorem P5(L:List Ob)(a:Int):BF L a<=L.length:=List.findIdx_le_length
theorem MN(h:i<BF L a)(hi:i<L.length):(L[i].1:Int)<a:=by
 have:=ψI h
 simp_all
theorem N8(h:BF L a<L.length):a<=(L[BF L a]'h).1:=by
 have:=List.findIdx_getElem (p:=λo:Ob=>decide (a<=(o.1:Int))) (w:=h);simp only[ζg]at this;exact this
theorem NV(hj:j<=L.length)(hn:∀i (hi:i<L.length),i<j->(L[i].1:Int)<a)(hy:∀h:j<L.length,a<=(L[j].1:Int)):BF L a=j:=by
 rcases ζS (BF L a) j with h|h|h
 ·have h1:=N8 (L:=L) (a:=a) Ω
  grind
 ·exact h
 ·have X:j<L.length:=by grind [P5]
  have h1:=MN h X
  grind
theorem O9(h:AS n L)(hj:BF L a<L.length):BX (CE n L) a=(L[BF L a]).1/\BX (CE n L) a<(CE n L).length:=by
 have hy:=N8 hj;refine VuI (λi hi hc=>?_) ((LG h _).2 ⟨_,χ hj,rfl⟩) Ω;obtain⟨q,hq,e⟩:=(LG h i).1 hc.1;obtain⟨k,hk,rfl⟩:=ζt hq;rcases ζS k (BF L a)with X|rfl|X
 ·have:=MN X hk;omega
 ·omega
 ·have:=h.at hj hk X;omega
theorem Y3(h:AS n L)(hj:¬BF L a<L.length):BX (CE n L) a=(CE n L).length:=by
 grind [XoQ,LG,ζt,MN]
theorem X1z(h:AS n L)(hj:j<L.length):BF L ((L[j].1:Int)+(L[j].2:Int))=j+1:=by
 refine NV Ω (λi hi hij=>?_) (λh2=>?_)
 ·have hs:=h.sz _ (χ hj);rcases δ i j with h1|h1
  ·have:=h.at hi hj h1;omega
  grind
 ·have:=h.at hj h2 (ξ3 j);omega
def UR(a:Int)(o:Ob):Bool:=decide ((o.1:Int)<=a/\a<o.1+o.2)
def BD(L:List Ob)(a:Int):Nat:=L.findIdx (UR a)
theorem JtS(L:List Ob)(a:Int):BD L a<=L.length:=List.findIdx_le_length
theorem JG(h:BD L a<L.length):((L[BD L a]'h).1:Int)<=a/\a<(L[BD L a]'h).1+(L[BD L a]'h).2:=by
 have:=List.findIdx_getElem (p:=UR a) (w:=h);simp only[UR,ζg]at this;exact this
theorem ZO(h:i<BD L a)(hi:i<L.length):¬((L[i].1:Int)<=a/\a<L[i].1+L[i].2):=by
 have:=ψI h;simpa[UR]using this
theorem QH(h:AS n L)(hj:j<L.length)(h1:(L[j].1:Int)<=a)(h2:a<L[j].1+L[j].2):BD L a=j:=by
 rcases ζS (BD L a) j with X|he|X
 ·have hy:=JG (L:=L) (a:=a) Ω;have:=h.at (i:=BD L a) Ω hj X;omega
 ·exact he
 ·exact absurd ⟨h1,h2⟩ (ZO X hj)
theorem QX(h:∀o∈L,¬((o.1:Int)<=a/\a<o.1+o.2)):BD L a=L.length:=by
 rcases δ (BD L a) L.length with h1|h1
 ·exact absurd (JG h1) (h _ (χ h1))
 grind [JtS]
theorem XA1(h:AS n L)(a:Int):(FA (CE n L) (a+1) = -1/\∀o∈L,a<(o.1:Int))\/∃j,∃hj:j<L.length,FA (CE n L) (a+1)=(L[j].1:Int)/\(L[j].1:Int)<=a/\∀i (hi:i<L.length),j<i->a<(L[i].1:Int):=by
 have hx:=P5 L (a+1);rcases ζF (BF L (a+1))with h0|h0
 ·left
  have Y:∀o∈L,a<(o.1:Int):=λo ho=>by
   obtain⟨k,hk,rfl⟩:=ζt ho;have hy:=N8 (L:=L) (a:=a+1) Ω;rcases ζF k with rfl|J
   ·grind
   ·have:=h.at (i:=0) (j:=k) Ω hk J
    grind
  grind [Xaz,LG]
 ·right;obtain⟨j,hj⟩:∃j,BF L (a+1)=j+1:=⟨BF L (a+1)-1,by omega⟩;have X:j<L.length:=Ω
  have h1:=MN (L:=L) (a:=a+1) (i:=j) Ω X
  have Y:∀i (hi:i<L.length),j<i->a<(L[i].1:Int):=λi hi hij=>by
   have hy:=N8 (L:=L) (a:=a+1) Ω;rcases δ (BF L (a+1)) i with h2|h2
   ·have:=h.at (i:=BF L (a+1)) Ω hi h2;omega
   grind
  refine⟨j,X,YBm (λi hij hc=>?_) ((LG h _).2 ⟨_,χ X,rfl⟩) Ω,by omega,Y⟩;obtain⟨q,hq,e⟩:=(LG h i).1 hc.1;obtain⟨k,hk,rfl⟩:=ζt hq;rcases ζS k j with Z|rfl|Z
  ·have:=h.at hk X Z;omega
  ·omega
  grind
def EA(L:List Ob)(i:Nat):Bool:=L.any λo=>decide (o.1<=i/\i<o.1+o.2)
theorem PZ:EA L i=true↔∃o∈L,o.1<=i/\i<o.1+o.2:=by simp[EA]
theorem Q5g:EA L i=decide (BD L (i:Int)<L.length):=by
 by_cases h:BD L (i:Int)<L.length
 ·rw[φ h];have:=JG h;exact PZ.2 ⟨_,χ h,by omega,by omega⟩
 ·rw[ζ h];cases hb:EA L i with
  | false=>rfl
  | true=>
   obtain⟨o,ho,h1,h2⟩:=PZ.1 hb;obtain⟨k,hk,rfl⟩:=ζt ho;exact absurd ⟨by omega,by omega⟩ (ZO (L:=L) (a:=(i:Int)) (i:=k) Ω hk)
def LM(L:List Ob)(n:Nat)(f t:Int):Nat:=cnt (λi=>decide (f<=(i:Nat)/\((i:Nat):Int)<t)&&EA L i) n
def over(o:Ob)(f t:Int):Int:=max 0 (min (o.1+o.2:Int) t-max (o.1:Int) f)
def BC(L:List Ob)(f t:Int):Int:=(L.map λo=>over o f t).sum
theorem U9(a b n:Nat)(h1:a<=b)(h2:b<=n):cnt (λi=>decide (a<=i/\i<b)) n=b-a:=by
 induction n generalizing b with
 | zero=>rw[MU];omega
 | succ n ih=>
  rw[C1];rcases δ n b with h|h
  ·have e:cnt (λi=>decide (a<=i/\i<b)) n=cnt (λi=>decide (a<=i/\i<b-1)) n\/a=b:=by
    by_cases X:a=b
    ·exact .inr X
    ·exact .inl (C2 (λi hi=>ξy.2 Ω))
   rcases e with e|e
   ·by_cases X:a=b
    ·subst X;rw[IM (λi _=>ζ Ω),ζ Ω];simp
    ·rw[e,ih (b-1) Ω Ω,φ Ω];simp;omega
   ·subst e;rw[IM (λi _=>ζ Ω),ζ Ω];simp
  simp_all
theorem XFd(n:Nat)(f t:Int):LM [] n f t=0:=IM (λi _=>by simp[EA])
theorem X5c(ho:o.1+o.2<=n)(f t:Int):((cnt (λi=>decide (f<=(i:Nat)/\((i:Nat):Int)<t)&&decide (o.1<=i/\i<o.1+o.2)) n:Nat):Int)=over o f t:=by
 unfold over;by_cases h:max (o.1:Int) f<min (o.1+o.2:Int) t
 ·have e:cnt (λi=>decide (f<=(i:Nat)/\((i:Nat):Int)<t)&&decide (o.1<=i/\i<o.1+o.2)) n=cnt (λi=>decide ((max (o.1:Int) f).toNat<=i/\i<(min (o.1+o.2:Int) t).toNat)) n:=
   C2 (λi _=>by grind)
  rw[e,U9 _ _ _ Ω Ω];omega
 grind [IM,Bool.decide_and,ζ]
theorem T0:∀{L:List Ob},AS n L->∀(f t:Int),((LM L n f t:Nat):Int)=BC L f t:=by
 intro L
 induction L with
 | nil=>intro _ f t;rw[XFd];rfl
 | cons o r ih=>
  intro h f t;obtain⟨h1,h2⟩:=ξo.1 h.pw;have hr:AS n r:=⟨h2,λq hq=>h.sz q (ζB _ hq)⟩;have ho:=h.sz o (ζu ..)
  have hs:=NI (f:=λi=>decide (f<=(i:Nat)/\((i:Nat):Int)<t)&&decide (o.1<=i/\i<o.1+o.2)) (g:=λi=>decide (f<=(i:Nat)/\((i:Nat):Int)<t)&&EA r i) (λi=>by
   by_cases hc:o.1<=i/\i<o.1+o.2
   ·have:EA r i=false:=by
     cases hb:EA r i with
     | false=>rfl
     | true=>obtain⟨q,hq,h3,h4⟩:=PZ.1 hb;grind
    simp_all
   grind) n
  have e:LM (o :: r) n f t=cnt (λi=>(decide (f<=(i:Nat)/\((i:Nat):Int)<t)&&decide (o.1<=i/\i<o.1+o.2))||(decide (f<=(i:Nat)/\((i:Nat):Int)<t)&&EA r i)) n:=
   C2 (λi _=>by rw[<-Bool.and_or_distrib_left];rfl)
  rw[e,hs,ψi,X5c ho.2];have:=ih hr f t;unfold LM at this;rw[this];simp[BC]
theorem YSu(L M:List Ob)(f t:Int):BC (L++M) f t=BC L f t+BC M f t:=by simp[BC]
theorem XLs{f t:Int}(h:(o.1+o.2:Int)<=f\/t<=o.1):over o f t=0:=by unfold over;omega
theorem TO{f t:Int}(h:∀o∈L,(o.1+o.2:Int)<=f\/t<=o.1):BC L f t=0:=by
 induction L with
 | nil=>rfl
 | cons o r ih=>
  have:=ih (λq hq=>h q (ζB _ hq));have h2:=XLs (h o (ζu ..));simp only[BC,ξr,ψb]at this⊢;omega
theorem XN(hj:j<L.length)(f t:Int):BC (L.take (j+1)) f t=BC (L.take j) f t+over L[j] f t:=by
 rw[ζK hj,YSu];simp[BC]
theorem WC(L:List Ob)(j:Nat)(f t:Int):BC L f t=BC (L.take j) f t+BC (L.drop j) f t:=by
 rw[<-YSu,ψp]
theorem P0(h:o∈L.take j):∃i,∃hi:i<L.length,i<j/\L[i]=o:=by
 grind [ζt,ξc]
theorem JEg(h:o∈L.drop j):∃i,∃hi:i<L.length,j<=i/\L[i]=o:=by
 grind [ζt,ψt]
theorem Vth(h:AS n L){f t:Int}:
  BC (L.take (BF L f)) f t=if BD L f<L.length/\(L[BD L f]?.getD (0,0)).1<f/\f<t then min ((L[BD L f]?.getD (0,0)).1+(L[BD L f]?.getD (0,0)).2:Int) t-f else 0:=by
 by_cases X:BD L f<L.length
 ·have hy:=JG X;have hg:L[BD L f]?.getD (0,0)=L[BD L f]:=by rw[τ X];rfl
  rw[hg];by_cases hlt:(L[BD L f].1:Int)<f
  ·have hn:BF L f=BD L f+1:=NV Ω (λi hi Y=>by
    rcases δ i (BD L f)with h1|h1
    ·have:=h.at hi X h1;omega
    ·have:i=BD L f:=Ω
     subst this;omega) (λh2=>by have:=h.at X h2 (ξ3 _);omega)
   rw[hn,XN X,TO (λo ho=>by
    obtain⟨i,hi,Y,rfl⟩:=P0 ho
    have:=h.at hi X Y;left;omega)]
   by_cases hft:f<t
   ·unfold over;omega
   ·unfold over;omega
  ·rw[ψ Ω];refine TO (λo ho=>?_);obtain⟨i,hi,Y,rfl⟩:=P0 ho;have h1:=MN Y hi;rcases ζS i (BD L f)with h2|rfl|h2
   ·have:=h.at hi X h2;left;omega
   ·omega
   ·have:=h.at X hi h2;omega
 ·rw[ψ Ω];refine TO (λo ho=>?_);obtain⟨i,hi,Y,rfl⟩:=P0 ho;have h1:=MN Y hi;have h2:=ZO (L:=L) (a:=f) (i:=i) Ω hi;left;omega
theorem ZG(h:AS n L){f t:Int}(hj:∀hl:j<L.length,t<=(L[j].1:Int)):BC (L.drop j) f t=0:=by
 refine TO (λo ho=>?_);obtain⟨i,hi,hij,rfl⟩:=JEg ho;right;have:=hj Ω;rcases δ j i with h1|h1
 ·have:=h.at (i:=j) Ω hi h1;omega
 grind
theorem JAq(h:AS n L)(f t:Int):BC L (max f 0) (min t n)=BC L f t:=by
 unfold BC;congr 1;refine ξ1 (λo ho=>?_);have:=h.sz o ho;unfold over;omega
def AC:List Ob->Nat
 | []=>0
 | o :: r=>o.2+AC r
def EO:List Ob->Nat->Option Nat
 | [],_=>none
 | o :: r,k=>if k<o.2 then some (o.1+k)else EO r (k-o.2)
def JQ(L:List Ob)(k:Int):Int:=if k<0 then 0 else ((EO L k.toNat).getD 0:Nat)
def YV(L:List Ob)(k:Int):Bool:=decide (0<=k)&&(EO L k.toNat).isSome
theorem Jkd:∀{k:Nat},EO L k=none↔AC L<=k:=by
 induction L with
 | nil=>simp[EO,AC]
 | cons o r ih=>
  intro k;unfold EO AC
  grind
theorem F4(hj:j<L.length):AC (L.take (j+1))=AC (L.take j)+L[j].2:=by
 induction L generalizing j with
 | nil=>simp at hj
 | cons o r ih=>
  cases j with
  | zero=>simp[AC]
  | succ j=>
   have:=ih (j:=j) (by simp_all);simp only[ξE,AC,ψK]at this⊢;omega
theorem XEK(hj:j<L.length)(hi:i<L[j].2):EO L (AC (L.take j)+i)=some (L[j].1+i):=by
 induction L generalizing j with
 | nil=>simp at hj
 | cons o r ih=>
  cases j with
  | zero=>
   have hi:i<o.2:=hi;simp only[ψU,AC,ζ6,EO,ψJ]
   simp_all
  | succ j=>
   have:=ih (j:=j) (by grind) (by simp_all);simp only[ξE,AC,ψK,EO]
   grind
theorem UK(h:AS n L):BC L 0 n=AC L:=by
 have X:∀(L:List Ob),(∀o∈L,1<=o.2/\o.1+o.2<=n)->BC L 0 n=AC L:=by
  intro L
  induction L with
  | nil=>intro _;rfl
  | cons o r ih=>
   intro hs;have h1:=ih (λq hq=>hs q (ζB _ hq));have ho:=hs o (ζu ..);have h2:over o 0 n=o.2:=by unfold over;omega
   simp only[BC,ξr,ψb,AC]at h1⊢;omega
 exact X L h.sz
theorem Yhz(h:AS n L)(hj:j<L.length)(hi:i<=L[j].2):BC L 0 ((L[j].1:Int)+i)=AC (L.take j)+i:=by
 rw[WC L (j+1),ZG h (j:=j+1) (λhl=>by have:=h.at hj hl (ξ3 _);omega),XN hj]
 have hg:AS L[j].1 (L.take j):=⟨h.pw.sublist (List.take_sublist ..),λo ho=>by
  obtain⟨q,hq,X,rfl⟩:=P0 ho;have:=h.at hq hj X
  exact⟨(h.sz _ (χ hq)).1,this⟩⟩
 have e:BC (L.take j) 0 ((L[j].1:Int)+i)=BC (L.take j) 0 (L[j].1:Nat):=by
  unfold BC;congr 1;refine ξ1 (λo ho=>?_);have:=hg.sz o ho;unfold over;omega
 rw[e,UK hg];unfold over;omega
theorem GJ(h:AS n L):AC L<=n:=by
 have h1:=UK h;have h2:=T0 h 0 n;have h3:LM L n 0 n<=n:=EY _ _;omega
def DS:List Ob->Ob->List Ob
 | [],o=>[o]
 | q :: r,o=>if o.1<q.1 then o :: q :: r else q :: DS r o
theorem G0{x:Ob}:x∈DS L o↔x=o\/x∈L:=by
 induction L with
 | nil=>simp[DS]
 | cons q r ih=>
  unfold DS
  grind
theorem YKx(L:List Ob)(o:Ob):(DS L o).length=L.length+1:=by
 induction L with
 | nil=>rfl
 | cons q r ih=>unfold DS;grind
theorem TH(h:AS n L)(h1:1<=o.2)(h2:o.1+o.2<=n)(hd:∀q∈L,o.1+o.2<=q.1\/q.1+q.2<=o.1):AS n (DS L o):=by
 refine⟨?_,λx hx=>?_⟩
 ·have X:∀(L:List Ob),L.Pairwise (λo q=>o.1+o.2<=q.1)->(∀q∈L,1<=q.2)->(∀q∈L,o.1+o.2<=q.1\/q.1+q.2<=o.1)->(DS L o).Pairwise (λo q=>o.1+o.2<=q.1):=by
   intro L
   induction L with
   | nil=>simp[DS]
   | cons q r ih=>
    intro hp hs hd;obtain⟨hp1,Y⟩:=ξo.1 hp;have hq:=hd q (ζu ..);have hqs:=hs q (ζu ..);unfold DS
    split
    ·rename_i hlt;refine ξo.2 ⟨λx hx=>?_,hp⟩
     grind
    ·rename_i hlt;refine ξo.2 ⟨λx hx=>?_,ih Y (λx hx=>hs x (ζB _ hx)) (λx hx=>hd x (ζB _ hx))⟩;rcases G0.1 hx with rfl|hx
     ·omega
     grind
  exact X L h.pw (λq hq=>(h.sz q hq).1) hd
 ·rcases G0.1 hx with rfl|hx
  ·omega
  ·exact h.sz x hx
theorem Y1{a b:Bool}(h:a=true↔b=true):a=b:=ψj.2 h
theorem JJN{l:List Bool}{x:Bool}(hk:k<l.length):at_ (l.set k x) i=if i=k then x else at_ l i:=P9 l k i x hk
theorem Yfk(h:AS n L)(h1:1<=o.2)(h2:o.1+o.2<=n)(hd:∀q∈L,o.1+o.2<=q.1\/q.1+q.2<=o.1):CE n (DS L o)=(CE n L).set o.1 true:=
 JF (by grind [ζa,JI]) (λi _=>by
  rw[JJN (by rw[JI];omega)];refine Y1 ?_;rw[LG (TH h h1 h2 hd)]
  split
  ·rename_i e;subst e;exact⟨λ_=>rfl,λ_=>⟨o,G0.2 (.inl rfl),rfl⟩⟩
  ·rename_i e;rw[LG h];constructor
   ·rintro⟨q,hq,rfl⟩;rcases G0.1 hq with rfl|hq
    ·omega
    grind
   ·rintro⟨q,hq,rfl⟩;exact⟨q,G0.2 (.inr hq),rfl⟩)
theorem Y48(h:AS n L)(h1:1<=o.2)(h2:o.1+o.2<=n)(hd:∀q∈L,o.1+o.2<=q.1\/q.1+q.2<=o.1):EQ n (DS L o)=(EQ n L).set (o.1+o.2-1) true:=
 JF (by grind [ζa,SH]) (λi _=>by
  rw[JJN (by rw[SH];omega)];refine Y1 ?_;rw[UZ (TH h h1 h2 hd)]
  split
  ·rename_i e;exact⟨λ_=>rfl,λ_=>⟨o,G0.2 (.inl rfl),by omega⟩⟩
  ·rename_i e;rw[UZ h];constructor
   ·rintro⟨q,hq,e2⟩;rcases G0.1 hq with rfl|hq
    ·omega
    grind
   ·rintro⟨q,hq,e2⟩;exact⟨q,G0.2 (.inr hq),e2⟩)
def IS(L:List Ob)(s z:Int):Bool:=L.any λo=>decide ((o.1:Int)<s+z/\s<o.1+o.2)
theorem T7:IS L s z=true↔∃o∈L,(o.1:Int)<s+z/\s<o.1+o.2:=by simp[IS]
theorem V3K(h:AS n L)(hz:1<=z):IS L s z=(decide (BD L s<L.length)||(decide (BF L s<L.length)&&decide (((L[BF L s]?.getD (0,0)).1:Int)<s+z))):=by
 refine Y1 ?_;rw[T7];simp only[ζW,ζd,ζg];constructor
 ·rintro⟨o,ho,h1,h2⟩;by_cases hs:(o.1:Int)<=s
  ·grind [ζt,QH]
  ·right;obtain⟨j,hj,rfl⟩:=ζt ho
   have hn:BF L s<=j:=by
    rcases δ j (BF L s)with X|Y
    ·have:=MN X hj;omega
    ·exact Y
   refine⟨by omega,?_⟩;rw[τ Ω]
   show (L[BF L s].1:Int)<s+z
   rcases δ (BF L s) j with X|Y
   ·have:=h.at (i:=BF L s) Ω hj X;omega
   grind
 ·rintro(hf|⟨hn,hl⟩)
  ·have:=JG hf
   grind
  ·rw[τ hn]at hl;have hl:(L[BF L s].1:Int)<s+z:=hl;have hy:=N8 hn;have:=(h.sz _ (χ hn)).1
   grind
def DL(L:List Ob)(n:Nat)(s z:Int):Int:=if z<1 then 15 else if s<0\/(n:Int)<=s\/(n:Int)-s<z then 11 else if IS L s z then 7 else 0
def DC(L:List Ob)(n:Nat)(s z:Int):List Ob:=if DL L n s z=0 then DS L (s.toNat,z.toNat)else L
theorem YLm(h:DL L n s z=0):1<=z/\0<=s/\s+z<=n/\IS L s z=false:=by
 unfold DL at h
 grind
theorem XCZ(hs:0<=s)(hz:1<=z)(h:IS L s z=false):∀q∈L,s.toNat+z.toNat<=q.1\/q.1+q.2<=s.toNat:=λq hq=>by
 by_cases hc:(q.1:Int)<s+z/\s<q.1+q.2
 ·have:=T7.2 ⟨q,hq,hc⟩;simp_all
 ·omega
theorem V9U(h:AS n L)(s z:Int):AS n (DC L n s z):=by
 unfold DC
 split
 ·rename_i he;obtain⟨h1,h2,h3,h4⟩:=YLm he;exact TH h Ω Ω (XCZ h2 h1 h4)
 ·exact h
theorem V9f(n:Nat):CE n []=List.replicate n false:=by unfold CE;exact JF (by simp) (λi hi=>by rw[KR];simp[at_,ξz];split <;> rfl)
theorem JfC(n:Nat):EQ n []=List.replicate n false:=by unfold EQ;exact JF (by simp) (λi hi=>by rw[KR];simp[at_,ξz];split <;> rfl)
def Rec(w:World)(q T:Nat)(xs:List Value):Prop:=w.ownsRow 0 T xs.length (.slice (some ⟨q,0,none⟩) 1 1) 1 xs
theorem Rec.cell(h:Rec w q T xs)(hj:xs[j]?=some u):w.cell? ⟨q,j,none⟩=some u:=BU h hj
theorem Rec.cc(h : Rec w q T xs)(j : Nat)(hj : xs[j]? = some u := by exact rfl) : w.cell? ⟨q,j,none⟩ = some u := h.cell hj
theorem Rec.free(h:Rec w q T xs)(j:Nat):w.frozen? ⟨q,j,none⟩=false:=GG h j
theorem Rec.lt(h:Rec w q T xs):q<w.heap.size:=(A9 h rfl).2
theorem Rec.k2{Q:Nat}{a:Value}{l:List Value}(H:Rec w Q T (a::b::l)):w.cell? ⟨Q,0,none⟩=some a∧w.cell? ⟨Q,1,none⟩=some b∧Q<w.heap.size:=⟨H.cc 0,H.cc 1,H.lt⟩
theorem Rec.k3{Q:Nat}{a:Value}{l:List Value}(H:Rec w Q T (a::b::c::l)):w.cell? ⟨Q,0,none⟩=some a∧w.cell? ⟨Q,1,none⟩=some b∧w.cell? ⟨Q,2,none⟩=some c∧Q<w.heap.size:=⟨H.cc 0,H.cc 1,H.cc 2,H.lt⟩
theorem Rec.k7{Q:Nat}{a f g:Value}{l:List Value}(H:Rec w Q T (a::b::c::d::e::f::g::l)):w.cell? ⟨Q,0,none⟩=some a∧w.cell? ⟨Q,1,none⟩=some b∧w.cell? ⟨Q,2,none⟩=some c∧w.cell? ⟨Q,3,none⟩=some d∧w.cell? ⟨Q,4,none⟩=some e∧w.cell? ⟨Q,5,none⟩=some f∧w.cell? ⟨Q,6,none⟩=some g∧Q<w.heap.size:=⟨H.cc 0,H.cc 1,H.cc 2,H.cc 3,H.cc 4,H.cc 5,H.cc 6,H.lt⟩
theorem Rec.k8{Q:Nat}{a f g:Value}{l:List Value}(H:Rec w Q T (a::b::c::d::e::f::g::h::l)):w.cell? ⟨Q,0,none⟩=some a∧w.cell? ⟨Q,1,none⟩=some b∧w.cell? ⟨Q,2,none⟩=some c∧w.cell? ⟨Q,3,none⟩=some d∧w.cell? ⟨Q,4,none⟩=some e∧w.cell? ⟨Q,5,none⟩=some f∧w.cell? ⟨Q,6,none⟩=some g∧w.cell? ⟨Q,7,none⟩=some h∧Q<w.heap.size:=⟨H.cc 0,H.cc 1,H.cc 2,H.cc 3,H.cc 4,H.cc 5,H.cc 6,H.cc 7,H.lt⟩
theorem Rec.k9{Q:Nat}{a f g i:Value}{l:List Value}(H:Rec w Q T (a::b::c::d::e::f::g::h::i::l)):w.cell? ⟨Q,0,none⟩=some a∧w.cell? ⟨Q,1,none⟩=some b∧w.cell? ⟨Q,2,none⟩=some c∧w.cell? ⟨Q,3,none⟩=some d∧w.cell? ⟨Q,4,none⟩=some e∧w.cell? ⟨Q,5,none⟩=some f∧w.cell? ⟨Q,6,none⟩=some g∧w.cell? ⟨Q,7,none⟩=some h∧w.cell? ⟨Q,8,none⟩=some i∧Q<w.heap.size:=⟨H.cc 0,H.cc 1,H.cc 2,H.cc 3,H.cc 4,H.cc 5,H.cc 6,H.cc 7,H.cc 8,H.lt⟩
theorem Rec.new(w:World)(T:Nat)(xs:List Value):Rec (w.alloc (.cells xs.toArray T)) w.heap.size T xs:=by
 have:=World.ownsRow_lit (base:=0) (e:=T) (size:=xs.length) w xs.toArray 1 (ζe _) (by unfold maxLen;omega) (by simp);exact this
theorem Rec.set(h:Rec w q T xs)(j:Nat)(u:Value):Rec (w.setCell ⟨q,j,none⟩ u) q T (xs.set j u):=by
 have:=(World.ownsRow.stored h j u).1;unfold Rec;rw[ζa];exact this
theorem Rec.touch(h:Rec w q T xs)(t:AB S w w')(hS:¬S q):Rec w' q T xs:=AX h t (λg hg=>by cases hg;exact hS)
theorem Rec.gr(h:Rec w q T xs)(t:Gr w w'):Rec w' q T xs:=CF h t
theorem H9(h:w.ownsRow base E size v n xs)(hg:v.ownBlock=some g):∃cur,w.heap[g]?=some (.cells cur E (0,0)):=by
 obtain⟨_,⟨rfl,_⟩|⟨g',cap,cur,rfl,_,h3,_⟩⟩:=h
 ·cases hg
 ·cases hg;exact⟨cur,h3⟩
theorem AG{b1 b2 E1 E2 s1 s2:Nat}{v1 v2:Value}{n1 n2:Nat}{xs1 xs2:List Value}(h1:w.ownsRow b1 E1 s1 v1 n1 xs1)(h2:w.ownsRow b2 E2 s2 v2 n2 xs2)(he:E1≠E2){g1 g2:Nat}(hg1:v1.ownBlock=some g1)(hg2:v2.ownBlock=some g2):g1≠g2:=by
 intro e;subst e;obtain⟨c1,e1⟩:=H9 h1 hg1;obtain⟨c2,e2⟩:=H9 h2 hg2;rw[e1]at e2;simp only[Option.some.injEq,Obj.cells.injEq]at e2;exact he e2.2.1
theorem B9(h:w.ownsRow base E size v n xs):∃A c,v=.slice A n c/\n<=c/\c<=maxLen:=by
 obtain⟨_,⟨rfl,rfl⟩|⟨g',cap,cur,rfl,_,_,h4,h5,_⟩⟩:=h
 ·exact⟨none,0,rfl,μ _,ζe _⟩
 ·exact⟨_,_,rfl,h4,h5⟩
theorem AW(h:w.ownsRow base E size v n xs)(u:Value)(hq:∀g,v.ownBlock=some g->g≠q):(w.setCell ⟨q,j,none⟩ u).ownsRow base E size v n xs:=
 ZIq h (λg hg=>Below.heap_setCell _ _ _ _ (hq g hg))
theorem JTC{c:Nat}{x:Value}(h:w.ownsRow base E 1 (.slice (some ⟨g,0,none⟩) (n+1) c) (n+1) (xs++[x])):w.ownsRow base E 1 (.slice (some ⟨g,0,none⟩) n c) n xs:=by
 obtain⟨h1,⟨h,_⟩|⟨g',cap,X,e1,e2,e3,e4,e5,e6,e7⟩⟩:=h
 ·cases h
 ·simp only[Value.slice.injEq,Option.some.injEq,Addr.mk.injEq,and_true,true_and]at e1;obtain⟨rfl,rfl⟩:=e1;have hl:xs.length=n:=by simp at h1;omega
  refine⟨by rw[hl,ξF],.inr ⟨g,c,X,rfl,e2,e3,by omega,e5,e6,?_⟩⟩;rw[ξF]at e7⊢;have:X.toList.take n=(X.toList.take (n+1)).take n:=by rw[ξn];congr 1;omega
  rw[this,e7,<-hl,List.take_left]
theorem VcC(z:Value)(n:Nat):(Builtin.zeroCells #[z] n).toList=List.replicate n z:=by
 unfold Builtin.zeroCells;apply ξA
 ·simp
 ·intro j h1 h2;simp[Nat.mod_one]
section
variable{P:Program}(w:World)
theorem JNG(t it ty e:TypeId)(k:IntKind)(base:Nat)(i:TypeInfo)(z:Value)(ht:P.underlying t=some (.slice e))(hit:P.underlying it=some (.int k))(hi:P.info? e=some i)(hz:i.zero=some z)
  (hsize:i.size=1) (hzs:z.cells=#[z]) (hz1:z.oneCell'=true)
  (v:Value) (n:Nat) (xs:List Value) (hown:w.ownsRow base e 1 v n xs) (m:Nat) (hm:0<m) (h63:n+m<=maxLen) (hbytes:(n+m)*i.bytes<=140737488355328) (hbase:base<=w.heap.size):
  ∃g cap w',(Builtin.append_ #[t,it] ty #[v,iI m]).run P w=.ok (.slice (some ⟨g,0,none⟩) (n+m) cap) w' ∧
   w'.ownsRow base e 1 (.slice (some ⟨g,0,none⟩) (n+m) cap) (n+m) (xs++List.replicate m z)/\w.grownBy w' v.ownBlock/\(v.ownBlock=some g\/g=w.heap.size)/\g<w'.heap.size:=by
 have hsmall:n+m<=9223372036854775807:=by simp only[maxLen]at h63;omega
 have hmb:(m:Int)*(i.bytes:Int)<=281474976710656:=by
  have h1:m*i.bytes<=(n+m)*i.bytes:=ζj _ Ω;have h2:((m*i.bytes:Nat):Int)=(m:Int)*(i.bytes:Int):=by push_cast;rfl
  omega
 have hw:IntKind.i64.wrap (m:Int)=(m:Int):=ζp _ Ω;have L:¬(m:Int)<0:=Ω
 have J:¬(281474976710656:Int)<(m:Int)*(i.bytes:Int):=Ω
 have Xa:∀(w:World),(asInt (iI (m:Int))).run P w=.ok (m:Int) w:=λ_=>by simp[asInt,asIntOf]
 have hmle:¬(m:Int)<=0:=Ω
 have Xb:max (m:Int) 0=(m:Int):=Ω
 have G:¬m=0:=Ω
 have hne:¬m*i.size=0:=by rw[hsize];omega
 have hl:xs.length=n:=by have:=hown.1;omega
 have O:(xs++List.replicate m z).length=n+m:=by simp[hl]
 have grown:∀(X:Nat) (Xe:Option Nat),
   (w.drew.alloc (.cells ((xs++List.replicate m z).toArray++Builtin.zeroCells z.cells (grownCap w (n+m) X e-(n+m))) e)).ownsRow base e 1
    (.slice (some ⟨w.heap.size,0,none⟩) (n+m) (grownCap w (n+m) X e)) (n+m) (xs++List.replicate m z) ∧
   w.grownBy (w.drew.alloc (.cells ((xs++List.replicate m z).toArray++Builtin.zeroCells z.cells (grownCap w (n+m) X e-(n+m))) e)) Xe:=by
  intro X Xe;have Xf:=grownCap_ge w (n+m) X e;have I:grownCap w (n+m) X e<=maxLen:=grownCap_le_maxLen w (n+m) X e h63;refine⟨⟨by omega,.inr ⟨w.heap.size,_,_,rfl,hbase,heap_alloc_new w.drew _,Xf,I,?_,?_⟩⟩,⟨rfl,rfl,rfl,by simp,λk hk _=>Below.heap_alloc w.drew _ k hk⟩⟩
  ·rw[Array.size_append,size_zeroCells,hzs,ζ3,O];simp;omega
  ·rw[Array.toList_append,List.toList_toArray,ξF,<-O];exact List.take_left
 have A:Builtin.zeroCells z.cells m=(List.replicate m z).toArray:=by rw[hzs];apply Array.ext';rw[VcC]
 rcases hown.2 with⟨rfl,rfl⟩|⟨g,cap,V,rfl,Xg,hg,hnc,I,B,M⟩
 ·obtain rfl:xs=[]:=ζy hl;have N:¬(281474976710656<Builtin.nextslicecap m 0*i.bytes):=by rw[nextslicecap_zero hm];have:=hbytes;simp only[ζ6]at this;omega
  have U:¬(9223372036854775807<(m:Int)):=Ω
  have Z:=grown 0 none;simp only[ζ6,ζ4]at Z⊢;refine⟨_,_,_,?_,Z.1,?_,.inr rfl,by simp⟩
  ·simp[Builtin.append_,run_underlying ht,run_underlying hit,sizeOf,typeInfo,zeroValue,hi,hz,hw,L,J,U,N,Question.forced,run_firstCells_none,newRow,grownCap,hsize,Xa,Xb,G];rw[A];simp
  ·exact Z.2
 ·by_cases Y:n+m<=cap
  ·have Xd:n*i.size+0+(List.replicate m z).length<=V.size:=by rw[hsize,B];simp;omega
   have E:=run_storeCells_at P g (n*i.size) e (List.replicate m z) 0 V w hg (by simpa using Xd) (λu hu=>by rw[ξg hu];exact hz1);simp only[ζ7,hsize,ξF]at E;refine⟨g,cap,w.setRow g (V.toList.take n++List.replicate m z++V.toList.drop (n+(List.replicate m z).length)).toArray,?_,⟨by omega,.inr ⟨g,cap,_,rfl,Xg,setRow_heap w g V _ e _ hg,Y,I,?_,?_⟩⟩,⟨rfl,rfl,rfl,by simp,λk _ hk=>setRow_other w g k _ (λe=>hk (by simp[Value.ownBlock,e]))⟩,.inl rfl,?_⟩
   ·simp[Builtin.append_,run_underlying ht,run_underlying hit,sizeOf,typeInfo,zeroValue,hi,hz,hw,L,J,hsize,Xa,G,Y,A,Addr.add_lit];simp at E;simp[E]
   ·rw[ξF]at B;simp;omega
   ·rw[ξF]at M B;rw[ξF,List.toList_toArray,M,ξj,<-ξj,<-O];exact List.take_left
   ·simp;exact(ζq.1 hg).1
  ·have N:¬(281474976710656<Builtin.nextslicecap (n+m) cap*i.bytes):=by have:=growslice_fits (show cap<n+m by omega) hbytes;omega
   have U:¬(9223372036854775807<((n:Int)+(m:Int))):=Ω
   have D:∀j u,xs[j]?=some u->w.cell? ((⟨g,0,none⟩:Addr).add j)=some u:=hown.cells (g:=g) rfl;have Xc:=run_firstCells_some (P:=P) w.drew i.size n ⟨g,0,none⟩ n cap xs (by rw[hsize,hl];omega) (by simpa using D);rw[hsize]at Xc;have Z:=grown cap (Value.ownBlock (.slice (some ⟨g,0,none⟩) n cap));refine⟨_,_,_,?_,Z.1,Z.2,.inr rfl,by simp⟩;simp[Builtin.append_,run_underlying ht,run_underlying hit,sizeOf,typeInfo,zeroValue,hi,hz,hw,L,J,U,N,Question.forced,Xc,newRow,grownCap,hsize,Xa,Xb,G,Y,A];congr 2;apply Array.ext';simp
theorem Z2Z{o:Oper}{a:Act}{K:Act->World->Prop}{Q:Exit->Act->World->Prop}(s x:Operand)(t it:TypeId)
  (ho:o.op=.call {callee:=.builtin .append,args:=#[s,x],argTypes:=#[t,it]}) (e:TypeId) (k:IntKind) (base:Nat) (i:TypeInfo) (z:Value) (ht:P.underlying t=some (.slice e)) (hit:P.underlying it=some (.int k)) (hi:P.info? e=some i) (hz:i.zero=some z)
  (hsize:i.size=1) (hzs:z.cells=#[z]) (hz1:z.oneCell'=true)
  (v:Value) (n:Nat) (xs:List Value) (hs:a.eval s=v) (hown:w.ownsRow base e 1 v n xs) (m:Nat) (hx:a.eval x=iI m) (hm:0<m) (h63:n+m<=maxLen) (hbytes:(n+m)*i.bytes<=140737488355328) (hbase:base<=w.heap.size)
  (h:∀g cap w',w'.ownsRow base e 1 (.slice (some ⟨g,0,none⟩) (n+m) cap) (n+m) (xs++List.replicate m z)->w.grownBy w' v.ownBlock->(v.ownBlock=some g\/g=w.heap.size)->g<w'.heap.size->K (a.put o.dst (.slice (some ⟨g,0,none⟩) (n+m) cap)) w'):o.wp P a w K Q:=by
 obtain⟨g,cap,w',hr,h2,h3,h4,h5⟩:=JNG (P:=P) w t it o.type e k base i z ht hit hi hz hsize hzs hz1 v n xs hown m hm h63 hbytes hbase;unfold Oper.wp execOp;simp only[ho,resolve,invoke,builtin,Sem.run_bind,Sem.run_pure,Result.andThen_ok,List.map_toArray,ξr,List.map_nil,hs,hx,hr];exact h g cap w' h2 h3 h4 h5
theorem ZfD{ops:Array Oper}{rest:List Oper}{o:Oper}{a:Act}{Q:Exit->Act->World->Prop}(hgd:o.guard=none)(s x:Operand)(t it:TypeId)
  (ho:o.op=.call {callee:=.builtin .append,args:=#[s,x],argTypes:=#[t,it]}) (e:TypeId) (k:IntKind) (base:Nat) (i:TypeInfo) (z:Value) (ht:P.underlying t=some (.slice e)) (hit:P.underlying it=some (.int k)) (hi:P.info? e=some i) (hz:i.zero=some z)
  (hsize:i.size=1) (hzs:z.cells=#[z]) (hz1:z.oneCell'=true)
  (v:Value) (n:Nat) (xs:List Value) (hs:a.eval s=v) (hown:w.ownsRow base e 1 v n xs) (m:Nat) (hx:a.eval x=iI m) (hm:0<m) (h63:n+m<=maxLen) (hbytes:(n+m)*i.bytes<=140737488355328) (hbase:base<=w.heap.size)
  (h:∀g cap w',w'.ownsRow base e 1 (.slice (some ⟨g,0,none⟩) (n+m) cap) (n+m) (xs++List.replicate m z)->w.grownBy w' v.ownBlock->(v.ownBlock=some g\/g=w.heap.size)->g<w'.heap.size->wpList P ops Q rest (a.put o.dst (.slice (some ⟨g,0,none⟩) (n+m) cap)) w'):wpList P ops Q (o :: rest) a w:=
 wpList_plain hgd λ_ hK=>Z2Z w s x t it ho e k base i z ht hit hi hz hsize hzs hz1 v n xs hs hown m hx hm h63 hbytes hbase λg cap w' h2 h3 h4 h5=>hK _ _ (h g cap w' h2 h3 h4 h5)
theorem YNv(t e:TypeId)(base:Nat)(i:TypeInfo)(z:Value)(ht:P.underlying t=some (.slice e))(hi:P.info? e=some i)(hz:i.zero=some z)
  (hzs:z.cells=#[z]) (hz1:z.oneCell'=true) {cap N:Nat}  (hown:w.ownsRow base e 1 (.slice (some ⟨g,0,none⟩) N cap) N xs) (o n c:Nat) (hn:0<n) (hon:o+n<=N):
  ∃w',(∀ty,(Builtin.clear_ #[t] ty #[.slice (some ⟨g,o,none⟩) n c]).run P w=.ok (.tuple #[]) w')/\w'.ownsRow base e 1 (.slice (some ⟨g,0,none⟩) N cap) N (xs.take o++List.replicate n z++xs.drop (o+n))/\w.grownBy w' (some g):=by
 have M:Builtin.zeroCells z.cells n=(List.replicate n z).toArray:=by rw[hzs];apply Array.ext';rw[VcC]
 obtain⟨hl,⟨h',_⟩|⟨g',cap',Y,h',hb,hg,U,J,O,X⟩⟩:=hown
 ·simp at h'
 ·simp only[Value.slice.injEq,Option.some.injEq,Addr.mk.injEq,and_true,true_and]at h';obtain⟨rfl,rfl⟩:=h';rw[ξF]at hl O X;have Z:=run_storeCells_at P g o e (List.replicate n z) 0 Y w hg (by simp;omega) (λu hu=>by rw[ξg hu];exact hz1);simp only[ζ7,ζU]at Z;have V:n≠0:=Ω
  have hlen:xs.length=N:=hl;refine⟨_,λty=>?_,⟨by simp;omega,.inr ⟨g,cap,(Y.toList.take o++List.replicate n z++Y.toList.drop (o+n)).toArray,rfl,hb,setRow_heap w g Y _ e _ hg,U,J,by simp;omega,?_⟩⟩,⟨rfl,rfl,rfl,by simp,λk _ hk=>setRow_other w g k _ (λe=>hk (by simp[e]))⟩⟩
  ·simp[Builtin.clear_,run_underlying ht,zeroValue,typeInfo,hi,hz,M,V];simp at Z;simp[Z]
  ·rw[ξF,List.toList_toArray,<-X];apply List.ext_getElem?;intro j;rw[ξ7];by_cases hj:j<N
   ·rw[θ hj];by_cases h1:j<o
    ·rw[ξj,ξj,ζX (by simp;omega),ζX (by simp;omega),ξ7,ξ7,θ h1,θ h1,ξ7,θ hj]
    ·by_cases h2:j<o+n
     ·rw[ξj,ξj,ζ5 (by simp;omega),ζX (by simp;omega),ζ5 (by simp;omega),ζX (by simp;omega)];congr 1;simp;omega
     ·rw[ζ5 (by simp;omega),ζ5 (by simp;omega),ξS,ξS,ξ7,θ (by simp;omega)];congr 1;simp;omega
   ·rw[ψ hj,ζz (by simp;omega)]
end
structure Pl where
 pg:Nat
 rm:Nat
 tk:List Bool
 bk:List Nat
 wd:List Nat
def Pl.used(p:Pl):Nat:=cnt (at_ p.tk) p.tk.length
structure F3(p:Pl):Prop where
 pg:BQ p.pg=true
 pg2:p.pg<=256
 rm:1<=p.rm/\p.rm<=4096
 wl:p.wd.length=p.tk.length*p.pg
 w64:∀x∈p.wd,x<18446744073709551616
 nd:p.bk.Nodup
 bl:∀f∈p.bk,f<p.tk.length/\at_ p.tk f=false
 us:p.used+p.bk.length=p.tk.length
 le:p.tk.length<=p.rm
def CW(l:List Nat):List Value:=l.map λx=>uU (x:Nat)
def EI(l:List Nat):List Value:=l.map λx=>iI (x:Nat)
def JMo(w:World)(S:Nat->Prop)(q:Nat)(p:Pl):Prop:=
 ∃vw vt vb hi ts,Rec w q 266 [vw,vt,vb,iI p.rm,iI p.pg,iI p.used,iI hi,iI ts] ∧
  w.ownsRow 0 35 1 vw p.wd.length (CW p.wd)/\w.ownsRow 0 4 1 vt p.tk.length (p.tk.map Value.bool)/\w.ownsRow 0 3 1 vb p.bk.length (EI p.bk) ∧
  (∀g,vw.ownBlock=some g->S g)/\(∀g,vt.ownBlock=some g->S g)/\(∀g,vb.ownBlock=some g->S g)
def plus(S:Nat->Prop)(w:World)(k:Nat):Prop:=S k\/w.heap.size<=k
structure CN(w:World)(S:Nat->Prop)(q:Nat)(p:Pl):Prop where
 ok:F3 p
 sq:S q
 row:JMo w S q p
theorem CN.touch{T:Nat->Prop}{p:Pl}(h:CN w S q p)(t:AB T w w')(hS:∀k,S k->k<w.heap.size->¬T k):CN w' S q p:=by
 obtain⟨h1,h2,vw,vt,vb,hi,ts,hr,o1,o2,o3,s1,s2,s3⟩:=h;exact⟨h1,h2,vw,vt,vb,hi,ts,hr.touch t (hS _ h2 hr.lt),AX o1 t (λg hg=>hS g (s1 g hg) (A9 o1 hg).2),AX o2 t (λg hg=>hS g (s2 g hg) (A9 o2 hg).2),AX o3 t (λg hg=>hS g (s3 g hg) (A9 o3 hg).2),s1,s2,s3⟩
theorem CN.gr{p:Pl}(h:CN w S q p)(t:Gr w w'):CN w' S q p:=h.touch (t.touch (λ_=>False)) (λ_ _ _ h=>h)
theorem ZpD(h:i<l.length):(CW l)[i]?=some (uU (l[i]:Nat)):=by simp[CW,h]
theorem XS1(h:i<l.length):(EI l)[i]?=some (iI (l[i]:Nat)):=by simp[EI,h]
theorem ZA{l:List Bool}(h:i<l.length):(l.map Value.bool)[i]?=some (.bool (at_ l i)):=by simp[at_,h]
section
variable{p:Pl}
theorem VD(hP:CN w S q p):cQ 192 #[pP q] w (iI p.pg):=by
 obtain⟨vw,vt,vb,hi,ts,hr,-⟩:=hP.row;have c4:=hr.cc 4;clear hr hP;go_enter func192,ntmps192;go_wp2;go_ret;exact⟨rfl,rfl⟩
def EL(p:Pl)(f:Int):Int:=if decide (0<=f)&&at_ p.tk f.toNat then 0 else 6
theorem PO(hP:CN w S q p)(f:Int):cQ 250 #[pP q,iI f] w (iI (EL p f)):=by
 obtain⟨vw,vt,vb,hi,ts,hr,-,ot,-⟩:=hP.row;have c1:=hr.cc 1;obtain⟨A,c,rfl,hc1,X⟩:=B9 ot;unfold maxLen at X;have hlr:=hP.ok.le;have hrm:=hP.ok.rm.2;by_cases h0:f<0
 ·have E:EL p f=6:=by unfold EL;rw[ζ Ω];rfl
  rw[E];have d0:decide (f<0)=true:=φ h0;clear hr hP ot E;go_enter func250,ntmps250;go_wp2;go_ret;exact⟨rfl,rfl⟩
 ·obtain⟨j,rfl⟩:∃j:Nat,f=j:=⟨f.toNat,by omega⟩;have d0:decide ((j:Int)<0)=false:=ζ h0;by_cases h1:p.tk.length<=j
  ·have E:EL p j=6:=by unfold EL;rw[β,RS h1,ψW];rfl
   rw[E];have d1:decide (p.tk.length<=j)=true:=φ h1;clear hr hP ot E;go_enter func250,ntmps250;go_wp2;go_ret;exact⟨rfl,rfl⟩
  ·have d1:decide (p.tk.length<=j)=false:=ζ h1;obtain⟨g,c',e1,-,-,-,-⟩:=E6 ot Ω;simp only[Value.slice.injEq,true_and]at e1;obtain⟨rfl,rfl⟩:=e1;have k:=BU ot (ZA (i:=j) Ω);have hj:(j:Int)<(p.tk.length:Int):=Ω
   cases hb:at_ p.tk j with
   | true=>
    have E:EL p j=0:=by unfold EL;rw[β,hb,φ Ω];rfl
    rw[E];rw[hb]at k;clear hr hP ot E hb;go_enter func250,ntmps250;go_wp2;go_ret;exact⟨rfl,rfl⟩
   | false=>
    have E:EL p j=6:=by unfold EL;rw[β,hb,ψW];rfl
    rw[E];rw[hb]at k;clear hr hP ot E hb;go_enter func250,ntmps250;go_wp2;go_ret;exact⟨rfl,rfl⟩
theorem QLE(hP:CN w S q p)(hf:f<p.tk.length):f*p.pg+p.pg<=p.wd.length/\p.wd.length<=1048576:=by
 have h1:=hP.ok.wl;have h2:=hP.ok.le;have h3:=hP.ok.rm.2;have h4:=hP.ok.pg2;constructor
 ·rw[h1,<-ξd];exact ζj _ hf
 ·rw[h1];exact ω (ψT (ω h2 h3) h4) (by decide)
theorem XlR(hP:CN w S q p)(hf:f<p.tk.length):∃g c hi ts vt vb,Rec w q 266 [.slice (some ⟨g,0,none⟩) p.wd.length c,vt,vb,iI p.rm,iI p.pg,iI p.used,iI hi,iI ts] ∧
  w.ownsRow 0 35 1 (.slice (some ⟨g,0,none⟩) p.wd.length c) p.wd.length (CW p.wd)/\w.ownsRow 0 4 1 vt p.tk.length (p.tk.map Value.bool)/\w.ownsRow 0 3 1 vb p.bk.length (EI p.bk) ∧
  S g/\(∀g,vt.ownBlock=some g->S g)/\(∀g,vb.ownBlock=some g->S g)/\p.wd.length<=c/\c<=9223372036854775807:=by
 obtain⟨h1,h2,vw,vt,vb,hi,ts,hr,o1,o2,o3,s1,s2,s3⟩:=hP;have hpg:=DR h1.pg
 have X:p.wd.length≠0:=by
  rw[h1.wl];have:1<=p.tk.length*p.pg:=Nat.mul_pos Ω Ω;omega
 obtain⟨g,c,rfl,-,h3,h4,-⟩:=E6 o1 X;unfold maxLen at h4;exact⟨g,c,hi,ts,vt,vb,hr,o1,o2,o3,s1 g rfl,s2,s3,h3,by omega⟩
theorem QAq{c:Nat}{vt vb v3 v5 v6 v7:Value}(hr:Rec w q 266 [.slice (some ⟨g,0,none⟩) n c,vt,vb,v3,iI pg,v5,v6,v7])(hc:n<=c)(hc2:c<=9223372036854775807)
   (hp:1<=pg) (h1:f*pg+pg<=n) (h2:n<=1048576):cQ 285 #[pP q,iI f] w (.slice (some ⟨g,f*pg,none⟩) pg pg):=by
 have c0:=hr.cc 0;have c4:=hr.cc 4;obtain⟨t,ht⟩:=ε (f*pg);rw[<-ht]at h1⊢;have X:(f:Int)*(pg:Int)=(t:Int):=by rw[ht];push_cast;rfl
 have hw:IntKind.i64.wrap ((f:Int)*(pg:Int))=(t:Int):=by rw[X];exact ζp _ Ω
 have b1:(t:Int)+(pg:Int)<=(c:Int):=Ω
 have n0:¬pg=0:=Ω
 have n1:¬t+pg=t:=Ω
 clear hr ht;go_enter func285,ntmps285;go_wp2;go_ret;refine⟨?_,rfl⟩
 show Ending.returned (.slice (some ⟨g,t,none⟩) (t+pg-t) (t+pg-t))=_
 rw[ξ4]
def DD(p:Pl)(f a:Int):Int:=if EL p f=0 then (if 0<=a/\a<p.pg then 0 else 11)else 6
theorem ZNg{p:Pl}{f:Int}(h:EL p f=0):∃j:Nat,f=j/\j<p.tk.length/\at_ p.tk j=true:=by
 unfold EL at h;cases hb:(decide (0<=f)&&at_ p.tk f.toNat)with
 | false=>rw[hb]at h;cases h
 | true=>
  simp at hb;exact⟨f.toNat,by omega,GL hb.2,hb.2⟩
theorem VZN(p:Pl)(f:Int):EL p f=0\/EL p f=6:=by unfold EL;split <;> simp
def YvI(w:World)(S:Nat->Prop)(q:Nat)(p:Pl)(f a:Int)(e:Ending)(w':World):Prop:=w=w' ∧
 ((DD p f a≠0/\e=.returned (.tuple #[.pointer none,iI (DD p f a)])) ∨
  (DD p f a=0/\∃g:Nat,S g/\e=.returned (.tuple #[.pointer (some ⟨g,f.toNat*p.pg+a.toNat,none⟩),iI 0])/\w.cell? ⟨g,f.toNat*p.pg+a.toNat,none⟩=some (uU (p.wd.getD (f.toNat*p.pg+a.toNat) 0:Nat))/\w.frozen? ⟨g,f.toNat*p.pg+a.toNat,none⟩=false ∧
   ∀x:Nat,x<18446744073709551616->CN (w.setCell ⟨g,f.toNat*p.pg+a.toNat,none⟩ (.int .u64 x)) S q {p with wd:=p.wd.set (f.toNat*p.pg+a.toNat) x}))
theorem YEA(l:List Nat)(i x:Nat):(CW l).set i (uU (x:Nat))=CW (l.set i x):=by unfold CW;rw[ξX]
theorem QTa{p:Pl}(h:F3 p)(i x:Nat)(hx:x<18446744073709551616):F3 {p with wd:=p.wd.set i x}:=
 ⟨h.pg,h.pg2,h.rm,by simp[h.wl],λy hy=>by rcases ζL hy with h1|h1;exact h.w64 y h1;exact h1▸hx,h.nd,h.bl,h.us,h.le⟩
theorem TE(hP:CN w S q p)(f a:Int):Calls prog 292 #[pP q,iI f,iI a] w (YvI w S q p f a):=by
 have HP:=ι hP;rcases VZN p f with hc|hc
 ·obtain⟨j,rfl,hj,hat⟩:=ZNg hc;obtain⟨g,c,hi,ts,vt,vb,hr,o1,o2,o3,sg,s2,s3,D,L⟩:=XlR hP hj;obtain⟨I,O⟩:=QLE hP hj;have c4:=hr.cc 4;have hpg:=DR hP.ok.pg;have HR:=ι hr;have HC:=ι hc;have X:=ι o1;have HS:=ι (ξ sg (ξ s2 s3));have M:=ι o2;have J:=ι o3;have hp2:=hP.ok.pg2;clear hr o1 o2 o3 sg s2 s3 hP;by_cases V:a<0
  ·have E:DD p j a=11:=by unfold DD;rw[θ hc,ψ Ω]
   have HE:=ι E;have d0:decide (a<0)=true:=φ V;clear hc E;go_in;go_wp2_with(go_at_call 250;refine(PO HP.o j).mono ?_;rintro e w1 ⟨rfl,rfl⟩;rw[HC.o]);go_ret2;exact⟨rfl,.inl ⟨by rw[HE.o];decide,by rw[HE.o];rfl⟩⟩
  ·obtain⟨b,rfl⟩:∃b:Nat,a=b:=⟨a.toNat,by omega⟩;have d0:decide ((b:Int)<0)=false:=ζ V;by_cases Y:p.pg<=b
   ·have E:DD p j b=11:=by unfold DD;rw[θ hc,ψ Ω]
    have HE:=ι E;have d1:decide (p.pg<=b)=true:=φ Y;clear hc E;go_in;go_wp2_with(go_at_call 250;refine(PO HP.o j).mono ?_;rintro e w1 ⟨rfl,rfl⟩;rw[HC.o]);go_ret2;exact⟨rfl,.inl ⟨by rw[HE.o];decide,by rw[HE.o];rfl⟩⟩
   ·have E:DD p j b=0:=by unfold DD;rw[θ hc,θ Ω]
    have HE:=ι E;have d1:decide (p.pg<=b)=false:=ζ Y;have hlt:(b:Int)<(p.pg:Int):=Ω
    clear hc E;go_in
    go_wp2_with(first|(go_at_call 250;refine(PO HP.o j).mono ?_;rintro e w1 ⟨rfl,rfl⟩;rw[HC.o])|(go_at_call 285;refine(QAq HR.o D L Ω I O).mono ?_;rintro e w1 ⟨rfl,rfl⟩))
    go_ret2;obtain⟨i,U⟩:=ε (j*p.pg+b);have N:i<p.wd.length:=Ω
    have k:=BU X.o (ZpD N);refine⟨rfl,.inr ⟨HE.o,g,HS.o.1,by rw[β,β];rfl,?_,GG X.o _,λx hx=>?_⟩⟩
    ·rw[β,β,<-U,k,κ,τ N];rfl
    ·rw[β,β,<-U];have Z:=(World.ownsRow.stored X.o i (uU (x:Nat))).1;rw[YEA]at Z;refine⟨QTa HP.o.ok i x hx,HP.o.sq,_,vt,vb,hi,ts,AW HR.o _ (λg' hg'=>?_),by simpa using Z,AW M.o _ (λg' hg'=>?_),AW J.o _ (λg' hg'=>?_),λg' hg'=>by cases hg';exact HS.o.1,HS.o.2.1,HS.o.2.2⟩
     ·exact AG HR.o X.o (by decide) hg' rfl
     ·exact AG M.o X.o (by decide) hg' rfl
     ·exact AG J.o X.o (by decide) hg' rfl
 ·have E:DD p f a=6:=by unfold DD;rw[ψ Ω]
  have HE:=ι E;have HC:=ι hc;clear hP hc E;go_in;go_wp2_with(go_at_call 250;refine(PO HP.o f).mono ?_;rintro e w1 ⟨rfl,rfl⟩;rw[HC.o]);go_ret2;exact⟨rfl,.inl ⟨by rw[HE.o];decide,by rw[HE.o];rfl⟩⟩
def LW(p:Pl)(f a:Int):Nat:=if DD p f a=0 then p.wd.getD (f.toNat*p.pg+a.toNat) 0 else 0
def L8(p:Pl)(f a:Int)(x:Nat):Pl:=if DD p f a=0 then {p with wd:=p.wd.set (f.toNat*p.pg+a.toNat) x}else p
theorem Xn2(hP:CN w S q p)(f a:Int):cQ 259 #[pP q,iI f,iI a] w (.tuple #[uU (LW p f a:Nat),iI (DD p f a)]):=by
 have HP:=ι hP;clear hP;by_cases hc:DD p f a=0
 ·have HC:=ι hc;have HV:Hid (LW p f a=p.wd.getD (f.toNat*p.pg+a.toNat) 0):=⟨by unfold LW;rw[θ hc]⟩;clear hc;go_enter func259,ntmps259;go_wp2_with(go_at_call 292;refine(TE HP.o f a).mono ?_;rintro e w1 ⟨rfl,⟨h,-⟩|⟨-,g,-,rfl,k,-,-⟩⟩;(exact absurd HC.o h));go_ret2;exact⟨BT (by rw[HV.o,κ];rfl) (BR HC.o.symm),rfl⟩
 ·have HC:=ι hc;obtain⟨c,hce⟩:=ε (DD p f a);have hc0:(c !=0)=true:=by rw[hce];simpa using hc
  have X:=ι hce.symm;have HV:Hid (LW p f a=0):=⟨by unfold LW;rw[ψ hc]⟩;clear hc hce;go_enter func259,ntmps259;go_wp2_with(go_at_call 292;refine(TE HP.o f a).mono ?_;rintro e w1 ⟨rfl,⟨-,rfl⟩|⟨h,-⟩⟩;rotate_left;(exact absurd h HC.o);rw[X.o]);go_ret2;exact⟨BT (by rw[HV.o];rfl) (BR X.o.symm),rfl⟩
def JmU(w:World)(S:Nat->Prop)(q:Nat)(p:Pl)(f a:Int)(x:Nat)(e:Ending)(w':World):Prop:=e=.returned (iI (DD p f a))/\AB S w w'/\CN w' S q (L8 p f a x)
theorem YBJ(hP:CN w S q p)(f a:Int)(x:Nat)(hx:x<18446744073709551616):Calls prog 260 #[pP q,iI f,iI a,uU x] w (JmU w S q p f a x):=by
 have HP:=ι hP;clear hP;by_cases hc:DD p f a=0
 ·have HC:=ι hc;have HV:Hid (L8 p f a x={p with wd:=p.wd.set (f.toNat*p.pg+a.toNat) x}):=⟨by unfold L8;rw[θ hc]⟩;clear hc;go_in;go_wp2_with(go_at_call 292;refine(TE HP.o f a).mono ?_;rintro e w1 ⟨rfl,⟨h,-⟩|⟨-,g,sg,rfl,k,kf,hs⟩⟩;(exact absurd HC.o h);have Y:=ι (ξ sg hs);clear sg hs);go_ret;exact⟨AU HC.o.symm,(AB.refl S w).setCell (λ_=>Y.o.1) _,by rw[HV.o];exact Y.o.2 x hx⟩
 ·have HC:=ι hc;obtain⟨c,hce⟩:=ε (DD p f a);have hc0:(c==0)=false:=by rw[hce];simpa using hc
  have X:=ι hce.symm;have HV:Hid (L8 p f a x=p):=⟨by unfold L8;rw[ψ hc]⟩;clear hc hce;go_in;go_wp2_with(go_at_call 292;refine(TE HP.o f a).mono ?_;rintro e w1 ⟨rfl,⟨-,rfl⟩|⟨h,-⟩⟩;rotate_left;(exact absurd h HC.o);rw[X.o]);go_ret;exact⟨AU X.o.symm,AB.refl S w,by rw[HV.o];exact HP.o⟩
end
def FV(n:Int):Bool:=decide (1<=n)&&decide (n<=4096)
def EX(n:Int):Bool:=BQ n&&decide (n<=256)
def Pl.none(pg rm:Nat):Pl:=⟨pg,rm,[],[],[]⟩
theorem Xgr{rm:Nat}(h1:FV rm=true)(h2:EX pg=true):F3 (Pl.none pg rm):=by
 unfold FV at h1;unfold EX at h2;simp at h1 h2;exact⟨h2.1,by show pg<=256;omega,by show 1<=rm/\rm<=4096;omega,by simp[Pl.none],λx h=>(by cases h),ψm,λf h=>(by cases h),rfl,ζe _⟩
def VuW(w:World)(n k:Int)(e:Ending)(w':World):Prop:=
 ((FV n&&EX k)=false/\e=.returned (.tuple #[.pointer none,iI 5])/\w=w') ∨
 ((FV n&&EX k)=true/\e=.returned (.tuple #[pP w.heap.size,iI 0])/\Gr w w'/\CN w' (λb=>w.heap.size<=b) w.heap.size (Pl.none k.toNat n.toNat))
theorem XXu(n k:Int)(hk:k<=9223372036854775807)(w:World):Calls prog 118 #[iI n,iI k] w (VuW w n k):=by
 have X:((FV n&&EX k)=false/\(decide (n<1)=true\/(decide (n<1)=false/\decide (4096<n)=true)\/(decide (n<1)=false/\decide (4096<n)=false/\C0 k=false)\/(decide (n<1)=false/\decide (4096<n)=false/\C0 k=true/\decide (256<k)=true))) ∨
   ((FV n&&EX k)=true/\decide (n<1)=false/\decide (4096<n)=false/\C0 k=true/\decide (256<k)=false):=by
  have hb:=OA k;unfold FV EX;rw[hb];by_cases h1:n<1
  ·exact .inl ⟨by rw[ζ (show ¬1<=n by omega)];rfl,.inl (φ h1)⟩
  ·by_cases h2:4096<n
   ·exact .inl ⟨by rw[ζ (show ¬n<=4096 by omega)];simp,.inr (.inl ⟨ζ h1,φ h2⟩)⟩
   ·rw[φ (show 1<=n by omega),φ (show n<=4096 by omega)];cases hp:C0 k with
    | false=>exact .inl ⟨rfl,.inr (.inr (.inl ⟨ζ h1,ζ h2,rfl⟩))⟩
    | true=>
     by_cases h3:256<k
     ·exact .inl ⟨by rw[ζ (show ¬k<=256 by omega)];simp,.inr (.inr (.inr ⟨ζ h1,ζ h2,rfl,φ h3⟩))⟩
     ·exact .inr ⟨by rw[φ (show k<=1024 by omega),φ (show k<=256 by omega)];rfl,ζ h1,ζ h2,rfl,ζ h3⟩
 rcases X with⟨hf,hw⟩|⟨ht,h1,h2,h3,h4⟩
 ·have HF:=ι hf;obtain⟨b,hb⟩:=ε (C0 k);have HB:=ι hb.symm;rw[<-hb]at hw;clear hf hb;rcases hw with h1|⟨h1,h2⟩|⟨h1,h2,rfl⟩|⟨h1,h2,rfl,h3⟩
  all_goals
   go_in;go_wp2_with(go_at_call 182;refine(KY k hk _).mono ?_;rintro e w1 ⟨rfl,rfl⟩;rw[HB.o]);go_ret2;exact .inl ⟨HF.o,rfl,rfl⟩
 ·have HF:=ι ht;have HB:=ι h3;have hn:=of_decide_eq_false h1;obtain⟨m,rfl⟩:∃m:Nat,n=m:=⟨n.toNat,by omega⟩;have Y:=(ξa.1 (ξa.1 ht).2).1;have hkb:=DR Y;obtain⟨g,rfl⟩:∃g:Nat,k=g:=⟨k.toNat,by omega⟩;clear ht h3 hn Y;go_in;go_wp2_with(go_at_call 182;refine(KY _ hk _).mono ?_;rintro e w1 ⟨rfl,rfl⟩;rw[HB.o]);go_ret2;obtain⟨hr,hp⟩:=ξa.1 HF.o;refine .inr ⟨HF.o,rfl,(Gr.refl _).alloc _,?_⟩;rw[β,β];refine⟨Xgr hr hp,μ _,.slice none 0 0,.slice none 0 0,.slice none 0 0,0,0,Rec.new _ _ _,FD _ _ _ _,FD _ _ _ _,FD _ _ _ _,(λg h=>by cases h),(λg h=>by cases h),(λg h=>by cases h)⟩
def Pl.next(p:Pl):Nat:=if p.bk=[]then p.tk.length else p.bk.getLastD 0
def H5(l:List Nat)(i n:Nat):List Nat:=l.take i++List.replicate n 0++l.drop (i+n)
def Pl.fresh(p:Pl):Pl:=if p.bk=[]then {p with tk:=p.tk++[false],wd:=p.wd++List.replicate p.pg 0}else {p with bk:=p.bk.dropLast}
def Pl.take(p:Pl):Pl:={p.fresh with tk:=p.fresh.tk.set p.next true,wd:=H5 p.fresh.wd (p.next*p.pg) p.pg}
theorem YGK(h:i+n<=l.length):(H5 l i n).length=l.length:=by unfold H5;simp;omega
theorem YMA(h:i+n<=l.length)(j:Nat):(H5 l i n).getD j 0=if i<=j/\j<i+n then 0 else l.getD j 0:=by
 unfold H5;simp only[κ];by_cases h1:j<i
 ·rw[ψ Ω,ξj,ζX (by simp;omega),ξ7,θ h1]
 ·by_cases h2:j<i+n
  ·rw[θ Ω,ξj,ζ5 (by simp;omega),ζX (by simp;omega),ξz]
   split <;> rfl
  ·rw[ψ Ω,ζ5 (by simp;omega),ξS];congr 2;simp;omega
theorem YWy:(prog.info? 3).map (λi=>(i.zero,i.size,i.bytes))=some (some (iI 0),1,8):=by kernel_rfl
theorem Xck:(prog.info? 4).map (λi=>(i.zero,i.size,i.bytes))=some (some (.bool false),1,1):=by kernel_rfl
theorem TZ(l:List Bool):cnt (at_ (l++[false])) (l++[false]).length=cnt (at_ l) l.length:=by
 have h1:(l++[false]).length=l.length+1:=by simp
 rw[h1,C1];have h2:at_ (l++[false]) l.length=false:=by simp[at_]
 have h3:cnt (at_ (l++[false])) l.length=cnt (at_ l) l.length:=C2 (λi hi=>by simp[at_,ζX hi]);rw[h2,h3];rfl
def VL(w:World)(S:Nat->Prop)(q:Nat)(p:Pl)(e:Ending)(w':World):Prop:=e=.returned (iI (p.next:Nat))/\AB S w w'/\JMo w' (plus S w) q p.fresh
section
variable{p:Pl}
theorem VPE(hP:CN w S q p)(hb:p.bk≠[]):Calls prog 284 #[pP q] w (VL w S q p):=by
 obtain⟨ok,sq,vw,vt,vb,hi,ts,hr,o1,o2,o3,s1,s2,s3⟩:=hP;obtain⟨bi,f,X⟩:∃bi f,p.bk=bi++[f]:=⟨p.bk.dropLast,p.bk.getLast hb,(ξ9 hb).symm⟩;have hN:p.next=f:=by unfold Pl.next;rw[ψ hb,X];simp
 have hF:p.fresh={p with bk:=bi}:=by unfold Pl.fresh;rw[ψ hb,X];simp
 have hbl:p.bk.length<=4096:=by have:=ok.us;have:=ok.le;have:=ok.rm.2;omega
 have J:p.bk.length=bi.length+1:=by rw[X];simp
 obtain⟨gb,cb,rfl,-,O,I,hgl⟩:=E6 o3 Ω;have k:=BU o3 (XS1 (i:=bi.length) Ω);have V:p.bk[bi.length]' Ω=f:=by simp[X]
 rw[V]at k;have Y:=o3;rw[X]at Y;have e1:(bi++[f]).length=bi.length+1:=by simp
 have e2:EI (bi++[f])=EI bi++[iI (f:Nat)]:=by simp[EI]
 rw[e1,e2]at Y;have Z:=JTC Y;have c2:=hr.cc 2;rw[J]at c2 O;have cf:=hr.free 2;have HF:=ι hF;have HN:=ι hN;have HR:=ι hr;have H1:=ι o1;have H2:=ι o2;have H3:=ι Z;have HO3:=ι o3;unfold maxLen at I;obtain⟨N,U⟩:=ε bi.length;rw[<-U]at c2 J k O;have M:=ι U;clear hr o1 o2 o3 Y X hF hN e1 e2 Z hb V U;go_in;go_wp2;go_ret;refine⟨by rw[HN.o];rfl,(AB.refl S w).setCell (λ_=>sq) _,?_⟩;rw[HF.o];refine⟨vw,vt,.slice (some ⟨gb,0,none⟩) N cb,hi,ts,HR.o.set 2 _,AW H1.o _ (λg hg=>?_),AW H2.o _ (λg hg=>?_),?_,λg hg=>.inl (s1 g hg),λg hg=>.inl (s2 g hg),λg hg=>.inl (s3 g hg)⟩
 ·exact AG H1.o HR.o (by decide) hg rfl
 ·exact AG H2.o HR.o (by decide) hg rfl
 ·have:=H3.o;rw[<-M.o]at this
  show World.ownsRow _ 0 _ 1 _ bi.length _
  rw[<-M.o];exact AW this _ (λg hg=>AG this HR.o (by decide) hg rfl)
theorem Yqu(hP:CN w S q p)(hb:p.bk=[]):Calls prog 284 #[pP q] w (VL w S q p):=by
 obtain⟨ok,sq,vw,vt,vb,hi,ts,hr,o1,o2,o3,s1,s2,s3⟩:=hP;obtain⟨iu,Xy,Ye,Xv,Xx⟩:=info_parts OV;obtain⟨ib,Xz,Yc,Yg,Yd⟩:=info_parts Xck;have hN:p.next=p.tk.length:=by unfold Pl.next;rw[θ hb]
 have hF:p.fresh={p with tk:=p.tk++[false],wd:=p.wd++List.replicate p.pg 0}:=by unfold Pl.fresh;rw[θ hb]
 obtain⟨Ab,cb,rfl,hcb1,Xr⟩:=B9 o3;obtain⟨At,ct,rfl,hct1,Xs⟩:=B9 o2;obtain⟨Aw,cw,rfl,hcw1,Xn⟩:=B9 o1;have Xh:p.bk.length=0:=by rw[hb];rfl
 have Xj:p.tk.length<=4096:=ω ok.le ok.rm.2;have hpg:=DR ok.pg;have Xp:=ok.pg2;have Xw:p.wd.length<=1048576:=by rw[ok.wl];exact ω (ψT Xj Xp) (by decide)
 have c0:=hr.cc 0;have c1:=hr.cc 1;have c2:=hr.cc 2;have c4:=hr.cc 4;have cf:=λj=>hr.free j;rw[Xh]at c2;have hql:=hr.lt;have HF:=ι hF;have HN:=ι hN;have HR:=ι hr;have H1:=ι o1;have H2:=ι o2;have H3:=ι o3;have HB:=ι (ξ hb Xh);unfold maxLen at Xr Xs Xn;obtain⟨N,Xd⟩:=ε p.tk.length;have X:=ι Xd;rw[<-Xd]at c1 Xj;obtain⟨M,Xe⟩:=ε p.wd.length;have L:=ι Xe;rw[<-Xe]at c0 Xw;have Xo:=cf 1;have Xm:=cf 0;have HS:=ι (ξ s1 (ξ s2 s3))
 have Xi:∀g,(Value.slice At N ct).ownBlock=some g->g≠q:=λg hg=>by
  have:=AG o2 hr (by decide) (g1:=g) (g2:=q) (by cases At <;> simp[Value.ownBlock]at hg⊢;exact hg) rfl;exact this
 clear hr o1 o2 o3 hF hN hb Xd Xe s1 s2 s3 cf;go_in;go_wp2_with(at_builtin;refine wpList_append_lies _ rfl _ _ 210 rfl 0 4 ib _ 1 1 underlying210 Xz Yc Yg Yd rfl (by decide) (.slice At N ct) N (p.tk.map Value.bool) rfl (by rw[X.o];exact H2.o.alloc _) ⟨w.heap.size,0,none⟩ 1 1 [.bool false] rfl rfl (ζY (cs:=#[.bool false]) (t:=4) (fr:=(0,0)) (heap_alloc_new w _)) (by simp[Value.oneCell']) Ω (by unfold maxLen;omega) Ω (ζe _) (w.heap.size+1) (by simp) ?_;intro g2 A w2 I U J Xa;have t2:AB (λk=>(Value.slice At N ct).ownBlock=some k) w w2:=(((Gr.refl w).alloc _).touch _).trans (DT U _ (λk e _=>e));have O:=ι (HR.o.touch t2 (λe=>Xi q e rfl));have d1:=O.o.cc 1;have Xu:=O.o.free 1;have Xg:=ι t2;have Xl:=ι I;have Yf:=ι (ξ J Xa);clear I U J Xa t2);obtain⟨W3,Y⟩:=ε (w2.setCell ⟨q,1,none⟩ (.slice (some ⟨g2,0,none⟩) (N+1) A));rw[<-Y];have R3:=O.o.set 1 (.slice (some ⟨g2,0,none⟩) (N+1) A);rw[<-Y]at R3
 have T3:W3.ownsRow 0 4 1 (.slice (some ⟨g2,0,none⟩) (N+1) A) (N+1) (p.tk.map Value.bool++[.bool false]):=by
  rw[Y];exact AW Xl.o _ (λg hg=>AG Xl.o O.o (by decide) hg rfl)
 have Xb:∀g,(Value.slice Aw p.wd.length cw).ownBlock=some g->¬(Value.slice At N ct).ownBlock=some g:=λg hg e=>AG H1.o (by rw[X.o]at e;exact H2.o) (by decide) hg (by rw[X.o]at e;exact e) rfl;have Xc:∀g,(Value.slice Ab p.bk.length cb).ownBlock=some g->¬(Value.slice At N ct).ownBlock=some g:=λg hg e=>AG H3.o (by rw[X.o]at e;exact H2.o) (by decide) hg (by rw[X.o]at e;exact e) rfl;have U2:=AX H1.o Xg.o Xb
 have U3:W3.ownsRow 0 35 1 (.slice Aw p.wd.length cw) p.wd.length (CW p.wd):=by
  rw[Y];exact AW U2 _ (λg hg=>AG U2 O.o (by decide) hg rfl)
 have B2:=AX H3.o Xg.o Xc
 have B3:W3.ownsRow 0 3 1 (.slice Ab p.bk.length cb) p.bk.length (EI p.bk):=by
  rw[Y];exact AW B2 _ (λg hg=>AG B2 O.o (by decide) hg rfl)
 have G:AB S w W3:=by
  rw[Y];refine(Xg.o.mono (T:=S) (λk _ h=>?_)).setCell (λ_=>sq) _;rw[X.o]at h;exact HS.o.2.1 k h
 have HW:=ι (ξ R3 (ξ T3 (ξ U3 (ξ B3 G))));have y0:=R3.cc 0;have y4:=R3.cc 4;have yf:=R3.free 0;rw[<-L.o]at y0 U3;have HU:=ι U3;clear Y R3 T3 U3 U2 B2 B3 G Xb Xc c0 c1 c2 c4 Xm Xo d1 Xu Xi;obtain⟨Sx,E⟩:=ε (λW'=>W'.cell? ⟨q,0,none⟩=some (.slice Aw M cw)/\W'.cell? ⟨q,4,none⟩=some (iI p.pg):World->Prop);have x0:∀p':AA Sx,p'.w.cell? ⟨q,0,none⟩=some (.slice Aw M cw):=λp'=>(AA.get E p').1;have x4:∀p':AA Sx,p'.w.cell? ⟨q,4,none⟩=some (iI p.pg):=λp'=>(AA.get E p').2;have Xk:Sx W3.drew:=by rw[E];exact⟨y0,y4⟩
 have Yb:=ι E;clear E;have inst:Inhabited (AA Sx):=⟨⟨_,Xk⟩⟩;refine BI Sx 12 [([0,1,2,3,4,5,6,7,8],9),([10,11],12)] [] Xk ?_;refine AL ?_;go_wp2_with(at_builtin;refine ZfD _ rfl _ _ 55 3 rfl 35 .i64 0 iu _ underlying55 underlying3 Xy Ye Xv rfl (by decide) (.slice Aw M cw) M (CW p.wd) rfl (CF HU.o (Gr.refl W3).drew) p.pg rfl Ω (by unfold maxLen;omega) (by rw[Xx];omega) (ζe _) ?_;intro g4 c4 w4 D V Z hlt4)
 go_frame
 have t4:AB (λk=>(Value.slice Aw M cw).ownBlock=some k) W3 w4:=((Gr.refl W3).drew.touch _).trans (DT V _ (λk e _=>e));have Xt:¬(Value.slice Aw M cw).ownBlock=some q:=λe=>AG HU.o HW.o.1 (by decide) e rfl rfl;have R4:=HW.o.1.touch t4 Xt;have B:=ι R4;have z0:=R4.cc 0;have z4:=R4.cc 4;have zf:=R4.free 0;have Xf:=ι t4;have Xq:=ι D;have Ya:=ι Z;rw[<-L.o]at z0;clear R4 t4 D V Z Xt;refine⟨.inr (AA.of (by rw[Yb.o];exact⟨z0,z4⟩)),?_⟩;refine AL ?_;go_wp2;refine⟨.inl trivial,?_⟩;refine EM ?_;refine ζb ?_;refine ζx ?_;go_wp2;go_ret;obtain⟨R3,T3,U3,B3,G⟩:=HW.o;have hs3:=G.size;have T4:=AX T3 Xf.o (λg hg e=>AG T3 HU.o (by decide) hg e rfl);have B4:=AX B3 Xf.o (λg hg e=>AG B3 HU.o (by decide) hg e rfl);have J:=Yf.o;have Z:=Ya.o;refine⟨by rw[HN.o,<-X.o];rfl,(G.trans' Xf.o (λk hk h=>?_)).setCell (λ_=>sq) _,?_⟩
 ·rw[L.o]at h;exact HS.o.1 k h
 ·rw[HF.o];have hu:({p with tk:=p.tk++[false],wd:=p.wd++List.replicate p.pg 0}:Pl).used=p.used:=TZ p.tk;refine⟨.slice (some ⟨g4,0,none⟩) (M+p.pg) c4,.slice (some ⟨g2,0,none⟩) (N+1) A,.slice Ab p.bk.length cb,hi,ts,?_,?_,?_,AW B4 _ (λg hg=>AG B4 B.o (by decide) hg rfl),λg hg=>?_,λg hg=>?_,λg hg=>.inl (HS.o.2.2 g hg)⟩
  ·rw[hu];exact B.o.set 0 _
  ·have:=AW (q:=q) (j:=0) Xq.o (.slice (some ⟨g4,0,none⟩) (M+p.pg) c4) (λg hg=>AG Xq.o B.o (by decide) hg rfl);have e1:(p.wd++List.replicate p.pg 0).length=M+p.pg:=by rw[L.o];simp
   have e2:CW (p.wd++List.replicate p.pg 0)=CW p.wd++List.replicate p.pg (uU 0):=by unfold CW;rw[ζI,List.map_replicate];rfl
   show World.ownsRow _ 0 _ 1 _ (p.wd++List.replicate p.pg 0).length (CW (p.wd++List.replicate p.pg 0))
   rw[e1,e2];exact this
  ·have:=AW (q:=q) (j:=0) T4 (.slice (some ⟨g4,0,none⟩) (M+p.pg) c4) (λg hg=>AG T4 B.o (by decide) hg rfl)
   show World.ownsRow _ 0 _ 1 _ (p.tk++[false]).length ((p.tk++[false]).map Value.bool)
   rw[ζI,show (p.tk++[false]).length=N+1 by rw[X.o];simp];exact this
  ·cases hg;rcases Z with h|h
   ·rw[L.o]at h;exact .inl (HS.o.1 _ h)
   ·right;show w.heap.size<=g4;have:W3.drew.heap.size=W3.heap.size:=rfl;omega
  ·cases hg;rcases J.1 with h|h
   ·rw[X.o]at h;exact .inl (HS.o.2.1 _ h)
   ·right;show w.heap.size<=g2;omega
theorem VKq(hP:CN w S q p):Calls prog 284 #[pP q] w (VL w S q p):=by
 by_cases hb:p.bk=[]
 ·exact Yqu hP hb
 ·exact VPE hP hb
theorem LF(hP:F3 p):p.next<p.fresh.tk.length/\p.fresh.wd.length=p.fresh.tk.length*p.pg/\at_ p.fresh.tk p.next=false:=by
 unfold Pl.next Pl.fresh
 by_cases hb:p.bk=[]
 ·rw[θ hb,θ hb];refine⟨by simp,by simp[hP.wl,ξd],by simp[at_]⟩
 ·rw[ψ hb,ψ hb]
  have hm:p.bk.getLastD 0∈p.bk:=by
   obtain⟨bi,x,X⟩:∃bi x,p.bk=bi++[x]:=⟨p.bk.dropLast,p.bk.getLast hb,(ξ9 hb).symm⟩;rw[X];simp
  have:=hP.bl _ hm;exact⟨this.1,hP.wl,this.2⟩
theorem GU{l:List Bool}{x:Bool}(hk:k<l.length):at_ (l.set k x) i=if i=k then x else at_ l i:=P9 l k i x hk
theorem KM{l:List Bool}(hi:i<l.length)(h:at_ l i=false):cnt (at_ (l.set i true)) l.length=cnt (at_ l) l.length+1:=by
 have X:∀k,k<=l.length->cnt (at_ (l.set i true)) k=cnt (at_ l) k+if i<k then 1 else 0:=by
  intro k
  induction k with
  | zero=>intro _;rfl
  | succ k ih=>
   intro hk;rw[C1,C1,ih Ω,GU hi];by_cases e:k=i
   ·subst e;rw[θ rfl,h,ψ (ξb _),θ (ξ3 _)];simp
   ·rw[ψ e];by_cases h1:i<k
    ·rw[θ h1,θ Ω];omega
    ·rw[ψ h1,ψ Ω];omega
 rw[X _ (μ _),θ hi]
theorem V4E{l:List Bool}(hi:i<l.length)(h:at_ l i=true):cnt (at_ (l.set i false)) l.length+1=cnt (at_ l) l.length:=by
 have h2:=KM (l:=l.set i false) (i:=i) (by simpa using hi) (by rw[GU hi,θ rfl]);rw[List.set_set,ζa]at h2
 have:l.set i true=l:=by
  apply ξA (by simp);intro j h1 h3;rw[List.getElem_set]
  split
  ·rename_i e;subst e;simpa[at_,hi]using h.symm
  ·rfl
 rw[this]at h2;exact h2.symm
theorem UN(h:F3 p)(hroom:p.used<p.rm):F3 p.take:=by
 obtain⟨h1,h2,h3⟩:=LF h
 have J:p.fresh.used=p.used:=by
  unfold Pl.used Pl.fresh
  split
  ·exact TZ p.tk
  ·rfl
 have hf:(p.next*p.pg)+p.pg<=p.fresh.wd.length:=by rw[h2,<-ξd];exact ζj _ h1
 have e0:p.take.pg=p.pg/\p.take.rm=p.rm/\p.take.bk=p.fresh.bk:=by unfold Pl.take Pl.fresh;split <;> exact⟨rfl,rfl,rfl⟩
 have e1:p.take.tk=p.fresh.tk.set p.next true:=rfl
 have e2:p.take.wd=H5 p.fresh.wd (p.next*p.pg) p.pg:=rfl
 have eu:p.take.used=p.used+1:=by
  rw[<-J];unfold Pl.used;rw[e1,ζa];exact KM h1 h3
 refine⟨by rw[e0.1];exact h.pg,by rw[e0.1];exact h.pg2,by rw[e0.2.1];exact h.rm,by rw[e0.1,e2,YGK hf,h2,e1,ζa],λx hx=>?_,?_,λf hf'=>?_,?_,?_⟩
 ·rw[e2]at hx;unfold H5 at hx
  have X:∀y∈p.fresh.wd,y<18446744073709551616:=λy hy=>by
   unfold Pl.fresh at hy
   split at hy
   ·rcases ζs.1 hy with hy|hy
    ·exact h.w64 y hy
    ·rw[ξg hy];decide
   ·exact h.w64 y hy
  rcases ζs.1 hx with hx|hx
  ·rcases ζs.1 hx with hx|hx
   ·exact X x (ξW hx)
   ·rw[ξg hx];decide
  ·exact X x (List.mem_of_mem_drop hx)
 ·rw[e0.2.2];unfold Pl.fresh
  split
  ·exact h.nd
  ·exact h.nd.sublist (List.dropLast_sublist _)
 ·rw[e0.2.2]at hf';rw[e1,ζa];unfold Pl.fresh at hf' h1⊢;unfold Pl.next at h1⊢
  by_cases hb:p.bk=[]
  ·rw[θ hb]at hf';rw[hb]at hf';cases hf'
  ·rw[ψ hb]at hf' h1⊢;rw[ψ hb]at h1⊢;have hm:=(List.dropLast_sublist _).subset hf';have Z:=h.bl f hm;refine⟨Z.1,?_⟩;rw[GU h1,ψ,Z.2];intro e;obtain⟨bi,x,U⟩:∃bi x,p.bk=bi++[x]:=⟨p.bk.dropLast,p.bk.getLast hb,(ξ9 hb).symm⟩;have Y:=h.nd;rw[U]at hf' e Y;simp at hf' e;subst e;rw[ψc]at Y;exact Y.2.2 f hf' f (by simp) rfl
 ·rw[eu,e0.2.2,e1,ζa];unfold Pl.fresh;have:=h.us
  split
  ·rename_i hb;rw[hb]at this;simp[hb]at this⊢;omega
  ·rename_i hb;have:=List.length_pos_iff.2 hb;simp;omega
 ·rw[e0.2.1,e1,ζa];unfold Pl.fresh;have:=h.us
  split
  ·rename_i hb;rw[hb]at this;simp at this⊢;omega
  ·exact h.le
theorem OL(p:Pl):p.fresh.pg=p.pg/\p.fresh.rm=p.rm/\p.fresh.used=p.used:=by
 unfold Pl.fresh
 split
 ·exact⟨rfl,rfl,TZ p.tk⟩
 ·exact⟨rfl,rfl,rfl⟩
theorem XT(h:F3 p):p.take.used=p.used+1:=by
 obtain⟨h1,h2,h3⟩:=LF h
 have X:p.fresh.used=p.used:=by
  unfold Pl.used Pl.fresh
  split
  ·exact TZ p.tk
  ·rfl
 have e1:p.take.tk=p.fresh.tk.set p.next true:=rfl
 rw[<-X];unfold Pl.used;rw[e1,ζa];exact KM h1 h3
def Xun(w:World)(S:Nat->Prop)(q:Nat)(p:Pl)(e:Ending)(w':World):Prop:=
 (p.used=p.rm/\e=.returned (.tuple #[iI 0,iI 14])/\Gr w w') ∨
 (p.used<p.rm/\e=.returned (.tuple #[iI (p.next:Nat),iI 0])/\AB S w w'/\CN w' (plus S w) q p.take)
theorem PY(h:F3 p):p.used<=p.rm:=by have:=h.us;have:=h.le;omega
theorem JVJ(hP:CN w S q p):Calls prog 246 #[pP q] w (Xun w S q p):=by
 have HP:=ι hP;have M:=hP.ok;have B:=PY M;have Yb:=M.rm;obtain⟨vw,vt,vb,hi,ts,hr,-⟩:=hP.row;have c3:=hr.cc 3;have c5:=hr.cc 5;have Xj:=hr.lt;obtain⟨u,hu⟩:=ε p.used;have HU:=ι hu;rw[<-hu]at c5 B;obtain⟨R,hR⟩:=ε p.rm;have Z:=ι hR;rw[<-hR]at c3 B Yb;have hr0:((R:Int)==0)=false:=ζl.2 Ω;have z3:∀m,(w.drewN m).cell? ⟨q,3,none⟩=some (iI R):=λm=>((Gr.refl w).drewN m |>.cell Xj _).trans c3;have z5:∀m,(w.drewN m).cell? ⟨q,5,none⟩=some (iI u):=λm=>((Gr.refl w).drewN m |>.cell Xj _).trans c5;have hpg:=DR M.pg;have X:=ι M;clear hr hP hu hR M;by_cases Y:u=R
 ·have d1:((u:Int)==(R:Int))=true:=by rw[Y];simp
  have Xu:=ι Y;clear Y;go_in;go_wp2;go_quiet (fail);go_wp2;go_ret2;exact .inl ⟨by rw[<-HU.o,<-Z.o];exact Xu.o,rfl,(Gr.refl w).drewN _⟩
 ·have d1:((u:Int)==(R:Int))=false:=ζl.2 Ω;go_in;go_wp2;go_quiet (fail);go_wp2_with(go_at_call 284;refine(VKq (HP.o.gr ((Gr.refl w).drewN nq))).mono ?_;rintro e w2 ⟨rfl,Xh,D⟩;have Ya:=ι Xh;have Xe:=ι D;clear Xh D);obtain⟨vw2,vt2,A,N,J,R2,o1,o2,o3,s1,s2,s3⟩:=Xe.o;obtain⟨n1,n2,n3⟩:=LF X.o;obtain⟨f1,f2,f3⟩:=OL p;have hf:p.next*p.pg+p.pg<=p.fresh.wd.length:=by rw[n2,<-ξd];exact ζj _ n1
  have Xp:p.fresh.tk.length<=4096:=by
   have h1:=(UN X.o (by rw[<-HU.o,<-Z.o];omega)).le;have h2:p.take.tk.length=p.fresh.tk.length:=ζa ..;have h3:p.take.rm=p.rm:=f2;rw[h2,h3,<-Z.o]at h1;omega
  have Xo:p.fresh.wd.length<=1048576:=by rw[n2];exact ω (ψT Xp X.o.pg2) (by decide)
  obtain⟨g2,cw,rfl,-,Xt,Xv,-⟩:=E6 o1 Ω;obtain⟨gt,ct,rfl,-,hd1,Xk,-⟩:=E6 o2 Ω;unfold maxLen at Xv Xk;obtain⟨iu,Xq,Xx,hu1,hu2⟩:=info_parts OV;obtain⟨w3,Xz,Xi,Xa⟩:=YNv (P:=prog) w2 55 35 0 iu _ underlying55 Xq Xx rfl (by decide) o1 (p.next*p.pg) p.pg p.pg Ω hf;rw[f1,f2,f3,<-HU.o,<-Z.o]at R2;have t3:=DT Xa (λk=>k=g2) (λk e _=>(Option.some.inj e).symm);have R3:=R2.touch t3 (AG R2 o1 (by decide) rfl rfl);have T3:=AX o2 t3 (λg hg=>AG o2 o1 (by decide) hg rfl);have B3:=AX o3 t3 (λg hg=>AG o3 o1 (by decide) hg rfl);have G:q≠gt:=AG R2 o2 (by decide) rfl rfl;have hgq:gt≠q:=λe=>G e.symm;have Xf:=ι R2;have k1:=R3.cc 1;have k5:=R3.cc 5;have k6:=R3.cc 6;have k7:=R3.cc 7;have kf:=λj=>R3.free j;have Xl:=kf 5;have Xw:=kf 6;have Xy:=kf 7;have kt:=BU T3 (ZA n1);have Xm:=GG T3 p.next
  have hnl:(p.next:Int)<(p.fresh.tk.length:Int):=Ω
  have Xb:=ι (ξ R3 (ξ Xi (ξ T3 (ξ B3 t3))));have U:=ι (ξ s1 (ξ s2 s3));have Xs:=ι (ξ n1 (ξ n2 n3));have Xg:=ι (ξ f1 (ξ f2 f3));clear R2 o1 o2 o3 s1 s2 s3 Xi Xa R3 T3 B3 t3 n1 n2 n3 f1 f2 f3 kf c3 c5 z3 z5 Xe;generalize hnx:p.next=f at *
  have E:=ι hnx;clear hnx;have hmax:=NW prog;go_wp2_with(go_at_call 285;refine(QAq Xf.o Xt Ω Ω hf Xo).mono ?_;rintro e w1 ⟨rfl,rfl⟩);obtain⟨W5,V⟩:=ε (((w3.setCell ⟨gt,f,none⟩ (.bool true)).setCell ⟨q,5,none⟩ (.int .i64 ((u:Int)+1))).setCell ⟨q,7,none⟩ (.int .i64 (wrap64 (J+1))));rw[<-V];obtain⟨R3,U3,T3,B3,t3⟩:=Xb.o;have R4:=AW (q:=gt) (j:=f) R3 (.bool true) (λg hg=>by cases hg;exact G)
  have R5:Rec W5 q 266 [.slice (some ⟨g2,0,none⟩) p.fresh.wd.length cw,.slice (some ⟨gt,0,none⟩) p.fresh.tk.length ct,A,iI R,iI p.pg,iI ((u:Int)+1),iI N,iI (wrap64 (J+1))]:=by
   rw[V];exact(Rec.set R4 5 _).set 7 _
  have U4:=AW (q:=gt) (j:=f) U3 (.bool true) (λg hg=>AG U3 T3 (by decide) hg rfl);have U5:=AW (q:=q) (j:=7) (AW (q:=q) (j:=5) U4 (iI ((u:Int)+1)) (λg hg=>AG U4 R4 (by decide) hg rfl)) (iI (wrap64 (J+1))) (λg hg=>AG U4 R4 (by decide) hg rfl);have T4:=(World.ownsRow.stored T3 f (.bool true)).1;have T5:=AW (q:=q) (j:=7) (AW (q:=q) (j:=5) T4 (iI ((u:Int)+1)) (λg hg=>AG T4 R4 (by decide) hg rfl)) (iI (wrap64 (J+1))) (λg hg=>AG T4 R4 (by decide) hg rfl);have B4:=AW (q:=gt) (j:=f) B3 (.bool true) (λg hg=>AG B3 T3 (by decide) hg rfl);have B5:=AW (q:=q) (j:=7) (AW (q:=q) (j:=5) B4 (iI ((u:Int)+1)) (λg hg=>AG B4 R4 (by decide) hg rfl)) (iI (wrap64 (J+1))) (λg hg=>AG B4 R4 (by decide) hg rfl);rw[<-V]at U5 T5 B5;have sq:=HP.o.sq
  have O:AB (plus S (w.drewN nq)) w2 W5:=by
   rw[V];exact(((t3.mono (λk _ h=>by rw[show k=g2 from h];exact U.o.1 g2 rfl)).setCell (λ_=>U.o.2.1 gt rfl) _).setCell (λ_=>.inl sq) _).setCell (λ_=>.inl sq) _
  have Xn:=ι (ξ R5 (ξ U5 (ξ T5 (ξ B5 O))));have y5:=R5.cc 5;have y6:=R5.cc 6;have yf:=R5.free 6;clear V R3 U3 T3 B3 t3 R4 R5 U4 U5 T4 T5 B4 B5 O k1 k5 k6 k7 Xl Xw Xy kt Xm Xz Xb;obtain⟨Sx,I⟩:=ε (λW'=>W'.cell? ⟨q,5,none⟩=some (iI ((u:Int)+1))/\W'.cell? ⟨q,6,none⟩=some (iI N):World->Prop);have x5:∀p':AA Sx,p'.w.cell? ⟨q,5,none⟩=some (iI ((u:Int)+1)):=λp'=>(AA.get I p').1;have x6:∀p':AA Sx,p'.w.cell? ⟨q,6,none⟩=some (iI N):=λp'=>(AA.get I p').2;have Xc:Sx W5.drew:=by rw[I];exact⟨y5,y6⟩
  clear I;have inst:Inhabited (AA Sx):=⟨⟨_,Xc⟩⟩;refine BI Sx 12 [([0,1,2,3,4,5,6,7,8,9,10,11],12)] [] Xc ?_;refine AL ?_;go_wp2;refine⟨.inl trivial,?_⟩;refine EM ?_;refine ζb ?_;refine ζx ?_;go_wp2;go_ret2;obtain⟨R5,U5,T5,B5,O⟩:=Xn.o;obtain⟨n1,n2,n3⟩:=Xs.o;have Xd:p.used<p.rm:=by rw[<-HU.o,<-Z.o];omega
  refine .inr ⟨Xd,by rw[E.o];rfl,?_,UN X.o Xd,.inl sq,?_⟩
  ·refine(AB.setCell (a:=⟨q,6,none⟩) ((((Gr.refl w).drewN nq).touch S).trans' (Ya.o.trans' O (λk hk h=>?_)) (λk _ h=>h)) (λ_=>sq) _).drew;rcases h with h|h
   ·exact h
   ·exact absurd hk (ξs h)
  ·have U6:=λv=>CF (AW (q:=q) (j:=6) U5 v (λg hg=>AG U5 R5 (by decide) hg rfl)) (Gr.refl _).drew;have T6:=λv=>CF (AW (q:=q) (j:=6) T5 v (λg hg=>AG T5 R5 (by decide) hg rfl)) (Gr.refl _).drew;have B6:=λv=>CF (AW (q:=q) (j:=6) B5 v (λg hg=>AG B5 R5 (by decide) hg rfl)) (Gr.refl _).drew;have eu:p.take.used=u+1:=by rw[XT X.o,<-HU.o]
   have ew:p.take.wd=H5 p.fresh.wd (f*p.pg) p.pg:=by rw[<-E.o];rfl
   have et:p.take.tk=p.fresh.tk.set f true:=by rw[<-E.o];rfl
   have Yc:p.take.wd.length=p.fresh.wd.length:=by rw[ew,YGK hf]
   have Xr:CW (H5 p.fresh.wd (f*p.pg) p.pg)=List.take (f*p.pg) (CW p.fresh.wd)++List.replicate p.pg (Value.int IntKind.u64 0)++List.drop (f*p.pg+p.pg) (CW p.fresh.wd):=by
    unfold H5 CW;rw[ζI,ζI,List.map_replicate,List.map_take,List.map_drop];rfl
   have er:p.take.rm=R:=by rw[Z.o];exact Xg.o.2.1
   have ep:p.take.pg=p.pg:=Xg.o.1;have eb:p.take.bk=p.fresh.bk:=rfl;have L:∀g,plus S (w.drewN nq) g->plus S w g:=λg h=>h;refine⟨.slice (some ⟨g2,0,none⟩) p.fresh.wd.length cw,.slice (some ⟨gt,0,none⟩) p.fresh.tk.length ct,A,max N ((u:Int)+1),wrap64 (J+1),?_,?_,?_,?_,λg hg=>L g (U.o.1 g hg),λg hg=>L g (U.o.2.1 g hg),λg hg=>L g (U.o.2.2 g hg)⟩
   rotate_left
   ·rw[Yc,ew,Xr];exact U6 _
   ·rw[et,ζa,ξX];exact T6 _
   ·rw[eb];exact B6 _
   ·rw[eu,er,ep];exact(R5.set 6 _).gr (Gr.refl _).drew
def Pl.give(p:Pl)(f:Nat):Pl:={p with tk:=p.tk.set f false,bk:=p.bk++[f]}
theorem QG(hf:at_ p.tk f=true):(p.give f).used+1=p.used:=by
 show cnt (at_ (p.tk.set f false)) (p.tk.set f false).length+1=_
 rw[ζa];exact V4E (GL hf) hf
theorem Q60(h:F3 p)(hf:at_ p.tk f=true):F3 (p.give f):=by
 have hl:=GL hf;refine⟨h.pg,h.pg2,h.rm,by show _=(p.tk.set f false).length*_;rw[ζa];exact h.wl,h.w64,?_,λg hg=>?_,?_,by show (p.tk.set f false).length<=_;rw[ζa];exact h.le⟩
 ·show (p.bk++[f]).Nodup
  rw[ψc];refine⟨h.nd,by simp,λa ha b hb=>?_⟩;simp at hb;subst hb;rintro rfl;have:=(h.bl a ha).2;rw[hf]at this;cases this
 ·show g<(p.tk.set f false).length/\at_ (p.tk.set f false) g=false
  rw[ζa,GU hl];rcases ζs.1 hg with hg|hg
  ·have:=h.bl g hg;refine⟨this.1,?_⟩
   split
   ·rfl
   ·exact this.2
  ·simp at hg;subst hg;exact⟨hl,by rw[θ rfl]⟩
 ·have h1:=QG hf;have h2:=h.us
  show _+(p.bk++[f]).length=(p.tk.set f false).length
  rw[ζa,ζm];simp;omega
def VkD(w:World)(S:Nat->Prop)(q:Nat)(p:Pl)(f:Nat)(e:Ending)(w':World):Prop:=e=.returned (iI 0)/\AB S w w'/\CN w' (plus S w) q (p.give f)
theorem XDh(hP:CN w S q p)(hf:at_ p.tk f=true):Calls prog 196 #[pP q,iI f] w (VkD w S q p f):=by
 have HP:=ι hP;have Z:=hP.ok;have Xf:=GL hf;have HC:Hid (EL p f=0):=⟨by unfold EL;rw[β,hf,φ Ω];rfl⟩;have B:=QG hf;have Xb:=PY Z;have hrm:=Z.rm;have I:=Z.us;have htl:=Z.le;obtain⟨vw,vt,vb,hi,ts,hr,o1,o2,o3,s1,s2,s3⟩:=hP.row;obtain⟨gt,ct,rfl,-,hd1,G,-⟩:=E6 o2 Ω;obtain⟨Ab,cb,rfl,hcb1,D⟩:=B9 o3;unfold maxLen at G D;obtain⟨ii,Xg,Xk,A,Xc⟩:=info_parts YWy;have E:q≠gt:=AG hr o2 (by decide) rfl rfl;have hgq:gt≠q:=λe=>E e.symm;have c1:=hr.cc 1;have c2:=hr.cc 2;have c5:=hr.cc 5;have cf:=λj=>hr.free j;have cf2:=cf 2;have cf5:=cf 5;have kt:=BU o2 (ZA Xf);have ktf:=GG o2 f;obtain⟨N,hN⟩:=ε p.bk.length;have HN:=ι hN;rw[<-hN]at c2 I;obtain⟨u,hu⟩:=ε p.used;have HU:=ι hu;rw[<-hu]at c5 Xb B I hr;have hu2:1<=u:=Ω
 have hfI:(f:Int)<(p.tk.length:Int):=Ω
 have HR:=ι hr;have H1:=ι o1;have H2:=ι o2;have H3:=ι o3;have HS:=ι (ξ s1 (ξ s2 s3));have HF:=ι hf;have L:=ι Z;have B1:=AW (q:=gt) (j:=f) o3 (.bool false) (λg hg=>AG o3 o2 (by decide) hg rfl);have R1:=AW (q:=gt) (j:=f) hr (.bool false) (λg hg=>by cases hg;exact E);rw[<-hN]at B1;have Xh:=ι B1;have Xe:=ι R1;have Xa:∀g,(Value.slice Ab N cb).ownBlock=some g->g≠q:=λg hg=>AG o3 hr (by decide) (by rw[<-hN];exact hg) rfl;clear hr o1 o2 o3 hP hf hN hu Z cf s1 s2 s3 B1 R1;go_in
 go_wp2_with(first|(go_at_call 250;refine(PO HP.o f).mono ?_;rintro e w1 ⟨rfl,rfl⟩;rw[HC.o])|(at_builtin;refine wpList_append_lies _ rfl _ _ 42 rfl 0 3 ii _ 1 8 underlying42 Xg Xk A Xc rfl (by decide) (.slice Ab N cb) N (EI p.bk) rfl (Xh.o.alloc _) ⟨w.heap.size,0,none⟩ 1 1 [iI (f:Nat)] rfl rfl (ζY (cs:=#[iI (f:Nat)]) (t:=3) (fr:=(0,0)) (by have:=heap_alloc_new (w.setCell ⟨gt,f,none⟩ (.bool false)) (.cells #[.int .i64 (f:Nat)] 3);simpa using this)) (by simp[Value.oneCell']) Ω (by unfold maxLen;omega) Ω (ζe _) (w.heap.size+1) (by simp) ?_;intro g2 Xd w2 J Y X V;have t2:AB (λk=>(Value.slice Ab N cb).ownBlock=some k) (w.setCell ⟨gt,f,none⟩ (.bool false)) w2:=(((Gr.refl _).alloc _).touch _).trans (DT Y _ (λk e _=>e));have U:=ι (AX Xe.o t2 (λg hg e=>by cases hg;exact Xa q e rfl));have d2:=BU U.o (j:=2) rfl;have df2:=GG U.o 2;have d5:=BU U.o (j:=5) rfl;have df5:=GG U.o 5;have O:=ι t2;have M:=ι J;have Xi:=ι (ξ X V);clear J Y X V t2))
 go_ret;have X:=Xi.o;have U1:=AW (q:=gt) (j:=f) H1.o (.bool false) (λg hg=>AG H1.o H2.o (by decide) hg rfl);have Xj:∀g,vw.ownBlock=some g->¬(Value.slice Ab N cb).ownBlock=some g:=λg hg e=>AG H1.o H3.o (by decide) hg (by rw[<-HN.o];exact e) rfl;have U2:=AX U1 O.o Xj;have T1:=(World.ownsRow.stored H2.o f (.bool false)).1;have T2:=AX T1 O.o (λg hg e=>AG H2.o H3.o (by decide) hg (by rw[<-HN.o];exact e) rfl);have hsz:(w.setCell ⟨gt,f,none⟩ (.bool false)).heap.size=w.heap.size:=by simp
 have tt:AB S w w2:=((AB.refl S w).setCell (a:=⟨gt,f,none⟩) (λ_=>HS.o.2.1 gt rfl) (.bool false)).trans' O.o (λk _ h=>HS.o.2.2 k (by rw[<-HN.o];exact h));refine⟨rfl,(tt.setCell (a:=⟨q,2,none⟩) (λ_=>HP.o.sq) _).setCell (a:=⟨q,5,none⟩) (λ_=>HP.o.sq) _,Q60 L.o HF.o,.inl HP.o.sq,?_⟩;have R2:=U.o;have e1:(p.give f).used=u-1:=by have:=QG HF.o;have:=HU.o;omega
 have e2:(((u-1:Nat)):Int)=(u:Int)-1:=Ω
 have e3:(p.give f).tk=p.tk.set f false:=rfl;have e4:(p.give f).bk=p.bk++[f]:=rfl;have U3:=λa b=>AW (q:=q) (j:=5) (AW (q:=q) (j:=2) U2 a (λg hg=>AG U2 R2 (by decide) hg rfl)) b (λg hg=>AG U2 R2 (by decide) hg rfl);have T3:=λa b=>AW (q:=q) (j:=5) (AW (q:=q) (j:=2) T2 a (λg hg=>AG T2 R2 (by decide) hg rfl)) b (λg hg=>AG T2 R2 (by decide) hg rfl);have B3:=λa b=>AW (q:=q) (j:=5) (AW (q:=q) (j:=2) M.o a (λg hg=>AG M.o R2 (by decide) hg rfl)) b (λg hg=>AG M.o R2 (by decide) hg rfl);refine⟨vw,.slice (some ⟨gt,0,none⟩) p.tk.length ct,.slice (some ⟨g2,0,none⟩) (N+1) Xd,hi,ts,?_,?_,?_,?_,λg hg=>.inl (HS.o.1 g hg),λg hg=>.inl (HS.o.2.1 g hg),λg hg=>?_⟩
 ·rw[e1,e2];have Xl:Rec w2 q 266 _:=R2;exact(Xl.set 2 _).set 5 _
 ·exact U3 _ _
 ·rw[e3,ζa,ξX];exact T3 _ _
 ·rw[e4,show (p.bk++[f]).length=N+1 by rw[HN.o];simp,show EI (p.bk++[f])=EI p.bk++[iI (f:Nat)]by unfold EI;rw[ζI];rfl];exact B3 _ _
 ·cases hg;rcases X.1 with h|h
  ·exact .inl (HS.o.2.2 _ (by rw[<-HN.o];exact h))
  ·right;show w.heap.size<=g2;omega
end
def KJ(l:List Nat):List Value:=l.map λx=>.int .u32 (x:Nat)
def CL(pt:List Nat)(k:Nat):List Nat:=(List.range 256).map λi=>pt.getD (256*k+i) 0
def nz(l:List Nat):Nat:=cnt (λi=>l.getD i 0 !=0) l.length
def FK(pt:List Nat)(k:Nat):List Value:=KJ (CL pt k)++[iI (nz (CL pt k):Nat)]
def IG(L:List (Option Nat)):List Value:=L.map λb=>.pointer (b.map λb=>⟨b,0,none⟩)
def C3(n:Nat):Nat:=(n+255)/256
structure J7(pt:List Nat):Prop where
 n1:1<=pt.length
 n2:pt.length<=524288
 lt:∀x∈pt,x<4294967296
structure DE(w:World)(S:Nat->Prop)(q:Nat)(pt:List Nat):Prop where
 ok:J7 pt
 sq:S q
 row:∃g c L,Rec w q 269 [.slice (some ⟨g,0,none⟩) (C3 pt.length) c,iI pt.length,iI (nz pt:Nat)]/\C3 pt.length<=c/\c<=maxLen/\S g ∧
  w.ownsRow 0 355 1 (.slice (some ⟨g,0,none⟩) (C3 pt.length) c) (C3 pt.length) (IG L) ∧
  (∀k,k<C3 pt.length->match L.getD k none with
   | none=>∀i,i<256->pt.getD (256*k+i) 0=0
   | some b=>S b/\Rec w b 358 (FK pt k)) ∧
  (∀k j b,L.getD k none=some b->L.getD j none=some b->k=j)
theorem JB(pt:List Nat)(k:Nat):(CL pt k).length=256:=by simp[CL]
theorem P6(pt:List Nat)(k:Nat)(h:i<256):(CL pt k).getD i 0=pt.getD (256*k+i) 0:=by simp[CL,h]
theorem QvL(pt:List Nat)(k:Nat)(h:i<256):(FK pt k)[i]?=some (.int .u32 (pt.getD (256*k+i) 0:Nat)):=by
 unfold FK KJ;rw[ζX (by simp[JB,h])];simp[CL,h]
theorem XMj(pt:List Nat)(k:Nat):(FK pt k)[256]?=some (iI (nz (CL pt k):Nat)):=by
 unfold FK KJ;simp[JB]
theorem DE.touch{T:Nat->Prop}(h:DE w S q pt)(t:AB T w w')(hS:∀k,S k->k<w.heap.size->¬T k):DE w' S q pt:=by
 obtain⟨ok,sq,g,c,L,hr,h1,h2,sg,ho,ht,hd⟩:=h;refine⟨ok,sq,g,c,L,hr.touch t (hS q sq hr.lt),h1,h2,sg,AX ho t (λb hb=>by cases hb;exact hS g sg (A9 ho rfl).2),λk hk=>?_,hd⟩;have:=ht k hk;cases hl:L.getD k none with
 | none=>grind
 | some b=>rw[hl]at this;exact⟨this.1,this.2.touch t (hS b this.1 this.2.lt)⟩
theorem DE.gr(h:DE w S q pt)(t:Gr w w'):DE w' S q pt:=h.touch (t.touch (λ_=>False)) (λ_ _ _ h=>h)
theorem DE.mono{T:Nat->Prop}(h:DE w S q pt)(hT:∀k,S k->T k):DE w T q pt:=by
 obtain⟨ok,sq,g,c,L,hr,h1,h2,sg,ho,ht,hd⟩:=h;refine⟨ok,hT _ sq,g,c,L,hr,h1,h2,hT _ sg,ho,λk hk=>?_,hd⟩
 grind
theorem ZJ(h:n<=524288):C3 n<=2048:=by unfold C3;omega
theorem JOV(h:p<n):p/256<C3 n:=by unfold C3;omega
theorem Q39{L:List (Option Nat)}(h:k<L.length):(IG L)[k]?=some (.pointer ((L.getD k none).map λb=>⟨b,0,none⟩)):=by
 simp[IG,h]
theorem QR1(hM:DE w S q pt)(hp:p<pt.length):cQ 283 #[pP q,iI p] w (.int .u32 (pt.getD p 0:Nat)):=by
 obtain⟨ok,sq,g,c,L,hr,h1,h2,sg,ho,ht,hd⟩:=hM;have hn:=ZJ ok.n2;have hk:=JOV hp;have hLl:L.length=C3 pt.length:=by have:=ho.1;simp[IG]at this;exact this
 have c0:=hr.cc 0;have k0:=BU ho (Q39 (L:=L) (k:=p/256) Ω);have hh:=ht _ hk;obtain⟨k,Y⟩:=ε (p/256);obtain⟨i,Z⟩:=ε (p%256);have X:256*k+i=p:=Ω
 have hi:i<256:=Ω
 have e1:(p:Int)/256=(k:Int):=Ω
 have e2:(p:Int)%256=(i:Int):=Ω
 rw[<-Y]at k0 hk hh;have hpb:(p:Int)<=524288:=Ω
 cases hl:L.getD k none with
 | none=>
  rw[hl]at hh k0;have E:=(hh i hi);rw[X]at E;rw[E];clear hr ho ht hh hd Z Y X hl;go_enter func283,ntmps283;go_wp2;go_ret;exact⟨rfl,rfl⟩
 | some b=>
  rw[hl]at hh k0;have k1:=hh.2.cell (QvL pt k hi);rw[X]at k1;generalize pt.getD p 0=x at k1⊢;clear hr ho ht hh hd Z Y X hl;go_enter func283,ntmps283;go_wp2;go_ret;exact⟨rfl,rfl⟩
def pgE(pt:List Nat)(p:Int):Int:=if 0<=p/\p<pt.length then 0 else 11
def OP(pt:List Nat)(l:List Int):Int:=if l.all (λp=>decide (pgE pt p=0))then 0 else 11
theorem Z7Q(pt:List Nat)(p:Int):(decide (p<0)=true/\pgE pt p=11)\/(decide (p<0)=false/\decide ((pt.length:Int)<=p)=true/\pgE pt p=11)\/(decide (p<0)=false/\decide ((pt.length:Int)<=p)=false/\pgE pt p=0):=by
 by_cases h0:p<0
 ·exact .inl ⟨φ h0,ψ Ω⟩
 ·by_cases h1:(pt.length:Int)<=p
  ·exact .inr (.inl ⟨ζ h0,φ h1,ψ Ω⟩)
  ·exact .inr (.inr ⟨ζ h0,ζ h1,θ Ω⟩)
theorem QP1{l:List Int}(h:∀i,i<l.length->pgE pt (l.getD i 0)=0):OP pt l=0:=by
 unfold OP;rw[θ];rw[ζ1];intro x hx;obtain⟨i,hi,rfl⟩:=List.mem_iff_getElem.1 hx
 simp_all
theorem YU3{l:List Int}(hi:i<l.length)(h:pgE pt (l.getD i 0)=11):OP pt l=11:=by
 unfold OP
 grind
theorem XaF(hM:DE w S q pt){b:Nat}{l:List Int}(hn:l.length=n)(hn2:n<=2)(hc:∀i,i<n->w.cell? ⟨b,i,none⟩=some (iI (l.getD i 0))):cQ 282 #[pP q,.slice (some ⟨b,0,none⟩) n n] w (iI (OP pt l)):=by
 obtain⟨ok,sq,g,c,L,hr,-⟩:=hM;have c1:=hr.cc 1;have HC:=hc;clear hr hc;go_enter func282,ntmps282;go_wp2
 go_loop [11] (λi=>∃k:Nat,k<=n/\i=iI k/\Hid (∀i,i<k->pgE pt (l.getD i 0)=0)) (λi=>n-(intOf i).toNat)
 case atStart=>exact⟨0,by omega,rfl,⟨λi h=>by omega⟩⟩
 case round=>
  obtain⟨k,hk,rfl,Y⟩:=hrel;by_cases Z:k<n
  ·have X:=HC k Z;have hq:=Z7Q pt (l.getD k 0);have H1:=ι (λh=>YU3 (pt:=pt) (l:=l) (i:=k) Ω h)
   have H2:Hid (pgE pt (l.getD k 0)=0->∀i,i<k+1->pgE pt (l.getD i 0)=0):=⟨λh i hi=>by
    by_cases e:i=k
    ·subst e;exact h
    ·exact Y.o i Ω⟩
   generalize l.getD k 0=p at X hq H1 H2;clear Y HC hn;rcases hq with⟨d0,E⟩|⟨d0,d1,E⟩|⟨d0,d1,E⟩
   ·have E:=ι E;go_wp2;go_ret;exact⟨AU (by rw[H1.o E.o]),rfl⟩
   ·have E:=ι E;go_wp2;go_ret;exact⟨AU (by rw[H1.o E.o]),rfl⟩
   ·have E:=ι E;go_wp2;go_round
    case rel=>exact⟨k+1,by omega,by go_num,⟨H2.o E.o⟩⟩
    case measure=>simp[intOf];omega
  ·obtain rfl:k=n:=Ω
   have E:=ι (QP1 (pt:=pt) (l:=l) (by rw[hn];exact Y.o));go_wp2;go_ret;exact⟨AU (by rw[E.o]),rfl⟩
theorem VT9:(zeroCells358).toList=KJ (List.replicate 256 0)++[iI 0]:=by kernel_rfl
theorem TF(l:List Nat):nz l=cnt (at_ (l.map λx=>x !=0)) l.length:=by
 refine C2 λi hi=>?_;simp[at_,hi]
theorem Q0(hi:i<l.length)(h:l.getD i 0=0)(hx:x≠0):nz (l.set i x)=nz l+1:=by
 have hm:(l.map λx=>x !=0).length=l.length:=ζE _;rw[TF,TF,ζa,ξX,<-hm];have:(x !=0)=true:=by simp[hx]
 rw[this];refine KM Ω ?_;rw[κ,τ hi]at h;simp[at_,hi];simpa using h
theorem X0(hi:i<l.length)(h:l.getD i 0≠0):nz (l.set i 0)+1=nz l:=by
 have hm:(l.map λx=>x !=0).length=l.length:=ζE _;rw[TF,TF,ζa,ξX,<-hm];refine V4E Ω ?_;rw[κ,τ hi]at h;simp[at_,hi];simpa using h
theorem Z2A(h:nz l=0)(hi:i<l.length):l.getD i 0=0:=by
 have:=XK h i hi
 simp_all
theorem OI(l:List Nat):nz l<=l.length:=EY _ _
theorem JiO(hp:256*k+i<pt.length):CL (pt.set (256*k+i) x) k=(CL pt k).set i x:=by
 apply ξA
 ·simp[CL]
 ·intro j h1 h2;simp only[CL,List.getElem_map,List.getElem_range,List.getElem_set,κ,ψE]
  grind
theorem QhQ(hi:i<256)(hj:j≠k):CL (pt.set (256*k+i) x) j=CL pt j:=by
 apply ξA
 ·simp[CL]
 ·intro y h1 h2;have hy:y<256:=by simpa[CL]using h1
  simp only[CL,List.getElem_map,List.getElem_range,κ,ψE]
  grind
theorem VXI{t:Nat}(hp:256*k+i<pt.length)(hi:i<256)(ht:nz ((CL pt k).set i x)=t):
  FK (pt.set (256*k+i) x) k=((FK pt k).set i (.int .u32 x)).set 256 (iI t):=by
 unfold FK;rw[JiO hp,ht];have hl:(KJ (CL pt k)).length=256:=by simp[KJ,JB]
 rw[List.set_append_left _ _ Ω,ψQ _ _ (by simp[hl])];simp[KJ,JB]
theorem JQh(hi:i<256)(hj:j≠k):FK (pt.set (256*k+i) x) j=FK pt j:=by
 unfold FK;rw[QhQ hi hj]
theorem XyQ{c:Nat}(c0:w.cell? ⟨q,0,none⟩=some (.slice (some ⟨g,0,none⟩) n c))(c2:w.cell? ⟨q,2,none⟩=some (iI m))
  (f2:w.frozen? ⟨q,2,none⟩=false) (cg:w.cell? ⟨g,k,none⟩=some (.pointer none)) (fg:w.frozen? ⟨g,k,none⟩=false) (hqg:q≠g) (hq:q<w.heap.size) (hg:g<w.heap.size)
  (hk:k<n) (hn:n<=2048) (hi:i<256) (hm:m<=524288)  (hx:x≠0)  (hp:p=256*k+i):Calls prog 249 #[pP q,iI p,.int .u32 x] w λe w'=>e=.returned (.tuple #[]) ∧
   w'=((w.setCell ⟨g,k,none⟩ (.pointer (some ⟨w.heap.size,0,none⟩))).setCell ⟨q,2,none⟩ (.int .i64 (m+1))).alloc
   (Obj.cells ((zeroCells358.setIfInBounds i (.int .u32 x)).setIfInBounds 256 (iI 1)) 358):=by
 have e1:(p:Int)/256=(k:Int):=Ω
 have e2:(p:Int)%256=(i:Int):=Ω
 have b1:(p:Int)<=524288:=Ω
 have hkI:(k:Int)<(n:Int):=Ω
 have hiI:(i:Int)<256:=Ω
 have d0:((x:Int)==0)=false:=by simp_all
 have hz:∀h,(zeroCells358.setIfInBounds i (.int .u32 x))[256]'h=iI 0:=by
  intro h;rw[Array.getElem_setIfInBounds_ne _ Ω];have hl:(zeroCells358).toList.length=257:=by simp_all
  rw[<-Array.getElem_toList]
  ·grind [VT9,ζ5,τ,Option.some.inj]
  simp_all
 clear hp;go_in;go_wp2
 go_end0
 simp_all
def QI(w:World)(b i x t' q m' g k:Nat):World:=
 if t'=0 then (((w.setCell ⟨b,i,none⟩ (.int .u32 x)).setCell ⟨b,256,none⟩ (.int .i64 t')).setCell ⟨q,2,none⟩ (.int .i64 m')).setCell ⟨g,k,none⟩ (.pointer none)
 else ((w.setCell ⟨b,i,none⟩ (.int .u32 x)).setCell ⟨b,256,none⟩ (.int .i64 t')).setCell ⟨q,2,none⟩ (.int .i64 m')
theorem YAa{c b:Nat}{t t' m':Nat}{y:Value}(c0:w.cell? ⟨q,0,none⟩=some (.slice (some ⟨g,0,none⟩) n c))(c2:w.cell? ⟨q,2,none⟩=some (iI m))
  (f2:w.frozen? ⟨q,2,none⟩=false) (cg:w.cell? ⟨g,k,none⟩=some (pP b)) (fg:w.frozen? ⟨g,k,none⟩=false)
  (cb:w.cell? ⟨b,i,none⟩=some y) (cn:w.cell? ⟨b,256,none⟩=some (iI t)) (fi:w.frozen? ⟨b,i,none⟩=false) (fn:w.frozen? ⟨b,256,none⟩=false)
  (hqg:q≠g) (hbg:b≠g) (hbq:b≠q) (hk:k<n) (hn:n<=2048) (hi:i<256) (hm:m<=524288) (hm':m'<=524288) (ht:t<=256) (ht':t'<=256)  (hx:x<4294967296)
  (hby:if x=0 then t' + 1=t/\m' + 1=m else t'=t+1/\m'=m+1)  (hp:p=256*k+i):Calls prog 249 #[pP q,iI p,.int .u32 x] w λe w'=>e=.returned (.tuple #[]) ∧
   w'=QI w b i x t' q m' g k:=by
 have e1:(p:Int)/256=(k:Int):=Ω
 have e2:(p:Int)%256=(i:Int):=Ω
 have b1:(p:Int)<=524288:=Ω
 have hkI:(k:Int)<(n:Int):=Ω
 have hiI:(i:Int)<256:=Ω
 have hi6:¬i=256:=Ω
 clear hp;by_cases h0:x=0
 ·rw[θ h0]at hby;subst h0;obtain⟨rfl,rfl⟩:=hby;have a1:(t':Int)+1 + -1=(t':Int):=Ω
  have a2:(m':Int)+1 + -1=(m':Int):=Ω
  by_cases h1:t'=0
  ·subst h1;have E:QI w b i 0 0 q m' g k=_:=θ rfl;rw[E];go_in;go_wp2
   go_end0
   simp_all
  ·have E:QI w b i 0 t' q m' g k=_:=ψ h1;rw[E];go_in;go_wp2
   go_end0
   simp_all
 ·rw[ψ h0]at hby;obtain⟨rfl,rfl⟩:=hby;have d0:((x:Int)==0)=false:=by simp_all
  have E:QI w b i x (t+1) q (m+1) g k=_:=ψ Ω;rw[E];go_in;go_wp2
  go_end0
  simp_all
theorem QON{ys:List Value}(h:Rec w q T xs)(e:xs=ys):Rec w q T ys:=e▸h
theorem J7.set(h:J7 pt)(p:Nat)(hx:x<4294967296):J7 (pt.set p x):=
 ⟨by rw[ζa];exact h.n1,by rw[ζa];exact h.n2,λy hy=>by
  rcases ζL hy with h'|h'
  ·exact h.lt y h'
  omega⟩
theorem FB(hp:p<l.length)(j:Nat):(l.set p x).getD j 0=if p=j then x else l.getD j 0:=by
 grind
theorem RX{l:List (Option Nat)}{x:Option Nat}(hp:p<l.length)(j:Nat):(l.set p x).getD j none=if p=j then x else l.getD j none:=by
 grind
theorem Jna(L:List (Option Nat))(k:Nat)(b:Option Nat):IG (L.set k b)=(IG L).set k (.pointer (b.map λb=>⟨b,0,none⟩)):=by
 unfold IG;simp_all
theorem ZXw(hl:l.length=n)(h:∀i,i<n->l.getD i 0=0):l=List.replicate n 0:=by
 grind [ξA,ζU,τ]
theorem UC(n:Nat):nz (List.replicate n 0)=0:=by
 refine IM λi hi=>?_
 simp_all
theorem Y8u(h:∀i,i<256->pt.getD (256*k+i) 0=0):FK pt k=KJ (List.replicate 256 0)++[iI 0]:=by
 unfold FK
 grind [ZXw,JB,P6,UC]
def YR(w:World)(S:Nat->Prop)(q:Nat)(pt:List Nat)(p x:Nat)(w':World):Prop:=AB S w w'/\DE w' (plus S w) q (pt.set p x)
theorem QkK(hM:DE w S q pt)(hp:p<pt.length)(hx:x<4294967296)(hxx:if x=0 then pt.getD p 0≠0 else pt.getD p 0=0):Calls prog 249 #[pP q,iI p,.int .u32 x] w λe w'=>e=.returned (.tuple #[])/\YR w S q pt p x w':=by
 obtain⟨ok,sq,g,c,L,hr,h1,h2,sg,ho,ht,hd⟩:=hM;have hn:=ZJ ok.n2;have hk:=JOV hp;have hLl:L.length=C3 pt.length:=by have:=ho.1;simp[IG]at this;exact this
 obtain⟨k,Xg⟩:=ε (p/256);obtain⟨i,hii⟩:=ε (p%256);have Y:p=256*k+i:=Ω
 have hi:i<256:=Ω
 rw[<-Xg]at hk;have U:k<L.length:=Ω
 have cg:=BU ho (Q39 U);have fg:=GG ho k;have c0:=hr.cc 0;have c2:=hr.cc 2;have f2:=hr.free 2;have V:q≠g:=AG hr ho (by decide) rfl rfl;have Xa:g≠q:=λe=>V e.symm;have hnz:=OI pt;have hn2:=ok.n2;have Xl:=hr.lt;have Xk:=(A9 ho rfl).2;have O:=ok.set p hx;have X:(pt.set p x).length=pt.length:=ζa;have hh:=ht k hk;cases hl:L.getD k none with
 | none=>
  rw[hl]at hh cg;have h0:pt.getD p 0=0:=by rw[Y];exact hh i hi
  have A:x≠0:=by
   intro e;subst e;rw[θ rfl]at hxx;exact hxx h0
  refine(XyQ c0 c2 f2 cg fg V Xl Xk hk hn hi Ω A Y).mono ?_;rintro e w' ⟨rfl,rfl⟩;refine⟨rfl,((AB.refl S w).setCell (a:=⟨g,k,none⟩) (λ_=>sg) _ |>.setCell (a:=⟨q,2,none⟩) (λ_=>sq) _).alloc _,O,.inl sq,g,c,L.set k (some w.heap.size),?_,by rw[X];exact h1,h2,.inl sg,?_,λj hj=>?_,λa b y ha hb=>?_⟩
  ·have r1:=(AW (q:=g) (j:=k) hr (pP w.heap.size) (λy hy=>by cases hy;exact V));have r2:Rec _ _ _ _:=Rec.set (q:=q) r1 2 (iI ((nz pt:Nat)+1));refine QON (r2.gr ((Gr.refl _).alloc _)) ?_;rw[Q0 hp h0 A,X];rfl
  ·rw[X,Jna];exact CF (AW (World.ownsRow.stored ho k _).1 _ (λy hy=>by cases hy;exact Xa)) ((Gr.refl _).alloc _)
  ·rw[X]at hj;rw[RX U];by_cases e:k=j
   ·subst e;rw[θ rfl];refine⟨.inr (μ _),?_⟩
    have hs:∀(W:World) (Z:Array Value) (xs:List Value) (N:Nat),W.heap.size=N->Z.toList=xs->Rec (W.alloc (.cells Z 358)) N 358 xs:=by
     rintro W Z xs N rfl rfl;exact Rec.new W _ _
    refine hs _ _ _ _ (by simp) ?_;rw[Array.toList_setIfInBounds,Array.toList_setIfInBounds,VT9,Y,VXI Ω hi rfl]
    have:nz ((CL pt k).set i x)=1:=by
     rw[Q0 (by rw[JB];exact hi) (by rw[P6 _ _ hi];exact hh i hi) A,ZXw (JB pt k) (λy hy=>by rw[P6 _ _ hy];exact hh y hy),UC]
    rw[this,Y8u hh];rfl
   ·rw[ψ e];have J:=ht j hj;cases hl':L.getD j none with
    | none=>
     rw[hl']at J;intro y hy;rw[FB hp,ψ Ω];exact J y hy
    | some b=>
     rw[hl']at J;refine⟨.inl J.1,?_⟩;rw[Y,JQh hi (λh=>e h.symm)];have I:b≠g:=AG J.2 ho (by decide) rfl rfl;have M:b≠q:=AG J.2 hr (by decide) rfl rfl;have r1:=AW (q:=g) (j:=k) J.2 (pP w.heap.size) (λy hy=>by cases hy;exact I);exact Rec.gr (AW r1 _ (λy hy=>by cases hy;exact M)) ((Gr.refl _).alloc _)
  ·rw[RX U]at ha hb
   have B:∀j,L.getD j none≠some w.heap.size:=λj hj=>by
    by_cases Xj:j<C3 pt.length
    ·have:=ht j Xj;rw[hj]at this;exact absurd this.2.lt (ξb _)
    ·rw[κ,ζz Ω]at hj;cases hj
   by_cases e1:k=a <;> by_cases e2:k=b
   ·rw[<-e1,e2]
   ·rw[θ e1]at ha;rw[ψ e2]at hb;cases ha;exact absurd hb (B b)
   ·rw[ψ e1]at ha;rw[θ e2]at hb;cases hb;exact absurd ha (B a)
   ·rw[ψ e1]at ha;rw[ψ e2]at hb;exact hd _ _ _ ha hb
 | some b=>
  rw[hl]at hh cg;obtain⟨sb,hb⟩:=hh;have I:b≠g:=AG hb ho (by decide) rfl rfl;have Xe:g≠b:=λe=>I e.symm;have M:b≠q:=AG hb hr (by decide) rfl rfl;have Xc:q≠b:=λe=>M e.symm;have cb:=hb.cell (QvL pt k hi);have cn:=hb.cell (XMj pt k);have Xd:i<(CL pt k).length:=by rw[JB];exact hi
  have E:(CL pt k).getD i 0=pt.getD p 0:=by rw[P6 _ _ hi,Y]
  have Xi:if x=0 then nz ((CL pt k).set i x)+1=nz (CL pt k)/\nz (pt.set p x)+1=nz pt else nz ((CL pt k).set i x)=nz (CL pt k)+1/\nz (pt.set p x)=nz pt+1:=by
   by_cases e:x=0
   ·rw[θ e]at hxx⊢;subst e;exact⟨X0 Xd (by rw[E];exact hxx),X0 hp hxx⟩
   ·rw[ψ e]at hxx⊢;exact⟨Q0 Xd (by rw[E];exact hxx) e,Q0 hp hxx e⟩
  have l1:=OI (CL pt k);have l2:=OI ((CL pt k).set i x);rw[ζa]at l2;rw[JB]at l1 l2;have l3:=OI (pt.set p x);rw[X]at l3;refine(YAa c0 c2 f2 cg fg cb cn (hb.free i) (hb.free 256) V I M hk hn hi Ω (m':=nz (pt.set p x)) Ω l1 l2 hx Xi Y).mono ?_;rintro e w' ⟨rfl,rfl⟩;obtain⟨t',G⟩:=ε (nz ((CL pt k).set i x));rw[<-G];have D:=VXI (pt:=pt) (k:=k) (i:=i) (x:=x) (t:=t') Ω hi G.symm;rw[<-Y]at D
  -- the world behind the first three stores
  obtain⟨W,hW⟩:=ε (((w.setCell ⟨b,i,none⟩ (.int .u32 x)).setCell ⟨b,256,none⟩ (.int .i64 t')).setCell ⟨q,2,none⟩ (.int .i64 (nz (pt.set p x):Nat)));have TW:AB S w W:=by rw[hW];exact((AB.refl S w).setCell (a:=⟨b,i,none⟩) (λ_=>sb) _ |>.setCell (a:=⟨b,256,none⟩) (λ_=>sb) _).setCell (a:=⟨q,2,none⟩) (λ_=>sq) _
  have RQ:Rec W q 269 [.slice (some ⟨g,0,none⟩) (C3 pt.length) c,iI pt.length,iI (nz (pt.set p x):Nat)]:=by
   rw[hW];have r1:=AW (q:=b) (j:=i) hr (.int .u32 x) (λy hy=>by cases hy;exact Xc);have r2:=AW (q:=b) (j:=256) r1 (iI t') (λy hy=>by cases hy;exact Xc);exact Rec.set r2 2 _
  have RG:W.ownsRow 0 355 1 (.slice (some ⟨g,0,none⟩) (C3 pt.length) c) (C3 pt.length) (IG L):=by
   rw[hW];exact AW (AW (AW ho _ (λy hy=>by cases hy;exact Xe)) _ (λy hy=>by cases hy;exact Xe)) _ (λy hy=>by cases hy;exact Xa)
  have RB:Rec W b 358 (FK (pt.set p x) k):=by
   rw[hW,D];exact AW (Rec.set (Rec.set hb i _) 256 _) _ (λy hy=>by cases hy;exact M)
  have RO:∀j y,j≠k->j<C3 pt.length->L.getD j none=some y->S y/\Rec W y 358 (FK (pt.set p x) j):=λj y hj hj2 hy=>by
   have:=ht j hj2;rw[hy]at this;refine⟨this.1,?_⟩;rw[Y,JQh hi hj,hW];have Xb:y≠b:=λe=>hj (hd _ _ _ (by rw[e]at hy;exact hy) hl);have Xf:y≠q:=AG this.2 hr (by decide) rfl rfl;exact AW (AW (AW this.2 _ (λz hz=>by cases hz;exact Xb)) _ (λz hz=>by cases hz;exact Xb)) _ (λz hz=>by cases hz;exact Xf)
  have RN:∀j,j≠k->j<C3 pt.length->L.getD j none=none->∀y,y<256->(pt.set p x).getD (256*j+y) 0=0:=λj hj hj2 hy y hy2=>by
   have:=ht j hj2;rw[hy]at this;rw[FB hp,ψ Ω];exact this y hy2
  unfold QI;by_cases h0:t'=0
  ·rw[θ h0,<-hW];refine⟨rfl,TW.setCell (a:=⟨g,k,none⟩) (λ_=>sg) _,O,.inl sq,g,c,L.set k none,?_,by rw[X];exact h1,h2,.inl sg,?_,λj hj=>?_,λa y z ha hz=>?_⟩
   ·rw[X];exact AW RQ _ (λy hy=>by cases hy;exact V)
   ·rw[X,Jna];exact(World.ownsRow.stored RG k _).1
   ·rw[X]at hj;rw[RX U];by_cases e:k=j
    ·subst e;rw[θ rfl];intro y hy;have:=Z2A (l:=(CL pt k).set i x) (by rw[<-G];exact h0) (i:=y) (by rw[ζa,JB];exact hy);rw[<-JiO Ω,P6 _ _ hy,<-Y]at this;exact this
    ·rw[ψ e];cases hl':L.getD j none with
     | none=>exact RN j (λh=>e h.symm) hj hl'
     | some y=>
      have:=RO j y (λh=>e h.symm) hj hl';have Xh:y≠g:=AG this.2 RG (by decide) rfl rfl;exact⟨.inl this.1,AW this.2 _ (λz hz=>by cases hz;exact Xh)⟩
   ·rw[RX U]at ha hz;by_cases e1:k=a
    ·rw[θ e1]at ha;cases ha
    ·by_cases e2:k=y
     ·rw[θ e2]at hz;cases hz
     ·rw[ψ e1]at ha;rw[ψ e2]at hz;exact hd _ _ _ ha hz
  ·rw[ψ h0,<-hW];refine⟨rfl,TW,O,.inl sq,g,c,L,?_,by rw[X];exact h1,h2,.inl sg,?_,λj hj=>?_,hd⟩
   ·rw[X];exact RQ
   ·rw[X];exact RG
   ·rw[X]at hj;by_cases e:k=j
    ·subst e;rw[hl];exact⟨.inl sb,RB⟩
    ·cases hl':L.getD j none with
     | none=>exact RN j (λh=>e h.symm) hj hl'
     | some y=>
      have:=RO j y (λh=>e h.symm) hj hl';exact⟨.inl this.1,this.2⟩
def frE(pt:List Nat)(p:Int):Int:=if pgE pt p=0 then (if pt.getD p.toNat 0=0 then 12 else 0)else 11
def frV(pt:List Nat)(p:Int):Int:=if frE pt p=0 then (pt.getD p.toNat 0:Nat)-1 else 0
theorem UP(hM:DE w S q pt){b:Nat}{p:Int}(hc:w.cell? ⟨b,0,none⟩=some (iI p)):cQ 282 #[pP q,.slice (some ⟨b,0,none⟩) 1 1] w (iI (pgE pt p)):=by
 have:=XaF hM (b:=b) (n:=1) (l:=[p]) rfl Ω (λi hi=>by
  simp_all)
 refine Qa this λw' rfl=>?_;refine⟨AU ?_,rfl⟩;unfold OP;rcases Z7Q pt p with h|h|h
 ·simp[h.2]
 ·simp[h.2.2]
 simp_all
theorem RZ{p:Int}(h:pgE pt p=0):∃j:Nat,p=j/\j<pt.length:=by
 unfold pgE at h
 split at h
 ·exact⟨p.toNat,by omega,by omega⟩
 ·cases h
theorem XAh(pt:List Nat)(p:Int):pgE pt p=0\/pgE pt p=11:=by unfold pgE;omega
theorem L5(hM:DE w S q pt)(p:Int):Calls prog 245 #[pP q,iI p] w λe w'=>e=.returned (.tuple #[iI (frV pt p),iI (frE pt p)])/\Gr w w':=by
 have HM:=hM;rcases XAh pt p with h0|h0
 ·obtain⟨j,rfl,hj⟩:=RZ h0
  have hl:pt.getD j 0<4294967296:=by
   rw[κ,τ hj];exact hM.ok.lt _ (χ hj)
  have HV:Hid (frE pt j=if pt.getD j 0=0 then 12 else 0):=⟨by unfold frE;simp_all⟩;have HF:Hid (frV pt j=if frE pt j=0 then ((pt.getD j 0:Nat):Int)-1 else 0):=⟨by unfold frV;simp_all⟩;have HG:=(λ(w':World) (h:Gr w w')=>QR1 (hM.gr h) hj);have H0:=h0;generalize pt.getD j 0=x at HV HF HG hl;by_cases hx:x=0
  ·subst hx;have E1:=HV.o;rw[θ rfl]at E1;have E2:=HF.o;rw[E1,ψ (by decide)]at E2;have HE:=(ξ E1 E2);go_in
   go_wp2_with(first|(go_at_call 282;refine(UP (HM.gr ((Gr.refl w).alloc _)) (p:=j) (ζw _ _ _ 0 rfl)).mono ?_;rintro e w1 ⟨rfl,rfl⟩;rw[H0])|(go_at_call 283;refine(HG _ ((Gr.refl w).alloc _)).mono ?_;rintro e w1 ⟨rfl,rfl⟩))
   go_ret2;exact⟨BT (BR (by rw[HE.2])) (BR (by rw[HE.1])),(Gr.refl w).alloc _⟩
  ·have E1:=HV.o;rw[ψ hx]at E1;have E2:=HF.o;rw[E1,θ rfl]at E2;have HE:=(ξ E1 E2);have d0:((x:Int)==0)=false:=by simp_all
   go_in
   go_wp2_with(first|(go_at_call 282;refine(UP (HM.gr ((Gr.refl w).alloc _)) (p:=j) (ζw _ _ _ 0 rfl)).mono ?_;rintro e w1 ⟨rfl,rfl⟩;rw[H0])|(go_at_call 283;refine(HG _ ((Gr.refl w).alloc _)).mono ?_;rintro e w1 ⟨rfl,rfl⟩))
   go_ret2;exact⟨BT (BR (by rw[HE.2])) (BR (by rw[HE.1])),(Gr.refl w).alloc _⟩
 ·have E1:frE pt p=11:=by unfold frE;omega
  have E2:frV pt p=0:=by unfold frV;omega
  have HE:=(ξ E1 E2);have H0:=h0;go_in;go_wp2_with(go_at_call 282;refine(UP (HM.gr ((Gr.refl w).alloc _)) (p:=p) (ζw _ _ _ 0 rfl)).mono ?_;rintro e w1 ⟨rfl,rfl⟩;rw[H0]);go_ret2;exact⟨BT (BR (by rw[HE.2])) (BR (by rw[HE.1])),(Gr.refl w).alloc _⟩
theorem YTd(hM:DE w S q pt)(hp:p<pt.length)(h0:pt.getD p 0=0)(hf:f<4096):Calls prog 247 #[pP q,iI p,iI f] w λe w'=>e=.returned (iI 0)/\YR w S q pt p (f+1) w':=by
 have HM:=hM;have HI:Hid (pgE pt p=0):=⟨by unfold pgE;rw[θ ⟨by omega,by omega⟩]⟩;have HG:=(λ(w':World) (h:Gr w w')=>QR1 (hM.gr h) hp);have HS:=(λ(w':World) (h:Gr w w')=>QkK (hM.gr h) (x:=f+1) hp Ω (by exact h0));rw[h0]at HG;go_in
 go_wp2_with(first|(go_at_call 282;refine(UP (HM.gr ((Gr.refl w).alloc _)) (p:=p) (ζw _ _ _ 0 rfl)).mono ?_;rintro e w1 ⟨rfl,rfl⟩;rw[HI.o])|(go_at_call 283;refine(HG _ ((Gr.refl w).alloc _)).mono ?_;rintro e w1 ⟨rfl,rfl⟩)|(go_at_call 249;refine(HS _ ((Gr.refl w).alloc _)).mono ?_;rintro e w1 ⟨rfl,X⟩;have HE:=X))
 go_ret;obtain⟨t1,t2⟩:=HE;exact⟨rfl,(((Gr.refl w).alloc _).touch S).trans t1,t2.mono (λk hk=>hk.imp id (λh=>ω ((Gr.refl w).alloc _).size h))⟩
def QcT(w:World)(S:Nat->Prop)(q:Nat)(pt:List Nat)(p:Int)(w':World):Prop:=(frE pt p≠0/\Gr w w')\/(frE pt p=0/\YR w S q pt p.toNat 0 w')
theorem OY{p:Int}(h:frE pt p=0):∃j:Nat,p=j/\j<pt.length/\pt.getD j 0≠0:=by
 unfold frE at h
 grind [RZ]
theorem XlB(pt:List Nat)(p:Int):0<=frE pt p/\frE pt p<=12:=by unfold frE;omega
theorem Yzj(hM:DE w S q pt)(p:Int):Calls prog 195 #[pP q,iI p] w λe w'=>e=.returned (.tuple #[iI (frV pt p),iI (frE pt p)])/\QcT w S q pt p w':=by
 have HM:=hM;by_cases h0:frE pt p=0
 ·have HZ:=h0;obtain⟨j,rfl,hj,hx⟩:=OY h0;have HS:=(λ(w':World) (h:Gr w w')=>QkK (hM.gr h) (x:=0) hj Ω (by exact hx));go_in
  go_wp2_with(first|(go_at_call 245;refine Qa (L5 HM j) λw1 Y=>?_;have X:=Y)|(go_at_call 249;refine Qa (HS _ X) λw2 HE=>?_))
  go_ret2;obtain⟨t1,t2⟩:=HE;refine⟨BT rfl (BR (by rw[HZ])),.inr ⟨HZ,(X.touch S).trans t1,?_⟩⟩;exact t2.mono (λk hk=>hk.imp id (λh=>ω X.size h))
 ·have HZ:=h0;have hr:=XlB pt p;obtain⟨x,hx⟩:=ε (frE pt p);have HX:=ι hx;rw[<-hx]at h0 hr;have d0:(x==0)=false:=by simpa using h0
  clear hM hx;go_in;go_wp2_with(go_at_call 245;refine Qa (L5 HM p) λw1 Y=>?_;rw[<-HX.o];have X:=Y);go_ret2;exact⟨BT rfl (BR (by rw[HX.o])),.inl ⟨HZ,X⟩⟩
theorem J7.new(h1:1<=n)(h2:n<=524288):J7 (List.replicate n 0):=
 ⟨by simp_all,by simp_all,λx hx=>by simp_all⟩
theorem PQ(n i:Nat):(List.replicate n 0).getD i 0=0:=by
 grind
theorem Qr3:(prog.info? 355).map (λi=>(i.zero,i.size,i.bytes))=some (some (.pointer none),1,8):=by kernel_rfl
theorem JxF(n:Nat):(madeCells #[.pointer none] n).toList=IG (List.replicate n none):=by
 unfold madeCells IG;apply ξA
 ·simp
 grind
theorem M4(h:w.ownsRow base E size v n xs):w.ownsRow 0 E size v n xs:=by
 obtain⟨h1,h|⟨g,c,X,e1,e2,h⟩⟩:=h
 ·exact⟨h1,.inl h⟩
 ·exact⟨h1,.inr ⟨g,c,X,e1,ζe _,h⟩⟩
theorem J3k(h1:1<=n)(h2:n<=524288):Calls prog 119 #[iI n] w λe w'=>∃q,e=.returned (.tuple #[pP q,iI 0])/\Gr w w'/\DE w' (λk=>w.heap.size<=k) q (List.replicate n 0):=by
 obtain⟨i0,hi,Z,J,hz2⟩:=info_parts Qr3;have e1:((n:Int)+256-1)/256=(C3 n:Int):=by unfold C3;omega
 have b0:C3 n<=2048:=ZJ h2;have HB:Hid (i0.bytes*C3 n<=281474976710656):=⟨by grind⟩;have HM:Hid (C3 n<=maxLen):=⟨by unfold maxLen;omega⟩;go_in;go_wp2_with(at_make;refine wpList_make_full _ rfl _ _ 267 rfl w.heap.size 355 i0 (.pointer none) 1 underlying267 hi Z J .i64 .i64 _ _ (C3 n) rfl rfl ?h1 ?h2 HB.o HM.o (μ _) ?h3)
 case h1=>omega
 case h2=>omega
 case h3=>
  intro w1 X Y;have U:Gr w w1:=(LL Y (λ_=>False) (λk e _=>by cases e)).gr;have HO:=(M4 X);have HG:=U;go_wp2;go_ret2;have hl:(List.replicate n 0).length=n:=ζU;have X:=HO;rw[JxF]at X;refine⟨_,BT rfl rfl,HG.alloc _,J7.new h1 h2,HG.size,w.heap.size,C3 n,List.replicate (C3 n) none,?_,by simp_all,HM.o,μ _,?_,λk hk=>?_,λk j b hk=>?_⟩
  ·grind [UC,Rec.new]
  ·rw[hl];exact CF X ((Gr.refl _).alloc _)
  ·grind
  grind
end Go.Proofs.YtcihfnpokdbfpaaGreatDoor
