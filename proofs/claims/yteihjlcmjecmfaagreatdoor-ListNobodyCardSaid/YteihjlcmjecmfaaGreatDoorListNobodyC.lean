/- Part 3 of what ListNobody leans on: my own lemmas, merged by shake.py. -/
import Derived.Test.YteihjlcmjecmfaaGreatDoorListNobodyB
import Derived.Shelf.Abstract
import Derived.Shelf.RegionOpen
import Derived.OwnWalkIn
import Derived.TacticsInMore
import Derived.LoopNIn
import Derived.LoopIn
import Derived.Stop.RegionWithIn
import Derived.Sort.CutIn
namespace Go.Proofs.YteihjlcmjecmfaaGreatDoor
open _root_.Go.Proofs.Tryz
set_option maxHeartbeats 3200000
set_option maxRecDepth 100000
section
open Go.RowKit Word
structure Ext(w:World)(m p1 b1 p2 b2 n:Nat)(L:List Ob):Prop where
 good:Q4l n L
 v1:Vec w p1 b1 (VC5 n L)
 v2:Vec w p2 b2 (JsC n L)
 hm:m<w.heap.size
 c0:w.cell? ⟨m,0,none⟩=some (.pointer (some ⟨p1,0,none⟩))
 c1:w.cell? ⟨m,1,none⟩=some (.pointer (some ⟨p2,0,none⟩))
 c2:w.cell? ⟨m,2,none⟩=some (.int .i64 L.length)
 fr:w.frozen? ⟨m,2,none⟩=false
 am:m≠p1/\m≠b1/\m≠p2/\m≠b2
 ab:p1≠b2/\p2≠b1/\b1≠b2
theorem Ext.touch{S:Nat->Prop}{w w':World}{m p1 b1 p2 b2 n:Nat}{L:List Ob}(h:Ext w m p1 b1 p2 b2 n L)(t:XF4 S w w')(h1:¬S m)(h2:¬S p1)(h3:¬S b1)(h4:¬S p2)(h5:¬S b2):Ext w' m p1 b1 p2 b2 n L:=
 ⟨h.good,h.v1.touch t h2 h3,h.v2.touch t h4 h5,ω h.hm t.size,(t.cell h.hm h1 0).trans h.c0,(t.cell h.hm h1 1).trans h.c1,(t.cell h.hm h1 2).trans h.c2,(t.frozen h.hm h1 2).trans h.fr,h.am,h.ab⟩
theorem Ext.gr{w w':World}{m p1 b1 p2 b2 n:Nat}{L:List Ob}(h:Ext w m p1 b1 p2 b2 n L)(t:Gr w w'):Ext w' m p1 b1 p2 b2 n L:=
 h.touch (t.touch (λ_=>False)) (λh=>h) (λh=>h) (λh=>h) (λh=>h) (λh=>h)
theorem Ext.nb{w:World}{m p1 b1 p2 b2 n:Nat}{L:List Ob}(h:Ext w m p1 b1 p2 b2 n L):1<=n/\n<=1048576:=by
 have h1:=h.v1.n1;have h2:=h.v1.n2;rw[JQA]at h1 h2;exact⟨h1,h2⟩
def obS(L:List Ob)(j:Nat):Int:=((L[j]?.getD (0,0)).1:Nat)
def obZ(L:List Ob)(j:Nat):Int:=((L[j]?.getD (0,0)).2:Nat)
theorem YpZ{L:List Ob}{j:Nat}(h:j<L.length):obS L j=(L[j].1:Nat)/\obZ L j=(L[j].2:Nat):=by unfold obS obZ;rw[δ h];exact⟨rfl,rfl⟩
theorem Vq1{L:List Ob}{j:Nat}(h:¬j<L.length):obS L j=0/\obZ L j=0:=by unfold obS obZ;rw[ζf Ω];exact⟨rfl,rfl⟩
def YEC(L:List Ob)(j:Nat):Value:=.tuple #[.int .i64 (obS L j),.int .i64 (obZ L j),.bool (decide (j<L.length))]
theorem VTf{L:List Ob}{j:Nat}(h:j<L.length):YEC L j=.tuple #[.int .i64 (L[j].1:Nat),.int .i64 (L[j].2:Nat),.bool true]:=by unfold YEC;rw[(YpZ h).1,(YpZ h).2,κ h]
theorem Qyx{L:List Ob}{j:Nat}(h:¬j<L.length):YEC L j=.tuple #[.int .i64 0,.int .i64 0,.bool false]:=by unfold YEC;rw[(Vq1 h).1,(Vq1 h).2,ψ h]
section
variable {w:World} {m p1 b1 p2 b2 n:Nat} {L:List Ob}
theorem VaK(hE:Ext w m p1 b1 p2 b2 n L):Calls prog 138 #[.pointer (some ⟨m,0,none⟩)] w λe w'=>e=.returned (.bool false)/\w=w':=by
 have c0:=hE.c0;have HE:=hid hE;clear hE;go_enter func138,ntmps138;go_wp2;go_ret;exact⟨rfl,rfl⟩
theorem VSs(hE:Ext w m p1 b1 p2 b2 n L):Calls prog 94 #[.pointer (some ⟨m,0,none⟩)] w λe w'=>e=.returned (.int .i64 n)/\w=w':=by
 have c0:=hE.c0;have HE:=hid hE;have HL:=hid (JQA n L);clear hE;go_enter func94,ntmps94
 go_wp2_with(first
  | (go_at_call 138;refine(VaK HE.o).mono ?_;rintro e w' ⟨rfl,rfl⟩)
  | (go_at_call 139;refine(JoW HE.o.v1).mono ?_;rintro e w' ⟨rfl,rfl⟩;rw[HL.o]))
 go_ret;exact⟨rfl,rfl⟩
theorem VRE(hE:Ext w m p1 b1 p2 b2 n L)(hT:VRW w){j:Nat}(hj:j<L.length):
  Calls prog 175 #[.pointer (some ⟨m,0,none⟩),.int .i64 (L[j].1:Nat)] w λe w'=>e=.returned (.int .i64 (L[j].2:Nat))/\w=w':=by
 have c1:=hE.c1;have hm:=χ hj;obtain⟨X,Y⟩:=Zox hE.good hm;have hs:=hE.good.sz _ hm;have hb:=hE.nb;obtain⟨s,J⟩:∃s,s=L[j].1:=⟨_,rfl⟩;obtain⟨z,Z⟩:∃z,z=L[j].2:=⟨_,rfl⟩;rw[<-J,<-Z]at X Y hs⊢;rw[<-X]at Y;have HE:=hid hE;have HT:=hid hT;have HV:=hid (ν (Jpj Y) X);have hsb:s+z<=1048576:=Ω
 have hz1:1<=z:=hs.1;clear hE hT X Y J Z hm hj;go_enter func175,ntmps175;go_wp2_with(go_at_call 203;refine(QUF HE.o.v2 HT.o _).mono ?_;rintro e w' ⟨rfl,rfl⟩;rw[HV.o.1,HV.o.2]);go_ret;exact⟨ZzN Ω,rfl⟩
theorem QQo(hE:Ext w m p1 b1 p2 b2 n L)(hT:VRW w)(a:Int):
  Calls prog 168 #[.pointer (some ⟨m,0,none⟩),.int .i64 a] w λe w'=>e=.returned (YEC L (Jxr L a))/\w=w':=by
 have c0:=hE.c0;have HE:=hid hE;have HT:=hid hT;by_cases hj:Jxr L a<L.length
 ·obtain⟨h1,h2⟩:=Jia hE.good hj;rw[VTf hj];have HZ:=hid (VRE hE hT hj);have HV:=hid (ν (Jpj h2) (ν h1 (κ h2)));clear hE hT h1 h2;go_enter func168,ntmps168
  go_wp2_with(first
   | (go_at_call 138;refine(VaK HE.o).mono ?_;rintro e w' ⟨rfl,rfl⟩)
   | (go_at_call 203;refine(QUF HE.o.v1 HT.o _).mono ?_;rintro e w' ⟨rfl,rfl⟩;rw[HV.o.1,HV.o.2.2,HV.o.2.1])
   | (go_at_call 175;refine HZ.o.mono ?_;rintro e w' ⟨rfl,rfl⟩))
  go_ret3
  exact⟨rfl,rfl⟩
 ·have h1:=YTx hE.good hj;rw[Qyx hj];have HV:Hid (JHm (VC5 n L).length (ZnF (VC5 n L) a)=0/\decide (ZnF (VC5 n L) a<(VC5 n L).length)=false):=⟨by rw[h1];exact⟨JEJ Ω,ψ Ω⟩⟩;clear hE hT h1;go_enter func168,ntmps168
  go_wp2_with(first
   | (go_at_call 138;refine(VaK HE.o).mono ?_;rintro e w' ⟨rfl,rfl⟩)
   | (go_at_call 203;refine(QUF HE.o.v1 HT.o _).mono ?_;rintro e w' ⟨rfl,rfl⟩;rw[HV.o.1,HV.o.2]))
  go_ret3
  exact⟨rfl,rfl⟩
theorem Q6S(hE:Ext w m p1 b1 p2 b2 n L)(hT:VRW w)(a:Int):
  Calls prog 189 #[.pointer (some ⟨m,0,none⟩),.int .i64 a] w λe w'=>e=.returned (YEC L (ZH8 L a))/\w=w':=by
 have c0:=hE.c0;have hb:=hE.nb;have HE:=hid hE;have HT:=hid hT;by_cases h0:a<0
 ·have d0:decide (a<0)=true:=by simp[h0]
  rw[Qyx (by rw[ZDJ (λo _=>by omega)];omega)];clear hE hT;go_enter func189,ntmps189;go_wp2_with(go_at_call 138;refine(VaK HE.o).mono ?_;rintro e w' ⟨rfl,rfl⟩)
  go_ret3
  exact⟨rfl,rfl⟩
 ·have d0:decide (a<0)=false:=by simp;omega
  by_cases h1:(n:Int)<=a
  ·have d1:decide ((n:Int)<=a)=true:=by simp[h1]
   rw[Qyx (by rw[ZDJ (λo ho=>by have:=hE.good.sz o ho;omega)];omega)];clear hE hT;go_enter func189,ntmps189
   go_wp2_with(first
    | (go_at_call 138;refine(VaK HE.o).mono ?_;rintro e w' ⟨rfl,rfl⟩)
    | (go_at_call 94;refine(VSs HE.o).mono ?_;rintro e w' ⟨rfl,rfl⟩))
   go_ret3
   exact⟨rfl,rfl⟩
  ·have d1:decide ((n:Int)<=a)=false:=by simp;omega
   rcases XA1 hE.good a with⟨hl,X⟩|⟨j,hj,hl,Z,X⟩
   ·rw[Qyx (by rw[ZDJ (λo ho=>by have:=X o ho;omega)];omega)];have HV:Hid (Jvh (JJU (VC5 n L) (a+1))=0/\decide (0<=JJU (VC5 n L) (a+1))=false):=⟨by rw[hl];exact⟨rfl,rfl⟩⟩;clear hE hT hl X;go_enter func189,ntmps189
    go_wp2_with(first
     | (go_at_call 138;refine(VaK HE.o).mono ?_;rintro e w' ⟨rfl,rfl⟩)
     | (go_at_call 94;refine(VSs HE.o).mono ?_;rintro e w' ⟨rfl,rfl⟩)
     | (go_at_call 219;refine(XEP HE.o.v1 _).mono ?_;rintro e w' ⟨rfl,rfl⟩;rw[HV.o.1,HV.o.2]))
    go_ret3
    exact⟨rfl,rfl⟩
   ·have HZ:=hid (VRE hE hT hj);have hs:=hE.good.sz _ (χ hj);have HV:Hid (Jvh (JJU (VC5 n L) (a+1))=(L[j].1:Nat)/\decide (0<=JJU (VC5 n L) (a+1))=true):=⟨by rw[hl];exact⟨μ Ω,κ Ω⟩⟩;have Y:=hE.good;by_cases J:a<L[j].1+L[j].2
    ·have hf:=XxN Y hj Z J;rw[hf,VTf hj];generalize L[j].1=s at *
     generalize L[j].2=z at *
     have d2:decide (((s:Int)+(z:Int))<=a)=false:=by simp;omega
     clear hE hT hl X Y hf;go_enter func189,ntmps189
     go_wp2_with(first
      | (go_at_call 138;refine(VaK HE.o).mono ?_;rintro e w' ⟨rfl,rfl⟩)
      | (go_at_call 94;refine(VSs HE.o).mono ?_;rintro e w' ⟨rfl,rfl⟩)
      | (go_at_call 219;refine(XEP HE.o.v1 _).mono ?_;rintro e w' ⟨rfl,rfl⟩;rw[HV.o.1,HV.o.2])
      | (go_at_call 175;refine HZ.o.mono ?_;rintro e w' ⟨rfl,rfl⟩))
     go_ret3
     exact⟨rfl,rfl⟩
    ·have hf:¬ZH8 L a<L.length:=by
      rw[ZDJ (λo ho=>?_)];· omega
      obtain⟨i,hi,rfl⟩:=ζt ho;rcases ζW i j with h3|rfl|h3
      ·have:=Y.at hi hj h3;omega
      ·omega
      ·have:=X i hi h3;omega
     rw[Qyx hf];generalize L[j].1=s at *
     generalize L[j].2=z at *
     have d2:decide (((s:Int)+(z:Int))<=a)=true:=by simp;omega
     clear hE hT hl X Y hf;go_enter func189,ntmps189
     go_wp2_with(first
      | (go_at_call 138;refine(VaK HE.o).mono ?_;rintro e w' ⟨rfl,rfl⟩)
      | (go_at_call 94;refine(VSs HE.o).mono ?_;rintro e w' ⟨rfl,rfl⟩)
      | (go_at_call 219;refine(XEP HE.o.v1 _).mono ?_;rintro e w' ⟨rfl,rfl⟩;rw[HV.o.1,HV.o.2])
      | (go_at_call 175;refine HZ.o.mono ?_;rintro e w' ⟨rfl,rfl⟩))
     go_ret3
     exact⟨rfl,rfl⟩
end
end
section
open Go.RowKit Word
section
variable {w:World} {m p1 b1 p2 b2 n:Nat} {L:List Ob}
def okV:Value->Bool
 | .bool b=>b
 | _=>false
theorem VFA{n:Nat}{L:List Ob}(h:Q4l n L)(hn:n<=1048576)(j:Nat):0<=obS L j/\0<=obZ L j/\obS L j+obZ L j<=1048576:=by
 by_cases hj:j<L.length
 ·rw[(YpZ hj).1,(YpZ hj).2];have:=h.sz _ (χ hj);omega
 ·rw[(Vq1 hj).1,(Vq1 hj).2];omega
theorem Ylw{n:Nat}{L:List Ob}(h:Q4l n L)(hn:n<=1048576)(j:Nat)(f t:Int):0<=VeJ (L.take j) f t/\VeJ (L.take j) f t<=1048576:=by
 have hg:Q4l n (L.take j):=⟨h.pw.sublist (List.take_sublist ..),λo ho=>h.sz o (ψj ho)⟩;have h1:=XxJ hg f t;have h2:JM8 (L.take j) n f t<=n:=QMh _ _;omega
theorem QS1(hE:Ext w m p1 b1 p2 b2 n L)(hT:VRW w)(f t:Int)(hf:f<=9223372036854775807)(ht:-9223372036854775808<=t):
  Calls prog 169 #[.pointer (some ⟨m,0,none⟩),.int .i64 f,.int .i64 t] w λe w'=>e=.returned (.int .i64 (VeJ L f t))/\w=w':=by
 have hb:=hE.nb;have hg:=hE.good;have HE:=hid hE;have HT:=hid hT;rw[<-JAq hg f t];obtain⟨lo,Xb⟩:∃lo,lo=max f 0:=⟨_,rfl⟩;obtain⟨hi,N⟩:∃hi,hi=min t (n:Int):=⟨_,rfl⟩;have hlo0:0<=lo/\lo<=9223372036854775807:=Ω
 have hhib:hi<=1048576/\-9223372036854775808<=hi:=Ω
 have HLO:=hid Xb;have HHI:=hid N;have Xr:∀w',(Builtin.max_ #[3,3] 3 #[.int .i64 f,.int .i64 0]).run prog w'=.ok (.int .i64 lo) w':=λw'=>by rw[V9O,Xb]
 have Xs:∀w',(Builtin.min_ #[3,3] 3 #[.int .i64 t,.int .i64 n]).run prog w'=.ok (.int .i64 hi) w':=λw'=>by rw[Xjn,N]
 rw[<-Xb,<-N];have hmin2:=λx y=>Xjn prog #[3,3] 3 .i64 x y;obtain⟨jf,Xi⟩:∃j,j=ZH8 L lo:=⟨_,rfl⟩;obtain⟨jn,O⟩:∃j,j=Jxr L lo:=⟨_,rfl⟩;have Xp:jn<=L.length:=by rw[O];exact XH0 _ _
 have X:=Vth hg (f:=lo) (t:=hi);rw[<-Xi,<-O]at X;have Xt:((L[jf]?.getD (0,0)).1:Int)=obS L jf:=rfl;have Xo:((L[jf]?.getD (0,0)).2:Int)=obZ L jf:=rfl;rw[Xt,Xo]at X;have Xx:=VFA hg hb.2 jf;obtain⟨s,hs⟩:∃s,s=obS L jf:=⟨_,rfl⟩;obtain⟨z,hz⟩:∃z,z=obZ L jf:=⟨_,rfl⟩;obtain⟨bf,U⟩:∃b,b=decide (jf<L.length):=⟨_,rfl⟩;rw[<-hs,<-hz]at X Xx;have HF:Hid (YEC L (ZH8 L lo)=.tuple #[.int .i64 s,.int .i64 z,.bool bf]):=⟨by rw[hs,hz,U,Xi];rfl⟩;obtain⟨s1,Xm⟩:∃s,s=obS L jn:=⟨_,rfl⟩;obtain⟨z1,Xe⟩:∃z,z=obZ L jn:=⟨_,rfl⟩;obtain⟨bn,Xh⟩:∃b,b=decide (jn<L.length):=⟨_,rfl⟩;have HN:Hid (YEC L (Jxr L lo)=.tuple #[.int .i64 s1,.int .i64 z1,.bool bn]):=⟨by rw[Xm,Xe,Xh,O];rfl⟩;have Xn:=hid (ν Xm (ν Xe Xh));obtain⟨v0,Xl⟩:∃v,v=VeJ (L.take jn) lo hi:=⟨_,rfl⟩;rw[<-Xl]at X;have Xw:=hid Xl;have Xq:=hid O
 have Xg:(bf=true/\s<lo/\lo<hi/\v0=min (s+z) hi-lo)\/(bf=false/\v0=0)\/(bf=true/\lo<=s/\v0=0)\/(bf=true/\s<lo/\hi<=lo/\v0=0):=by
  by_cases h1:jf<L.length
  ·have e1:bf=true:=by rw[U,κ h1]
   by_cases h2:s<lo
   ·by_cases h3:lo<hi
    ·left;rw[μ ⟨h1,h2,h3⟩]at X;exact⟨e1,h2,h3,X⟩
    ·right;right;right;rw[ϑ (λh=>h3 h.2.2)]at X;exact⟨e1,h2,by omega,X⟩
   ·right;right;left;rw[ϑ (λh=>h2 h.2.1)]at X;exact⟨e1,by omega,X⟩
  ·right;left;rw[ϑ (λh=>h1 h.1)]at X;exact⟨by rw[U,ψ h1],X⟩
 have HG:=hid hg;clear hE hT Xb N Xi O X Xt Xo hs hz U Xm Xe Xh Xl hg;rcases Xg with⟨rfl,h2,h3,rfl⟩|⟨rfl,rfl⟩|⟨rfl,h2,rfl⟩|⟨rfl,h2,h3,rfl⟩
 all_goals
  have hmm:min (s+z) hi<=1048576:=Ω
  go_enter func169,ntmps169
  go_wp2_with(first
   | (go_at_call 138;refine(VaK HE.o).mono ?_;rintro e w' ⟨rfl,rfl⟩)
   | (go_at_call 94;refine(VSs HE.o).mono ?_;rintro e w' ⟨rfl,rfl⟩)
   | (go_at_call 189;refine(Q6S HE.o HT.o _).mono ?_;rintro e w' ⟨rfl,rfl⟩;rw[HF.o])
   | (go_at_call 168;refine(QQo HE.o HT.o _).mono ?_;rintro e w' ⟨rfl,rfl⟩;rw[HN.o]))
  clear Xr Xs
 all_goals
  go_loop [7,11,12,13] (λs7 s11 s12 s13=>∃j,jn<=j/\j<=L.length/\s7=.int .i64 (VeJ (L.take j) lo hi)/\s11=.int .i64 (obS L j)/\s12=.int .i64 (obZ L j)/\s13=.bool (decide (j<L.length))) (λ_ s11 _ s13=>if okV s13 then 1048577-(intOf s11).toNat else 0)
  case atStart=>exact⟨jn,π _,Xp,by rw[<-Xw.o],by rw[Xn.o.1],by rw[Xn.o.2.1],by rw[Xn.o.2.2]⟩
  case round=>
   obtain⟨j,hj1,hj2,rfl,rfl,rfl,rfl⟩:=hrel;have Xu:=Ylw HG.o hb.2 j lo hi;have Xz:=VFA HG.o hb.2 j;by_cases hj:j<L.length
   ·rw[κ hj];obtain⟨o1,o2⟩:=YpZ hj;have Xv:=HG.o.sz _ (χ hj);obtain⟨sj,Y⟩:∃s,s=obS L j:=⟨_,rfl⟩;obtain⟨zj,J⟩:∃z,z=obZ L j:=⟨_,rfl⟩;obtain⟨vj,Z⟩:∃v,v=VeJ (L.take j) lo hi:=⟨_,rfl⟩
    have hge:lo<=sj:=by
     rw[Y,o1];have V:Jxr L lo<L.length:=by have:=Xq.o;omega
     have hy:=XOX V;rcases γ (Jxr L lo) j with h|h
     ·have:=HG.o.at V hj h;omega
     ·have e:L[Jxr L lo]'V=L[j]:=by congr 1;have:=Xq.o;omega
      rw[e]at hy;exact hy
    have Xe:1<=zj:=by rw[J,o2];omega
    have Xd:=VRD hj lo hi
    have Xj:Jc4 L[j] lo hi=max 0 (min (sj+zj) hi-sj):=by
     unfold Jc4;rw[Y,J,o1,o2]at *
     omega
    rw[Xj,<-Z]at Xd;have I:=Ylw HG.o hb.2 (j+1) lo hi;have Xk:Jxr L (sj+zj)=j+1:=by rw[Y,J,o1,o2];exact X1z HG.o hj
    obtain⟨s2,Xa⟩:∃s,s=obS L (j+1):=⟨_,rfl⟩;obtain⟨z2,Xc⟩:∃z,z=obZ L (j+1):=⟨_,rfl⟩;obtain⟨G,E⟩:∃b,b=decide (j+1<L.length):=⟨_,rfl⟩;have HX:Hid (YEC L (Jxr L (sj+zj))=.tuple #[.int .i64 s2,.int .i64 z2,.bool G]):=⟨by rw[Xk,Xa,Xc,E];rfl⟩;have Xf:=hid (ν Xa (ν Xc E))
    have D:G=true->sj+zj<=s2:=λh=>by
     rw[E]at h;have h:=of_decide_eq_true h;have:=HG.o.at hj h (ξr j);rw[Y,J,Xa,o1,o2,(YpZ h).1];omega
    have Yc:=hid D;rw[<-Y,<-J]at Xz⊢;rw[<-Z]at Xu⊢;have Ya:=hid Z;have Xy:=hid Y;by_cases N:sj<hi
    ·have hmj:min (sj+zj) hi<=1048576/\sj<=min (sj+zj) hi:=Ω
     have M:VeJ (L.take (j+1)) lo hi=vj+(min (sj+zj) hi-sj):=by rw[Xd];omega
     have hsum:0<=vj+(min (sj+zj) hi-sj)/\vj+(min (sj+zj) hi-sj)<=1048576:=by rw[<-M];exact I
     have Yb:=hid M;clear Y J Z Xj Xd M I Xk Xa Xc E D o1 o2 Xv;go_wp2_with(go_at_call 168;refine(QQo HE.o HT.o _).mono ?_;rintro e w' ⟨rfl,rfl⟩;rw[HX.o]);go_round
     case rel=>exact⟨j+1,by omega,by omega,by rw[Yb.o],by rw[Xf.o.1],by rw[Xf.o.2.1],by rw[Xf.o.2.2]⟩
     case measure=>
      have e0:okV (Value.bool true)=true:=rfl;rw[μ e0];by_cases h:G=true
      ·have:=Yc.o h;rw[μ (show okV (Value.bool G)=true from h)];simp only[intOf];omega
      ·rw[ϑ (show ¬okV (Value.bool G)=true from h)];simp only[intOf];omega
    ·have A:=Yso HG.o (j:=j) (f:=lo) (t:=hi) (λhl=>by
      have:=Xy.o;rw[(YpZ hl).1]at this;omega)
     have hE:Hid (VeJ L lo hi=vj):=⟨by rw[QMe L j,A,<-Ya.o];omega⟩;clear Y J Z Xj Xd I Xk Xa Xc E D o1 o2 Xv A;go_wp2;go_ret;exact⟨ZzN hE.o.symm,rfl⟩
   ·rw[ψ hj];have A:=Yso HG.o (j:=j) (f:=lo) (t:=hi) (λhl=>absurd hl hj);have hE:Hid (VeJ L lo hi=VeJ (L.take j) lo hi):=⟨by rw[QMe L j,A];omega⟩;obtain⟨vj,Z⟩:∃v,v=VeJ (L.take j) lo hi:=⟨_,rfl⟩;rw[<-Z]at Xu⊢hE;clear A Z;go_wp2;go_ret;exact⟨ZzN hE.o.symm,rfl⟩
end
end
section
open Go.RowKit Word
def YBz(m b1 b2:Nat)(k:Nat):Prop:=k=m\/k=b1\/k=b2
section
variable {w:World} {m p1 b1 p2 b2 n:Nat} {L:List Ob}
theorem Ext.changed(hE:Ext w m p1 b1 p2 b2 n L){w1 w2:World}{L':List Ob}(hg:Q4l n L')(t1:XF4 (λk=>k=b1) w w1)(v1:Vec w1 p1 b1 (VC5 n L'))(t2:XF4 (λk=>k=b2) w1 w2)(v2:Vec w2 p2 b2 (JsC n L')){z:Int}(hz:z=L'.length):
  Ext (w2.setCell ⟨m,2,none⟩ (.int .i64 z)) m p1 b1 p2 b2 n L'/\XF4 (YBz m b1 b2) w (w2.setCell ⟨m,2,none⟩ (.int .i64 z)):=by
 have t3:XF4 (λk=>k=m) w2 (w2.setCell ⟨m,2,none⟩ (.int .i64 z)):=(XF4.refl (λk=>k=m) w2).setCell (a:=⟨m,2,none⟩) (λ_=>rfl) _;obtain⟨a1,a2,a3,a4⟩:=hE.am;obtain⟨a5,a6,a7⟩:=hE.ab;have X:m<w1.heap.size:=ω hE.hm t1.size;have Y:m<w2.heap.size:=ω X t2.size;have e:∀o,w2.cell? ⟨m,o,none⟩=w.cell? ⟨m,o,none⟩:=λo=>(t2.cell X Ω o).trans (t1.cell hE.hm Ω o)
 have o:∀o,o≠2->(w2.setCell ⟨m,2,none⟩ (.int .i64 z)).cell? ⟨m,o,none⟩=w.cell? ⟨m,o,none⟩:=λo ho=>by
  rw[ξA (h:=by intro e2;injection e2 with _ e3;omega),e o]
 refine⟨⟨hg,(v1.touch t2 Ω Ω).touch t3 Ω Ω,v2.touch t3 Ω Ω,by simpa[World.setCell]using Y,(o 0 Ω).trans hE.c0,(o 1 Ω).trans hE.c1,?_,?_,hE.am,hE.ab⟩,?_⟩
 ·rw[hz];exact ξm (h:=(e 2).trans hE.c2) ..
 ·rw[ξd,t2.frozen X Ω,t1.frozen hE.hm Ω];exact hE.fr
 ·exact((t1.mono (λk _ h=>.inr (.inl h))).trans (t2.mono (λk _ h=>.inr (.inr h)))).trans (t3.mono (λk _ h=>.inl h))
def Vag(w:World)(m p1 b1 p2 b2 n:Nat)(L:List Ob)(s z:Int)(e:Ending)(w':World):Prop:=
 e=.returned (.int .i64 (ZbB L n s z))/\XF4 (YBz m b1 b2) w w'/\Ext w' m p1 b1 p2 b2 n (VI0 L n s z)
theorem Zcw(hE:Ext w m p1 b1 p2 b2 n L){s z c:Int}(h:ZbB L n s z=c)(hc:c≠0):Vag w m p1 b1 p2 b2 n L s z (.returned (.int .i64 c)) w:=by
 refine⟨by rw[h],XF4.refl _ _,?_⟩;unfold VI0;rw[ϑ (by rw[h];exact hc)];exact hE
theorem Zc1(hE:Ext w m p1 b1 p2 b2 n L)(hT:VRW w)(s z:Int):
  Calls prog 171 #[.pointer (some ⟨m,0,none⟩),.int .i64 s,.int .i64 z] w (Vag w m p1 b1 p2 b2 n L s z):=by
 have hb:=hE.nb;have HE:=hid hE;have HT:=hid hT;by_cases h0:z<1
 ·have d0:decide (z<1)=true:=by simp[h0]
  have HR:=hid (Zcw hE (s:=s) (z:=z) (c:=15) (by unfold ZbB;rw[μ h0]) (by decide));clear hE hT;go_enter func171,ntmps171;go_wp2_with(go_at_call 138;refine(VaK HE.o).mono ?_;rintro e w' ⟨rfl,rfl⟩);go_ret;exact HR.o
 ·have d0:decide (z<1)=false:=by simp;omega
  by_cases h1:s<0
  ·have d1:decide (s<0)=true:=by simp[h1]
   have HR:=hid (Zcw hE (s:=s) (z:=z) (c:=11) (by unfold ZbB;rw[ϑ h0,μ (.inl h1)]) (by decide));clear hE hT;go_enter func171,ntmps171;go_wp2_with(go_at_call 138;refine(VaK HE.o).mono ?_;rintro e w' ⟨rfl,rfl⟩);go_ret;exact HR.o
  ·have d1:decide (s<0)=false:=by simp;omega
   by_cases h2:(n:Int)<=s
   ·have d2:decide ((n:Int)<=s)=true:=by simp[h2]
    have HR:=hid (Zcw hE (s:=s) (z:=z) (c:=11) (by unfold ZbB;rw[ϑ h0,μ (.inr (.inl h2))]) (by decide));clear hE hT;go_enter func171,ntmps171
    go_wp2_with(first
     | (go_at_call 138;refine(VaK HE.o).mono ?_;rintro e w' ⟨rfl,rfl⟩)
     | (go_at_call 94;refine(VSs HE.o).mono ?_;rintro e w' ⟨rfl,rfl⟩))
    go_ret;exact HR.o
   ·have d2:decide ((n:Int)<=s)=false:=by simp;omega
    obtain⟨sn,rfl⟩:∃k:Nat,s=k:=⟨s.toNat,by omega⟩;by_cases h3:(n:Int)-sn<z
    ·have d3:decide ((n:Int)-(sn:Int)<z)=true:=by simp;omega
     have HR:=hid (Zcw hE (s:=sn) (z:=z) (c:=11) (by unfold ZbB;rw[ϑ h0,μ (.inr (.inr h3))]) (by decide));clear hE hT;go_enter func171,ntmps171
     go_wp2_with(first
      | (go_at_call 138;refine(VaK HE.o).mono ?_;rintro e w' ⟨rfl,rfl⟩)
      | (go_at_call 94;refine(VSs HE.o).mono ?_;rintro e w' ⟨rfl,rfl⟩))
     go_ret;exact HR.o
    ·have d3:decide ((n:Int)-(sn:Int)<z)=false:=by simp;omega
     obtain⟨zn,rfl⟩:∃k:Nat,z=k:=⟨z.toNat,by omega⟩;have X:=V3K hE.good (s:=(sn:Int)) (z:=(zn:Int)) Ω;have Xr:=VFA hE.good hb.2 (Jxr L (sn:Int));have Xl:((L[Jxr L (sn:Int)]?.getD (0,0)).1:Int)=obS L (Jxr L (sn:Int)):=rfl;rw[Xl]at X;obtain⟨s1,Xi⟩:∃v,v=obS L (ZH8 L (sn:Int)):=⟨_,rfl⟩;obtain⟨z1,U⟩:∃v,v=obZ L (ZH8 L (sn:Int)):=⟨_,rfl⟩;obtain⟨f1,Xb⟩:∃v,v=decide (ZH8 L (sn:Int)<L.length):=⟨_,rfl⟩;obtain⟨s2,E⟩:∃v,v=obS L (Jxr L (sn:Int)):=⟨_,rfl⟩;obtain⟨z2,Xa⟩:∃v,v=obZ L (Jxr L (sn:Int)):=⟨_,rfl⟩;obtain⟨f2,V⟩:∃v,v=decide (Jxr L (sn:Int)<L.length):=⟨_,rfl⟩;have HF:Hid (YEC L (ZH8 L (sn:Int))=.tuple #[.int .i64 s1,.int .i64 z1,.bool f1]):=⟨by rw[Xi,U,Xb];rfl⟩;have HN:Hid (YEC L (Jxr L (sn:Int))=.tuple #[.int .i64 s2,.int .i64 z2,.bool f2]):=⟨by rw[E,Xa,V];rfl⟩;rw[<-Xb,<-V,<-E]at X;rw[<-E,<-Xa]at Xr;have Xe:zn<=1048576/\sn<=1048576/\sn+zn<=n:=Ω
     have Z:∀c,Jf9 L (sn:Int) (zn:Int)=c->ZbB L n (sn:Int) (zn:Int)=if c then 7 else 0:=λc hc=>by
      unfold ZbB;rw[ϑ h0,ϑ Ω,hc]
     clear Xi U Xb E Xa V Xl;cases hc:Jf9 L (sn:Int) (zn:Int)with
     | true=>
      have HR:=hid (Zcw hE (s:=(sn:Int)) (z:=(zn:Int)) (c:=7) (Z true hc) (by decide));rw[hc]at X;clear hE hT Z hc;cases f1 with
      | true=>
       clear X;go_enter func171,ntmps171
       go_wp2_with(first
        | (go_at_call 138;refine(VaK HE.o).mono ?_;rintro e w' ⟨rfl,rfl⟩)
        | (go_at_call 94;refine(VSs HE.o).mono ?_;rintro e w' ⟨rfl,rfl⟩)
        | (go_at_call 189;refine(Q6S HE.o HT.o _).mono ?_;rintro e w' ⟨rfl,rfl⟩;rw[HF.o])
        | (go_at_call 168;refine(QQo HE.o HT.o _).mono ?_;rintro e w' ⟨rfl,rfl⟩;rw[HN.o]))
       go_ret;exact HR.o
      | false=>
       have V:f2=true/\s2<(sn:Int)+zn:=by simpa using X.symm
       obtain⟨rfl,Xx⟩:=V;have d4:decide (s2<(sn:Int)+(zn:Int))=true:=by simp[Xx]
       clear X;go_enter func171,ntmps171
       go_wp2_with(first
        | (go_at_call 138;refine(VaK HE.o).mono ?_;rintro e w' ⟨rfl,rfl⟩)
        | (go_at_call 94;refine(VSs HE.o).mono ?_;rintro e w' ⟨rfl,rfl⟩)
        | (go_at_call 189;refine(Q6S HE.o HT.o _).mono ?_;rintro e w' ⟨rfl,rfl⟩;rw[HF.o])
        | (go_at_call 168;refine(QQo HE.o HT.o _).mono ?_;rintro e w' ⟨rfl,rfl⟩;rw[HN.o]))
       go_ret;exact HR.o
     | false=>
      have M:=XCZ (L:=L) (s:=(sn:Int)) (z:=(zn:Int)) Ω Ω hc;simp only[τ]at M;have U:1<=zn:=Ω
      have N:=VuR hE.good (o:=(sn,zn)) U Xe.2.2 M;have Xk:=Yfk hE.good (o:=(sn,zn)) U Xe.2.2 M;have Xf:=Y48 hE.good (o:=(sn,zn)) U Xe.2.2 M;have G:=YKx L (sn,zn);have Y:ZbB L n (sn:Int) (zn:Int)=0:=Z false hc;have hL:VI0 L n (sn:Int) (zn:Int)=VZz L (sn,zn):=by unfold VI0;rw[μ Y];rfl
      rw[hc]at X
      obtain⟨rfl,Xv⟩:f1=false/\(f2=false\/(f2=true/\(sn:Int)+zn<=s2)):=by
       cases f1 with
       | true=>rw[Bool.true_or]at X;cases X
       | false=>
        refine⟨rfl,?_⟩;cases f2 with
        | false=>exact .inl rfl
        | true=>
         right;rw[Bool.false_or,ξY]at X;have:=of_decide_eq_false X.symm;exact⟨rfl,by omega⟩
      obtain⟨e,he⟩:∃e,e=sn+zn-1:=⟨_,rfl⟩;have Xt:Hid ((sn:Int)+(zn:Int)-1=(e:Int)):=⟨by omega⟩;have A:JsC n (VZz L (sn,zn))=(JsC n L).set e true:=by rw[he];exact Xf
      have D:VC5 n (VZz L (sn,zn))=(VC5 n L).set sn true:=Xk;have K1:Hid (sn<(VC5 n L).length):=⟨by rw[JQA];omega⟩;have K2:Hid (e<(JsC n L).length):=⟨by rw[Q9C];omega⟩;have KG:=hid N;have KS:=hid D;have KE:=hid A;have KL:=hid (ν G (ν Y hL));obtain⟨a1,a2,a3,a4⟩:=hE.am;obtain⟨a5,a6,a7⟩:=hE.ab;have O:=hE.hm;have Xo:=hE.c1;have Xq:=hE.c2;have Xn:=hE.fr;have cc0:=hE.c0;have HA:Hid (m≠b1/\m≠b2/\p2≠b1/\b2≠b1):=⟨⟨a2,a4,a6,λh=>a7 h.symm⟩⟩;have hLn:=hE.good.len;clear hE hT Z hc X M N Xk Xf A D G Y hL he a1 a2 a3 a4 a5 a6 a7;rcases Xv with rfl|⟨rfl,hge⟩
      all_goals try have d4:decide (s2<(sn:Int)+(zn:Int))=false:=by simp;omega
      all_goals
       go_enter func171,ntmps171
       go_wp2_with(first
        | (go_at_call 138;refine(VaK HE.o).mono ?_;rintro e w' ⟨rfl,rfl⟩)
        | (go_at_call 94;refine(VSs HE.o).mono ?_;rintro e w' ⟨rfl,rfl⟩)
        | (go_at_call 189;refine(Q6S HE.o HT.o _).mono ?_;rintro e w' ⟨rfl,rfl⟩;rw[HF.o])
        | (go_at_call 168;refine(QQo HE.o HT.o _).mono ?_;rintro e w' ⟨rfl,rfl⟩;rw[HN.o])
        | (go_at_call 206;rw[Xt.o];refine(ZYZ (HE.o.v2.touch Xg.o HA.o.2.2.1 HA.o.2.2.2) e K2.o).mono ?_;rintro e' w2 ⟨rfl,I,Xd⟩;rw[<-KE.o]at Xd;have e2:=(I.cell Xj.o HA.o.2.1 2).trans Xs;have ef:=(I.frozen Xj.o HA.o.2.1 2).trans Xm;have Xp:=hid I;have Xu:=hid Xd;clear I Xd)
        | (go_at_call 206;refine(ZYZ HE.o.v1 sn K1.o).mono ?_;rintro e' w1 ⟨rfl,J,Xc⟩;rw[<-KS.o]at Xc;have e11:=(J.cell O HA.o.1 1).trans Xo;have Xs:=(J.cell O HA.o.1 2).trans Xq;have Xm:=(J.frozen O HA.o.1 2).trans Xn;have Xg:=hid J;have Xw:=hid Xc;have Xj:=hid (ω O J.size);clear J Xc))
       go_ret;have Xh:=HE.o.changed KG.o Xg.o Xw.o Xp.o Xu.o (z:=((L.length:Int)+1)) (by rw[KL.o.1];push_cast;rfl);exact⟨by rw[KL.o.2.1];rfl,Xh.2,by rw[KL.o.2.2];exact Xh.1⟩
theorem ZRB{w:World}{m p:Nat}(c0:w.cell? ⟨m,0,none⟩=some (.pointer (some ⟨p,0,none⟩))):Calls prog 138 #[.pointer (some ⟨m,0,none⟩)] w λe w'=>e=.returned (.bool false)/\w=w':=by
 go_enter func138,ntmps138;go_wp2;go_ret;exact⟨rfl,rfl⟩
theorem Xk0{w:World}{m p b n:Nat}{l:List Bool}(c0:w.cell? ⟨m,0,none⟩=some (.pointer (some ⟨p,0,none⟩)))(hV:Vec w p b l)(hl:l.length=n):
  Calls prog 94 #[.pointer (some ⟨m,0,none⟩)] w λe w'=>e=.returned (.int .i64 n)/\w=w':=by
 have HL:=hid hl;have HV:=hid hV;clear hl hV;go_enter func94,ntmps94
 go_wp2_with(first
  | (go_at_call 138;refine(ZRB c0).mono ?_;rintro e w' ⟨rfl,rfl⟩)
  | (go_at_call 139;refine(JoW HV.o).mono ?_;rintro e w' ⟨rfl,rfl⟩;rw[HL.o]))
 go_ret;exact⟨rfl,rfl⟩
theorem JZ2(l:List Bool)(n:Nat)(h:l.length=n):XCN l 0 n false=List.replicate n false:=
 J2X (by rw[J8M,h];simp) (λi hi=>by
  rw[J8M]at hi;rw[QTG _ _ _ _ _ hi,μ Ω]
  simp[at_,φ,ζD];split <;> rfl)
def JAm(w:World)(m p1 b1 p2 b2 n:Nat)(e:Ending)(w':World):Prop:=e=.returned (.tuple #[])/\XF4 (YBz m b1 b2) w w'/\Ext w' m p1 b1 p2 b2 n []
theorem Zca(hE:Ext w m p1 b1 p2 b2 n L):
  Calls prog 96 #[.pointer (some ⟨m,0,none⟩)] w (JAm w m p1 b1 p2 b2 n):=by
 have hb:=hE.nb;have HE:=hid hE;have G:=hE.c0;have Xb:=hE.c1;have Xd:=hE.c2;have Xa:=hE.fr;obtain⟨a1,a2,a3,a4⟩:=hE.am;obtain⟨a5,a6,a7⟩:=hE.ab;have J:=hE.hm;have HA:Hid (m≠b1/\m≠b2/\p2≠b1/\b2≠b1):=⟨⟨a2,a4,a6,λh=>a7 h.symm⟩⟩;have KS:Hid (XCN (VC5 n L) 0 (n:Int) false=VC5 n []):=⟨by rw[JZ2 _ n (JQA ..),V9f]⟩;have KE:Hid (XCN (JsC n L) 0 (n:Int) false=JsC n []):=⟨by rw[JZ2 _ n (Q9C ..),JfC]⟩;clear hE a1 a2 a3 a4 a5 a6 a7;go_enter func96,ntmps96;go_upto_region 1 with(go_at_call 138;refine(VaK HE.o).mono ?_;rintro e w' ⟨rfl,rfl⟩);obtain⟨S,hS⟩:∃S:World->Prop,S=λW'=>W'.cell? ⟨m,0,none⟩=some (.pointer (some ⟨p1,0,none⟩)):=⟨_,rfl⟩;have x0:∀p:ZJV S,p.w.cell? ⟨m,0,none⟩=some (.pointer (some ⟨p1,0,none⟩)):=λp=>ZJV.get hS p;have Y:S w.drew:=by rw[hS];exact G
 have Z:Inhabited (ZJV S):=⟨⟨_,Y⟩⟩;clear hS;refine Vv2 S 6 [([0,1,2,3,4],5),([],6)] [] (by kernel_rfl) (by kernel_rfl) Y ?_;refine XGW ?_;simp only[XZy,ζ,ξ]
 repeat(go_big_quiet_step (fail))
 refine θ ?_;go_wp2_with(go_at_call 94;refine(VSs (HE.o.gr (Gr.refl w).drew)).mono ?_;rintro e w' ⟨rfl,rfl⟩);refine⟨.inr (ZJV.of Y),?_⟩;refine XGW ?_;simp only[XZy,ζ,ξ];refine θ ?_;go_wp2_with(go_at_call 140;refine(JRq (HE.o.v1.gr (Gr.refl w).drew) 0 (n:Int) (by decide)).mono ?_;rintro e' w1 ⟨rfl,O,U⟩;rw[KS.o]at U;have X:=((Gr.refl w).drew.touch (λk=>k=b1)).trans O;have Xh:=(X.cell J HA.o.1 1).trans Xb;have Xe:=(X.cell J HA.o.1 2).trans Xd;have Xg:=(X.cell J HA.o.1 0).trans G;have A:=(X.frozen J HA.o.1 2).trans Xa;have M:=hid X;have I:=hid U;have E:=hid (ω J X.size);clear O U X);refine⟨.inl trivial,?_⟩;refine Z9U ?_;refine θ ?_;refine β ?_;clear x0 Y Z;clear S;go_upto_region 2 with(fail);obtain⟨S,hS⟩:∃S:World->Prop,S=λW'=>W'.cell? ⟨m,1,none⟩=some (.pointer (some ⟨p2,0,none⟩)):=⟨_,rfl⟩;have x0:∀p:ZJV S,p.w.cell? ⟨m,1,none⟩=some (.pointer (some ⟨p2,0,none⟩)):=λp=>ZJV.get hS p;have Y:S w1.drew:=by rw[hS];exact Xh
 have Z:Inhabited (ZJV S):=⟨⟨_,Y⟩⟩;clear hS;refine Vv2 S 6 [([0,1,2,3,4],5),([],6)] [] (by kernel_rfl) (by kernel_rfl) Y ?_;refine XGW ?_;simp only[XZy,ζ,ξ]
 repeat(go_big_quiet_step (fail))
 refine θ ?_;go_wp2_with(go_at_call 94;refine(Xk0 (w:=w1.drew) Xg (I.o.gr (Gr.refl w1).drew) (JQA n [])).mono ?_;rintro e w' ⟨rfl,rfl⟩);refine⟨.inr (ZJV.of Y),?_⟩;refine XGW ?_;simp only[XZy,ζ,ξ];refine θ ?_;go_wp2_with(go_at_call 140;refine(JRq ((HE.o.v2.touch M.o HA.o.2.2.1 HA.o.2.2.2).gr (Gr.refl w1).drew) 0 (n:Int) (by decide)).mono ?_;rintro e' w2 ⟨rfl,D,V⟩;rw[KE.o]at V;have X:=((Gr.refl w1).drew.touch (λk=>k=b2)).trans D;have e2:=(X.cell E.o HA.o.2.1 2).trans Xe;have ef:=(X.frozen E.o HA.o.2.1 2).trans A;have Xc:=hid X;have Xf:=hid V;clear D V X);refine⟨.inl trivial,?_⟩;refine Z9U ?_;refine θ ?_;refine β ?_;clear x0 Y Z;clear S;go_wp2;refine ζF (ζr rfl _ _ _) rfl ?_;have N:=HE.o.changed (Q4l.nil n) M.o I.o Xc.o Xf.o (z:=0) rfl;exact⟨rfl,N.2,N.1⟩
def XrP(w:World)(n:Nat)(e:Ending)(w':World):Prop:=
 ∃m p1 b1 p2 b2,e=.returned (.tuple #[.pointer (some ⟨m,0,none⟩),.int .i64 0])/\Gr w w'/\Ext w' m p1 b1 p2 b2 n []/\w.heap.size<=m/\w.heap.size<=p1/\w.heap.size<=b1/\w.heap.size<=p2/\w.heap.size<=b2
theorem XMw(n:Nat)(h1:1<=n)(h2:n<=1048576)(w:World):Calls prog 51 #[.int .i64 n] w (XrP w n):=by
 have HN:=hid (ν h1 h2);clear h1 h2;go_enter func51,ntmps51
 go_wp2_with(first
  | (go_at_call 92;refine(Vk2 n HN.o.1 HN.o.2 w1).mono ?_;rintro e w2 ⟨p2,b2,rfl,Z,Y,hp2,hb2⟩)
  | (go_at_call 92;refine(Vk2 n HN.o.1 HN.o.2 _).mono ?_;rintro e w1 ⟨p1,b1,rfl,J,X,hp1,hb1⟩))
 go_ret2;have U:=X.gr Z;have s1:=X.hp;have s2:=X.hb;have s3:=Y.hp;have s4:=Y.hb;have sg1:=J.size;have sg2:=Z.size;refine⟨_,p1,b1,p2,b2,Qh8 rfl rfl,(J.trans Z).alloc _,⟨Q4l.nil n,?_,?_,by simp,ζq ..,ζq ..,ζq ..,ξ9 ..,by omega,by omega⟩,by omega,by omega,by omega,by omega,by omega⟩
 ·rw[V9f];exact U.gr ((Gr.refl _).alloc _)
 ·rw[JfC];exact Y.gr ((Gr.refl _).alloc _)
end
end
section
open Go.RowKit Go.Shelf Word
attribute [local go_sem] Oper.semAt_some
def YjA(box p b N:Nat)(s:List Bool×Nat)(W:World):Prop:=
 Vec W p b s.1/\s.1.length=N/\VRW W/\W.cell? ⟨box,0,none⟩=some (.pointer (some ⟨p,0,none⟩))/\s.2<=N
def XRB(s:List Bool×Nat)(x:Nat):Prop:=x=ZnF s.1 s.2/\ZnF s.1 s.2<s.1.length
def Qk5(_:List Bool×Nat)(x:Nat)(s':List Bool×Nat):Prop:=s'.2=x+1
theorem VJj{l:List Bool}{a:Int}(h:ZnF l a<l.length):at_ l (ZnF l a)=true/\a<=(ZnF l a:Nat):=by
 have:=JyT (λi=>at_ l i&&decide (a<=(i:Nat))) l.length h;simp only[ζd,ζe]at this;exact this
theorem ZWM{l:List Bool}{a:Int}(h:ZnF l a<l.length):a<=(ZnF l a:Nat):=(VJj h).2
def XAz:Value->Bool
 | .bool b=>b
 | _=>false
def VEN(s:List Bool×Nat):Prop:=¬ZnF s.1 s.2<s.1.length
theorem ZNp(n:Nat)(box p b N:Nat)(l0:List Bool)(w:World):
  ZAK Fence.wide n prog 208 #[.pointer (some ⟨box,0,none⟩)] (λx:Nat=>#[.int .i64 (x:Int)]) (YjA box p b N) XRB Qk5 VEN (l0,0) w:=by
 intro l J Jx W hg hJ hJx hI hY h0;refine callsIn_of_wp func208 rfl trivial ?_ rfl;have U:=hI _ _ h0;have c0:=U.2.2.2.1;have I:=hid U;clear U;simp only[ntmps208,ξa,ζU,ξq,Nat.reduceAdd,Nat.reduceSub,ζ2,ζ1,ξf,ζ7,ξb,ζL];gi_wp2_with(refine⟨trivial,λh=>Bool.noConfusion h,?_⟩;gi_at_call 203;refine(ζa.2 (QUF I.o.1 I.o.2.2.1 _)).mono ?_;rintro e w1 ⟨rfl,rfl⟩)
 gi_loopw [3,4] (λx3 x4 wr=>∃s:List Bool×Nat,J s wr/\x3=.int .i64 (JHm s.1.length (ZnF s.1 s.2))/\x4=.bool (decide (ZnF s.1 s.2<s.1.length))) (λx3 x4 _=>if XAz x4 then N-(intOf x3).toNat+1 else 0)
 case atStart=>exact⟨(l0,0),h0,rfl,rfl⟩
 case round=>
  obtain⟨s,hs,rfl,rfl⟩:=hrel;have hi:=hI _ _ hs;have c1:=hi.2.2.2.1;have HI:=hid hi;clear hi;by_cases X:ZnF s.1 s.2<s.1.length
  ·obtain⟨x,hx⟩:∃x,x=ZnF s.1 s.2:=⟨_,rfl⟩;obtain⟨fn,tmps,assign,body,hy,hR⟩:=hY s x wr hs ⟨hx,X⟩;have e1:JHm s.1.length (ZnF s.1 s.2)=(x:Int):=by rw[hx];exact Jpj X
   have e2:decide (ZnF s.1 s.2<s.1.length)=true:=by simp[X]
   rw[e1,e2];have hxN:x<N:=by rw[<-HI.o.2.1,hx];exact X
   have HN:=hid hI;have HX:=hid hx;clear hx e1 e2 hI;gi_wp2;refine⟨λh=>Bool.noConfusion h,hR.mono ?_⟩;rintro e W3 (⟨rfl,s',E,V⟩|⟨rfl,D⟩)
   ·have Y:=HN.o _ _ V;have c3:=Y.2.2.2.1;have Z:=hid Y;have O:s'.2=x+1:=E;have hN2:(N:Int)<=1048576:=by have:=Y.1.n2;have:=Y.2.1;omega
    have hx2:(x:Int)<N:=Ω
    have M:=hid O;clear Y O E;gi_wp2_with(refine⟨trivial,λh=>Bool.noConfusion h,?_⟩;gi_at_call 203;refine(ζa.2 (QUF Z.o.1 Z.o.2.2.1 ((x:Int)+1))).mono ?_;rintro e w1 ⟨rfl,rfl⟩);go_roundw
    case rel=>exact⟨s',V,by rw[M.o];rfl,by rw[M.o];rfl⟩
    case measure=>
     have e0:XAz (Value.bool true)=true:=rfl;rw[μ e0];by_cases h:ZnF s'.1 ((x:Int)+1)<s'.1.length
     ·have hge:=ZWM h;have h2:=Z.o.2.1;rw[Jpj h,μ (by simp[XAz,h])];simp only[intOf];omega
     ·rw[ϑ (by simp[XAz];omega)];omega
   ·gi_wp2
    go_end0
    exact⟨⟨_,rfl⟩,.inr D⟩
  ·have e1:JHm s.1.length (ZnF s.1 s.2)=0:=JEJ X;have e2:decide (ZnF s.1 s.2<s.1.length)=false:=by simp;omega
   rw[e1,e2];gi_wp2;refine⟨λ_ h=>(by cases h),?_⟩;gi_wp2
   go_end0
   exact⟨⟨_,rfl⟩,.inl ⟨s,X,hs⟩⟩
theorem Xig{w:World}(q:Option Addr):
  Calls prog 174 #[.pointer q] w λe w'=>e=.returned (.func (.func 208) #[] #[.pointer (some ⟨w.heap.size,0,none⟩)])/\w'=w.alloc (.cells #[.pointer q] 163):=by
 have hmf:∀(fn:Fn) (first cap:Array Value) (w:World),(Instr.makeFunc fn first cap).run prog w=.ok (.func fn first cap) w:=λ_ _ _ _=>rfl;go_enter func174,ntmps174;go_wp2;go_ret;exact⟨rfl,rfl⟩
end
section
open Go.RowKit Go.Shelf Word
attribute [local go_sem] Oper.semAt_some
def Zxj(box m p1 b1 p2 b2 n:Nat)(L:List Ob)(j:Nat)(W:World):Prop:=
 Ext W m p1 b1 p2 b2 n L/\VRW W/\W.cell? ⟨box,0,none⟩=some (.pointer (some ⟨m,0,none⟩))/\j<=L.length
def YdH(L:List Ob)(j:Nat)(x:Ob):Prop:=L[j]?=some x
def VYF(x:Ob):Array Value:=#[.int .i64 (x.1:Nat),.int .i64 (x.2:Nat)]
theorem ZjB{n:Nat}{L:List Ob}(h:Q4l n L){j:Nat}(hj:j<L.length):Jxr L ((L[j].1:Int)+1)=j+1:=by
 refine Qzy Ω (λi hi hij=>?_) (λh2=>?_)
 ·rcases γ i j with h1|h1
  ·have:=h.at hi hj h1;omega
  ·have:i=j:=Ω
   subst this;omega
 ·have:=h.at hj h2 (ξr j);have:=h.sz _ (χ hj);omega
theorem ZVe{m m' l l2:Nat}{P:Program}{args:Array Value}{W:World}{R:Ending->World->Prop}(h:YieldAt Fence.wide m P l args W R):YieldAt (Fence.wide.inRound l2) m' P l args W R:=by
 obtain⟨fn,Y,X,Z,hy,hR⟩:=h;exact⟨fn,Y,X,Z,hy,hR.1,λc cs _=>hR.2 c cs (room_wide _)⟩
structure X94(n:Nat)(L:List Ob)(J:Nat->World->Prop)(B0 B1 p1:Nat)(y:Value)(s:List Bool×Nat)(A:World):Prop where
 st:s.1=VC5 n L
 ps:s.2<=n
 j:∃j,J j A/\Jxr L (s.2:Int)=j
 y:A.cell? ⟨B0,0,none⟩=some y
 v:A.cell? ⟨B1,0,none⟩=some (.pointer (some ⟨p1,0,none⟩))
theorem Xix(n':Nat)(box m p1 b1 p2 b2 n:Nat)(L:List Ob)(w:World):
  Vwu Fence.wide n' prog 173 #[.pointer (some ⟨box,0,none⟩)] VYF (Zxj box m p1 b1 p2 b2 n L) (YdH L) (λj _ j'=>j'=j+1) (λj=>j=L.length) 0 w:=by
 intro l J Jx W hg hJ Xf hI hY h0;refine ζa.2 ((ζa (n:=5)).1 ?_);refine callsIn_of_wp_marks func173 rfl trivial ?_ rfl;have E:=hI _ _ h0;have c0:=E.2.2.1;have k0:=E.1.c0;have Xc:=hid E;have Xr:=hid h0;have Xn:=hid hI;clear E h0 hI;simp only[ntmps173,ξa,ζU,ξq,Nat.reduceAdd,Nat.reduceSub,ζ2,ζ1,ξf,ζ7,ξb,ζL];have hbox:box<W.heap.size:=ZQf c0;have hmw:=Xc.o.1.hm
 gi_wp2_with(first
  | (refine⟨trivial,?_⟩;gi_at_call 138;refine(ζa.2 (VaK (Xc.o.1.gr ((Gr.refl W).alloc _)))).mono ?_;rintro e w1 ⟨rfl,rfl⟩)
  | (refine⟨trivial,?_⟩;gi_at_call 174;refine(ζa.2 (Xig (some ⟨p1,0,none⟩))).mono ?_;rintro e w1 ⟨rfl,rfl⟩))
 obtain⟨W0,Z⟩:∃W0,W0=(W.alloc (.cells #[.func (.yield l) #[] #[]] 250)).alloc (.cells #[.pointer (some ⟨p1,0,none⟩)] 163):=⟨_,rfl⟩;have Ya:Gr W W0:=by rw[Z];exact((Gr.refl W).alloc _).alloc _
 have Xj:W0.heap.size=W.heap.size+2:=by rw[Z];simp
 have bY:W0.cell? ⟨W.heap.size,0,none⟩=some (.func (.yield l) #[] #[]):=by rw[Z];exact((Boxed.new W _ _).alloc _).cell
 have bV:W0.cell? ⟨W.heap.size+1,0,none⟩=some (.pointer (some ⟨p1,0,none⟩)):=by
  rw[Z];have:=Boxed.new (W.alloc (.cells #[.func (.yield l) #[] #[]] 250)) 163 (.pointer (some ⟨p1,0,none⟩));rw[η]at this;exact this.cell
 rw[<-Z];have X:=Xc.o.1.good;have hnb:=Xc.o.1.nb;have Xl:J 0 W0:=hJ _ _ _ Xr.o (Ya.touch _);have HH0:=hid Z;clear Z c0 k0;have Xw:Jxr L ((0:Nat):Int)=0:=Qzy (ζh _) (λi hi h=>by omega) (λh=>by omega)
 have tI:∀s A B,X94 n L J W.heap.size (W.heap.size+1) p1 (.func (.yield l) #[] #[]) s A->XF4 (λk=>W0.heap.size<=k) A B->X94 n L J W.heap.size (W.heap.size+1) p1 (.func (.yield l) #[] #[]) s B:=λs A B h t=>
  ⟨h.st,h.ps,by obtain⟨j,hj,e⟩:=h.j;exact⟨j,hJ _ _ _ hj (t.mono (λk _ h=>by omega)),e⟩,(t.cell (ZQf h.y) (by show ¬W0.heap.size<=W.heap.size;omega) 0).trans h.y,(t.cell (ZQf h.v) (by show ¬W0.heap.size<=W.heap.size+1;omega) 0).trans h.v⟩
 refine JQ9 (s0:=(VC5 n L,0)) rfl Ω (gf:=208) (lb:=#[.pointer (some ⟨W.heap.size+1,0,none⟩)]) rfl trivial (enters_of func208 (by kernel_rfl) rfl)
  (ZNp _ (W.heap.size+1) p1 b1 n (VC5 n L) _).toT (λ_=>rfl)
  (X94 n L J W.heap.size (W.heap.size+1) p1 (.func (.yield l) #[] #[])) (λc A=>c=.ret/\Jx A) tI (λc A B h t=>⟨h.1,Xf _ _ h.2 (t.mono (λk _ h=>by omega))⟩)
  (λs A h=>by
   obtain⟨j,hj,-⟩:=h.j;have hi:=Xn.o _ _ hj
   exact⟨by rw[h.st];exact hi.1.v1,by rw[h.st,JQA],hi.2.1,h.v,h.ps⟩)
  ⟨rfl,ζh _,⟨0,Xl,Xw⟩,bY,bV⟩ ?round ?done ?stop
 case round=>
  intro lp s x W3 hsz3 Xd Xu;gi_wp2;refine⟨Gr.refl _,λW4 ht4 hI4=>?_⟩;obtain⟨M,Xp,⟨j,hj,U⟩,hy,hv⟩:=hI4;obtain⟨hx,Xq⟩:=Xu;have N:=Xn.o _ _ hj;rw[M]at hx Xq
  have Y:j<L.length:=by
   rcases γ j L.length with h|h
   ·exact h
   ·have:=YTx X (a:=(s.2:Int)) (by rw[U];omega);omega
  have Xz:x=L[j].1:=by
   have:=(Jia X (a:=(s.2:Int)) (by rw[U];exact Y)).1;rw[hx,this];congr 2
  subst Xz;have Xt:J j W4.drew:=hJ _ _ _ hj ((Gr.refl W4).drew.touch _);have Xi:W.heap.size<=W4.drew.heap.size:=Nat.le_of_lt (ZQf hy);obtain⟨fn,tmps,assign,body,Xy,hR⟩:=ZVe (m':=2) (l2:=lp) (hY j L[j] W4.drew Xt Xi (δ Y));have HZ:=hid (VRE (N.1.gr (Gr.refl W4).drew) ((Gr.refl W4).drew.tab N.2.1.lt N.2.1) Y);have cbx:=N.2.2.1;have hbxs:=Xj;have HS:=hid (ν M (ν U Y));clear M U hj N hx Xq Xd;dsimp only[VYF]at Xy
  have Xo:=hR.mono (R':=λe W'=>∃bb:Bool,e=.returned (.bool bb)/\((bb=true/\J (j+1) W')\/(bb=false/\Jx W'))/\XF4 (λk=>k<W.heap.size) W4.drew W') (by
   rintro e W' ⟨⟨he,s',rfl,Xx⟩|⟨he,hx⟩,ht⟩
   ·exact⟨true,he,.inl ⟨rfl,Xx⟩,ht⟩
   ·exact⟨false,he,.inr ⟨rfl,hx⟩,ht⟩)
  clear hR;gi_wp2;obtain⟨Sx,Xa⟩:∃S:World->Prop,S=λA=>A.cell? ⟨W.heap.size,0,none⟩=some (.func (.yield l) #[] #[]):=⟨_,rfl⟩;have x1:∀p:ZJV Sx,p.w.cell? ⟨W.heap.size,0,none⟩=some (.func (.yield l) #[] #[]):=λp=>ZJV.get Xa p;have I:Sx W4.drew:=by rw[Xa];exact hy
  have Xg:=hid Xa;clear Xa;have Xh:Inhabited (ZJV Sx):=⟨⟨_,I⟩⟩;refine V0Y Sx 7 [([0,1,3],2),([],4),([],5)] [6] (λ_=>trivial) (by kernel_rfl) (by kernel_rfl) I ?_;refine QgQ ?_;simp only[XZy,ζ,ξ]
  repeat(go_big_quiet_step (fail))
  refine θ ?_;gi_wp2;refine⟨.inr (ZJV.of I),?_⟩;refine QgQ ?_;simp only[XZy,ζ,ξ];refine θ ?_;gi_wp2_with(refine⟨trivial,?_⟩;gi_at_call 175;refine(CallsIn.inRound lp (ζa.2 HZ.o)).mono ?_;rintro e w' ⟨rfl,rfl⟩);refine⟨.inr (ZJV.of I),?_⟩;refine QgQ ?_;simp only[XZy,ζ,ξ];refine θ ?_;gi_wp2;refine Xo.mono ?_;rintro e W5 ⟨bb,rfl,Xb,G⟩;have Xm:=(G.cell (ZQf hy) (ζN _) 0).trans hy;have Xv:=(G.cell (ZQf hv) (by show ¬W.heap.size+1<W.heap.size;omega) 0).trans hv;gi_wp2;refine⟨.inr (ZJV.of (by rw[Xg.o];exact Xm)),?_⟩;refine X0q ?_;simp only[XZy,ζ,ξ]
  repeat(go_big_quiet_step (fail))
  refine θ ?_;refine β ?_;have T5:=hid (((Gr.refl W4).drew.touch (λk=>k<W0.heap.size)).trans (G.mono (λk _ h=>by omega)));have Xs:=hid (X.sz _ (χ Y));clear x1 I Xg Xh Xo G;clear Sx;cases bb with
  | true=>
   have O:J (j+1) W5:=by
    rcases Xb with⟨_,h⟩|⟨h,_⟩
    ·exact h
    ·cases h
   have Xe:=hid O;clear Xb O;gi_wp2;exact⟨T5.o,(VC5 n L,L[j].1+1),rfl,rfl,by have:=Xs.o;show L[j].1+1<=n;omega,⟨j+1,Xe.o,by have:=ZjB X Y;push_cast;exact this⟩,Xm,Xv⟩
  | false=>
   have O:Jx W5:=by
    rcases Xb with⟨h,_⟩|⟨_,h⟩
    ·cases h
    ·exact h
   have Xe:=hid O;clear Xb O;gi_wp2;exact⟨T5.o,rfl,Xe.o⟩
 case done=>
  rintro D s W3 hD V Xd hK;obtain⟨M,Xp,⟨j,hj,U⟩,hy,hv⟩:=Xd
  have Y:¬j<L.length:=λh=>by
   have:=Jia X (a:=(s.2:Int)) (by rw[U];exact h);unfold VEN at V;rw[M]at V;exact V this.2
  have Xk:j=L.length:=by have:=XH0 L (s.2:Int);omega
  have HE:=hid (ν Xk hj);have HK:=hid hK;have HD:=hid hD;clear M Xp U hy hv V Xk hj hK hD Y;gi_wp2;refine⟨by simp,.inl ⟨_,_,rfl,run_takeDeferred HK.o,?_⟩⟩;refine⟨.tuple #[],ζr rfl _ _ _,⟨_,rfl⟩,.inl ⟨j,HE.o.1,hJ _ _ _ HE.o.2 ((Xau W3 D _ (π D)).mono (λk _ h=>by have:=HD.o;omega))⟩⟩
 case stop=>
  rintro D c W3 hD ⟨rfl,hx⟩ hK;have HE:=hid hx;have HK:=hid hK;have HD:=hid hD;clear hx hK hD;gi_wp2;refine⟨by simp,.inl ⟨_,_,rfl,run_takeDeferred HK.o,?_⟩⟩;refine⟨.tuple #[],ζr rfl _ _ _,⟨_,rfl⟩,.inr (Xf _ _ HE.o ((Xau W3 D _ (π D)).mono (λk _ h=>by have:=HD.o;omega)))⟩
end
section
open Go.RowKit Go.Shelf Word
attribute [local go_sem] Oper.semAt_some
theorem JMu{w:World}(q:Option Addr):
  Calls prog 132 #[.pointer q] w λe w'=>e=.returned (.func (.func 173) #[] #[.pointer (some ⟨w.heap.size,0,none⟩)])/\w'=w.alloc (.cells #[.pointer q] 103):=by
 have hmf:∀(fn:Fn) (first cap:Array Value) (w:World),(Instr.makeFunc fn first cap).run prog w=.ok (.func fn first cap) w:=λ_ _ _ _=>rfl;go_enter func132,ntmps132;go_wp2;go_ret;exact⟨rfl,rfl⟩
theorem VRW.touch'{S:Nat->Prop}{w W:World}(ht:VRW w)(h:XF4 S w W)(hS:¬S 1):VRW W:=h.tab ht.lt hS ht
end
section
open Go.RowKit Go.Shelf Word
attribute [local go_sem] Oper.semAt_some
end
section
open Word
def JFT(n:Nat)(L:List Ob):List Bool:=(List.range n).map (VoH L)
theorem Vsd(n:Nat)(L:List Ob):(JFT n L).length=n:=by simp[JFT]
theorem Vm2{n:Nat}{L:List Ob}(h:Q4l n L)(i:Nat):at_ (JFT n L) i=VoH L i:=by
 unfold JFT;rw[Qn0];by_cases hi:i<n
 ·rw[κ hi];rfl
 ·rw[ψ hi];cases hb:VoH L i with
  | false=>rfl
  | true=>
   obtain⟨o,ho,h1,h2⟩:=XB1.1 hb;have:=h.sz o ho;omega
theorem Yht{n:Nat}{L:List Ob}(h:Q4l n L)(f t:Int):((QnT (JFT n L) f t:Nat):Int)=VeJ L f t:=by
 rw[<-XxJ h,Y7X,Vsd];congr 1;exact ZVB (λi _=>by rw[Vm2 h])
theorem JrN{n:Nat}{L:List Ob}(h:Q4l n L)(k:Nat)(hk:k<=n):((cnt (at_ (JFT n L)) k:Nat):Int)=VeJ L 0 k:=by
 rw[<-Yht h,V58 _ (by rw[Vsd];exact hk)]
theorem YKJ{L:List Ob}:∀{q k:Nat},JlZ L q=some k->∃j,∃hj:j<L.length,∃i,i<L[j].2/\q=sizes (L.take j)+i/\k=L[j].1+i:=by
 induction L with
 | nil=>intro q k h;cases h
 | cons o r ih=>
  intro q k h;unfold JlZ at h;by_cases hq:q<o.2
  ·rw[μ hq]at h;exact⟨0,by simp,q,hq,by simp[sizes],(Option.some.inj h).symm⟩
  ·rw[ϑ hq]at h;obtain⟨j,hj,i,h1,h2,h3⟩:=ih h;exact⟨j+1,by simp;exact hj,i,h1,by simp[sizes];omega,h3⟩
theorem XUI{L:List Ob}{j:Nat}(hj:j<L.length){i:Nat}(hi:i<L[j].2):VoH L (L[j].1+i)=true:=XB1.2 ⟨_,χ hj,by omega,by omega⟩
theorem Qh2{n:Nat}{L:List Ob}(h:Q4l n L)(q:Nat):(∀k,JlZ L q=some k->X5b (JFT n L) q=k/\k<n)/\(JlZ L q=none->X5b (JFT n L) q=n):=by
 refine⟨λk hk=>?_,λhn=>?_⟩
 ·obtain⟨j,hj,i,h1,rfl,rfl⟩:=YKJ hk;have hs:=h.sz _ (χ hj);have hc:=JrN h (L[j].1+i) Ω;have ho:=Yhz h hj (i:=i) Ω;obtain⟨e1,e2⟩:=YTa (l:=JFT n L) (k:=L[j].1+i) (q:=sizes (L.take j)+i) (by rw[Vm2 h];exact XUI hj h1) (by push_cast at hc;omega);exact⟨e1,by omega⟩
 ·have hle:=Jkd.1 hn;have hc:=JrN h n (π n);rw[Z3c h]at hc;have:=Vit (f:=at_ (JFT n L)) (n:=n) (k:=q) Ω;unfold X5b;rw[Vsd];exact this
theorem Zop{n:Nat}{L:List Ob}(h:Q4l n L)(k:Int):Jid (JFT n L) k=V5E L k/\Yka (JFT n L) k=Y2i L k:=by
 unfold Jid Yka V5E Y2i;by_cases hk:k<0
 ·rw[μ hk,μ hk,ψ Ω];exact⟨rfl,rfl⟩
 ·rw[ϑ hk,ϑ hk,κ Ω,Vsd];obtain⟨h1,h2⟩:=Qh2 h k.toNat;cases hw:JlZ L k.toNat with
  | none=>rw[h2 hw,JEJ Ω];exact⟨rfl,by simp⟩
  | some x=>obtain⟨e1,e2⟩:=h1 x hw;rw[e1,Jpj e2];exact⟨rfl,by simp[e2]⟩
theorem Jw5{n:Nat}{L:List Ob}{j:Nat}(hj:j<L.length):JFT n (L.take (j+1))=XCN (JFT n (L.take j)) (L[j].1:Nat) ((L[j].1:Int)+(L[j].2:Int)) true:=by
 refine J2X (by rw[J8M,Vsd,Vsd]) (λi hi=>?_);rw[Vsd]at hi;rw[QTG _ _ _ _ _ (by rw[Vsd];exact hi)];unfold JFT;rw[Qn0,Qn0,κ hi];unfold VoH;rw[ξe hj,List.any_append];by_cases X:(L[j].1:Int)<=i/\(i:Int)<(L[j].1:Int)+(L[j].2:Int)
 ·rw[μ X];have:L[j].1<=i/\i<L[j].1+L[j].2:=Ω
  simp[this]
 ·rw[ϑ X];have:¬(L[j].1<=i/\i<L[j].1+L[j].2):=Ω
  simp[this]
theorem ZPf(n:Nat):JFT n []=List.replicate n false:=by
 unfold JFT;exact J2X (by simp) (λi hi=>by rw[Qn0];simp[at_,φ,ζD,VoH];split <;> rfl)
end
section
open Go.RowKit Word
def JRn(w:World)(F t n B:Nat)(L:List Ob):Prop:=
 Q4l n L/\t<w.heap.size/\F<=t/\∃v vb x p b a,w.cell? ⟨t,0,none⟩=some (.pointer (some ⟨v,0,none⟩))/\w.cell? ⟨t,1,none⟩=some (.pointer (some ⟨x,0,none⟩))/\Vec w v vb (JFT n L)/\Idx w x p b a (JFT n L) B ∧
  F<=v/\F<=vb/\F<=x/\F<=p/\F<=b/\F<=a
theorem JRn.touch{S:Nat->Prop}{w w':World}{F t n B:Nat}{L:List Ob}(h:JRn w F t n B L)(ht:XF4 S w w')(hS:∀k,F<=k->k<w.heap.size->¬S k):JRn w' F t n B L:=by
 obtain⟨hg,h1,h2,v,vb,x,p,b,a,c0,c1,hV,hX,k1,k2,k3,k4,k5,k6⟩:=h;exact⟨hg,ω h1 ht.size,h2,v,vb,x,p,b,a,(ht.cell h1 (hS t h2 h1) 0).trans c0,(ht.cell h1 (hS t h2 h1) 1).trans c1,hV.touch ht (hS v k1 hV.hp) (hS vb k2 hV.hb),hX.touch ht (hS x k3 hX.hx) (hS p k4 hX.vec.hp) (hS b k5 hX.vec.hb) (hS a k6 hX.ha),k1,k2,k3,k4,k5,k6⟩
theorem JRn.gr{w w':World}{F t n B:Nat}{L:List Ob}(h:JRn w F t n B L)(g:Gr w w'):JRn w' F t n B L:=h.touch (g.touch (λ_=>False)) (λ_ _ _ h=>h)
section
variable {w:World} {F t n B:Nat} {L:List Ob}
theorem VXx(hO:JRn w F t n B L)(hT:VRW w)(k:Int):
  V4y prog 239 #[.pointer (some ⟨t,0,none⟩),.int .i64 k] w (.tuple #[.int .i64 (V5E L k),.bool (Y2i L k)]):=by
 obtain⟨hg,h1,h2,v,vb,x,p,b,a,c0,c1,hV,hX,-⟩:=hO;rw[<-(Zop hg k).1,<-(Zop hg k).2];have HX:=hid hX;have HT:=hid hT;clear hX hT hV;unfold V4y;go_enter func239,ntmps239;go_wp2_with(go_at_call 241;refine(Qax HX.o HT.o k).mono ?_;rintro e w1 ⟨rfl,X⟩);go_ret2;exact⟨rfl,X⟩
theorem YWi(hO:JRn w F t n B L)(i:Int):V4y prog 179 #[.pointer (some ⟨t,0,none⟩),.int .i64 i] w (.int .i64 (VeJ L 0 i)):=by
 obtain⟨hg,h1,h2,v,vb,x,p,b,a,c0,c1,hV,hX,-⟩:=hO;rw[<-Yht hg];have HX:=hid hX;clear hX hV;unfold V4y;go_enter func179,ntmps179;go_wp2_with(go_at_call 213;refine(Zde HX.o i).mono ?_;rintro e w1 ⟨rfl,X⟩);go_ret;exact⟨rfl,X⟩
theorem ZaO(hO:JRn w F t n B L)(i:Int):Calls prog 178 #[.pointer (some ⟨t,0,none⟩),.int .i64 i] w λe w'=>e=.returned (.bool (decide (0<=i)&&VoH L i.toNat))/\w=w':=by
 obtain⟨hg,h1,h2,v,vb,x,p,b,a,c0,c1,hV,hX,-⟩:=hO;rw[<-Vm2 hg];have HV:=hid hV;clear hX hV;go_enter func178,ntmps178;go_wp2_with(go_at_call 212;refine(X89 HV.o i).mono ?_;rintro e w1 ⟨rfl,rfl⟩);go_ret;exact⟨rfl,rfl⟩
theorem XcN(hO:JRn w F t n B L):Calls prog 172 #[.pointer (some ⟨t,0,none⟩)] w λe w'=>e=.returned (.int .i64 (sizes L:Nat))/\w=w':=by
 obtain⟨hg,h1,h2,v,vb,x,p,b,a,c0,c1,hV,hX,-⟩:=hO;have HX:=hid hX
 have HL:Hid (cnt (at_ (JFT n L)) (JFT n L).length=sizes L):=⟨by
  have:=JrN hg n (π n);rw[Z3c hg]at this
  rw[Vsd];omega⟩
 clear hX hV;go_enter func172,ntmps172;go_wp2_with(go_at_call 207;refine(ZsP HX.o).mono ?_;rintro e w1 ⟨rfl,rfl⟩;rw[HL.o]);go_ret;exact⟨rfl,rfl⟩
end
end
section
open Go.RowKit Go.Shelf Word
attribute [local go_sem] Oper.semAt_some
structure Xjw(W0:World)(v vb n:Nat)(L:List Ob)(j:Nat)(A:World):Prop where
 t:XF4 (λi=>i=vb\/W0.heap.size<=i) W0 A
 jl:j<=L.length
 vec:Vec A v vb (JFT n (L.take j))
def V4V(w:World)(n:Nat)(L:List Ob)(k:Int)(e:Ending)(w':World):Prop:=
 Gr w w'/\((Y1d k=false/\e=.returned (.tuple #[.pointer none,.int .i64 5]))\/(Y1d k=true/\∃t B:Nat,k=B/\e=.returned (.tuple #[.pointer (some ⟨t,0,none⟩),.int .i64 0])/\JRn w' w.heap.size t n B L))
theorem Zjf{w:World}{m p1 b1 p2 b2 n:Nat}{L:List Ob}(hE:Ext w m p1 b1 p2 b2 n L)(hT:VRW w)(k:Int)(hk:k<=9223372036854775807):
  Calls prog 170 #[.pointer (some ⟨m,0,none⟩),.int .i64 k] w (V4V w n L k):=by
 have HE:=hid hE;have HT:=hid hT;obtain⟨Xs,Xz⟩:=hE.nb;have hn0:((n:Int)==0)=false:=ζy.2 Ω;clear hE hT;refine(ζa (n:=5)).1 ?_;refine callsIn_of_wp_marks func170 rfl trivial ?_ rfl;simp only[ntmps170,ξa,ζU,ξq,Nat.reduceAdd,Nat.reduceSub,ζ2,ζ1,ξf,ζ7,ξb,ζL]
 gi_wp2_with(first
  | (refine⟨trivial,?_⟩;gi_at_call 94;refine(ζa.2 (VSs HE.o)).mono ?_;rintro e w1 ⟨rfl,rfl⟩)
  | (refine⟨trivial,?_⟩;gi_at_call 92;refine(ζa.2 (Vk2 n Xs Xz _)).mono ?_;rintro e w1 ⟨v,vb,rfl,Xg,Xl,hv,Xp⟩;have G:=hid Xg;have Xb:=hid Xl;have HP:=hid (ν hv Xp);clear Xg Xl hv Xp)
  | (refine⟨trivial,?_⟩;gi_at_call 132;refine(ζa.2 (JMu (some ⟨m,0,none⟩))).mono ?_;rintro e w2 ⟨rfl,rfl⟩))
 obtain⟨X,hX⟩:∃X,X=w1.heap.size:=⟨_,rfl⟩;obtain⟨W0,J⟩:∃W0,W0=(w1.alloc (.cells #[.pointer (some ⟨v,0,none⟩)] 163)).alloc (.cells #[.pointer (some ⟨m,0,none⟩)] 103):=⟨_,rfl⟩;have M:Gr w1 W0:=by rw[J];exact((Gr.refl w1).alloc _).alloc _
 have hs0:W0.heap.size=X+2:=by rw[J,hX];simp
 have e0:W0.cell? ⟨X,0,none⟩=some (.pointer (some ⟨v,0,none⟩)):=by rw[J,hX];exact((Boxed.new w1 _ _).alloc _).cell
 have e1:W0.cell? ⟨X+1,0,none⟩=some (.pointer (some ⟨m,0,none⟩)):=by
  rw[J,hX];have:=Boxed.new (w1.alloc (.cells #[.pointer (some ⟨v,0,none⟩)] 163)) 103 (.pointer (some ⟨m,0,none⟩));rw[η]at this;exact this.cell
 have Xy:=G.o.size;have Xt:=Xb.o.hp;have Xw:=Xb.o.hb;have hz4:=HP.o.1;have hz5:=HP.o.2;rw[<-hX]at Xy Xt Xw;have o1:=HE.o.hm;have o2:=HE.o.v1.hp;have o3:=HE.o.v1.hb;have o4:=HE.o.v2.hp;have o5:=HE.o.v2.hb;have o6:=HT.o.lt;have Xd:=hid (G.o.trans M);have Xv:=hid (HE.o.gr (G.o.trans M));have Xq:=hid (Xb.o.gr M);have U:=HE.o.good;have O:=hid (ν e0 e1);rw[<-J,<-hX];clear J hX M e0 e1;have Yb:Xjw W0 v vb n L 0 W0:=⟨XF4.refl _ _,ζh _,by show Vec W0 v vb (JFT n []);rw[ZPf];exact Xq.o⟩
 have tI:∀j A B,Xjw W0 v vb n L j A->XF4 (λi=>W0.heap.size<=i) A B->Xjw W0 v vb n L j B:=λj A B h t=>
  ⟨h.t.trans (t.mono (λi _ h=>.inr h)),h.jl,h.vec.touch t Ω Ω⟩
 refine JQ9 (s0:=0) rfl Ω (gf:=173) (lb:=#[.pointer (some ⟨X+1,0,none⟩)]) rfl trivial (enters_of func173 (by kernel_rfl) rfl)
  (Xix _ (X+1) m p1 b1 p2 b2 n L _) (λ_=>rfl)
  (Xjw W0 v vb n L) (λ_ _=>False) tI (λ_ _ _ h _=>h)
  (λj A h=>⟨Xv.o.touch h.t Ω Ω Ω Ω Ω,(Xd.o.tab HT.o.lt HT.o).touch' h.t Ω,(h.t.cell Ω Ω 0).trans O.o.2,h.jl⟩)
  Yb ?round ?done (λ_ _ _ _ h _=>h.elim)
 case round=>
  intro lp j x W3 hsz3 Y Z;dsimp only[VYF];gi_wp2;refine⟨Gr.refl _,λW4 ht4 hI4=>?_⟩
  have N:j<L.length:=by
   rcases γ j L.length with h|h
   ·exact h
   ·unfold YdH at Z;rw[ζf h]at Z;cases Z
  obtain rfl:x=L[j]:=by unfold YdH at Z;rw[δ N]at Z;exact(Option.some.inj Z).symm
  have hsz':=U.sz _ (χ N);have Ya:=hid (Jw5 (n:=n) N);have c6:=(hI4.t.cell (b:=X) Ω Ω 0).trans O.o.1;have Xo:=hid hI4;clear hI4 Y ht4 Z;gi_wp2_with(refine⟨trivial,?_⟩;gi_at_call 204;refine(CallsIn.inRound lp (ζa.2 (XBA Xo.o.vec _ _ Ω))).mono ?_;rintro e w5 ⟨rfl,Xh,Xk⟩);rw[<-Ya.o]at Xk;exact⟨Xh.mono (λi _ h=>by have h:i=vb:=h;omega),j+1,rfl,Xo.o.t.trans (Xh.mono (λi _ h=>.inl h)),by omega,Xk⟩
 case done=>
  rintro D j W3 hD rfl Y hK;have c6:=(Y.t.cell (b:=X) Ω Ω 0).trans O.o.1;have E:=Y.vec;rw[ζT]at E;have I:=hid E;have HT3:=hid Y.t;have HK:=hid hK;have HD:=hid hD;have Xm:Gr w W3:=((Xd.o.touch (λ_=>False)).trans' Y.t (λi hi h=>by omega)).gr;have Xn:=hid Xm;have hz6:=Y.t.size;clear E Y hK hD Xm;cases hb:Y1d k with
  | false=>
   have HB:=hid hb;gi_wp2_with(refine⟨trivial,?_⟩;gi_at_call 205;refine(ζa.2 (XFA I.o k HB.o hk)).mono ?_;rintro e w4 ⟨rfl,rfl⟩);refine⟨by simp,.inl ⟨_,_,rfl,run_takeDeferred HK.o,?_⟩⟩;refine⟨.tuple #[.pointer none,.int .i64 5],?_,((Xn.o.touch (λ_=>False)).trans' (Xau _ D _ (π D)) (λi hi h=>by have:=HD.o;omega)).gr,.inl ⟨HB.o,rfl⟩⟩;simp[results,f170,go_sem]
  | true=>
   have hbp:=Quq hb;obtain⟨B,rfl⟩:∃B:Nat,k=B:=⟨k.toNat,by omega⟩;have HB:=hid hb;gi_wp2_with(refine⟨trivial,?_⟩;gi_at_call 205;refine(ζa.2 (Zv3 I.o B HB.o)).mono ?_;rintro e w4 ⟨x,p,b,a,rfl,Xa,Xc,Xi,Xj,Xf,Xe⟩;have c64:=(Xa.cell (ZQf c6) 0).trans c6;have V:=hid Xa;have Xr:=hid Xc;have Xu:=hid (ν Xi (ν Xj (ν Xf Xe)));clear Xa Xc Xi Xj Xf Xe)
   have Xx:(w4.alloc (.cells #[.pointer (some ⟨v,0,none⟩),.pointer (some ⟨x,0,none⟩)] 281)).heap[D]?=some (.deferred (some [])):=
    (((V.o.alloc _).block (ζn.1 HK.o).1)).trans HK.o
   have tt:=((Xn.o.trans (V.o.alloc (.cells #[.pointer (some ⟨v,0,none⟩),.pointer (some ⟨x,0,none⟩)] 281))).touch (λ_=>False)).trans' (Xau _ D (.deferred none) (π D)) (λi hi h=>by have:=HD.o;omega);refine⟨by simp,.inl ⟨_,_,rfl,run_takeDeferred Xx,?_⟩⟩;refine⟨.tuple #[.pointer (some ⟨w4.heap.size,0,none⟩),.int .i64 0],?_,tt.gr,.inr ⟨HB.o,w4.heap.size,B,rfl,rfl,?_⟩⟩
   ·simp[results,f170,go_sem]
   ·have t5:=Vx3 (w4.alloc (.cells #[.pointer (some ⟨v,0,none⟩),.pointer (some ⟨x,0,none⟩)] 281)) D (.deferred none);have hs4:=V.o.size;have hz:=Xu.o;have hdl:=(ζn.1 HK.o).1;have hd:=HD.o;have hl:w4.heap.size<(w4.alloc (.cells #[.pointer (some ⟨v,0,none⟩),.pointer (some ⟨x,0,none⟩)] 281)).heap.size:=by rw[η];omega
    exact⟨U,ω hl t5.size,by omega,v,vb,x,p,b,a,(t5.cell (b:=w4.heap.size) hl Ω 0).trans (ζq ..),(t5.cell (b:=w4.heap.size) hl Ω 1).trans (ζq ..),
     ((I.o.gr V.o).gr ((Gr.refl _).alloc _)).touch t5 Ω Ω,(Xr.o.gr ((Gr.refl _).alloc _)).touch t5 Ω Ω Ω Ω,by omega,by omega,by omega,by omega,by omega,by omega⟩
end
section
open Word
def XEF:List Ob->Nat->Nat
 | [],_=>0
 | o :: r,q=>if q<o.2 then 0 else XEF r (q-o.2)+1
theorem VBJ{L:List Ob}:∀{q:Nat},q<sizes L->∃hj:XEF L q<L.length,∃i,i<(L[XEF L q]'hj).2/\q=sizes (L.take (XEF L q))+i/\JlZ L q=some ((L[XEF L q]'hj).1+i):=by
 induction L with
 | nil=>intro q h;simp[sizes]at h
 | cons o r ih=>
  intro q h;by_cases hq:q<o.2
  ·have e:XEF (o :: r) q=0:=μ hq;refine⟨by rw[e];simp,q,?_⟩;simp only[e];exact⟨hq,by simp[sizes],by unfold JlZ;rw[μ hq];rfl⟩
  ·have e:XEF (o :: r) q=XEF r (q-o.2)+1:=ϑ hq;unfold sizes at h;obtain⟨hj,i,h1,h2,h3⟩:=ih (q:=q-o.2) Ω;refine⟨by rw[e];simpa using hj,i,?_⟩;simp only[e];exact⟨h1,by simp only[ξQ,sizes];omega,by unfold JlZ;rw[ϑ hq];exact h3⟩
theorem VNq{L:List Ob}{j i:Nat}(hj:j<L.length)(hi:i<L[j].2):XEF L (sizes (L.take j)+i)=j:=by
 induction L generalizing j with
 | nil=>simp at hj
 | cons o r ih=>
  cases j with
  | zero=>
   have hi:i<o.2:=hi;simp only[List.take_zero,sizes,ξN,XEF];rw[μ hi]
  | succ j=>
   have:=ih (j:=j) (by simpa using hj) (by simpa using hi);simp only[ξQ,sizes,XEF];rw[ϑ Ω,show o.2+sizes (List.take j r)+i-o.2=sizes (List.take j r)+i by omega,this]
theorem Zut(L:List Ob)(j:Nat):sizes (L.take j)<=sizes L:=by
 induction L generalizing j with
 | nil=>simp[sizes]
 | cons o r ih=>
  cases j with
  | zero=>simp[sizes]
  | succ j=>have:=ih j;simp only[ξQ,sizes];omega
theorem VfC{L:List Ob}{j:Nat}(hj:j<L.length):sizes (L.take j)+L[j].2<=sizes L:=by
 rw[<-Qsm hj];exact Zut L (j+1)
def toV(L:List Ob)(base a:Int):Int:=if ZH8 L a<L.length then base+VeJ L 0 a else 0
def toE(L:List Ob)(a:Int):Int:=if ZH8 L a<L.length then 0 else 6
theorem YXt{n:Nat}{L:List Ob}(h:Q4l n L){base a:Int}{j:Nat}(hj:j<L.length)(h1:(L[j].1:Int)<=a)(h2:a<L[j].1+L[j].2):
  toV L base a=base+sizes (L.take j)+a-(L[j].1:Nat)/\toE L a=0:=by
 have e:=XxN h hj h1 h2;have hs:=Yhz h hj (i:=(a-L[j].1).toNat) Ω;rw[show (L[j].1:Int)+((a-L[j].1).toNat:Nat)=a by omega]at hs;unfold toV toE;rw[μ Ω,μ Ω,hs];exact⟨by omega,rfl⟩
theorem YPG{L:List Ob}{base a:Int}(h:¬ZH8 L a<L.length):toV L base a=0/\toE L a=6:=by
 unfold toV toE;rw[ϑ h,ϑ h];exact⟨rfl,rfl⟩
theorem QFq{L:List Ob}(a:Int):(decide (0<=a)&&VoH L a.toNat)=decide (ZH8 L a<L.length):=by
 by_cases h:0<=a
 ·rw[κ h,Q5g,show ((a.toNat:Nat):Int)=a by omega];rfl
 ·rw[ψ h];rw[ZDJ (λo _=>by omega)];simp
def inF(L:List Ob)(base b:Int):Bool:=decide (base<=b)&&decide (b<base+(sizes L:Nat))
def Xbb(L:List Ob)(base b:Int):Int:=if inF L base b then V5E L (b-base)else 0
def JSL(L:List Ob)(base b:Int):Int:=if inF L base b then (XEF L (b-base).toNat:Nat)else 0
def Zdp(L:List Ob)(base b:Int):Int:=if inF L base b then 0 else 11
theorem Qy1{L:List Ob}{base b:Int}:inF L base b=true↔base<=b/\b<base+(sizes L:Nat):=by simp[inF]
theorem V4q{L:List Ob}{base b:Int}(h:¬(base<=b/\b<base+(sizes L:Nat))):inF L base b=false:=by
 cases e:inF L base b with
 | false=>rfl
 | true=>exact absurd (Qy1.1 e) h
theorem Z2d{L:List Ob}{j i:Nat}(hj:j<L.length)(hi:i<L[j].2):V5E L ((sizes (L.take j)+i:Nat):Int)=(L[j].1+i:Nat):=by
 unfold V5E;rw[ϑ Ω,τ,XEK hj hi];rfl
theorem QCo{L:List Ob}{base b:Int}{j:Nat}(hj:j<L.length)(h1:base+(sizes (L.take j):Nat)<=b)(h2:b<base+(sizes (L.take j):Nat)+(L[j].2:Nat)):
  Xbb L base b=(L[j].1:Nat)+b-(base+(sizes (L.take j):Nat))/\JSL L base b=j/\Zdp L base b=0:=by
 have hm:=VfC hj;have Y:inF L base b=true:=Qy1.2 ⟨by omega,by omega⟩;obtain⟨i,hi⟩:∃i:Nat,b-base=((sizes (L.take j)+i:Nat):Int):=⟨(b-base).toNat-sizes (L.take j),by omega⟩;have X:i<L[j].2:=Ω
 unfold Xbb JSL Zdp;rw[Y,μ rfl,μ rfl,μ rfl,hi,Z2d hj X,τ,VNq hj X];exact⟨by omega,rfl,rfl⟩
theorem Vtd{L:List Ob}{base b:Int}(h:inF L base b=false):Xbb L base b=0/\JSL L base b=0/\Zdp L base b=11:=by
 unfold Xbb JSL Zdp;rw[h];exact⟨rfl,rfl,rfl⟩
theorem Zeb{n:Nat}{L:List Ob}(h:Q4l n L){base b:Int}(hb:inF L base b=true):∃j,∃hj:j<L.length,JSL L base b=j/\(L[j].1:Int)<=Xbb L base b/\Xbb L base b<L[j].1+L[j].2/\ZH8 L (Xbb L base b)=j/\Zdp L base b=0:=by
 obtain⟨h1,h2⟩:=Qy1.1 hb;obtain⟨hj,i,hi,e,-⟩:=VBJ (L:=L) (q:=(b-base).toNat) Ω;obtain⟨a1,a2,a3⟩:=QCo (base:=base) (b:=b) hj Ω Ω;refine⟨_,hj,a2,by omega,by omega,XxN h hj Ω Ω,a3⟩
theorem Ye3{M:List Ob}{o:Ob}(h:∀y∈M,¬o.1<y.1):VZz M o=M++[o]:=by
 induction M with
 | nil=>rfl
 | cons y r ih=>
  unfold VZz;rw[ϑ (h y (ζg ..)),ih (λz hz=>h z (ζo _ hz))];rfl
theorem Zne{n:Nat}{L:List Ob}(h:Q4l n L){j:Nat}(hj:j<L.length):VI0 (L.take j) n (L[j].1:Nat) (L[j].2:Nat)=L.take (j+1):=by
 have hs:=h.sz _ (χ hj)
 have X:∀o∈L.take j,o.1+o.2<=L[j].1:=λo ho=>by
  obtain⟨i,hi,Y,rfl⟩:=XDP ho;exact h.at hi hj Y
 have hc:Jf9 (L.take j) (L[j].1:Nat) (L[j].2:Nat)=false:=by
  cases e:Jf9 (L.take j) (L[j].1:Nat) (L[j].2:Nat)with
  | false=>rfl
  | true=>obtain⟨o,ho,h1,h2⟩:=Y01.1 e;have:=X o ho;omega
 have he:ZbB (L.take j) n (L[j].1:Nat) (L[j].2:Nat)=0:=by
  unfold ZbB;rw[ϑ Ω,ϑ Ω,hc];rfl
 unfold VI0;rw[μ he,τ,τ,Ye3 (λy hy=>by have:=X y hy;omega),ξe hj]
end
section
open Go.RowKit Word
def Fwd(w:World)(F f n B:Nat)(base:Nat)(L:List Ob):Prop:=
 f<w.heap.size/\F<=f/\base<2147483648/\∃t o p1 b1 p2 b2,w.cell? ⟨f,0,none⟩=some (.pointer (some ⟨t,0,none⟩))/\w.cell? ⟨f,1,none⟩=some (.pointer (some ⟨o,0,none⟩))/\w.cell? ⟨f,2,none⟩=some (.int .i64 base) ∧
  JRn w F t n B L/\Ext w o p1 b1 p2 b2 n L/\F<=o/\F<=p1/\F<=b1/\F<=p2/\F<=b2
theorem Fwd.touch{S:Nat->Prop}{w w':World}{F f n B base:Nat}{L:List Ob}(h:Fwd w F f n B base L)(t:XF4 S w w')(hS:∀k,F<=k->k<w.heap.size->¬S k):Fwd w' F f n B base L:=by
 obtain⟨h1,h2,h3,tt,o,p1,b1,p2,b2,c0,c1,c2,hO,hE,k1,k2,k3,k4,k5⟩:=h;exact⟨ω h1 t.size,h2,h3,tt,o,p1,b1,p2,b2,(t.cell h1 (hS f h2 h1) 0).trans c0,(t.cell h1 (hS f h2 h1) 1).trans c1,(t.cell h1 (hS f h2 h1) 2).trans c2,hO.touch t hS,hE.touch t (hS _ k1 hE.hm) (hS _ k2 hE.v1.hp) (hS _ k3 hE.v1.hb) (hS _ k4 hE.v2.hp) (hS _ k5 hE.v2.hb),k1,k2,k3,k4,k5⟩
theorem Fwd.gr{w w':World}{F f n B base:Nat}{L:List Ob}(h:Fwd w F f n B base L)(g:Gr w w'):Fwd w' F f n B base L:=h.touch (g.touch (λ_=>False)) (λ_ _ _ h=>h)
theorem Fwd.good{w:World}{F f n B base:Nat}{L:List Ob}(h:Fwd w F f n B base L):Q4l n L/\n<=1048576:=by
 obtain⟨_,_,_,_,_,_,_,_,_,_,_,_,hO,hE,_⟩:=h;exact⟨hE.good,hE.nb.2⟩
theorem ZOz{n:Nat}{L:List Ob}(h:Q4l n L)(hn:n<=1048576)(a:Int):0<=VeJ L 0 a/\VeJ L 0 a<=1048576:=by
 rw[<-XxJ h];have:JM8 L n 0 a<=n:=QMh _ _;omega
section
variable {w:World} {F f n B base:Nat} {L:List Ob}
theorem Vcy(hF:Fwd w F f n B base L)(a:Int):V4y prog 135 #[.pointer (some ⟨f,0,none⟩),.int .i64 a] w (.tuple #[.int .i64 (toV L base a),.int .i64 (toE L a)]):=by
 obtain⟨hg,hn⟩:=hF.good;obtain⟨h1,h2,h3,t,o,p1,b1,p2,b2,c0,c1,c2,hO,hE,-⟩:=hF;have HO:=hid hO;have J:=ZOz hg hn a;have hl:=QFq (L:=L) a;clear hO hE hg;by_cases hf:ZH8 L a<L.length
 ·have HV:Hid (toV L base a=base+VeJ L 0 a/\toE L a=0):=⟨by unfold toV toE;rw[μ hf,μ hf];exact⟨rfl,rfl⟩⟩;have HL:Hid ((decide (0<=a)&&VoH L a.toNat)=true):=⟨by rw[hl,κ hf]⟩;rw[HV.o.1,HV.o.2];obtain⟨ov,X⟩:∃ov,ov=VeJ L 0 a:=⟨_,rfl⟩;rw[<-X]at J⊢;have Z:=hid X.symm;have z0:∀xs m,(grow w xs m).cell? ⟨f,0,none⟩=some (.pointer (some ⟨t,0,none⟩)):=λxs m=>((grown w xs m).cell h1 0).trans c0;have z2:∀xs m,(grow w xs m).cell? ⟨f,2,none⟩=some (.int .i64 base):=λxs m=>((grown w xs m).cell h1 2).trans c2;have hwr:IntKind.i64.wrap ((base:Int)+ov)=(base:Int)+ov:=ζA _ Ω;clear hl hf X;unfold V4y;go_enter func135,ntmps135;go_wp2_with(go_at_call 178;refine(ZaO HO.o a).mono ?_;rintro e w1 ⟨rfl,rfl⟩;rw[HL.o]);refine XAX (by kernel_rfl) (by kernel_rfl) ?_
  repeat(go_big_quiet_step ((go_at_call 179;have hc:=λxs m=>YWi (HO.o.gr (grown w xs m)) a;simp only[Z.o]at hc;exact V4y.grown (hc _ _))))
  refine θ ?_;intro _ U;obtain⟨⟨xs,nq⟩,Y⟩:=U;subst Y;go_wp2;go_ret2;exact⟨rfl,grown w _ _⟩
 ·have HV:=hid (YPG (base:=base) hf);have HL:Hid ((decide (0<=a)&&VoH L a.toNat)=false):=⟨by rw[hl,ψ hf]⟩;rw[HV.o.1,HV.o.2];clear hl hf;unfold V4y;go_enter func135,ntmps135;go_wp2_with(go_at_call 178;refine(ZaO HO.o a).mono ?_;rintro e w1 ⟨rfl,rfl⟩;rw[HL.o]);go_ret2;exact⟨rfl,Gr.refl _⟩
theorem JwE(hF:Fwd w F f n B base L):Calls prog 214 #[.pointer (some ⟨f,0,none⟩)] w λe w'=>e=.returned (.int .i64 base)/\w=w':=by
 obtain⟨h1,h2,h3,t,o,p1,b1,p2,b2,c0,c1,c2,-⟩:=hF;go_enter func214,ntmps214;go_wp2;go_ret;exact⟨rfl,rfl⟩
theorem Q14(hF:Fwd w F f n B base L):Calls prog 157 #[.pointer (some ⟨f,0,none⟩)] w λe w'=>e=.returned (.int .i64 (sizes L:Nat))/\w=w':=by
 obtain⟨h1,h2,h3,t,o,p1,b1,p2,b2,c0,c1,c2,hO,-⟩:=hF;have HO:=hid hO;clear hO;go_enter func157,ntmps157;go_wp2_with(go_at_call 172;refine(XcN HO.o).mono ?_;rintro e w1 ⟨rfl,rfl⟩);go_ret;exact⟨rfl,rfl⟩
theorem ZMu(hF:Fwd w F f n B base L):V4y prog 131 #[.pointer (some ⟨f,0,none⟩)] w (.int .i64 ((base:Int)+(sizes L:Nat))):=by
 obtain⟨hg,hn⟩:=hF.good;have hs:=XY5 hg;obtain⟨h1,h2,h3,t,o,p1,b1,p2,b2,c0,c1,c2,hO,-⟩:=hF;have HO:=hid hO;clear hO hg;have z0:∀xs m,(grow w xs m).cell? ⟨f,0,none⟩=some (.pointer (some ⟨t,0,none⟩)):=λxs m=>((grown w xs m).cell h1 0).trans c0;have z2:∀xs m,(grow w xs m).cell? ⟨f,2,none⟩=some (.int .i64 base):=λxs m=>((grown w xs m).cell h1 2).trans c2;have hwr:IntKind.i64.wrap ((base:Int)+(sizes L:Nat))=(base:Int)+(sizes L:Nat):=ζA _ Ω;unfold V4y;go_enter func131,ntmps131;go_wp2;refine XAX (by kernel_rfl) (by kernel_rfl) ?_
 repeat(go_big_quiet_step ((go_at_call 172;have hc:=λxs m=>XcN (HO.o.gr (grown w xs m));exact V4y.grown_same (hc _ _))))
 refine θ ?_;intro _ Y;obtain⟨⟨xs,nq⟩,X⟩:=Y;subst X;go_wp2;go_ret;exact⟨rfl,grown w _ _⟩
theorem ZNk(hF:Fwd w F f n B base L)(hT:VRW w)(b:Int)(_hb:b<=9223372036854775807):V4y prog 232 #[.pointer (some ⟨f,0,none⟩),.int .i64 b] w (.tuple #[.int .i64 (Xbb L base b),.int .i64 (Zdp L base b)]):=by
 obtain⟨hg,hn⟩:=hF.good;have hs:=XY5 hg;have HF:=hid hF;have HT:=hid hT;obtain⟨h1,h2,h3,t,o,p1,b1,p2,b2,c0,c1,c2,hO,-⟩:=hF;have HO:=hid hO;clear hO hg hT;by_cases V:b<base
 ·have E:=hid (Vtd (V4q (L:=L) (base:=base) (b:=b) Ω));rw[E.o.1,E.o.2.2];unfold V4y;go_enter func232,ntmps232;go_wp2;go_ret2;exact⟨rfl,Gr.refl _⟩
 ·by_cases Z:(base:Int)+(sizes L:Nat)<=b
  ·have E:=hid (Vtd (V4q (L:=L) (base:=base) (b:=b) Ω));rw[E.o.1,E.o.2.2];have d1:decide (b<(base:Int))=false:=ψ V;have d2:decide ((base:Int)+(sizes L:Nat)<=b)=true:=κ Z;unfold V4y;go_enter func232,ntmps232;go_wp2_with(go_at_call 131;refine(ZMu HF.o).mono ?_;rintro e w1 ⟨rfl,Y⟩);go_ret2;exact⟨rfl,Y⟩
  ·have J:inF L base b=true:=Qy1.2 ⟨by omega,by omega⟩;have E:Hid (Xbb L base b=V5E L (b-base)/\Zdp L base b=0):=⟨by unfold Xbb Zdp;rw[J];exact⟨rfl,rfl⟩⟩;rw[E.o.1,E.o.2];obtain⟨q,hq⟩:∃q,q=b-(base:Int):=⟨_,rfl⟩;have HQ:=hid hq;have hq2:(0:Int)<=b-base:=Ω
   have d1:decide (b<(base:Int))=false:=ψ V;have d2:decide ((base:Int)+(sizes L:Nat)<=b)=false:=ψ Z;have hwr:IntKind.i64.wrap (b-(base:Int))=b-(base:Int):=ζA _ Ω;clear J hq;unfold V4y;go_enter func232,ntmps232;go_wp2_with(go_at_call 131;refine(ZMu HF.o).mono ?_;rintro e w1 ⟨rfl,Y⟩);have X:=hid Y;have z0:∀xs m,(grow w1 xs m).cell? ⟨f,0,none⟩=some (.pointer (some ⟨t,0,none⟩)):=λxs m=>((X.o.trans (grown w1 xs m)).cell h1 0).trans c0;have z2:∀xs m,(grow w1 xs m).cell? ⟨f,2,none⟩=some (.int .i64 base):=λxs m=>((X.o.trans (grown w1 xs m)).cell h1 2).trans c2;clear Y;refine XAX (by kernel_rfl) (by kernel_rfl) ?_
   repeat(go_big_quiet_step ((go_at_call 239;have hc:=λxs m=>VXx (HO.o.gr (X.o.trans (grown w1 xs m))) ((X.o.trans (grown w1 xs m)).tab HT.o.lt HT.o) (b-(base:Int));exact V4y.grown (hc _ _))))
   refine θ ?_;intro _ M;obtain⟨⟨xs,nq⟩,U⟩:=M;subst U;go_wp2;go_ret2;exact⟨rfl,X.o.trans (grown w1 _ _)⟩
end
end
section
open Go.RowKit Go.Shelf Word
attribute [local go_sem] Oper.semAt_some
structure XAn(W0:World)(o p1 b1 p2 b2 n:Nat)(L:List Ob)(j:Nat)(A:World):Prop where
 t:XF4 (λi=>YBz o b1 b2 i\/W0.heap.size<=i) W0 A
 jl:j<=L.length
 ext:Ext A o p1 b1 p2 b2 n (L.take j)
def ZZx(b:Int):Bool:=decide (0<=b)&&decide (b<2147483648)
def VWZ(w:World)(n:Nat)(L:List Ob)(k b:Int)(e:Ending)(w':World):Prop:=
 Gr w w'/\(((Y1d k&&ZZx b)=false/\e=.returned (.tuple #[.pointer none,.int .i64 5]))\/((Y1d k&&ZZx b)=true/\∃f B base:Nat,k=B/\b=base/\e=.returned (.tuple #[.pointer (some ⟨f,0,none⟩),.int .i64 0])/\Fwd w' w.heap.size f n B base L))
theorem XJm{w:World}{m p1 b1 p2 b2 n:Nat}{L:List Ob}(hE:Ext w m p1 b1 p2 b2 n L)(hT:VRW w)(k b:Int)(hk:k<=9223372036854775807)(hbad:(Y1d k&&ZZx b)=false):
  Calls prog 130 #[.pointer (some ⟨m,0,none⟩),.int .i64 k,.int .i64 b] w (VWZ w n L k b):=by
 have HE:=hid hE;have HT:=hid hT;clear hE hT;have HB:=hid hbad;refine(ζa (n:=5)).1 ?_;refine callsIn_of_wp_marks func130 rfl trivial ?_ rfl;simp only[ntmps130,ξa,ζU,ξq,Nat.reduceAdd,Nat.reduceSub,ζ2,ζ1,ξf,ζ7,ξb,ζL];cases hok:Y1d k with
 | false=>
  have HO:=hid hok;clear hbad hok;gi_wp2_with(refine⟨trivial,?_⟩;gi_at_call 170;refine(ζa.2 (Zjf HE.o HT.o k hk)).mono ?_;rintro e w1 ⟨X,⟨-,rfl⟩|⟨hb,-⟩⟩;rotate_left;(rw[HO.o]at hb;cases hb);have Y:=hid X;clear X);refine⟨.tuple #[.pointer none,.int .i64 5],?_,Y.o,.inl ⟨HB.o,rfl⟩⟩;simp[results,f130,go_sem]
 | true=>
  rw[hok,ξY]at hbad;have HO:=hid hok;clear hok;by_cases h0:b<0
  ·have d0:decide (b<0)=true:=κ h0;clear hbad;gi_wp2_with(refine⟨trivial,?_⟩;gi_at_call 170;refine(ζa.2 (Zjf HE.o HT.o k hk)).mono ?_;rintro e w1 ⟨X,⟨hb,-⟩|⟨-,t,B,Z,rfl,hO⟩⟩;(rw[HO.o]at hb;cases hb);have Y:=hid X;clear X hO Z);refine⟨.tuple #[.pointer none,.int .i64 5],?_,Y.o,.inl ⟨HB.o,rfl⟩⟩;simp[results,f130,go_sem]
  ·have h1:2147483648<=b:=by
    unfold ZZx at hbad;rw[κ Ω,ξY]at hbad;have:=of_decide_eq_false hbad;omega
   have d0:decide (b<0)=false:=ψ h0;have d1:decide ((2147483648:Int)<=b)=true:=κ h1;clear hbad;gi_wp2_with(refine⟨trivial,?_⟩;gi_at_call 170;refine(ζa.2 (Zjf HE.o HT.o k hk)).mono ?_;rintro e w1 ⟨X,⟨hb,-⟩|⟨-,t,B,Z,rfl,hO⟩⟩;(rw[HO.o]at hb;cases hb);have Y:=hid X;clear X hO Z);refine⟨.tuple #[.pointer none,.int .i64 5],?_,Y.o,.inl ⟨HB.o,rfl⟩⟩;simp[results,f130,go_sem]
theorem XRP{w:World}{m p1 b1 p2 b2 n:Nat}{L:List Ob}(hE:Ext w m p1 b1 p2 b2 n L)(hT:VRW w)(k b:Int)(hk:k<=9223372036854775807):
  Calls prog 130 #[.pointer (some ⟨m,0,none⟩),.int .i64 k,.int .i64 b] w (VWZ w n L k b):=by
 cases hgo:(Y1d k&&ZZx b)with
 | false=>exact XJm hE hT k b hk hgo
 | true=>
  have Yj:=hid hgo;obtain⟨Xr,Xc⟩:=ζ0.1 hgo;have Xo:0<=b/\b<2147483648:=by unfold ZZx at Xc;simpa using Xc
  obtain⟨base,rfl⟩:∃base:Nat,b=base:=⟨b.toNat,by omega⟩;obtain⟨hb0,hb1⟩:=Xo;have d0:decide ((base:Int)<0)=false:=ψ Ω;have d1:decide ((2147483648:Int)<=(base:Int))=false:=ψ Ω;have HO:=hid Xr;have HE:=hid hE;have HT:=hid hT;obtain⟨Xu,Ye⟩:=hE.nb;have hTl:=hT.lt;clear hE hT Xr Xc hgo;refine(ζa (n:=5)).1 ?_;refine callsIn_of_wp_marks func130 rfl trivial ?_ rfl;simp only[ntmps130,ξa,ζU,ξq,Nat.reduceAdd,Nat.reduceSub,ζ2,ζ1,ξf,ζ7,ξb,ζL]
  gi_wp2_with(first
   | (refine⟨trivial,?_⟩;gi_at_call 170;refine(ζa.2 (Zjf HE.o HT.o k hk)).mono ?_;rintro e w1 ⟨Xh,⟨hb,-⟩|⟨-,t,B,Xe,rfl,hO⟩⟩;(rw[HO.o]at hb;cases hb);have Xa:=hid Xh;have Yc:=hid hO;have Xx:=hid Xe;clear Xh hO Xe)
   | (refine⟨trivial,?_⟩;gi_at_call 94;refine(ζa.2 (VSs (HE.o.gr Xa.o))).mono ?_;rintro e w2 ⟨rfl,rfl⟩)
   | (refine⟨trivial,?_⟩;gi_at_call 51;refine(ζa.2 (XMw n Xu Ye _)).mono ?_;rintro e w2 ⟨o,q1,r1,q2,r2,rfl,Xn,Xp,Xj,Xk,Xg,Xf,Xm⟩;have Xb:=hid Xn;have V:=hid Xp;have HX:=hid (ν Xj (ν Xk (ν Xg (ν Xf Xm))));clear Xn Xp Xj Xk Xg Xf Xm)
   | (refine⟨trivial,?_⟩;gi_at_call 132;refine(ζa.2 (JMu (some ⟨m,0,none⟩))).mono ?_;rintro e w3 ⟨rfl,rfl⟩))
  obtain⟨X,hX⟩:∃X,X=w2.heap.size:=⟨_,rfl⟩;obtain⟨W0,U⟩:∃W0,W0=(w2.alloc (.cells #[.pointer (some ⟨o,0,none⟩)] 103)).alloc (.cells #[.pointer (some ⟨m,0,none⟩)] 103):=⟨_,rfl⟩;have I:Gr w2 W0:=by rw[U];exact((Gr.refl w2).alloc _).alloc _
  have hs0:W0.heap.size=X+2:=by rw[U,hX];simp
  have e0:W0.cell? ⟨X,0,none⟩=some (.pointer (some ⟨o,0,none⟩)):=by rw[U,hX];exact((Boxed.new w2 _ _).alloc _).cell
  have e1:W0.cell? ⟨X+1,0,none⟩=some (.pointer (some ⟨m,0,none⟩)):=by
   rw[U,hX];have:=Boxed.new (w2.alloc (.cells #[.pointer (some ⟨o,0,none⟩)] 103)) 103 (.pointer (some ⟨m,0,none⟩));rw[η]at this;exact this.cell
  have Yb:=Xa.o.size;have Xv:=Xb.o.size;have o1:=HE.o.hm;have o2:=HE.o.v1.hp;have o3:=HE.o.v1.hb;have o4:=HE.o.v2.hp;have o5:=HE.o.v2.hb;have j1:=V.o.hm;have j2:=V.o.v1.hp;have j3:=V.o.v1.hb;have j4:=V.o.v2.hp;have j5:=V.o.v2.hb;have hx:=HX.o;rw[<-hX]at Xv j1 j2 j3 j4 j5;have M:=hid ((Xa.o.trans Xb.o).trans I);have Xy:=hid (HE.o.gr M.o);have Xz:=hid (V.o.gr I);have Xt:=hid (Xb.o.trans I);have N:=HE.o.good;have E:=hid (ν e0 e1);have HW1:=hid (show w.heap.size<=w1.heap.size from Yb);rw[<-U,<-hX];clear U hX I e0 e1;have Y:∀i,YBz o r1 r2 i->w1.heap.size<=i/\i<X:=λi h=>by rcases h with rfl|rfl|rfl <;> omega
  have Yi:XAn W0 o q1 r1 q2 r2 n L 0 W0:=⟨XF4.refl _ _,ζh _,Xz.o⟩
  have tI:∀j A B,XAn W0 o q1 r1 q2 r2 n L j A->XF4 (λi=>W0.heap.size<=i) A B->XAn W0 o q1 r1 q2 r2 n L j B:=λj A B h t=>
   ⟨h.t.trans (t.mono (λi _ h=>.inr h)),h.jl,h.ext.touch t Ω Ω Ω Ω Ω⟩
  refine JQ9 (s0:=0) rfl Ω (gf:=173) (lb:=#[.pointer (some ⟨X+1,0,none⟩)]) rfl trivial (enters_of func173 (by kernel_rfl) rfl)
   (Xix _ (X+1) m p1 b1 p2 b2 n L _) (λ_=>rfl)
   (XAn W0 o q1 r1 q2 r2 n L) (λ_ _=>False) tI (λ_ _ _ h _=>h)
   (λj A h=>⟨Xy.o.touch h.t (λh=>by rcases h with h|h;have:=Y _ h;omega;omega) (λh=>by rcases h with h|h;have:=Y _ h;omega;omega) (λh=>by rcases h with h|h;have:=Y _ h;omega;omega) (λh=>by rcases h with h|h;have:=Y _ h;omega;omega) (λh=>by rcases h with h|h;have:=Y _ h;omega;omega),
    (M.o.tab HT.o.lt HT.o).touch' h.t (λh=>by rcases h with h|h;have:=Y _ h;omega;omega),(h.t.cell Ω (λh=>by rcases h with h|h;have:=Y _ h;omega;omega) 0).trans E.o.2,h.jl⟩)
   Yi ?round ?done (λ_ _ _ _ h _=>h.elim)
  case round=>
   intro lp j x W3 hsz3 Z J;dsimp only[VYF];gi_wp2;refine⟨Gr.refl _,λW4 ht4 hI4=>?_⟩
   have Xd:j<L.length:=by
    rcases γ j L.length with h|h
    ·exact h
    ·unfold YdH at J;rw[ζf h]at J;cases J
   obtain rfl:x=L[j]:=by unfold YdH at J;rw[δ Xd]at J;exact(Option.some.inj J).symm
   have hsz':=N.sz _ (χ Xd);have Yh:=hid (Zne N Xd);have c6:=(hI4.t.cell (b:=X) Ω (λh=>by rcases h with h|h;have:=Y _ h;omega;omega) 0).trans E.o.1;have Yg:=hid ((M.o.tab HT.o.lt HT.o).touch' hI4.t (λh=>by rcases h with h|h;have:=Y _ h;omega;omega));have Xs:=hid hI4;clear hI4 Z ht4 J;gi_wp2_with(refine⟨trivial,?_⟩;gi_at_call 171;refine(CallsIn.inRound lp (ζa.2 (Zc1 Xs.o.ext Yg.o _ _))).mono ?_;rintro e w5 ⟨rfl,Xi,Xl⟩);rw[Yh.o]at Xl;exact⟨Xi.mono (λi _ h=>by have:=Y _ h;omega),j+1,rfl,Xs.o.t.trans (Xi.mono (λi _ h=>.inl h)),by omega,Xl⟩
  case done=>
   rintro D j W3 hD rfl Z hK;have c6:=(Z.t.cell (b:=X) Ω (λh=>by rcases h with h|h;have:=Y _ h;omega;omega) 0).trans E.o.1;have G:=Z.ext;rw[ζT]at G;have Yd:=hid G;have Xw:=hid ((Xt.o.touch (λi=>w1.heap.size<=i)).trans' Z.t (λi hi h=>by rcases h with h|h;exact(Y _ h).1;omega));have HK:=hid hK;have HD:=hid hD;have Xq:Gr w W3:=((M.o.touch (λ_=>False)).trans' Z.t (λi hi h=>by rcases h with h|h;have:=Y _ h;omega;omega)).gr;have Yf:=hid Xq;have hz6:=Z.t.size;clear G Z hK hD Xq;gi_wp2;obtain⟨O,hO⟩:∃O:Obj,O=.cells #[.pointer (some ⟨t,0,none⟩),.pointer (some ⟨o,0,none⟩),.int .i64 base] 249:=⟨_,rfl⟩;rw[<-hO];have Ya:(W3.alloc O).heap[D]?=some (.deferred (some [])):=(((Gr.refl W3).alloc _).block (ζn.1 HK.o).1).trans HK.o;have tt:=((Yf.o.alloc O).touch (λ_=>False)).trans' (Xau _ D (.deferred none) (π D)) (λi hi h=>by have:=HD.o;have:=M.o.size;omega);refine⟨by simp,.inl ⟨_,_,rfl,run_takeDeferred Ya,?_⟩⟩;refine⟨.tuple #[.pointer (some ⟨W3.heap.size,0,none⟩),.int .i64 0],?_,tt.gr,.inr ⟨Yj.o,W3.heap.size,B,base,Xx.o,rfl,rfl,?_⟩⟩
   ·simp[results,f130,go_sem]
   ·have t5:=Vx3 (W3.alloc O) D (.deferred none);have hdl:=(ζn.1 HK.o).1;have hd:=HD.o;have hl:W3.heap.size<(W3.alloc O).heap.size:=by rw[η];omega
    subst hO
    exact⟨ω hl t5.size,by omega,by omega,t,o,q1,r1,q2,r2,(t5.cell (b:=W3.heap.size) hl Ω 0).trans (ζq ..),(t5.cell (b:=W3.heap.size) hl Ω 1).trans (ζq ..),(t5.cell (b:=W3.heap.size) hl Ω 2).trans (ζq ..),
     Yc.o.touch ((Xw.o.trans (((Gr.refl W3).alloc _).touch _)).trans' t5 (λi hi h=>by omega)) (λk _ h1 h2=>by omega),(Yd.o.gr ((Gr.refl _).alloc _)).touch t5 Ω Ω Ω Ω Ω,by omega,by omega,by omega,by omega,by omega⟩
end
end Go.Proofs.YteihjlcmjecmfaaGreatDoor
