/- Part 3 of what HeapNobody leans on: my own lemmas, merged by shake.py. -/
import Derived.Test.YtmjoodkiiekjcaaGreatDoorHeapNobodyB
import Derived.Shelf.Abstract
import Derived.Shelf.RegionOpen
import Derived.OwnWalkIn
import Derived.TacticsInMore
import Derived.LoopNIn
import Derived.LoopIn
import Derived.Stop.RegionWithIn
import Derived.Sort.CutIn
namespace Go.Proofs.YtmjoodkiiekjcaaGreatDoor
set_option maxRecDepth 100000
section
section
section
open Go.RowKit Word
structure Ext (w:World) (m p1 b1 p2 b2 n:Nat) (L:List Ob):Prop where
 good:Q4l n L
 v1:Vec w p1 b1 (VC5 n L)
 v2:Vec w p2 b2 (JsC n L)
 hm:m<w.heap.size
 c0:w.cell? ⟨m,0,none⟩=some (.pointer (some ⟨p1,0,none⟩))
 c1:w.cell? ⟨m,1,none⟩=some (.pointer (some ⟨p2,0,none⟩))
 c2:w.cell? ⟨m,2,none⟩=some (.int .i64 L.length)
 fr:w.frozen? ⟨m,2,none⟩=false
 am:m≠p1/\m≠b1/\m≠p2/\m≠b2
 ab:p1≠b2/\p2≠b1/\b1≠b2
theorem Ext.touch {S:Nat->Prop} {w w':World} {m p1 b1 p2 b2 n:Nat} {L:List Ob} (h:Ext w m p1 b1 p2 b2 n L) (t:XF4 S w w') (h1:¬ S m) (h2:¬ S p1) (h3:¬ S b1) (h4:¬ S p2) (h5:¬ S b2):Ext w' m p1 b1 p2 b2 n L:=
 ⟨h.good,h.v1.touch t h2 h3,h.v2.touch t h4 h5,Nat.lt_of_lt_of_le h.hm t.size,(t.cell h.hm h1 0).trans h.c0,(t.cell h.hm h1 1).trans h.c1,(t.cell h.hm h1 2).trans h.c2,(t.frozen h.hm h1 2).trans h.fr,h.am,h.ab⟩
theorem Ext.gr {w w':World} {m p1 b1 p2 b2 n:Nat} {L:List Ob} (h:Ext w m p1 b1 p2 b2 n L) (t:Gr w w'):Ext w' m p1 b1 p2 b2 n L:=
 h.touch (t.touch (fun _=>False)) (fun h=>h) (fun h=>h) (fun h=>h) (fun h=>h) (fun h=>h)
theorem Ext.nb {w:World} {m p1 b1 p2 b2 n:Nat} {L:List Ob} (h:Ext w m p1 b1 p2 b2 n L):1<=n/\n<=1048576:=by
 have h1:=h.v1.n1;have h2:=h.v1.n2;rw [JQA] at h1 h2;exact ⟨h1,h2⟩
def obS (L:List Ob) (j:Nat):Int:=((L[j]?.getD (0,0)).1:Nat)
def obZ (L:List Ob) (j:Nat):Int:=((L[j]?.getD (0,0)).2:Nat)
theorem YpZ {L:List Ob} {j:Nat} (h:j<L.length):obS L j=(L[j].1:Nat)/\obZ L j=(L[j].2:Nat):=by unfold obS obZ;rw [List.getElem?_eq_getElem h];exact ⟨rfl,rfl⟩
theorem Vq1 {L:List Ob} {j:Nat} (h:¬ j<L.length):obS L j=0/\obZ L j=0:=by unfold obS obZ;rw [List.getElem?_eq_none (by omega)];exact ⟨rfl,rfl⟩
def YEC (L:List Ob) (j:Nat):Value:=.tuple #[.int .i64 (obS L j),.int .i64 (obZ L j),.bool (decide (j<L.length))]
theorem VTf {L:List Ob} {j:Nat} (h:j<L.length):YEC L j=.tuple #[.int .i64 (L[j].1:Nat),.int .i64 (L[j].2:Nat),.bool true]:=by unfold YEC;rw [(YpZ h).1,(YpZ h).2,decide_eq_true h]
theorem Qyx {L:List Ob} {j:Nat} (h:¬ j<L.length):YEC L j=.tuple #[.int .i64 0,.int .i64 0,.bool false]:=by unfold YEC;rw [(Vq1 h).1,(Vq1 h).2,decide_eq_false h]
section
variable {w:World} {m p1 b1 p2 b2 n:Nat} {L:List Ob}
theorem VaK (hE:Ext w m p1 b1 p2 b2 n L):Calls Tryz.prog 181 #[.pointer (some ⟨m,0,none⟩)] w fun e w'=>e=.returned (.bool false)/\w=w':=by
 have c0:=hE.c0;have HE:=hid hE;clear hE;go_enter Tryz.func181,Tryz.ntmps181;go_wp2;go_ret;exact ⟨rfl,rfl⟩
theorem VSs (hE:Ext w m p1 b1 p2 b2 n L):Calls Tryz.prog 121 #[.pointer (some ⟨m,0,none⟩)] w fun e w'=>e=.returned (.int .i64 n)/\w=w':=by
 have c0:=hE.c0;have HE:=hid hE;have HL:=hid (JQA n L);clear hE;go_enter Tryz.func121,Tryz.ntmps121
 go_wp2_with (first
  | (go_at_call 181;refine (VaK HE.o).mono ?_;rintro e w' ⟨rfl,rfl⟩)
  | (go_at_call 182;refine (JoW HE.o.v1).mono ?_;rintro e w' ⟨rfl,rfl⟩;rw [HL.o]))
 go_ret;exact ⟨rfl,rfl⟩
set_option maxHeartbeats 400000 in
theorem VRE (hE:Ext w m p1 b1 p2 b2 n L) (hT:VRW w) {j:Nat} (hj:j<L.length):
  Calls Tryz.prog 212 #[.pointer (some ⟨m,0,none⟩),.int .i64 (L[j].1:Nat)] w fun e w'=>e=.returned (.int .i64 (L[j].2:Nat))/\w=w':=by
 have c1:=hE.c1;have hm:=List.getElem_mem hj;obtain ⟨hn1,hn2⟩:=Zox hE.good hm;have hs:=hE.good.sz _ hm;have hb:=hE.nb;obtain ⟨s,hs'⟩:∃ s,s=L[j].1:=⟨_,rfl⟩;obtain ⟨z,hz'⟩:∃ z,z=L[j].2:=⟨_,rfl⟩;rw [<-hs',<-hz'] at hn1 hn2 hs ⊢;rw [<-hn1] at hn2;have HE:=hid hE;have HT:=hid hT;have HV:=hid (And.intro (Jpj hn2) hn1);have hsb:s+z<=1048576:=by omega
 have hz1:1<=z:=hs.1;clear hE hT hn1 hn2 hs' hz' hm hj;go_enter Tryz.func212,Tryz.ntmps212;go_wp2_with (go_at_call 252;refine (QUF HE.o.v2 HT.o _).mono ?_;rintro e w' ⟨rfl,rfl⟩;rw [HV.o.1,HV.o.2]);go_ret;exact ⟨ZzN (by omega),rfl⟩
set_option maxHeartbeats 800000 in
theorem QQo (hE:Ext w m p1 b1 p2 b2 n L) (hT:VRW w) (a:Int):
  Calls Tryz.prog 205 #[.pointer (some ⟨m,0,none⟩),.int .i64 a] w fun e w'=>e=.returned (YEC L (Jxr L a))/\w=w':=by
 have c0:=hE.c0;have HE:=hid hE;have HT:=hid hT;by_cases hj:Jxr L a<L.length
 ·obtain ⟨h1,h2⟩:=Jia hE.good hj;rw [VTf hj];have HZ:=hid (VRE hE hT hj);have HV:=hid (And.intro (Jpj h2) (And.intro h1 (decide_eq_true h2)));clear hE hT h1 h2;go_enter Tryz.func205,Tryz.ntmps205
  go_wp2_with (first
   | (go_at_call 181;refine (VaK HE.o).mono ?_;rintro e w' ⟨rfl,rfl⟩)
   | (go_at_call 252;refine (QUF HE.o.v1 HT.o _).mono ?_;rintro e w' ⟨rfl,rfl⟩;rw [HV.o.1,HV.o.2.2,HV.o.2.1])
   | (go_at_call 212;refine HZ.o.mono ?_;rintro e w' ⟨rfl,rfl⟩))
  go_ret3
  exact ⟨rfl,rfl⟩
 ·have h1:=YTx hE.good hj;rw [Qyx hj];have HV:Hid (JHm (VC5 n L).length (ZnF (VC5 n L) a)=0/\decide (ZnF (VC5 n L) a<(VC5 n L).length)=false):=⟨by rw [h1];exact ⟨JEJ (by omega),decide_eq_false (by omega)⟩⟩;clear hE hT h1;go_enter Tryz.func205,Tryz.ntmps205
  go_wp2_with (first
   | (go_at_call 181;refine (VaK HE.o).mono ?_;rintro e w' ⟨rfl,rfl⟩)
   | (go_at_call 252;refine (QUF HE.o.v1 HT.o _).mono ?_;rintro e w' ⟨rfl,rfl⟩;rw [HV.o.1,HV.o.2]))
  go_ret3
  exact ⟨rfl,rfl⟩
set_option maxHeartbeats 800000 in
theorem Q6S (hE:Ext w m p1 b1 p2 b2 n L) (hT:VRW w) (a:Int):
  Calls Tryz.prog 240 #[.pointer (some ⟨m,0,none⟩),.int .i64 a] w fun e w'=>e=.returned (YEC L (ZH8 L a))/\w=w':=by
 have c0:=hE.c0;have hb:=hE.nb;have HE:=hid hE;have HT:=hid hT;by_cases h0:a<0
 ·have d0:decide (a<0)=true:=by simp [h0]
  rw [Qyx (by rw [ZDJ (fun o _=>by omega)];omega)];clear hE hT;go_enter Tryz.func240,Tryz.ntmps240;go_wp2_with (go_at_call 181;refine (VaK HE.o).mono ?_;rintro e w' ⟨rfl,rfl⟩)
  go_ret3
  exact ⟨rfl,rfl⟩
 ·have d0:decide (a<0)=false:=by simp;omega
  by_cases h1:(n:Int)<=a
  ·have d1:decide ((n:Int)<=a)=true:=by simp [h1]
   rw [Qyx (by rw [ZDJ (fun o ho=>by have:=hE.good.sz o ho;omega)];omega)];clear hE hT;go_enter Tryz.func240,Tryz.ntmps240
   go_wp2_with (first
    | (go_at_call 181;refine (VaK HE.o).mono ?_;rintro e w' ⟨rfl,rfl⟩)
    | (go_at_call 121;refine (VSs HE.o).mono ?_;rintro e w' ⟨rfl,rfl⟩))
   go_ret3
   exact ⟨rfl,rfl⟩
  ·have d1:decide ((n:Int)<=a)=false:=by simp;omega
   rcases XA1 hE.good a with ⟨hl,hall⟩ | ⟨j,hj,hl,hle,hall⟩
   ·rw [Qyx (by rw [ZDJ (fun o ho=>by have:=hall o ho;omega)];omega)];have HV:Hid (Jvh (JJU (VC5 n L) (a+1))=0/\decide (0<=JJU (VC5 n L) (a+1))=false):=⟨by rw [hl];exact ⟨rfl,rfl⟩⟩;clear hE hT hl hall;go_enter Tryz.func240,Tryz.ntmps240
    go_wp2_with (first
     | (go_at_call 181;refine (VaK HE.o).mono ?_;rintro e w' ⟨rfl,rfl⟩)
     | (go_at_call 121;refine (VSs HE.o).mono ?_;rintro e w' ⟨rfl,rfl⟩)
     | (go_at_call 276;refine (XEP HE.o.v1 _).mono ?_;rintro e w' ⟨rfl,rfl⟩;rw [HV.o.1,HV.o.2]))
    go_ret3
    exact ⟨rfl,rfl⟩
   ·have HZ:=hid (VRE hE hT hj);have hs:=hE.good.sz _ (List.getElem_mem hj);have HV:Hid (Jvh (JJU (VC5 n L) (a+1))=(L[j].1:Nat)/\decide (0<=JJU (VC5 n L) (a+1))=true):=⟨by rw [hl];exact ⟨if_pos (by omega),decide_eq_true (by omega)⟩⟩;have hgood:=hE.good;by_cases hin:a<L[j].1+L[j].2
    ·have hf:=XxN hgood hj hle hin;rw [hf,VTf hj];generalize L[j].1=s at *
     generalize L[j].2=z at *
     have d2:decide (((s:Int)+(z:Int))<=a)=false:=by simp;omega
     clear hE hT hl hall hgood hf;go_enter Tryz.func240,Tryz.ntmps240
     go_wp2_with (first
      | (go_at_call 181;refine (VaK HE.o).mono ?_;rintro e w' ⟨rfl,rfl⟩)
      | (go_at_call 121;refine (VSs HE.o).mono ?_;rintro e w' ⟨rfl,rfl⟩)
      | (go_at_call 276;refine (XEP HE.o.v1 _).mono ?_;rintro e w' ⟨rfl,rfl⟩;rw [HV.o.1,HV.o.2])
      | (go_at_call 212;refine HZ.o.mono ?_;rintro e w' ⟨rfl,rfl⟩))
     go_ret3
     exact ⟨rfl,rfl⟩
    ·have hf:¬ ZH8 L a<L.length:=by
      rw [ZDJ (fun o ho=>?_)];· omega
      obtain ⟨i,hi,rfl⟩:=List.getElem_of_mem ho;rcases Nat.lt_trichotomy i j with h3 | rfl | h3
      ·have:=hgood.at hi hj h3;omega
      ·omega
      ·have:=hall i hi h3;omega
     rw [Qyx hf];generalize L[j].1=s at *
     generalize L[j].2=z at *
     have d2:decide (((s:Int)+(z:Int))<=a)=true:=by simp;omega
     clear hE hT hl hall hgood hf;go_enter Tryz.func240,Tryz.ntmps240
     go_wp2_with (first
      | (go_at_call 181;refine (VaK HE.o).mono ?_;rintro e w' ⟨rfl,rfl⟩)
      | (go_at_call 121;refine (VSs HE.o).mono ?_;rintro e w' ⟨rfl,rfl⟩)
      | (go_at_call 276;refine (XEP HE.o.v1 _).mono ?_;rintro e w' ⟨rfl,rfl⟩;rw [HV.o.1,HV.o.2])
      | (go_at_call 212;refine HZ.o.mono ?_;rintro e w' ⟨rfl,rfl⟩))
     go_ret3
     exact ⟨rfl,rfl⟩
end
end
end
section
section
open Go.RowKit Word
section
variable {w:World} {m p1 b1 p2 b2 n:Nat} {L:List Ob}
def okV:Value->Bool
 | .bool b=>b
 | _=>false
theorem VFA {n:Nat} {L:List Ob} (h:Q4l n L) (hn:n<=1048576) (j:Nat):0<=obS L j/\0<=obZ L j/\obS L j+obZ L j<=1048576:=by
 by_cases hj:j<L.length
 ·rw [(YpZ hj).1,(YpZ hj).2];have:=h.sz _ (List.getElem_mem hj);omega
 ·rw [(Vq1 hj).1,(Vq1 hj).2];omega
theorem Ylw {n:Nat} {L:List Ob} (h:Q4l n L) (hn:n<=1048576) (j:Nat) (f t:Int):0<=VeJ (L.take j) f t/\VeJ (L.take j) f t<=1048576:=by
 have hg:Q4l n (L.take j):=⟨h.pw.sublist (List.take_sublist ..),fun o ho=>h.sz o (List.mem_of_mem_take ho)⟩;have h1:=XxJ hg f t;have h2:JM8 (L.take j) n f t<=n:=QMh _ _;omega
set_option maxHeartbeats 3200000 in
theorem QS1 (hE:Ext w m p1 b1 p2 b2 n L) (hT:VRW w) (f t:Int) (hf:f<=9223372036854775807) (ht:-9223372036854775808<=t):
  Calls Tryz.prog 206 #[.pointer (some ⟨m,0,none⟩),.int .i64 f,.int .i64 t] w fun e w'=>e=.returned (.int .i64 (VeJ L f t))/\w=w':=by
 have hb:=hE.nb;have hg:=hE.good;have HE:=hid hE;have HT:=hid hT;rw [<-JAq hg f t];obtain ⟨lo,hlo⟩:∃ lo,lo=max f 0:=⟨_,rfl⟩;obtain ⟨hi,hhi⟩:∃ hi,hi=min t (n:Int):=⟨_,rfl⟩;have hlo0:0<=lo/\lo<=9223372036854775807:=by omega
 have hhib:hi<=1048576/\-9223372036854775808<=hi:=by omega
 have HLO:=hid hlo;have HHI:=hid hhi;have hmax:∀ w',(Builtin.max_ #[3,3] 3 #[.int .i64 f,.int .i64 0]).run Tryz.prog w'=.ok (.int .i64 lo) w':=fun w'=>by rw [V9O,hlo]
 have hmin:∀ w',(Builtin.min_ #[3,3] 3 #[.int .i64 t,.int .i64 n]).run Tryz.prog w'=.ok (.int .i64 hi) w':=fun w'=>by rw [Xjn,hhi]
 rw [<-hlo,<-hhi];have hmin2:=fun x y=>Xjn Tryz.prog #[3,3] 3 .i64 x y;obtain ⟨jf,hjf⟩:∃ j,j=ZH8 L lo:=⟨_,rfl⟩;obtain ⟨jn,hjn⟩:∃ j,j=Jxr L lo:=⟨_,rfl⟩;have hjnl:jn<=L.length:=by rw [hjn];exact XH0 _ _
 have hhead:=Vth hg (f:=lo) (t:=hi);rw [<-hjf,<-hjn] at hhead;have hss:((L[jf]?.getD (0,0)).1:Int)=obS L jf:=rfl;have hzz:((L[jf]?.getD (0,0)).2:Int)=obZ L jf:=rfl;rw [hss,hzz] at hhead;have hbf:=VFA hg hb.2 jf;obtain ⟨s,hs⟩:∃ s,s=obS L jf:=⟨_,rfl⟩;obtain ⟨z,hz⟩:∃ z,z=obZ L jf:=⟨_,rfl⟩;obtain ⟨bf,hbff⟩:∃ b,b=decide (jf<L.length):=⟨_,rfl⟩;rw [<-hs,<-hz] at hhead hbf;have HF:Hid (YEC L (ZH8 L lo)=.tuple #[.int .i64 s,.int .i64 z,.bool bf]):=⟨by rw [hs,hz,hbff,hjf];rfl⟩;obtain ⟨s1,hs1⟩:∃ s,s=obS L jn:=⟨_,rfl⟩;obtain ⟨z1,hz1⟩:∃ z,z=obZ L jn:=⟨_,rfl⟩;obtain ⟨bn,hbn⟩:∃ b,b=decide (jn<L.length):=⟨_,rfl⟩;have HN:Hid (YEC L (Jxr L lo)=.tuple #[.int .i64 s1,.int .i64 z1,.bool bn]):=⟨by rw [hs1,hz1,hbn,hjn];rfl⟩;have HN1:=hid (And.intro hs1 (And.intro hz1 hbn));obtain ⟨v0,hv0⟩:∃ v,v=VeJ (L.take jn) lo hi:=⟨_,rfl⟩;rw [<-hv0] at hhead;have HV0:=hid hv0;have HJN:=hid hjn
 have hpart:(bf=true/\s<lo/\lo<hi/\v0=min (s+z) hi-lo)\/(bf=false/\v0=0)\/(bf=true/\lo<=s/\v0=0)\/(bf=true/\s<lo/\hi<=lo/\v0=0):=by
  by_cases h1:jf<L.length
  ·have e1:bf=true:=by rw [hbff,decide_eq_true h1]
   by_cases h2:s<lo
   ·by_cases h3:lo<hi
    ·left;rw [if_pos ⟨h1,h2,h3⟩] at hhead;exact ⟨e1,h2,h3,hhead⟩
    ·right;right;right;rw [if_neg (fun h=>h3 h.2.2)] at hhead;exact ⟨e1,h2,by omega,hhead⟩
   ·right;right;left;rw [if_neg (fun h=>h2 h.2.1)] at hhead;exact ⟨e1,by omega,hhead⟩
  ·right;left;rw [if_neg (fun h=>h1 h.1)] at hhead;exact ⟨by rw [hbff,decide_eq_false h1],hhead⟩
 have HG:=hid hg;clear hE hT hlo hhi hjf hjn hhead hss hzz hs hz hbff hs1 hz1 hbn hv0 hg;rcases hpart with ⟨rfl,h2,h3,rfl⟩ | ⟨rfl,rfl⟩ | ⟨rfl,h2,rfl⟩ | ⟨rfl,h2,h3,rfl⟩
 all_goals
  have hmm:min (s+z) hi<=1048576:=by omega
  go_enter Tryz.func206,Tryz.ntmps206
  go_wp2_with (first
   | (go_at_call 181;refine (VaK HE.o).mono ?_;rintro e w' ⟨rfl,rfl⟩)
   | (go_at_call 121;refine (VSs HE.o).mono ?_;rintro e w' ⟨rfl,rfl⟩)
   | (go_at_call 240;refine (Q6S HE.o HT.o _).mono ?_;rintro e w' ⟨rfl,rfl⟩;rw [HF.o])
   | (go_at_call 205;refine (QQo HE.o HT.o _).mono ?_;rintro e w' ⟨rfl,rfl⟩;rw [HN.o]))
  clear hmax hmin
 all_goals
  go_loop [7,11,12,13] (fun s7 s11 s12 s13=>∃ j,jn<=j/\j<=L.length/\s7=.int .i64 (VeJ (L.take j) lo hi)/\s11=.int .i64 (obS L j)/\s12=.int .i64 (obZ L j)/\s13=.bool (decide (j<L.length))) (fun _ s11 _ s13=>if okV s13 then 1048577-(intOf s11).toNat else 0)
  case atStart=>exact ⟨jn,Nat.le_refl _,hjnl,by rw [<-HV0.o],by rw [HN1.o.1],by rw [HN1.o.2.1],by rw [HN1.o.2.2]⟩
  case round=>
   obtain ⟨j,hj1,hj2,rfl,rfl,rfl,rfl⟩:=hrel;have hbo:=Ylw HG.o hb.2 j lo hi;have hbj:=VFA HG.o hb.2 j;by_cases hj:j<L.length
   ·rw [decide_eq_true hj];obtain ⟨o1,o2⟩:=YpZ hj;have hsz:=HG.o.sz _ (List.getElem_mem hj);obtain ⟨sj,hsj⟩:∃ s,s=obS L j:=⟨_,rfl⟩;obtain ⟨zj,hzj⟩:∃ z,z=obZ L j:=⟨_,rfl⟩;obtain ⟨vj,hvj⟩:∃ v,v=VeJ (L.take j) lo hi:=⟨_,rfl⟩
    have hge:lo<=sj:=by
     rw [hsj,o1];have hjn2:Jxr L lo<L.length:=by have:=HJN.o;omega
     have hy:=XOX hjn2;rcases Nat.lt_or_ge (Jxr L lo) j with h | h
     ·have:=HG.o.at hjn2 hj h;omega
     ·have e:L[Jxr L lo]'hjn2=L[j]:=by congr 1;have:=HJN.o;omega
      rw [e] at hy;exact hy
    have hz1:1<=zj:=by rw [hzj,o2];omega
    have htk:=VRD hj lo hi
    have hov:Jc4 L[j] lo hi=max 0 (min (sj+zj) hi-sj):=by
     unfold Jc4;rw [hsj,hzj,o1,o2] at *
     omega
    rw [hov,<-hvj] at htk;have hbo2:=Ylw HG.o hb.2 (j+1) lo hi;have hnx:Jxr L (sj+zj)=j+1:=by rw [hsj,hzj,o1,o2];exact X1z HG.o hj
    obtain ⟨s2,hs2⟩:∃ s,s=obS L (j+1):=⟨_,rfl⟩;obtain ⟨z2,hz2⟩:∃ z,z=obZ L (j+1):=⟨_,rfl⟩;obtain ⟨b2',hb2⟩:∃ b,b=decide (j+1<L.length):=⟨_,rfl⟩;have HX:Hid (YEC L (Jxr L (sj+zj))=.tuple #[.int .i64 s2,.int .i64 z2,.bool b2']):=⟨by rw [hnx,hs2,hz2,hb2];rfl⟩;have HX2:=hid (And.intro hs2 (And.intro hz2 hb2))
    have hlt2:b2'=true->sj+zj<=s2:=fun h=>by
     rw [hb2] at h;have h:=of_decide_eq_true h;have:=HG.o.at hj h (Nat.lt_succ_self j);rw [hsj,hzj,hs2,o1,o2,(YpZ h).1];omega
    have HLT:=hid hlt2;rw [<-hsj,<-hzj] at hbj ⊢;rw [<-hvj] at hbo ⊢;have HVJ:=hid hvj;have HSJ:=hid hsj;by_cases hhi:sj<hi
    ·have hmj:min (sj+zj) hi<=1048576/\sj<=min (sj+zj) hi:=by omega
     have htk':VeJ (L.take (j+1)) lo hi=vj+(min (sj+zj) hi-sj):=by rw [htk];omega
     have hsum:0<=vj+(min (sj+zj) hi-sj)/\vj+(min (sj+zj) hi-sj)<=1048576:=by rw [<-htk'];exact hbo2
     have HTK:=hid htk';clear hsj hzj hvj hov htk htk' hbo2 hnx hs2 hz2 hb2 hlt2 o1 o2 hsz;go_wp2_with (go_at_call 205;refine (QQo HE.o HT.o _).mono ?_;rintro e w' ⟨rfl,rfl⟩;rw [HX.o]);go_round
     case rel=>exact ⟨j+1,by omega,by omega,by rw [HTK.o],by rw [HX2.o.1],by rw [HX2.o.2.1],by rw [HX2.o.2.2]⟩
     case measure=>
      have e0:okV (Value.bool true)=true:=rfl;rw [if_pos e0];by_cases h:b2'=true
      ·have:=HLT.o h;rw [if_pos (show okV (Value.bool b2')=true from h)];simp only [intOf];omega
      ·rw [if_neg (show ¬ okV (Value.bool b2')=true from h)];simp only [intOf];omega
    ·have htl:=Yso HG.o (j:=j) (f:=lo) (t:=hi) (fun hl=>by
      have:=HSJ.o;rw [(YpZ hl).1] at this;omega)
     have hE:Hid (VeJ L lo hi=vj):=⟨by rw [QMe L j,htl,<-HVJ.o];omega⟩;clear hsj hzj hvj hov htk hbo2 hnx hs2 hz2 hb2 hlt2 o1 o2 hsz htl;go_wp2;go_ret;exact ⟨ZzN hE.o.symm,rfl⟩
   ·rw [decide_eq_false hj];have htl:=Yso HG.o (j:=j) (f:=lo) (t:=hi) (fun hl=>absurd hl hj);have hE:Hid (VeJ L lo hi=VeJ (L.take j) lo hi):=⟨by rw [QMe L j,htl];omega⟩;obtain ⟨vj,hvj⟩:∃ v,v=VeJ (L.take j) lo hi:=⟨_,rfl⟩;rw [<-hvj] at hbo ⊢ hE;clear htl hvj;go_wp2;go_ret;exact ⟨ZzN hE.o.symm,rfl⟩
end
end
end
section
section
open Go.RowKit Word
def YBz (m b1 b2:Nat) (k:Nat):Prop:=k=m\/k=b1\/k=b2
section
variable {w:World} {m p1 b1 p2 b2 n:Nat} {L:List Ob}
theorem Ext.changed (hE:Ext w m p1 b1 p2 b2 n L) {w1 w2:World} {L':List Ob} (hg:Q4l n L') (t1:XF4 (fun k=>k=b1) w w1) (v1:Vec w1 p1 b1 (VC5 n L')) (t2:XF4 (fun k=>k=b2) w1 w2) (v2:Vec w2 p2 b2 (JsC n L')) {z:Int} (hz:z=L'.length):
  Ext (w2.setCell ⟨m,2,none⟩ (.int .i64 z)) m p1 b1 p2 b2 n L'/\XF4 (YBz m b1 b2) w (w2.setCell ⟨m,2,none⟩ (.int .i64 z)):=by
 have t3:XF4 (fun k=>k=m) w2 (w2.setCell ⟨m,2,none⟩ (.int .i64 z)):=(XF4.refl (fun k=>k=m) w2).setCell (a:=⟨m,2,none⟩) (fun _=>rfl) _;obtain ⟨a1,a2,a3,a4⟩:=hE.am;obtain ⟨a5,a6,a7⟩:=hE.ab;have hm1:m<w1.heap.size:=Nat.lt_of_lt_of_le hE.hm t1.size;have hm2:m<w2.heap.size:=Nat.lt_of_lt_of_le hm1 t2.size;have e:∀ o,w2.cell? ⟨m,o,none⟩=w.cell? ⟨m,o,none⟩:=fun o=>(t2.cell hm1 (by omega) o).trans (t1.cell hE.hm (by omega) o)
 have o:∀ o,o≠2->(w2.setCell ⟨m,2,none⟩ (.int .i64 z)).cell? ⟨m,o,none⟩=w.cell? ⟨m,o,none⟩:=fun o ho=>by
  rw [World.cell?_setCell_other (h:=by intro e2;injection e2 with _ e3;omega),e o]
 refine ⟨⟨hg,(v1.touch t2 (by omega) (by omega)).touch t3 (by omega) (by omega),v2.touch t3 (by omega) (by omega),by simpa [World.setCell] using hm2,(o 0 (by omega)).trans hE.c0,(o 1 (by omega)).trans hE.c1,?_,?_,hE.am,hE.ab⟩,?_⟩
 ·rw [hz];exact World.cell?_setCell_same (h:=(e 2).trans hE.c2) ..
 ·rw [World.frozen?_setCell,t2.frozen hm1 (by omega),t1.frozen hE.hm (by omega)];exact hE.fr
 ·exact ((t1.mono (fun k _ h=>.inr (.inl h))).trans (t2.mono (fun k _ h=>.inr (.inr h)))).trans (t3.mono (fun k _ h=>.inl h))
def Vag (w:World) (m p1 b1 p2 b2 n:Nat) (L:List Ob) (s z:Int) (e:Ending) (w':World):Prop:=
 e=.returned (.int .i64 (ZbB L n s z))/\XF4 (YBz m b1 b2) w w'/\Ext w' m p1 b1 p2 b2 n (VI0 L n s z)
theorem Zcw (hE:Ext w m p1 b1 p2 b2 n L) {s z c:Int} (h:ZbB L n s z=c) (hc:c≠0):Vag w m p1 b1 p2 b2 n L s z (.returned (.int .i64 c)) w:=by
 refine ⟨by rw [h],XF4.refl _ _,?_⟩;unfold VI0;rw [if_neg (by rw [h];exact hc)];exact hE
set_option maxHeartbeats 3200000 in
theorem Zc1 (hE:Ext w m p1 b1 p2 b2 n L) (hT:VRW w) (s z:Int):
  Calls Tryz.prog 208 #[.pointer (some ⟨m,0,none⟩),.int .i64 s,.int .i64 z] w (Vag w m p1 b1 p2 b2 n L s z):=by
 have hb:=hE.nb;have HE:=hid hE;have HT:=hid hT;by_cases h0:z<1
 ·have d0:decide (z<1)=true:=by simp [h0]
  have HR:=hid (Zcw hE (s:=s) (z:=z) (c:=15) (by unfold ZbB;rw [if_pos h0]) (by decide));clear hE hT;go_enter Tryz.func208,Tryz.ntmps208;go_wp2_with (go_at_call 181;refine (VaK HE.o).mono ?_;rintro e w' ⟨rfl,rfl⟩);go_ret;exact HR.o
 ·have d0:decide (z<1)=false:=by simp;omega
  by_cases h1:s<0
  ·have d1:decide (s<0)=true:=by simp [h1]
   have HR:=hid (Zcw hE (s:=s) (z:=z) (c:=11) (by unfold ZbB;rw [if_neg h0,if_pos (.inl h1)]) (by decide));clear hE hT;go_enter Tryz.func208,Tryz.ntmps208;go_wp2_with (go_at_call 181;refine (VaK HE.o).mono ?_;rintro e w' ⟨rfl,rfl⟩);go_ret;exact HR.o
  ·have d1:decide (s<0)=false:=by simp;omega
   by_cases h2:(n:Int)<=s
   ·have d2:decide ((n:Int)<=s)=true:=by simp [h2]
    have HR:=hid (Zcw hE (s:=s) (z:=z) (c:=11) (by unfold ZbB;rw [if_neg h0,if_pos (.inr (.inl h2))]) (by decide));clear hE hT;go_enter Tryz.func208,Tryz.ntmps208
    go_wp2_with (first
     | (go_at_call 181;refine (VaK HE.o).mono ?_;rintro e w' ⟨rfl,rfl⟩)
     | (go_at_call 121;refine (VSs HE.o).mono ?_;rintro e w' ⟨rfl,rfl⟩))
    go_ret;exact HR.o
   ·have d2:decide ((n:Int)<=s)=false:=by simp;omega
    obtain ⟨sn,rfl⟩:∃ k:Nat,s=k:=⟨s.toNat,by omega⟩;by_cases h3:(n:Int)-sn<z
    ·have d3:decide ((n:Int)-(sn:Int)<z)=true:=by simp;omega
     have HR:=hid (Zcw hE (s:=sn) (z:=z) (c:=11) (by unfold ZbB;rw [if_neg h0,if_pos (.inr (.inr h3))]) (by decide));clear hE hT;go_enter Tryz.func208,Tryz.ntmps208
     go_wp2_with (first
      | (go_at_call 181;refine (VaK HE.o).mono ?_;rintro e w' ⟨rfl,rfl⟩)
      | (go_at_call 121;refine (VSs HE.o).mono ?_;rintro e w' ⟨rfl,rfl⟩))
     go_ret;exact HR.o
    ·have d3:decide ((n:Int)-(sn:Int)<z)=false:=by simp;omega
     obtain ⟨zn,rfl⟩:∃ k:Nat,z=k:=⟨z.toNat,by omega⟩;have hcl:=V3K hE.good (s:=(sn:Int)) (z:=(zn:Int)) (by omega);have hbn:=VFA hE.good hb.2 (Jxr L (sn:Int));have hsn:((L[Jxr L (sn:Int)]?.getD (0,0)).1:Int)=obS L (Jxr L (sn:Int)):=rfl;rw [hsn] at hcl;obtain ⟨s1,hs1⟩:∃ v,v=obS L (ZH8 L (sn:Int)):=⟨_,rfl⟩;obtain ⟨z1,hz1⟩:∃ v,v=obZ L (ZH8 L (sn:Int)):=⟨_,rfl⟩;obtain ⟨f1,hf1⟩:∃ v,v=decide (ZH8 L (sn:Int)<L.length):=⟨_,rfl⟩;obtain ⟨s2,hs2⟩:∃ v,v=obS L (Jxr L (sn:Int)):=⟨_,rfl⟩;obtain ⟨z2,hz2⟩:∃ v,v=obZ L (Jxr L (sn:Int)):=⟨_,rfl⟩;obtain ⟨f2,hf2⟩:∃ v,v=decide (Jxr L (sn:Int)<L.length):=⟨_,rfl⟩;have HF:Hid (YEC L (ZH8 L (sn:Int))=.tuple #[.int .i64 s1,.int .i64 z1,.bool f1]):=⟨by rw [hs1,hz1,hf1];rfl⟩;have HN:Hid (YEC L (Jxr L (sn:Int))=.tuple #[.int .i64 s2,.int .i64 z2,.bool f2]):=⟨by rw [hs2,hz2,hf2];rfl⟩;rw [<-hf1,<-hf2,<-hs2] at hcl;rw [<-hs2,<-hz2] at hbn;have hzb:zn<=1048576/\sn<=1048576/\sn+zn<=n:=by omega
     have hadd:∀ c,Jf9 L (sn:Int) (zn:Int)=c->ZbB L n (sn:Int) (zn:Int)=if c then 7 else 0:=fun c hc=>by
      unfold ZbB;rw [if_neg h0,if_neg (by omega),hc]
     clear hs1 hz1 hf1 hs2 hz2 hf2 hsn;cases hc:Jf9 L (sn:Int) (zn:Int) with
     | true=>
      have HR:=hid (Zcw hE (s:=(sn:Int)) (z:=(zn:Int)) (c:=7) (hadd true hc) (by decide));rw [hc] at hcl;clear hE hT hadd hc;cases f1 with
      | true=>
       clear hcl;go_enter Tryz.func208,Tryz.ntmps208
       go_wp2_with (first
        | (go_at_call 181;refine (VaK HE.o).mono ?_;rintro e w' ⟨rfl,rfl⟩)
        | (go_at_call 121;refine (VSs HE.o).mono ?_;rintro e w' ⟨rfl,rfl⟩)
        | (go_at_call 240;refine (Q6S HE.o HT.o _).mono ?_;rintro e w' ⟨rfl,rfl⟩;rw [HF.o])
        | (go_at_call 205;refine (QQo HE.o HT.o _).mono ?_;rintro e w' ⟨rfl,rfl⟩;rw [HN.o]))
       go_ret;exact HR.o
      | false=>
       have hf2:f2=true/\s2<(sn:Int)+zn:=by simpa using hcl.symm
       obtain ⟨rfl,hlt⟩:=hf2;have d4:decide (s2<(sn:Int)+(zn:Int))=true:=by simp [hlt]
       clear hcl;go_enter Tryz.func208,Tryz.ntmps208
       go_wp2_with (first
        | (go_at_call 181;refine (VaK HE.o).mono ?_;rintro e w' ⟨rfl,rfl⟩)
        | (go_at_call 121;refine (VSs HE.o).mono ?_;rintro e w' ⟨rfl,rfl⟩)
        | (go_at_call 240;refine (Q6S HE.o HT.o _).mono ?_;rintro e w' ⟨rfl,rfl⟩;rw [HF.o])
        | (go_at_call 205;refine (QQo HE.o HT.o _).mono ?_;rintro e w' ⟨rfl,rfl⟩;rw [HN.o]))
       go_ret;exact HR.o
     | false=>
      have hap:=XCZ (L:=L) (s:=(sn:Int)) (z:=(zn:Int)) (by omega) (by omega) hc;simp only [Int.toNat_natCast] at hap;have hz1:1<=zn:=by omega
      have hgood:=VuR hE.good (o:=(sn,zn)) hz1 hzb.2.2 hap;have hst:=Yfk hE.good (o:=(sn,zn)) hz1 hzb.2.2 hap;have hen:=Y48 hE.good (o:=(sn,zn)) hz1 hzb.2.2 hap;have hlen:=YKx L (sn,zn);have hadd0:ZbB L n (sn:Int) (zn:Int)=0:=hadd false hc;have hL:VI0 L n (sn:Int) (zn:Int)=VZz L (sn,zn):=by unfold VI0;rw [if_pos hadd0];rfl
      rw [hc] at hcl
      obtain ⟨rfl,hor⟩:f1=false/\(f2=false\/(f2=true/\(sn:Int)+zn<=s2)):=by
       cases f1 with
       | true=>rw [Bool.true_or] at hcl;cases hcl
       | false=>
        refine ⟨rfl,?_⟩;cases f2 with
        | false=>exact .inl rfl
        | true=>
         right;rw [Bool.false_or,Bool.true_and] at hcl;have:=of_decide_eq_false hcl.symm;exact ⟨rfl,by omega⟩
      obtain ⟨e,he⟩:∃ e,e=sn+zn-1:=⟨_,rfl⟩;have HIE:Hid ((sn:Int)+(zn:Int)-1=(e:Int)):=⟨by omega⟩;have hen':JsC n (VZz L (sn,zn))=(JsC n L).set e true:=by rw [he];exact hen
      have hst':VC5 n (VZz L (sn,zn))=(VC5 n L).set sn true:=hst;have K1:Hid (sn<(VC5 n L).length):=⟨by rw [JQA];omega⟩;have K2:Hid (e<(JsC n L).length):=⟨by rw [Q9C];omega⟩;have KG:=hid hgood;have KS:=hid hst';have KE:=hid hen';have KL:=hid (And.intro hlen (And.intro hadd0 hL));obtain ⟨a1,a2,a3,a4⟩:=hE.am;obtain ⟨a5,a6,a7⟩:=hE.ab;have hmw:=hE.hm;have cc1:=hE.c1;have cc2:=hE.c2;have cfr:=hE.fr;have cc0:=hE.c0;have HA:Hid (m≠b1/\m≠b2/\p2≠b1/\b2≠b1):=⟨⟨a2,a4,a6,fun h=>a7 h.symm⟩⟩;have hLn:=hE.good.len;clear hE hT hadd hc hcl hap hgood hst hen hen' hst' hlen hadd0 hL he a1 a2 a3 a4 a5 a6 a7;rcases hor with rfl | ⟨rfl,hge⟩
      all_goals try have d4:decide (s2<(sn:Int)+(zn:Int))=false:=by simp;omega
      all_goals
       go_enter Tryz.func208,Tryz.ntmps208
       go_wp2_with (first
        | (go_at_call 181;refine (VaK HE.o).mono ?_;rintro e w' ⟨rfl,rfl⟩)
        | (go_at_call 121;refine (VSs HE.o).mono ?_;rintro e w' ⟨rfl,rfl⟩)
        | (go_at_call 240;refine (Q6S HE.o HT.o _).mono ?_;rintro e w' ⟨rfl,rfl⟩;rw [HF.o])
        | (go_at_call 205;refine (QQo HE.o HT.o _).mono ?_;rintro e w' ⟨rfl,rfl⟩;rw [HN.o])
        | (go_at_call 255;rw [HIE.o];refine (ZYZ (HE.o.v2.touch HT1.o HA.o.2.2.1 HA.o.2.2.2) e K2.o).mono ?_;rintro e' w2 ⟨rfl,ht2,hv2⟩;rw [<-KE.o] at hv2;have e2:=(ht2.cell HM1.o HA.o.2.1 2).trans e12;have ef:=(ht2.frozen HM1.o HA.o.2.1 2).trans ef1;have HT2:=hid ht2;have HV2:=hid hv2;clear ht2 hv2)
        | (go_at_call 255;refine (ZYZ HE.o.v1 sn K1.o).mono ?_;rintro e' w1 ⟨rfl,ht1,hv1⟩;rw [<-KS.o] at hv1;have e11:=(ht1.cell hmw HA.o.1 1).trans cc1;have e12:=(ht1.cell hmw HA.o.1 2).trans cc2;have ef1:=(ht1.frozen hmw HA.o.1 2).trans cfr;have HT1:=hid ht1;have HV1:=hid hv1;have HM1:=hid (Nat.lt_of_lt_of_le hmw ht1.size);clear ht1 hv1))
       go_ret;have hch:=HE.o.changed KG.o HT1.o HV1.o HT2.o HV2.o (z:=((L.length:Int)+1)) (by rw [KL.o.1];push_cast;rfl);exact ⟨by rw [KL.o.2.1];rfl,hch.2,by rw [KL.o.2.2];exact hch.1⟩
theorem ZRB {w:World} {m p:Nat} (c0:w.cell? ⟨m,0,none⟩=some (.pointer (some ⟨p,0,none⟩))):Calls Tryz.prog 181 #[.pointer (some ⟨m,0,none⟩)] w fun e w'=>e=.returned (.bool false)/\w=w':=by
 go_enter Tryz.func181,Tryz.ntmps181;go_wp2;go_ret;exact ⟨rfl,rfl⟩
theorem Xk0 {w:World} {m p b n:Nat} {l:List Bool} (c0:w.cell? ⟨m,0,none⟩=some (.pointer (some ⟨p,0,none⟩))) (hV:Vec w p b l) (hl:l.length=n):
  Calls Tryz.prog 121 #[.pointer (some ⟨m,0,none⟩)] w fun e w'=>e=.returned (.int .i64 n)/\w=w':=by
 have HL:=hid hl;have HV:=hid hV;clear hl hV;go_enter Tryz.func121,Tryz.ntmps121
 go_wp2_with (first
  | (go_at_call 181;refine (ZRB c0).mono ?_;rintro e w' ⟨rfl,rfl⟩)
  | (go_at_call 182;refine (JoW HV.o).mono ?_;rintro e w' ⟨rfl,rfl⟩;rw [HL.o]))
 go_ret;exact ⟨rfl,rfl⟩
theorem JZ2 (l:List Bool) (n:Nat) (h:l.length=n):XCN l 0 n false=List.replicate n false:=
 J2X (by rw [J8M,h];simp) (fun i hi=>by
  rw [J8M] at hi;rw [QTG _ _ _ _ _ hi,if_pos (by omega)]
  simp [at_,List.getD_eq_getElem?_getD,List.getElem?_replicate];split <;> rfl)
def JAm (w:World) (m p1 b1 p2 b2 n:Nat) (e:Ending) (w':World):Prop:=e=.returned (.tuple #[])/\XF4 (YBz m b1 b2) w w'/\Ext w' m p1 b1 p2 b2 n []
set_option maxHeartbeats 1600000 in
theorem Zca (hE:Ext w m p1 b1 p2 b2 n L):
  Calls Tryz.prog 123 #[.pointer (some ⟨m,0,none⟩)] w (JAm w m p1 b1 p2 b2 n):=by
 have hb:=hE.nb;have HE:=hid hE;have cc0:=hE.c0;have cc1:=hE.c1;have cc2:=hE.c2;have cfr:=hE.fr;obtain ⟨a1,a2,a3,a4⟩:=hE.am;obtain ⟨a5,a6,a7⟩:=hE.ab;have hmw:=hE.hm;have HA:Hid (m≠b1/\m≠b2/\p2≠b1/\b2≠b1):=⟨⟨a2,a4,a6,fun h=>a7 h.symm⟩⟩;have KS:Hid (XCN (VC5 n L) 0 (n:Int) false=VC5 n []):=⟨by rw [JZ2 _ n (JQA ..),V9f]⟩;have KE:Hid (XCN (JsC n L) 0 (n:Int) false=JsC n []):=⟨by rw [JZ2 _ n (Q9C ..),JfC]⟩;clear hE a1 a2 a3 a4 a5 a6 a7;go_enter Tryz.func123,Tryz.ntmps123;go_upto_region 1 with (go_at_call 181;refine (VaK HE.o).mono ?_;rintro e w' ⟨rfl,rfl⟩);obtain ⟨S,hS⟩:∃ S:World->Prop,S=fun W'=>W'.cell? ⟨m,0,none⟩=some (.pointer (some ⟨p1,0,none⟩)):=⟨_,rfl⟩;have x0:∀ p:ZJV S,p.w.cell? ⟨m,0,none⟩=some (.pointer (some ⟨p1,0,none⟩)):=fun p=>ZJV.get hS p;have hS0:S w.drew:=by rw [hS];exact cc0
 have inst:Inhabited (ZJV S):=⟨⟨_,hS0⟩⟩;clear hS;refine Vv2 S 6 [([0,1,2,3,4],5),([],6)] [] (by kernel_rfl) (by kernel_rfl) hS0 ?_;refine XGW ?_;simp only [XZy,List.getElem?_cons_zero,List.getElem?_cons_succ]
 repeat (go_big_quiet_step (fail))
 refine wpQuiet_nil ?_;go_wp2_with (go_at_call 121;refine (VSs (HE.o.gr (Gr.refl w).drew)).mono ?_;rintro e w' ⟨rfl,rfl⟩);refine ⟨.inr (ZJV.of hS0),?_⟩;refine XGW ?_;simp only [XZy,List.getElem?_cons_zero,List.getElem?_cons_succ];refine wpQuiet_nil ?_;go_wp2_with (go_at_call 183;refine (JRq (HE.o.v1.gr (Gr.refl w).drew) 0 (n:Int) (by decide)).mono ?_;rintro e' w1 ⟨rfl,ht1,hv1⟩;rw [KS.o] at hv1;have hg0:=((Gr.refl w).drew.touch (fun k=>k=b1)).trans ht1;have e11:=(hg0.cell hmw HA.o.1 1).trans cc1;have e12:=(hg0.cell hmw HA.o.1 2).trans cc2;have e10:=(hg0.cell hmw HA.o.1 0).trans cc0;have ef1:=(hg0.frozen hmw HA.o.1 2).trans cfr;have HT1:=hid hg0;have HV1:=hid hv1;have HM1:=hid (Nat.lt_of_lt_of_le hmw hg0.size);clear ht1 hv1 hg0);refine ⟨.inl trivial,?_⟩;refine Z9U ?_;refine wpQuiet_nil ?_;refine NoPanic.normal ?_;clear x0 hS0 inst;clear S;go_upto_region 2 with (fail);obtain ⟨S,hS⟩:∃ S:World->Prop,S=fun W'=>W'.cell? ⟨m,1,none⟩=some (.pointer (some ⟨p2,0,none⟩)):=⟨_,rfl⟩;have x0:∀ p:ZJV S,p.w.cell? ⟨m,1,none⟩=some (.pointer (some ⟨p2,0,none⟩)):=fun p=>ZJV.get hS p;have hS0:S w1.drew:=by rw [hS];exact e11
 have inst:Inhabited (ZJV S):=⟨⟨_,hS0⟩⟩;clear hS;refine Vv2 S 6 [([0,1,2,3,4],5),([],6)] [] (by kernel_rfl) (by kernel_rfl) hS0 ?_;refine XGW ?_;simp only [XZy,List.getElem?_cons_zero,List.getElem?_cons_succ]
 repeat (go_big_quiet_step (fail))
 refine wpQuiet_nil ?_;go_wp2_with (go_at_call 121;refine (Xk0 (w:=w1.drew) e10 (HV1.o.gr (Gr.refl w1).drew) (JQA n [])).mono ?_;rintro e w' ⟨rfl,rfl⟩);refine ⟨.inr (ZJV.of hS0),?_⟩;refine XGW ?_;simp only [XZy,List.getElem?_cons_zero,List.getElem?_cons_succ];refine wpQuiet_nil ?_;go_wp2_with (go_at_call 183;refine (JRq ((HE.o.v2.touch HT1.o HA.o.2.2.1 HA.o.2.2.2).gr (Gr.refl w1).drew) 0 (n:Int) (by decide)).mono ?_;rintro e' w2 ⟨rfl,ht2,hv2⟩;rw [KE.o] at hv2;have hg0:=((Gr.refl w1).drew.touch (fun k=>k=b2)).trans ht2;have e2:=(hg0.cell HM1.o HA.o.2.1 2).trans e12;have ef:=(hg0.frozen HM1.o HA.o.2.1 2).trans ef1;have HT2:=hid hg0;have HV2:=hid hv2;clear ht2 hv2 hg0);refine ⟨.inl trivial,?_⟩;refine Z9U ?_;refine wpQuiet_nil ?_;refine NoPanic.normal ?_;clear x0 hS0 inst;clear S;go_wp2;refine bodyPost_end (results_none rfl _ _ _) rfl ?_;have hch:=HE.o.changed (Q4l.nil n) HT1.o HV1.o HT2.o HV2.o (z:=0) rfl;exact ⟨rfl,hch.2,hch.1⟩
def XrP (w:World) (n:Nat) (e:Ending) (w':World):Prop:=
 ∃ m p1 b1 p2 b2,e=.returned (.tuple #[.pointer (some ⟨m,0,none⟩),.int .i64 0])/\Gr w w'/\Ext w' m p1 b1 p2 b2 n []/\w.heap.size<=m/\w.heap.size<=p1/\w.heap.size<=b1/\w.heap.size<=p2/\w.heap.size<=b2
set_option maxHeartbeats 800000 in
theorem XMw (n:Nat) (h1:1<=n) (h2:n<=1048576) (w:World):Calls Tryz.prog 51 #[.int .i64 n] w (XrP w n):=by
 have HN:=hid (And.intro h1 h2);clear h1 h2;go_enter Tryz.func51,Tryz.ntmps51
 go_wp2_with (first
  | (go_at_call 119;refine (Vk2 n HN.o.1 HN.o.2 w1).mono ?_;rintro e w2 ⟨p2,b2,rfl,hg2,hV2,hp2,hb2⟩)
  | (go_at_call 119;refine (Vk2 n HN.o.1 HN.o.2 _).mono ?_;rintro e w1 ⟨p1,b1,rfl,hg1,hV1,hp1,hb1⟩))
 go_ret2;have hV1':=hV1.gr hg2;have s1:=hV1.hp;have s2:=hV1.hb;have s3:=hV2.hp;have s4:=hV2.hb;have sg1:=hg1.size;have sg2:=hg2.size;refine ⟨_,p1,b1,p2,b2,Qh8 rfl rfl,(hg1.trans hg2).alloc _,⟨Q4l.nil n,?_,?_,by simp,World.cell?_alloc_new ..,World.cell?_alloc_new ..,World.cell?_alloc_new ..,World.frozen?_alloc_new ..,by omega,by omega⟩,by omega,by omega,by omega,by omega,by omega⟩
 ·rw [V9f];exact hV1'.gr ((Gr.refl _).alloc _)
 ·rw [JfC];exact hV2.gr ((Gr.refl _).alloc _)
end
end
end
section
section
open Go.RowKit Go.Shelf Word
attribute [local go_sem] Oper.semAt_some
def YjA (box p b N:Nat) (s:List Bool × Nat) (W:World):Prop:=
 Vec W p b s.1/\s.1.length=N/\VRW W/\W.cell? ⟨box,0,none⟩=some (.pointer (some ⟨p,0,none⟩))/\s.2<=N
def XRB (s:List Bool × Nat) (x:Nat):Prop:=x=ZnF s.1 s.2/\ZnF s.1 s.2<s.1.length
def Qk5 (_:List Bool × Nat) (x:Nat) (s':List Bool × Nat):Prop:=s'.2=x+1
theorem VJj {l:List Bool} {a:Int} (h:ZnF l a<l.length):at_ l (ZnF l a)=true/\a<=(ZnF l a:Nat):=by
 have:=JyT (fun i=>at_ l i&&decide (a<=(i:Nat))) l.length h;simp only [Bool.and_eq_true,decide_eq_true_eq] at this;exact this
theorem ZWM {l:List Bool} {a:Int} (h:ZnF l a<l.length):a<=(ZnF l a:Nat):=(VJj h).2
def XAz:Value->Bool
 | .bool b=>b
 | _=>false
def VEN (s:List Bool × Nat):Prop:=¬ ZnF s.1 s.2<s.1.length
set_option maxHeartbeats 1600000 in
theorem ZNp (n:Nat) (box p b N:Nat) (l0:List Bool) (w:World):
  ZAK Fence.wide n Tryz.prog 257 #[.pointer (some ⟨box,0,none⟩)] (fun x:Nat=>#[.int .i64 (x:Int)]) (YjA box p b N) XRB Qk5 VEN (l0,0) w:=by
 intro l J Jx W hg hJ hJx hI hY h0;refine callsIn_of_wp Tryz.func257 rfl trivial ?_ rfl;have hi0:=hI _ _ h0;have c0:=hi0.2.2.2.1;have HI0:=hid hi0;clear hi0;simp only [Tryz.ntmps257,List.size_toArray,List.length_cons,List.length_nil,Nat.reduceAdd,Nat.reduceSub,Array.replicate_succ,Array.replicate_zero,List.push_toArray,List.append_toArray,List.nil_append,List.cons_append];gi_wp2_with (refine ⟨trivial,fun h=>Bool.noConfusion h,?_⟩;gi_at_call 252;refine (callsIn_wide.2 (QUF HI0.o.1 HI0.o.2.2.1 _)).mono ?_;rintro e w1 ⟨rfl,rfl⟩)
 gi_loopw [3,4] (fun x3 x4 wr=>∃ s:List Bool × Nat,J s wr/\x3=.int .i64 (JHm s.1.length (ZnF s.1 s.2))/\x4=.bool (decide (ZnF s.1 s.2<s.1.length))) (fun x3 x4 _=>if XAz x4 then N-(intOf x3).toNat+1 else 0)
 case atStart=>exact ⟨(l0,0),h0,rfl,rfl⟩
 case round=>
  obtain ⟨s,hs,rfl,rfl⟩:=hrel;have hi:=hI _ _ hs;have c1:=hi.2.2.2.1;have HI:=hid hi;clear hi;by_cases hlt:ZnF s.1 s.2<s.1.length
  ·obtain ⟨x,hx⟩:∃ x,x=ZnF s.1 s.2:=⟨_,rfl⟩;obtain ⟨fn,tmps,assign,body,hy,hR⟩:=hY s x wr hs ⟨hx,hlt⟩;have e1:JHm s.1.length (ZnF s.1 s.2)=(x:Int):=by rw [hx];exact Jpj hlt
   have e2:decide (ZnF s.1 s.2<s.1.length)=true:=by simp [hlt]
   rw [e1,e2];have hxN:x<N:=by rw [<-HI.o.2.1,hx];exact hlt
   have HN:=hid hI;have HX:=hid hx;clear hx e1 e2 hI;gi_wp2;refine ⟨fun h=>Bool.noConfusion h,hR.mono ?_⟩;rintro e W3 (⟨rfl,s',hn',hJ'⟩ | ⟨rfl,hx'⟩)
   ·have hi':=HN.o _ _ hJ';have c3:=hi'.2.2.2.1;have HI':=hid hi';have hn2:s'.2=x+1:=hn';have hN2:(N:Int)<=1048576:=by have:=hi'.1.n2;have:=hi'.2.1;omega
    have hx2:(x:Int)<N:=by omega
    have HS':=hid hn2;clear hi' hn2 hn';gi_wp2_with (refine ⟨trivial,fun h=>Bool.noConfusion h,?_⟩;gi_at_call 252;refine (callsIn_wide.2 (QUF HI'.o.1 HI'.o.2.2.1 ((x:Int)+1))).mono ?_;rintro e w1 ⟨rfl,rfl⟩);go_roundw
    case rel=>exact ⟨s',hJ',by rw [HS'.o];rfl,by rw [HS'.o];rfl⟩
    case measure=>
     have e0:XAz (Value.bool true)=true:=rfl;rw [if_pos e0];by_cases h:ZnF s'.1 ((x:Int)+1)<s'.1.length
     ·have hge:=ZWM h;have h2:=HI'.o.2.1;rw [Jpj h,if_pos (by simp [XAz,h])];simp only [intOf];omega
     ·rw [if_neg (by simp [XAz];omega)];omega
   ·gi_wp2
    go_end0
    exact ⟨⟨_,rfl⟩,.inr hx'⟩
  ·have e1:JHm s.1.length (ZnF s.1 s.2)=0:=JEJ hlt;have e2:decide (ZnF s.1 s.2<s.1.length)=false:=by simp;omega
   rw [e1,e2];gi_wp2;refine ⟨fun _ h=>(by cases h),?_⟩;gi_wp2
   go_end0
   exact ⟨⟨_,rfl⟩,.inl ⟨s,hlt,hs⟩⟩
theorem Xig {w:World} (q:Option Addr):
  Calls Tryz.prog 211 #[.pointer q] w fun e w'=>e=.returned (.func (.func 257) #[] #[.pointer (some ⟨w.heap.size,0,none⟩)])/\w'=w.alloc (.cells #[.pointer q] 182):=by
 have hmf:∀ (fn:Fn) (first cap:Array Value) (w:World),(Instr.makeFunc fn first cap).run Tryz.prog w=.ok (.func fn first cap) w:=fun _ _ _ _=>rfl;go_enter Tryz.func211,Tryz.ntmps211;go_wp2;go_ret;exact ⟨rfl,rfl⟩
end
end
section
section
open Go.RowKit Go.Shelf Word
attribute [local go_sem] Oper.semAt_some
def Zxj (box m p1 b1 p2 b2 n:Nat) (L:List Ob) (j:Nat) (W:World):Prop:=
 Ext W m p1 b1 p2 b2 n L/\VRW W/\W.cell? ⟨box,0,none⟩=some (.pointer (some ⟨m,0,none⟩))/\j<=L.length
def YdH (L:List Ob) (j:Nat) (x:Ob):Prop:=L[j]?=some x
def VYF (x:Ob):Array Value:=#[.int .i64 (x.1:Nat),.int .i64 (x.2:Nat)]
theorem ZjB {n:Nat} {L:List Ob} (h:Q4l n L) {j:Nat} (hj:j<L.length):Jxr L ((L[j].1:Int)+1)=j+1:=by
 refine Qzy (by omega) (fun i hi hij=>?_) (fun h2=>?_)
 ·rcases Nat.lt_or_ge i j with h1 | h1
  ·have:=h.at hi hj h1;omega
  ·have:i=j:=by omega
   subst this;omega
 ·have:=h.at hj h2 (Nat.lt_succ_self j);have:=h.sz _ (List.getElem_mem hj);omega
theorem ZVe {m m' l l2:Nat} {P:Program} {args:Array Value} {W:World} {R:Ending->World->Prop} (h:YieldAt Fence.wide m P l args W R):YieldAt (Fence.wide.inRound l2) m' P l args W R:=by
 obtain ⟨fn,tmps,assign,body,hy,hR⟩:=h;exact ⟨fn,tmps,assign,body,hy,hR.1,fun c cs _=>hR.2 c cs (room_wide _)⟩
structure X94 (n:Nat) (L:List Ob) (J:Nat->World->Prop) (B0 B1 p1:Nat) (y:Value) (s:List Bool × Nat) (A:World):Prop where
 st:s.1=VC5 n L
 ps:s.2<=n
 j:∃ j,J j A/\Jxr L (s.2:Int)=j
 y:A.cell? ⟨B0,0,none⟩=some y
 v:A.cell? ⟨B1,0,none⟩=some (.pointer (some ⟨p1,0,none⟩))
set_option maxHeartbeats 3200000 in
theorem Xix (n':Nat) (box m p1 b1 p2 b2 n:Nat) (L:List Ob) (w:World):
  Vwu Fence.wide n' Tryz.prog 210 #[.pointer (some ⟨box,0,none⟩)] VYF (Zxj box m p1 b1 p2 b2 n L) (YdH L) (fun j _ j'=>j'=j+1) (fun j=>j=L.length) 0 w:=by
 intro l J Jx W hg hJ hJx hI hY h0;refine callsIn_wide.2 ((callsIn_wide (n:=5)).1 ?_);refine callsIn_of_wp_marks Tryz.func210 rfl trivial ?_ rfl;have hi0:=hI _ _ h0;have c0:=hi0.2.2.1;have k0:=hi0.1.c0;have HI0:=hid hi0;have HJ0:=hid h0;have HII:=hid hI;clear hi0 h0 hI;simp only [Tryz.ntmps210,List.size_toArray,List.length_cons,List.length_nil,Nat.reduceAdd,Nat.reduceSub,Array.replicate_succ,Array.replicate_zero,List.push_toArray,List.append_toArray,List.nil_append,List.cons_append];have hbox:box<W.heap.size:=ZQf c0;have hmw:=HI0.o.1.hm
 gi_wp2_with (first
  | (refine ⟨trivial,?_⟩;gi_at_call 181;refine (callsIn_wide.2 (VaK (HI0.o.1.gr ((Gr.refl W).alloc _)))).mono ?_;rintro e w1 ⟨rfl,rfl⟩)
  | (refine ⟨trivial,?_⟩;gi_at_call 211;refine (callsIn_wide.2 (Xig (some ⟨p1,0,none⟩))).mono ?_;rintro e w1 ⟨rfl,rfl⟩))
 obtain ⟨W0,hW0⟩:∃ W0,W0=(W.alloc (.cells #[.func (.yield l) #[] #[]] 227)).alloc (.cells #[.pointer (some ⟨p1,0,none⟩)] 182):=⟨_,rfl⟩;have hg0:Gr W W0:=by rw [hW0];exact ((Gr.refl W).alloc _).alloc _
 have hsz0:W0.heap.size=W.heap.size+2:=by rw [hW0];simp
 have bY:W0.cell? ⟨W.heap.size,0,none⟩=some (.func (.yield l) #[] #[]):=by rw [hW0];exact ((Boxed.new W _ _).alloc _).cell
 have bV:W0.cell? ⟨W.heap.size+1,0,none⟩=some (.pointer (some ⟨p1,0,none⟩)):=by
  rw [hW0];have:=Boxed.new (W.alloc (.cells #[.func (.yield l) #[] #[]] 227)) 182 (.pointer (some ⟨p1,0,none⟩));rw [World.size_alloc] at this;exact this.cell
 rw [<-hW0];have hgood:=HI0.o.1.good;have hnb:=HI0.o.1.nb;have hJ00:J 0 W0:=hJ _ _ _ HJ0.o (hg0.touch _);have HH0:=hid hW0;clear hW0 c0 k0;have hn0:Jxr L ((0:Nat):Int)=0:=Qzy (Nat.zero_le _) (fun i hi h=>by omega) (fun h=>by omega)
 have tI:∀ s A B,X94 n L J W.heap.size (W.heap.size+1) p1 (.func (.yield l) #[] #[]) s A->XF4 (fun k=>W0.heap.size<=k) A B->X94 n L J W.heap.size (W.heap.size+1) p1 (.func (.yield l) #[] #[]) s B:=fun s A B h t=>
  ⟨h.st,h.ps,by obtain ⟨j,hj,e⟩:=h.j;exact ⟨j,hJ _ _ _ hj (t.mono (fun k _ h=>by omega)),e⟩,(t.cell (ZQf h.y) (by show ¬ W0.heap.size<=W.heap.size;omega) 0).trans h.y,(t.cell (ZQf h.v) (by show ¬ W0.heap.size<=W.heap.size+1;omega) 0).trans h.v⟩
 refine JQ9 (s0:=(VC5 n L,0)) rfl (by omega) (gf:=257) (lb:=#[.pointer (some ⟨W.heap.size+1,0,none⟩)]) rfl trivial (enters_of Tryz.func257 (by kernel_rfl) rfl)
  (ZNp _ (W.heap.size+1) p1 b1 n (VC5 n L) _).toT (fun _=>rfl)
  (X94 n L J W.heap.size (W.heap.size+1) p1 (.func (.yield l) #[] #[])) (fun c A=>c=.ret/\Jx A) tI (fun c A B h t=>⟨h.1,hJx _ _ h.2 (t.mono (fun k _ h=>by omega))⟩)
  (fun s A h=>by
   obtain ⟨j,hj,-⟩:=h.j;have hi:=HII.o _ _ hj
   exact ⟨by rw [h.st];exact hi.1.v1,by rw [h.st,JQA],hi.2.1,h.v,h.ps⟩)
  ⟨rfl,Nat.zero_le _,⟨0,hJ00,hn0⟩,bY,bV⟩ ?round ?done ?stop
 case round=>
  intro lp s x W3 hsz3 hI3 hgv;gi_wp2;refine ⟨Gr.refl _,fun W4 ht4 hI4=>?_⟩;obtain ⟨hst,hps,⟨j,hj,hnx⟩,hy,hv⟩:=hI4;obtain ⟨hx,hlt⟩:=hgv;have hi4:=HII.o _ _ hj;rw [hst] at hx hlt
  have hjl:j<L.length:=by
   rcases Nat.lt_or_ge j L.length with h | h
   ·exact h
   ·have:=YTx hgood (a:=(s.2:Int)) (by rw [hnx];omega);omega
  have hxj:x=L[j].1:=by
   have:=(Jia hgood (a:=(s.2:Int)) (by rw [hnx];exact hjl)).1;rw [hx,this];congr 2
  subst hxj;have hJd:J j W4.drew:=hJ _ _ _ hj ((Gr.refl W4).drew.touch _);have hsz4:W.heap.size<=W4.drew.heap.size:=Nat.le_of_lt (ZQf hy);obtain ⟨fn,tmps,assign,body,hyy,hR⟩:=ZVe (m':=2) (l2:=lp) (hY j L[j] W4.drew hJd hsz4 (List.getElem?_eq_getElem hjl));have HZ:=hid (VRE (hi4.1.gr (Gr.refl W4).drew) ((Gr.refl W4).drew.tab hi4.2.1.lt hi4.2.1) hjl);have cbx:=hi4.2.2.1;have hbxs:=hsz0;have HS:=hid (And.intro hst (And.intro hnx hjl));clear hst hnx hj hi4 hx hlt hI3;dsimp only [VYF] at hyy
  have hR2:=hR.mono (R':=fun e W'=>∃ bb:Bool,e=.returned (.bool bb)/\((bb=true/\J (j+1) W')\/(bb=false/\Jx W'))/\XF4 (fun k=>k<W.heap.size) W4.drew W') (by
   rintro e W' ⟨⟨he,s',rfl,hs'⟩ | ⟨he,hx⟩,ht⟩
   ·exact ⟨true,he,.inl ⟨rfl,hs'⟩,ht⟩
   ·exact ⟨false,he,.inr ⟨rfl,hx⟩,ht⟩)
  clear hR;gi_wp2;obtain ⟨Sx,hSx⟩:∃ S:World->Prop,S=fun A=>A.cell? ⟨W.heap.size,0,none⟩=some (.func (.yield l) #[] #[]):=⟨_,rfl⟩;have x1:∀ p:ZJV Sx,p.w.cell? ⟨W.heap.size,0,none⟩=some (.func (.yield l) #[] #[]):=fun p=>ZJV.get hSx p;have hS0:Sx W4.drew:=by rw [hSx];exact hy
  have HSx:=hid hSx;clear hSx;have inst:Inhabited (ZJV Sx):=⟨⟨_,hS0⟩⟩;refine V0Y Sx 7 [([0,1,3],2),([],4),([],5)] [6] (fun _=>trivial) (by kernel_rfl) (by kernel_rfl) hS0 ?_;refine QgQ ?_;simp only [XZy,List.getElem?_cons_zero,List.getElem?_cons_succ]
  repeat (go_big_quiet_step (fail))
  refine wpQuiet_nil ?_;gi_wp2;refine ⟨.inr (ZJV.of hS0),?_⟩;refine QgQ ?_;simp only [XZy,List.getElem?_cons_zero,List.getElem?_cons_succ];refine wpQuiet_nil ?_;gi_wp2_with (refine ⟨trivial,?_⟩;gi_at_call 212;refine (CallsIn.inRound lp (callsIn_wide.2 HZ.o)).mono ?_;rintro e w' ⟨rfl,rfl⟩);refine ⟨.inr (ZJV.of hS0),?_⟩;refine QgQ ?_;simp only [XZy,List.getElem?_cons_zero,List.getElem?_cons_succ];refine wpQuiet_nil ?_;gi_wp2;refine hR2.mono ?_;rintro e W5 ⟨bb,rfl,hor,ht5⟩;have hy5:=(ht5.cell (ZQf hy) (Nat.lt_irrefl _) 0).trans hy;have hv5:=(ht5.cell (ZQf hv) (by show ¬ W.heap.size+1<W.heap.size;omega) 0).trans hv;gi_wp2;refine ⟨.inr (ZJV.of (by rw [HSx.o];exact hy5)),?_⟩;refine X0q ?_;simp only [XZy,List.getElem?_cons_zero,List.getElem?_cons_succ]
  repeat (go_big_quiet_step (fail))
  refine wpQuiet_nil ?_;refine NoPanic.normal ?_;have T5:=hid (((Gr.refl W4).drew.touch (fun k=>k<W0.heap.size)).trans (ht5.mono (fun k _ h=>by omega)));have HSZ:=hid (hgood.sz _ (List.getElem_mem hjl));clear x1 hS0 HSx inst hR2 ht5;clear Sx;cases bb with
  | true=>
   have hJ5:J (j+1) W5:=by
    rcases hor with ⟨_,h⟩ | ⟨h,_⟩
    ·exact h
    ·cases h
   have HJ5:=hid hJ5;clear hor hJ5;gi_wp2;exact ⟨T5.o,(VC5 n L,L[j].1+1),rfl,rfl,by have:=HSZ.o;show L[j].1+1<=n;omega,⟨j+1,HJ5.o,by have:=ZjB hgood hjl;push_cast;exact this⟩,hy5,hv5⟩
  | false=>
   have hJ5:Jx W5:=by
    rcases hor with ⟨h,_⟩ | ⟨_,h⟩
    ·cases h
    ·exact h
   have HJ5:=hid hJ5;clear hor hJ5;gi_wp2;exact ⟨T5.o,rfl,HJ5.o⟩
 case done=>
  rintro D s W3 hD hfin hI3 hK;obtain ⟨hst,hps,⟨j,hj,hnx⟩,hy,hv⟩:=hI3
  have hjl:¬ j<L.length:=fun h=>by
   have:=Jia hgood (a:=(s.2:Int)) (by rw [hnx];exact h);unfold VEN at hfin;rw [hst] at hfin;exact hfin this.2
  have hje:j=L.length:=by have:=XH0 L (s.2:Int);omega
  have HE:=hid (And.intro hje hj);have HK:=hid hK;have HD:=hid hD;clear hst hps hnx hy hv hfin hje hj hK hD hjl;gi_wp2;refine ⟨by simp,.inl ⟨_,_,rfl,run_takeDeferred HK.o,?_⟩⟩;refine ⟨.tuple #[],results_none rfl _ _ _,⟨_,rfl⟩,.inl ⟨j,HE.o.1,hJ _ _ _ HE.o.2 ((Xau W3 D _ (Nat.le_refl D)).mono (fun k _ h=>by have:=HD.o;omega))⟩⟩
 case stop=>
  rintro D c W3 hD ⟨rfl,hx⟩ hK;have HE:=hid hx;have HK:=hid hK;have HD:=hid hD;clear hx hK hD;gi_wp2;refine ⟨by simp,.inl ⟨_,_,rfl,run_takeDeferred HK.o,?_⟩⟩;refine ⟨.tuple #[],results_none rfl _ _ _,⟨_,rfl⟩,.inr (hJx _ _ HE.o ((Xau W3 D _ (Nat.le_refl D)).mono (fun k _ h=>by have:=HD.o;omega)))⟩
end
end
section
section
open Go.RowKit Go.Shelf Word
attribute [local go_sem] Oper.semAt_some
theorem JMu {w:World} (q:Option Addr):
  Calls Tryz.prog 142 #[.pointer q] w fun e w'=>e=.returned (.func (.func 210) #[] #[.pointer (some ⟨w.heap.size,0,none⟩)])/\w'=w.alloc (.cells #[.pointer q] 100):=by
 have hmf:∀ (fn:Fn) (first cap:Array Value) (w:World),(Instr.makeFunc fn first cap).run Tryz.prog w=.ok (.func fn first cap) w:=fun _ _ _ _=>rfl;go_enter Tryz.func142,Tryz.ntmps142;go_wp2;go_ret;exact ⟨rfl,rfl⟩
theorem VRW.touch' {S:Nat->Prop} {w W:World} (ht:VRW w) (h:XF4 S w W) (hS:¬ S 1):VRW W:=h.tab ht.lt hS ht
end
end
section
section
open Go.RowKit Go.Shelf Word
attribute [local go_sem] Oper.semAt_some
end
end
end
section
section
open Word
def JFT (n:Nat) (L:List Ob):List Bool:=(List.range n).map (VoH L)
theorem Vsd (n:Nat) (L:List Ob):(JFT n L).length=n:=by simp [JFT]
theorem Vm2 {n:Nat} {L:List Ob} (h:Q4l n L) (i:Nat):at_ (JFT n L) i=VoH L i:=by
 unfold JFT;rw [Qn0];by_cases hi:i<n
 ·rw [decide_eq_true hi];rfl
 ·rw [decide_eq_false hi];cases hb:VoH L i with
  | false=>rfl
  | true=>
   obtain ⟨o,ho,h1,h2⟩:=XB1.1 hb;have:=h.sz o ho;omega
theorem Yht {n:Nat} {L:List Ob} (h:Q4l n L) (f t:Int):((QnT (JFT n L) f t:Nat):Int)=VeJ L f t:=by
 rw [<-XxJ h,Y7X,Vsd];congr 1;exact ZVB (fun i _=>by rw [Vm2 h])
theorem JrN {n:Nat} {L:List Ob} (h:Q4l n L) (k:Nat) (hk:k<=n):((cnt (at_ (JFT n L)) k:Nat):Int)=VeJ L 0 k:=by
 rw [<-Yht h,V58 _ (by rw [Vsd];exact hk)]
theorem YKJ {L:List Ob}:∀ {q k:Nat},VlZ L q=some k->∃ j,∃ hj:j<L.length,∃ i,i<L[j].2/\q=Qd4 (L.take j)+i/\k=L[j].1+i:=by
 induction L with
 | nil=>intro q k h;cases h
 | cons o r ih=>
  intro q k h;unfold VlZ at h;by_cases hq:q<o.2
  ·rw [if_pos hq] at h;exact ⟨0,by simp,q,hq,by simp [Qd4],(Option.some.inj h).symm⟩
  ·rw [if_neg hq] at h;obtain ⟨j,hj,i,h1,h2,h3⟩:=ih h;exact ⟨j+1,by simp;exact hj,i,h1,by simp [Qd4];omega,h3⟩
theorem XUI {L:List Ob} {j:Nat} (hj:j<L.length) {i:Nat} (hi:i<L[j].2):VoH L (L[j].1+i)=true:=XB1.2 ⟨_,List.getElem_mem hj,by omega,by omega⟩
theorem Qh2 {n:Nat} {L:List Ob} (h:Q4l n L) (q:Nat):(∀ k,VlZ L q=some k->X5b (JFT n L) q=k/\k<n)/\(VlZ L q=none->X5b (JFT n L) q=n):=by
 refine ⟨fun k hk=>?_,fun hn=>?_⟩
 ·obtain ⟨j,hj,i,h1,rfl,rfl⟩:=YKJ hk;have hs:=h.sz _ (List.getElem_mem hj);have hc:=JrN h (L[j].1+i) (by omega);have ho:=Yhz h hj (i:=i) (by omega);obtain ⟨e1,e2⟩:=YTa (l:=JFT n L) (k:=L[j].1+i) (q:=Qd4 (L.take j)+i) (by rw [Vm2 h];exact XUI hj h1) (by push_cast at hc;omega);exact ⟨e1,by omega⟩
 ·have hle:=Jkd.1 hn;have hc:=JrN h n (Nat.le_refl n);rw [Z3c h] at hc;have:=Vit (f:=at_ (JFT n L)) (n:=n) (k:=q) (by omega);unfold X5b;rw [Vsd];exact this
theorem Zop {n:Nat} {L:List Ob} (h:Q4l n L) (k:Int):Jid (JFT n L) k=V5E L k/\Yka (JFT n L) k=Y2i L k:=by
 unfold Jid Yka V5E Y2i;by_cases hk:k<0
 ·rw [if_pos hk,if_pos hk,decide_eq_false (by omega)];exact ⟨rfl,rfl⟩
 ·rw [if_neg hk,if_neg hk,decide_eq_true (by omega),Vsd];obtain ⟨h1,h2⟩:=Qh2 h k.toNat;cases hw:VlZ L k.toNat with
  | none=>rw [h2 hw,JEJ (by omega)];exact ⟨rfl,by simp⟩
  | some x=>obtain ⟨e1,e2⟩:=h1 x hw;rw [e1,Jpj e2];exact ⟨rfl,by simp [e2]⟩
theorem Jw5 {n:Nat} {L:List Ob} {j:Nat} (hj:j<L.length):JFT n (L.take (j+1))=XCN (JFT n (L.take j)) (L[j].1:Nat) ((L[j].1:Int)+(L[j].2:Int)) true:=by
 refine J2X (by rw [J8M,Vsd,Vsd]) (fun i hi=>?_);rw [Vsd] at hi;rw [QTG _ _ _ _ _ (by rw [Vsd];exact hi)];unfold JFT;rw [Qn0,Qn0,decide_eq_true hi];unfold VoH;rw [List.take_succ_eq_append_getElem hj,List.any_append];by_cases hin:(L[j].1:Int)<=i/\(i:Int)<(L[j].1:Int)+(L[j].2:Int)
 ·rw [if_pos hin];have:L[j].1<=i/\i<L[j].1+L[j].2:=by omega
  simp [this]
 ·rw [if_neg hin];have:¬ (L[j].1<=i/\i<L[j].1+L[j].2):=by omega
  simp [this]
theorem ZPf (n:Nat):JFT n []=List.replicate n false:=by
 unfold JFT;exact J2X (by simp) (fun i hi=>by rw [Qn0];simp [at_,List.getD_eq_getElem?_getD,List.getElem?_replicate,VoH];split <;> rfl)
end
section
open Go.RowKit Word
def JRn (w:World) (F t n B:Nat) (L:List Ob):Prop:=
 Q4l n L/\t<w.heap.size/\F<=t/\∃ v vb x p b a,w.cell? ⟨t,0,none⟩=some (.pointer (some ⟨v,0,none⟩))/\w.cell? ⟨t,1,none⟩=some (.pointer (some ⟨x,0,none⟩))/\Vec w v vb (JFT n L)/\Idx w x p b a (JFT n L) B ∧
  F<=v/\F<=vb/\F<=x/\F<=p/\F<=b/\F<=a
theorem JRn.touch {S:Nat->Prop} {w w':World} {F t n B:Nat} {L:List Ob} (h:JRn w F t n B L) (ht:XF4 S w w') (hS:∀ k,F<=k->k<w.heap.size->¬ S k):JRn w' F t n B L:=by
 obtain ⟨hg,h1,h2,v,vb,x,p,b,a,c0,c1,hV,hX,k1,k2,k3,k4,k5,k6⟩:=h;exact ⟨hg,Nat.lt_of_lt_of_le h1 ht.size,h2,v,vb,x,p,b,a,(ht.cell h1 (hS t h2 h1) 0).trans c0,(ht.cell h1 (hS t h2 h1) 1).trans c1,hV.touch ht (hS v k1 hV.hp) (hS vb k2 hV.hb),hX.touch ht (hS x k3 hX.hx) (hS p k4 hX.vec.hp) (hS b k5 hX.vec.hb) (hS a k6 hX.ha),k1,k2,k3,k4,k5,k6⟩
theorem JRn.gr {w w':World} {F t n B:Nat} {L:List Ob} (h:JRn w F t n B L) (g:Gr w w'):JRn w' F t n B L:=h.touch (g.touch (fun _=>False)) (fun _ _ _ h=>h)
section
variable {w:World} {F t n B:Nat} {L:List Ob}
theorem VXx (hO:JRn w F t n B L) (hT:VRW w) (k:Int):
  V4y Tryz.prog 300 #[.pointer (some ⟨t,0,none⟩),.int .i64 k] w (.tuple #[.int .i64 (V5E L k),.bool (Y2i L k)]):=by
 obtain ⟨hg,h1,h2,v,vb,x,p,b,a,c0,c1,hV,hX,-⟩:=hO;rw [<-(Zop hg k).1,<-(Zop hg k).2];have HX:=hid hX;have HT:=hid hT;clear hX hT hV;unfold V4y;go_enter Tryz.func300,Tryz.ntmps300;go_wp2_with (go_at_call 302;refine (Qax HX.o HT.o k).mono ?_;rintro e w1 ⟨rfl,hg1⟩);go_ret2;exact ⟨rfl,hg1⟩
theorem YWi (hO:JRn w F t n B L) (i:Int):V4y Tryz.prog 216 #[.pointer (some ⟨t,0,none⟩),.int .i64 i] w (.int .i64 (VeJ L 0 i)):=by
 obtain ⟨hg,h1,h2,v,vb,x,p,b,a,c0,c1,hV,hX,-⟩:=hO;rw [<-Yht hg];have HX:=hid hX;clear hX hV;unfold V4y;go_enter Tryz.func216,Tryz.ntmps216;go_wp2_with (go_at_call 262;refine (Zde HX.o i).mono ?_;rintro e w1 ⟨rfl,hg1⟩);go_ret;exact ⟨rfl,hg1⟩
theorem ZaO (hO:JRn w F t n B L) (i:Int):Calls Tryz.prog 215 #[.pointer (some ⟨t,0,none⟩),.int .i64 i] w fun e w'=>e=.returned (.bool (decide (0<=i)&&VoH L i.toNat))/\w=w':=by
 obtain ⟨hg,h1,h2,v,vb,x,p,b,a,c0,c1,hV,hX,-⟩:=hO;rw [<-Vm2 hg];have HV:=hid hV;clear hX hV;go_enter Tryz.func215,Tryz.ntmps215;go_wp2_with (go_at_call 261;refine (X89 HV.o i).mono ?_;rintro e w1 ⟨rfl,rfl⟩);go_ret;exact ⟨rfl,rfl⟩
theorem XcN (hO:JRn w F t n B L):Calls Tryz.prog 209 #[.pointer (some ⟨t,0,none⟩)] w fun e w'=>e=.returned (.int .i64 (Qd4 L:Nat))/\w=w':=by
 obtain ⟨hg,h1,h2,v,vb,x,p,b,a,c0,c1,hV,hX,-⟩:=hO;have HX:=hid hX
 have HL:Hid (cnt (at_ (JFT n L)) (JFT n L).length=Qd4 L):=⟨by
  have:=JrN hg n (Nat.le_refl n);rw [Z3c hg] at this
  rw [Vsd];omega⟩
 clear hX hV;go_enter Tryz.func209,Tryz.ntmps209;go_wp2_with (go_at_call 256;refine (ZsP HX.o).mono ?_;rintro e w1 ⟨rfl,rfl⟩;rw [HL.o]);go_ret;exact ⟨rfl,rfl⟩
end
end
section
open Go.RowKit Go.Shelf Word
attribute [local go_sem] Oper.semAt_some
structure Xjw (W0:World) (v vb n:Nat) (L:List Ob) (j:Nat) (A:World):Prop where
 t:XF4 (fun i=>i=vb\/W0.heap.size<=i) W0 A
 jl:j<=L.length
 vec:Vec A v vb (JFT n (L.take j))
def V4V (w:World) (n:Nat) (L:List Ob) (k:Int) (e:Ending) (w':World):Prop:=
 Gr w w'/\((Y1d k=false/\e=.returned (.tuple #[.pointer none,.int .i64 5]))\/(Y1d k=true/\∃ t B:Nat,k=B/\e=.returned (.tuple #[.pointer (some ⟨t,0,none⟩),.int .i64 0])/\JRn w' w.heap.size t n B L))
set_option maxHeartbeats 3200000 in
theorem Zjf {w:World} {m p1 b1 p2 b2 n:Nat} {L:List Ob} (hE:Ext w m p1 b1 p2 b2 n L) (hT:VRW w) (k:Int) (hk:k<=9223372036854775807):
  Calls Tryz.prog 207 #[.pointer (some ⟨m,0,none⟩),.int .i64 k] w (V4V w n L k):=by
 have HE:=hid hE;have HT:=hid hT;obtain ⟨hn1,hn2⟩:=hE.nb;have hn0:((n:Int)==0)=false:=beq_eq_false_iff_ne.2 (by omega);clear hE hT;refine (callsIn_wide (n:=5)).1 ?_;refine callsIn_of_wp_marks Tryz.func207 rfl trivial ?_ rfl;simp only [Tryz.ntmps207,List.size_toArray,List.length_cons,List.length_nil,Nat.reduceAdd,Nat.reduceSub,Array.replicate_succ,Array.replicate_zero,List.push_toArray,List.append_toArray,List.nil_append,List.cons_append]
 gi_wp2_with (first
  | (refine ⟨trivial,?_⟩;gi_at_call 121;refine (callsIn_wide.2 (VSs HE.o)).mono ?_;rintro e w1 ⟨rfl,rfl⟩)
  | (refine ⟨trivial,?_⟩;gi_at_call 119;refine (callsIn_wide.2 (Vk2 n hn1 hn2 _)).mono ?_;rintro e w1 ⟨v,vb,rfl,hg1,hV1,hv,hvb⟩;have HG1:=hid hg1;have HV1:=hid hV1;have HP:=hid (And.intro hv hvb);clear hg1 hV1 hv hvb)
  | (refine ⟨trivial,?_⟩;gi_at_call 142;refine (callsIn_wide.2 (JMu (some ⟨m,0,none⟩))).mono ?_;rintro e w2 ⟨rfl,rfl⟩))
 obtain ⟨X,hX⟩:∃ X,X=w1.heap.size:=⟨_,rfl⟩;obtain ⟨W0,hW0⟩:∃ W0,W0=(w1.alloc (.cells #[.pointer (some ⟨v,0,none⟩)] 182)).alloc (.cells #[.pointer (some ⟨m,0,none⟩)] 100):=⟨_,rfl⟩;have hg0:Gr w1 W0:=by rw [hW0];exact ((Gr.refl w1).alloc _).alloc _
 have hs0:W0.heap.size=X+2:=by rw [hW0,hX];simp
 have e0:W0.cell? ⟨X,0,none⟩=some (.pointer (some ⟨v,0,none⟩)):=by rw [hW0,hX];exact ((Boxed.new w1 _ _).alloc _).cell
 have e1:W0.cell? ⟨X+1,0,none⟩=some (.pointer (some ⟨m,0,none⟩)):=by
  rw [hW0,hX];have:=Boxed.new (w1.alloc (.cells #[.pointer (some ⟨v,0,none⟩)] 182)) 100 (.pointer (some ⟨m,0,none⟩));rw [World.size_alloc] at this;exact this.cell
 have hz1:=HG1.o.size;have hz2:=HV1.o.hp;have hz3:=HV1.o.hb;have hz4:=HP.o.1;have hz5:=HP.o.2;rw [<-hX] at hz1 hz2 hz3;have o1:=HE.o.hm;have o2:=HE.o.v1.hp;have o3:=HE.o.v1.hb;have o4:=HE.o.v2.hp;have o5:=HE.o.v2.hb;have o6:=HT.o.lt;have HG0:=hid (HG1.o.trans hg0);have HE0:=hid (HE.o.gr (HG1.o.trans hg0));have HV0:=hid (HV1.o.gr hg0);have hgood:=HE.o.good;have HC0:=hid (And.intro e0 e1);rw [<-hW0,<-hX];clear hW0 hX hg0 e0 e1;have h00:Xjw W0 v vb n L 0 W0:=⟨XF4.refl _ _,Nat.zero_le _,by show Vec W0 v vb (JFT n []);rw [ZPf];exact HV0.o⟩
 have tI:∀ j A B,Xjw W0 v vb n L j A->XF4 (fun i=>W0.heap.size<=i) A B->Xjw W0 v vb n L j B:=fun j A B h t=>
  ⟨h.t.trans (t.mono (fun i _ h=>.inr h)),h.jl,h.vec.touch t (by omega) (by omega)⟩
 refine JQ9 (s0:=0) rfl (by omega) (gf:=210) (lb:=#[.pointer (some ⟨X+1,0,none⟩)]) rfl trivial (enters_of Tryz.func210 (by kernel_rfl) rfl)
  (Xix _ (X+1) m p1 b1 p2 b2 n L _) (fun _=>rfl)
  (Xjw W0 v vb n L) (fun _ _=>False) tI (fun _ _ _ h _=>h)
  (fun j A h=>⟨HE0.o.touch h.t (by omega) (by omega) (by omega) (by omega) (by omega),(HG0.o.tab HT.o.lt HT.o).touch' h.t (by omega),(h.t.cell (by omega) (by omega) 0).trans HC0.o.2,h.jl⟩)
  h00 ?round ?done (fun _ _ _ _ h _=>h.elim)
 case round=>
  intro lp j x W3 hsz3 hI3 hgv;dsimp only [VYF];gi_wp2;refine ⟨Gr.refl _,fun W4 ht4 hI4=>?_⟩
  have hjl:j<L.length:=by
   rcases Nat.lt_or_ge j L.length with h | h
   ·exact h
   ·unfold YdH at hgv;rw [List.getElem?_eq_none h] at hgv;cases hgv
  obtain rfl:x=L[j]:=by unfold YdH at hgv;rw [List.getElem?_eq_getElem hjl] at hgv;exact (Option.some.inj hgv).symm
  have hsz':=hgood.sz _ (List.getElem_mem hjl);have HLV:=hid (Jw5 (n:=n) hjl);have c6:=(hI4.t.cell (b:=X) (by omega) (by omega) 0).trans HC0.o.1;have HI4:=hid hI4;clear hI4 hI3 ht4 hgv;gi_wp2_with (refine ⟨trivial,?_⟩;gi_at_call 253;refine (CallsIn.inRound lp (callsIn_wide.2 (XBA HI4.o.vec _ _ (by omega)))).mono ?_;rintro e w5 ⟨rfl,ht5,hv5⟩);rw [<-HLV.o] at hv5;exact ⟨ht5.mono (fun i _ h=>by have h:i=vb:=h;omega),j+1,rfl,HI4.o.t.trans (ht5.mono (fun i _ h=>.inl h)),by omega,hv5⟩
 case done=>
  rintro D j W3 hD rfl hI3 hK;have c6:=(hI3.t.cell (b:=X) (by omega) (by omega) 0).trans HC0.o.1;have hV3:=hI3.vec;rw [List.take_length] at hV3;have HV3:=hid hV3;have HT3:=hid hI3.t;have HK:=hid hK;have HD:=hid hD;have hg3:Gr w W3:=((HG0.o.touch (fun _=>False)).trans' hI3.t (fun i hi h=>by omega)).gr;have HG3:=hid hg3;have hz6:=hI3.t.size;clear hV3 hI3 hK hD hg3;cases hb:Y1d k with
  | false=>
   have HB:=hid hb;gi_wp2_with (refine ⟨trivial,?_⟩;gi_at_call 254;refine (callsIn_wide.2 (XFA HV3.o k HB.o hk)).mono ?_;rintro e w4 ⟨rfl,rfl⟩);refine ⟨by simp,.inl ⟨_,_,rfl,run_takeDeferred HK.o,?_⟩⟩;refine ⟨.tuple #[.pointer none,.int .i64 5],?_,((HG3.o.touch (fun _=>False)).trans' (Xau _ D _ (Nat.le_refl D)) (fun i hi h=>by have:=HD.o;omega)).gr,.inl ⟨HB.o,rfl⟩⟩;simp [results,Tryz.f207,go_sem]
  | true=>
   have hbp:=Quq hb;obtain ⟨B,rfl⟩:∃ B:Nat,k=B:=⟨k.toNat,by omega⟩;have HB:=hid hb;gi_wp2_with (refine ⟨trivial,?_⟩;gi_at_call 254;refine (callsIn_wide.2 (Zv3 HV3.o B HB.o)).mono ?_;rintro e w4 ⟨x,p,b,a,rfl,hg4,hX4,hx1,hx2,hx3,hx4⟩;have c64:=(hg4.cell (ZQf c6) 0).trans c6;have HG4:=hid hg4;have HX4:=hid hX4;have HZ4:=hid (And.intro hx1 (And.intro hx2 (And.intro hx3 hx4)));clear hg4 hX4 hx1 hx2 hx3 hx4)
   have hD5:(w4.alloc (.cells #[.pointer (some ⟨v,0,none⟩),.pointer (some ⟨x,0,none⟩)] 327)).heap[D]?=some (.deferred (some [])):=
    (((HG4.o.alloc _).block (Array.getElem?_eq_some_iff.1 HK.o).1)).trans HK.o
   have tt:=((HG3.o.trans (HG4.o.alloc (.cells #[.pointer (some ⟨v,0,none⟩),.pointer (some ⟨x,0,none⟩)] 327))).touch (fun _=>False)).trans' (Xau _ D (.deferred none) (Nat.le_refl D)) (fun i hi h=>by have:=HD.o;omega);refine ⟨by simp,.inl ⟨_,_,rfl,run_takeDeferred hD5,?_⟩⟩;refine ⟨.tuple #[.pointer (some ⟨w4.heap.size,0,none⟩),.int .i64 0],?_,tt.gr,.inr ⟨HB.o,w4.heap.size,B,rfl,rfl,?_⟩⟩
   ·simp [results,Tryz.f207,go_sem]
   ·have t5:=Vx3 (w4.alloc (.cells #[.pointer (some ⟨v,0,none⟩),.pointer (some ⟨x,0,none⟩)] 327)) D (.deferred none);have hs4:=HG4.o.size;have hz:=HZ4.o;have hdl:=(Array.getElem?_eq_some_iff.1 HK.o).1;have hd:=HD.o;have hl:w4.heap.size<(w4.alloc (.cells #[.pointer (some ⟨v,0,none⟩),.pointer (some ⟨x,0,none⟩)] 327)).heap.size:=by rw [World.size_alloc];omega
    exact ⟨hgood,Nat.lt_of_lt_of_le hl t5.size,by omega,v,vb,x,p,b,a,(t5.cell (b:=w4.heap.size) hl (by omega) 0).trans (World.cell?_alloc_new ..),(t5.cell (b:=w4.heap.size) hl (by omega) 1).trans (World.cell?_alloc_new ..),
     ((HV3.o.gr HG4.o).gr ((Gr.refl _).alloc _)).touch t5 (by omega) (by omega),(HX4.o.gr ((Gr.refl _).alloc _)).touch t5 (by omega) (by omega) (by omega) (by omega),by omega,by omega,by omega,by omega,by omega,by omega⟩
end
end
section
section
open Word
def XEF:List Ob->Nat->Nat
 | [],_=>0
 | o :: r,q=>if q<o.2 then 0 else XEF r (q-o.2)+1
theorem VBJ {L:List Ob}:∀ {q:Nat},q<Qd4 L->∃ hj:XEF L q<L.length,∃ i,i<(L[XEF L q]'hj).2/\q=Qd4 (L.take (XEF L q))+i/\VlZ L q=some ((L[XEF L q]'hj).1+i):=by
 induction L with
 | nil=>intro q h;simp [Qd4] at h
 | cons o r ih=>
  intro q h;by_cases hq:q<o.2
  ·have e:XEF (o :: r) q=0:=if_pos hq;refine ⟨by rw [e];simp,q,?_⟩;simp only [e];exact ⟨hq,by simp [Qd4],by unfold VlZ;rw [if_pos hq];rfl⟩
  ·have e:XEF (o :: r) q=XEF r (q-o.2)+1:=if_neg hq;unfold Qd4 at h;obtain ⟨hj,i,h1,h2,h3⟩:=ih (q:=q-o.2) (by omega);refine ⟨by rw [e];simpa using hj,i,?_⟩;simp only [e];exact ⟨h1,by simp only [List.take_succ_cons,Qd4];omega,by unfold VlZ;rw [if_neg hq];exact h3⟩
theorem VNq {L:List Ob} {j i:Nat} (hj:j<L.length) (hi:i<L[j].2):XEF L (Qd4 (L.take j)+i)=j:=by
 induction L generalizing j with
 | nil=>simp at hj
 | cons o r ih=>
  cases j with
  | zero=>
   have hi:i<o.2:=hi;simp only [List.take_zero,Qd4,Nat.zero_add,XEF];rw [if_pos hi]
  | succ j=>
   have:=ih (j:=j) (by simpa using hj) (by simpa using hi);simp only [List.take_succ_cons,Qd4,XEF];rw [if_neg (by omega),show o.2+Qd4 (List.take j r)+i-o.2=Qd4 (List.take j r)+i by omega,this]
theorem Zut (L:List Ob) (j:Nat):Qd4 (L.take j)<=Qd4 L:=by
 induction L generalizing j with
 | nil=>simp [Qd4]
 | cons o r ih=>
  cases j with
  | zero=>simp [Qd4]
  | succ j=>have:=ih j;simp only [List.take_succ_cons,Qd4];omega
theorem VfC {L:List Ob} {j:Nat} (hj:j<L.length):Qd4 (L.take j)+L[j].2<=Qd4 L:=by
 rw [<-Qsm hj];exact Zut L (j+1)
def toV (L:List Ob) (base a:Int):Int:=if ZH8 L a<L.length then base+VeJ L 0 a else 0
def toE (L:List Ob) (a:Int):Int:=if ZH8 L a<L.length then 0 else 6
theorem YXt {n:Nat} {L:List Ob} (h:Q4l n L) {base a:Int} {j:Nat} (hj:j<L.length) (h1:(L[j].1:Int)<=a) (h2:a<L[j].1+L[j].2):
  toV L base a=base+Qd4 (L.take j)+a-(L[j].1:Nat)/\toE L a=0:=by
 have e:=XxN h hj h1 h2;have hs:=Yhz h hj (i:=(a-L[j].1).toNat) (by omega);rw [show (L[j].1:Int)+((a-L[j].1).toNat:Nat)=a by omega] at hs;unfold toV toE;rw [if_pos (by omega),if_pos (by omega),hs];exact ⟨by omega,rfl⟩
theorem YPG {L:List Ob} {base a:Int} (h:¬ ZH8 L a<L.length):toV L base a=0/\toE L a=6:=by
 unfold toV toE;rw [if_neg h,if_neg h];exact ⟨rfl,rfl⟩
theorem QFq {L:List Ob} (a:Int):(decide (0<=a)&&VoH L a.toNat)=decide (ZH8 L a<L.length):=by
 by_cases h:0<=a
 ·rw [decide_eq_true h,Q5g,show ((a.toNat:Nat):Int)=a by omega];rfl
 ·rw [decide_eq_false h];rw [ZDJ (fun o _=>by omega)];simp
def inF (L:List Ob) (base b:Int):Bool:=decide (base<=b)&&decide (b<base+(Qd4 L:Nat))
def Xbb (L:List Ob) (base b:Int):Int:=if inF L base b then V5E L (b-base) else 0
def JSL (L:List Ob) (base b:Int):Int:=if inF L base b then (XEF L (b-base).toNat:Nat) else 0
def Zdp (L:List Ob) (base b:Int):Int:=if inF L base b then 0 else 11
theorem Qy1 {L:List Ob} {base b:Int}:inF L base b=true↔base<=b/\b<base+(Qd4 L:Nat):=by simp [inF]
theorem V4q {L:List Ob} {base b:Int} (h:¬ (base<=b/\b<base+(Qd4 L:Nat))):inF L base b=false:=by
 cases e:inF L base b with
 | false=>rfl
 | true=>exact absurd (Qy1.1 e) h
theorem Z2d {L:List Ob} {j i:Nat} (hj:j<L.length) (hi:i<L[j].2):V5E L ((Qd4 (L.take j)+i:Nat):Int)=(L[j].1+i:Nat):=by
 unfold V5E;rw [if_neg (by omega),Int.toNat_natCast,XEK hj hi];rfl
theorem QCo {L:List Ob} {base b:Int} {j:Nat} (hj:j<L.length) (h1:base+(Qd4 (L.take j):Nat)<=b) (h2:b<base+(Qd4 (L.take j):Nat)+(L[j].2:Nat)):
  Xbb L base b=(L[j].1:Nat)+b-(base+(Qd4 (L.take j):Nat))/\JSL L base b=j/\Zdp L base b=0:=by
 have hm:=VfC hj;have hin:inF L base b=true:=Qy1.2 ⟨by omega,by omega⟩;obtain ⟨i,hi⟩:∃ i:Nat,b-base=((Qd4 (L.take j)+i:Nat):Int):=⟨(b-base).toNat-Qd4 (L.take j),by omega⟩;have hlt:i<L[j].2:=by omega
 unfold Xbb JSL Zdp;rw [hin,if_pos rfl,if_pos rfl,if_pos rfl,hi,Z2d hj hlt,Int.toNat_natCast,VNq hj hlt];exact ⟨by omega,rfl,rfl⟩
theorem Vtd {L:List Ob} {base b:Int} (h:inF L base b=false):Xbb L base b=0/\JSL L base b=0/\Zdp L base b=11:=by
 unfold Xbb JSL Zdp;rw [h];exact ⟨rfl,rfl,rfl⟩
theorem Zeb {n:Nat} {L:List Ob} (h:Q4l n L) {base b:Int} (hb:inF L base b=true):∃ j,∃ hj:j<L.length,JSL L base b=j/\(L[j].1:Int)<=Xbb L base b/\Xbb L base b<L[j].1+L[j].2/\ZH8 L (Xbb L base b)=j/\Zdp L base b=0:=by
 obtain ⟨h1,h2⟩:=Qy1.1 hb;obtain ⟨hj,i,hi,e,-⟩:=VBJ (L:=L) (q:=(b-base).toNat) (by omega);obtain ⟨a1,a2,a3⟩:=QCo (base:=base) (b:=b) hj (by omega) (by omega);refine ⟨_,hj,a2,by omega,by omega,XxN h hj (by omega) (by omega),a3⟩
theorem Ye3 {M:List Ob} {o:Ob} (h:∀ y∈M,¬ o.1<y.1):VZz M o=M++[o]:=by
 induction M with
 | nil=>rfl
 | cons y r ih=>
  unfold VZz;rw [if_neg (h y (List.mem_cons_self ..)),ih (fun z hz=>h z (List.mem_cons_of_mem _ hz))];rfl
theorem Zne {n:Nat} {L:List Ob} (h:Q4l n L) {j:Nat} (hj:j<L.length):VI0 (L.take j) n (L[j].1:Nat) (L[j].2:Nat)=L.take (j+1):=by
 have hs:=h.sz _ (List.getElem_mem hj)
 have hle:∀ o∈L.take j,o.1+o.2<=L[j].1:=fun o ho=>by
  obtain ⟨i,hi,hij,rfl⟩:=XDP ho;exact h.at hi hj hij
 have hc:Jf9 (L.take j) (L[j].1:Nat) (L[j].2:Nat)=false:=by
  cases e:Jf9 (L.take j) (L[j].1:Nat) (L[j].2:Nat) with
  | false=>rfl
  | true=>obtain ⟨o,ho,h1,h2⟩:=Y01.1 e;have:=hle o ho;omega
 have he:ZbB (L.take j) n (L[j].1:Nat) (L[j].2:Nat)=0:=by
  unfold ZbB;rw [if_neg (by omega),if_neg (by omega),hc];rfl
 unfold VI0;rw [if_pos he,Int.toNat_natCast,Int.toNat_natCast,Ye3 (fun y hy=>by have:=hle y hy;omega),List.take_succ_eq_append_getElem hj]
end
end
section
section
open Go.RowKit Word
def Fwd (w:World) (F f n B:Nat) (base:Nat) (L:List Ob):Prop:=
 f<w.heap.size/\F<=f/\base<2147483648/\∃ t o p1 b1 p2 b2,w.cell? ⟨f,0,none⟩=some (.pointer (some ⟨t,0,none⟩))/\w.cell? ⟨f,1,none⟩=some (.pointer (some ⟨o,0,none⟩))/\w.cell? ⟨f,2,none⟩=some (.int .i64 base) ∧
  JRn w F t n B L/\Ext w o p1 b1 p2 b2 n L/\F<=o/\F<=p1/\F<=b1/\F<=p2/\F<=b2
theorem Fwd.touch {S:Nat->Prop} {w w':World} {F f n B base:Nat} {L:List Ob} (h:Fwd w F f n B base L) (t:XF4 S w w') (hS:∀ k,F<=k->k<w.heap.size->¬ S k):Fwd w' F f n B base L:=by
 obtain ⟨h1,h2,h3,tt,o,p1,b1,p2,b2,c0,c1,c2,hO,hE,k1,k2,k3,k4,k5⟩:=h;exact ⟨Nat.lt_of_lt_of_le h1 t.size,h2,h3,tt,o,p1,b1,p2,b2,(t.cell h1 (hS f h2 h1) 0).trans c0,(t.cell h1 (hS f h2 h1) 1).trans c1,(t.cell h1 (hS f h2 h1) 2).trans c2,hO.touch t hS,hE.touch t (hS _ k1 hE.hm) (hS _ k2 hE.v1.hp) (hS _ k3 hE.v1.hb) (hS _ k4 hE.v2.hp) (hS _ k5 hE.v2.hb),k1,k2,k3,k4,k5⟩
theorem Fwd.gr {w w':World} {F f n B base:Nat} {L:List Ob} (h:Fwd w F f n B base L) (g:Gr w w'):Fwd w' F f n B base L:=h.touch (g.touch (fun _=>False)) (fun _ _ _ h=>h)
theorem Fwd.good {w:World} {F f n B base:Nat} {L:List Ob} (h:Fwd w F f n B base L):Q4l n L/\n<=1048576:=by
 obtain ⟨_,_,_,_,_,_,_,_,_,_,_,_,hO,hE,_⟩:=h;exact ⟨hE.good,hE.nb.2⟩
theorem ZOz {n:Nat} {L:List Ob} (h:Q4l n L) (hn:n<=1048576) (a:Int):0<=VeJ L 0 a/\VeJ L 0 a<=1048576:=by
 rw [<-XxJ h];have:JM8 L n 0 a<=n:=QMh _ _;omega
section
variable {w:World} {F f n B base:Nat} {L:List Ob}
set_option maxHeartbeats 800000 in
theorem Vcy (hF:Fwd w F f n B base L) (a:Int):V4y Tryz.prog 145 #[.pointer (some ⟨f,0,none⟩),.int .i64 a] w (.tuple #[.int .i64 (toV L base a),.int .i64 (toE L a)]):=by
 obtain ⟨hg,hn⟩:=hF.good;obtain ⟨h1,h2,h3,t,o,p1,b1,p2,b2,c0,c1,c2,hO,hE,-⟩:=hF;have HO:=hid hO;have hov:=ZOz hg hn a;have hl:=QFq (L:=L) a;clear hO hE hg;by_cases hf:ZH8 L a<L.length
 ·have HV:Hid (toV L base a=base+VeJ L 0 a/\toE L a=0):=⟨by unfold toV toE;rw [if_pos hf,if_pos hf];exact ⟨rfl,rfl⟩⟩;have HL:Hid ((decide (0<=a)&&VoH L a.toNat)=true):=⟨by rw [hl,decide_eq_true hf]⟩;rw [HV.o.1,HV.o.2];obtain ⟨ov,hov2⟩:∃ ov,ov=VeJ L 0 a:=⟨_,rfl⟩;rw [<-hov2] at hov ⊢;have HOV:=hid hov2.symm;have z0:∀ xs m,(grow w xs m).cell? ⟨f,0,none⟩=some (.pointer (some ⟨t,0,none⟩)):=fun xs m=>((grown w xs m).cell h1 0).trans c0;have z2:∀ xs m,(grow w xs m).cell? ⟨f,2,none⟩=some (.int .i64 base):=fun xs m=>((grown w xs m).cell h1 2).trans c2;have hwr:IntKind.i64.wrap ((base:Int)+ov)=(base:Int)+ov:=IntWalk.i64_in _ (by omega);clear hl hf hov2;unfold V4y;go_enter Tryz.func145,Tryz.ntmps145;go_wp2_with (go_at_call 215;refine (ZaO HO.o a).mono ?_;rintro e w1 ⟨rfl,rfl⟩;rw [HL.o]);refine XAX (by kernel_rfl) (by kernel_rfl) ?_
  repeat (go_big_quiet_step ((go_at_call 216;have hc:=fun xs m=>YWi (HO.o.gr (grown w xs m)) a;simp only [HOV.o] at hc;exact V4y.grown (hc _ _))))
  refine wpQuiet_nil ?_;intro _ hw';obtain ⟨⟨xs,nq⟩,hw''⟩:=hw';subst hw'';go_wp2;go_ret2;exact ⟨rfl,grown w _ _⟩
 ·have HV:=hid (YPG (base:=base) hf);have HL:Hid ((decide (0<=a)&&VoH L a.toNat)=false):=⟨by rw [hl,decide_eq_false hf]⟩;rw [HV.o.1,HV.o.2];clear hl hf;unfold V4y;go_enter Tryz.func145,Tryz.ntmps145;go_wp2_with (go_at_call 215;refine (ZaO HO.o a).mono ?_;rintro e w1 ⟨rfl,rfl⟩;rw [HL.o]);go_ret2;exact ⟨rfl,Gr.refl _⟩
theorem JwE (hF:Fwd w F f n B base L):Calls Tryz.prog 263 #[.pointer (some ⟨f,0,none⟩)] w fun e w'=>e=.returned (.int .i64 base)/\w=w':=by
 obtain ⟨h1,h2,h3,t,o,p1,b1,p2,b2,c0,c1,c2,-⟩:=hF;go_enter Tryz.func263,Tryz.ntmps263;go_wp2;go_ret;exact ⟨rfl,rfl⟩
theorem Q14 (hF:Fwd w F f n B base L):Calls Tryz.prog 196 #[.pointer (some ⟨f,0,none⟩)] w fun e w'=>e=.returned (.int .i64 (Qd4 L:Nat))/\w=w':=by
 obtain ⟨h1,h2,h3,t,o,p1,b1,p2,b2,c0,c1,c2,hO,-⟩:=hF;have HO:=hid hO;clear hO;go_enter Tryz.func196,Tryz.ntmps196;go_wp2_with (go_at_call 209;refine (XcN HO.o).mono ?_;rintro e w1 ⟨rfl,rfl⟩);go_ret;exact ⟨rfl,rfl⟩
set_option maxHeartbeats 800000 in
theorem ZMu (hF:Fwd w F f n B base L):V4y Tryz.prog 141 #[.pointer (some ⟨f,0,none⟩)] w (.int .i64 ((base:Int)+(Qd4 L:Nat))):=by
 obtain ⟨hg,hn⟩:=hF.good;have hs:=XY5 hg;obtain ⟨h1,h2,h3,t,o,p1,b1,p2,b2,c0,c1,c2,hO,-⟩:=hF;have HO:=hid hO;clear hO hg;have z0:∀ xs m,(grow w xs m).cell? ⟨f,0,none⟩=some (.pointer (some ⟨t,0,none⟩)):=fun xs m=>((grown w xs m).cell h1 0).trans c0;have z2:∀ xs m,(grow w xs m).cell? ⟨f,2,none⟩=some (.int .i64 base):=fun xs m=>((grown w xs m).cell h1 2).trans c2;have hwr:IntKind.i64.wrap ((base:Int)+(Qd4 L:Nat))=(base:Int)+(Qd4 L:Nat):=IntWalk.i64_in _ (by omega);unfold V4y;go_enter Tryz.func141,Tryz.ntmps141;go_wp2;refine XAX (by kernel_rfl) (by kernel_rfl) ?_
 repeat (go_big_quiet_step ((go_at_call 209;have hc:=fun xs m=>XcN (HO.o.gr (grown w xs m));exact V4y.grown_same (hc _ _))))
 refine wpQuiet_nil ?_;intro _ hw';obtain ⟨⟨xs,nq⟩,hw''⟩:=hw';subst hw'';go_wp2;go_ret;exact ⟨rfl,grown w _ _⟩
set_option maxHeartbeats 800000 in
theorem ZNk (hF:Fwd w F f n B base L) (hT:VRW w) (b:Int) (_hb:b<=9223372036854775807):V4y Tryz.prog 289 #[.pointer (some ⟨f,0,none⟩),.int .i64 b] w (.tuple #[.int .i64 (Xbb L base b),.int .i64 (Zdp L base b)]):=by
 obtain ⟨hg,hn⟩:=hF.good;have hs:=XY5 hg;have HF:=hid hF;have HT:=hid hT;obtain ⟨h1,h2,h3,t,o,p1,b1,p2,b2,c0,c1,c2,hO,-⟩:=hF;have HO:=hid hO;clear hO hg hT;by_cases hb1:b<base
 ·have E:=hid (Vtd (V4q (L:=L) (base:=base) (b:=b) (by omega)));rw [E.o.1,E.o.2.2];unfold V4y;go_enter Tryz.func289,Tryz.ntmps289;go_wp2;go_ret2;exact ⟨rfl,Gr.refl _⟩
 ·by_cases hb2:(base:Int)+(Qd4 L:Nat)<=b
  ·have E:=hid (Vtd (V4q (L:=L) (base:=base) (b:=b) (by omega)));rw [E.o.1,E.o.2.2];have d1:decide (b<(base:Int))=false:=decide_eq_false hb1;have d2:decide ((base:Int)+(Qd4 L:Nat)<=b)=true:=decide_eq_true hb2;unfold V4y;go_enter Tryz.func289,Tryz.ntmps289;go_wp2_with (go_at_call 141;refine (ZMu HF.o).mono ?_;rintro e w1 ⟨rfl,hg1⟩);go_ret2;exact ⟨rfl,hg1⟩
  ·have hin:inF L base b=true:=Qy1.2 ⟨by omega,by omega⟩;have E:Hid (Xbb L base b=V5E L (b-base)/\Zdp L base b=0):=⟨by unfold Xbb Zdp;rw [hin];exact ⟨rfl,rfl⟩⟩;rw [E.o.1,E.o.2];obtain ⟨q,hq⟩:∃ q,q=b-(base:Int):=⟨_,rfl⟩;have HQ:=hid hq;have hq2:(0:Int)<=b-base:=by omega
   have d1:decide (b<(base:Int))=false:=decide_eq_false hb1;have d2:decide ((base:Int)+(Qd4 L:Nat)<=b)=false:=decide_eq_false hb2;have hwr:IntKind.i64.wrap (b-(base:Int))=b-(base:Int):=IntWalk.i64_in _ (by omega);clear hin hq;unfold V4y;go_enter Tryz.func289,Tryz.ntmps289;go_wp2_with (go_at_call 141;refine (ZMu HF.o).mono ?_;rintro e w1 ⟨rfl,hg1⟩);have HG1:=hid hg1;have z0:∀ xs m,(grow w1 xs m).cell? ⟨f,0,none⟩=some (.pointer (some ⟨t,0,none⟩)):=fun xs m=>((HG1.o.trans (grown w1 xs m)).cell h1 0).trans c0;have z2:∀ xs m,(grow w1 xs m).cell? ⟨f,2,none⟩=some (.int .i64 base):=fun xs m=>((HG1.o.trans (grown w1 xs m)).cell h1 2).trans c2;clear hg1;refine XAX (by kernel_rfl) (by kernel_rfl) ?_
   repeat (go_big_quiet_step ((go_at_call 300;have hc:=fun xs m=>VXx (HO.o.gr (HG1.o.trans (grown w1 xs m))) ((HG1.o.trans (grown w1 xs m)).tab HT.o.lt HT.o) (b-(base:Int));exact V4y.grown (hc _ _))))
   refine wpQuiet_nil ?_;intro _ hw';obtain ⟨⟨xs,nq⟩,hw''⟩:=hw';subst hw'';go_wp2;go_ret2;exact ⟨rfl,HG1.o.trans (grown w1 _ _)⟩
end
end
end
section
section
open Go.RowKit Go.Shelf Word
attribute [local go_sem] Oper.semAt_some
structure XAn (W0:World) (o p1 b1 p2 b2 n:Nat) (L:List Ob) (j:Nat) (A:World):Prop where
 t:XF4 (fun i=>YBz o b1 b2 i\/W0.heap.size<=i) W0 A
 jl:j<=L.length
 ext:Ext A o p1 b1 p2 b2 n (L.take j)
def ZZx (b:Int):Bool:=decide (0<=b)&&decide (b<2147483648)
def VWZ (w:World) (n:Nat) (L:List Ob) (k b:Int) (e:Ending) (w':World):Prop:=
 Gr w w'/\(((Y1d k&&ZZx b)=false/\e=.returned (.tuple #[.pointer none,.int .i64 5]))\/((Y1d k&&ZZx b)=true/\∃ f B base:Nat,k=B/\b=base/\e=.returned (.tuple #[.pointer (some ⟨f,0,none⟩),.int .i64 0])/\Fwd w' w.heap.size f n B base L))
theorem XJm {w:World} {m p1 b1 p2 b2 n:Nat} {L:List Ob} (hE:Ext w m p1 b1 p2 b2 n L) (hT:VRW w) (k b:Int) (hk:k<=9223372036854775807) (hbad:(Y1d k&&ZZx b)=false):
  Calls Tryz.prog 140 #[.pointer (some ⟨m,0,none⟩),.int .i64 k,.int .i64 b] w (VWZ w n L k b):=by
 have HE:=hid hE;have HT:=hid hT;clear hE hT;have HB:=hid hbad;refine (callsIn_wide (n:=5)).1 ?_;refine callsIn_of_wp_marks Tryz.func140 rfl trivial ?_ rfl;simp only [Tryz.ntmps140,List.size_toArray,List.length_cons,List.length_nil,Nat.reduceAdd,Nat.reduceSub,Array.replicate_succ,Array.replicate_zero,List.push_toArray,List.append_toArray,List.nil_append,List.cons_append];cases hok:Y1d k with
 | false=>
  have HO:=hid hok;clear hbad hok;gi_wp2_with (refine ⟨trivial,?_⟩;gi_at_call 207;refine (callsIn_wide.2 (Zjf HE.o HT.o k hk)).mono ?_;rintro e w1 ⟨hg1,⟨-,rfl⟩ | ⟨hb,-⟩⟩;rotate_left;(rw [HO.o] at hb;cases hb);have HG1:=hid hg1;clear hg1);refine ⟨.tuple #[.pointer none,.int .i64 5],?_,HG1.o,.inl ⟨HB.o,rfl⟩⟩;simp [results,Tryz.f140,go_sem]
 | true=>
  rw [hok,Bool.true_and] at hbad;have HO:=hid hok;clear hok;by_cases h0:b<0
  ·have d0:decide (b<0)=true:=decide_eq_true h0;clear hbad;gi_wp2_with (refine ⟨trivial,?_⟩;gi_at_call 207;refine (callsIn_wide.2 (Zjf HE.o HT.o k hk)).mono ?_;rintro e w1 ⟨hg1,⟨hb,-⟩ | ⟨-,t,B,hkB,rfl,hO⟩⟩;(rw [HO.o] at hb;cases hb);have HG1:=hid hg1;clear hg1 hO hkB);refine ⟨.tuple #[.pointer none,.int .i64 5],?_,HG1.o,.inl ⟨HB.o,rfl⟩⟩;simp [results,Tryz.f140,go_sem]
  ·have h1:2147483648<=b:=by
    unfold ZZx at hbad;rw [decide_eq_true (by omega),Bool.true_and] at hbad;have:=of_decide_eq_false hbad;omega
   have d0:decide (b<0)=false:=decide_eq_false h0;have d1:decide ((2147483648:Int)<=b)=true:=decide_eq_true h1;clear hbad;gi_wp2_with (refine ⟨trivial,?_⟩;gi_at_call 207;refine (callsIn_wide.2 (Zjf HE.o HT.o k hk)).mono ?_;rintro e w1 ⟨hg1,⟨hb,-⟩ | ⟨-,t,B,hkB,rfl,hO⟩⟩;(rw [HO.o] at hb;cases hb);have HG1:=hid hg1;clear hg1 hO hkB);refine ⟨.tuple #[.pointer none,.int .i64 5],?_,HG1.o,.inl ⟨HB.o,rfl⟩⟩;simp [results,Tryz.f140,go_sem]
set_option maxHeartbeats 3200000 in
theorem XRP {w:World} {m p1 b1 p2 b2 n:Nat} {L:List Ob} (hE:Ext w m p1 b1 p2 b2 n L) (hT:VRW w) (k b:Int) (hk:k<=9223372036854775807):
  Calls Tryz.prog 140 #[.pointer (some ⟨m,0,none⟩),.int .i64 k,.int .i64 b] w (VWZ w n L k b):=by
 cases hgo:(Y1d k&&ZZx b) with
 | false=>exact XJm hE hT k b hk hgo
 | true=>
  have HGO:=hid hgo;obtain ⟨hok,hbo⟩:=Bool.and_eq_true_iff.1 hgo;have hb01:0<=b/\b<2147483648:=by unfold ZZx at hbo;simpa using hbo
  obtain ⟨base,rfl⟩:∃ base:Nat,b=base:=⟨b.toNat,by omega⟩;obtain ⟨hb0,hb1⟩:=hb01;have d0:decide ((base:Int)<0)=false:=decide_eq_false (by omega);have d1:decide ((2147483648:Int)<=(base:Int))=false:=decide_eq_false (by omega);have HO:=hid hok;have HE:=hid hE;have HT:=hid hT;obtain ⟨hn1,hn2⟩:=hE.nb;have hTl:=hT.lt;clear hE hT hok hbo hgo;refine (callsIn_wide (n:=5)).1 ?_;refine callsIn_of_wp_marks Tryz.func140 rfl trivial ?_ rfl;simp only [Tryz.ntmps140,List.size_toArray,List.length_cons,List.length_nil,Nat.reduceAdd,Nat.reduceSub,Array.replicate_succ,Array.replicate_zero,List.push_toArray,List.append_toArray,List.nil_append,List.cons_append]
  gi_wp2_with (first
   | (refine ⟨trivial,?_⟩;gi_at_call 207;refine (callsIn_wide.2 (Zjf HE.o HT.o k hk)).mono ?_;rintro e w1 ⟨hg1,⟨hb,-⟩ | ⟨-,t,B,hkB,rfl,hO⟩⟩;(rw [HO.o] at hb;cases hb);have HG1:=hid hg1;have HOT:=hid hO;have HKB:=hid hkB;clear hg1 hO hkB)
   | (refine ⟨trivial,?_⟩;gi_at_call 121;refine (callsIn_wide.2 (VSs (HE.o.gr HG1.o))).mono ?_;rintro e w2 ⟨rfl,rfl⟩)
   | (refine ⟨trivial,?_⟩;gi_at_call 51;refine (callsIn_wide.2 (XMw n hn1 hn2 _)).mono ?_;rintro e w2 ⟨o,q1,r1,q2,r2,rfl,hg2,hE2,hx1,hx2,hx3,hx4,hx5⟩;have HG2:=hid hg2;have HE2:=hid hE2;have HX:=hid (And.intro hx1 (And.intro hx2 (And.intro hx3 (And.intro hx4 hx5))));clear hg2 hE2 hx1 hx2 hx3 hx4 hx5)
   | (refine ⟨trivial,?_⟩;gi_at_call 142;refine (callsIn_wide.2 (JMu (some ⟨m,0,none⟩))).mono ?_;rintro e w3 ⟨rfl,rfl⟩))
  obtain ⟨X,hX⟩:∃ X,X=w2.heap.size:=⟨_,rfl⟩;obtain ⟨W0,hW0⟩:∃ W0,W0=(w2.alloc (.cells #[.pointer (some ⟨o,0,none⟩)] 100)).alloc (.cells #[.pointer (some ⟨m,0,none⟩)] 100):=⟨_,rfl⟩;have hg0:Gr w2 W0:=by rw [hW0];exact ((Gr.refl w2).alloc _).alloc _
  have hs0:W0.heap.size=X+2:=by rw [hW0,hX];simp
  have e0:W0.cell? ⟨X,0,none⟩=some (.pointer (some ⟨o,0,none⟩)):=by rw [hW0,hX];exact ((Boxed.new w2 _ _).alloc _).cell
  have e1:W0.cell? ⟨X+1,0,none⟩=some (.pointer (some ⟨m,0,none⟩)):=by
   rw [hW0,hX];have:=Boxed.new (w2.alloc (.cells #[.pointer (some ⟨o,0,none⟩)] 100)) 100 (.pointer (some ⟨m,0,none⟩));rw [World.size_alloc] at this;exact this.cell
  have hz1:=HG1.o.size;have hz2:=HG2.o.size;have o1:=HE.o.hm;have o2:=HE.o.v1.hp;have o3:=HE.o.v1.hb;have o4:=HE.o.v2.hp;have o5:=HE.o.v2.hb;have j1:=HE2.o.hm;have j2:=HE2.o.v1.hp;have j3:=HE2.o.v1.hb;have j4:=HE2.o.v2.hp;have j5:=HE2.o.v2.hb;have hx:=HX.o;rw [<-hX] at hz2 j1 j2 j3 j4 j5;have HG0:=hid ((HG1.o.trans HG2.o).trans hg0);have HE0:=hid (HE.o.gr HG0.o);have HEO:=hid (HE2.o.gr hg0);have HOG:=hid (HG2.o.trans hg0);have hgood:=HE.o.good;have HC0:=hid (And.intro e0 e1);have HW1:=hid (show w.heap.size<=w1.heap.size from hz1);rw [<-hW0,<-hX];clear hW0 hX hg0 e0 e1;have hml:∀ i,YBz o r1 r2 i->w1.heap.size<=i/\i<X:=fun i h=>by rcases h with rfl | rfl | rfl <;> omega
  have h00:XAn W0 o q1 r1 q2 r2 n L 0 W0:=⟨XF4.refl _ _,Nat.zero_le _,HEO.o⟩
  have tI:∀ j A B,XAn W0 o q1 r1 q2 r2 n L j A->XF4 (fun i=>W0.heap.size<=i) A B->XAn W0 o q1 r1 q2 r2 n L j B:=fun j A B h t=>
   ⟨h.t.trans (t.mono (fun i _ h=>.inr h)),h.jl,h.ext.touch t (by omega) (by omega) (by omega) (by omega) (by omega)⟩
  refine JQ9 (s0:=0) rfl (by omega) (gf:=210) (lb:=#[.pointer (some ⟨X+1,0,none⟩)]) rfl trivial (enters_of Tryz.func210 (by kernel_rfl) rfl)
   (Xix _ (X+1) m p1 b1 p2 b2 n L _) (fun _=>rfl)
   (XAn W0 o q1 r1 q2 r2 n L) (fun _ _=>False) tI (fun _ _ _ h _=>h)
   (fun j A h=>⟨HE0.o.touch h.t (fun h=>by rcases h with h | h;have:=hml _ h;omega;omega) (fun h=>by rcases h with h | h;have:=hml _ h;omega;omega) (fun h=>by rcases h with h | h;have:=hml _ h;omega;omega) (fun h=>by rcases h with h | h;have:=hml _ h;omega;omega) (fun h=>by rcases h with h | h;have:=hml _ h;omega;omega),
    (HG0.o.tab HT.o.lt HT.o).touch' h.t (fun h=>by rcases h with h | h;have:=hml _ h;omega;omega),(h.t.cell (by omega) (fun h=>by rcases h with h | h;have:=hml _ h;omega;omega) 0).trans HC0.o.2,h.jl⟩)
   h00 ?round ?done (fun _ _ _ _ h _=>h.elim)
  case round=>
   intro lp j x W3 hsz3 hI3 hgv;dsimp only [VYF];gi_wp2;refine ⟨Gr.refl _,fun W4 ht4 hI4=>?_⟩
   have hjl:j<L.length:=by
    rcases Nat.lt_or_ge j L.length with h | h
    ·exact h
    ·unfold YdH at hgv;rw [List.getElem?_eq_none h] at hgv;cases hgv
   obtain rfl:x=L[j]:=by unfold YdH at hgv;rw [List.getElem?_eq_getElem hjl] at hgv;exact (Option.some.inj hgv).symm
   have hsz':=hgood.sz _ (List.getElem_mem hjl);have HLV:=hid (Zne hgood hjl);have c6:=(hI4.t.cell (b:=X) (by omega) (fun h=>by rcases h with h | h;have:=hml _ h;omega;omega) 0).trans HC0.o.1;have HTA:=hid ((HG0.o.tab HT.o.lt HT.o).touch' hI4.t (fun h=>by rcases h with h | h;have:=hml _ h;omega;omega));have HI4:=hid hI4;clear hI4 hI3 ht4 hgv;gi_wp2_with (refine ⟨trivial,?_⟩;gi_at_call 208;refine (CallsIn.inRound lp (callsIn_wide.2 (Zc1 HI4.o.ext HTA.o _ _))).mono ?_;rintro e w5 ⟨rfl,ht5,hv5⟩);rw [HLV.o] at hv5;exact ⟨ht5.mono (fun i _ h=>by have:=hml _ h;omega),j+1,rfl,HI4.o.t.trans (ht5.mono (fun i _ h=>.inl h)),by omega,hv5⟩
  case done=>
   rintro D j W3 hD rfl hI3 hK;have c6:=(hI3.t.cell (b:=X) (by omega) (fun h=>by rcases h with h | h;have:=hml _ h;omega;omega) 0).trans HC0.o.1;have hE3:=hI3.ext;rw [List.take_length] at hE3;have HE3:=hid hE3;have HS3:=hid ((HOG.o.touch (fun i=>w1.heap.size<=i)).trans' hI3.t (fun i hi h=>by rcases h with h | h;exact (hml _ h).1;omega));have HK:=hid hK;have HD:=hid hD;have hg3:Gr w W3:=((HG0.o.touch (fun _=>False)).trans' hI3.t (fun i hi h=>by rcases h with h | h;have:=hml _ h;omega;omega)).gr;have HG3:=hid hg3;have hz6:=hI3.t.size;clear hE3 hI3 hK hD hg3;gi_wp2;obtain ⟨O,hO⟩:∃ O:Obj,O=.cells #[.pointer (some ⟨t,0,none⟩),.pointer (some ⟨o,0,none⟩),.int .i64 base] 279:=⟨_,rfl⟩;rw [<-hO];have hD5:(W3.alloc O).heap[D]?=some (.deferred (some [])):=(((Gr.refl W3).alloc _).block (Array.getElem?_eq_some_iff.1 HK.o).1).trans HK.o;have tt:=((HG3.o.alloc O).touch (fun _=>False)).trans' (Xau _ D (.deferred none) (Nat.le_refl D)) (fun i hi h=>by have:=HD.o;have:=HG0.o.size;omega);refine ⟨by simp,.inl ⟨_,_,rfl,run_takeDeferred hD5,?_⟩⟩;refine ⟨.tuple #[.pointer (some ⟨W3.heap.size,0,none⟩),.int .i64 0],?_,tt.gr,.inr ⟨HGO.o,W3.heap.size,B,base,HKB.o,rfl,rfl,?_⟩⟩
   ·simp [results,Tryz.f140,go_sem]
   ·have t5:=Vx3 (W3.alloc O) D (.deferred none);have hdl:=(Array.getElem?_eq_some_iff.1 HK.o).1;have hd:=HD.o;have hl:W3.heap.size<(W3.alloc O).heap.size:=by rw [World.size_alloc];omega
    subst hO
    exact ⟨Nat.lt_of_lt_of_le hl t5.size,by omega,by omega,t,o,q1,r1,q2,r2,(t5.cell (b:=W3.heap.size) hl (by omega) 0).trans (World.cell?_alloc_new ..),(t5.cell (b:=W3.heap.size) hl (by omega) 1).trans (World.cell?_alloc_new ..),(t5.cell (b:=W3.heap.size) hl (by omega) 2).trans (World.cell?_alloc_new ..),
     HOT.o.touch ((HS3.o.trans (((Gr.refl W3).alloc _).touch _)).trans' t5 (fun i hi h=>by omega)) (fun k _ h1 h2=>by omega),(HE3.o.gr ((Gr.refl _).alloc _)).touch t5 (by omega) (by omega) (by omega) (by omega) (by omega),by omega,by omega,by omega,by omega,by omega⟩
end
end
end Go.Proofs.YtmjoodkiiekjcaaGreatDoor
