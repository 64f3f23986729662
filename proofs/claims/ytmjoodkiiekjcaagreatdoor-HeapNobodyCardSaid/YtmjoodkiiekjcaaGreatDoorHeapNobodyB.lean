/- Part 2 of what HeapNobody leans on: my own lemmas, merged by shake.py. -/
import Derived.Test.YtmjoodkiiekjcaaGreatDoorHeapNobodyA
import Derived.Deep.RegionWith
import Derived.WalkSpells
namespace Go.Proofs.YtmjoodkiiekjcaaGreatDoor
set_option maxRecDepth 100000
section
section
section
open Go.RowKit Word
theorem VuI {l:List Bool} {a:Int} {k:Nat} (hn:∀ i,i<k->¬ (at_ l i=true/\a<=i)) (h:at_ l k=true) (ha:a<=k):ZnF l a=k/\ZnF l a<l.length:=by
 have hl:=XaX h
 have e:ZnF l a=k:=XFN (by omega) (fun i hi=>by
  have:=hn i hi;cases h1:at_ l i with
  | false=>rfl
  | true=>simp [h1] at this;simp;omega) (fun _=>by simp [h];omega)
 exact ⟨e,by omega⟩
theorem XoQ {l:List Bool} {a:Int} (hn:∀ i,i<l.length->¬ (at_ l i=true/\a<=i)):ZnF l a=l.length:=
 XFN (by omega) (fun i hi=>by
  have:=hn i hi;cases h1:at_ l i with
  | false=>rfl
  | true=>simp [h1] at this;simp;omega) (fun h=>by omega)
theorem YBm {l:List Bool} {b:Int} {k:Nat} (hn:∀ i:Nat,k<i->¬ (at_ l i=true/\(i:Int)<b)) (h:at_ l k=true) (hb:(k:Int)<b):JJU l b=k:=by
 have hl:=XaX h;refine VPe (by omega) (by omega) (fun i hi _=>?_) (fun _=>by simp [h];omega);have:=hn i (by omega);cases h1:at_ l i with
 | false=>rfl
 | true=>simp [h1] at this;simp;omega
theorem Xaz {l:List Bool} {b:Int} (hn:∀ i:Nat,¬ (at_ l i=true/\(i:Int)<b)):JJU l b = -1:=by
 refine VPe (by omega) (by omega) (fun i hi _=>?_) (fun h=>by omega);have:=hn i;cases h1:at_ l i with
 | false=>rfl
 | true=>simp [h1] at this;simp;omega
def Jid (l:List Bool) (q:Int):Int:=if q<0 then 0 else JHm l.length (X5b l q.toNat)
def Yka (l:List Bool) (q:Int):Bool:=decide (0<=q)&&decide (X5b l q.toNat<l.length)
theorem YTa {l:List Bool} {k q:Nat} (h:at_ l k=true) (hc:cnt (at_ l) k=q):X5b l q=k/\X5b l q<l.length:=by
 have e:X5b l q=k:=ZiF (XaX h) h hc;exact ⟨e,by rw [e];exact XaX h⟩
end
end
section
section
open Go.RowKit Word
structure Vec (w:World) (p b:Nat) (l:List Bool):Prop where
 ne:p≠b
 hp:p<w.heap.size
 hb:b<w.heap.size
 n1:1<=l.length
 n2:l.length<=1048576
 c0:∃ cap,nw l<=cap/\cap<=maxLen/\w.cell? ⟨p,0,none⟩=some (.slice (some ⟨b,0,none⟩) (nw l) cap)
 c1:w.cell? ⟨p,1,none⟩=some (.int .i64 l.length)
 cw:∀ i,i<nw l->w.cell? ⟨b,i,none⟩=some (.int .u64 (Zgh l i:Nat))
 fw:∀ i,w.frozen? ⟨b,i,none⟩=false
theorem Vec.touch {S:Nat->Prop} {w w':World} {p b:Nat} {l:List Bool} (h:Vec w p b l) (t:XF4 S w w') (h1:¬ S p) (h2:¬ S b):Vec w' p b l:=by
 obtain ⟨cap,a1,a2,a3⟩:=h.c0
 exact ⟨h.ne,Nat.lt_of_lt_of_le h.hp t.size,Nat.lt_of_lt_of_le h.hb t.size,h.n1,h.n2,⟨cap,a1,a2,by rw [t.cell h.hp h1];exact a3⟩,by rw [t.cell h.hp h1];exact h.c1,
  fun i hi=>by rw [t.cell h.hb h2];exact h.cw i hi,fun i=>by rw [t.frozen h.hb h2];exact h.fw i⟩
theorem Vec.gr {w w':World} {p b:Nat} {l:List Bool} (h:Vec w p b l) (t:Gr w w'):Vec w' p b l:=h.touch (t.touch (fun _=>False)) (fun h=>h) (fun h=>h)
def Ybw (l:List Bool) (i:Int):Int:=if i<0\/(l.length:Int)<=i then 11 else 0
theorem JxP {l:List Bool} (h1:1<=l.length) (h2:l.length<=1048576):1<=nw l/\nw l<=16384:=by unfold nw;omega
theorem Xh7 {l:List Bool} {i:Nat} (h:i<l.length):i/64<nw l:=by unfold nw;omega
set_option maxHeartbeats 400000 in
theorem XOv {w:World} {p b:Nat} {l:List Bool} (hV:Vec w p b l) (i:Int):
  Calls Tryz.prog 287 #[.pointer (some ⟨p,0,none⟩),.int .i64 i] w fun e w'=>e=.returned (.int .i64 (Ybw l i))/\w=w':=by
 have c1:=hV.c1;have n2:=hV.n2;by_cases h0:i<0
 ·go_enter Tryz.func287,Tryz.ntmps287;go_wp2;go_ret;exact ⟨ZzN (by unfold Ybw;rw [if_pos (by omega)]),rfl⟩
 ·by_cases h1:(l.length:Int)<=i
  ·go_enter Tryz.func287,Tryz.ntmps287;go_wp2;go_ret;exact ⟨ZzN (by unfold Ybw;rw [if_pos (by omega)]),rfl⟩
  ·go_enter Tryz.func287,Tryz.ntmps287;go_wp2;go_ret;exact ⟨ZzN (by unfold Ybw;rw [if_neg (by omega)]),rfl⟩
theorem JoW {w:World} {p b:Nat} {l:List Bool} (hV:Vec w p b l):
  Calls Tryz.prog 182 #[.pointer (some ⟨p,0,none⟩)] w fun e w'=>e=.returned (.int .i64 l.length)/\w=w':=by
 have c1:=hV.c1;go_enter Tryz.func182,Tryz.ntmps182;go_wp2;go_ret;exact ⟨rfl,rfl⟩
theorem XG7 (x j:Nat) (hx:x<18446744073709551616):(bits .and .u64 ((x:Int)/2 ^ j) 1==1)=x.testBit j:=by
 have e:((x:Int)/2 ^ j)=((x/2 ^ j:Nat):Int):=by simp
 have h:=Jp7 (x/2 ^ j) 1 (Nat.lt_of_le_of_lt (Nat.div_le_self _ _) hx) (by decide);rw [e,show (1:Int)=((1:Nat):Int) from rfl,h,Nat.and_one_is_mod,Nat.testBit_eq_decide_div_mod_eq];by_cases h1:x/2 ^ j%2=1
 ·simp [h1]
 ·have:x/2 ^ j%2=0:=by omega
  simp [this]
set_option maxHeartbeats 400000 in
theorem X89 {w:World} {p b:Nat} {l:List Bool} (hV:Vec w p b l) (i:Int):
  Calls Tryz.prog 261 #[.pointer (some ⟨p,0,none⟩),.int .i64 i] w fun e w'=>e=.returned (.bool (decide (0<=i)&&at_ l i.toNat))/\w=w':=by
 by_cases hin:0<=i/\i<l.length
 ·obtain ⟨k,rfl⟩:∃ k:Nat,i=k:=⟨i.toNat,by omega⟩;have hk:k<l.length:=by omega
  have hc:=hV.cw _ (Xh7 hk);obtain ⟨cap,a1,a2,c0⟩:=hV.c0;have e0:Ybw l (k:Int)=0:=by unfold Ybw;rw [if_neg (by omega)]
  have n2:=hV.n2;have hd:=Xh7 hk;have hnb:=JxP hV.n1 hV.n2;have HV:=hid hV;clear hin;go_enter Tryz.func261,Tryz.ntmps261;go_wp2_with (go_at_call 287;refine (XOv HV.o _).mono ?_;rintro e w' ⟨rfl,rfl⟩);go_ret;refine ⟨Zbf ?_,rfl⟩;rw [XG7 _ _ (Vhd l _),QgF,decide_eq_true (show k%64<64 by omega),decide_eq_true (show (0:Int)<=k by omega),Int.toNat_natCast];simp only [Bool.true_and,at_];rw [show 64*(k/64)+k%64=k by omega]
 ·have e0:(decide (0<=i)&&at_ l i.toNat)=false:=by
   by_cases h:0<=i
   ·rw [JWT (by omega)];simp
   ·simp [h]
  rw [e0];have e1:Ybw l i=11:=by unfold Ybw;rw [if_pos (by omega)]
  have HV:=hid hV;clear hin e0;go_enter Tryz.func261,Tryz.ntmps261;go_wp2_with (go_at_call 287;refine (XOv HV.o _).mono ?_;rintro e w' ⟨rfl,rfl⟩);go_ret;exact ⟨rfl,rfl⟩
theorem VLp (j:Nat):IntKind.u64.wrap (2 ^ (j%64))=((2 ^ (j%64):Nat):Int):=by
 have:=XN7 (2 ^ (j%64)) (Qvn j);rw [<-this];simp
theorem YyP (a b:Nat) (ha:a<18446744073709551616):bits .andNot .u64 (a:Int) (b:Int)=((Xxg a b:Nat):Int):=by
 have h1:(BitVec.ofInt 64 (a:Int)).toNat=a:=by
  rw [BitVec.ofInt_natCast,BitVec.toNat_ofNat];exact Nat.mod_eq_of_lt (by omega)
 have h2:(BitVec.ofInt 64 (b:Int)).toNat=b%18446744073709551616:=by
  rw [BitVec.ofInt_natCast,BitVec.toNat_ofNat]
 show IntKind.u64.wrap ((BitVec.ofInt 64 (a:Int) &&& ~~~ BitVec.ofInt 64 (b:Int)).toNat:Int)=_
 rw [BitVec.toNat_and,BitVec.toNat_not,h1,h2];have:2 ^ 64-1-b%18446744073709551616=18446744073709551615-b%18446744073709551616:=rfl;rw [this];exact XN7 _ (YVd a b ha)
theorem Vec.set {w:World} {p b:Nat} {l:List Bool} (h:Vec w p b l) (k:Nat) (x:Bool) (hk:k<l.length) {y:Nat} (hy:y=Zgh (l.set k x) (k/64)):
  Vec (w.setCell ⟨b,k/64,none⟩ (.int .u64 (y:Nat))) p b (l.set k x)/\XF4 (fun i=>i=b) w (w.setCell ⟨b,k/64,none⟩ (.int .u64 (y:Nat))):=by
 have t:XF4 (fun i=>i=b) w (w.setCell ⟨b,k/64,none⟩ (.int .u64 (y:Nat))):=(XF4.refl (fun i=>i=b) w).setCell (a:=⟨b,k/64,none⟩) (fun _=>rfl) _;refine ⟨⟨h.ne,Nat.lt_of_lt_of_le h.hp t.size,Nat.lt_of_lt_of_le h.hb t.size,by simp [h.n1],by simp [h.n2],?_,?_,?_,?_⟩,t⟩
 ·obtain ⟨cap,a1,a2,a3⟩:=h.c0;exact ⟨cap,by rw [Qmp];exact a1,a2,by rw [t.cell h.hp h.ne,a3,Qmp]⟩
 ·rw [t.cell h.hp h.ne,h.c1,List.length_set]
 ·intro i hi;rw [Qmp] at hi;by_cases e:i=k/64
  ·subst e;rw [hy];exact World.cell?_setCell_same (h:=h.cw _ hi) ..
  ·rw [World.cell?_setCell_other (h:=by intro e2;injection e2 with _ e3;omega),h.cw i hi,Ywt l k i x hk e]
 ·intro i;rw [World.frozen?_setCell];exact h.fw i
set_option maxHeartbeats 400000 in
theorem ZYZ {w:World} {p b:Nat} {l:List Bool} (hV:Vec w p b l) (k:Nat) (hk:k<l.length):
  Calls Tryz.prog 255 #[.pointer (some ⟨p,0,none⟩),.int .i64 k] w fun e w'=>e=.returned (.int .i64 0)/\XF4 (fun i=>i=b) w w'/\Vec w' p b (l.set k true):=by
 have hc:=hV.cw _ (Xh7 hk);have hf:=hV.fw (k/64);obtain ⟨cap,a1,a2,c0⟩:=hV.c0;have e0:Ybw l (k:Int)=0:=by unfold Ybw;rw [if_neg (by omega)]
 have n2:=hV.n2;have hd:=Xh7 hk;have hnb:=JxP hV.n1 hV.n2;have HV:=hid hV;go_enter Tryz.func255,Tryz.ntmps255;go_wp2_with (go_at_call 287;refine (XOv HV.o _).mono ?_;rintro e w' ⟨rfl,rfl⟩)
 go_region
 have hv:bits BinOp.or IntKind.u64 (Zgh l (k/64)) (IntKind.u64.wrap (2 ^ (k%64)))=((Zgh l (k/64) ||| 2 ^ (k%64):Nat):Int):=by
  rw [VLp];exact bits_or_u64_nat _ _ (Vhd _ _) (Qvn k)
 rw [hv];have HV2:=hV.set k true hk (JLE l k hk).symm;clear hv;go_wp2;go_ret;exact ⟨rfl,HV2.2.drew,HV2.1.gr ((Gr.refl _).drew)⟩
end
end
section
section
open Go.RowKit Word
theorem Qh8 {a b c d:Value} (h:a=c) (h2:b=d):Ending.returned (.tuple #[a,b])=.returned (.tuple #[c,d]):=by rw [h,h2]
theorem Yhd {k:IntKind} {a b:Int} (h:a=b):Value.int k a=.int k b:=by rw [h]
theorem JQa {a b:Bool} (h:a=b):Value.bool a=.bool b:=by rw [h]
set_option maxHeartbeats 800000 in
theorem QUF {w:World} {p b:Nat} {l:List Bool} (hV:Vec w p b l) (hT:VRW w) (i:Int):
  Calls Tryz.prog 252 #[.pointer (some ⟨p,0,none⟩),.int .i64 i] w fun e w'=>
   e=.returned (.tuple #[.int .i64 (JHm l.length (ZnF l i)),.bool (decide (ZnF l i<l.length))])/\w=w':=by
 have c1:=hV.c1;have n2:=hV.n2;by_cases hout:(l.length:Int)<=i
 ·have e:=hid (Z5e hout);go_enter Tryz.func252,Tryz.ntmps252;go_wp2;go_ret2;exact ⟨Qh8 (Yhd (by rw [e.o,JEJ (by omega)])) (JQa (by rw [e.o];simp)),rfl⟩
 ·obtain ⟨a,ha⟩:∃ a:Nat,a=i.toNat:=⟨_,rfl⟩;rw [ZMZ l i,<-ha];have hal:a<l.length:=by have:=hV.n1;omega
  obtain ⟨cap,a1,a2,c0⟩:=hV.c0;have hnb:=JxP hV.n1 hV.n2;have hcw:=hV.cw;have HC:=hid hcw;have HT:=hid hT;clear hT hV hcw;go_enter Tryz.func252,Tryz.ntmps252;go_upto_region 3 with (fail);go_cut [1] from 9 (fun v w'=>w'=w/\v=.int .i64 a)
  case first=>
   by_cases hneg:i<0
   ·go_wp2
    all_goals (go_meet;case rel=>exact ⟨rfl,Yhd (by omega)⟩)
   ·go_wp2
    all_goals (go_meet;case rel=>exact ⟨rfl,Yhd (by omega)⟩)
  case rest=>
   obtain ⟨rfl,rfl⟩:=hcut;have hal':=Xh7 hal;have HN:=hid (fun k (h:nw l<=k)=>fun fr (h2:JXz l a (64*k+fr))=>JRu h2 h);clear hout ha c1 n2 a1 a2;generalize nw l=m at *
   have hm:m<=16384:=hnb.2;clear hnb;go_wp2
   go_loop [6,7] (fun k fr=>∃ k' fr':Nat,k'<=m/\fr' < 64/\a<=64*k' + fr'/\Hid (JXz l a (64*k' + fr'))/\k=.int .i64 k'/\fr=.int .i64 fr') (fun k _=>m-(intOf k).toNat)
   case atStart=>exact ⟨a/64,a%64,by omega,by omega,by omega,⟨X3L l a⟩,by go_num,by go_num⟩
   case round=>
    obtain ⟨k,fr,hk,hfr,hak,hno,rfl,rfl⟩:=hrel;by_cases hlt:k<m
    ·have hc:=HC.o k hlt;have HI:=hid (YeH hno.o hak);have MI:=hid (ZMX hno.o (by omega));have hw:=hid (Vhd l k);have ht64:=ZtG (Zgh l k &&& XEJ fr 64);generalize hq:tz (Zgh l k &&& XEJ fr 64)=q at *
     have HQ:=hid hq;clear hq hno;go_wp2_with (go_at_call 283;refine (QaB _ hw.o _ _ HT.o).mono ?_;rintro e w' ⟨rfl,rfl⟩;rw [HQ.o])
     ·have h:q<64:=by omega
      go_ret2;obtain ⟨h1,h2⟩:=HI.o h;exact ⟨Qh8 (Yhd (by rw [Jpj h2,h1];omega)) (JQa (by simp [h2])),rfl⟩
     ·go_round
      case rel=>exact ⟨k+1,0,by omega,by omega,by omega,⟨MI.o (by omega)⟩,by go_num,by go_num⟩
      case measure=>simp [intOf];omega
    ·have NO:=hid (HN.o k (by omega) fr hno.o);have hlt':m<=k:=by omega
     clear hno hlt;go_wp2;go_ret2;exact ⟨Qh8 (Yhd (by rw [NO.o,JEJ (by omega)])) (JQa (by rw [NO.o];simp)),rfl⟩
set_option maxHeartbeats 800000 in
theorem XEP {w:World} {p b:Nat} {l:List Bool} (hV:Vec w p b l) (i:Int):
  Calls Tryz.prog 276 #[.pointer (some ⟨p,0,none⟩),.int .i64 i] w fun e w'=>
   e=.returned (.tuple #[.int .i64 (Jvh (JJU l i)),.bool (decide (0<=JJU l i))])/\w=w':=by
 have c1:=hV.c1;have n2:=hV.n2;by_cases hout:i<=0
 ·have e:=hid (Q9t (l:=l) hout);go_enter Tryz.func276,Tryz.ntmps276;go_wp2;go_ret2;exact ⟨Qh8 (Yhd (by rw [e.o];rfl)) (JQa (by rw [e.o];simp)),rfl⟩
 ·obtain ⟨a,ha⟩:∃ a:Nat,(a:Int)=min i l.length:=⟨(min i l.length).toNat,by omega⟩;rw [ZAa l i,<-ha];have h1:1<=a:=by have:=hV.n1;omega
  have hal:a<=l.length:=by omega
  obtain ⟨cap,a1,a2,c0⟩:=hV.c0;have hnb:=JxP hV.n1 hV.n2;have hcw:=hV.cw;have HC:=hid hcw;clear hV hcw;go_enter Tryz.func276,Tryz.ntmps276;go_upto_region 3 with (fail);go_cut [1] from 8 (fun v w'=>w'=w/\v=.int .i64 a)
  case first=>
   by_cases hneg:i<l.length
   ·go_wp2
    all_goals (go_meet;case rel=>exact ⟨rfl,Yhd (by omega)⟩)
   ·go_wp2
    all_goals (go_meet;case rel=>exact ⟨rfl,Yhd (by omega)⟩)
  case rest=>
   obtain ⟨rfl,rfl⟩:=hcut;have hal':(a-1)/64<nw l:=Xh7 (by omega);have hst:ZoR l (a:Int) (64*(((a-1)/64:Nat):Int)+64):=fun i h1 h2=>by omega
   have HS:=hid hst;have a64:a<=1048576:=by omega
   clear hout ha c1 n2 a1 a2 hst;generalize nw l=m at *
   have hm:(m:Int)<=16384:=by have:=hnb.2;omega
   clear hnb;go_wp2
   go_loop [6] (fun k=>∃ k':Nat,k'<=m/\Hid (ZoR l a (64*((k':Int)-1)+64))/\k=.int .i64 ((k':Int)-1)) (fun k=>(intOf k+1).toNat)
   case atStart=>exact ⟨(a-1)/64+1,by omega,⟨by have:=HS.o;rwa [show 64*((((a-1)/64+1:Nat):Int)-1)+64=64*(((a-1)/64:Nat):Int)+64 by omega]⟩,by go_num⟩
   case round=>
    obtain ⟨k',hk,hno,rfl⟩:=hrel;cases k' with
    | zero=>
     have NO:=hid (JS8 hno.o (by omega));clear hno;go_wp2;go_ret2;exact ⟨Qh8 (Yhd (by rw [NO.o];rfl)) (JQa (by rw [NO.o];simp)),rfl⟩
    | succ k=>
     have hc:=HC.o k (by omega);have hno2:ZoR l a (64*(k:Int)+64):=by have:=hno.o;rwa [show ((k+1:Nat):Int)-1=k by omega] at this
     rw [show ((k+1:Nat):Int)-1=k by omega];have HI:=hid (Vu4 hno2);have MI:=hid (JlV hno2);have hw:=hid (Vhd l k);have ht64:=Y6K (Zgh l k &&& XEJ 0 ((a:Int)-64*k));generalize hq:len (Zgh l k &&& XEJ 0 ((a:Int)-64*k))=q at *
     have HQ:=hid hq;clear hq hno hno2;go_wp2_with (go_at_call 296;refine (Ydz _ hw.o _ _).mono ?_;rintro e w' ⟨rfl,rfl⟩;rw [HQ.o])
     ·have h:0<=q-1:=by omega
      go_ret2;have h1:=HI.o h;exact ⟨Qh8 (Yhd (by rw [h1];unfold Jvh;rw [if_pos (by omega)])) (JQa (by rw [h1];simp;omega)),rfl⟩
     ·go_round
      case rel=>exact ⟨k,by omega,⟨by have:=MI.o (by omega);rwa [show 64*((k:Int)-1)+64=64*(k:Int) by omega]⟩,by go_num⟩
      case measure=>simp [intOf]
end
end
section
section
open Go.RowKit Word
def JJZ (I:Nat->World->Prop) (lo:Nat) (hi:Int) (W:World):Prop:=∃ k,lo/64<=k/\((lo:Int)<hi->hi<=64*k)/\I k W
set_option maxHeartbeats 1600000 in
theorem QLO (g:FuncId) (bx:Addr) (p b n m c:Nat) (I:Nat->World->Prop)
  (hg:∀ args W,(callFunc g args).run Tryz.prog W=.ok (.enter g args) W)
  (hI:∀ k W,I k W->W.cell? ⟨p,0,none⟩=some (.slice (some ⟨b,0,none⟩) m c)/\W.cell? ⟨p,1,none⟩=some (.int .i64 n))
  (hD:∀ k W d,I k W->I k (W.drewN d))
  (hm:n<=64*m) (hn:(n:Int)<=1048576) (f t:Int) (hf64:f<=9223372036854775807) (lo:Nat) (hlo:(lo:Int)=max f 0) (hi:Int) (hhi:hi=min t n)
  (hstep:∀ k W,lo/64<=k->(64*k:Int)<hi->(lo:Int)<hi->I k W →
   Calls Tryz.prog g #[.pointer (some ⟨b,k,none⟩),.int .u64 (XEJ ((lo:Int)-64*k) (hi-64*k):Nat),.pointer (some bx)] W (fun e W'=>e=.returned (.tuple #[])/\I (k+1) W'))
  (w:World) (h0:I (lo/64) w):
  Calls Tryz.prog 235 #[.pointer (some ⟨p,0,none⟩),.int .i64 f,.int .i64 t,.func (.func g) #[] #[.pointer (some bx)]] w fun e W'=>
   e=.returned (.tuple #[])/\JJZ I lo hi W':=by
 obtain ⟨c0,c1⟩:=hI _ _ h0;have HI:=hid hI;have HD:=hid hD;have HS:=hid hstep;have H0:=hid h0;clear hI hD hstep h0;go_enter Tryz.func235,Tryz.ntmps235;go_upto_region 1 with (fail);go_cut [1,2] from 9 (fun u v w'=>u=.int .i64 lo/\v=.int .i64 hi/\∃ d,w'=w.drewN d)
 case first=>
  have hc1:f<0\/0<=f:=by omega
  have hc2:t<n\/(n:Int)<=t:=by omega
  rcases hc1 with hf | hf <;> rcases hc2 with ht | ht
  all_goals
   go_wp2
   go_region
  all_goals go_wp2
  all_goals (go_meet;case rel=>exact ⟨Yhd (by omega),Yhd (by omega),1,rfl⟩)
 case rest=>
  obtain ⟨rfl,rfl,d,rfl⟩:=hcut;have H1:=hid (HD.o _ _ d H0.o);have hhi2:hi<=n:=by omega
  have hlo2:(0:Int)<=lo:=by omega
  have hlo3:(lo:Int)<=9223372036854775807:=by omega
  clear hhi hlo c0 c1 H0;by_cases hlt:(lo:Int)<hi
  ·have hln:(lo:Int)<1048576:=by omega
   have hin:hi<=1048576:=by omega
   have hpos:1<=hi:=by omega
   have hm2:hi<=64*m:=by omega
   clear hm hn hhi2;go_upto_region 2 with (fail);go_wp2
   go_loopw [8] (fun i W=>∃ k:Nat,lo/64<=k/\Hid (I k W)/\i=.int .i64 k) (fun i _=>(hi+64-64*intOf i).toNat)
   case atStart=>exact ⟨lo/64,by omega,H1,by go_num⟩
   case round=>
    obtain ⟨k,hk,hIk,rfl⟩:=hrel;by_cases hkk:(64*k:Int)<hi
    ·have hle:(k:Int)<=(hi-1)/64:=by omega
     have hkm:k<m:=by omega
     obtain ⟨c0,c1⟩:=HI.o _ _ hIk.o;have HC:=hid (HS.o k wr.drew hk hkk hlt (HD.o _ _ 1 hIk.o));go_upto_region 5 with (fail);have S1:=hid (IntWalk.i64_in (64*(k:Int)) (by omega));have S2:=hid (IntWalk.i64_in ((lo:Int)-64*(k:Int)) (by omega));have S3:=hid (IntWalk.i64_in (hi-64*(k:Int)) (by omega))
     go_region_with (first
      | (go_at_call 274;rw [S1.o,S2.o,S3.o];refine (JOY _ _ _).mono ?_;rintro e w' ⟨rfl,rfl⟩)
      | (refine HC.o.mono ?_;rintro e W2 ⟨rfl,h2⟩))
     all_goals
      go_wp2;go_roundw
      case rel=>exact ⟨k+1,by omega,⟨h2⟩,by go_num⟩
      case measure=>simp [intOf];omega
    ·have hle:¬ (k:Int)<=(hi-1)/64:=by omega
     go_wp2
     go_end0
     exact ⟨rfl,k,hk,fun _=>by omega,hIk.o⟩
  ·have hlw:(lo:Int)<=9223372036854775807:=hlo3;have hlw2:¬ (lo:Int)<hi:=hlt;have HLT:=hid hlt;clear hm hn;go_wp2
   go_loopw [8] (fun i W=>W=w.drewN d/\i=.int .i64 (lo/64:Nat)) (fun _ _=>0)
   case atStart=>exact ⟨rfl,by go_num⟩
   case round=>
    obtain ⟨rfl,rfl⟩:=hrel;go_wp2
    go_end0
    exact ⟨rfl,lo/64,Nat.le_refl _,fun h=>absurd h (by have:=HLT.o;omega),H1.o⟩
end
end
section
section
open Go.RowKit Word
set_option maxHeartbeats 1600000 in
theorem Vz5 (w:World) (b k x m:Nat) (bx:Nat) (n:Int) (hx:x<18446744073709551616) (hm:m<18446744073709551616)
  (hc:w.cell? ⟨b,k,none⟩=some (.int .u64 x)) (hf:w.frozen? ⟨b,k,none⟩=false) (hb:w.cell? ⟨bx,0,none⟩=some (.int .i64 n)) (hfb:w.frozen? ⟨bx,0,none⟩=false) (hne:b≠bx) (hn0:0<=n) (hn:n<=1048576):
  Calls Tryz.prog 284 #[.pointer (some ⟨b,k,none⟩),.int .u64 m,.pointer (some ⟨bx,0,none⟩)] w fun e w'=>
   e=.returned (.tuple #[])/\∃ d,w'=((w.setCell ⟨bx,0,none⟩ (.int .i64 (n+pc (Xxg m x):Int))).setCell ⟨b,k,none⟩ (.int .u64 (x ||| m:Nat))).drewN d:=by
 have KA:=hid (YyP m x hm);have KO:=hid (bits_or_u64_nat x m hx hm);have HL:=hid (YVd m x hm);have HX:=hid (XiT (Xxg m x) (YVd m x hm));have hp:=Qn1 (Xxg m x);have HW:=hid (IntWalk.i64_in (n+pc (Xxg m x)) (by omega));clear hx hm;go_enter Tryz.func284,Tryz.ntmps284;go_upto_region 0 with (fail)
 go_region_with (go_at_call 237;rw [KA.o];refine (Jj6 _ HL.o _ _ _).mono ?_;rintro e w' ⟨rfl,rfl⟩;rw [HX.o])
 all_goals
  rw [HW.o];go_wp2;rw [KO.o]
  go_end0
  exact ⟨rfl,1,rfl⟩
set_option maxHeartbeats 1600000 in
theorem Jyf (w:World) (b k x m:Nat) (bx:Nat) (n:Int) (hx:x<18446744073709551616) (hm:m<18446744073709551616)
  (hc:w.cell? ⟨b,k,none⟩=some (.int .u64 x)) (hf:w.frozen? ⟨b,k,none⟩=false) (hb:w.cell? ⟨bx,0,none⟩=some (.int .i64 n)) (hfb:w.frozen? ⟨bx,0,none⟩=false) (hne:b≠bx) (hn0:0<=n) (hn:n<=1048576):
  Calls Tryz.prog 236 #[.pointer (some ⟨b,k,none⟩),.int .u64 m,.pointer (some ⟨bx,0,none⟩)] w fun e w'=>
   e=.returned (.tuple #[])/\∃ d,w'=((w.setCell ⟨bx,0,none⟩ (.int .i64 (n+pc (m &&& x):Int))).setCell ⟨b,k,none⟩ (.int .u64 (Xxg x m:Nat))).drewN d:=by
 have KA:=hid (Jp7 m x hm hx);have KO:=hid (YyP x m hx);have HL:=hid (X9g m x hm);have HX:=hid (XiT (m &&& x) (X9g m x hm));have hp:=Qn1 (m &&& x);have HW:=hid (IntWalk.i64_in (n+pc (m &&& x)) (by omega));clear hx hm;go_enter Tryz.func236,Tryz.ntmps236;go_upto_region 0 with (fail)
 go_region_with (go_at_call 237;rw [KA.o];refine (Jj6 _ HL.o _ _ _).mono ?_;rintro e w' ⟨rfl,rfl⟩;rw [HX.o])
 all_goals
  rw [HW.o];go_wp2;rw [KO.o]
  go_end0
  exact ⟨rfl,1,rfl⟩
set_option maxHeartbeats 1600000 in
theorem XcC (w:World) (b k x m:Nat) (bx:Nat) (n:Int) (hx:x<18446744073709551616) (hm:m<18446744073709551616)
  (hc:w.cell? ⟨b,k,none⟩=some (.int .u64 x)) (hb:w.cell? ⟨bx,0,none⟩=some (.int .i64 n)) (hfb:w.frozen? ⟨bx,0,none⟩=false) (hn0:0<=n) (hn:n<=1048576):
  Calls Tryz.prog 299 #[.pointer (some ⟨b,k,none⟩),.int .u64 m,.pointer (some ⟨bx,0,none⟩)] w fun e w'=>
   e=.returned (.tuple #[])/\∃ d,w'=(w.setCell ⟨bx,0,none⟩ (.int .i64 (n+pc (m &&& x):Int))).drewN d:=by
 have KA:=hid (Jp7 m x hm hx);have HL:=hid (X9g m x hm);have HX:=hid (XiT (m &&& x) (X9g m x hm));have hp:=Qn1 (m &&& x);have HW:=hid (IntWalk.i64_in (n+pc (m &&& x)) (by omega));clear hx hm;go_enter Tryz.func299,Tryz.ntmps299;go_upto_region 0 with (fail)
 go_region_with (go_at_call 237;rw [KA.o];refine (Jj6 _ HL.o _ _ _).mono ?_;rintro e w' ⟨rfl,rfl⟩;rw [HX.o])
 all_goals
  rw [HW.o];go_wp2
  go_end0
  exact ⟨rfl,1,rfl⟩
end
end
section
section
open Go.RowKit Word
theorem Vec.write {w:World} {p b bx:Nat} {l m:List Bool} (h:Vec w p b l) (k:Nat) (hk:k<nw l) (hl:m.length=l.length) (hw:∀ i,i≠k->Zgh l i=Zgh m i) {y:Nat} (hy:y=Zgh m k) (hbp:bx≠p) (hbb:bx≠b) (v:Value) (d:Nat):
  Vec (((w.setCell ⟨bx,0,none⟩ v).setCell ⟨b,k,none⟩ (.int .u64 (y:Nat))).drewN d) p b m:=by
 have t0:XF4 (fun i=>i=bx) w (w.setCell ⟨bx,0,none⟩ v):=(XF4.refl (fun i=>i=bx) w).setCell (a:=⟨bx,0,none⟩) (fun _=>rfl) _;have h0:=h.touch t0 (fun e=>hbp e.symm) (fun e=>hbb e.symm);generalize w.setCell ⟨bx,0,none⟩ v=w1 at *
 have hnw:nw m=nw l:=by unfold nw;rw [hl]
 have t:XF4 (fun i=>i=b) w1 (w1.setCell ⟨b,k,none⟩ (.int .u64 (y:Nat))):=(XF4.refl (fun i=>i=b) w1).setCell (a:=⟨b,k,none⟩) (fun _=>rfl) _;refine Vec.gr ⟨h.ne,Nat.lt_of_lt_of_le h0.hp t.size,Nat.lt_of_lt_of_le h0.hb t.size,by rw [hl];exact h.n1,by rw [hl];exact h.n2,?_,?_,?_,?_⟩ ((Gr.refl _).drewN d)
 ·obtain ⟨cap,a1,a2,a3⟩:=h0.c0;exact ⟨cap,by rw [hnw];exact a1,a2,by rw [t.cell h0.hp h.ne,a3,hnw]⟩
 ·rw [t.cell h0.hp h.ne,h0.c1,hl]
 ·intro i hi;rw [hnw] at hi;by_cases e:i=k
  ·subst e;rw [hy];exact World.cell?_setCell_same (h:=h0.cw _ hi) ..
  ·rw [World.cell?_setCell_other (h:=by intro e2;injection e2 with _ e3;omega),h0.cw i hi,hw i e]
 ·intro i;rw [World.frozen?_setCell];exact h0.fw i
structure XZQ (w0:World) (p b bx:Nat) (c:Nat->Nat) (m:Nat->List Bool) (k:Nat) (W:World):Prop where
 vec:Vec W p b (m k)
 box:W.cell? ⟨bx,0,none⟩=some (.int .i64 (c k:Nat))
 free:W.frozen? ⟨bx,0,none⟩=false
 ne:b≠bx
 np:bx≠p
 lt:bx<W.heap.size
 touch:XF4 (fun i=>i=b\/i=bx) w0 W
theorem XZQ.drewN {w0:World} {p b bx:Nat} {c:Nat->Nat} {m:Nat->List Bool} {k:Nat} {W:World} (h:XZQ w0 p b bx c m k W) (d:Nat):XZQ w0 p b bx c m k (W.drewN d):=
 ⟨h.vec.gr ((Gr.refl W).drewN d),h.box,h.free,h.ne,h.np,h.lt,h.touch.drewN d⟩
theorem QQ1 (args:Array Value) (W:World):(callFunc 284 args).run Tryz.prog W=.ok (.enter 284 args) W:=by kernel_rfl
theorem YCw (args:Array Value) (W:World):(callFunc 236 args).run Tryz.prog W=.ok (.enter 236 args) W:=by kernel_rfl
theorem YKd (args:Array Value) (W:World):(callFunc 299 args).run Tryz.prog W=.ok (.enter 299 args) W:=by kernel_rfl
theorem X8y {w:World} {p b:Nat} {l:List Bool} (hV:Vec w p b l) (m:Nat->List Bool) (c:Nat->Nat) (k:Nat) (hm:m k=l) (hc:c k=0) (T:TypeId):
  XZQ (w.alloc (.cells #[.int .i64 0] T)) p b w.heap.size c m k (w.alloc (.cells #[.int .i64 0] T)):=by
 have hs:=hV.hp;have hs2:=hV.hb;exact ⟨by rw [hm];exact hV.gr ((Gr.refl w).alloc _),by rw [hc];exact World.cell?_alloc_new ..,World.frozen?_alloc_new ..,by omega,by omega,by simp,XF4.refl _ _⟩
theorem XZQ.step {w0:World} {p b bx:Nat} {c:Nat->Nat} {m:Nat->List Bool} {k:Nat} {W:World} (h:XZQ w0 p b bx c m k W) (hk:k<nw (m k)) (hl:(m (k+1)).length=(m k).length)
  (hw:∀ i,i≠k->Zgh (m k) i=Zgh (m (k+1)) i) {y:Nat} (hy:y=Zgh (m (k+1)) k) {z:Int} (hz:z=(c (k+1):Nat)) (d:Nat):
  XZQ w0 p b bx c m (k+1) (((W.setCell ⟨bx,0,none⟩ (.int .i64 z)).setCell ⟨b,k,none⟩ (.int .u64 (y:Nat))).drewN d):=by
 refine ⟨h.vec.write k hk hl hw hy h.np (fun e=>h.ne e.symm) _ d,?_,?_,h.ne,h.np,?_,?_⟩
 ·show World.cell? (World.setCell _ _ _) _=_
  rw [World.cell?_setCell_other (h:=by intro e;injection e with e1 _;exact h.ne e1),hz];exact World.cell?_setCell_same (h:=h.box) ..
 ·show World.frozen? (World.setCell (World.setCell _ _ _) _ _) _=_
  rw [World.frozen?_setCell,World.frozen?_setCell];exact h.free
 ·have:=h.lt;simpa [World.setCell] using this
 ·exact ((h.touch.setCell (fun _=>.inr rfl) _).setCell (fun _=>.inl rfl) _).drewN d
theorem XZQ.head {w:World} {p b:Nat} {l:List Bool} (hV:Vec w p b l) {T:TypeId} {c:Nat->Nat} {m:Nat->List Bool} {k:Nat} {W:World} (h:XZQ (w.alloc (.cells #[.int .i64 0] T)) p b w.heap.size c m k W):
  W.cell? ⟨p,0,none⟩=w.cell? ⟨p,0,none⟩/\W.cell? ⟨p,1,none⟩=w.cell? ⟨p,1,none⟩:=by
 have hp:=hV.hp;have e:=fun o=>h.touch.cell (b:=p) (by simp;omega) (by intro h;rcases h with h | h;exact hV.ne h;omega) o;have g:=fun o=>((Gr.refl w).alloc (.cells #[.int .i64 0] T)).cell (b:=p) hp o;exact ⟨(e 0).trans (g 0),(e 1).trans (g 1)⟩
def YbN (l:List Bool) (lo hi:Int) (x:Bool) (k:Nat):List Bool:=XCN l lo (min hi (64*k)) x
def Qv1 (l:List Bool) (lo hi:Int) (x:Bool) (k:Nat):Nat:=ZJd l lo (min hi (64*k)) x
theorem JLN {l:List Bool} {lo hi:Int} {x:Bool} {k:Nat} (hk:lo<hi->hi<=64*k):YbN l lo hi x k=XCN l lo hi x/\Qv1 l lo hi x k=ZJd l lo hi x:=by
 unfold YbN Qv1;by_cases h:lo<hi
 ·rw [Int.min_eq_left (hk h)];exact ⟨rfl,rfl⟩
 ·rw [QvE x (show min hi (64*k)<=lo by omega),QvE x (show hi<=lo by omega),YbQ,YbQ,JR4 _ _ (show min hi (64*k)<=lo by omega),JR4 _ _ (show hi<=lo by omega)];exact ⟨rfl,rfl⟩
set_option maxHeartbeats 800000 in
theorem XBA {w:World} {p b:Nat} {l:List Bool} (hV:Vec w p b l) (f t:Int) (hf64:f<=9223372036854775807):
  Calls Tryz.prog 253 #[.pointer (some ⟨p,0,none⟩),.int .i64 f,.int .i64 t] w fun e w'=>
   e=.returned (.int .i64 (ZJd l f t true:Nat))/\XF4 (fun i=>i=b) w w'/\Vec w' p b (XCN l f t true):=by
 obtain ⟨lo,hlo⟩:∃ lo:Nat,(lo:Int)=max f 0:=⟨(max f 0).toNat,by omega⟩;obtain ⟨hi,hhi⟩:∃ hi:Int,hi=min t l.length:=⟨_,rfl⟩;have hh:hi<=l.length:=by omega
 have hn:=hV.n2;obtain ⟨cap,a1,a2,c0⟩:=hV.c0;have hm0:YbN l lo hi true (lo/64)=l:=QvE _ (by omega);have hc0:Qv1 l lo hi true (lo/64)=0:=by unfold Qv1;rw [YbQ];exact JR4 _ _ (by omega)
 have H0:=fun T=>X8y hV (YbN l lo hi true) (Qv1 l lo hi true) (lo/64) hm0 hc0 T
 have HE:=fun T=>QLO 284 ⟨w.heap.size,0,none⟩ p b l.length (nw l) cap (XZQ (w.alloc (.cells #[.int .i64 0] T)) p b w.heap.size (Qv1 l lo hi true) (YbN l lo hi true))
  QQ1 (fun k W h=>⟨(XZQ.head hV h).1.trans c0,(XZQ.head hV h).2.trans hV.c1⟩) (fun k W d h=>h.drewN d) (by unfold nw;omega) (by omega) f t hf64 lo hlo hi hhi
  (fun k W hk1 hk2 hlt h=>by
   have hkw:k<nw (YbN l lo hi true k):=by unfold YbN;rw [XP8];unfold nw;omega
   have hcb:Qv1 l lo hi true k<=l.length:=Qa9 _ _ _ _;refine (Vz5 W b k (Zgh (YbN l lo hi true k) k) _ w.heap.size (Qv1 l lo hi true k:Nat) (Vhd _ _) (YPt _ _) (h.vec.cw k hkw) (h.vec.fw k) h.box h.free h.ne (by omega) (by omega)).mono ?_;rintro e W' ⟨rfl,d,rfl⟩;refine ⟨rfl,h.step hkw ?_ ?_ ?_ ?_ d⟩
   ·unfold YbN;rw [J8M,J8M]
   ·intro i hi';exact X3E hk2 hh true hi'
   ·exact VeX hk2 hh
   ·have:=XOq hk2 hh (lo:=(lo:Int));unfold Qv1 YbN;omega)
  _ (H0 T)
 have HE:=hid HE;have HV:=hid hV;have HLO:=hid hlo;have HHI:=hid hhi;clear hV hm0 hc0 H0 hh a1 a2 c0 hhi hlo hn hf64;have hmf:∀ (fn:Fn) (first cap:Array Value) (w:World),(Instr.makeFunc fn first cap).run Tryz.prog w=.ok (.func fn first cap) w:=fun _ _ _ _=>rfl;go_enter Tryz.func253,Tryz.ntmps253;go_wp2_with (go_at_call 235;refine (HE.o _).mono ?_;rintro e W2 ⟨rfl,k,hk1,hk2,hL⟩;have hbox:=hL.box);go_ret;obtain ⟨e1,e2⟩:=JLN (l:=l) (x:=true) hk2;refine ⟨ZzN (by rw [e2,HLO.o,HHI.o,YbQ,YbQ,Xl3]),?_,?_⟩
 ·refine (((Gr.refl w).alloc _).touch _).trans' hL.touch ?_;rintro i hi (h | h)
  ·exact h
  ·omega
 ·have:=hL.vec;rw [e1,HLO.o,HHI.o,XD7] at this;exact this
set_option maxHeartbeats 800000 in
theorem JRq {w:World} {p b:Nat} {l:List Bool} (hV:Vec w p b l) (f t:Int) (hf64:f<=9223372036854775807):
  Calls Tryz.prog 183 #[.pointer (some ⟨p,0,none⟩),.int .i64 f,.int .i64 t] w fun e w'=>
   e=.returned (.int .i64 (ZJd l f t false:Nat))/\XF4 (fun i=>i=b) w w'/\Vec w' p b (XCN l f t false):=by
 obtain ⟨lo,hlo⟩:∃ lo:Nat,(lo:Int)=max f 0:=⟨(max f 0).toNat,by omega⟩;obtain ⟨hi,hhi⟩:∃ hi:Int,hi=min t l.length:=⟨_,rfl⟩;have hh:hi<=l.length:=by omega
 have hn:=hV.n2;obtain ⟨cap,a1,a2,c0⟩:=hV.c0;have hm0:YbN l lo hi false (lo/64)=l:=QvE _ (by omega);have hc0:Qv1 l lo hi false (lo/64)=0:=by unfold Qv1;rw [YbQ];exact JR4 _ _ (by omega)
 have H0:=fun T=>X8y hV (YbN l lo hi false) (Qv1 l lo hi false) (lo/64) hm0 hc0 T
 have HE:=fun T=>QLO 236 ⟨w.heap.size,0,none⟩ p b l.length (nw l) cap (XZQ (w.alloc (.cells #[.int .i64 0] T)) p b w.heap.size (Qv1 l lo hi false) (YbN l lo hi false))
  YCw (fun k W h=>⟨(XZQ.head hV h).1.trans c0,(XZQ.head hV h).2.trans hV.c1⟩) (fun k W d h=>h.drewN d) (by unfold nw;omega) (by omega) f t hf64 lo hlo hi hhi
  (fun k W hk1 hk2 hlt h=>by
   have hkw:k<nw (YbN l lo hi false k):=by unfold YbN;rw [XP8];unfold nw;omega
   have hcb:Qv1 l lo hi false k<=l.length:=Qa9 _ _ _ _;refine (Jyf W b k (Zgh (YbN l lo hi false k) k) _ w.heap.size (Qv1 l lo hi false k:Nat) (Vhd _ _) (YPt _ _) (h.vec.cw k hkw) (h.vec.fw k) h.box h.free h.ne (by omega) (by omega)).mono ?_;rintro e W' ⟨rfl,d,rfl⟩;refine ⟨rfl,h.step hkw ?_ ?_ ?_ ?_ d⟩
   ·unfold YbN;rw [J8M,J8M]
   ·intro i hi';exact X3E hk2 hh false hi'
   ·exact QlU hk2 hh
   ·have:=YDx hk2 hh (lo:=(lo:Int));unfold Qv1 YbN;omega)
  _ (H0 T)
 have HE:=hid HE;have HV:=hid hV;have HLO:=hid hlo;have HHI:=hid hhi;clear hV hm0 hc0 H0 hh a1 a2 c0 hhi hlo hn hf64;have hmf:∀ (fn:Fn) (first cap:Array Value) (w:World),(Instr.makeFunc fn first cap).run Tryz.prog w=.ok (.func fn first cap) w:=fun _ _ _ _=>rfl;go_enter Tryz.func183,Tryz.ntmps183;go_wp2_with (go_at_call 235;refine (HE.o _).mono ?_;rintro e W2 ⟨rfl,k,hk1,hk2,hL⟩;have hbox:=hL.box);go_ret;obtain ⟨e1,e2⟩:=JLN (l:=l) (x:=false) hk2;refine ⟨ZzN (by rw [e2,HLO.o,HHI.o,YbQ,YbQ,Xl3]),?_,?_⟩
 ·refine (((Gr.refl w).alloc _).touch _).trans' hL.touch ?_;rintro i hi (h | h)
  ·exact h
  ·omega
 ·have:=hL.vec;rw [e1,HLO.o,HHI.o,XD7] at this;exact this
structure JOl (w0:World) (bx:Nat) (c:Nat->Nat) (k:Nat) (W:World):Prop where
 box:W.cell? ⟨bx,0,none⟩=some (.int .i64 (c k:Nat))
 free:W.frozen? ⟨bx,0,none⟩=false
 touch:XF4 (fun i=>i=bx) w0 W
set_option maxHeartbeats 800000 in
theorem V7Z {w:World} {p b:Nat} {l:List Bool} (hV:Vec w p b l) (f t:Int) (hf64:f<=9223372036854775807):
  V4y Tryz.prog 286 #[.pointer (some ⟨p,0,none⟩),.int .i64 f,.int .i64 t] w (.int .i64 (QnT l f t:Nat)):=by
 obtain ⟨lo,hlo⟩:∃ lo:Nat,(lo:Int)=max f 0:=⟨(max f 0).toNat,by omega⟩;obtain ⟨hi,hhi⟩:∃ hi:Int,hi=min t l.length:=⟨_,rfl⟩;have hh:hi<=l.length:=by omega
 have hn:=hV.n2;have hp:=hV.hp;have hb:=hV.hb;obtain ⟨cap,a1,a2,c0⟩:=hV.c0;obtain ⟨c,hc⟩:∃ c:Nat->Nat,c=fun k=>ZIf (at_ l) lo (min hi (64*(k:Nat))) l.length:=⟨_,rfl⟩;have hc0:c (lo/64)=0:=by rw [hc];exact JR4 _ _ (by omega)
 have H0:∀ T,JOl (w.alloc (.cells #[.int .i64 0] T)) w.heap.size c (lo/64) (w.alloc (.cells #[.int .i64 0] T)):=fun T=>⟨by rw [hc0];exact World.cell?_alloc_new ..,World.frozen?_alloc_new ..,XF4.refl _ _⟩
 have HR:∀ T k W,JOl (w.alloc (.cells #[.int .i64 0] T)) w.heap.size c k W->∀ q o,q<w.heap.size->W.cell? ⟨q,o,none⟩=w.cell? ⟨q,o,none⟩:=fun T k W h q o hq=>by
  rw [h.touch.cell (by simp;omega) (by omega),((Gr.refl w).alloc _).cell hq]
 have HE:=fun T=>QLO 299 ⟨w.heap.size,0,none⟩ p b l.length (nw l) cap (JOl (w.alloc (.cells #[.int .i64 0] T)) w.heap.size c)
  YKd (fun k W h=>⟨(HR T k W h p 0 hp).trans c0,(HR T k W h p 1 hp).trans hV.c1⟩) (fun k W d h=>⟨h.box,h.free,h.touch.drewN d⟩) (by unfold nw;omega) (by omega) f t hf64 lo hlo hi hhi
  (fun k W hk1 hk2 hlt h=>by
   have hkw:k<nw l:=by unfold nw;omega
   have hcb:c k<=l.length:=by rw [hc];exact Qa9 _ _ _ _
   refine (XcC W b k (Zgh l k) _ w.heap.size (c k:Nat) (Vhd _ _) (YPt _ _) ((HR T k W h b k hb).trans (hV.cw k hkw)) h.box h.free (by omega) (by omega)).mono ?_;rintro e W' ⟨rfl,d,rfl⟩;refine ⟨rfl,?_,?_,(h.touch.setCell (fun _=>rfl) _).drewN d⟩
   ·have:=YpL hk2 hh (lo:=(lo:Int));have e:((c k:Nat):Int)+(pc (XEJ ((lo:Int)-64*k) (hi-64*k) &&& Zgh l k):Nat)=(c (k+1):Nat):=by rw [hc];simp only [];omega
    rw [e];exact World.cell?_setCell_same (h:=h.box) ..
   ·show World.frozen? (World.setCell _ _ _) _=_
    rw [World.frozen?_setCell];exact h.free)
  _ (H0 T)
 have HE:=hid HE;have HLO:=hid hlo;have HHI:=hid hhi;have HC:=hid hc;clear hV hc0 H0 hh a1 a2 c0 hhi hlo hn hf64 HR hc;have hmf:∀ (fn:Fn) (first cap:Array Value) (w:World),(Instr.makeFunc fn first cap).run Tryz.prog w=.ok (.func fn first cap) w:=fun _ _ _ _=>rfl;unfold V4y;go_enter Tryz.func286,Tryz.ntmps286;go_wp2_with (go_at_call 235;refine (HE.o _).mono ?_;rintro e W2 ⟨rfl,k,hk1,hk2,hL⟩;have hbox:=hL.box);go_ret;refine ⟨ZzN ?_,XF4.gr ?_⟩
 ·rw [HC.o,Y7X,<-Xl3 (at_ l) f t,<-HLO.o,<-HHI.o];simp only [];by_cases h:(lo:Int)<hi
  ·rw [Int.min_eq_left (hk2 h)]
  ·rw [JR4 _ _ (show min hi (64*k)<=lo by omega),JR4 _ _ (show hi<=lo by omega)]
 ·refine (((Gr.refl w).alloc _).touch _).trans' hL.touch ?_;rintro i hi rfl;omega
end
end
section
section
open Go.RowKit Word
def QHw (w:World) (l:List Bool) (e:Ending) (w':World):Prop:=
 ∃ p b,e=.returned (.tuple #[.pointer (some ⟨p,0,none⟩),.int .i64 0])/\Gr w w'/\Vec w' p b l/\w.heap.size<=p/\w.heap.size<=b
theorem ZiX:(Tryz.prog.info? 34).map (fun i=>(i.zero,i.size,i.bytes))=some (some (.int .u64 0),1,8):=by kernel_rfl
theorem JEA {w w':World} {row:Option Nat} (h:w.grownBy w' row) (S:Nat->Prop) (hS:∀ k,row=some k->k<w.heap.size->S k):XF4 S w w':=
 ⟨h.os,h.tape,h.output,h.size,fun k hk hn=>h.block k hk (fun e=>hn (hS k e.symm hk))⟩
theorem VGT (n i:Nat):Zgh (List.replicate n false) i=0:=
 (VEf (by decide) (fun j _=>by rw [Nat.zero_testBit];simp [List.getD_eq_getElem?_getD,List.getElem?_replicate];split <;> rfl)).symm
theorem Jnq (n:Nat):(madeCells #[.int .u64 0] n).toList=(List.range n).map fun _=>Value.int .u64 ((0:Nat):Int):=by
 unfold madeCells;simp [Nat.mod_one]
theorem Q13 {w1:World} {l:List Bool} (n1:1<=l.length) (n2:l.length<=1048576) {base T b k cap:Nat} {xs:List Value} {E:TypeId}
  (hown:w1.ownsRow base E 1 (.slice (some ⟨b,0,none⟩) k cap) k xs) (hk:k=nw l) (hcap:cap<=maxLen) (hx:xs=(List.range (nw l)).map fun i=>Value.int .u64 ((Zgh l i:Nat):Int)):
  Vec (w1.alloc (.cells #[.slice (some ⟨b,0,none⟩) k cap,.int .i64 l.length] T)) w1.heap.size b l/\b<w1.heap.size:=by
 obtain ⟨hlen,h | ⟨g,c,cur,e1,e2,e3,e4,e5,e6,e7⟩⟩:=hown
 ·simp at h
 ·simp only [Value.slice.injEq,Option.some.injEq,Addr.mk.injEq,and_true,true_and] at e1;obtain ⟨rfl,rfl⟩:=e1
  have hb:b<w1.heap.size:=by
   rcases Nat.lt_or_ge b w1.heap.size with h | h
   ·exact h
   ·rw [Array.getElem?_eq_none h] at e3;cases e3
  subst hk;refine ⟨⟨by omega,by simp,by simp;omega,n1,n2,⟨cap,e4,hcap,?_⟩,?_,?_,?_⟩,hb⟩
  ·exact World.cell?_alloc_new ..
  ·exact World.cell?_alloc_new ..
  ·intro i hi;rw [World.cell?_alloc_lt (h:=hb)];unfold World.cell?;simp only [e3]
   have:cur[i]?=xs[i]?:=by
    rw [<-e7,Nat.mul_one,List.getElem?_take,if_pos hi,Array.getElem?_toList]
   rw [if_neg (by simp),this,hx];simp [hi]
  ·intro i;rw [World.frozen?_alloc_old (h:=by show b≠_;omega)];unfold World.frozen?;simp only [e3];simp
set_option maxHeartbeats 800000 in
theorem Vk2 (n:Nat) (h1:1<=n) (h2:n<=1048576) (w:World):
  Calls Tryz.prog 119 #[.int .i64 n] w (QHw w (List.replicate n false)):=by
 obtain ⟨i0,hi,hz0,hz1,hz2⟩:=info_parts ZiX;have d1:decide ((n:Int)<1)=false:=by simp;omega
 have d2:decide ((1048576:Int)<(n:Int))=false:=by simp;omega
 have hb:i0.bytes*((n+63)/64)<=281474976710656:=by rw [hz2];omega
 have hm:(n+63)/64<=maxLen:=by unfold maxLen;omega
 have HB:=hid hb;have HM:=hid hm;clear hb hm;go_enter Tryz.func119,Tryz.ntmps119;go_wp2_with (at_make;refine wpList_make_full _ rfl _ _ 123 rfl w.heap.size 34 i0 (.int .u64 0) 1 Tryz.underlying123 hi hz0 hz1 .i64 .i64 _ _ ((n+63)/64) rfl rfl ?h1 ?h2 HB.o HM.o (Nat.le_refl _) ?h3)
 case h1=>omega
 case h2=>omega
 case h3=>
  intro w1 hown hgrow;have hg1:Gr w w1:=(JEA hgrow (fun _=>False) (fun k e _=>by cases e)).gr
  have HV:=hid (fun T=>Q13 (l:=List.replicate n false) (by simp;omega) (by simp;omega) (T:=T) (show w1.ownsRow w.heap.size 34 1 (.slice (some ⟨w.heap.size,0,none⟩) ((n+63)/64) ((n+63)/64)) ((n+63)/64) _ from hown) (by simp [nw]) (by unfold maxLen;omega) (by
   rw [Jnq,nw,List.length_replicate]
   exact List.map_congr_left (fun i _=>by rw [VGT])))
  clear hown hgrow;go_wp2;go_ret2;obtain ⟨hV,hlt⟩:=HV.o 259;exact ⟨_,_,Qh8 rfl rfl,hg1.alloc _,by simpa using hV,hg1.size,Nat.le_refl _⟩
theorem YS7 {w:World} {base:Nat} {e:TypeId} {size:Nat} {v:Value} {n:Nat} {xs:List Value} (h:w.ownsRow base e size v n xs) (hn:n≠0):
  ∃ g c,v=.slice (some ⟨g,0,none⟩) n c/\base<=g/\n<=c/\c<=maxLen:=by
 obtain ⟨_,⟨_,h⟩ | ⟨g,c,cur,e1,e2,_,e4,e5,_⟩⟩:=h
 ·exact absurd h hn
 ·exact ⟨g,c,e1,e2,e4,e5⟩
def VSg (w:World) (l:List Bool) (e:Ending) (w':World):Prop:=
 ∃ g c,e=.returned (.slice (some ⟨g,0,none⟩) (nw l) c)/\Gr w w'/\w.heap.size<=g/\c<=maxLen ∧
  w'.ownsRow w.heap.size 34 1 (.slice (some ⟨g,0,none⟩) (nw l) c) (nw l) ((List.range (nw l)).map fun i=>Value.int .u64 ((Zgh l i:Nat):Int))
set_option maxHeartbeats 800000 in
theorem X73 {w:World} {p b:Nat} {l:List Bool} (hV:Vec w p b l) (cap:Nat):
  Calls Tryz.prog 298 #[.slice (some ⟨b,0,none⟩) (nw l) cap] w (VSg w l):=by
 obtain ⟨i0,hi,hz0,hz1,hz2⟩:=info_parts ZiX;have hnb:=JxP hV.n1 hV.n2;have hsn:=Lib.run_eql_slice_nil (P:=Tryz.prog) w 123 34 (some ⟨b,0,none⟩) (nw l) cap 0 0 Tryz.underlying123
 have hown:(w.alloc (.cells #[] 34)).ownsRow w.heap.size 34 1 (.slice (some ⟨w.heap.size,0,none⟩) 0 0) 0 []:=
  ⟨rfl,.inr ⟨w.heap.size,0,#[],rfl,Nat.le_refl _,heap_alloc_new w _,Nat.le_refl _,by unfold maxLen;omega,rfl,rfl⟩⟩
 have hcell:∀ (j:Nat) (u:Value),((List.range (nw l)).map fun i=>Value.int .u64 ((Zgh l i:Nat):Int))[j]?=some u->(w.alloc (.cells #[] 34)).cell? (Addr.add ⟨b,0,none⟩ j)=some u:=fun j u hj=>by
  rw [List.getElem?_map] at hj
  have hjl:j<nw l:=by
   rcases Nat.lt_or_ge j (nw l) with h | h
   ·exact h
   ·rw [List.getElem?_eq_none (by simpa using h)] at hj;cases hj
  rw [List.getElem?_range hjl] at hj;simp only [Option.map_some,Option.some.injEq] at hj;have e:Addr.add ⟨b,0,none⟩ j=⟨b,j,none⟩:=by unfold Addr.add;split <;> simp_all
  rw [e,World.cell?_alloc_lt (h:=hV.hb),hV.cw j hjl,hj]
 have h1c:∀ u∈(List.range (nw l)).map fun i=>Value.int .u64 ((Zgh l i:Nat):Int),u.oneCell'=true:=fun u hu=>by
  obtain ⟨i,_,rfl⟩:=List.mem_map.1 hu;rfl
 have HO:=hid hown;have HC:=hid hcell;have H1:=hid h1c;have HN:=hid hnb;clear hnb hV hown hcell h1c;go_enter Tryz.func298,Tryz.ntmps298;go_wp2_with (at_builtin;refine wpList_append_own _ rfl _ _ 123 rfl w.heap.size 34 i0 (.int .u64 0) 1 8 Tryz.underlying123 hi hz0 hz1 hz2 rfl (by decide) _ _ _ rfl HO.o ⟨b,0,none⟩ (nw l) cap ((List.range (nw l)).map fun i=>Value.int .u64 ((Zgh l i:Nat):Int)) rfl (by simp) HC.o H1.o (by have:=HN.o;unfold maxLen;omega) (by have:=HN.o;omega) (by simp) ?_;intro v' w1 hown1 hgrow _;obtain ⟨g,c,hv,hg1,hg2,hg3⟩:=YS7 hown1 (by have:=HN.o;omega);subst hv);go_ret;have hgrow':(w.alloc (.cells #[] 34)).grownBy w1 (some w.heap.size):=hgrow;refine ⟨g,c,rfl,?_,hg1,hg3,by simpa using hown1⟩;refine XF4.gr ((((Gr.refl w).alloc _).touch _).trans' (JEA hgrow' (fun k=>k=w.heap.size) (fun k e _=>by cases e;rfl)) ?_);rintro i hi rfl;omega
def JqX (w:World) (l:List Bool) (e:Ending) (w':World):Prop:=
 ∃ p b,e=.returned (.pointer (some ⟨p,0,none⟩))/\Gr w w'/\Vec w' p b l/\w.heap.size<=p/\w.heap.size<=b
set_option maxHeartbeats 800000 in
theorem Z27 {w:World} {p b:Nat} {l:List Bool} (hV:Vec w p b l):
  Calls Tryz.prog 285 #[.pointer (some ⟨p,0,none⟩)] w (JqX w l):=by
 obtain ⟨cap,a1,a2,c0⟩:=hV.c0;have c1:=hV.c1;have hpw:=hV.hp;have HV:=hid hV;clear hV a1 a2;go_enter Tryz.func285,Tryz.ntmps285;go_upto_region 3 with (fail)
 go_region_with (go_at_call 298;refine (X73 (HV.o.gr ((Gr.refl w).drew)) _).mono ?_;rintro e w1 ⟨g,c,rfl,hg1,hg2,hg3,hown⟩;have c1':=(hg1.cell (b:=p) (by simpa using hpw) 1).trans c1)
 all_goals
  have HF:=hid (fun T=>Q13 HV.o.n1 HV.o.n2 (T:=T) hown rfl hg3 rfl);have hgr:=(Gr.refl w).drew.trans hg1;have hs:w.heap.size<=g:=hg2;clear hown hg1 hg2 hg3 c0 c1 c1';go_wp2;go_ret;obtain ⟨hF,hlt⟩:=HF.o 259;exact ⟨_,_,rfl,hgr.alloc _,hF,hgr.size,hs⟩
end
end
section
section
open Go.RowKit Word
theorem Gr.tab {w W:World} (h:Gr w W) (hz:1<w.heap.size) (ht:VRW w):VRW W:=fun i hi=>by rw [h.cell hz];exact ht i hi
theorem XF4.tab {S:Nat->Prop} {w W:World} (h:XF4 S w W) (hz:1<w.heap.size) (hS:¬ S 1) (ht:VRW w):VRW W:=fun i hi=>by rw [h.cell hz hS];exact ht i hi
theorem VRW.lt {w:World} (h:VRW w):1<w.heap.size:=by
 have:=h 0 (by decide);unfold World.cell? at this;rcases Nat.lt_or_ge 1 w.heap.size with h | h
 ·exact h
 ·rw [Array.getElem?_eq_none h] at this;cases this
end
end
section
section
open Go.RowKit Word
theorem Xjn (P:Program) (ts:Array TypeId) (t:TypeId) (k:IntKind) (x y:Int) (w:World):(Builtin.min_ ts t #[.int k x,.int k y]).run P w=.ok (.int k (min x y)) w:=by
 simp only [Builtin.min_,List.foldlM];simp [Y9c]
theorem V9O (P:Program) (ts:Array TypeId) (t:TypeId) (k:IntKind) (x y:Int) (w:World):(Builtin.max_ ts t #[.int k x,.int k y]).run P w=.ok (.int k (max x y)) w:=by
 simp only [Builtin.max_,List.foldlM];simp [YQd]
theorem V9n (l:List Bool) {a b c:Int} (h1:a<=b) (h2:b<=c):((QnT l a b:Nat):Int)+(QnT l b c:Nat)=(QnT l a c:Nat):=by
 rw [Y7X,Y7X,Y7X]
 have:=Jjp (f:=fun i=>decide (a<=(i:Nat)/\((i:Nat):Int)<b)&&at_ l i) (g:=fun i=>decide (b<=(i:Nat)/\((i:Nat):Int)<c)&&at_ l i) (fun i=>by
  by_cases h:((i:Nat):Int)<b
  ·rw [decide_eq_false (p:=b<=(i:Nat)/\((i:Nat):Int)<c) (by omega)];simp
  ·rw [decide_eq_false (p:=a<=(i:Nat)/\((i:Nat):Int)<b) (by omega)];simp) l.length
 unfold ZIf;rw [<-Int.natCast_add,<-this];congr 1;refine XmU (fun i _=>?_);by_cases h:((i:Nat):Int)<b
 ·rw [decide_eq_false (p:=b<=(i:Nat)/\((i:Nat):Int)<c) (by omega),show decide (a<=(i:Nat)/\((i:Nat):Int)<b)=decide (a<=(i:Nat)/\((i:Nat):Int)<c) from decide_eq_decide.2 (by omega)];simp
 ·rw [decide_eq_false (p:=a<=(i:Nat)/\((i:Nat):Int)<b) (by omega),show decide (b<=(i:Nat)/\((i:Nat):Int)<c)=decide (a<=(i:Nat)/\((i:Nat):Int)<c) from decide_eq_decide.2 (by omega)];simp
theorem Vbb (l:List Bool) {b:Int} (h:l.length<=b):QnT l 0 b=cnt (at_ l) l.length:=by
 rw [Y7X];exact XmU (fun i hi=>by rw [decide_eq_true (by omega)];simp)
theorem V58 (l:List Bool) {r:Nat} (h:r<=l.length):QnT l 0 (r:Int)=cnt (at_ l) r:=by
 rw [Y7X];unfold ZIf;rw [ZC7 h (fun i h1 _=>by rw [decide_eq_false (by omega)];rfl)];exact XmU (fun i hi=>by rw [decide_eq_true (by omega)];simp)
theorem Zmr {l:List Bool} {q:Nat} (h:q<cnt (at_ l) l.length):X5b l q<l.length/\at_ l (X5b l q)=true/\cnt (at_ l) (X5b l q)=q:=X9n h
theorem VZZ {l:List Bool} {q:Nat} (h:cnt (at_ l) l.length<=q):X5b l q=l.length:=Vit h
end
end
section
section
open Go.ChangeShapes Go.WideShapes Go.ChangeAt Go.RowKit Word
end
end
end
section
section
open Go.ChangeShapes Go.WideShapes Go.ChangeAt Go.RowKit
namespace heapNobody
theorem YUs:Tryz.pinned.checked.prog.funcNamed Rows.heapNobodyRow.func=some 9:=by kernel_rfl
set_option maxHeartbeats 0 in
theorem JSQ:joinedFacts Tryz.pinned.checked.prog 9 Tryz.f9 (OpenSpec.ofChange Rows.heapNobodySpec).bare Rows.heapNobodyRow=true:=by
 unfold joinedFacts
 repeat' (with_reducible refine Bool.and_eq_true_iff.2 ⟨?_,?_⟩)
 all_goals (as_aux_lemma=>kernel_rfl)
end heapNobody
end
end
section
section
section
open Go.RowKit Word
end
end
section
section
open Word
abbrev Ob:=Nat × Nat
structure Q4l (n:Nat) (L:List Ob):Prop where
 pw:L.Pairwise (fun o q=>o.1+o.2<=q.1)
 sz:∀ o∈L,1<=o.2/\o.1+o.2<=n
theorem Q4l.nil (n:Nat):Q4l n []:=⟨List.Pairwise.nil,fun _ h=>by cases h⟩
theorem Q4l.at {n:Nat} {L:List Ob} (h:Q4l n L) {i j:Nat} (hi:i<L.length) (hj:j<L.length) (hij:i<j):L[i].1+L[i].2<=L[j].1:=List.pairwise_iff_getElem.1 h.pw i j hi hj hij
theorem Q4l.disj {n:Nat} {L:List Ob} (h:Q4l n L) {o q:Ob} (ho:o∈L) (hq:q∈L):o=q\/o.1+o.2<=q.1\/q.1+q.2<=o.1:=by
 obtain ⟨i,hi,rfl⟩:=List.getElem_of_mem ho;obtain ⟨j,hj,rfl⟩:=List.getElem_of_mem hq;rcases Nat.lt_trichotomy i j with hij | rfl | hij
 ·exact .inr (.inl (h.at hi hj hij))
 ·exact .inl rfl
 ·exact .inr (.inr (h.at hj hi hij))
theorem Q4l.len {n:Nat}:∀ {L:List Ob},Q4l n L->L.length<=n:=by
 intro L h
 have key:∀ (L:List Ob),L.Pairwise (fun o q=>o.1+o.2<=q.1)->(∀ o∈L,1<=o.2/\o.1+o.2<=n)->∀ a,a<=n->(∀ o∈L,a<=o.1)->a+L.length<=n:=by
  intro L
  induction L with
  | nil=>intro _ _ a ha _;simpa using ha
  | cons o r ih=>
   intro hp hs a ha hl;obtain ⟨h1,h2⟩:=List.pairwise_cons.1 hp;have ho:=hs o (List.mem_cons_self ..);have:=ih h2 (fun q hq=>hs q (List.mem_cons_of_mem _ hq)) (o.1+o.2) ho.2 (fun q hq=>h1 q hq);have:=hl o (List.mem_cons_self ..);simp only [List.length_cons];omega
 have:=key L h.pw h.sz 0 (Nat.zero_le _) (fun _ _=>Nat.zero_le _);omega
def VC5 (n:Nat) (L:List Ob):List Bool:=(List.range n).map fun i=>L.any fun o=>o.1==i
def JsC (n:Nat) (L:List Ob):List Bool:=(List.range n).map fun i=>L.any fun o=>o.1+o.2==i+1
theorem JQA (n:Nat) (L:List Ob):(VC5 n L).length=n:=by simp [VC5]
theorem Q9C (n:Nat) (L:List Ob):(JsC n L).length=n:=by simp [JsC]
theorem Qn0 (f:Nat->Bool) (n i:Nat):at_ ((List.range n).map f) i=(decide (i<n)&&f i):=by
 unfold at_;rw [List.getD_eq_getElem?_getD,List.getElem?_map];by_cases h:i<n
 ·rw [List.getElem?_range h,decide_eq_true h];rfl
 ·rw [List.getElem?_eq_none (by simpa using h),decide_eq_false h];rfl
theorem ZKf {n:Nat} {L:List Ob} (h:Q4l n L) (i:Nat):at_ (VC5 n L) i=true↔∃ o∈L,o.1=i:=by
 unfold VC5;rw [Qn0];simp only [Bool.and_eq_true,decide_eq_true_eq,List.any_eq_true,beq_iff_eq];constructor
 ·rintro ⟨_,h⟩;exact h
 ·rintro ⟨o,ho,rfl⟩;have:=h.sz o ho;exact ⟨by omega,o,ho,rfl⟩
theorem Zkw {n:Nat} {L:List Ob} (h:Q4l n L) (i:Nat):at_ (JsC n L) i=true↔∃ o∈L,o.1+o.2=i+1:=by
 unfold JsC;rw [Qn0];simp only [Bool.and_eq_true,decide_eq_true_eq,List.any_eq_true,beq_iff_eq];constructor
 ·rintro ⟨_,h⟩;exact h
 ·rintro ⟨o,ho,e⟩;have:=h.sz o ho;exact ⟨by omega,o,ho,e⟩
theorem Zox {n:Nat} {L:List Ob} (h:Q4l n L) {o:Ob} (ho:o∈L):ZnF (JsC n L) (o.1:Int)=o.1+o.2-1/\o.1+o.2-1<(JsC n L).length:=by
 have hs:=h.sz o ho
 have:=VuI (l:=JsC n L) (a:=(o.1:Int)) (k:=o.1+o.2-1) (fun i hi hc=>by
  obtain ⟨q,hq,e⟩:=(Zkw h i).1 hc.1;have hqs:=h.sz q hq;have hc2:=hc.2
  rcases h.disj ho hq with rfl | hd | hd <;> omega) ((Zkw h _).2 ⟨o,ho,by omega⟩) (by omega)
 exact ⟨this.1,by rw [Q9C];omega⟩
def Jxr (L:List Ob) (a:Int):Nat:=L.findIdx fun o=>decide (a<=o.1)
theorem XH0 (L:List Ob) (a:Int):Jxr L a<=L.length:=List.findIdx_le_length
theorem X9H {L:List Ob} {a:Int} {i:Nat} (h:i<Jxr L a) (hi:i<L.length):(L[i].1:Int)<a:=by
 have:=List.not_of_lt_findIdx h;simp at this;omega
theorem XOX {L:List Ob} {a:Int} (h:Jxr L a<L.length):a<=(L[Jxr L a]'h).1:=by
 have:=List.findIdx_getElem (p:=fun o:Ob=>decide (a<=(o.1:Int))) (w:=h);simp only [decide_eq_true_eq] at this;exact this
theorem Qzy {L:List Ob} {a:Int} {j:Nat} (hj:j<=L.length) (hn:∀ i (hi:i<L.length),i<j->(L[i].1:Int)<a) (hy:∀ h:j<L.length,a<=(L[j].1:Int)):Jxr L a=j:=by
 rcases Nat.lt_trichotomy (Jxr L a) j with h | h | h
 ·have h1:=XOX (L:=L) (a:=a) (by omega);have h2:=hn _ (by omega) h;omega
 ·exact h
 ·have hlt:j<L.length:=by have:=XH0 L a;omega
  have h1:=X9H h hlt;have h2:=hy hlt;omega
theorem Jia {n:Nat} {L:List Ob} (h:Q4l n L) {a:Int} (hj:Jxr L a<L.length):ZnF (VC5 n L) a=(L[Jxr L a]).1/\ZnF (VC5 n L) a<(VC5 n L).length:=by
 have hy:=XOX hj;refine VuI (fun i hi hc=>?_) ((ZKf h _).2 ⟨_,List.getElem_mem hj,rfl⟩) (by omega);obtain ⟨q,hq,e⟩:=(ZKf h i).1 hc.1;obtain ⟨k,hk,rfl⟩:=List.getElem_of_mem hq;rcases Nat.lt_trichotomy k (Jxr L a) with hlt | rfl | hlt
 ·have:=X9H hlt hk;omega
 ·omega
 ·have:=h.at hj hk hlt;omega
theorem YTx {n:Nat} {L:List Ob} (h:Q4l n L) {a:Int} (hj:¬ Jxr L a<L.length):ZnF (VC5 n L) a=(VC5 n L).length:=by
 refine XoQ (fun i hi hc=>?_);obtain ⟨q,hq,e⟩:=(ZKf h i).1 hc.1;obtain ⟨k,hk,rfl⟩:=List.getElem_of_mem hq;have:=X9H (L:=L) (a:=a) (i:=k) (by omega) hk;omega
theorem X1z {n:Nat} {L:List Ob} (h:Q4l n L) {j:Nat} (hj:j<L.length):Jxr L ((L[j].1:Int)+(L[j].2:Int))=j+1:=by
 refine Qzy (by omega) (fun i hi hij=>?_) (fun h2=>?_)
 ·have hs:=h.sz _ (List.getElem_mem hj);rcases Nat.lt_or_ge i j with h1 | h1
  ·have:=h.at hi hj h1;have:=h.sz _ (List.getElem_mem hi);omega
  ·have:i=j:=by omega
   subst this;omega
 ·have:=h.at hj h2 (Nat.lt_succ_self j);omega
def ZNZ (a:Int) (o:Ob):Bool:=decide ((o.1:Int)<=a/\a<o.1+o.2)
def ZH8 (L:List Ob) (a:Int):Nat:=L.findIdx (ZNZ a)
theorem JtS (L:List Ob) (a:Int):ZH8 L a<=L.length:=List.findIdx_le_length
theorem JBb {L:List Ob} {a:Int} (h:ZH8 L a<L.length):((L[ZH8 L a]'h).1:Int)<=a/\a<(L[ZH8 L a]'h).1+(L[ZH8 L a]'h).2:=by
 have:=List.findIdx_getElem (p:=ZNZ a) (w:=h);simp only [ZNZ,decide_eq_true_eq] at this;exact this
theorem Z8o {L:List Ob} {a:Int} {i:Nat} (h:i<ZH8 L a) (hi:i<L.length):¬ ((L[i].1:Int)<=a/\a<L[i].1+L[i].2):=by
 have:=List.not_of_lt_findIdx h;simpa [ZNZ] using this
theorem XxN {n:Nat} {L:List Ob} (h:Q4l n L) {a:Int} {j:Nat} (hj:j<L.length) (h1:(L[j].1:Int)<=a) (h2:a<L[j].1+L[j].2):ZH8 L a=j:=by
 rcases Nat.lt_trichotomy (ZH8 L a) j with hlt | he | hlt
 ·have hy:=JBb (L:=L) (a:=a) (by omega);have:=h.at (i:=ZH8 L a) (by omega) hj hlt;omega
 ·exact he
 ·exact absurd ⟨h1,h2⟩ (Z8o hlt hj)
theorem ZDJ {L:List Ob} {a:Int} (h:∀ o∈L,¬ ((o.1:Int)<=a/\a<o.1+o.2)):ZH8 L a=L.length:=by
 rcases Nat.lt_or_ge (ZH8 L a) L.length with h1 | h1
 ·exact absurd (JBb h1) (h _ (List.getElem_mem h1))
 ·have:=JtS L a;omega
theorem XA1 {n:Nat} {L:List Ob} (h:Q4l n L) (a:Int):(JJU (VC5 n L) (a+1) = -1/\∀ o∈L,a<(o.1:Int))\/∃ j,∃ hj:j<L.length,JJU (VC5 n L) (a+1)=(L[j].1:Int)/\(L[j].1:Int)<=a/\∀ i (hi:i<L.length),j<i->a<(L[i].1:Int):=by
 have hx:=XH0 L (a+1);rcases Nat.eq_zero_or_pos (Jxr L (a+1)) with h0 | h0
 ·left
  have hall:∀ o∈L,a<(o.1:Int):=fun o ho=>by
   obtain ⟨k,hk,rfl⟩:=List.getElem_of_mem ho;have hy:=XOX (L:=L) (a:=a+1) (by omega);rcases Nat.eq_zero_or_pos k with rfl | hk0
   ·have e:L[Jxr L (a+1)]'(by omega)=L[0]:=by congr 1
    rw [e] at hy;omega
   ·have:=h.at (i:=0) (j:=k) (by omega) hk hk0;have e:L[Jxr L (a+1)]'(by omega)=L[0]'(by omega):=by congr 1
    rw [e] at hy;omega
  refine ⟨Xaz (fun i hc=>?_),hall⟩;obtain ⟨q,hq,e⟩:=(ZKf h i).1 hc.1;have:=hall q hq;omega
 ·right;obtain ⟨j,hj⟩:∃ j,Jxr L (a+1)=j+1:=⟨Jxr L (a+1)-1,by omega⟩;have hjl:j<L.length:=by omega
  have h1:=X9H (L:=L) (a:=a+1) (i:=j) (by omega) hjl
  have hall:∀ i (hi:i<L.length),j<i->a<(L[i].1:Int):=fun i hi hij=>by
   have hy:=XOX (L:=L) (a:=a+1) (by omega);rcases Nat.lt_or_ge (Jxr L (a+1)) i with h2 | h2
   ·have:=h.at (i:=Jxr L (a+1)) (by omega) hi h2;omega
   ·have e:L[Jxr L (a+1)]'(by omega)=L[i]:=by congr 1;omega
    rw [e] at hy;omega
  refine ⟨j,hjl,YBm (fun i hij hc=>?_) ((ZKf h _).2 ⟨_,List.getElem_mem hjl,rfl⟩) (by omega),by omega,hall⟩;obtain ⟨q,hq,e⟩:=(ZKf h i).1 hc.1;obtain ⟨k,hk,rfl⟩:=List.getElem_of_mem hq;rcases Nat.lt_trichotomy k j with hlt | rfl | hlt
  ·have:=h.at hk hjl hlt;omega
  ·omega
  ·have:=hall k hk hlt;omega
end
end
section
section
open Word
def VoH (L:List Ob) (i:Nat):Bool:=L.any fun o=>decide (o.1<=i/\i<o.1+o.2)
theorem XB1 {L:List Ob} {i:Nat}:VoH L i=true↔∃ o∈L,o.1<=i/\i<o.1+o.2:=by simp [VoH]
theorem Q5g {L:List Ob} {i:Nat}:VoH L i=decide (ZH8 L (i:Int)<L.length):=by
 by_cases h:ZH8 L (i:Int)<L.length
 ·rw [decide_eq_true h];have:=JBb h;exact XB1.2 ⟨_,List.getElem_mem h,by omega,by omega⟩
 ·rw [decide_eq_false h];cases hb:VoH L i with
  | false=>rfl
  | true=>
   obtain ⟨o,ho,h1,h2⟩:=XB1.1 hb;obtain ⟨k,hk,rfl⟩:=List.getElem_of_mem ho;exact absurd ⟨by omega,by omega⟩ (Z8o (L:=L) (a:=(i:Int)) (i:=k) (by omega) hk)
def JM8 (L:List Ob) (n:Nat) (f t:Int):Nat:=cnt (fun i=>decide (f<=(i:Nat)/\((i:Nat):Int)<t)&&VoH L i) n
def Jc4 (o:Ob) (f t:Int):Int:=max 0 (min (o.1+o.2:Int) t-max (o.1:Int) f)
def VeJ (L:List Ob) (f t:Int):Int:=(L.map fun o=>Jc4 o f t).sum
theorem J2a (a b n:Nat) (h1:a<=b) (h2:b<=n):cnt (fun i=>decide (a<=i/\i<b)) n=b-a:=by
 induction n generalizing b with
 | zero=>rw [YAO];omega
 | succ n ih=>
  rw [Z10];rcases Nat.lt_or_ge n b with h | h
  ·have e:cnt (fun i=>decide (a<=i/\i<b)) n=cnt (fun i=>decide (a<=i/\i<b-1)) n\/a=b:=by
    by_cases hab:a=b
    ·exact .inr hab
    ·exact .inl (XmU (fun i hi=>decide_eq_decide.2 (by omega)))
   rcases e with e | e
   ·by_cases hab:a=b
    ·subst hab;rw [Z6o (fun i _=>decide_eq_false (by omega)),decide_eq_false (by omega)];simp
    ·rw [e,ih (b-1) (by omega) (by omega),decide_eq_true (by omega)];simp;omega
   ·subst e;rw [Z6o (fun i _=>decide_eq_false (by omega)),decide_eq_false (by omega)];simp
  ·rw [ih b h1 h,decide_eq_false (by omega)];simp
theorem XFd (n:Nat) (f t:Int):JM8 [] n f t=0:=Z6o (fun i _=>by simp [VoH])
theorem X5c {n:Nat} {o:Ob} (ho:o.1+o.2<=n) (f t:Int):((cnt (fun i=>decide (f<=(i:Nat)/\((i:Nat):Int)<t)&&decide (o.1<=i/\i<o.1+o.2)) n:Nat):Int)=Jc4 o f t:=by
 unfold Jc4;by_cases h:max (o.1:Int) f<min (o.1+o.2:Int) t
 ·have e:cnt (fun i=>decide (f<=(i:Nat)/\((i:Nat):Int)<t)&&decide (o.1<=i/\i<o.1+o.2)) n=cnt (fun i=>decide ((max (o.1:Int) f).toNat<=i/\i<(min (o.1+o.2:Int) t).toNat)) n:=
   XmU (fun i _=>by rw [<-Bool.decide_and];exact decide_eq_decide.2 (by omega))
  rw [e,J2a _ _ _ (by omega) (by omega)];omega
 ·rw [Z6o (fun i _=>by rw [<-Bool.decide_and];exact decide_eq_false (by omega))];omega
theorem XxJ {n:Nat}:∀ {L:List Ob},Q4l n L->∀ (f t:Int),((JM8 L n f t:Nat):Int)=VeJ L f t:=by
 intro L
 induction L with
 | nil=>intro _ f t;rw [XFd];rfl
 | cons o r ih=>
  intro h f t;obtain ⟨h1,h2⟩:=List.pairwise_cons.1 h.pw;have hr:Q4l n r:=⟨h2,fun q hq=>h.sz q (List.mem_cons_of_mem _ hq)⟩;have ho:=h.sz o (List.mem_cons_self ..)
  have hs:=Jjp (f:=fun i=>decide (f<=(i:Nat)/\((i:Nat):Int)<t)&&decide (o.1<=i/\i<o.1+o.2)) (g:=fun i=>decide (f<=(i:Nat)/\((i:Nat):Int)<t)&&VoH r i) (fun i=>by
   by_cases hc:o.1<=i/\i<o.1+o.2
   ·have:VoH r i=false:=by
     cases hb:VoH r i with
     | false=>rfl
     | true=>obtain ⟨q,hq,h3,h4⟩:=XB1.1 hb;have:=h1 q hq;omega
    rw [this];simp
   ·rw [decide_eq_false hc];simp) n
  have e:JM8 (o :: r) n f t=cnt (fun i=>(decide (f<=(i:Nat)/\((i:Nat):Int)<t)&&decide (o.1<=i/\i<o.1+o.2))||(decide (f<=(i:Nat)/\((i:Nat):Int)<t)&&VoH r i)) n:=
   XmU (fun i _=>by rw [<-Bool.and_or_distrib_left];rfl)
  rw [e,hs,Int.natCast_add,X5c ho.2];have:=ih hr f t;unfold JM8 at this;rw [this];simp [VeJ]
theorem YSu (L M:List Ob) (f t:Int):VeJ (L++M) f t=VeJ L f t+VeJ M f t:=by simp [VeJ]
theorem XLs {o:Ob} {f t:Int} (h:(o.1+o.2:Int)<=f\/t<=o.1):Jc4 o f t=0:=by unfold Jc4;omega
theorem XJg {L:List Ob} {f t:Int} (h:∀ o∈L,(o.1+o.2:Int)<=f\/t<=o.1):VeJ L f t=0:=by
 induction L with
 | nil=>rfl
 | cons o r ih=>
  have:=ih (fun q hq=>h q (List.mem_cons_of_mem _ hq));have h2:=XLs (h o (List.mem_cons_self ..));simp only [VeJ,List.map_cons,List.sum_cons] at this ⊢;omega
theorem VRD {L:List Ob} {j:Nat} (hj:j<L.length) (f t:Int):VeJ (L.take (j+1)) f t=VeJ (L.take j) f t+Jc4 L[j] f t:=by
 rw [List.take_succ_eq_append_getElem hj,YSu];simp [VeJ]
theorem QMe (L:List Ob) (j:Nat) (f t:Int):VeJ L f t=VeJ (L.take j) f t+VeJ (L.drop j) f t:=by
 rw [<-YSu,List.take_append_drop]
theorem XDP {L:List Ob} {j:Nat} {o:Ob} (h:o∈L.take j):∃ i,∃ hi:i<L.length,i<j/\L[i]=o:=by
 obtain ⟨i,hi,rfl⟩:=List.getElem_of_mem h;simp only [List.length_take] at hi;exact ⟨i,by omega,by omega,by rw [List.getElem_take]⟩
theorem JEg {L:List Ob} {j:Nat} {o:Ob} (h:o∈L.drop j):∃ i,∃ hi:i<L.length,j<=i/\L[i]=o:=by
 obtain ⟨i,hi,rfl⟩:=List.getElem_of_mem h;simp only [List.length_drop] at hi;exact ⟨j+i,by omega,by omega,by rw [List.getElem_drop]⟩
theorem Vth {n:Nat} {L:List Ob} (h:Q4l n L) {f t:Int}:
  VeJ (L.take (Jxr L f)) f t=if ZH8 L f<L.length/\(L[ZH8 L f]?.getD (0,0)).1<f/\f<t then min ((L[ZH8 L f]?.getD (0,0)).1+(L[ZH8 L f]?.getD (0,0)).2:Int) t-f else 0:=by
 by_cases hfi:ZH8 L f<L.length
 ·have hy:=JBb hfi;have hg:L[ZH8 L f]?.getD (0,0)=L[ZH8 L f]:=by rw [List.getElem?_eq_getElem hfi];rfl
  rw [hg];by_cases hlt:(L[ZH8 L f].1:Int)<f
  ·have hn:Jxr L f=ZH8 L f+1:=Qzy (by omega) (fun i hi hij=>by
    rcases Nat.lt_or_ge i (ZH8 L f) with h1 | h1
    ·have:=h.at hi hfi h1;omega
    ·have:i=ZH8 L f:=by omega
     subst this;omega) (fun h2=>by have:=h.at hfi h2 (Nat.lt_succ_self _);omega)
   rw [hn,VRD hfi,XJg (fun o ho=>by
    obtain ⟨i,hi,hij,rfl⟩:=XDP ho
    have:=h.at hi hfi hij;left;omega)]
   by_cases hft:f<t
   ·rw [if_pos ⟨hfi,by omega,hft⟩];unfold Jc4;omega
   ·rw [if_neg (by omega)];unfold Jc4;omega
  ·rw [if_neg (by omega)];refine XJg (fun o ho=>?_);obtain ⟨i,hi,hij,rfl⟩:=XDP ho;have h1:=X9H hij hi;rcases Nat.lt_trichotomy i (ZH8 L f) with h2 | rfl | h2
   ·have:=h.at hi hfi h2;left;omega
   ·omega
   ·have:=h.at hfi hi h2;have:=(h.sz _ (List.getElem_mem hfi)).1;omega
 ·rw [if_neg (by omega)];refine XJg (fun o ho=>?_);obtain ⟨i,hi,hij,rfl⟩:=XDP ho;have h1:=X9H hij hi;have h2:=Z8o (L:=L) (a:=f) (i:=i) (by omega) hi;left;omega
theorem Yso {n:Nat} {L:List Ob} (h:Q4l n L) {j:Nat} {f t:Int} (hj:∀ hl:j<L.length,t<=(L[j].1:Int)):VeJ (L.drop j) f t=0:=by
 refine XJg (fun o ho=>?_);obtain ⟨i,hi,hij,rfl⟩:=JEg ho;right;have:=hj (by omega);rcases Nat.lt_or_ge j i with h1 | h1
 ·have:=h.at (i:=j) (by omega) hi h1;omega
 ·have:i=j:=by omega
  subst this;exact hj _
theorem JAq {n:Nat} {L:List Ob} (h:Q4l n L) (f t:Int):VeJ L (max f 0) (min t n)=VeJ L f t:=by
 unfold VeJ;congr 1;refine List.map_congr_left (fun o ho=>?_);have:=h.sz o ho;unfold Jc4;omega
def Qd4:List Ob->Nat
 | []=>0
 | o :: r=>o.2+Qd4 r
def VlZ:List Ob->Nat->Option Nat
 | [],_=>none
 | o :: r,k=>if k<o.2 then some (o.1+k) else VlZ r (k-o.2)
def V5E (L:List Ob) (k:Int):Int:=if k<0 then 0 else ((VlZ L k.toNat).getD 0:Nat)
def Y2i (L:List Ob) (k:Int):Bool:=decide (0<=k)&&(VlZ L k.toNat).isSome
theorem Jkd {L:List Ob}:∀ {k:Nat},VlZ L k=none↔Qd4 L<=k:=by
 induction L with
 | nil=>intro k;simp [VlZ,Qd4]
 | cons o r ih=>
  intro k;unfold VlZ Qd4
  split
  ·constructor
   ·intro h;cases h
   ·intro h;omega
  ·rw [ih];omega
theorem Qsm {L:List Ob} {j:Nat} (hj:j<L.length):Qd4 (L.take (j+1))=Qd4 (L.take j)+L[j].2:=by
 induction L generalizing j with
 | nil=>simp at hj
 | cons o r ih=>
  cases j with
  | zero=>simp [Qd4]
  | succ j=>
   have:=ih (j:=j) (by simpa using hj);simp only [List.take_succ_cons,Qd4,List.getElem_cons_succ] at this ⊢;omega
theorem XEK {L:List Ob} {j i:Nat} (hj:j<L.length) (hi:i<L[j].2):VlZ L (Qd4 (L.take j)+i)=some (L[j].1+i):=by
 induction L generalizing j with
 | nil=>simp at hj
 | cons o r ih=>
  cases j with
  | zero=>
   have hi:i<o.2:=hi;simp only [List.take_zero,Qd4,Nat.zero_add,VlZ,List.getElem_cons_zero];rw [if_pos hi]
  | succ j=>
   have:=ih (j:=j) (by simpa using hj) (by simpa using hi);simp only [List.take_succ_cons,Qd4,List.getElem_cons_succ,VlZ];rw [if_neg (by omega),show o.2+Qd4 (List.take j r)+i-o.2=Qd4 (List.take j r)+i by omega];exact this
theorem Z3c {n:Nat} {L:List Ob} (h:Q4l n L):VeJ L 0 n=Qd4 L:=by
 have key:∀ (L:List Ob),(∀ o∈L,1<=o.2/\o.1+o.2<=n)->VeJ L 0 n=Qd4 L:=by
  intro L
  induction L with
  | nil=>intro _;rfl
  | cons o r ih=>
   intro hs;have h1:=ih (fun q hq=>hs q (List.mem_cons_of_mem _ hq));have ho:=hs o (List.mem_cons_self ..);have h2:Jc4 o 0 n=o.2:=by unfold Jc4;omega
   simp only [VeJ,List.map_cons,List.sum_cons,Qd4] at h1 ⊢;rw [h2];omega
 exact key L h.sz
theorem Yhz {n:Nat} {L:List Ob} (h:Q4l n L) {j i:Nat} (hj:j<L.length) (hi:i<=L[j].2):VeJ L 0 ((L[j].1:Int)+i)=Qd4 (L.take j)+i:=by
 rw [QMe L (j+1),Yso h (j:=j+1) (fun hl=>by have:=h.at hj hl (Nat.lt_succ_self _);omega),VRD hj]
 have hg:Q4l L[j].1 (L.take j):=⟨h.pw.sublist (List.take_sublist ..),fun o ho=>by
  obtain ⟨q,hq,hqj,rfl⟩:=XDP ho;have:=h.at hq hj hqj
  exact ⟨(h.sz _ (List.getElem_mem hq)).1,this⟩⟩
 have e:VeJ (L.take j) 0 ((L[j].1:Int)+i)=VeJ (L.take j) 0 (L[j].1:Nat):=by
  unfold VeJ;congr 1;refine List.map_congr_left (fun o ho=>?_);have:=hg.sz o ho;unfold Jc4;omega
 rw [e,Z3c hg];unfold Jc4;omega
theorem XY5 {n:Nat} {L:List Ob} (h:Q4l n L):Qd4 L<=n:=by
 have h1:=Z3c h;have h2:=XxJ h 0 n;have h3:JM8 L n 0 n<=n:=QMh _ _;omega
end
end
section
section
open Word
def VZz:List Ob->Ob->List Ob
 | [],o=>[o]
 | q :: r,o=>if o.1<q.1 then o :: q :: r else q :: VZz r o
theorem Xz6 {L:List Ob} {o x:Ob}:x∈VZz L o↔x=o\/x∈L:=by
 induction L with
 | nil=>simp [VZz]
 | cons q r ih=>
  unfold VZz
  split
  ·simp
  ·simp only [List.mem_cons,ih];constructor
   ·rintro (h | h | h) <;> simp [h]
   ·rintro (h | h | h) <;> simp [h]
theorem YKx (L:List Ob) (o:Ob):(VZz L o).length=L.length+1:=by
 induction L with
 | nil=>rfl
 | cons q r ih=>unfold VZz;split <;> simp [ih]
theorem VuR {n:Nat} {L:List Ob} (h:Q4l n L) {o:Ob} (h1:1<=o.2) (h2:o.1+o.2<=n) (hd:∀ q∈L,o.1+o.2<=q.1\/q.1+q.2<=o.1):Q4l n (VZz L o):=by
 refine ⟨?_,fun x hx=>?_⟩
 ·have key:∀ (L:List Ob),L.Pairwise (fun o q=>o.1+o.2<=q.1)->(∀ q∈L,1<=q.2)->(∀ q∈L,o.1+o.2<=q.1\/q.1+q.2<=o.1)->(VZz L o).Pairwise (fun o q=>o.1+o.2<=q.1):=by
   intro L
   induction L with
   | nil=>intro _ _ _;simp [VZz]
   | cons q r ih=>
    intro hp hs hd;obtain ⟨hp1,hp2⟩:=List.pairwise_cons.1 hp;have hq:=hd q (List.mem_cons_self ..);have hqs:=hs q (List.mem_cons_self ..);unfold VZz
    split
    ·rename_i hlt;refine List.pairwise_cons.2 ⟨fun x hx=>?_,hp⟩;rcases List.mem_cons.1 hx with rfl | hx
     ·omega
     ·have:=hp1 x hx;omega
    ·rename_i hlt;refine List.pairwise_cons.2 ⟨fun x hx=>?_,ih hp2 (fun x hx=>hs x (List.mem_cons_of_mem _ hx)) (fun x hx=>hd x (List.mem_cons_of_mem _ hx))⟩;rcases Xz6.1 hx with rfl | hx
     ·omega
     ·exact hp1 x hx
  exact key L h.pw (fun q hq=>(h.sz q hq).1) hd
 ·rcases Xz6.1 hx with rfl | hx
  ·exact ⟨h1,h2⟩
  ·exact h.sz x hx
theorem YRY {a b:Bool} (h:a=true↔b=true):a=b:=Bool.eq_iff_iff.2 h
theorem JJN {l:List Bool} {k i:Nat} {x:Bool} (hk:k<l.length):at_ (l.set k x) i=if i=k then x else at_ l i:=XRU l k i x hk
theorem Yfk {n:Nat} {L:List Ob} (h:Q4l n L) {o:Ob} (h1:1<=o.2) (h2:o.1+o.2<=n) (hd:∀ q∈L,o.1+o.2<=q.1\/q.1+q.2<=o.1):VC5 n (VZz L o)=(VC5 n L).set o.1 true:=
 J2X (by rw [List.length_set,JQA,JQA]) (fun i _=>by
  rw [JJN (by rw [JQA];omega)];refine YRY ?_;rw [ZKf (VuR h h1 h2 hd)]
  split
  ·rename_i e;subst e;exact ⟨fun _=>rfl,fun _=>⟨o,Xz6.2 (.inl rfl),rfl⟩⟩
  ·rename_i e;rw [ZKf h];constructor
   ·rintro ⟨q,hq,rfl⟩;rcases Xz6.1 hq with rfl | hq
    ·exact absurd rfl e
    ·exact ⟨q,hq,rfl⟩
   ·rintro ⟨q,hq,rfl⟩;exact ⟨q,Xz6.2 (.inr hq),rfl⟩)
theorem Y48 {n:Nat} {L:List Ob} (h:Q4l n L) {o:Ob} (h1:1<=o.2) (h2:o.1+o.2<=n) (hd:∀ q∈L,o.1+o.2<=q.1\/q.1+q.2<=o.1):JsC n (VZz L o)=(JsC n L).set (o.1+o.2-1) true:=
 J2X (by rw [List.length_set,Q9C,Q9C]) (fun i _=>by
  rw [JJN (by rw [Q9C];omega)];refine YRY ?_;rw [Zkw (VuR h h1 h2 hd)]
  split
  ·rename_i e;subst e;exact ⟨fun _=>rfl,fun _=>⟨o,Xz6.2 (.inl rfl),by omega⟩⟩
  ·rename_i e;rw [Zkw h];constructor
   ·rintro ⟨q,hq,e2⟩;rcases Xz6.1 hq with rfl | hq
    ·omega
    ·exact ⟨q,hq,e2⟩
   ·rintro ⟨q,hq,e2⟩;exact ⟨q,Xz6.2 (.inr hq),e2⟩)
def Jf9 (L:List Ob) (s z:Int):Bool:=L.any fun o=>decide ((o.1:Int)<s+z/\s<o.1+o.2)
theorem Y01 {L:List Ob} {s z:Int}:Jf9 L s z=true↔∃ o∈L,(o.1:Int)<s+z/\s<o.1+o.2:=by simp [Jf9]
theorem V3K {n:Nat} {L:List Ob} (h:Q4l n L) {s z:Int} (hz:1<=z):Jf9 L s z=(decide (ZH8 L s<L.length)||(decide (Jxr L s<L.length)&&decide (((L[Jxr L s]?.getD (0,0)).1:Int)<s+z))):=by
 refine YRY ?_;rw [Y01];simp only [Bool.or_eq_true,Bool.and_eq_true,decide_eq_true_eq];constructor
 ·rintro ⟨o,ho,h1,h2⟩;by_cases hs:(o.1:Int)<=s
  ·left;obtain ⟨j,hj,rfl⟩:=List.getElem_of_mem ho;rw [XxN h hj hs h2];exact hj
  ·right;obtain ⟨j,hj,rfl⟩:=List.getElem_of_mem ho
   have hn:Jxr L s<=j:=by
    rcases Nat.lt_or_ge j (Jxr L s) with hlt | hge
    ·have:=X9H hlt hj;omega
    ·exact hge
   refine ⟨by omega,?_⟩;rw [List.getElem?_eq_getElem (by omega)]
   show (L[Jxr L s].1:Int)<s+z
   rcases Nat.lt_or_ge (Jxr L s) j with hlt | hge
   ·have:=h.at (i:=Jxr L s) (by omega) hj hlt;omega
   ·have e:L[Jxr L s]'(by omega)=L[j]:=by congr 1;omega
    rw [e];exact h1
 ·rintro (hf | ⟨hn,hl⟩)
  ·have:=JBb hf;exact ⟨_,List.getElem_mem hf,by omega,by omega⟩
  ·rw [List.getElem?_eq_getElem hn] at hl;have hl:(L[Jxr L s].1:Int)<s+z:=hl;have hy:=XOX hn;have:=(h.sz _ (List.getElem_mem hn)).1;exact ⟨_,List.getElem_mem hn,hl,by omega⟩
def ZbB (L:List Ob) (n:Nat) (s z:Int):Int:=if z<1 then 15 else if s<0\/(n:Int)<=s\/(n:Int)-s<z then 11 else if Jf9 L s z then 7 else 0
def VI0 (L:List Ob) (n:Nat) (s z:Int):List Ob:=if ZbB L n s z=0 then VZz L (s.toNat,z.toNat) else L
theorem YLm {L:List Ob} {n:Nat} {s z:Int} (h:ZbB L n s z=0):1<=z/\0<=s/\s+z<=n/\Jf9 L s z=false:=by
 unfold ZbB at h
 split at h
 ·omega
 ·split at h
  ·omega
  ·split at h
   ·omega
   ·rename_i h1 h2 h3;refine ⟨by omega,by omega,by omega,by simpa using h3⟩
theorem XCZ {L:List Ob} {s z:Int} (hs:0<=s) (hz:1<=z) (h:Jf9 L s z=false):∀ q∈L,s.toNat+z.toNat<=q.1\/q.1+q.2<=s.toNat:=fun q hq=>by
 by_cases hc:(q.1:Int)<s+z/\s<q.1+q.2
 ·have:=Y01.2 ⟨q,hq,hc⟩;rw [h] at this;cases this
 ·omega
theorem V9U {n:Nat} {L:List Ob} (h:Q4l n L) (s z:Int):Q4l n (VI0 L n s z):=by
 unfold VI0
 split
 ·rename_i he;obtain ⟨h1,h2,h3,h4⟩:=YLm he;exact VuR h (by show 1<=z.toNat;omega) (by show s.toNat+z.toNat<=n;omega) (XCZ h2 h1 h4)
 ·exact h
theorem V9f (n:Nat):VC5 n []=List.replicate n false:=by unfold VC5;exact J2X (by simp) (fun i hi=>by rw [Qn0];simp [at_,List.getD_eq_getElem?_getD,List.getElem?_replicate];split <;> rfl)
theorem JfC (n:Nat):JsC n []=List.replicate n false:=by unfold JsC;exact J2X (by simp) (fun i hi=>by rw [Qn0];simp [at_,List.getD_eq_getElem?_getD,List.getElem?_replicate];split <;> rfl)
end
end
end
section
section
section
open Go.RowKit Word
def nbl (n B:Nat):Nat:=(n+B-1)/B
theorem QnL {n B j:Nat} (hB:1<=B) (h1:n<=j*B) (h2:∀ i,i<j->i*B<n):nbl n B=j:=by
 unfold nbl;refine Nat.div_eq_of_lt_le ?_ ?_
 ·cases j with
  | zero=>simp
  | succ i=>
   have:=h2 i (by omega);rw [Nat.succ_mul];omega
 ·rw [Nat.succ_mul];omega
theorem VjL {n B j:Nat} (hB:1<=B):j<nbl n B↔j*B<n:=by
 unfold nbl;constructor
 ·intro h;have h2:=(Nat.le_div_iff_mul_le (by omega:0<B)).1 (show j+1<=(n+B-1)/B from h);rw [Nat.succ_mul] at h2;omega
 ·intro h
  show j+1<=_
  rw [Nat.le_div_iff_mul_le (by omega),Nat.succ_mul];omega
set_option maxHeartbeats 800000 in
theorem X5a (n:Int) (w:World):Calls Tryz.prog 78 #[.int .i64 n] w fun e w'=>e=.returned (.bool (Y1d n))/\w=w':=by
 go_enter Tryz.func78,Tryz.ntmps78;go_wp2
 go_loop [3] (fun i=>∃ k:Nat,k∈[1,2,4,8,16,32,64,128,256,512,1024,2048]/\Hid (∀ j:Nat,j<k->j∈[1,2,4,8,16,32,64,128,256,512,1024,2048]->n≠j)/\i=.int .i64 k) (fun i=>2049-(intOf i).toNat)
 case atStart=>exact ⟨1,by decide,⟨fun j h1 h2=>by simp at h2;omega⟩,rfl⟩
 case round=>
  obtain ⟨k,hk,hno,rfl⟩:=hrel;have hk1:1<=k/\k<=2048:=by simp at hk;omega
  by_cases hle:k<=1024
  ·by_cases hn:n=k
   ·have hok:Y1d n=true:=by rw [hn];simp at hk;rcases hk with rfl | rfl | rfl | rfl | rfl | rfl | rfl | rfl | rfl | rfl | rfl | rfl <;> first | rfl | omega
    have hb:((k:Int)==n)=true:=by simp;omega
    subst hn;have HK:=hid hok;clear hok hno hk;go_wp2;go_ret;exact ⟨Zbf HK.o.symm,rfl⟩
   ·have hb:((k:Int)==n)=false:=by simp;omega
    have hn':(k:Int)≠n:=fun h=>hn h.symm;have hk2:Hid (k*2∈[1,2,4,8,16,32,64,128,256,512,1024,2048]):=⟨by simp at hk ⊢;omega⟩
    have hno2:Hid (∀ j:Nat,j<k*2->j∈[1,2,4,8,16,32,64,128,256,512,1024,2048]->n≠j):=⟨fun j h1 h2=>by
     by_cases e:j<k
     ·exact hno.o j e h2
     ·have:j=k:=by simp at hk h2;omega
      rw [this];exact hn⟩
    clear hno hk hn;go_wp2;go_round
    case rel=>exact ⟨k*2,hk2.o,hno2,by go_num⟩
    case measure=>simp [intOf];omega
  ·have hok:Hid (Y1d n=false):=⟨by
    cases h:Y1d n with
    | false=>rfl
    | true=>
     have hp:=Quq h
     exact absurd (show n=(n.toNat:Int) by omega) (hno.o n.toNat (by simp at hk;omega) (by simp [Y1d] at h ⊢;omega))⟩
   clear hno hk;go_wp2;go_ret;exact ⟨Zbf hok.o.symm,rfl⟩
end
end
section
section
open Go.RowKit Word
end
end
section
section
open Go.RowKit Word
structure Idx (w:World) (x p b a:Nat) (l:List Bool) (B:Nat):Prop where
 vec:Vec w p b l
 b1:1<=B
 b2:B<=1024
 hx:x<w.heap.size
 ha:a<w.heap.size
 c0:w.cell? ⟨x,0,none⟩=some (.pointer (some ⟨p,0,none⟩))
 c1:∃ cap,w.cell? ⟨x,1,none⟩=some (.slice (some ⟨a,0,none⟩) (nbl l.length B) cap)
 c2:w.cell? ⟨x,2,none⟩=some (.int .i64 B)
 c3:w.cell? ⟨x,3,none⟩=some (.int .i64 (cnt (at_ l) l.length:Nat))
 ca:∀ j,j<nbl l.length B->w.cell? ⟨a,j,none⟩=some (.int .i64 (cnt (at_ l) (j*B):Nat))
theorem Idx.touch {S:Nat->Prop} {w w':World} {x p b a:Nat} {l:List Bool} {B:Nat} (h:Idx w x p b a l B) (t:XF4 S w w') (h1:¬ S x) (h2:¬ S p) (h3:¬ S b) (h4:¬ S a):Idx w' x p b a l B:=by
 obtain ⟨cap,hc⟩:=h.c1
 exact ⟨h.vec.touch t h2 h3,h.b1,h.b2,Nat.lt_of_lt_of_le h.hx t.size,Nat.lt_of_lt_of_le h.ha t.size,by rw [t.cell h.hx h1];exact h.c0,⟨cap,by rw [t.cell h.hx h1];exact hc⟩,by rw [t.cell h.hx h1];exact h.c2,
  by rw [t.cell h.hx h1];exact h.c3,fun j hj=>by rw [t.cell h.ha h4];exact h.ca j hj⟩
theorem Idx.gr {w w':World} {x p b a:Nat} {l:List Bool} {B:Nat} (h:Idx w x p b a l B) (t:Gr w w'):Idx w' x p b a l B:=h.touch (t.touch (fun _=>False)) (fun h=>h) (fun h=>h) (fun h=>h) (fun h=>h)
theorem J5D {n B:Nat} (h:1<=B):nbl n B<=n:=by
 rcases Nat.lt_or_ge n (nbl n B) with h1 | h1
 ·have:=(VjL h).1 h1;have h2:n*1<=n*B:=Nat.mul_le_mul_left n h;omega
 ·exact h1
theorem ZsP {w:World} {x p b a:Nat} {l:List Bool} {B:Nat} (hX:Idx w x p b a l B):
  Calls Tryz.prog 256 #[.pointer (some ⟨x,0,none⟩)] w fun e w'=>e=.returned (.int .i64 (cnt (at_ l) l.length:Nat))/\w=w':=by
 have c3:=hX.c3;have HX:=hid hX;clear hX;go_enter Tryz.func256,Tryz.ntmps256;go_wp2;go_ret;exact ⟨rfl,rfl⟩
end
end
section
section
open Go.RowKit Word
theorem VlR (l:List Bool) {b:Int} (h:b<=0):QnT l 0 b=0:=by
 rw [Y7X];unfold ZIf;have:cnt (fun i=>decide ((0:Int)<=(i:Nat)/\((i:Nat):Int)<b)&&at_ l i) l.length=cnt (fun _=>false) l.length:=XmU (fun i _=>by rw [decide_eq_false (by omega)];rfl);rw [this];generalize l.length=n
 induction n with
 | zero=>rfl
 | succ n ih=>rw [Z10,ih];rfl
set_option maxHeartbeats 1600000 in
theorem Zde {w:World} {x p b a:Nat} {l:List Bool} {B:Nat} (hX:Idx w x p b a l B) (i:Int):
  V4y Tryz.prog 262 #[.pointer (some ⟨x,0,none⟩),.int .i64 i] w (.int .i64 (QnT l 0 i:Nat)):=by
 have HX:=hid hX;have k0:=hX.c0;have k2:=hX.c2;have k3:=hX.c3;obtain ⟨cap,k1⟩:=hX.c1;have n2:=hX.vec.n2;clear hX;unfold V4y;by_cases h0:i<=0
 ·have d0:decide (i<=0)=true:=by simp [h0]
  rw [VlR l h0];clear k0 k1 k2 k3;go_enter Tryz.func262,Tryz.ntmps262;go_wp2;go_ret;exact ⟨rfl,Gr.refl _⟩
 ·obtain ⟨r,rfl⟩:∃ r:Nat,i=r:=⟨i.toNat,by omega⟩;have hr:0<r:=by omega
  have d0:decide ((r:Int)<=0)=false:=by simp;omega
  by_cases h1:l.length<=r
  ·have d1:decide (l.length<=r)=true:=by simp [h1]
   rw [Vbb l (by omega)];obtain ⟨N,hN⟩:∃ N,N=cnt (at_ l) l.length:=⟨_,rfl⟩;rw [<-hN] at k3 ⊢;clear hN k1 k2;go_enter Tryz.func262,Tryz.ntmps262;go_wp2_with (go_at_call 182;refine (JoW HX.o.vec).mono ?_;rintro e w1 ⟨rfl,rfl⟩);go_ret;exact ⟨rfl,Gr.refl _⟩
  ·have d1:decide (l.length<=r)=false:=by simp;omega
   obtain ⟨j,hj⟩:∃ j,j=r/B:=⟨_,rfl⟩;have hB:=HX.o.b1;have hB2:=HX.o.b2;have hjr:j*B<=r:=by rw [hj];exact Nat.div_mul_le_self r B
   have hjn:j<nbl l.length B:=(VjL hB).2 (by omega);have ka:=HX.o.ca j hjn;have q1:((r:Int).tdiv (B:Int))=(j:Int):=by rw [hj];rfl
   have q2:((r:Int)/(B:Int))=(j:Int):=by rw [hj];rfl
   obtain ⟨t,ht⟩:∃ t,t=j*B:=⟨_,rfl⟩;have ht':(j:Int)*(B:Int)=(t:Int):=by rw [ht,Int.natCast_mul]
   have hs:=V9n l (a:=0) (b:=(t:Int)) (c:=(r:Int)) (by omega) (by omega);have hu:=V58 l (r:=t) (by omega);rw [<-ht] at ka;rw [hu] at hs;obtain ⟨c1,hc1⟩:∃ c,c=cnt (at_ l) t:=⟨_,rfl⟩;obtain ⟨c2,hc2⟩:∃ c,c=QnT l (t:Int) (r:Int):=⟨_,rfl⟩;obtain ⟨c3,hc3⟩:∃ c,c=QnT l 0 (r:Int):=⟨_,rfl⟩;have hb1:c1<=1048576:=by have:=QMh (at_ l) t;omega
   have hb2:c2<=1048576:=by have:=QMh (Xkh l (t:Int) (r:Int)) l.length;unfold QnT at hc2;omega
   rw [<-hc1] at ka hs;rw [<-hc2,<-hc3] at hs;rw [<-hc3];obtain ⟨N,hN⟩:∃ N,N=nbl l.length B:=⟨_,rfl⟩;rw [<-hN] at hjn k1;have HNn:=hid hN;have htb:(t:Int)<=1048576:=by omega
   have hBp:(B:Int)≠0:=by omega
   have H2:=hid hc2.symm;have HS:=hid hs;clear hc1 hc2 hc3 hN hj ht hu hs hjr k3;have hjb:(j:Int)<N:=by omega
   have hjl:j<=1048576:=by have:=J5D (n:=l.length) hB;have:=HNn.o;omega
   have w3:IntKind.i64.wrap ((j:Int)*(B:Int))=(t:Int):=by rw [ht',IntWalk.i64_in _ (by omega)]
   have w4:IntKind.i64.wrap ((c1:Int)+(c2:Int))=(c3:Int):=by rw [HS.o,IntWalk.i64_in _ (by have:=HS.o;omega)]
   have z0:∀ xs m,(grow w xs m).cell? ⟨x,0,none⟩=some (.pointer (some ⟨p,0,none⟩)):=fun xs m=>((grown w xs m).cell HX.o.hx 0).trans k0;have z1:∀ xs m,(grow w xs m).cell? ⟨x,1,none⟩=some (.slice (some ⟨a,0,none⟩) N cap):=fun xs m=>((grown w xs m).cell HX.o.hx 1).trans k1;have z2:∀ xs m,(grow w xs m).cell? ⟨x,2,none⟩=some (.int .i64 B):=fun xs m=>((grown w xs m).cell HX.o.hx 2).trans k2;have z4:∀ xs m,(grow w xs m).cell? ⟨a,j,none⟩=some (.int .i64 c1):=fun xs m=>((grown w xs m).cell HX.o.ha j).trans ka;go_enter Tryz.func262,Tryz.ntmps262;go_upto_region 6 with (go_at_call 182;refine (JoW HX.o.vec).mono ?_;rintro e w1 ⟨rfl,rfl⟩);refine XAX (by kernel_rfl) (by kernel_rfl) ?_
   repeat (go_big_quiet_step (first
    | (go_at_call 286;have hc:=fun xs m=>V7Z (HX.o.vec.gr (grown w xs m)) (t:Int) (r:Int) (by omega);simp only [H2.o] at hc;exact V4y.grown (hc _ _))))
   refine wpQuiet_nil ?_;intro _ hw';obtain ⟨⟨xs,nq⟩,hw''⟩:=hw';subst hw'';go_wp2;go_ret;exact ⟨by first | rfl | exact ZzN HS.o,grown w _ _⟩
end
end
section
section
open Go.RowKit Word
set_option maxHeartbeats 1600000 in
theorem Qza (g:FuncId) (b1 b2:Addr) (n:Nat) (hn:n<=1048576) (t:Nat->Bool) (w:World)
  (hg:∀ args W,(callFunc g args).run Tryz.prog W=.ok (.enter g args) W)
  (hm:∀ i j,i<=j->j<n->t i=true->t j=true)
  (hf:∀ i W,i<n->Gr w W->Calls Tryz.prog g #[.int .i64 (i:Nat),.pointer (some b1),.pointer (some b2)] W (fun e W'=>e=.returned (.bool (t i))/\Gr W W')):
  V4y Tryz.prog 303 #[.int .i64 n,.func (.func g) #[] #[.pointer (some b1),.pointer (some b2)]] w (.int .i64 (first t n:Nat)):=by
 have HF:=hid hf;have HM:=hid hm;clear hf hm;unfold V4y;go_enter Tryz.func303,Tryz.ntmps303;go_wp2
 go_loopw [5,6] (fun x y wr=>∃ lo hi:Nat,lo<=hi/\hi<=n/\Hid (∀ i,i<lo->t i=false)/\Hid (hi<n->t hi=true)/\Hid (Gr w wr)/\x=.int .i64 lo/\y=.int .i64 hi) (fun x y _=>(intOf y).toNat-(intOf x).toNat)
 case atStart=>exact ⟨0,n,by omega,by omega,⟨fun i h=>by omega⟩,⟨fun h=>by omega⟩,⟨Gr.refl _⟩,rfl,rfl⟩
 case round=>
  obtain ⟨lo,hi,h1,h2,hl,hh,hG,rfl,rfl⟩:=hrel;by_cases hlt:lo<hi
  ·obtain ⟨m,hmid⟩:∃ m,m=(lo+hi)/2:=⟨_,rfl⟩;have hm1:lo<=m/\m<hi:=by omega
   have q1:((lo:Int)+(hi:Int))/2=(m:Int):=by omega
   clear hmid;cases ht:t m with
   | false=>
    have HC:=hid (HF.o m wr (by omega) hG.o);have HN:=hid ht;go_wp2_with (refine HC.o.mono ?_;rintro e W2 ⟨rfl,h2⟩;rw [HN.o];have HG2:=hid (hG.o.trans h2);clear h2);go_roundw
    case rel=>
     refine ⟨m+1,hi,by omega,by omega,⟨fun i hi'=>?_⟩,hh,HG2,by go_num,rfl⟩;cases hti:t i with
     | false=>rfl
     | true=>have:=HM.o i m (by omega) (by omega) hti;rw [HN.o] at this;cases this
    case measure=>simp [intOf];omega
   | true=>
    have HC:=hid (HF.o m wr (by omega) hG.o);have HN:=hid ht;go_wp2_with (refine HC.o.mono ?_;rintro e W2 ⟨rfl,h2⟩;rw [HN.o];have HG2:=hid (hG.o.trans h2);clear h2);go_roundw
    case rel=>exact ⟨lo,m,by omega,by omega,hl,⟨fun _=>HN.o⟩,HG2,rfl,by go_num⟩
    case measure=>simp [intOf];omega
  ·obtain rfl:lo=hi:=by omega
   have E:=hid (XFN h2 hl.o hh.o);go_wp2;go_ret;exact ⟨ZzN (by rw [E.o]),hG.o⟩
end
end
section
section
open Go.RowKit Word
theorem Q3a (l:List Bool) {a q:Nat} (h:cnt (at_ l) a=q):ZnF l (a:Int)=X5b l q:=by
 obtain ⟨j,hj⟩:∃ j,j=ZnF l (a:Int):=⟨_,rfl⟩;have hle:j<=l.length:=by rw [hj];exact Xgi _ _
 have hno:∀ i,i<j->¬ (at_ l i=true/\a<=i):=fun i hi hc=>by
  have:=ZGm (fun i=>at_ l i&&decide ((a:Int)<=i)) l.length i (by rw [hj] at hi;exact hi);simp [hc.1] at this;omega
 rw [<-hj];rcases Nat.lt_or_ge j l.length with hlt | hge
 ·have hat:=JyT (fun i=>at_ l i&&decide ((a:Int)<=i)) l.length (by rw [hj] at hlt;exact hlt)
  have hat':at_ l j=true/\(a:Int)<=j:=by
   have e:first (fun i=>at_ l i&&decide ((a:Int)<=i)) l.length=j:=hj.symm
   rw [e] at hat;simpa using hat
  have hc:cnt (at_ l) j=q:=by
   rw [<-h]
   exact ZC7 (by omega) (fun i h1 h2=>by
    cases hi:at_ l i with
    | false=>rfl
    | true=>exact absurd ⟨hi,h1⟩ (hno i h2))
  exact (ZiF hlt hat'.1 hc).symm
 ·have:cnt (at_ l) l.length<=q:=by
   rw [<-h];rcases Nat.lt_or_ge a l.length with h1 | h1
   ·rw [ZC7 (m:=a) (by omega) (fun i h2 h3=>by
     cases hi:at_ l i with
     | false=>rfl
     | true=>exact absurd ⟨hi,h2⟩ (hno i (by omega)))]
    exact Nat.le_refl _
   ·exact ZoC _ h1
  rw [VZZ this];omega
theorem Z7T {l:List Bool} {q:Nat} (h:q<cnt (at_ l) l.length):ZnF l ((X5b l q:Int)+1)=X5b l (q+1):=by
 obtain ⟨h1,h2,h3⟩:=Zmr h;have:=Q3a l (a:=X5b l q+1) (q:=q+1) (by rw [Z10,h2,h3];rfl);rw [<-this];rfl
set_option maxHeartbeats 1600000 in
theorem VVz {w:World} {x p b a:Nat} {l:List Bool} {B:Nat} (hX:Idx w x p b a l B) (bx bk:Addr) (k:Nat) (hbx:w.cell? bx=some (.pointer (some ⟨x,0,none⟩))) (hbk:w.cell? bk=some (.int .i64 k))
  (i:Nat) (hi:i<nbl l.length B):
  Calls Tryz.prog 304 #[.int .i64 i,.pointer (some bx),.pointer (some bk)] w fun e w'=>e=.returned (.bool (decide (k<cnt (at_ l) (i*B))))/\Gr w w':=by
 obtain ⟨cap,c1⟩:=hX.c1;have ca:=hX.ca i hi;have n2:=hX.vec.n2;have hN:=J5D (n:=l.length) hX.b1;obtain ⟨N,hN'⟩:∃ N,N=nbl l.length B:=⟨_,rfl⟩;obtain ⟨C,hC⟩:∃ C,C=cnt (at_ l) (i*B):=⟨_,rfl⟩;rw [<-hN'] at c1 hi hN;rw [<-hC] at ca ⊢;have hi':(i:Int)<(N:Int):=by omega
 have hi0:(0:Int)<=(i:Int):=by omega
 have hN2:N<=1048576:=by omega
 clear hX hN' hC hN n2;go_enter Tryz.func304,Tryz.ntmps304;go_upto_region 1 with (fail);go_quiet (fail);go_wp2;go_ret;exact ⟨Zbf (by simp),(Gr.refl w).drewN _⟩
end
end
section
section
open Go.RowKit Word
theorem YDO (l:List Bool) {B k:Nat} (hB:1<=B) (hk:k<cnt (at_ l) l.length):
  ∃ j,first (fun i=>decide (k<cnt (at_ l) (i*B))) (nbl l.length B)=j+1/\j<nbl l.length B/\cnt (at_ l) (j*B)<=k:=by
 obtain ⟨f,hf⟩:∃ f,f=first (fun i=>decide (k<cnt (at_ l) (i*B))) (nbl l.length B):=⟨_,rfl⟩
 have hle:f<=nbl l.length B:=by rw [hf];exact Xgi _ _
 have hn:0<l.length:=by
  rcases Nat.eq_zero_or_pos l.length with h | h
  ·rw [h,YAO] at hk;omega
  ·exact h
 have hN:0<nbl l.length B:=(VjL hB).2 (by omega)
 have h0:f≠0:=fun h=>by
  have:=JyT (fun i=>decide (k<cnt (at_ l) (i*B))) (nbl l.length B) (by rw [<-hf,h];exact hN);rw [<-hf,h] at this;simp [YAO] at this
 obtain ⟨j,rfl⟩:∃ j,f=j+1:=⟨f-1,by omega⟩;refine ⟨j,hf.symm,by omega,?_⟩;have:=ZGm (fun i=>decide (k<cnt (at_ l) (i*B))) (nbl l.length B) j (by rw [<-hf];omega);simpa using this
theorem JEG {w:World} (u v:Value) (T1 T2:TypeId):
  Gr w ((w.alloc (.cells #[u] T1)).alloc (.cells #[v] T2))/\((w.alloc (.cells #[u] T1)).alloc (.cells #[v] T2)).cell? ⟨w.heap.size,0,none⟩=some u/\((w.alloc (.cells #[u] T1)).alloc (.cells #[v] T2)).cell? ⟨w.heap.size+1,0,none⟩=some v:=by
 refine ⟨((Gr.refl w).alloc _).alloc _,?_,?_⟩
 ·rw [World.cell?_alloc_lt (h:=by simp)];exact World.cell?_alloc_new ..
 ·have h:=World.cell?_alloc_new (w:=w.alloc (.cells #[u] T1)) (c:=#[v]) (t:=T2) (i:=0);rw [World.size_alloc] at h;exact h
set_option maxHeartbeats 1600000 in
theorem Zo5 {w:World} (x:Nat) (q:Int) (hq:q<0):V4y Tryz.prog 302 #[.pointer (some ⟨x,0,none⟩),.int .i64 q] w (.tuple #[.int .i64 0,.bool false]):=by
 have d0:decide (q<0)=true:=by simp [hq]
 unfold V4y;go_enter Tryz.func302,Tryz.ntmps302;go_upto_region 1 with (fail);obtain ⟨hg,c1,c2⟩:=JEG (w:=w) (.pointer (some ⟨x,0,none⟩)) (.int .i64 q) 323 3;generalize (w.alloc (.cells #[.pointer (some ⟨x,0,none⟩)] 323)).alloc (.cells #[.int .i64 q] 3)=W2 at *
 go_quiet (fail);go_wp2;go_ret2;exact ⟨Qh8 rfl rfl,hg.drewN _⟩
set_option maxHeartbeats 1600000 in
theorem V1d {w:World} {x p b a:Nat} {l:List Bool} {B:Nat} (hX:Idx w x p b a l B) (q:Nat) (hq:cnt (at_ l) l.length<=q):
  V4y Tryz.prog 302 #[.pointer (some ⟨x,0,none⟩),.int .i64 q] w (.tuple #[.int .i64 0,.bool false]):=by
 obtain ⟨N,hN⟩:∃ N,N=cnt (at_ l) l.length:=⟨_,rfl⟩;have k3:=hX.c3;rw [<-hN] at k3 hq;have hx:=hX.hx;have d0:decide ((q:Int)<0)=false:=by simp
 have d1:decide (N<=q)=true:=by simp [hq]
 clear hX hN hq;unfold V4y;go_enter Tryz.func302,Tryz.ntmps302;go_upto_region 1 with (fail);obtain ⟨hg,c1,c2⟩:=JEG (w:=w) (.pointer (some ⟨x,0,none⟩)) (.int .i64 q) 323 3;generalize (w.alloc (.cells #[.pointer (some ⟨x,0,none⟩)] 323)).alloc (.cells #[.int .i64 q] 3)=W2 at *
 have c3:=(hg.cell hx 3).trans k3;go_quiet (fail);go_wp2;go_ret2;exact ⟨Qh8 rfl rfl,hg.drewN _⟩
theorem Zrb (args:Array Value) (W:World):(callFunc 304 args).run Tryz.prog W=.ok (.enter 304 args) W:=by kernel_rfl
set_option maxHeartbeats 1600000 in
theorem JlP {w:World} {x p b a:Nat} {l:List Bool} {B:Nat} (hX:Idx w x p b a l B) (hT:VRW w) (k:Nat) (hk:k<cnt (at_ l) l.length):
  V4y Tryz.prog 302 #[.pointer (some ⟨x,0,none⟩),.int .i64 k] w (.tuple #[.int .i64 (X5b l k:Nat),.bool true]):=by
 have HX:=hid hX;have HT:=hid hT;have HK:=hid hk;obtain ⟨j,hj1,hj2,hj3⟩:=YDO l hX.b1 hk;obtain ⟨N,hN⟩:∃ N,N=cnt (at_ l) l.length:=⟨_,rfl⟩;have k0:=hX.c0;have k2:=hX.c2;have k3:=hX.c3;obtain ⟨cap,k1⟩:=hX.c1;have ka:=hX.ca j hj2;have hx:=hX.hx;have n2:=hX.vec.n2;have hNb:=J5D (n:=l.length) hX.b1;have hb2:=hX.b2;rw [<-hN] at k3;have hNk:k<N:=by rw [hN];exact hk
 have hNl:N<=l.length:=by rw [hN];exact QMh _ _
 have d0:decide ((k:Int)<0)=false:=by simp
 have d1:decide (N<=k)=false:=by simp;omega
 have hkb:k<=1048576:=by omega
 have hjl:j*B<l.length:=(VjL hX.b1).1 hj2;obtain ⟨t,ht⟩:∃ t,t=j*B:=⟨_,rfl⟩;rw [<-ht] at hjl ka hj3;obtain ⟨c,hc⟩:∃ c,c=cnt (at_ l) t:=⟨_,rfl⟩;rw [<-hc] at ka hj3;have hw3:IntKind.i64.wrap ((j:Int)*(B:Int))=(t:Int):=by rw [show (j:Int)*(B:Int)=(t:Int) by rw [ht,Int.natCast_mul],IntWalk.i64_in _ (by omega)]
 have HE0:=hid (Q3a l hc.symm);have HP:Hid (∀ n,n<=k->X5b l n<l.length):=⟨fun n hn=>(Zmr (l:=l) (q:=n) (by omega)).1⟩;have HNX:Hid (∀ n,n<=k->ZnF l ((X5b l n:Int)+1)=X5b l (n+1)):=⟨fun n hn=>Z7T (by omega)⟩;obtain ⟨M,hM⟩:∃ M,M=nbl l.length B:=⟨_,rfl⟩;have HFI:=hid hj1;rw [<-hM] at k1 hj2 hNb;have HM:=hid hM;have hjM:(j:Int)<M:=by omega
 clear hX hk hN ht hc hj1 hM hT hNl;unfold V4y;go_enter Tryz.func302,Tryz.ntmps302;go_upto_region 1 with (fail);obtain ⟨hg,c1,c2⟩:=JEG (w:=w) (.pointer (some ⟨x,0,none⟩)) (.int .i64 k) 323 3;generalize (w.alloc (.cells #[.pointer (some ⟨x,0,none⟩)] 323)).alloc (.cells #[.int .i64 k] 3)=W2 at *
 have z0:=(hg.cell hx 0).trans k0;have z1:=(hg.cell hx 1).trans k1;have z2:=(hg.cell hx 2).trans k2;have z3:=(hg.cell hx 3).trans k3;have K1:=hid k1;clear k0 k1 k2 k3;have HG:=hid hg;have HC:=hid (And.intro c1 c2);clear hg;go_quiet (fail)
 have HS:=hid (Qza 304 ⟨w.heap.size,0,none⟩ ⟨w.heap.size+1,0,none⟩ M (by omega) (fun i=>decide (k<cnt (at_ l) (i*B))) (W2.drewN nq) Zrb
  (fun i i' h1 h2 h3=>by
   have:=ZoC (at_ l) (Nat.mul_le_mul_right B h1)
   simp at h3 ⊢;omega)
  (fun i W hi hgW=>VVz (HX.o.gr ((HG.o.drewN nq).trans hgW)) _ _ k (by
    rw [hgW.cell (b:=w.heap.size) (by have:=ZQf HC.o.1;exact this)];exact HC.o.1) (by
    rw [hgW.cell (b:=w.heap.size+1) (by have:=ZQf HC.o.2;exact this)];exact HC.o.2) i (by rw [<-HM.o];exact hi)))
 rw [HM.o,HFI.o,<-HM.o] at HS;have hmf:∀ (fn:Fn) (first cap:Array Value) (w:World),(Instr.makeFunc fn first cap).run Tryz.prog w=.ok (.func fn first cap) w:=fun _ _ _ _=>rfl;go_upto_region 4 with (go_at_call 303;refine HS.o.mono ?_;rintro e W3 ⟨rfl,h3⟩;have HG3:=hid (HG.o.trans (((Gr.refl W2).drewN nq).trans h3));have y0:=(h3.cell (b:=w.heap.size) (ZQf HC.o.1) 0).trans HC.o.1;have y1:=(h3.cell (b:=w.heap.size+1) (ZQf HC.o.2) 0).trans HC.o.2;clear h3);have v0:=(HG3.o.cell hx 0).trans HX.o.c0;have v2:=(HG3.o.cell hx 2).trans HX.o.c2
 have v1:W3.cell? ⟨x,1,none⟩=some (.slice (some ⟨a,0,none⟩) M cap):=by
  exact (HG3.o.cell hx 1).trans K1.o
 have va:W3.cell? ⟨a,j,none⟩=some (.int .i64 c):=(HG3.o.cell HX.o.ha j).trans ka;have HV3:=hid (HX.o.vec.gr HG3.o);have HT3:=hid (HG3.o.tab HT.o.lt HT.o);have hc0:=HP.o c hj3
 have HN:Hid (∀ n,Calls Tryz.prog 252 #[.pointer (some ⟨p,0,none⟩),.int .i64 t] (W3.drewN n) fun e w'=>e=.returned (.tuple #[.int .i64 (X5b l c:Nat),.bool true])/\w'=W3.drewN n):=⟨fun n=>
  (QUF (HV3.o.gr ((Gr.refl W3).drewN n)) (((Gr.refl W3).drewN n).tab HT3.o.lt HT3.o) t).mono fun e w' ⟨he,hw⟩=>⟨by rw [he,HE0.o,Jpj hc0,decide_eq_true hc0],hw.symm⟩⟩
 clear z0 z1 z2 z3 ka HS;go_quiet ((go_at_call 252;exact Calls.quiet_of_same (HN.o _)));go_wp2
 go_loop [7,9] (fun s7 s9=>∃ n:Nat,c<=n/\n<=k/\s7=.int .i64 (X5b l n:Nat)/\s9=.int .i64 n) (fun _ s9=>k-(intOf s9).toNat)
 case atStart=>exact ⟨c,Nat.le_refl _,hj3,rfl,rfl⟩
 case round=>
  obtain ⟨n,hn1,hn2,rfl,rfl⟩:=hrel;have hp:=HP.o n hn2;obtain ⟨r,hr⟩:∃ r,r=X5b l n:=⟨_,rfl⟩;have HE:=HNX.o n hn2;rw [<-hr] at hp HE ⊢;by_cases hlt:n<k
  ·have hp':=HP.o (n+1) (by omega);have HE':=hid HE;have HR:=hid (And.intro (Jpj hp') (decide_eq_true hp'));clear hr HE hp';go_wp2_with (go_at_call 252;refine (QUF (HV3.o.gr ((Gr.refl W3).drewN _)) (((Gr.refl W3).drewN _).tab HT3.o.lt HT3.o) _).mono ?_;rintro e w' ⟨rfl,rfl⟩;rw [HE'.o,HR.o.1,HR.o.2]);go_round
   case rel=>exact ⟨n+1,by omega,by omega,rfl,by go_num⟩
   case measure=>simp [intOf];omega
  ·obtain rfl:n=k:=by omega
   have HR:=hid hr;clear hr HE;go_wp2;go_ret2;exact ⟨Qh8 (by rw [HR.o];rfl) rfl,HG3.o.drewN _⟩
theorem Qax {w:World} {x p b a:Nat} {l:List Bool} {B:Nat} (hX:Idx w x p b a l B) (hT:VRW w) (q:Int):
  V4y Tryz.prog 302 #[.pointer (some ⟨x,0,none⟩),.int .i64 q] w (.tuple #[.int .i64 (Jid l q),.bool (Yka l q)]):=by
 by_cases h:q<0
 ·have e1:Jid l q=0:=by unfold Jid;rw [if_pos h]
  have e2:Yka l q=false:=by unfold Yka;rw [decide_eq_false (by omega)];rfl
  rw [e1,e2];exact Zo5 x q h
 ·obtain ⟨k,rfl⟩:∃ k:Nat,q=k:=⟨q.toNat,by omega⟩;have e1:Jid l k=JHm l.length (X5b l k):=by unfold Jid;rw [if_neg h,Int.toNat_natCast]
  have e2:Yka l k=decide (X5b l k<l.length):=by unfold Yka;rw [decide_eq_true (by omega),Int.toNat_natCast];rfl
  rw [e1,e2];rcases Nat.lt_or_ge k (cnt (at_ l) l.length) with hk | hk
  ·have:=(Zmr hk).1;rw [Jpj this,decide_eq_true this];exact JlP hX hT k hk
  ·have:=VZZ hk;rw [this,JEJ (by omega),decide_eq_false (by omega)];exact V1d hX k hk
end
end
section
section
open Go.RowKit Word
theorem QTm:(Tryz.prog.info? 3).map (fun i=>(i.zero,i.size,i.bytes))=some (some (.int .i64 0),1,8):=by kernel_rfl
def ZQP (w:World) (l:List Bool) (B:Nat) (e:Ending) (w':World):Prop:=
 ∃ x p b a,e=.returned (.tuple #[.pointer (some ⟨x,0,none⟩),.int .i64 0])/\Gr w w'/\Idx w' x p b a l B/\w.heap.size<=x/\w.heap.size<=p/\w.heap.size<=b/\w.heap.size<=a
def VHU (l:List Bool) (B k:Nat):List Value:=(List.range k).map fun j=>Value.int .i64 (cnt (at_ l) (j*B):Nat)
theorem X5M (l:List Bool) (B k:Nat):VHU l B (k+1)=VHU l B k++[.int .i64 (cnt (at_ l) (k*B):Nat)]:=by
 unfold VHU;rw [List.range_succ,List.map_append];rfl
structure ZL0 (w:World) (l:List Bool) (B X p b BASE k m:Nat) (v:Value) (wr:World):Prop where
 gr:Gr w wr
 vec:Vec wr p b l
 own:wr.ownsRow BASE 3 1 v k (VHU l B k)
 c0:wr.cell? ⟨X,0,none⟩=some (.pointer (some ⟨p,0,none⟩))
 c1:wr.cell? ⟨X,1,none⟩=some v
 c2:wr.cell? ⟨X,2,none⟩=some (.int .i64 B)
 c3:wr.cell? ⟨X,3,none⟩=some (.int .i64 (QnT l 0 (m*B:Nat):Nat))
 free:∀ o,wr.frozen? ⟨X,o,none⟩=false
 lt:X<BASE
 ltp:p<X
 ltb:b<X
 ge:w.heap.size<=p/\w.heap.size<=b
 base:BASE<=wr.heap.size
theorem ZL0.far {w:World} {l:List Bool} {B X p b BASE k m:Nat} {v:Value} {wr:World} (h:ZL0 w l B X p b BASE k m v wr):v.ownBlock≠some X:=fun e=>by
 have:=(Vvr h.own e).1;have:=h.lt;omega
theorem ZL0.grow {w:World} {l:List Bool} {B X p b BASE k m:Nat} {v:Value} {wr wr':World} (h:ZL0 w l B X p b BASE k m v wr) (g:Gr wr wr'):ZL0 w l B X p b BASE k m v wr':=by
 have hX:X<wr.heap.size:=by have:=h.lt;have:=h.base;omega
 exact ⟨h.gr.trans g,h.vec.gr g,Y9I h.own g,(g.cell hX 0).trans h.c0,(g.cell hX 1).trans h.c1,(g.cell hX 2).trans h.c2,(g.cell hX 3).trans h.c3,fun o=>(g.frozen hX o).trans (h.free o),h.lt,h.ltp,h.ltb,h.ge,Nat.le_trans h.base g.size⟩
theorem ZL0.append {w:World} {l:List Bool} {B X p b BASE k m:Nat} {v:Value} {wr w1:World} (h:ZL0 w l B X p b BASE k m v wr) {g c:Nat}
  (hown:w1.ownsRow BASE 3 1 (.slice (some ⟨g,0,none⟩) (k+1) c) (k+1) (VHU l B (k+1))) (hgrow:wr.grownBy w1 v.ownBlock):
  ZL0 w l B X p b BASE (k+1) m (.slice (some ⟨g,0,none⟩) (k+1) c) (w1.setCell ⟨X,1,none⟩ (.slice (some ⟨g,0,none⟩) (k+1) c)):=by
 have hX:X<wr.heap.size:=by have:=h.lt;have:=h.base;omega
 have t:XF4 (fun i=>v.ownBlock=some i) wr w1:=VxQ hgrow _ (fun k e _=>e);have t2:XF4 (fun i=>i=X) w1 (w1.setCell ⟨X,1,none⟩ (.slice (some ⟨g,0,none⟩) (k+1) c)):=(XF4.refl (fun i=>i=X) w1).setCell (a:=⟨X,1,none⟩) (fun _=>rfl) _;have far:∀ i,i<BASE->v.ownBlock≠some i:=fun i hi e=>by have:=(Vvr h.own e).1;omega
 have hX1:X<w1.heap.size:=Nat.lt_of_lt_of_le hX t.size;have e:∀ o,w1.cell? ⟨X,o,none⟩=wr.cell? ⟨X,o,none⟩:=fun o=>t.cell hX (far X h.lt) o
 have o:∀ o,o≠1->(w1.setCell ⟨X,1,none⟩ (.slice (some ⟨g,0,none⟩) (k+1) c)).cell? ⟨X,o,none⟩=wr.cell? ⟨X,o,none⟩:=fun o ho=>by
  rw [World.cell?_setCell_other (h:=by intro e2;injection e2 with _ e3;omega),e o]
 have hp:=h.ltp;have hb:=h.ltb;have hl:=h.lt;refine ⟨?_,?_,?_,(o 0 (by omega)).trans h.c0,?_,(o 2 (by omega)).trans h.c2,(o 3 (by omega)).trans h.c3,?_,h.lt,h.ltp,h.ltb,h.ge,Nat.le_trans h.base (Nat.le_trans t.size t2.size)⟩
 ·refine (((h.gr.touch (fun _=>False)).trans' t (fun i hi e=>?_)).trans' t2 (fun i hi e=>?_)).gr
  ·have:=(Vvr h.own e).1;have:=h.ge;omega
  ·have e:i=X:=e;have:=h.ge;omega
 ·exact (h.vec.touch t (far p (by omega)) (far b (by omega))).touch t2 (by omega) (by omega)
 ·refine Zs2 hown t2 (fun i hi e=>?_);have e:i=X:=e;have:=(Vvr hown hi).1;omega
 ·exact World.cell?_setCell_same (h:=(e 1).trans h.c1) ..
 ·intro o;rw [World.frozen?_setCell,t.frozen hX (far X h.lt)];exact h.free o
theorem ZL0.count {w:World} {l:List Bool} {B X p b BASE k m:Nat} {v:Value} {wr:World} (h:ZL0 w l B X p b BASE k m v wr) {m':Nat} {z:Int} (hz:z=(QnT l 0 (m' * B:Nat):Nat)):
  ZL0 w l B X p b BASE k m' v (wr.setCell ⟨X,3,none⟩ (.int .i64 z)):=by
 have hX:X<wr.heap.size:=by have:=h.lt;have:=h.base;omega
 have t2:XF4 (fun i=>i=X) wr (wr.setCell ⟨X,3,none⟩ (.int .i64 z)):=(XF4.refl (fun i=>i=X) wr).setCell (a:=⟨X,3,none⟩) (fun _=>rfl) _;have hp:=h.ltp;have hb:=h.ltb;have hl:=h.lt
 have o:∀ o,o≠3->(wr.setCell ⟨X,3,none⟩ (.int .i64 z)).cell? ⟨X,o,none⟩=wr.cell? ⟨X,o,none⟩:=fun o ho=>by
  rw [World.cell?_setCell_other (h:=by intro e2;injection e2 with _ e3;omega)]
 refine ⟨?_,h.vec.touch t2 (by omega) (by omega),?_,(o 0 (by omega)).trans h.c0,(o 1 (by omega)).trans h.c1,(o 2 (by omega)).trans h.c2,?_,?_,h.lt,h.ltp,h.ltb,h.ge,Nat.le_trans h.base t2.size⟩
 ·refine ((h.gr.touch (fun _=>False)).trans' t2 (fun i hi e=>?_)).gr;have e:i=X:=e;have:=h.ge;omega
 ·refine Zs2 h.own t2 (fun i hi e=>?_);have e:i=X:=e;have:=(Vvr h.own hi).1;omega
 ·rw [hz];exact World.cell?_setCell_same (h:=h.c3) ..
 ·intro o;rw [World.frozen?_setCell];exact h.free o
theorem ZL0.done {w:World} {l:List Bool} {B X p b BASE k:Nat} {v:Value} {wr:World} (h:ZL0 w l B X p b BASE k k v wr) (h1:1<=B) (h2:B<=1024) (hk:k=nbl l.length B) (hl:l.length<=k*B):
  ∃ a,Idx wr X p b a l B/\w.heap.size<=a:=by
 have hn:=h.vec.n1;have hk0:k≠0:=by rintro rfl;omega
 obtain ⟨g,c,rfl,hg1,hg2,hg3,hg4⟩:=YTP h.own hk0;have:=h.lt;have hb:=h.base;refine ⟨g,⟨h.vec,h1,h2,by omega,hg4,h.c0,⟨c,by rw [h.c1,hk]⟩,h.c2,?_,fun j hj=>?_⟩,by have:=h.ge;have:=h.ltp;omega⟩
 ·rw [h.c3,Vbb l (by omega)]
 ·refine ZBn h.own ?_;unfold VHU;rw [List.getElem?_map,List.getElem?_range (by omega)];rfl
set_option maxHeartbeats 800000 in
theorem JHa {w w1:World} {l:List Bool} {B q r:Nat} {T:TypeId} (hg:Gr w w1) (hV:Vec w1 q r l) (h1:w.heap.size<=q) (h2:w.heap.size<=r):
  ZL0 w l B w1.heap.size q r (w1.heap.size+1) 0 0 (.slice none 0 0) (w1.alloc (.cells #[.pointer (some ⟨q,0,none⟩),.slice none 0 0,.int .i64 B,.int .i64 0] T)):=by
 have hp:=hV.hp;have hb:=hV.hb;refine ⟨hg.alloc _,hV.gr ((Gr.refl w1).alloc _),Vm9 _ _ _ _,World.cell?_alloc_new ..,World.cell?_alloc_new ..,World.cell?_alloc_new ..,?_,fun o=>World.frozen?_alloc_new ..,by omega,hp,hb,⟨h1,h2⟩,by simp⟩;rw [show QnT l 0 ((0*B:Nat):Int)=0 from VlR l (by simp)];exact World.cell?_alloc_new ..
set_option maxHeartbeats 800000 in
theorem XFA {w:World} {p b:Nat} {l:List Bool} (hV:Vec w p b l) (n:Int) (hn:Y1d n=false) (hn2:n<=9223372036854775807):
  Calls Tryz.prog 254 #[.pointer (some ⟨p,0,none⟩),.int .i64 n] w fun e w'=>e=.returned (.tuple #[.pointer none,.int .i64 5])/\w=w':=by
 have n1:((l.length:Int)==0)=false:=by have:=hV.n1;exact beq_eq_false_iff_ne.2 (by omega)
 have HV:=hid hV;rw [XYi] at hn;cases hp:XuW n with
 | false=>
  have HP:=hid hp;clear hp hn hV;go_enter Tryz.func254,Tryz.ntmps254
  go_wp2_with (first
   | (go_at_call 182;refine (JoW HV.o).mono ?_;rintro e w1 ⟨rfl,rfl⟩)
   | (go_at_call 152;refine (VWY n hn2 _).mono ?_;rintro e w1 ⟨rfl,rfl⟩;rw [HP.o]))
  go_ret2;exact ⟨Qh8 rfl rfl,rfl⟩
 | true=>
  rw [hp] at hn;have d1:decide ((1024:Int)<n)=true:=by simp at hn;simp;omega
  have HP:=hid hp;clear hp hn hV;go_enter Tryz.func254,Tryz.ntmps254
  go_wp2_with (first
   | (go_at_call 182;refine (JoW HV.o).mono ?_;rintro e w1 ⟨rfl,rfl⟩)
   | (go_at_call 152;refine (VWY n hn2 _).mono ?_;rintro e w1 ⟨rfl,rfl⟩;rw [HP.o]))
  go_ret2;exact ⟨Qh8 rfl rfl,rfl⟩
set_option maxHeartbeats 3200000 in
theorem Zv3 {w:World} {p b:Nat} {l:List Bool} (hV:Vec w p b l) (B:Nat) (hB:Y1d B=true):
  Calls Tryz.prog 254 #[.pointer (some ⟨p,0,none⟩),.int .i64 B] w (ZQP w l B):=by
 have n1:((l.length:Int)==0)=false:=by have:=hV.n1;exact beq_eq_false_iff_ne.2 (by omega)
 have n2:=hV.n2;have hb:=Quq hB;have hb1:1<=B:=by omega
 have hb2:B<=1024:=by omega
 have d1:decide ((1024:Int)<(B:Int))=false:=by simp;omega
 have HP:Hid (XuW B=true):=⟨by rw [XYi] at hB;simp at hB;exact hB.1⟩;obtain ⟨i0,hi,hz0,hz1,hz2⟩:=info_parts QTm;have HV:=hid hV;clear hV hB hb;go_enter Tryz.func254,Tryz.ntmps254
 go_wp2_with (first
  | (go_at_call 182;refine (JoW HV.o).mono ?_;rintro e w1 ⟨rfl,rfl⟩)
  | (go_at_call 152;refine (VWY B (by omega) _).mono ?_;rintro e w1 ⟨rfl,rfl⟩;rw [HP.o])
  | (go_at_call 285;refine (Z27 HV.o).mono ?_;rintro e w1 ⟨q,r,rfl,hg1,hV1,hq1,hq2⟩))
 have HN0:=hid (JHa (B:=B) (T:=349) hg1 hV1 hq1 hq2);generalize w1.alloc (.cells #[.pointer (some ⟨q,0,none⟩),.slice none 0 0,.int .i64 B,.int .i64 0] 349)=W2 at *
 obtain ⟨X,hX⟩:∃ X,X=w1.heap.size:=⟨_,rfl⟩;rw [<-hX] at HN0 ⊢;clear hX;clear hg1 hV1 hq1 hq2
 go_loopw [7] (fun s7 wr=>∃ k t v,Hid (ZL0 w l B X q r (X+1) k k v wr)/\Hid (t=k*B)/\k<=t/\t<=1048576+1024/\Hid (∀ i,i<k->i*B<l.length)/\s7=.int .i64 (t:Nat)) (fun s7 _=>1048576+1025-(intOf s7).toNat)
 case atStart=>exact ⟨0,0,_,HN0,⟨by simp⟩,by omega,by omega,⟨fun i h=>by omega⟩,rfl⟩
 case round=>
  obtain ⟨k,t,v,HN,ht,hkt,htb,hno,rfl⟩:=hrel;by_cases hlt:t<l.length
  ·have HNo:Hid (∀ i,i<k+1->i*B<l.length):=⟨fun i h=>by
    rcases Nat.lt_or_ge i k with h1 | h1
    ·exact hno.o i h1
    ·rw [show i=k by omega,<-ht.o];exact hlt⟩
   have HT2:Hid (t+B=(k+1)*B):=⟨by rw [Nat.succ_mul,ht.o]⟩;go_upto_region 9 with (go_at_call 182;refine (JoW (HV.o.gr HN.o.gr)).mono ?_;rintro e w1 ⟨rfl,rfl⟩);have c1:=HN.o.c1;obtain ⟨c,hc⟩:∃ c,c=QnT l 0 (k*B:Nat):=⟨_,rfl⟩;have c3:=HN.o.c3;have fr:=HN.o.free 1;rw [<-hc] at c3
   have hca:VHU l B (k+1)=VHU l B k++[.int .i64 (c:Nat)]:=by
    rw [X5M,hc,V58 l (by rw [<-ht.o];omega)]
   have HCA:=hid hca;have HC:=hid hc;have HX:Hid (X<wr.heap.size):=⟨by have:=HN.o.base;omega⟩;clear hca hc;have KS:Hid (∀ W',Gr wr W'->W'.cell? ⟨X,1,none⟩=some v/\W'.cell? ⟨X,3,none⟩=some (.int .i64 (c:Nat))/\W'.frozen? ⟨X,1,none⟩=false):=⟨fun W' h=>⟨(h.cell HX.o 1).trans c1,(h.cell HX.o 3).trans c3,(h.frozen HX.o 1).trans fr⟩⟩;obtain ⟨S,hS⟩:∃ S:World->Prop,S=fun W'=>W'.cell? ⟨X,1,none⟩=some v/\W'.cell? ⟨X,3,none⟩=some (.int .i64 (c:Nat))/\W'.frozen? ⟨X,1,none⟩=false:=⟨_,rfl⟩;have x1:∀ p:ZJV S,p.w.cell? ⟨X,1,none⟩=some v:=fun p=>(ZJV.get hS p).1;have x3:∀ p:ZJV S,p.w.cell? ⟨X,3,none⟩=some (.int .i64 (c:Nat)):=fun p=>(ZJV.get hS p).2.1;have hS0:S wr.drew:=by rw [hS];exact KS.o _ (Gr.refl _).drew
   have HS:=hid hS;clear hS;have inst:Inhabited (ZJV S):=⟨⟨_,hS0⟩⟩;refine Vv2 S 13 [([0,1,2,3,4,5,6,7,8],9),([],10),([11,12],13)] [] (by kernel_rfl) (by kernel_rfl) hS0 ?_;refine XGW ?_;simp only [XZy,List.getElem?_cons_zero,List.getElem?_cons_succ]
   repeat (go_big_quiet_step (fail))
   refine wpQuiet_nil ?_;go_wp2;refine ⟨.inr (ZJV.of (by rw [HS.o];exact KS.o _ ((Gr.refl _).alloc _).drew)),?_⟩;refine XGW ?_;simp only [XZy,List.getElem?_cons_zero,List.getElem?_cons_succ];refine wpQuiet_nil ?_;go_wp2_with (at_builtin;refine wpList_append_lies _ rfl _ _ 48 rfl (X+1) 3 i0 _ 1 8 Tryz.underlying48 hi hz0 hz1 hz2 rfl (by omega) v k (VHU l B k) rfl ((HN.o.own.alloc _).drew) ⟨wr.heap.size,0,none⟩ 1 1 [.int .i64 (c:Nat)] rfl rfl (World.news_of_block (cs:=#[.int .i64 (c:Nat)]) (t:=3) (fr:=(0,0)) (heap_alloc_new wr _)) (by simp [Value.oneCell']) (by omega) (by unfold maxLen;omega) (by omega) (by have:=HX.o;simp;omega) (wr.heap.size+1) (by simp) ?_;intro g cp w1 hown1 hgrow hat hlt1)
   go_frame
   have hg0:Gr wr (wr.alloc (.cells #[.int .i64 (c:Nat)] 3)).drew:=((Gr.refl _).alloc _).drew
   have hK1:w1.cell? ⟨X,1,none⟩=some v/\w1.cell? ⟨X,3,none⟩=some (.int .i64 (c:Nat))/\w1.frozen? ⟨X,1,none⟩=false:=by
    have hz:=KS.o _ hg0
    exact ⟨(hgrow.cell_far ⟨X,1,none⟩ (by have:=HX.o;simp;omega) (Ne.symm HN.o.far)).trans hz.1,(hgrow.cell_far ⟨X,3,none⟩ (by have:=HX.o;simp;omega) (Ne.symm HN.o.far)).trans hz.2.1,
     (hgrow.frozen_far ⟨X,1,none⟩ (by have:=HX.o;simp;omega) (Ne.symm HN.o.far)).trans hz.2.2⟩
   refine ⟨.inr (ZJV.of (by rw [HS.o];exact hK1)),?_⟩;have HM:=hid ((HN.o.grow hg0).append (by rw [HCA.o];exact hown1) hgrow);have k1:=hK1.1;have k3:=hK1.2.2;clear hg0 hown1 hgrow hat hlt1 hK1;refine XGW ?_;simp only [XZy,List.getElem?_cons_zero,List.getElem?_cons_succ]
   repeat (go_big_quiet_step (fail))
   refine wpQuiet_nil ?_;go_wp2;refine ⟨.inl trivial,?_⟩;refine Z9U ?_;refine wpQuiet_nil ?_;refine NoPanic.normal ?_;generalize w1.setCell ⟨X,1,none⟩ (.slice (some ⟨g,0,none⟩) (k+1) cp)=W3 at HM ⊢;generalize (Value.slice (some ⟨g,0,none⟩) (k+1) cp)=v3 at HM ⊢;clear x1 x3 hS0 HS inst k1 k3 KS c1 c3 fr HX;clear S;obtain ⟨tb,htb2⟩:∃ tb,tb=t+B:=⟨_,rfl⟩;obtain ⟨d,hd⟩:∃ d,d=QnT l (t:Int) (tb:Int):=⟨_,rfl⟩;obtain ⟨e,he⟩:∃ e,e=QnT l 0 ((k+1)*B:Nat):=⟨_,rfl⟩
   have hcd:(c:Int)+(d:Int)=(e:Int):=by
    have:=V9n l (a:=0) (b:=(t:Int)) (c:=(tb:Int)) (by omega) (by omega);rw [hd,he,HC.o,<-ht.o,<-HT2.o,<-htb2];exact this
   have hel:e<=l.length:=by rw [he];exact QMh _ _
   have hw1:IntKind.i64.wrap ((t:Int)+(B:Int))=(tb:Int):=by rw [htb2,IntWalk.i64_in _ (by omega)];omega
   have hw2:IntKind.i64.wrap ((c:Int)+(d:Int))=(e:Int):=by rw [hcd,IntWalk.i64_in _ (by omega)]
   have HD:=hid hd;have HE:=hid he;have HTB:=hid htb2;have k3:W3.cell? ⟨X,3,none⟩=some (.int .i64 (c:Nat)):=by rw [HM.o.c3,HC.o]
   have fr:W3.frozen? ⟨X,3,none⟩=false:=HM.o.free 3;have HX:Hid (X<W3.heap.size):=⟨by have:=HM.o.base;omega⟩;clear hcd hd he htb2;go_upto_region 10 with (fail);obtain ⟨S,hS⟩:∃ S:World->Prop,S=fun W'=>W'.cell? ⟨X,3,none⟩=some (.int .i64 (c:Nat)):=⟨_,rfl⟩;have x3:∀ p:ZJV S,p.w.cell? ⟨X,3,none⟩=some (.int .i64 (c:Nat)):=fun p=>ZJV.get hS p;have hS0:S W3.drew:=by rw [hS];exact k3
   have HS:=hid hS;clear hS;have inst:Inhabited (ZJV S):=⟨⟨_,hS0⟩⟩;refine Vv2 S 13 [([0,1,2,3,4,5,6,7,8],9),([10,11,12],13)] [] (by kernel_rfl) (by kernel_rfl) hS0 ?_;refine XGW ?_;simp only [XZy,List.getElem?_cons_zero,List.getElem?_cons_succ]
   repeat (go_big_quiet_step (fail))
   refine wpQuiet_nil ?_;go_wp2_with (go_at_call 286;refine (V7Z (HV.o.gr (HM.o.gr.drew)) (t:Int) (tb:Int) (by omega)).mono ?_;rintro e' W4 ⟨rfl,hg4⟩;rw [<-HD.o]);have hg5:Gr W3 W4:=(Gr.refl W3).drew.trans hg4;have q3:=(hg5.cell HX.o 3).trans k3;have qf:=(hg5.frozen HX.o 3).trans fr;have HM4:=hid ((HM.o.grow hg5).count (m':=k+1) (z:=(e:Nat)) (by rw [HE.o]));clear hg4 hg5;refine ⟨.inr (ZJV.of (by rw [HS.o];exact q3)),?_⟩;refine XGW ?_;simp only [XZy,List.getElem?_cons_zero,List.getElem?_cons_succ]
   repeat (go_big_quiet_step (fail))
   refine wpQuiet_nil ?_;go_wp2;refine ⟨.inl trivial,?_⟩;refine Z9U ?_;refine wpQuiet_nil ?_;refine NoPanic.normal ?_;generalize W4.setCell ⟨X,3,none⟩ (.int .i64 (e:Nat))=W5 at HM4 ⊢;clear x3 hS0 HS inst q3 qf k3 fr hw1 hw2;clear S;go_wp2;go_roundw
   case rel=>exact ⟨k+1,t+B,v3,HM4,HT2,by omega,by omega,HNo,by go_num⟩
   case measure=>simp [intOf];omega
  ·have E:=hid (QnL hb1 (show l.length<=k*B by rw [<-ht.o];omega) hno.o);have HF:=hid (HN.o.done hb1 hb2 E.o.symm (by rw [<-ht.o];omega));go_wp2_with (go_at_call 182;refine (JoW (HV.o.gr HN.o.gr)).mono ?_;rintro e w1 ⟨rfl,rfl⟩);go_ret2;obtain ⟨a,hI,ha⟩:=HF.o;exact ⟨X,q,r,a,Qh8 rfl rfl,HN.o.gr,hI,by have:=HN.o.ge;have:=HN.o.ltp;omega,HN.o.ge.1,HN.o.ge.2,ha⟩
end
end
section
section
open Go.RowKit Word
end
end
end
end Go.Proofs.YtmjoodkiiekjcaaGreatDoor
