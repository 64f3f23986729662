/- Part 11 of what HeapNobody leans on: my own lemmas, merged by shake.py. -/
import Derived.Test.YtmjoodkiiekjcaaGreatDoorHeapNobodyJ
namespace Go.Proofs.YtmjoodkiiekjcaaGreatDoor
set_option maxRecDepth 100000
section
section
open Go.RowKit Go.Shelf Word
attribute [local go_sem] Oper.semAt_some
structure VNZ (w wx:World) (S:Nat->Prop) (q m p1 b1 p2 b2:Nat) (v:Vm) (rs:List Int) (c:Cf) (why:Int):Prop where
 t:XF4 S w wx
 vm:QXZ wx (ZOk S w) q v
 rs:(why=0/\∃ L,Ext wx m p1 b1 p2 b2 v.n L/\Zx6 v rs v.n L)\/(why=25/\¬ Xd6 v rs v.n)
 bx:Rec wx w.heap.size 116 [.int .i64 c.fr,.int .i64 c.tp,.int .i64 c.to,.int .i64 c.lm,.int .i64 c.bk,.int .i64 c.st,.int .i64 c.ah]
 r6:Rec wx (w.heap.size+1) 100 [.pointer none]
 r7:Rec wx (w.heap.size+2) 29 [.int .i64 0]
 lm:w.heap.size+3<=m
 l1:w.heap.size+3<=p1
 l2:w.heap.size+3<=b1
 l3:w.heap.size+3<=p2
 l4:w.heap.size+3<=b2
section
variable {w:World} {S:Nat->Prop} {q r g:Nat} {v:Vm} {rs:List Int} {c:Cf}
set_option maxHeartbeats 3200000 in
theorem YeD (hV:QXZ w S q v) (hn1:1<=v.n) (hR:V5d w r g rs) (hT:VRW w) (htS:¬ S 1) (hst:1<=c.st/\c.st<=4096):
  Calls Tryz.prog 193 #[.pointer (some ⟨q,0,none⟩),.pointer (some ⟨r,0,none⟩),cfV c] w (Zt3 w S q v rs c.fr c.tp):=by
 have HV:=hid hV.cut;have HR:=hid hR;have HT:=hid hT;have HTS:=hid htS;have htl:=hT.lt;have hn2:=hV.ok.n2;have hne:rs.length≠0:=fun e=>hR.ne (List.eq_nil_of_length_eq_zero e);have hle:=hR.le;have HX:=hid (fun W=>XMw v.n hn1 (by omega) W);have HST:=hid hst;obtain ⟨n,hne0⟩:∃ n,n=rs.length:=⟨_,rfl⟩;have HN:=hid hne0;rw [<-hne0] at hne hle;have g1:Gr w (((w.alloc (.cells #[.int .i64 c.fr,.int .i64 c.tp,.int .i64 c.to,.int .i64 c.lm,.int .i64 c.bk,.int .i64 c.st,.int .i64 c.ah] 116)).alloc (.cells #[.pointer none] 100)).alloc (.cells #[.int .i64 0] 29)):=(((Gr.refl w).alloc _).alloc _).alloc _;have HG1:=hid g1;clear hV hR hT htS hst hne0 g1;refine (callsIn_wide (n:=5)).1 ?_;refine callsIn_of_wp_marks Tryz.func193 rfl trivial ?_ rfl;simp only [Tryz.ntmps193,List.size_toArray,List.length_cons,List.length_nil,Nat.reduceAdd,Nat.reduceSub,Array.replicate_succ,Array.replicate_zero,List.push_toArray,List.append_toArray,List.nil_append,List.cons_append];unfold cfV;gi_upto_region 1 with (fail);obtain ⟨W0,hW0⟩:∃ W0,W0=(((w.alloc (.cells #[.int .i64 c.fr,.int .i64 c.tp,.int .i64 c.to,.int .i64 c.lm,.int .i64 c.bk,.int .i64 c.st,.int .i64 c.ah] 116)).alloc (.cells #[.pointer none] 100)).alloc (.cells #[.int .i64 0] 29)):=⟨_,rfl⟩;have hsz0:W0.heap.size=w.heap.size+3:=by rw [hW0];simp only [World.size_alloc]
 have hg0:Gr w W0:=by rw [hW0];exact HG1.o
 have rb:Rec W0 w.heap.size 116 [.int .i64 c.fr,.int .i64 c.tp,.int .i64 c.to,.int .i64 c.lm,.int .i64 c.bk,.int .i64 c.st,.int .i64 c.ah]:=by rw [hW0];exact (Rec.new w _ [.int .i64 c.fr,.int .i64 c.tp,.int .i64 c.to,.int .i64 c.lm,.int .i64 c.bk,.int .i64 c.st,.int .i64 c.ah]).gr (((Gr.refl _).alloc _).alloc _)
 have r6:Rec W0 (w.heap.size+1) 100 [.pointer none]:=by rw [hW0];exact (VOf w _ 100 [.pointer none]).gr ((Gr.refl _).alloc _)
 have r7:Rec W0 (w.heap.size+2) 29 [.int .i64 0]:=by
  rw [hW0];have:=VOf (w.alloc (.cells #[.int .i64 c.fr,.int .i64 c.tp,.int .i64 c.to,.int .i64 c.lm,.int .i64 c.bk,.int .i64 c.st,.int .i64 c.ah] 116)) (.cells #[.pointer none] 100) 29 [.int .i64 0];rw [World.size_alloc] at this;exact this
 rw [<-hW0];clear hW0 HG1;have HG0:=hid hg0;have HRB:=hid rb;have HR6:=hid r6;have HR7:=hid r7;have HWD:=hid (fun (W:World) (g:Gr w W)=>Xwn (HV.o.gr g));clear rb r6 r7 hg0
 gi_upto_region 2 with (first
  | (refine ⟨trivial,?_⟩;gi_at_call 52;refine (callsIn_wide.2 (HWD.o _ HG0.o)).mono ?_;rintro e w2 ⟨rfl,rfl⟩)
  | (refine ⟨trivial,?_⟩;gi_at_call 51;refine (callsIn_wide.2 (HX.o _)).mono ?_;rintro e w3 ⟨m,p1,b1,p2,b2,rfl,hg3,he3,hb0,hb1,hb2,hb3,hb4⟩;have HG3:=hid hg3;have HG03:=hid (HG0.o.trans hg3);have HE3:=hid he3;have HB:=hid (And.intro hb0 (And.intro hb1 (And.intro hb2 (And.intro hb3 hb4))));clear hg3 he3 hb0 hb1 hb2 hb3 hb4))
 gi_cut [10,11] from 14 (fun s10 s11 wx=>∃ (b11:Nat) (why:Int),s10=.pointer (some ⟨b11,0,none⟩)/\s11=.int .i64 why/\Hid (VNZ w wx S q m p1 b1 p2 b2 v rs c why))
 case first=>
  have hBB:=HB.o;obtain ⟨hb0,hb1,hb2,hb3,hb4⟩:=hBB;rw [hsz0] at hb0 hb1 hb2 hb3 hb4;have hml:=HE3.o.hm;have hp1l:=HE3.o.v1.hp;have hb1l:=HE3.o.v1.hb;have hp2l:=HE3.o.v2.hp;have hb2l:=HE3.o.v2.hb
  have hmi:∀ i,YBz m b1 b2 i->w.heap.size+3<=i/\i<w3.heap.size:=fun i hi=>by
   rcases hi with rfl | rfl | rfl
   ·exact ⟨hb0,hml⟩
   ·exact ⟨hb2,hb1l⟩
   ·exact ⟨hb4,hb2l⟩
  have HMI:=hid hmi;have HALL:=hid (fun (W:World) (g:Gr w3 W)=>ZbJ (HR.o.gr ((HG03.o).trans g)));rw [<-HN.o] at HALL
  have HRUN:Hid (∀ (W:World) (g1 cp:Nat),Gr w3 W->w3.heap.size<=g1->W.ownsRow 0 3 1 (.slice (some ⟨g1,0,none⟩) n cp) n (zs rs)->Calls Tryz.prog 53 #[.iface 87 (.pointer (some ⟨q,0,none⟩)),.slice (some ⟨g1,0,none⟩) n cp,.pointer (some ⟨m,0,none⟩),.int .i64 c.st] W fun e w'=>
    ∃ (a1 a2 a3 a4 why:Int),e=.returned (.tuple #[.agg #[.int .i64 a1,.int .i64 a2,.int .i64 a3,.int .i64 a4],.int .i64 why])/\XF4 (fun i=>YBz m b1 b2 i\/ZOk S w i) W w'/\QXZ w' (ZOk S w) q v/\((why=0/\∃ L,Ext w' m p1 b1 p2 b2 v.n L/\Zx6 v rs v.n L)\/(why=25/\¬ Xd6 v rs v.n))):=⟨fun W g1 cp hg hg1 ho=>by
   rw [HN.o] at ho ⊢;have hgw:=HG03.o.trans hg;refine (XKD (HV.o.gr hgw) (HE3.o.gr hg) (hgw.tab HT.o.lt HT.o) (fun i hi=>?_) (by unfold maxLen;have:=HN.o;omega) (fun i hi h=>by have:=(hmi i h).1;have:=hi.2;omega) (fun h=>by have:=h.2;omega) (fun h=>by have:=h.2;omega) (fun h=>HTS.o h.1) (fun h=>by have:=(hmi _ h).1;omega) (c.st:Int)).mono ?_
   ·exact ⟨g1,0,rfl,(Vvr ho rfl).2,fun h=>by have:=(hmi _ h).2;omega,by rw [Nat.zero_add];exact ZBn ho (JbU hi)⟩
   ·rintro e w' (⟨h,-⟩ | ⟨-,-,ht,hv,(⟨L,r',vi,rfl,he,hm,-⟩ | ⟨rfl,-,hs⟩)⟩)
    ·have:=HST.o;omega
    ·exact ⟨_,_,r',vi,0,rfl,ht,hv,.inl ⟨rfl,L,he,hm⟩⟩
    ·exact ⟨0,0,0,0,25,rfl,ht,hv,.inr ⟨rfl,hs⟩⟩⟩
  have FIN:Hid (∀ (W1 W2 W3:World) (b11:Nat) (why:Int),Gr w3 W1->XF4 (fun i=>YBz m b1 b2 i\/ZOk S w i) W1 W2->QXZ W2 (ZOk S w) q v->((why=0/\∃ L,Ext W2 m p1 b1 p2 b2 v.n L/\Zx6 v rs v.n L)\/(why=25/\¬ Xd6 v rs v.n))->XF4 (fun i=>i=b11) W2 W3->w3.heap.size<=b11 →
    VNZ w W3 S q m p1 b1 p2 b2 v rs c why):=⟨fun W1 W2 W3 b11 why hg ht hv hres ht3 hb=>by
   have hz3:=HG03.o.size;have hz13:=HG3.o.size;have hgw:=HG03.o.trans hg
   have hno:∀ i,i<w.heap.size+3->w.heap.size<=i->¬ (YBz m b1 b2 i\/ZOk S w i):=fun i h1 h2 h=>by
    rcases h with h | h
    ·have:=(hmi i h).1;omega
    ·have:=h.2;omega
   refine ⟨((hgw.touch _).trans (ht.mono (T:=fun i=>YBz m b1 b2 i\/S i) (fun i _ h=>h.imp id (fun h=>h.1)))).trans' (T:=fun i=>i=b11) ht3 (fun i hi h=>by omega) |>.mono (fun i hi h=>h.elim (fun h=>by have:=(hmi i h).1;omega) id),hv.touch ht3 (fun i hi _ h=>by have:=hi.2;omega),?_,?_,?_,?_,hb0,hb1,hb2,hb3,hb4⟩
   ·rcases hres with ⟨h,L,he,hm⟩ | h
    ·exact .inl ⟨h,L,he.touch ht3 (by omega) (by omega) (by omega) (by omega) (by omega),hm⟩
    ·exact .inr h
   ·exact ((HRB.o.gr (HG3.o.trans hg)).touch ht (hno _ (by omega) (by omega))).touch ht3 (by omega)
   ·exact ((HR6.o.gr (HG3.o.trans hg)).touch ht (hno _ (by omega) (by omega))).touch ht3 (by omega)
   ·exact ((HR7.o.gr (HG3.o.trans hg)).touch ht (hno _ (by omega) (by omega))).touch ht3 (by omega)⟩
  have rb3:=HRB.o.gr HG3.o;have x5:=rb3.cell (j:=5) rfl;have x5l:=rb3.lt;have KS:Hid (∀ W',Gr w3 W'->W'.cell? ⟨w.heap.size,5,none⟩=some (.int .i64 c.st)):=⟨fun W' h=>(h.cell x5l 5).trans x5⟩
  have KT:Hid (∀ W1 W',Gr w3 W1->XF4 (fun i=>YBz m b1 b2 i\/ZOk S w i) W1 W'->W'.cell? ⟨w.heap.size,5,none⟩=some (.int .i64 c.st)):=⟨fun W1 W' h t=>(t.cell (Nat.lt_of_lt_of_le x5l h.size) (fun h=>by
   rcases h with h | h
   ·have:=(HMI.o _ h).1;omega
   ·have:=h.2;omega) 5).trans ((h.cell x5l 5).trans x5)⟩
  obtain ⟨Sx,hSx⟩:∃ Sx:World->Prop,Sx=fun W'=>W'.cell? ⟨w.heap.size,5,none⟩=some (.int .i64 c.st):=⟨_,rfl⟩;have y1:∀ p':ZJV Sx,p'.w.cell? ⟨w.heap.size,5,none⟩=some (.int .i64 c.st):=fun p=>ZJV.get hSx p;have hS0:Sx w3.drew:=by rw [hSx];exact x5
  have HSX:=hid hSx;have inst:Inhabited (ZJV Sx):=⟨⟨_,hS0⟩⟩;clear hSx x5 rb3 hmi hb0 hb1 hb2 hb3 hb4 hml hp1l hb1l hp2l hb2l;refine Jav Sx (.two [0,1,2,4,5,6] 3 (.two [] 7 (.one [8,9,10] 11 (.one [] 12 (.fin [13]))) 11 (.one [] 7 (.one [8,9,10] 12 (.fin [13])))) 11 (.one [] 3 (.one [] 7 (.one [8,9,10] 12 (.fin [13]))))) JBz (by kernel_rfl) (by kernel_rfl) hS0 ?_;refine QtW ?_;simp only [XZy,List.getElem?_cons_zero,List.getElem?_cons_succ]
  repeat (go_big_quiet_step (fail))
  refine wpQuiet_nil ⟨?_,?_⟩
  ·gi_wp2_with (refine ⟨trivial,?_⟩;gi_at_call 54;refine (callsIn_wide.2 (HALL.o _ (Gr.refl w3).drew)).mono ?_;rintro e w4 ⟨g1,c1,rfl,hg4,hgl,ho4⟩;have HG4:=hid ((Gr.refl w3).drew.trans hg4);have HO4:=hid ho4;have HL4:=hid hgl;clear hg4 ho4 hgl);refine ⟨ZJV.of (by rw [HSX.o];exact KS.o _ HG4.o),?_⟩;refine QtW ?_;simp only [XZy,List.getElem?_cons_zero,List.getElem?_cons_succ];refine wpQuiet_nil ⟨?_,?_⟩
   ·gi_wp2_with (refine ⟨trivial,?_⟩;gi_at_call 53;refine (callsIn_wide.2 (HRUN.o _ g1 c1 HG4.o HL4.o HO4.o)).mono ?_;rintro e w5 ⟨a1,a2,a3,a4,why,rfl,ht5,hv5,hs5⟩;have HT5:=hid ht5;have HV5:=hid hv5;have HS5:=hid hs5;clear ht5 hv5 hs5);refine ⟨ZJV.of (by rw [HSX.o];exact KT.o _ _ HG4.o HT5.o),?_⟩;refine VyF ?_;simp only [XZy,List.getElem?_cons_zero,List.getElem?_cons_succ]
    repeat (go_big_quiet_step (fail))
    refine wpQuiet_nil ?_;have u5:=KT.o _ _ HG4.o HT5.o;have u5l:=ZQf u5;gi_wp2;refine ⟨ZJV.of (by rw [HSX.o];exact (((Gr.refl w5).alloc _).cell u5l 5).trans u5),?_⟩;refine VyF ?_;simp only [XZy,List.getElem?_cons_zero,List.getElem?_cons_succ];refine wpQuiet_nil ?_;gi_wp2;refine ⟨ZJV.of (by rw [HSX.o];exact (((Gr.refl w5).alloc _).cell u5l 5).trans u5),?_⟩;refine YAC ?_;simp only [XZy,List.getElem?_cons_zero,List.getElem?_cons_succ]
    repeat (go_big_quiet_step (fail))
    refine wpQuiet_nil ?_;refine NoPanic.normal ?_;gi_wp2
    gi_meet
    exact ⟨_,why,rfl,rfl,⟨FIN.o _ _ _ _ why HG4.o HT5.o HV5.o HS5.o (((Gr.refl w5).alloc _).touch _) (Nat.le_trans HG4.o.size HT5.o.size)⟩⟩
   ·have x4:=KS.o _ HG4.o;have x4l:=ZQf x4;gi_wp2;refine ⟨ZJV.of (by rw [HSX.o];exact (((Gr.refl w4).alloc _).cell x4l 5).trans x4),?_⟩;refine VyF ?_;simp only [XZy,List.getElem?_cons_zero,List.getElem?_cons_succ];refine wpQuiet_nil ?_;have HRA:=hid (Rec.new w4 105 [.int .i64 0,.int .i64 0,.int .i64 0,.int .i64 0]);have HGA:=hid (HG4.o.alloc (.cells #[.int .i64 0,.int .i64 0,.int .i64 0,.int .i64 0] 105))
    have HNB:Hid (¬ (YBz m b1 b2 w4.heap.size\/ZOk S w w4.heap.size)):=⟨fun h=>by
     have:=HG4.o.size;rcases h with h | h
     ·have:=(HMI.o _ h).2;omega
     ·have:=h.2;have:=(HG03.o).size;omega⟩
    have HNW:Hid (¬ w.heap.size=w4.heap.size):=⟨by have:=HG4.o.size;omega⟩;have HOA:=hid (Y9I HO4.o ((Gr.refl w4).alloc (.cells #[.int .i64 0,.int .i64 0,.int .i64 0,.int .i64 0] 105)));have HBA:Hid (w3.heap.size<=w4.heap.size):=⟨HG4.o.size⟩;obtain ⟨bA,hbA⟩:∃ bA,bA=w4.heap.size:=⟨_,rfl⟩;obtain ⟨WA,hWA⟩:∃ WA,WA=w4.alloc (.cells #[.int .i64 0,.int .i64 0,.int .i64 0,.int .i64 0] 105):=⟨_,rfl⟩;rw [show w4.alloc (.cells ([.int .i64 0,.int .i64 0,.int .i64 0,.int .i64 0]:List Value).toArray 105)=WA from hWA.symm] at HRA;rw [<-hWA] at HGA HOA ⊢;rw [<-hbA] at HRA HNB HNW HBA ⊢;clear hbA hWA x4 x4l;gi_wp2_with (refine ⟨trivial,?_⟩;gi_at_call 53;refine (callsIn_wide.2 (HRUN.o _ g1 c1 HGA.o HL4.o HOA.o)).mono ?_;rintro e w5 ⟨a1,a2,a3,a4,why,rfl,ht5,hv5,hs5⟩;have HT5:=hid ht5;have HV5:=hid hv5;have HS5:=hid hs5;have HR5:=hid (HRA.o.touch ht5 (HNB.o));have q0:=HR5.o.cell (j:=0) rfl;have q1:=HR5.o.cell (j:=1) rfl;have q2:=HR5.o.cell (j:=2) rfl;have q3:=HR5.o.cell (j:=3) rfl;have qf:=HR5.o.free;have ql:=HR5.o.lt;clear ht5 hv5 hs5);refine ⟨ZJV.of (by rw [HSX.o];exact KT.o _ _ HGA.o HT5.o),?_⟩;refine VyF ?_;simp only [XZy,List.getElem?_cons_zero,List.getElem?_cons_succ]
    repeat (go_big_quiet_step (fail))
    refine wpQuiet_nil ?_;gi_wp2;have t5:=YH8 w5 bA (.int .i64 a1) (.int .i64 a2) (.int .i64 a3) (.int .i64 a4);have KF:=(t5.cell (ZQf (KT.o _ _ HGA.o HT5.o)) HNW.o 5).trans (KT.o _ _ HGA.o HT5.o);refine ⟨ZJV.of (by rw [HSX.o];exact KF),?_⟩;refine YAC ?_;simp only [XZy,List.getElem?_cons_zero,List.getElem?_cons_succ]
    repeat (go_big_quiet_step (fail))
    refine wpQuiet_nil ?_;refine NoPanic.normal ?_;gi_wp2
    gi_meet
    exact ⟨_,why,rfl,rfl,⟨FIN.o _ _ _ _ why HGA.o HT5.o HV5.o HS5.o t5 HBA.o⟩⟩
  ·gi_wp2;have x3:=KS.o _ (Gr.refl w3);have x3l:=ZQf x3;refine ⟨ZJV.of (by rw [HSX.o];exact KS.o _ ((Gr.refl w3).alloc _).drew),?_⟩;refine VyF ?_;simp only [XZy,List.getElem?_cons_zero,List.getElem?_cons_succ];refine wpQuiet_nil ?_;have HRA:=hid ((Rec.new w3 105 [.int .i64 0,.int .i64 0,.int .i64 0,.int .i64 0]).gr (Gr.refl _).drew);have HGA:=hid ((Gr.refl w3).alloc (.cells #[.int .i64 0,.int .i64 0,.int .i64 0,.int .i64 0] 105)).drew
   have HNB:Hid (¬ (YBz m b1 b2 w3.heap.size\/ZOk S w w3.heap.size)):=⟨fun h=>by
    rcases h with h | h
    ·have:=(HMI.o _ h).2;omega
    ·have:=h.2;have:=(HG03.o).size;omega⟩
   have HNW:Hid (¬ w.heap.size=w3.heap.size):=⟨by omega⟩;have HBA:Hid (w3.heap.size<=w3.heap.size):=⟨Nat.le_refl _⟩;obtain ⟨WA,hWA⟩:∃ WA,WA=(w3.alloc (.cells #[.int .i64 0,.int .i64 0,.int .i64 0,.int .i64 0] 105)).drew:=⟨_,rfl⟩;rw [show (w3.alloc (.cells ([.int .i64 0,.int .i64 0,.int .i64 0,.int .i64 0]:List Value).toArray 105)).drew=WA from hWA.symm] at HRA;rw [<-hWA] at HGA ⊢;clear hWA;obtain ⟨bA,hbA⟩:∃ bA,bA=w3.heap.size:=⟨_,rfl⟩;rw [<-hbA] at HRA HNB HNW;rw [show w3.heap.size<=w3.heap.size↔w3.heap.size<=bA by rw [hbA]] at HBA;rw [show w3.heap.size=bA from hbA.symm];clear hbA x3 x3l;gi_wp2_with (refine ⟨trivial,?_⟩;gi_at_call 54;refine (callsIn_wide.2 (HALL.o _ HGA.o)).mono ?_;rintro e w4 ⟨g1,c1,rfl,hg4,hgl,ho4⟩;have HG4:=hid (HGA.o.trans hg4);have HRA4:=hid (HRA.o.gr hg4);have HO4:=hid ho4;have HL4:=hid (Nat.le_trans HGA.o.size hgl);clear hg4 ho4 hgl);refine ⟨ZJV.of (by rw [HSX.o];exact KS.o _ HG4.o),?_⟩;refine VyF ?_;simp only [XZy,List.getElem?_cons_zero,List.getElem?_cons_succ];refine wpQuiet_nil ?_;gi_wp2_with (refine ⟨trivial,?_⟩;gi_at_call 53;refine (callsIn_wide.2 (HRUN.o _ g1 c1 HG4.o HL4.o HO4.o)).mono ?_;rintro e w5 ⟨a1,a2,a3,a4,why,rfl,ht5,hv5,hs5⟩;have HT5:=hid ht5;have HV5:=hid hv5;have HS5:=hid hs5;have HR5:=hid (HRA4.o.touch ht5 (HNB.o));have q0:=HR5.o.cell (j:=0) rfl;have q1:=HR5.o.cell (j:=1) rfl;have q2:=HR5.o.cell (j:=2) rfl;have q3:=HR5.o.cell (j:=3) rfl;have qf:=HR5.o.free;have ql:=HR5.o.lt;clear ht5 hv5 hs5);refine ⟨ZJV.of (by rw [HSX.o];exact KT.o _ _ HG4.o HT5.o),?_⟩;refine VyF ?_;simp only [XZy,List.getElem?_cons_zero,List.getElem?_cons_succ]
   repeat (go_big_quiet_step (fail))
   refine wpQuiet_nil ?_;gi_wp2;have t5:=YH8 w5 bA (.int .i64 a1) (.int .i64 a2) (.int .i64 a3) (.int .i64 a4);have KF:=(t5.cell (ZQf (KT.o _ _ HG4.o HT5.o)) HNW.o 5).trans (KT.o _ _ HG4.o HT5.o);refine ⟨ZJV.of (by rw [HSX.o];exact KF),?_⟩;refine YAC ?_;simp only [XZy,List.getElem?_cons_zero,List.getElem?_cons_succ]
   repeat (go_big_quiet_step (fail))
   refine wpQuiet_nil ?_;refine NoPanic.normal ?_;gi_wp2
   gi_meet
   exact ⟨_,why,rfl,rfl,⟨FIN.o _ _ _ _ why HG4.o HT5.o HV5.o HS5.o t5 HBA.o⟩⟩
 case rest=>
  obtain ⟨b11,why,rfl,rfl,HI⟩:=hcut;have hr6:=HI.o.r6;have hr7:=HI.o.r7;have hbx:=HI.o.bx;have hwz:=HI.o.t.size;have hr7l:=hr7.lt;rcases HI.o.rs with ⟨rfl,L,hex,hmk⟩ | ⟨rfl,hns⟩
  ·have HEX:=hid hex;have HMK:=hid hmk;clear hr6 hr7 hex hmk;gi_wp2_with (refine ⟨trivial,?_⟩;gi_at_call 142;refine (callsIn_wide.2 (JMu (some ⟨m,0,none⟩))).mono ?_;rintro e w1 ⟨rfl,rfl⟩);obtain ⟨W1,hW1⟩:∃ W1,W1=wc.alloc (.cells #[.pointer (some ⟨m,0,none⟩)] 100):=⟨_,rfl⟩;have hg1:Gr wc W1:=by rw [hW1];exact (Gr.refl wc).alloc _
   have hs1:W1.heap.size=wc.heap.size+1:=by rw [hW1,World.size_alloc]
   have k4:W1.cell? ⟨wc.heap.size,0,none⟩=some (.pointer (some ⟨m,0,none⟩)):=by
    rw [hW1];exact (Boxed.new wc 100 (.pointer (some ⟨m,0,none⟩))).cell
   rw [<-hW1];have hex:=HEX.o;have hml:=hex.hm;have hp1l:=hex.v1.hp;have hb1l:=hex.v1.hb;have hp2l:=hex.v2.hp;have hb2l:=hex.v2.hb;have HTC:Hid (VRW wc):=⟨HI.o.t.tab htl HTS.o HT.o⟩;have htl2:=HTC.o.lt;have hrl:=hbx.lt;have hgd:=hid hex.good;clear hW1 hex;have tI:∀ (j:Nat) A B,(XF4 (fun i=>W1.heap.size<=i) W1 A/\j<=L.length/\∀ i (h:i<L.length),i<j->c.fr<=L[i].1/\L[i].1+L[i].2<=c.tp)->XF4 (fun i=>W1.heap.size<=i/\i<W1.heap.size+2+4) A B->(XF4 (fun i=>W1.heap.size<=i) W1 B/\j<=L.length/\∀ i (h:i<L.length),i<j->c.fr<=L[i].1/\L[i].1+L[i].2<=c.tp):=fun j A B h t=>⟨h.1.trans (t.mono (fun i _ h=>h.1)),h.2⟩
   refine JYJ (K:=4) (s0:=0) rfl (by omega) (gf:=210) (lb:=#[.pointer (some ⟨wc.heap.size,0,none⟩)]) rfl trivial (enters_of Tryz.func210 (by kernel_rfl) rfl)
    (Yd3 _ wc.heap.size m p1 b1 p2 b2 v.n L _) (fun _=>rfl)
    (fun (j:Nat) A=>XF4 (fun i=>W1.heap.size<=i) W1 A/\j<=L.length/\∀ i (h:i<L.length),i<j->c.fr<=L[i].1/\L[i].1+L[i].2<=c.tp)
    (fun cd A=>cd=.ret/\XF4 (fun i=>(i=w.heap.size+1\/i=w.heap.size+2)\/W1.heap.size<=i) W1 A/\A.cell? ⟨w.heap.size+1,0,none⟩=some (.pointer none)/\A.cell? ⟨w.heap.size+2,0,none⟩=some (.int .i64 25)/\∃ o∈L,¬ (c.fr<=o.1/\o.1+o.2<=c.tp))
    tI
    (fun cd A B h t=>⟨h.1,h.2.1.trans (t.mono (fun i _ h=>.inr h.1)),(t.cell (ZQf h.2.2.1) (by show ¬ (W1.heap.size<=w.heap.size+1/\_);omega) 0).trans h.2.2.1,(t.cell (ZQf h.2.2.2.1) (by show ¬ (W1.heap.size<=w.heap.size+2/\_);omega) 0).trans h.2.2.2.1,h.2.2.2.2⟩)
    (fun j A h=>⟨(HEX.o.gr hg1).touch h.1 (by omega) (by omega) (by omega) (by omega) (by omega),(hg1.tab htl2 HTC.o).touch' h.1 (by omega),(h.1.cell (by omega) (by omega) 0).trans k4,h.2.1⟩)
    ⟨XF4.refl _ _,Nat.zero_le _,fun i _ h=>absurd h (Nat.not_lt_zero _)⟩ ?round ?done ?stop
   case round=>
    have HS1:=hid hs1;clear hs1;intro lp j x W3 hsz3 hI3 hgv;dsimp only [VYF];gi_wp2;refine ⟨Gr.refl _,fun W4 ht4 hI4=>?_⟩
    have hjl:j<L.length:=by
     rcases Nat.lt_or_ge j L.length with h | h
     ·exact h
     ·unfold YdH at hgv;rw [List.getElem?_eq_none h] at hgv;cases hgv
    obtain rfl:x=L[j]:=by unfold YdH at hgv;rw [List.getElem?_eq_getElem hjl] at hgv;exact (Option.some.inj hgv).symm
    have hrb4:=(hbx.gr hg1).touch hI4.1 (by have:=HS1.o;omega);have c0:=hrb4.cell (j:=0) rfl;have c1:=hrb4.cell (j:=1) rfl;have cl:=hrb4.lt;have hsb:=(hgd.o.sz _ (List.getElem_mem hjl)).2;have HMEM:=hid (List.getElem_mem hjl);obtain ⟨sa,hsa⟩:∃ s,s=L[j].1:=⟨_,rfl⟩;obtain ⟨sz,hsz⟩:∃ s,s=L[j].2:=⟨_,rfl⟩;have HSA:=hid (And.intro hsa hsz);rw [<-hsa,<-hsz] at hsb ⊢;have HI4:=hid hI4;have ha6:=(HI.o.r6.gr hg1).touch hI4.1 (by have:=HS1.o;omega);have ha7:=(HI.o.r7.gr hg1).touch hI4.1 (by have:=HS1.o;omega);have HJL:=hid hjl;by_cases hin:c.fr<=sa/\sa+sz<=c.tp
    ·have e0:decide ((sa:Int)<(c.fr:Int))=false:=decide_eq_false (by omega);have e1:decide ((c.tp:Int)<(sa:Int)+(sz:Int))=false:=decide_eq_false (by omega);have e2:decide (sa<c.fr)=false:=decide_eq_false (by omega);have HIN:=hid hin;clear hI3 hI4 hgv ht4 hsa hsz hin ha6 ha7;gi_wp2;refine ⟨XF4.refl _ _,j+1,rfl,HI4.o.1,HJL.o,fun i h hij=>?_⟩;rcases Nat.lt_or_ge i j with h' | h'
     ·exact HI4.o.2.2 i h h'
     ·obtain rfl:i=j:=by omega
      rw [<-HSA.o.1,<-HSA.o.2];exact HIN.o
    ·have HNI:Hid (∃ o∈L,¬ (c.fr<=o.1/\o.1+o.2<=c.tp)):=⟨L[j],HMEM.o,by rw [<-HSA.o.1,<-HSA.o.2];exact hin⟩;have HA6:=hid ha6;have HA7:=hid ha7;have z6:=ha6.cell (j:=0) rfl;have z7:=ha7.cell (j:=0) rfl;have zf6:=ha6.free 0;have zf7:=ha7.free 0;have zl7:=ha7.lt
     have FIN:Hid (∀ W5,W5=(W4.setCell ⟨w.heap.size+1,0,none⟩ (.pointer none)).setCell ⟨w.heap.size+1+1,0,none⟩ (.int .i64 25)->XF4 (fun k=>k<W1.heap.size\/W1.heap.size+(2+4)<=k) W4 W5/\(XF4 (fun i=>(i=w.heap.size+1\/i=w.heap.size+2)\/W1.heap.size<=i) W1 W5/\W5.cell? ⟨w.heap.size+1,0,none⟩=some (.pointer none)/\W5.cell? ⟨w.heap.size+2,0,none⟩=some (.int .i64 25)/\∃ o∈L,¬ (c.fr<=o.1/\o.1+o.2<=c.tp))):=⟨fun W5 hW5=>by
      have tg:XF4 (fun i=>i=w.heap.size+1\/i=w.heap.size+2) W4 W5:=by
       rw [hW5];exact ((XF4.refl _ W4).setCell (a:=⟨w.heap.size+1,0,none⟩) (fun _=>.inl rfl) _).setCell (a:=⟨w.heap.size+1+1,0,none⟩) (fun _=>.inr rfl) _
      have b6:Rec W5 (w.heap.size+1) 100 [.pointer none]:=by
       rw [hW5];exact (HA6.o.set 0 (.pointer none)).touch ((XF4.refl (fun i=>i=w.heap.size+1+1) _).setCell (a:=⟨w.heap.size+1+1,0,none⟩) (fun _=>rfl) _) (by omega)
      have b7:Rec W5 (w.heap.size+2) 29 [.int .i64 25]:=by
       rw [hW5];exact (HA7.o.touch ((XF4.refl (fun i=>i=w.heap.size+1) W4).setCell (a:=⟨w.heap.size+1,0,none⟩) (fun _=>rfl) (.pointer none)) (by omega)).set 0 (.int .i64 25)
      refine ⟨tg.mono (fun b _ h=>.inl (by have:=HS1.o;omega)),(HI4.o.1.mono (fun _ _ h=>.inr h)).trans (tg.mono (fun _ _ h=>.inl h)),b6.cell (j:=0) rfl,b7.cell (j:=0) rfl,HNI.o⟩⟩
     clear hI3 hI4 hgv ht4 ha6 ha7 hsa hsz;by_cases hlo:sa<c.fr
     ·have e0:decide ((sa:Int)<(c.fr:Int))=true:=decide_eq_true (by omega);have e2:decide (sa<c.fr)=true:=decide_eq_true hlo;clear hin hlo;gi_wp2;exact ⟨(FIN.o _ rfl).1,rfl,(FIN.o _ rfl).2⟩
     ·have e0:decide ((sa:Int)<(c.fr:Int))=false:=decide_eq_false (by omega);have e2:decide (sa<c.fr)=false:=decide_eq_false hlo;have e1:decide ((c.tp:Int)<(sa:Int)+(sz:Int))=true:=decide_eq_true (by omega);clear hin hlo;gi_wp2;exact ⟨(FIN.o _ rfl).1,rfl,(FIN.o _ rfl).2⟩
   case done=>
    rintro D j W3 hD rfl hI3 hK;have ra3:=(HI.o.r6.gr hg1).touch hI3.1 (by have:=HI.o.r6.lt;omega);have rz3:=(HI.o.r7.gr hg1).touch hI3.1 (by have:=HI.o.r7.lt;omega);have q0:=ra3.cell (j:=0) rfl;have q1:=ra3.free 0;have ql:=ra3.lt;have p0:=rz3.cell (j:=0) rfl;have p1':=rz3.free 0;have pl:=rz3.lt;have HK:=hid hK;have HD:=hid hD;have HI3:=hid hI3;have HRA:=hid ra3;have HRZ:=hid rz3;have hs3:=hI3.1.size;clear hK hD hI3 ra3 rz3;gi_wp2
    have tg:XF4 (fun i=>i=w.heap.size+1\/i=w.heap.size+2) W3 ((W3.setCell ⟨w.heap.size+1,0,none⟩ (.pointer (some ⟨m,0,none⟩))).setCell ⟨w.heap.size+1+1,0,none⟩ (.int .i64 0)):=
     ((XF4.refl _ W3).setCell (a:=⟨w.heap.size+1,0,none⟩) (fun _=>.inl rfl) _).setCell (a:=⟨w.heap.size+1+1,0,none⟩) (fun _=>.inr rfl) _
    have b6:Rec ((W3.setCell ⟨w.heap.size+1,0,none⟩ (.pointer (some ⟨m,0,none⟩))).setCell ⟨w.heap.size+1+1,0,none⟩ (.int .i64 0)) (w.heap.size+1) 100 [.pointer (some ⟨m,0,none⟩)]:=
     (HRA.o.set 0 (.pointer (some ⟨m,0,none⟩))).touch ((XF4.refl (fun i=>i=w.heap.size+1+1) _).setCell (a:=⟨w.heap.size+1+1,0,none⟩) (fun _=>rfl) _) (by omega)
    have b7:Rec ((W3.setCell ⟨w.heap.size+1,0,none⟩ (.pointer (some ⟨m,0,none⟩))).setCell ⟨w.heap.size+1+1,0,none⟩ (.int .i64 0)) (w.heap.size+2) 29 [.int .i64 0]:=
     (HRZ.o.touch ((XF4.refl (fun i=>i=w.heap.size+1) W3).setCell (a:=⟨w.heap.size+1,0,none⟩) (fun _=>rfl) (.pointer (some ⟨m,0,none⟩))) (by omega)).set 0 (.int .i64 0)
    have hD:=HD.o;have hK':=(tg.block D (Array.getElem?_eq_some_iff.1 HK.o).1 (by omega)).trans HK.o;generalize ((W3.setCell ⟨w.heap.size+1,0,none⟩ (.pointer (some ⟨m,0,none⟩))).setCell ⟨w.heap.size+1+1,0,none⟩ (.int .i64 0))=W5 at *
    have k6:=b6.cell (j:=0) rfl;have k7:=b7.cell (j:=0) rfl;rw [show w.heap.size+2=w.heap.size+1+1 from rfl] at k7;refine ⟨by simp,.inl ⟨_,_,rfl,run_takeDeferred hK',?_⟩⟩;have h1':=cell_kept k6 (grownBy_putObj' _ D (.deferred none)) (fun r e=>by cases e;exact ⟨_,hK',rfl⟩);have h2':=cell_kept k7 (grownBy_putObj' _ D (.deferred none)) (fun r e=>by cases e;exact ⟨_,hK',rfl⟩);have tD:XF4 (fun i=>W1.heap.size<=i) W5 (W5.putObj D (.deferred none)):=Xau _ D _ (by omega);refine ⟨.tuple #[.pointer (some ⟨m,0,none⟩),.int .i64 0],?_,?_,?_,.inl ⟨L,m,p1,b1,p2,b2,⟨HMK.o,fun o ho=>?_⟩,rfl,?_,?_⟩⟩
    ·simp [results,Tryz.f193,go_sem,h1',h2']
    ·exact (((HI.o.t.trans (hg1.touch _)).trans' HI3.o.1 (fun i hi h=>by omega)).trans' tg (fun i hi h=>by omega)).trans' tD (fun i hi h=>by omega)
    ·exact (((HI.o.vm.gr hg1).touch HI3.o.1 (fun i hi _ h=>by have:=hi.2;omega)).touch tg (fun i hi _ h=>by have:=hi.2;omega)).touch tD (fun i hi _ h=>by have:=hi.2;omega)
    ·obtain ⟨i,hi,rfl⟩:=List.getElem_of_mem ho;have:=HI3.o.2.2 i hi hi;omega
    ·have hl:=HI.o;have l0:=hl.lm;have l1:=hl.l1;have l2:=hl.l2;have l3:=hl.l3;have l4:=hl.l4;exact ((((HEX.o.gr hg1).touch HI3.o.1 (by omega) (by omega) (by omega) (by omega) (by omega))).touch tg (by omega) (by omega) (by omega) (by omega) (by omega)).touch tD (by omega) (by omega) (by omega) (by omega) (by omega)
    ·have hl:=HI.o;have l0:=hl.lm;have l1:=hl.l1;have l2:=hl.l2;have l3:=hl.l3;have l4:=hl.l4;omega
   case stop=>
    rintro D cd W3 hD ⟨rfl,ht3,h1,h2,hno⟩ hK;have HNO:=hid hno;have HK:=hid hK;have HT3:=hid ht3;have hz3:=ht3.size;clear hno hK ht3;gi_wp2;refine ⟨by simp,.inl ⟨_,_,rfl,run_takeDeferred HK.o,?_⟩⟩;have h1':=cell_kept h1 (grownBy_putObj' _ D (.deferred none)) (fun r e=>by cases e;exact ⟨_,HK.o,rfl⟩);have h2':=cell_kept h2 (grownBy_putObj' _ D (.deferred none)) (fun r e=>by cases e;exact ⟨_,HK.o,rfl⟩);rw [show w.heap.size+2=w.heap.size+1+1 from rfl] at h2';have tD:XF4 (fun i=>W1.heap.size<=i) W3 (W3.putObj D (.deferred none)):=Xau _ D _ (by omega);refine ⟨.tuple #[.pointer none,.int .i64 25],?_,?_,?_,.inr ⟨fun L' h=>?_,rfl⟩⟩
    ·simp [results,Tryz.f193,go_sem,h1',h2']
    ·exact (((HI.o.t.trans (hg1.touch _)).trans' HT3.o (fun i hi h=>by omega))).trans' tD (fun i hi h=>by omega)
    ·exact ((HI.o.vm.gr hg1).touch HT3.o (fun i hi _ h=>by have:=hi.2;omega)).touch tD (fun i hi _ h=>by have:=hi.2;omega)
    ·have e:=h.1.unique HMK.o;subst e;obtain ⟨o,ho,hno⟩:=HNO.o;have:=h.2 o ho;exact hno (by omega)
  ·have q0:=hr6.cell (j:=0) rfl;have q1:=hr6.free 0;have ql:=hr6.lt;have p0:=hr7.cell (j:=0) rfl;have p1':=hr7.free 0;have pl:=hr7.lt;have HNS:=hid hns;have HR6:=hid hr6;have HR7:=hid hr7;clear hr6 hr7 hns hbx;gi_wp2
   have tg:XF4 (fun i=>i=w.heap.size+1\/i=w.heap.size+2) wc ((wc.setCell ⟨w.heap.size+1,0,none⟩ (.pointer none)).setCell ⟨w.heap.size+1+1,0,none⟩ (.int .i64 25)):=
    ((XF4.refl _ wc).setCell (a:=⟨w.heap.size+1,0,none⟩) (fun _=>.inl rfl) _).setCell (a:=⟨w.heap.size+1+1,0,none⟩) (fun _=>.inr rfl) _
   have b6:Rec ((wc.setCell ⟨w.heap.size+1,0,none⟩ (.pointer none)).setCell ⟨w.heap.size+1+1,0,none⟩ (.int .i64 25)) (w.heap.size+1) 100 [.pointer none]:=
    (HR6.o.set 0 (.pointer none)).touch ((XF4.refl (fun i=>i=w.heap.size+1+1) _).setCell (a:=⟨w.heap.size+1+1,0,none⟩) (fun _=>rfl) _) (by omega)
   have b7:Rec ((wc.setCell ⟨w.heap.size+1,0,none⟩ (.pointer none)).setCell ⟨w.heap.size+1+1,0,none⟩ (.int .i64 25)) (w.heap.size+2) 29 [.int .i64 25]:=
    (HR7.o.touch ((XF4.refl (fun i=>i=w.heap.size+1) wc).setCell (a:=⟨w.heap.size+1,0,none⟩) (fun _=>rfl) (.pointer none)) (by omega)).set 0 (.int .i64 25)
   generalize ((wc.setCell ⟨w.heap.size+1,0,none⟩ (.pointer none)).setCell ⟨w.heap.size+1+1,0,none⟩ (.int .i64 25))=W5 at *
   have k6:=b6.cell (j:=0) rfl;have k7:=b7.cell (j:=0) rfl;rw [show w.heap.size+2=w.heap.size+1+1 from rfl] at k7;refine ⟨.tuple #[.pointer none,.int .i64 25],?_,?_,?_,.inr ⟨fun L' h=>HNS.o h.1.sound,rfl⟩⟩
   ·simp [results,Tryz.f193,go_sem,k6,k7]
   ·exact HI.o.t.trans' tg (fun i hi h=>by omega)
   ·exact HI.o.vm.touch tg (fun i hi _ h=>by have:=hi.2;omega)
end
end
end
section
section
open Go.RowKit Go.Shelf Word
attribute [local go_sem] Oper.semAt_some
theorem Qkw {w:World} {m p1 b1 p2 b2 n:Nat} {L:List Ob} (hE:Ext w m p1 b1 p2 b2 n L) (hT:VRW w) {B base:Nat} (hB:Y1d B=true) (hb:base<2147483648):
  Calls Tryz.prog 194 #[.pointer (some ⟨m,0,none⟩),.int .i64 B,.int .i64 base] w fun e w'=>∃ p,e=.returned (.tuple #[.pointer (some ⟨p,0,none⟩),.int .i64 0])/\Gr w w'/\Pln w' w.heap.size p n B base L:=by
 have hbp:=Quq hB;refine (YGs hE hT (B:Int) (base:Int) (by omega)).mono ?_;have hbo:ZZx (base:Int)=true:=by unfold ZZx;rw [decide_eq_true (by omega),decide_eq_true (by omega)];rfl
 rintro e w' ⟨hg,(⟨h,-⟩ | ⟨-,p,B',base',e1,e2,rfl,hP⟩)⟩
 ·rw [hB,hbo] at h;cases h
 ·obtain rfl:B=B':=by omega
  obtain rfl:base=base':=by omega
  exact ⟨p,rfl,hg,hP⟩
def QOD (w:World) (S:Nat->Prop) (q r g:Nat) (v:Vm) (rs:List Int) (c:Cf) (e:Ending) (w':World):Prop:=
 XF4 (fun b=>b=g\/S b) w w' ∧
  (((∀ L,¬ Jx2 v rs c.fr c.tp L)/\e=.returned (.tuple #[.pointer none,.int .i64 25])/\QXZ w' S q v/\V5d w' r g rs) ∨
  ∃ L,Jx2 v rs c.fr c.tp L ∧
   ((c.lm-c.to<Qd4 L/\e=.returned (.tuple #[.pointer none,.int .i64 21])/\QXZ w' S q v/\V5d w' r g rs) ∨
   (Qd4 L<=c.lm-c.to/\∃ (y:Nat) (z:ZH1) (R S':Nat->Prop) (v':Vm) (j:Nat),e=.returned (.tuple #[.pointer (some ⟨y,0,none⟩),.int .i64 0])/\Cyc w' R y q z (V4X v c L)/\QXZ w' S' q v'/\(∀ b,S' b->S b\/w.heap.size<=b)/\(∀ b,R b->w.heap.size<=b/\¬ S' b) ∧
    Vdg (V4X v c L) v v' (c.fr/v.pl.pg) j/\c.tp<=(c.fr/v.pl.pg+j)*v.pl.pg/\(∀ i,i<j->(c.fr/v.pl.pg+i)*v.pl.pg<c.tp)/\V5d w' r g (rs.map (toV L c.to)))))
theorem ZHF:(Tryz.prog.info? 4).map (fun i=>(i.zero,i.size,i.bytes))=some (some (.bool false),1,1):=by kernel_rfl
structure OpJ (wa w:World) (D:Nat->Bool) (q p m nb:Nat) (c:Cf) (v55 v56 v57 v58 v59 v60 v61 v62 v63 v64 v65 v66 v67 v13:Value):Prop where
 e55:v55=.pointer (some ⟨q,0,none⟩)
 e56:v56=.agg #[.int .i64 c.fr,.int .i64 c.tp,.int .i64 c.to,.int .i64 c.lm,.int .i64 c.bk,.int .i64 c.st,.int .i64 c.ah]
 e57:v57=.pointer (some ⟨p,0,none⟩)
 e58:v58=.pointer (some ⟨m,0,none⟩)
 e59:v59=.pointer (some ⟨p,0,none⟩)
 e62:v62=.pointer (some ⟨p,0,none⟩)
 e60:D 5=true->v60=.int .i64 nb
 e61:D 6=true->∃ b,v61=.slice (some ⟨b,0,none⟩) nb nb/\w.ownsRow 0 4 1 v61 nb (List.replicate nb (.bool false))/\wa.heap.size<=b
 e63:D 8=true->v63=.int .i64 nb
 e64:D 9=true->∃ b,v64=.map (some b)/\YER Tryz.prog 3 w b 0 (fun _=>none)/\wa.heap.size<=b
 e65:D 10=true->∃ b,v65=.map (some b)/\YER Tryz.prog 3 w b 0 (fun _=>none)/\wa.heap.size<=b
 ne:D 9=true->D 10=true->v64≠v65
 e66:D 11=true->D 6=true/\D 8=true/\D 9=true/\D 10=true/\v66=.agg #[v55,.int .i64 c.fr,.int .i64 c.tp,.int .i64 c.to,.int .i64 c.lm,.int .i64 c.bk,.int .i64 c.st,.int .i64 c.ah,v57,v58,v61,v63,.int .i64 0,.int .i64 0,v64,v65]
 e67:D 12=true->D 11=true/\∃ b,v67=.pointer (some ⟨b,0,none⟩)/\wa.heap.size<=b/\Rec w b 219 [v55,.int .i64 c.fr,.int .i64 c.tp,.int .i64 c.to,.int .i64 c.lm,.int .i64 c.bk,.int .i64 c.st,.int .i64 c.ah,v57,v58,v61,v63,.int .i64 0,.int .i64 0,v64,v65]
 e13:D 13=true->∃ b,v13=.pointer (some ⟨b,0,none⟩)/\wa.heap.size<=b/\Rec w b 90 [if D 14 then v67 else .pointer none]
 d14:D 14=true->D 12=true/\D 13=true
 t:XF4 (fun i=>wa.heap.size<=i) wa w
theorem OpJ.gr {wa w w':World} {D:Nat->Bool} {q p m nb:Nat} {c:Cf} {v55 v56 v57 v58 v59 v60 v61 v62 v63 v64 v65 v66 v67 v13:Value} (h:OpJ wa w D q p m nb c v55 v56 v57 v58 v59 v60 v61 v62 v63 v64 v65 v66 v67 v13) (g:Gr w w'):OpJ wa w' D q p m nb c v55 v56 v57 v58 v59 v60 v61 v62 v63 v64 v65 v66 v67 v13:=
 ⟨h.e55,h.e56,h.e57,h.e58,h.e59,h.e62,h.e60,fun d=>by obtain ⟨b,h1,h2,h3⟩:=h.e61 d;exact ⟨b,h1,Y9I h2 g,h3⟩,h.e63,fun d=>by obtain ⟨b,h1,h2,h3⟩:=h.e64 d;exact ⟨b,h1,h2.gr g,h3⟩,fun d=>by obtain ⟨b,h1,h2,h3⟩:=h.e65 d;exact ⟨b,h1,h2.gr g,h3⟩,h.ne,h.e66,
  fun d=>by obtain ⟨h0,b,h1,h2,h3⟩:=h.e67 d;exact ⟨h0,b,h1,h2,h3.gr g⟩,fun d=>by obtain ⟨b,h1,h2,h3⟩:=h.e13 d;exact ⟨b,h1,h2,h3.gr g⟩,h.d14,h.t.trans (g.touch _)⟩
def OpI (wa:World) (q p m nb:Nat) (c:Cf) (a0:Act) (D:Nat->Bool) (a:Act) (w:World):Prop:=
 ∃ v55 v56 v57 v58 v59 v60 v61 v62 v63 v64 v65 v66 v67 v13:Value,a=(((((((((((((a0.put (some 55) v55).put (some 56) v56).put (some 57) v57).put (some 58) v58).put (some 59) v59).put (some 60) v60).put (some 61) v61).put (some 62) v62).put (some 63) v63).put (some 64) v64).put (some 65) v65).put (some 66) v66).put (some 67) v67).put (some 13) v13/\OpJ wa w D q p m nb c v55 v56 v57 v58 v59 v60 v61 v62 v63 v64 v65 v66 v67 v13
theorem Sl.on_next (s:Sl) {mm:Nat} (hm:mm<Qd4 s.L) (q:Nat):s.on (fun i=>decide (i<mm+1)) q=s.on (fun i=>decide (i<mm)) q+(if Vjz s.L mm/s.pg=q then 1 else 0):=by
 have h:=Sl.on_but (s:=s) (U:=fun i=>decide (i<mm+1)) (i:=mm) (q:=q) hm (by simp)
 have e:s.on (but (fun i=>decide (i<mm+1)) mm) q=s.on (fun i=>decide (i<mm)) q:=Sl.on_congr fun j _=>by
  unfold but;by_cases h1:j=mm
  ·subst h1;simp
  ·have e1:(j==mm)=false:=beq_eq_false_iff_ne.2 h1;rw [e1,Bool.not_false,Bool.and_true];exact decide_eq_decide.2 (by omega)
 rw [e] at h;exact h.symm
theorem Y0x {n:Nat} {L:List Ob} (hg:Q4l n L):L.length<=Qd4 L:=by
 have:∀ l:List Ob,(∀ o∈l,1<=o.2)->l.length<=Qd4 l:=fun l=>by
  induction l with
  | nil=>intro _;exact Nat.le_refl _
  | cons o r ih=>
   intro h;have h1:=ih (fun x hx=>h x (List.mem_cons_of_mem _ hx));have h2:=h o (List.mem_cons_self ..);simp only [List.length_cons,Qd4];omega
 exact this L (fun o ho=>(hg.sz o ho).1)
structure OpA (W5 A:World) (b64 b65:Nat) (v:Vm) (s:Sl) (j mm:Nat):Prop where
 t:XF4 (fun i=>(i=b64\/i=b65)\/W5.heap.size<=i) W5 A
 sh:∃ n f,YER Tryz.prog 3 A b65 n f/\n<=j/\∀ i (h:i<s.L.length),i<j->f (s.L[i].1:Nat)=some (X79 (v.rdH (s.L[i].1:Nat)))
 wd:∃ n f,YER Tryz.prog 3 A b64 n f/\n<=mm/\∀ q:Nat,(f (q:Nat)).getD (.int .i64 0)=.int .i64 (s.on (fun i=>decide (i<mm)) q:Nat)
theorem OpA.win {W5 A B:World} {b64 b65:Nat} {v:Vm} {s:Sl} {j mm K:Nat} (h:OpA W5 A b64 b65 v s j mm) (h4:b64<W5.heap.size) (h5:b65<W5.heap.size) (t:XF4 (fun k=>W5.heap.size<=k/\k<K) A B):OpA W5 B b64 b65 v s j mm:=by
 obtain ⟨n1,f1,a1,a2,a3⟩:=h.sh;obtain ⟨n2,f2,c1,c2,c3⟩:=h.wd;exact ⟨h.t.trans (t.mono (fun i _ h=>.inr h.1)),⟨n1,f1,a1.touch t (fun h=>by omega),a2,a3⟩,⟨n2,f2,c1.touch t (fun h=>by omega),c2,c3⟩⟩
theorem OpA.zero {W5:World} {b64 b65:Nat} {v:Vm} {s:Sl} (h4:YER Tryz.prog 3 W5 b64 0 (fun _=>none)) (h5:YER Tryz.prog 3 W5 b65 0 (fun _=>none)):OpA W5 W5 b64 b65 v s 0 0:=
 ⟨XF4.refl _ _,⟨0,_,h5,Nat.le_refl _,fun i _ h=>absurd h (Nat.not_lt_zero _)⟩,⟨0,_,h4,Nat.le_refl _,fun q=>by
  have:s.on (fun i=>decide (i<0)) q=0:=Sl.on_iff.2 (fun j _ h=>by simp at h)
  rw [this];rfl⟩⟩
theorem OpA.hdr {W5 A B:World} {b64 b65 n:Nat} {v:Vm} {s:Sl} {j mm:Nat} {f:Int->Option Value} (h:OpA W5 A b64 b65 v s j mm) (hj:j<s.L.length) (hne:b64≠b65) (hn:n<=j) (hf:∀ i (h:i<s.L.length),i<j->f (s.L[i].1:Nat)=some (X79 (v.rdH (s.L[i].1:Nat)))) (hg:Q4l s.n s.L)
  (hm:YER Tryz.prog 3 B b65 (n+1) (fun y=>if y=((s.L[j].1:Nat):Int) then some (X79 (v.rdH (s.L[j].1:Nat))) else f y)) (t:XF4 (fun i=>i=b65) A B):OpA W5 B b64 b65 v s (j+1) mm:=by
 obtain ⟨n2,f2,c1,c2,c3⟩:=h.wd;refine ⟨h.t.trans (t.mono (fun i _ h=>.inl (.inr h))),⟨n+1,_,hm,by omega,fun i hi hij=>?_⟩,⟨n2,f2,c1.touch t hne,c2,c3⟩⟩;by_cases e:i=j
 ·subst e;exact if_pos rfl
 ·have h1:=hg.at hi hj (by omega);have h2:=(hg.sz _ (List.getElem_mem hi)).1;rw [if_neg (by omega)];exact hf i hi (by omega)
theorem OpA.word {W5 A B:World} {b64 b65 n x:Nat} {v:Vm} {s:Sl} {j mm:Nat} {f:Int->Option Value} (h:OpA W5 A b64 b65 v s j mm) (hm:mm<Qd4 s.L) (hne:b64≠b65) (hn:n<=mm) (hf:∀ q:Nat,(f (q:Nat)).getD (.int .i64 0)=.int .i64 (s.on (fun i=>decide (i<mm)) q:Nat))
  (hx:x=s.on (fun i=>decide (i<mm)) (Vjz s.L mm/s.pg)+1) (hM:YER Tryz.prog 3 B b64 (n+1) (fun y=>if y=((Vjz s.L mm/s.pg:Nat):Int) then some (.int .i64 x) else f y)) (t:XF4 (fun i=>i=b64) A B):OpA W5 B b64 b65 v s j (mm+1):=by
 obtain ⟨n1,f1,a1,a2,a3⟩:=h.sh;refine ⟨h.t.trans (t.mono (fun i _ h=>.inl (.inl h))),⟨n1,f1,a1.touch t (fun e=>hne e.symm),a2,a3⟩,⟨n+1,_,hM,by omega,fun q=>?_⟩⟩;rw [s.on_next hm q];by_cases e:Vjz s.L mm/s.pg=q
 ·subst e;rw [if_pos rfl,if_pos rfl,hx];rfl
 ·rw [if_neg e,if_neg (by omega),hf q];rfl
theorem VLI {w2 w3 W5 W7:World} {q m p1 b1 p2 b2 p y b61 b64 b65 nb lo:Nat} {v:Vm} {c:Cf} {L:List Ob} {T:Nat->Prop}
  (hE2:Ext w2 m p1 b1 p2 b2 v.n L) (hg:Gr w2 w3) (hP:Pln w3 w2.heap.size p v.n c.bk c.to L) (hlo:lo<=w2.heap.size/\lo<=m/\lo<=p1/\lo<=b1/\lo<=p2/\lo<=b2)
  (t3:XF4 (fun i=>w3.heap.size<=i) w3 W5) (hge:w3.heap.size<=y/\w3.heap.size<=b61/\w3.heap.size<=b64/\w3.heap.size<=b65) (hnb:nb=nbl (Qd4 L) c.bk)
  (hY:Rec W5 y 219 [.pointer (some ⟨q,0,none⟩),.int .i64 c.fr,.int .i64 c.tp,.int .i64 c.to,.int .i64 c.lm,.int .i64 c.bk,.int .i64 c.st,.int .i64 c.ah,.pointer (some ⟨p,0,none⟩),.pointer (some ⟨m,0,none⟩),.slice (some ⟨b61,0,none⟩) nb nb,.int .i64 nb,.int .i64 0,.int .i64 0,.map (some b64),.map (some b65)])
  (hO:W5.ownsRow 0 4 1 (.slice (some ⟨b61,0,none⟩) nb nb) nb (List.replicate nb (.bool false))) (h4:YER Tryz.prog 3 W5 b64 0 (fun _=>none)) (h5:YER Tryz.prog 3 W5 b65 0 (fun _=>none)) (hne:b64≠b65)
  (hA:OpA W5 W7 b64 b65 v (V4X v c L) L.length (Qd4 L)) (hT:∀ i,i<W5.heap.size->i≠b64->i≠b65->¬ T i) (t7:XF4 T W5 W7):
  Cyc W7 (fun b=>lo<=b/\b<W5.heap.size) y q ⟨w2.heap.size,w3.heap.size,p,m,p1,b1,p2,b2,b65,b61,nb,b64⟩ (V4X v c L):=by
 obtain ⟨l1,l2,l3,l4,l5,l6⟩:=hlo;obtain ⟨g1,g2,g3,g4⟩:=hge;have s23:=hg.size;have s35:=t3.size;have s57:=t7.size;have hm:=hE2.hm;have hp1:=hE2.v1.hp;have hb1:=hE2.v1.hb;have hp2:=hE2.v2.hp;have hb2:=hE2.v2.hb;have hyl:=hY.lt;have h61l:=(Vvr hO rfl).2;have h64l:=h4.lt;have h65l:=h5.lt;have n1:b61≠y:=YnK hO hY (by decide) rfl rfl;have n2:=h4.ne (JME hY);have n3:=h5.ne (JME hY);obtain ⟨cur,hcur⟩:=QiW hO rfl;have n4:=h4.ne (q:=b61) ⟨cur,_,hcur⟩;have n5:=h5.ne (q:=b61) ⟨cur,_,hcur⟩;have g35:Gr w3 W5:=(t3.mono (T:=fun _=>False) (fun i hi h=>absurd hi (Nat.not_lt_of_le h))).gr;obtain ⟨nh,fh,a1,a2,a3⟩:=hA.sh;obtain ⟨nw,fw,d1,d2,d3⟩:=hA.wd;refine ⟨⟨hm,hp1,hb1,hp2,hb2,s23,by show w3.heap.size<=_;omega,g1,g2,g3,g4,n1.symm,n2.symm,n3.symm,n4.symm,n5.symm,hne,⟨by omega,hyl⟩,⟨by show lo<=b61;omega,h61l⟩,⟨by show lo<=b64;omega,h64l⟩,⟨by show lo<=b65;omega,h65l⟩,⟨l2,by show m<_;omega⟩,⟨l3,by show p1<_;omega⟩,⟨l4,by show b1<_;omega⟩,⟨l5,by show p2<_;omega⟩,⟨l6,by show b2<_;omega⟩,fun k h1 h2=>⟨by have:w2.heap.size<=k:=h1;omega,by have:k<w3.heap.size:=h2;omega⟩,fun k hk=>by omega⟩,?_,fun W tW=>hP.touch ((t3.mono (fun i _ h=>.inr h)).trans ((t7.mono (fun i hi h=>?_)).trans tW)) (fun k h1 h2 h=>by rcases h with h | h;(have:k<w2.heap.size:=h;omega);(have:w3.heap.size<=k:=h;omega)),?_,⟨nh,fh,a1,fun j hj=>a3 j hj hj⟩,⟨nw,fw,d1,?_,fun qq=>?_⟩,?_⟩
 ·have h:=hY.touch t7 (hT _ hyl n2.symm n3.symm)
  show Rec W7 y _ (Qa0 q c _ (V4X v c L).mv.length (V4X v c L).lf (V4X v c L).ft ((V4X v c L).mvd-(V4X v c L).ft))
  rw [JnF,Q20,ZPv];have hl:(V4X v c L).mv.length=nb:=by rw [hnb];exact List.length_replicate
  rw [hl,<-hnb];exact h
 ·right
  show w3.heap.size<=i
  refine Nat.le_of_not_lt fun h'=>?_;exact hT i (by omega) (by omega) (by omega) h
 ·exact (((hE2.gr hg).gr g35).touch t7 (hT _ (by omega) (by omega) (by omega)) (hT _ (by omega) (by omega) (by omega)) (hT _ (by omega) (by omega) (by omega)) (hT _ (by omega) (by omega) (by omega)) (hT _ (by omega) (by omega) (by omega)))
 ·have h1:cnt (fun i=>!(V4X v c L).is i) (Qd4 (V4X v c L).L)<=Qd4 (V4X v c L).L:=QMh _ _;have h2:nw<=Qd4 (V4X v c L).L:=d2;omega
 ·rw [d3 qq]
  have:(V4X v c L).on (fun i=>decide (i<Qd4 L)) qq=(V4X v c L).on (fun i=>!(V4X v c L).is i) qq:=Sl.on_congr fun i hi=>by
   have hi':i<Qd4 L:=hi;rw [JZl,decide_eq_true hi'];rfl
  rw [this]
 ·have h:=Zs2 hO t7 (fun g hg=>by cases hg;exact hT _ h61l n4.symm n5.symm);have hl:(V4X v c L).mv.length=nb:=by rw [hnb];exact List.length_replicate
  have hb:bls (V4X v c L).mv=List.replicate nb (.bool false):=by
   show (List.replicate (nbl (Qd4 L) c.bk) false).map Value.bool=_
   rw [List.map_replicate,hnb]
  rw [hl,hb];exact h
structure UmO (w8 wx:World) (S5:Nat->Prop) (q:Nat) (s:Sl) (v:Vm) (q0 j pg tp:Nat):Prop where
 t:XF4 S5 w8 wx
 vm:∃ Sj v',(∀ b,Sj b->plus S5 w8 b)/\QXZ wx Sj q v'/\Vdg s v v' q0 j
 q1:∀ i,i<j->(q0+i)*pg<tp
section
variable {w:World} {S:Nat->Prop} {q r g:Nat} {v:Vm} {rs:List Int} {c:Cf}
set_option maxHeartbeats 12800000 in
theorem VBz (hV:QXZ w S q v) (hR:V5d w r g rs) (hT:VRW w) (htS:¬ S 1) (hrS:¬ S r) (hgS:¬ S g) (hcf:VeB v.pl.pg v.n c) (htr:1≠g):
  Calls Tryz.prog 129 #[.pointer (some ⟨q,0,none⟩),.pointer (some ⟨r,0,none⟩),cfV c] w (QOD w S q r g v rs c):=by
 have HV:=hid hV.cut;have HR:=hid hR;have HT:=hid hT;have HNO:=hid (And.intro htS (And.intro hrS (And.intro hgS htr)));have htl:=hT.lt;have hrl:=hR.lt;have hn2:=hV.ok.n2;have hpg:=hV.ok.page;have HOK:=hid hV.ok;have HCF:=hid hcf;have hn1:1<=v.n:=by have:=hcf.fr;have:=hcf.tp;have:=hcf.tn;omega
 have hne:rs.length≠0:=fun e=>hR.ne (List.eq_nil_of_length_eq_zero e);have hle:=hR.le;have hcb:c.lm<=v.n/\c.to<=c.lm/\c.fr<=c.tp/\c.tp<=v.n:=⟨hcf.ln,hcf.lm,hcf.tp,hcf.tn⟩;have HLEN:=hid (fun (W:World) (gW:Gr w W)=>YeU (hR.gr gW));have HCK:=hid (fun (W:World) (gW:Gr w W)=>QzK (hV.gr gW) hcf);have HRC:=hid (fun (W:World) (gW:Gr w W)=>YeD (c:=c) (hV.cut.gr gW) hn1 (hR.gr gW) (gW.tab htl hT) (fun h=>htS h.1) hcf.st);unfold cfV at HCK HRC ⊢;obtain ⟨n,hnq⟩:∃ n,n=rs.length:=⟨_,rfl⟩;have HN:=hid hnq;rw [<-hnq] at hne hle HLEN;have d0:((n:Int)==0)=false:=by simp;omega
 have HG1:=hid (((Gr.refl w).alloc (.cells #[.pointer (some ⟨q,0,none⟩)] 87)).alloc (.cells #[.int .i64 c.fr,.int .i64 c.tp,.int .i64 c.to,.int .i64 c.lm,.int .i64 c.bk,.int .i64 c.st,.int .i64 c.ah] 116));have rb3:=(Rec.new w 87 [.pointer (some ⟨q,0,none⟩)]).gr ((Gr.refl _).alloc (.cells #[.int .i64 c.fr,.int .i64 c.tp,.int .i64 c.to,.int .i64 c.lm,.int .i64 c.bk,.int .i64 c.st,.int .i64 c.ah] 116));have rb5:=VOf w (.cells #[.pointer (some ⟨q,0,none⟩)] 87) 116 [.int .i64 c.fr,.int .i64 c.tp,.int .i64 c.to,.int .i64 c.lm,.int .i64 c.bk,.int .i64 c.st,.int .i64 c.ah];obtain ⟨W0,hW0⟩:∃ W0,W0=(w.alloc (.cells #[.pointer (some ⟨q,0,none⟩)] 87)).alloc (.cells #[.int .i64 c.fr,.int .i64 c.tp,.int .i64 c.to,.int .i64 c.lm,.int .i64 c.bk,.int .i64 c.st,.int .i64 c.ah] 116):=⟨_,rfl⟩;have hsz0:W0.heap.size=w.heap.size+2:=by rw [hW0];simp only [World.size_alloc]
 have HB3:Hid (Rec W0 w.heap.size 87 [.pointer (some ⟨q,0,none⟩)]):=⟨by rw [hW0];exact rb3⟩;have HB5:Hid (Rec W0 (w.heap.size+1) 116 [.int .i64 c.fr,.int .i64 c.tp,.int .i64 c.to,.int .i64 c.lm,.int .i64 c.bk,.int .i64 c.st,.int .i64 c.ah]):=⟨by rw [hW0];exact rb5⟩;have HG0:Hid (Gr w W0):=⟨by rw [hW0];exact HG1.o⟩;have HS0:=hid hsz0;clear hV hR hT htS hrS hgS htr hcf hnq rb3 rb5 HG1 hsz0;refine (callsIn_wide (n:=5)).1 ?_;refine callsIn_of_wp_marks Tryz.func129 rfl trivial ?_ rfl;simp only [Tryz.ntmps129,List.size_toArray,List.length_cons,List.length_nil,Nat.reduceAdd,Nat.reduceSub,Array.replicate_succ,Array.replicate_zero,List.push_toArray,List.append_toArray,List.nil_append,List.cons_append];gi_upto_region 1 with (fail);rw [<-hW0];clear hW0;have z3:=HB3.o.cell (j:=0) rfl;have z50:=HB5.o.cell (j:=0) rfl;have z51:=HB5.o.cell (j:=1) rfl;have z52:=HB5.o.cell (j:=2) rfl;have z53:=HB5.o.cell (j:=3) rfl;have z54:=HB5.o.cell (j:=4) rfl;have z55:=HB5.o.cell (j:=5) rfl;have z56:=HB5.o.cell (j:=6) rfl;have zl3:=HB3.o.lt;have zl5:=HB5.o.lt
 gi_upto_region 6 with (first
  | (refine ⟨trivial,?_⟩;gi_at_call 191;refine (callsIn_wide.2 (HLEN.o _ HG0.o)).mono ?_;rintro e w1 ⟨rfl,rfl⟩)
  | (refine ⟨trivial,?_⟩;gi_at_call 192;refine (callsIn_wide.2 (HCK.o _ HG0.o)).mono ?_;rintro e w1 ⟨rfl,hg1⟩;have HG01:=hid (HG0.o.trans hg1);have HB31:=hid (HB3.o.gr hg1);have HB51:=hid (HB5.o.gr hg1);clear hg1))
 clear z3 z50 z51 z52 z53 z54 z55 z56 zl3 zl5;have z3:=HB31.o.cell (j:=0) rfl;have z50:=HB51.o.cell (j:=0) rfl;have z51:=HB51.o.cell (j:=1) rfl;have z52:=HB51.o.cell (j:=2) rfl;have z53:=HB51.o.cell (j:=3) rfl;have z54:=HB51.o.cell (j:=4) rfl;have z55:=HB51.o.cell (j:=5) rfl;have z56:=HB51.o.cell (j:=6) rfl;have zl3:=HB31.o.lt;have zl5:=HB51.o.lt;have hz1:=HG01.o.size;gi_upto_region 7 with (refine ⟨trivial,?_⟩;gi_at_call 193;refine (callsIn_wide.2 (HRC.o _ HG01.o)).mono ?_;rintro e w2 ⟨ht2,hv2,(⟨L,m,p1,b1,p2,b2,hI,rfl,hE,hm1,hm2,hm3,hm4,hm5⟩ | ⟨hno,rfl⟩)⟩ <;> (have HT2:=hid ht2;have HV2:=hid hv2;clear ht2 hv2))
 ·clear z3 z50 z51 z52 z53 z54 z55 z56 zl3 zl5;have HI:=hid hI;have HX:=hid hE;have HMX:=hid (And.intro hm1 (And.intro hm2 (And.intro hm3 (And.intro hm4 hm5))));clear hI hE hm1 hm2 hm3 hm4 hm5;have HB32:=hid (HB31.o.touch HT2.o (fun h=>by have:=h.2;omega));have HB52:=hid (HB51.o.touch HT2.o (fun h=>by have:=h.2;omega));have HTB2:Hid (VRW w2):=⟨(HG01.o.tab htl HT.o).touch' HT2.o (fun h=>HNO.o.1 h.1)⟩;have HPN:=hid (Qkw HX.o HTB2.o HCF.o.bk (base:=c.to) (by omega));have z3:=HB32.o.cell (j:=0) rfl;have z52:=HB52.o.cell (j:=2) rfl;have z54:=HB52.o.cell (j:=4) rfl;have zl5:=HB52.o.lt;have hz2:=HT2.o.size;gi_upto_region 10 with (refine ⟨trivial,?_⟩;gi_at_call 194;refine (callsIn_wide.2 (HPN.o)).mono ?_;rintro e w3 ⟨p,rfl,hg3,hP⟩;have HG3:=hid hg3;have HPL:=hid hP;clear hg3 hP);clear z3 z52 z54 zl5;have HB33:=hid (HB32.o.gr HG3.o);have HB53:=hid (HB52.o.gr HG3.o);obtain ⟨hp1,hp2,hp3,f,c0,c1,hF⟩:=HPL.o;have HFW:=hid (fun (W:World) (gW:Gr w3 W)=>YY0 ((gW.cell hp1 0).trans c0));have HWS:=hid (fun (W:World) (gW:Gr w3 W)=>Q14 (hF.gr gW));obtain ⟨N,hN⟩:∃ N,N=Qd4 L:=⟨_,rfl⟩;have HSN:=hid hN;have hNb:N<=1048576:=by rw [hN];have:=XY5 HX.o.good;omega
  rw [<-hN] at HWS;have x3:=HB53.o.cell (j:=3) rfl;have x2:=HB53.o.cell (j:=2) rfl;have xl:=HB53.o.lt;have hpl:=hp1;clear hp1 hp2 hp3 c0 c1 hF hN;by_cases hbig:c.lm-c.to<N
  ·have d9:decide ((c.lm:Int)-(c.to:Int)<(N:Int))=true:=decide_eq_true (by omega);have HBIG:=hid hbig;clear hbig;obtain ⟨Sx,hSx⟩:∃ Sx:World->Prop,Sx=fun W'=>W'.cell? ⟨w.heap.size+1,3,none⟩=some (.int .i64 c.lm)/\W'.cell? ⟨w.heap.size+1,2,none⟩=some (.int .i64 c.to):=⟨_,rfl⟩;have y1:∀ p:ZJV Sx,p.w.cell? ⟨w.heap.size+1,3,none⟩=some (.int .i64 c.lm):=fun p=>by have h:=ZJV.get hSx p;exact h.1
   have y2:∀ p:ZJV Sx,p.w.cell? ⟨w.heap.size+1,2,none⟩=some (.int .i64 c.to):=fun p=>by have h:=ZJV.get hSx p;exact h.2
   have HS:Hid (∀ W',W'.cell? ⟨w.heap.size+1,3,none⟩=some (.int .i64 c.lm)/\W'.cell? ⟨w.heap.size+1,2,none⟩=some (.int .i64 c.to)->Sx W'):=⟨fun W' h=>by rw [hSx];exact h⟩;have hS0:=HS.o (w3.drew) (⟨x3,x2⟩);have inst:Inhabited (ZJV Sx):=⟨⟨_,hS0⟩⟩;clear hSx;refine V0Y Sx 9 [([0,3,4,5,6,7],1),([],2)] [8] JBz (by kernel_rfl) (by kernel_rfl) hS0 ?_;refine QgQ ?_
   try simp only [XZy,List.getElem?_cons_zero,List.getElem?_cons_succ]
   repeat (go_big_quiet_step (fail))
   refine wpQuiet_nil ?_;gi_wp2_with ((refine ⟨trivial,?_⟩;gi_at_call 195;refine (callsIn_wide.2 (HFW.o _ (Gr.refl w3).drew)).mono ?_;rintro e w4 ⟨rfl,rfl⟩));refine ⟨.inr (ZJV.of (HS.o _ (⟨x3,x2⟩))),?_⟩;refine QgQ ?_
   try simp only [XZy,List.getElem?_cons_zero,List.getElem?_cons_succ]
   repeat (go_big_quiet_step (fail))
   refine wpQuiet_nil ?_;gi_wp2_with ((refine ⟨trivial,?_⟩;gi_at_call 196;refine (callsIn_wide.2 (HWS.o _ (Gr.refl w3).drew)).mono ?_;rintro e w4 ⟨rfl,rfl⟩));refine ⟨.inr (ZJV.of (HS.o _ (⟨x3,x2⟩))),?_⟩;refine X0q ?_
   try simp only [XZy,List.getElem?_cons_zero,List.getElem?_cons_succ]
   repeat (go_big_quiet_step (fail))
   refine wpQuiet_nil ?_;refine NoPanic.normal ?_;clear y1 y2 hS0 inst;clear HS Sx;clear x3 x2 xl;gi_wp2;have hr3:=((HR.o.gr HG01.o).touch HT2.o (fun h=>HNO.o.2.1 h.1) (fun h=>HNO.o.2.2.1 h.1)).gr HG3.o;refine ⟨.tuple #[.pointer none,.int .i64 21],?_,?_,.inr ⟨L,HI.o,.inl ⟨by rw [<-HSN.o];exact HBIG.o,rfl,((HV2.o.gr HG3.o).gr (Gr.refl w3).drew).mono (fun b hb=>hb.1.1),hr3.gr (Gr.refl w3).drew⟩⟩⟩
   ·simp [results,Tryz.f129,go_sem]
   ·have a1:XF4 (fun b=>b=g\/S b) w w1:=HG01.o.touch _;have a2:=a1.trans (HT2.o.mono (fun i _ h=>.inr h.1));exact a2.trans ((HG3.o.trans (Gr.refl w3).drew).touch _)
  ·have d9:decide ((c.lm:Int)-(c.to:Int)<(N:Int))=false:=decide_eq_false (by omega);have HBIG:=hid hbig;clear hbig;obtain ⟨Sx,hSx⟩:∃ Sx:World->Prop,Sx=fun W'=>W'.cell? ⟨w.heap.size+1,3,none⟩=some (.int .i64 c.lm)/\W'.cell? ⟨w.heap.size+1,2,none⟩=some (.int .i64 c.to):=⟨_,rfl⟩;have y1:∀ p:ZJV Sx,p.w.cell? ⟨w.heap.size+1,3,none⟩=some (.int .i64 c.lm):=fun p=>by have h:=ZJV.get hSx p;exact h.1
   have y2:∀ p:ZJV Sx,p.w.cell? ⟨w.heap.size+1,2,none⟩=some (.int .i64 c.to):=fun p=>by have h:=ZJV.get hSx p;exact h.2
   have HS:Hid (∀ W',W'.cell? ⟨w.heap.size+1,3,none⟩=some (.int .i64 c.lm)/\W'.cell? ⟨w.heap.size+1,2,none⟩=some (.int .i64 c.to)->Sx W'):=⟨fun W' h=>by rw [hSx];exact h⟩;have hS0:=HS.o (w3.drew) (⟨x3,x2⟩);have inst:Inhabited (ZJV Sx):=⟨⟨_,hS0⟩⟩;clear hSx;refine V0Y Sx 9 [([0,3,4,5,6,7],1),([],2)] [8] JBz (by kernel_rfl) (by kernel_rfl) hS0 ?_;refine QgQ ?_
   try simp only [XZy,List.getElem?_cons_zero,List.getElem?_cons_succ]
   repeat (go_big_quiet_step (fail))
   refine wpQuiet_nil ?_;gi_wp2_with ((refine ⟨trivial,?_⟩;gi_at_call 195;refine (callsIn_wide.2 (HFW.o _ (Gr.refl w3).drew)).mono ?_;rintro e w4 ⟨rfl,rfl⟩));refine ⟨.inr (ZJV.of (HS.o _ (⟨x3,x2⟩))),?_⟩;refine QgQ ?_
   try simp only [XZy,List.getElem?_cons_zero,List.getElem?_cons_succ]
   repeat (go_big_quiet_step (fail))
   refine wpQuiet_nil ?_;gi_wp2_with ((refine ⟨trivial,?_⟩;gi_at_call 196;refine (callsIn_wide.2 (HWS.o _ (Gr.refl w3).drew)).mono ?_;rintro e w4 ⟨rfl,rfl⟩));refine ⟨.inr (ZJV.of (HS.o _ (⟨x3,x2⟩))),?_⟩;refine X0q ?_
   try simp only [XZy,List.getElem?_cons_zero,List.getElem?_cons_succ]
   repeat (go_big_quiet_step (fail))
   refine wpQuiet_nil ?_;refine NoPanic.normal ?_;clear y1 y2 hS0 inst;clear HS Sx;clear x3 x2 xl;gi_upto_region 12 with (fail);obtain ⟨nb,hnb⟩:∃ nb,nb=nbl (Qd4 L) c.bk:=⟨_,rfl⟩;have HNB:=hid hnb
   have hnbb:nb<=1048576:=by
    have:=HCF.o.bk;have h1:=Quq this;have h2:=J5D (n:=Qd4 L) (B:=c.bk) (by omega);have h3:=HSN.o;omega
   have HBKS:=hid (fun (W:World) (gW:Gr w3 W)=>Ynh (HPL.o.gr gW));rw [<-hnb] at HBKS;clear hnb;have HTW:Hid (∀ (W:World),XF4 (fun i=>w3.drew.heap.size<=i) w3.drew W->Gr w3 W):=⟨fun W t=>(Gr.refl w3).drew.trans (t.mono (T:=fun _=>False) (fun i hi h=>absurd hi (Nat.not_lt_of_le h))).gr⟩;have x3:=HB33.o.cell (j:=0) rfl;have x50:=HB53.o.cell (j:=0) rfl;have x51:=HB53.o.cell (j:=1) rfl;have x52:=HB53.o.cell (j:=2) rfl;have x53:=HB53.o.cell (j:=3) rfl;have x54:=HB53.o.cell (j:=4) rfl;have x55:=HB53.o.cell (j:=5) rfl;have x56:=HB53.o.cell (j:=6) rfl;obtain ⟨Sx,hSx⟩:∃ Sx:World->Prop,Sx=fun W'=>(W'.cell? ⟨w.heap.size,0,none⟩=some (.pointer (some ⟨q,0,none⟩))/\W'.cell? ⟨w.heap.size+1,0,none⟩=some (.int .i64 c.fr))/\(W'.cell? ⟨w.heap.size+1,1,none⟩=some (.int .i64 c.tp)/\W'.cell? ⟨w.heap.size+1,2,none⟩=some (.int .i64 c.to))/\(W'.cell? ⟨w.heap.size+1,3,none⟩=some (.int .i64 c.lm)/\W'.cell? ⟨w.heap.size+1,4,none⟩=some (.int .i64 c.bk))/\W'.cell? ⟨w.heap.size+1,5,none⟩=some (.int .i64 c.st)/\W'.cell? ⟨w.heap.size+1,6,none⟩=some (.int .i64 c.ah):=⟨_,rfl⟩;have y3:∀ p':ZJV Sx,p'.w.cell? ⟨w.heap.size,0,none⟩=some (.pointer (some ⟨q,0,none⟩)):=fun p=>(ZJV.get hSx p).1.1;have y50:∀ p':ZJV Sx,p'.w.cell? ⟨w.heap.size+1,0,none⟩=some (.int .i64 c.fr):=fun p=>(ZJV.get hSx p).1.2;have y51:∀ p':ZJV Sx,p'.w.cell? ⟨w.heap.size+1,1,none⟩=some (.int .i64 c.tp):=fun p=>(ZJV.get hSx p).2.1.1;have y52:∀ p':ZJV Sx,p'.w.cell? ⟨w.heap.size+1,2,none⟩=some (.int .i64 c.to):=fun p=>(ZJV.get hSx p).2.1.2;have y53:∀ p':ZJV Sx,p'.w.cell? ⟨w.heap.size+1,3,none⟩=some (.int .i64 c.lm):=fun p=>(ZJV.get hSx p).2.2.1.1;have y54:∀ p':ZJV Sx,p'.w.cell? ⟨w.heap.size+1,4,none⟩=some (.int .i64 c.bk):=fun p=>(ZJV.get hSx p).2.2.1.2;have y55:∀ p':ZJV Sx,p'.w.cell? ⟨w.heap.size+1,5,none⟩=some (.int .i64 c.st):=fun p=>(ZJV.get hSx p).2.2.2.1;have y56:∀ p':ZJV Sx,p'.w.cell? ⟨w.heap.size+1,6,none⟩=some (.int .i64 c.ah):=fun p=>(ZJV.get hSx p).2.2.2.2;have HSX:=hid hSx
   have HKS:Hid (∀ W,Gr w3 W->∃ p:ZJV Sx,W=p.w):=⟨fun W gW=>by
    have l3:=HB33.o.lt;have l5:=HB53.o.lt;refine ZJV.of ?_;rw [HSX.o]
    exact ⟨⟨(gW.cell l3 0).trans x3,(gW.cell l5 0).trans x50⟩,⟨(gW.cell l5 1).trans x51,(gW.cell l5 2).trans x52⟩,⟨(gW.cell l5 3).trans x53,(gW.cell l5 4).trans x54⟩,(gW.cell l5 5).trans x55,(gW.cell l5 6).trans x56⟩⟩
   have HKT:Hid (∀ W,XF4 (fun i=>w3.heap.size<=i) w3 W->∃ p:ZJV Sx,W=p.w):=⟨fun W tW=>HKS.o W ((tW.mono (T:=fun _=>False) (fun i hi h=>absurd hi (Nat.not_lt_of_le h))).gr)⟩;have HTX:Hid (∀ W,XF4 (fun i=>w3.heap.size<=i) w3 W->Gr w3 W):=⟨fun W tW=>(tW.mono (T:=fun _=>False) (fun i hi h=>absurd hi (Nat.not_lt_of_le h))).gr⟩;obtain ⟨i0,hi0,hz0,hz1,hz2'⟩:=info_parts ZHF;have HB8:Hid (i0.bytes*nb<=281474976710656):=⟨by rw [hz2'];omega⟩;have HML:Hid (nb<=maxLen):=⟨by unfold maxLen;omega⟩;have HNBB:Hid (nb*1<=16777216):=⟨by omega⟩;have hS0:Sx w3.drew:=by obtain ⟨p,hp⟩:=HKS.o _ (Gr.refl w3).drew;rw [hp];exact p.h
   have inst:Inhabited (ZJV Sx):=⟨⟨_,hS0⟩⟩;have hS1:Sx w3.drew.drew:=by obtain ⟨p,hp⟩:=HKS.o _ ((Gr.refl w3).drew.drew);rw [hp];exact p.h
   clear hSx x3 x50 x51 x52 x53 x54 x55 x56;refine VMF Sx [0,1,2,3,4,7] #[true,true,true,true,true,false,false,true,false,false,false,false,false,false,false] [(5,[]),(6,[5]),(8,[5]),(9,[]),(10,[]),(11,[6,8,9,10]),(12,[11]),(13,[]),(14,[12,13])] (OpI w3 q p m nb c) JBz (by kernel_rfl) (by kernel_rfl) hS1 ?_ ⟨?_,?_,?_,?_,?_,?_,?_,?_,?_,trivial⟩ ?_
   ·simp only [XZy,List.getElem?_cons_zero,List.getElem?_cons_succ]
    repeat (go_big_quiet_step (fail))
    refine wpQuiet_nil ?_;refine ⟨.pointer (some ⟨q,0,none⟩),.agg #[.int .i64 c.fr,.int .i64 c.tp,.int .i64 c.to,.int .i64 c.lm,.int .i64 c.bk,.int .i64 c.st,.int .i64 c.ah],.pointer (some ⟨p,0,none⟩),.pointer (some ⟨m,0,none⟩),.pointer (some ⟨p,0,none⟩),undef,undef,.pointer (some ⟨p,0,none⟩),undef,undef,undef,undef,undef,undef,by simp only [Act.put,List.setIfInBounds_toArray,List.set_cons_zero,List.set_cons_succ],?_⟩;refine ⟨rfl,rfl,rfl,rfl,rfl,rfl,(fun h=>by cases h),(fun h=>by cases h),(fun h=>by cases h),(fun h=>by cases h),(fun h=>by cases h),(fun h=>by cases h),(fun h=>by cases h),(fun h=>by cases h),(fun h=>by cases h),(fun h=>by cases h),?_⟩;exact ((Gr.refl w3).drew.drew).touch _
   ·rintro D a W ⟨v55,v56,v57,v58,v59,v60,v61,v62,v63,v64,v65,v66,v67,v13,rfl,hJ⟩ hSW hk hd;clear hSW;simp only [XZy,List.getElem?_cons_zero,List.getElem?_cons_succ,Act.put,List.setIfInBounds_toArray,List.set_cons_zero,List.set_cons_succ];have HJ:=hid hJ;have HK:=hid hk;have HD:=hid hd;have HGW:=hid (HTX.o W hJ.t);obtain rfl:=hJ.e59;clear hJ hk hd;gi_wp2_with (refine ⟨trivial,?_⟩;gi_at_call 197;refine (callsIn_wide.2 (HBKS.o W HGW.o)).mono ?_;rintro e w4 ⟨rfl,hg4⟩);refine ⟨HKT.o _ ?_,v55,v56,v57,v58,.pointer (some ⟨p,0,none⟩),.int .i64 nb,v61,v62,v63,v64,v65,v66,v67,v13,by simp only [Act.put,List.setIfInBounds_toArray,List.set_cons_zero,List.set_cons_succ],?_⟩
    ·exact HJ.o.t.trans (hg4.touch _)
    ·have hJ2:=HJ.o.gr hg4;have hk:=HK.o;have hd:=HD.o;exact ⟨hJ2.e55,hJ2.e56,hJ2.e57,hJ2.e58,hJ2.e59,hJ2.e62,(fun _=>rfl),hJ2.e61,hJ2.e63,hJ2.e64,hJ2.e65,hJ2.ne,hJ2.e66,hJ2.e67,hJ2.e13,hJ2.d14,hJ2.t⟩
   ·rintro D a W ⟨v55,v56,v57,v58,v59,v60,v61,v62,v63,v64,v65,v66,v67,v13,rfl,hJ⟩ hSW hk hd;clear hSW;simp only [XZy,List.getElem?_cons_zero,List.getElem?_cons_succ,Act.put,List.setIfInBounds_toArray,List.set_cons_zero,List.set_cons_succ];have HJ:=hid hJ;have HK:=hid hk;have HD:=hid hd;have HGW:=hid (HTX.o W hJ.t);obtain rfl:=hJ.e60 (hd 5 (by simp));clear hJ hk hd;gi_wp2_with (gi_at_make;refine V63 _ rfl _ _ 216 rfl 0 4 i0 (.bool false) 1 Tryz.underlying216 hi0 hz0 hz1 .i64 .i64 nb rfl rfl HNBB.o HB8.o HML.o (Nat.zero_le _) ?_;intro w4 hown hgrow);have hg4:Gr W w4:=(JEA hgrow (fun _=>False) (fun k e _=>by cases e)).gr;rw [show (Value.bool false).cells=#[.bool false] from rfl,J0U,Nat.mul_one] at hown;have HOW:=hid hown;clear hown hgrow;gi_wp2;refine ⟨HKT.o _ ?_,v55,v56,v57,v58,v59,.int .i64 nb,.slice (some ⟨W.heap.size,0,none⟩) nb nb,v62,v63,v64,v65,v66,v67,v13,by simp only [Act.put,List.setIfInBounds_toArray,List.set_cons_zero,List.set_cons_succ],?_⟩
    ·exact HJ.o.t.trans (hg4.touch _)
    ·have hJ2:=HJ.o.gr hg4;have hk:=HK.o;have hd:=HD.o;exact ⟨hJ2.e55,hJ2.e56,hJ2.e57,hJ2.e58,hJ2.e59,hJ2.e62,hJ2.e60,(fun _=>⟨W.heap.size,rfl,HOW.o,HGW.o.size⟩),hJ2.e63,hJ2.e64,hJ2.e65,hJ2.ne,(fun d=>by have h:=(HJ.o.e66 d).1;rw [hk] at h;cases h),(fun d=>by have h:=(HJ.o.e66 (HJ.o.e67 d).1).1;rw [hk] at h;cases h),hJ2.e13,hJ2.d14,hJ2.t⟩
   ·rintro D a W ⟨v55,v56,v57,v58,v59,v60,v61,v62,v63,v64,v65,v66,v67,v13,rfl,hJ⟩ hSW hk hd;clear hSW;simp only [XZy,List.getElem?_cons_zero,List.getElem?_cons_succ,Act.put,List.setIfInBounds_toArray,List.set_cons_zero,List.set_cons_succ];have HJ:=hid hJ;have HK:=hid hk;have HD:=hid hd;have HGW:=hid (HTX.o W hJ.t);obtain rfl:=hJ.e62;clear hJ hk hd;gi_wp2_with (refine ⟨trivial,?_⟩;gi_at_call 197;refine (callsIn_wide.2 (HBKS.o W HGW.o)).mono ?_;rintro e w4 ⟨rfl,hg4⟩);refine ⟨HKT.o _ ?_,v55,v56,v57,v58,v59,v60,v61,.pointer (some ⟨p,0,none⟩),.int .i64 nb,v64,v65,v66,v67,v13,by simp only [Act.put,List.setIfInBounds_toArray,List.set_cons_zero,List.set_cons_succ],?_⟩
    ·exact HJ.o.t.trans (hg4.touch _)
    ·have hJ2:=HJ.o.gr hg4;have hk:=HK.o;have hd:=HD.o;exact ⟨hJ2.e55,hJ2.e56,hJ2.e57,hJ2.e58,hJ2.e59,hJ2.e62,hJ2.e60,hJ2.e61,(fun _=>rfl),hJ2.e64,hJ2.e65,hJ2.ne,(fun d=>by have h:=(HJ.o.e66 d).2.1;rw [hk] at h;cases h),(fun d=>by have h:=(HJ.o.e66 (HJ.o.e67 d).1).2.1;rw [hk] at h;cases h),hJ2.e13,hJ2.d14,hJ2.t⟩
   ·rintro D a W ⟨v55,v56,v57,v58,v59,v60,v61,v62,v63,v64,v65,v66,v67,v13,rfl,hJ⟩ hSW hk hd;clear hSW;simp only [XZy,List.getElem?_cons_zero,List.getElem?_cons_succ,Act.put,List.setIfInBounds_toArray,List.set_cons_zero,List.set_cons_succ];have HJ:=hid hJ;have HK:=hid hk;have HD:=hid hd;have HGW:=hid (HTX.o W hJ.t);clear hJ hk hd;refine Ya9 W rfl _ rfl ?_;gi_wp2;have hg4:Gr W (W.alloc (.map #[] 0)):=(Gr.refl W).alloc _;refine ⟨HKT.o _ ?_,v55,v56,v57,v58,v59,v60,v61,v62,v63,.map (some W.heap.size),v65,v66,v67,v13,by simp only [Act.put,List.setIfInBounds_toArray,List.set_cons_zero,List.set_cons_succ],?_⟩
    ·exact HJ.o.t.trans (hg4.touch _)
    ·have hJ2:=HJ.o.gr hg4;have hk:=HK.o;have hd:=HD.o;exact ⟨hJ2.e55,hJ2.e56,hJ2.e57,hJ2.e58,hJ2.e59,hJ2.e62,hJ2.e60,hJ2.e61,hJ2.e63,(fun _=>⟨W.heap.size,rfl,YER.made W,HGW.o.size⟩),hJ2.e65,(fun _ d e=>by obtain ⟨b,h1,h2,-⟩:=HJ.o.e65 d;rw [h1] at e;have:=h2.lt;simp only [Value.map.injEq,Option.some.injEq] at e;omega),(fun d=>by have h:=(HJ.o.e66 d).2.2.1;rw [hk] at h;cases h),(fun d=>by have h:=(HJ.o.e66 (HJ.o.e67 d).1).2.2.1;rw [hk] at h;cases h),hJ2.e13,hJ2.d14,hJ2.t⟩
   ·rintro D a W ⟨v55,v56,v57,v58,v59,v60,v61,v62,v63,v64,v65,v66,v67,v13,rfl,hJ⟩ hSW hk hd;clear hSW;simp only [XZy,List.getElem?_cons_zero,List.getElem?_cons_succ,Act.put,List.setIfInBounds_toArray,List.set_cons_zero,List.set_cons_succ];have HJ:=hid hJ;have HK:=hid hk;have HD:=hid hd;have HGW:=hid (HTX.o W hJ.t);clear hJ hk hd;refine Ya9 W rfl _ rfl ?_;gi_wp2;have hg4:Gr W (W.alloc (.map #[] 0)):=(Gr.refl W).alloc _;refine ⟨HKT.o _ ?_,v55,v56,v57,v58,v59,v60,v61,v62,v63,v64,.map (some W.heap.size),v66,v67,v13,by simp only [Act.put,List.setIfInBounds_toArray,List.set_cons_zero,List.set_cons_succ],?_⟩
    ·exact HJ.o.t.trans (hg4.touch _)
    ·have hJ2:=HJ.o.gr hg4;have hk:=HK.o;have hd:=HD.o;exact ⟨hJ2.e55,hJ2.e56,hJ2.e57,hJ2.e58,hJ2.e59,hJ2.e62,hJ2.e60,hJ2.e61,hJ2.e63,hJ2.e64,(fun _=>⟨W.heap.size,rfl,YER.made W,HGW.o.size⟩),(fun d _ e=>by obtain ⟨b,h1,h2,-⟩:=HJ.o.e64 d;rw [h1] at e;have:=h2.lt;simp only [Value.map.injEq,Option.some.injEq] at e;omega),(fun d=>by have h:=(HJ.o.e66 d).2.2.2.1;rw [hk] at h;cases h),(fun d=>by have h:=(HJ.o.e66 (HJ.o.e67 d).1).2.2.2.1;rw [hk] at h;cases h),hJ2.e13,hJ2.d14,hJ2.t⟩
   ·rintro D a W ⟨v55,v56,v57,v58,v59,v60,v61,v62,v63,v64,v65,v66,v67,v13,rfl,hJ⟩ hSW hk hd;clear hSW;simp only [XZy,List.getElem?_cons_zero,List.getElem?_cons_succ,Act.put,List.setIfInBounds_toArray,List.set_cons_zero,List.set_cons_succ];have HJ:=hid hJ;have HK:=hid hk;have HD:=hid hd;have HGW:=hid (HTX.o W hJ.t);obtain rfl:=hJ.e56;obtain rfl:=hJ.e55;obtain rfl:=hJ.e57;obtain rfl:=hJ.e58;obtain rfl:=hJ.e63 (hd 8 (by simp));obtain ⟨b61,rfl,-,-⟩:=hJ.e61 (hd 6 (by simp));obtain ⟨b64,rfl,-,-⟩:=hJ.e64 (hd 9 (by simp));obtain ⟨b65,rfl,-,-⟩:=hJ.e65 (hd 10 (by simp));clear hJ hk hd;gi_wp2;have hg4:Gr W W:=Gr.refl W;refine ⟨HKT.o _ ?_,.pointer (some ⟨q,0,none⟩),.agg #[.int .i64 c.fr,.int .i64 c.tp,.int .i64 c.to,.int .i64 c.lm,.int .i64 c.bk,.int .i64 c.st,.int .i64 c.ah],.pointer (some ⟨p,0,none⟩),.pointer (some ⟨m,0,none⟩),v59,v60,.slice (some ⟨b61,0,none⟩) nb nb,v62,.int .i64 nb,.map (some b64),.map (some b65),.agg #[.pointer (some ⟨q,0,none⟩),.int .i64 c.fr,.int .i64 c.tp,.int .i64 c.to,.int .i64 c.lm,.int .i64 c.bk,.int .i64 c.st,.int .i64 c.ah,.pointer (some ⟨p,0,none⟩),.pointer (some ⟨m,0,none⟩),.slice (some ⟨b61,0,none⟩) nb nb,.int .i64 nb,.int .i64 0,.int .i64 0,.map (some b64),.map (some b65)],v67,v13,by simp only [Act.put,List.setIfInBounds_toArray,List.set_cons_zero,List.set_cons_succ],?_⟩
    ·exact HJ.o.t.trans (hg4.touch _)
    ·have hJ2:=HJ.o.gr hg4;have hk:=HK.o;have hd:=HD.o;exact ⟨hJ2.e55,hJ2.e56,hJ2.e57,hJ2.e58,hJ2.e59,hJ2.e62,hJ2.e60,hJ2.e61,hJ2.e63,hJ2.e64,hJ2.e65,hJ2.ne,(fun _=>⟨hd 6 (by simp),hd 8 (by simp),hd 9 (by simp),hd 10 (by simp),rfl⟩),(fun d=>by have h:=(HJ.o.e67 d).1;rw [hk] at h;cases h),hJ2.e13,hJ2.d14,hJ2.t⟩
   ·rintro D a W ⟨v55,v56,v57,v58,v59,v60,v61,v62,v63,v64,v65,v66,v67,v13,rfl,hJ⟩ hSW hk hd;clear hSW;simp only [XZy,List.getElem?_cons_zero,List.getElem?_cons_succ,Act.put,List.setIfInBounds_toArray,List.set_cons_zero,List.set_cons_succ];have HJ:=hid hJ;have HK:=hid hk;have HD:=hid hd;have HGW:=hid (HTX.o W hJ.t);obtain ⟨d6,d8,d9',d10,rfl⟩:=hJ.e66 (hd 11 (by simp));obtain rfl:=hJ.e56;obtain rfl:=hJ.e55;obtain rfl:=hJ.e57;obtain rfl:=hJ.e58;obtain rfl:=hJ.e63 d8;obtain ⟨b61,rfl,-,-⟩:=hJ.e61 d6;obtain ⟨b64,rfl,-,-⟩:=hJ.e64 d9';obtain ⟨b65,rfl,-,-⟩:=hJ.e65 d10;have HRN:=hid (Rec.new W 219 [.pointer (some ⟨q,0,none⟩),.int .i64 c.fr,.int .i64 c.tp,.int .i64 c.to,.int .i64 c.lm,.int .i64 c.bk,.int .i64 c.st,.int .i64 c.ah,.pointer (some ⟨p,0,none⟩),.pointer (some ⟨m,0,none⟩),.slice (some ⟨b61,0,none⟩) nb nb,.int .i64 nb,.int .i64 0,.int .i64 0,.map (some b64),.map (some b65)]);have HGA:=hid ((Gr.refl W).alloc (.cells #[.pointer (some ⟨q,0,none⟩),.int .i64 c.fr,.int .i64 c.tp,.int .i64 c.to,.int .i64 c.lm,.int .i64 c.bk,.int .i64 c.st,.int .i64 c.ah,.pointer (some ⟨p,0,none⟩),.pointer (some ⟨m,0,none⟩),.slice (some ⟨b61,0,none⟩) nb nb,.int .i64 nb,.int .i64 0,.int .i64 0,.map (some b64),.map (some b65)] 219));clear d6 d8 d9' d10;clear hJ hk hd;gi_wp2;refine ⟨HKT.o _ ?_,.pointer (some ⟨q,0,none⟩),.agg #[.int .i64 c.fr,.int .i64 c.tp,.int .i64 c.to,.int .i64 c.lm,.int .i64 c.bk,.int .i64 c.st,.int .i64 c.ah],.pointer (some ⟨p,0,none⟩),.pointer (some ⟨m,0,none⟩),v59,v60,.slice (some ⟨b61,0,none⟩) nb nb,v62,.int .i64 nb,.map (some b64),.map (some b65),.agg #[.pointer (some ⟨q,0,none⟩),.int .i64 c.fr,.int .i64 c.tp,.int .i64 c.to,.int .i64 c.lm,.int .i64 c.bk,.int .i64 c.st,.int .i64 c.ah,.pointer (some ⟨p,0,none⟩),.pointer (some ⟨m,0,none⟩),.slice (some ⟨b61,0,none⟩) nb nb,.int .i64 nb,.int .i64 0,.int .i64 0,.map (some b64),.map (some b65)],.pointer (some ⟨W.heap.size,0,none⟩),v13,by simp only [Act.put,List.setIfInBounds_toArray,List.set_cons_zero,List.set_cons_succ],?_⟩
    ·exact HJ.o.t.trans (HGA.o.touch _)
    ·have hJ2:=HJ.o.gr HGA.o;have hk:=HK.o;have hd:=HD.o;exact ⟨hJ2.e55,hJ2.e56,hJ2.e57,hJ2.e58,hJ2.e59,hJ2.e62,hJ2.e60,hJ2.e61,hJ2.e63,hJ2.e64,hJ2.e65,hJ2.ne,hJ2.e66,(fun _=>⟨hd 11 (by simp),W.heap.size,rfl,HGW.o.size,HRN.o⟩),(fun d=>by obtain ⟨b,h1,h2,h3⟩:=hJ2.e13 d;refine ⟨b,h1,h2,?_⟩;cases h14:D 14 with | true=>(have:=(HJ.o.d14 h14).1;rw [hk] at this;cases this) | false=>(have e:upD D 12 14=false:=h14;rw [h14] at h3;rw [e];exact h3)),(fun d=>⟨rfl,(hJ2.d14 d).2⟩),hJ2.t⟩
   ·rintro D a W ⟨v55,v56,v57,v58,v59,v60,v61,v62,v63,v64,v65,v66,v67,v13,rfl,hJ⟩ hSW hk hd;clear hSW;simp only [XZy,List.getElem?_cons_zero,List.getElem?_cons_succ,Act.put,List.setIfInBounds_toArray,List.set_cons_zero,List.set_cons_succ];have HJ:=hid hJ;have HK:=hid hk;have HD:=hid hd;have HGW:=hid (HTX.o W hJ.t);have HRN:=hid (Rec.new W 90 [.pointer none]);have HGA:=hid ((Gr.refl W).alloc (.cells #[.pointer none] 90));clear hJ hk hd;gi_wp2;refine ⟨HKT.o _ ?_,v55,v56,v57,v58,v59,v60,v61,v62,v63,v64,v65,v66,v67,.pointer (some ⟨W.heap.size,0,none⟩),by simp only [Act.put,List.setIfInBounds_toArray,List.set_cons_zero,List.set_cons_succ],?_⟩
    ·exact HJ.o.t.trans (HGA.o.touch _)
    ·have hJ2:=HJ.o.gr HGA.o;have hk:=HK.o;have hd:=HD.o;exact ⟨hJ2.e55,hJ2.e56,hJ2.e57,hJ2.e58,hJ2.e59,hJ2.e62,hJ2.e60,hJ2.e61,hJ2.e63,hJ2.e64,hJ2.e65,hJ2.ne,hJ2.e66,hJ2.e67,(fun _=>⟨W.heap.size,rfl,HGW.o.size,by cases h14:D 14 with | true=>(have:=(HJ.o.d14 h14).2;rw [hk] at this;cases this) | false=>(have e:upD D 13 14=false:=h14;rw [e];exact HRN.o)⟩),(fun d=>⟨(hJ2.d14 d).1,rfl⟩),hJ2.t⟩
   ·rintro D a W ⟨v55,v56,v57,v58,v59,v60,v61,v62,v63,v64,v65,v66,v67,v13,rfl,hJ⟩ hSW hk hd;clear hSW;simp only [XZy,List.getElem?_cons_zero,List.getElem?_cons_succ,Act.put,List.setIfInBounds_toArray,List.set_cons_zero,List.set_cons_succ];have HJ:=hid hJ;have HK:=hid hk;have HD:=hid hd;obtain ⟨b13,rfl,hb13,hr13⟩:=hJ.e13 (hd 13 (by simp));obtain ⟨d11,b67,rfl,hb67,hr67⟩:=hJ.e67 (hd 12 (by simp));have HR13:=hid hr13;rw [hk] at hr13;have q0:=hr13.cell (j:=0) rfl;have qf:=hr13.free 0;have ql:=hr13.lt;have HB13:=hid hb13;clear hJ hk hd hr13 hr67 d11 hb67 hb13;gi_wp2;have tS:XF4 (fun i=>i=b13) W (W.setCell ⟨b13,0,none⟩ (.pointer (some ⟨b67,0,none⟩))):=(XF4.refl (fun i=>i=b13) W).setCell (a:=⟨b13,0,none⟩) (fun _=>rfl) _;have hrs:=HR13.o.set 0 (.pointer (some ⟨b67,0,none⟩));have tT:XF4 (fun i=>w3.heap.size<=i) w3 (W.setCell ⟨b13,0,none⟩ (.pointer (some ⟨b67,0,none⟩))):=HJ.o.t.trans (tS.mono (fun i _ h=>by rw [h];exact HB13.o));have hJ:=HJ.o;refine ⟨HKT.o _ tT,v55,v56,v57,v58,v59,v60,v61,v62,v63,v64,v65,v66,.pointer (some ⟨b67,0,none⟩),.pointer (some ⟨b13,0,none⟩),by simp only [Act.put,List.setIfInBounds_toArray,List.set_cons_zero,List.set_cons_succ],?_⟩;exact ⟨hJ.e55,hJ.e56,hJ.e57,hJ.e58,hJ.e59,hJ.e62,hJ.e60,(fun d=>by obtain ⟨b,h1,h2,h3⟩:=hJ.e61 d;exact ⟨b,h1,Zs2 h2 tS (fun g' hg=>by rw [h1] at hg;cases hg;exact YnK (by rw [h1] at h2;exact h2) HR13.o (by decide) rfl rfl),h3⟩),hJ.e63,(fun d=>by obtain ⟨b,h1,h2,h3⟩:=hJ.e64 d;exact ⟨b,h1,h2.touch tS (h2.ne (JME HR13.o)),h3⟩),(fun d=>by obtain ⟨b,h1,h2,h3⟩:=hJ.e65 d;exact ⟨b,h1,h2.touch tS (h2.ne (JME HR13.o)),h3⟩),hJ.ne,hJ.e66,(fun d=>by obtain ⟨h0,b,h1,h2,h3⟩:=hJ.e67 d;exact ⟨h0,b,h1,h2,h3.touch tS (YnK h3 HR13.o (by decide) rfl rfl)⟩),(fun _=>⟨b13,rfl,HB13.o,hrs⟩),(fun _=>⟨HD.o 12 (by simp),HD.o 13 (by simp)⟩),tT⟩
   ·rintro D a W ⟨v55,v56,v57,v58,v59,v60,v61,v62,v63,v64,v65,v66,v67,v13,rfl,hJ⟩ hSW hall;clear hSW;have hall':∀ j,j<15->D j=true:=hall;obtain ⟨b61,rfl,ho61,hg61⟩:=hJ.e61 (hall' 6 (by omega));obtain rfl:=hJ.e60 (hall' 5 (by omega));obtain rfl:=hJ.e63 (hall' 8 (by omega));obtain ⟨b64,rfl,hm64,hg64⟩:=hJ.e64 (hall' 9 (by omega));obtain ⟨b65,rfl,hm65,hg65⟩:=hJ.e65 (hall' 10 (by omega));obtain ⟨-,-,-,-,rfl⟩:=hJ.e66 (hall' 11 (by omega));obtain ⟨-,y,rfl,hgy,hry⟩:=hJ.e67 (hall' 12 (by omega));obtain ⟨bx,rfl,hgx,hrx⟩:=hJ.e13 (hall' 13 (by omega));rw [hall' 14 (by omega)] at hrx;obtain rfl:=hJ.e55;obtain rfl:=hJ.e56;obtain rfl:=hJ.e57;obtain rfl:=hJ.e58;obtain rfl:=hJ.e59;obtain rfl:=hJ.e62;have hn45:b64≠b65:=fun e=>hJ.ne (hall' 9 (by omega)) (hall' 10 (by omega)) (by rw [e]);have HT3:=hid hJ.t;have HO61:=hid ho61;have HM64:=hid hm64;have HM65:=hid hm65;have HRY:=hid hry;have HRX:=hid hrx;have HGE:=hid (And.intro hg61 (And.intro hg64 (And.intro hg65 (And.intro hgy (And.intro hgx hn45)))));clear hJ hall hall' ho61 hg61 hm64 hg64 hm65 hg65 hgy hry hgx hrx hn45;refine NoPanic.normal ?_;simp only [Act.put,List.setIfInBounds_toArray,List.set_cons_zero,List.set_cons_succ];clear y3 y50 y51 y52 y53 y54 y55 y56 hS0 inst hS1;have hzW:=HT3.o.size;have HG3W:Hid (Gr w3 W):=⟨HTX.o W HT3.o⟩;have c13:=HRX.o.cell (j:=0) rfl;have clx:=HRX.o.lt;gi_wp2_with (refine ⟨trivial,?_⟩;gi_at_call 142;refine (callsIn_wide.2 (JMu (some ⟨m,0,none⟩))).mono ?_;rintro e w5 ⟨rfl,rfl⟩);obtain ⟨W5,hW5⟩:∃ W5,W5=W.alloc (.cells #[.pointer (some ⟨m,0,none⟩)] 100):=⟨_,rfl⟩;have hg5:Gr W W5:=by rw [hW5];exact (Gr.refl W).alloc _
    have hs5:W5.heap.size=W.heap.size+1:=by rw [hW5,World.size_alloc]
    have k5:W5.cell? ⟨W.heap.size,0,none⟩=some (.pointer (some ⟨m,0,none⟩)):=by rw [hW5];exact (Boxed.new W 100 (.pointer (some ⟨m,0,none⟩))).cell
    rw [<-hW5];clear hW5 c13 clx;obtain ⟨g61,g64,g65,gy,gx,hne⟩:=HGE.o;have l64:=HM64.o.lt;have l65:=HM65.o.lt;have ly:=HRY.o.lt;have lx:=HRX.o.lt;have n64y:=HM64.o.ne (JME HRY.o);have n65y:=HM65.o.ne (JME HRY.o);have n64x:=HM64.o.ne (JME HRX.o);have n65x:=HM65.o.ne (JME HRX.o);have hml:=HX.o.hm;have hp1l:=HX.o.v1.hp;have hb1l:=HX.o.v1.hb;have hp2l:=HX.o.v2.hp;have hb2l:=HX.o.v2.hb;have hz3:=HG3.o.size;obtain ⟨s,hsl⟩:∃ s,s=V4X v c L:=⟨_,rfl⟩;have esL:s.L=L:=by rw [hsl];rfl
    have espg:s.pg=v.pl.pg:=by rw [hsl];rfl
    have esn:s.n=v.n:=by rw [hsl];rfl
    have HES:=hid (And.intro esL (And.intro espg (And.intro esn hsl)));have HGD:Hid (Q4l s.n s.L):=⟨by rw [esn,esL];exact HX.o.good⟩;have HV3:=hid (HV2.o.gr HG3.o);have HT5:Hid (∀ A,XF4 (fun i=>(i=b64\/i=b65)\/W5.heap.size<=i) W5 A->XF4 (fun i=>w3.heap.size<=i) w3 A):=⟨fun A t=>(HT3.o.trans (hg5.touch _)).trans (t.mono (fun i _ h=>by omega))⟩
    have HK:Hid (∀ A,XF4 (fun i=>(i=b64\/i=b65)\/W5.heap.size<=i) W5 A->((A.cell? ⟨bx,0,none⟩=some (.pointer (some ⟨y,0,none⟩))/\A.cell? ⟨y,14,none⟩=some (.map (some b64)))/\A.cell? ⟨y,15,none⟩=some (.map (some b65))/\A.cell? ⟨w.heap.size,0,none⟩=some (.pointer (some ⟨q,0,none⟩)))):=⟨fun A t=>by
     have r1:=(HRX.o.gr hg5).touch t (by omega);have r2:=(HRY.o.gr hg5).touch t (by omega);have g3:=HTX.o A (HT5.o A t)
     exact ⟨⟨r1.cell (j:=0) rfl,r2.cell (j:=14) rfl⟩,r2.cell (j:=15) rfl,(g3.cell HB33.o.lt 0).trans (HB33.o.cell (j:=0) rfl)⟩⟩
    have HVA:Hid (∀ A,XF4 (fun i=>(i=b64\/i=b65)\/W5.heap.size<=i) W5 A->QXZ A (ZOk (ZOk S w) w1) q v):=⟨fun A t=>HV3.o.gr (HTX.o A (HT5.o A t))⟩
    have HXA:Hid (∀ A,XF4 (fun i=>(i=b64\/i=b65)\/W5.heap.size<=i) W5 A->Ext A m p1 b1 p2 b2 v.n L/\VRW A):=⟨fun A t=>by
     have g3:=HTX.o A (HT5.o A t)
     exact ⟨(HX.o.gr HG3.o).gr g3,g3.tab (HG3.o.tab HTB2.o.lt HTB2.o).lt (HG3.o.tab HTB2.o.lt HTB2.o)⟩⟩
    have HA0:Hid (OpA W5 W5 b64 b65 v s 0 0):=⟨OpA.zero (HM64.o.gr hg5) (HM65.o.gr hg5)⟩;have HL64:Hid (b64<W5.heap.size/\b65<W5.heap.size/\b64≠b65):=⟨by omega⟩;have HZ0:Hid (Qd4 (L.take 0)=0):=⟨rfl⟩;have HK5:=hid k5;have hwl:w.heap.size<w3.heap.size:=HB33.o.lt;clear hsl esL espg esn k5
    refine JYJ (K:=4) (s0:=0) rfl (by omega) (gf:=210) (lb:=#[.pointer (some ⟨W.heap.size,0,none⟩)]) rfl trivial (enters_of Tryz.func210 (by kernel_rfl) rfl)
     (Yd3 _ W.heap.size m p1 b1 p2 b2 v.n L _) (fun _=>rfl)
     (fun (j:Nat) A=>j<=L.length/\OpA W5 A b64 b65 v s j (Qd4 (L.take j))) (fun _ _=>False) (fun j A B h t=>⟨h.1,h.2.win HL64.o.1 HL64.o.2.1 t⟩) (fun _ _ _ h _=>h)
     (fun j A h=>⟨(HXA.o A h.2.t).1,(HXA.o A h.2.t).2,(h.2.t.cell (by omega) (by omega) 0).trans HK5.o,h.1⟩)
     ⟨Nat.zero_le _,HA0.o⟩ ?round ?done (fun _ _ _ _ h _=>h.elim)
    case round=>
     intro lp j x W6 hsz6 hI6 hgv;dsimp only [VYF];gi_wp2;refine ⟨Gr.refl _,fun W7 ht7 hI7=>?_⟩
     have hjl:j<L.length:=by
      rcases Nat.lt_or_ge j L.length with h | h
      ·exact h
      ·unfold YdH at hgv;rw [List.getElem?_eq_none h] at hgv;cases hgv
     obtain rfl:x=L[j]:=by unfold YdH at hgv;rw [List.getElem?_eq_getElem hjl] at hgv;exact (Option.some.inj hgv).symm
     obtain ⟨hrch,hrd0,-⟩:=HI.o.1.mkd.ats _ (List.getElem_mem hjl);obtain ⟨-,-,hp',hf',hk',hrh,hhs⟩:=J7F hrd0;have HA7:=hid hI7.2;have hsb:=(HX.o.good.sz _ (List.getElem_mem hjl)).2;have HSJ:=hid (Qsm hjl);have hjs:j<s.L.length:=by rw [HES.o.1];exact hjl
     have HJS:=hid hjs;have hel:s.L[j]=L[j]:=by simp only [HES.o.1]
     have HSRC:Hid (∀ t,t<L[j].2->Vjz s.L (Qd4 (L.take j)+t)=L[j].1+t/\Qd4 (L.take j)+t<Qd4 s.L):=⟨fun t ht=>by
      have h1:=VfC hjl;rw [HES.o.1]
      exact ⟨YZF hjl ht,by omega⟩⟩
     obtain ⟨n5,f5,hm5,hn5,hf5⟩:=hI7.2.sh;have HM5:=hid hm5;have HN5:=hid (And.intro hn5 hf5);have hHDR:∀ B,YER Tryz.prog 3 B b65 (n5+1) (fun y=>if y=((L[j].1:Nat):Int) then some (X79 (v.rdH (L[j].1:Nat))) else f5 y)->XF4 (fun i=>i=b65) W7 B->OpA W5 B b64 b65 v s (j+1) (Qd4 (L.take j)):=fun B hm t=>HA7.o.hdr HJS.o HL64.o.2.2 HN5.o.1 HN5.o.2 HGD.o (by rw [hel];exact hm) t;rw [hrh] at hHDR;have HHDR:=hid hHDR;have HRD:=hid (fun (W:World) (gW:Gr W7 W)=>ZkF ((HVA.o W7 HA7.o.t).gr gW) ((L[j].1:Nat):Int));rw [hrd0,hrh] at HRD;unfold X79 at HRD;unfold spV at HRD
     have hn5b:n5<=1048576:=by
      have h2:=XY5 HX.o.good;have h4:=Y0x HX.o.good;omega
     have HLL5:Hid (n5<maxLen):=⟨by unfold maxLen;omega⟩;have HLL6:Hid (Qd4 (L.take j)+L[j].2<=1048576):=⟨by have h1:=VfC hjl;have h2:=XY5 HX.o.good;omega⟩;obtain ⟨sa,hsa⟩:∃ sa,sa=L[j].1:=⟨_,rfl⟩;obtain ⟨sz,hsz⟩:∃ sz,sz=L[j].2:=⟨_,rfl⟩;obtain ⟨mm,hmm⟩:∃ mm,mm=Qd4 (L.take j):=⟨_,rfl⟩;have HSA:=hid (And.intro hsa (And.intro hsz hmm));rw [<-hsa] at HRD HSRC HHDR hsb ⊢;rw [<-hsz] at HSRC hsb HSJ HLL6 ⊢;rw [<-hmm] at HSRC HHDR HSJ HLL6 HA7;have HWF5:Hid ((Lit.int .i64 (sa:Int)).wf=true):=⟨WalkArith.wf_i64 (by omega)⟩;have HSZ7:=hid (And.intro hsz6 ht7.size);have HJL:=hid hjl;have hsab:sa+sz<=524288:=by omega
     clear hI6 hI7 hgv ht7 hsa hsz hmm hjs hel hrch hrd0 hrh hhs hm5 hn5 hf5 hHDR hsb;have kk:=HK.o _ HA7.o.t;have k1:=kk.1.1;have k3:=kk.2.1;have k4:=kk.2.2;clear kk
     have HKC:Hid (∀ W',Gr W7 W'->W'.cell? ⟨bx,0,none⟩=some (.pointer (some ⟨y,0,none⟩))/\W'.cell? ⟨y,15,none⟩=some (.map (some b65))/\W'.cell? ⟨w.heap.size,0,none⟩=some (.pointer (some ⟨q,0,none⟩))):=⟨fun W' gW=>by
      have h:=HK.o W' (HA7.o.t.trans (gW.touch _))
      exact ⟨h.1.1,h.2⟩⟩
     gi_upto_region 16 with (fail);obtain ⟨Sx,hSx⟩:∃ Sx:World->Prop,Sx=fun W'=>W'.cell? ⟨bx,0,none⟩=some (.pointer (some ⟨y,0,none⟩))/\W'.cell? ⟨y,15,none⟩=some (.map (some b65))/\W'.cell? ⟨w.heap.size,0,none⟩=some (.pointer (some ⟨q,0,none⟩)):=⟨_,rfl⟩;have y1:∀ p:ZJV Sx,p.w.cell? ⟨bx,0,none⟩=some (.pointer (some ⟨y,0,none⟩)):=fun p=>by have h:=ZJV.get hSx p;exact h.1
     have y2:∀ p:ZJV Sx,p.w.cell? ⟨y,15,none⟩=some (.map (some b65)):=fun p=>by have h:=ZJV.get hSx p;exact h.2.1
     have y3:∀ p:ZJV Sx,p.w.cell? ⟨w.heap.size,0,none⟩=some (.pointer (some ⟨q,0,none⟩)):=fun p=>by have h:=ZJV.get hSx p;exact h.2.2
     have HS:Hid (∀ W',W'.cell? ⟨bx,0,none⟩=some (.pointer (some ⟨y,0,none⟩))/\W'.cell? ⟨y,15,none⟩=some (.map (some b65))/\W'.cell? ⟨w.heap.size,0,none⟩=some (.pointer (some ⟨q,0,none⟩))->Sx W'):=⟨fun W' h=>by rw [hSx];exact h⟩;have hS0:=HS.o (W7.drew) (HKC.o _ (Gr.refl W7).drew);have inst:Inhabited (ZJV Sx):=⟨⟨_,hS0⟩⟩;clear hSx;refine V0Y Sx 13 [([0,1,2,3,4,5,6,7],8),([9,10,11],12)] [] (fun _=>trivial) (by kernel_rfl) (by kernel_rfl) hS0 ?_;refine QgQ ?_
     try simp only [XZy,List.getElem?_cons_zero,List.getElem?_cons_succ]
     repeat (go_big_quiet_step (fail))
     refine wpQuiet_nil ?_;gi_wp2_with ((refine ⟨trivial,?_⟩;gi_at_call 100;refine (CallsIn.inRound lp (callsIn_wide.2 (HRD.o _ (Gr.refl W7).drew))).mono ?_;rintro e w8 ⟨rfl,hg8⟩;have HG8:=hid ((Gr.refl W7).drew.trans hg8);clear hg8));refine ⟨.inr (ZJV.of (HS.o _ (HKC.o _ HG8.o))),?_⟩;refine QgQ ?_
     try simp only [XZy,List.getElem?_cons_zero,List.getElem?_cons_succ]
     repeat (go_big_quiet_step (fail))
     refine wpQuiet_nil ?_;gi_wp2_with ((gi_at_mapUpdate;refine Y7w _ rfl _ _ _ 217 rfl 3 33 JKr Tryz.underlying217 Tryz.underlying3 b65 n5 f5 rfl (HM5.o.gr HG8.o) HLL5.o (sa:Int) (.agg #[.int .i64 hp',.int .i64 hf',.int .i64 hk']) rfl rfl HWF5.o ?_;intro w9 hm9 ht9;have HM9:=hid hm9;have HT9:=hid ht9;clear hm9 ht9));refine ⟨.inr (ZJV.of (HS.o _ ((by have h:=HK.o w9 (HA7.o.t.trans ((HG8.o.touch _).trans (HT9.o.mono (fun i _ h=>.inl (.inr h)))));exact ⟨h.1.1,h.2⟩)))),?_⟩;refine X0q ?_
     try simp only [XZy]
     repeat (go_big_quiet_step (fail))
     refine wpQuiet_nil ?_;refine NoPanic.normal ?_;clear y1 y2 y3 hS0 inst;clear HS Sx;clear k1 k3 k4;have HA9:Hid (OpA W5 w9 b64 b65 v s (j+1) (mm+0)):=⟨HHDR.o w9 HM9.o ((HG8.o.touch _).trans HT9.o)⟩;have HT79:Hid (XF4 (fun i=>i=b64\/i=b65) W7 w9):=⟨(HG8.o.touch _).trans (HT9.o.mono (fun i _ h=>.inr h))⟩;gi_wp2
     gi_loopw [16] (fun s16 wr=>∃ t A:Nat,t<=sz/\Hid (A=sa+t)/\Hid (OpA W5 wr b64 b65 v s (j+1) (mm+t))/\Hid (XF4 (fun i=>i=b64\/i=b65) W7 wr)/\s16=.int .i64 A) (fun s16 _=>sa+sz-(intOf s16).toNat)
     case atStart=>exact ⟨0,sa,Nat.zero_le _,⟨rfl⟩,HA9,HT79,rfl⟩
     case round=>
      obtain ⟨t,A,ht,HAt,HA,HTA,rfl⟩:=hrel;by_cases hlt:t<sz
      ·have HLT:=hid hlt;have hAI:(A:Int)<(sa:Int)+(sz:Int):=by have:=HAt.o;omega
       have hAb:A<=1048576:=by have:=HAt.o;omega
       obtain ⟨e1,e2⟩:=HSRC.o t hlt;obtain ⟨n4,f4,hm4,hn4,hf4⟩:=HA.o.wd;have HPG:=hid (fun (W:World) (gW:Gr wr W)=>VML ((HVA.o wr HA.o.t).gr gW));obtain ⟨pg,hpge⟩:∃ pg,pg=v.pl.pg:=⟨_,rfl⟩;rw [<-hpge] at HPG hpg;obtain ⟨Q,hQ⟩:∃ Q,Q=A/pg:=⟨_,rfl⟩;have g1:((A:Int).tdiv (pg:Int))=(Q:Int):=by rw [hQ];rfl
       have g2:((A:Int)/(pg:Int))=(Q:Int):=by rw [hQ];rfl
       have hpg0:(pg:Int)≠0:=by omega
       have hQb:Q<=1048576:=by rw [hQ];exact Nat.le_trans (Nat.div_le_self _ _) hAb
       have hsq:Vjz s.L (mm+t)/s.pg=Q:=by rw [e1,hQ,HAt.o,hpge,HES.o.2.1]
       obtain ⟨N1,hN1⟩:∃ N1,N1=s.on (fun i=>decide (i<mm+t)) Q:=⟨_,rfl⟩
       have hN1b:N1<=1048576:=by
        rw [hN1];have h1:=s.on_le (fun i=>decide (i<mm+t)) Q;have h2:=XY5 HGD.o;have h3:=HES.o.2.2.1;omega
       have HLK:Hid (∀ W',Gr wr W'->(Instr.lookup 128 (.map (some b64)) (.int .i64 Q) false).run Tryz.prog W'=.ok (.int .i64 N1) W'):=⟨fun W' gW=>by
        rw [(hm4.gr gW).look JKr Tryz.underlying128 Tryz.underlying3 (YqT W') (WalkArith.wf_i64 (by omega)),hf4 Q,hN1]⟩
       have HWD:Hid (∀ B,YER Tryz.prog 3 B b64 (n4+1) (fun y=>if y=(Q:Int) then some (.int .i64 ((N1+1:Nat):Int)) else f4 y)->XF4 (fun i=>i=b64) wr B->OpA W5 B b64 b65 v s (j+1) (mm+(t+1))):=⟨fun B hmB tB=>by
        have:=HA.o.word e2 HL64.o.2.2 hn4 hf4 (x:=N1+1) (B:=B) (by rw [hsq,hN1]) (by rw [hsq];exact hmB) tB
        rw [<-Nat.add_assoc];exact this⟩
       have HM4:=hid hm4;have HLL4:Hid (n4<maxLen):=⟨by have:=HLL6.o;unfold maxLen;omega⟩;have HWF4:Hid ((Lit.int .i64 (Q:Int)).wf=true):=⟨WalkArith.wf_i64 (by omega)⟩;have hN2:(N1:Int)+1=((N1+1:Nat):Int):=by push_cast;rfl
       obtain ⟨N2,hN2'⟩:∃ N2,N2=N1+1:=⟨_,rfl⟩;rw [<-hN2'] at hN2 HWD
       have HKD:Hid (∀ W',Gr wr W'->(W'.cell? ⟨bx,0,none⟩=some (.pointer (some ⟨y,0,none⟩))/\W'.cell? ⟨y,14,none⟩=some (.map (some b64)))/\W'.cell? ⟨w.heap.size,0,none⟩=some (.pointer (some ⟨q,0,none⟩))/\(Instr.lookup 128 (.map (some b64)) (.int .i64 Q) false).run Tryz.prog W'=.ok (.int .i64 N1) W'):=⟨fun W' gW=>by
        have h:=HK.o W' (HA.o.t.trans (gW.touch _))
        exact ⟨h.1,h.2.2,HLK.o W' gW⟩⟩
       clear e1 e2 hm4 hn4 hf4 hpge hQ hsq hN1 hN2' hlt;gi_upto_region 20 with (fail);obtain ⟨Sx,hSx⟩:∃ Sx:World->Prop,Sx=fun W'=>(W'.cell? ⟨bx,0,none⟩=some (.pointer (some ⟨y,0,none⟩))/\W'.cell? ⟨y,14,none⟩=some (.map (some b64)))/\W'.cell? ⟨w.heap.size,0,none⟩=some (.pointer (some ⟨q,0,none⟩))/\(Instr.lookup 128 (.map (some b64)) (.int .i64 Q) false).run Tryz.prog W'=.ok (.int .i64 N1) W':=⟨_,rfl⟩;have y1:∀ p:ZJV Sx,p.w.cell? ⟨bx,0,none⟩=some (.pointer (some ⟨y,0,none⟩)):=fun p=>by have h:=ZJV.get hSx p;exact h.1.1
       have y2:∀ p:ZJV Sx,p.w.cell? ⟨y,14,none⟩=some (.map (some b64)):=fun p=>by have h:=ZJV.get hSx p;exact h.1.2
       have y3:∀ p:ZJV Sx,p.w.cell? ⟨w.heap.size,0,none⟩=some (.pointer (some ⟨q,0,none⟩)):=fun p=>by have h:=ZJV.get hSx p;exact h.2.1
       have y4:∀ p:ZJV Sx,(Instr.lookup 128 (.map (some b64)) (.int .i64 Q) false).run Tryz.prog p.w=.ok (.int .i64 N1) p.w:=fun p=>by have h:=ZJV.get hSx p;exact h.2.2
       have HS:Hid (∀ W',(W'.cell? ⟨bx,0,none⟩=some (.pointer (some ⟨y,0,none⟩))/\W'.cell? ⟨y,14,none⟩=some (.map (some b64)))/\W'.cell? ⟨w.heap.size,0,none⟩=some (.pointer (some ⟨q,0,none⟩))/\(Instr.lookup 128 (.map (some b64)) (.int .i64 Q) false).run Tryz.prog W'=.ok (.int .i64 N1) W'->Sx W'):=⟨fun W' h=>by rw [hSx];exact h⟩;have hS0:=HS.o (wr.drew) (HKD.o _ (Gr.refl wr).drew);have inst:Inhabited (ZJV Sx):=⟨⟨_,hS0⟩⟩;clear hSx;refine V0Y Sx 10 [([0,1,2,3,4,5],6),([7,8,9],10)] [] (fun _=>trivial) (by kernel_rfl) (by kernel_rfl) hS0 ?_;refine QgQ ?_
       try simp only [XZy,List.getElem?_cons_zero,List.getElem?_cons_succ]
       repeat (go_big_quiet_step (fail))
       refine wpQuiet_nil ?_;gi_wp2_with ((refine ⟨trivial,?_⟩;gi_at_call 136;refine (CallsIn.inRound lp (callsIn_wide.2 (HPG.o _ (Gr.refl wr).drew))).mono ?_;rintro e w8 ⟨rfl,rfl⟩));refine ⟨.inr (ZJV.of (HS.o _ (HKD.o _ (Gr.refl wr).drew))),?_⟩;refine QgQ ?_
       try simp only [XZy,List.getElem?_cons_zero,List.getElem?_cons_succ]
       repeat (go_big_quiet_step (fail))
       refine wpQuiet_nil ?_;gi_wp2_with ((gi_at_mapUpdate;refine Y7w _ rfl _ _ _ 128 rfl 3 3 JKr Tryz.underlying128 Tryz.underlying3 b64 n4 f4 rfl (HM4.o.gr (Gr.refl wr).drew) HLL4.o (Q:Int) (.int .i64 N2) rfl rfl HWF4.o ?_;intro w10 hm10 ht10;have HM10:=hid hm10;have HT10:=hid ht10;clear hm10 ht10));refine ⟨.inl trivial,?_⟩;refine X0q ?_
       try simp only [XZy]
       repeat (go_big_quiet_step (fail))
       refine wpQuiet_nil ?_;refine NoPanic.normal ?_;clear y1 y2 y3 y4 hS0 inst;clear HS Sx;have HT11:Hid (XF4 (fun i=>i=b64) wr w10):=⟨((Gr.refl wr).drew.touch _).trans HT10.o⟩;gi_wp2;go_roundw
       case rel=>exact ⟨t+1,A+1,HLT.o,⟨by have:=HAt.o;omega⟩,⟨HWD.o w10 HM10.o HT11.o⟩,⟨HTA.o.trans (HT11.o.mono (fun i _ h=>.inl h))⟩,by go_num⟩
       case measure=>have:=HAt.o;have:=HLT.o;simp [intOf];omega
      ·obtain rfl:t=sz:=by omega
       have hAI:¬ (A:Int)<(sa:Int)+(t:Int):=by have:=HAt.o;omega
       clear hlt;gi_wp2;have hsz:=HSZ7.o;have l4:=HL64.o;refine ⟨HTA.o.mono (fun i _ h=>.inl (by rcases h with rfl | rfl <;> omega)),j+1,rfl,hjl,?_⟩;rw [HSJ.o];exact HA.o
    case done=>
     rintro D j W7 hD rfl hI7 hK;have hA7:=hI7.2;rw [List.take_length] at hA7;have HA7:=hid hA7;have HKK:=hid (HK.o W7 hA7.t);have hz7:=hA7.t.size;have HSL:=hid HES.o.2.2.2
     have HCY:Hid (Cyc W7 (fun b=>w1.heap.size<=b/\b<W5.heap.size) y q ⟨w2.heap.size,w3.heap.size,p,m,p1,b1,p2,b2,b65,b61,nb,b64⟩ (V4X v c L)):=⟨by
      have hA:=hA7;rw [HSL.o] at hA
      exact VLI HX.o HG3.o HPL.o ⟨hz2,HMX.o.1,HMX.o.2.1,HMX.o.2.2.1,HMX.o.2.2.2.1,HMX.o.2.2.2.2⟩ (HT3.o.trans (hg5.touch _)) ⟨gy,g61,g64,g65⟩ HNB.o (HRY.o.gr hg5) (Y9I HO61.o hg5) (HM64.o.gr hg5) (HM65.o.gr hg5) hne hA (fun i h1 h2 h3 h=>by omega) hA.t⟩
     have HR7:Hid (V5d W7 r g rs):=⟨by
      have h1:=(HR.o.gr HG01.o).touch HT2.o (fun h=>HNO.o.2.1 h.1) (fun h=>HNO.o.2.2.1 h.1)
      exact (h1.gr HG3.o).gr (HTX.o W7 (HT5.o W7 hA7.t))⟩
     have HST:=hid (J4T HOK.o HCF.o HI.o (by rw [<-HSN.o];exact Nat.le_of_not_lt HBIG.o));have hgl:g<w1.heap.size:=by omega
     have HTU:=hid (X9b (fun W tW=>HCY.o.touch tW (fun k hk e=>by have:=hk.1;omega)) HST.o HR7.o);have hmf:∀ (fn:Fn) (first cap:Array Value) (w:World),(Instr.makeFunc fn first cap).run Tryz.prog w=.ok (.func fn first cap) w:=fun _ _ _ _=>rfl;have hHV7:=HVA.o W7 hA7.t;have HV7:=hid hHV7;have hHB3:=(HB33.o.gr (HTX.o W7 (HT5.o W7 hA7.t)));have hHB5:=(HB53.o.gr (HTX.o W7 (HT5.o W7 hA7.t)));have hHX7:=(HRX.o.gr hg5).touch hA7.t (by omega);have HBX:=hid (And.intro hHB3 (And.intro hHB5 hHX7));have c13:=hHX7.cell (j:=0) rfl;have clx:=hHX7.lt;have HK0:=hid hK;have HD0:Hid (D=W5.heap.size):=⟨hD⟩;clear hA7 hI7 hHV7 hHB3 hHB5 hHX7 hK hD;gi_upto_region 22 with (refine ⟨trivial,?_⟩;gi_at_call 87;refine (callsIn_wide.2 (HTU.o)).mono ?_;rintro e w8 ⟨rfl,ht8,hr8⟩;have HT8:=hid ht8;have HR8:=hid hr8;clear ht8 hr8);clear c13 clx;obtain ⟨hB3,hB5,hXb⟩:=HBX.o;have HB38:=hid (hB3.touch HT8.o (fun h=>by omega));have HB58:=hid (hB5.touch HT8.o (fun h=>by omega));have HX8:=hid (hXb.touch HT8.o (fun h=>by omega));have HCY8:=hid (HCY.o.touch HT8.o (fun k hk e=>by have:=hk.1;omega));have hz8:=HT8.o.size;obtain ⟨S5,hS5⟩:∃ S5,S5=ZOk (ZOk S w) w1:=⟨_,rfl⟩;have HS5:Hid (∀ b,S5 b->S b/\b<w.heap.size):=⟨fun b hb=>by rw [hS5] at hb;exact hb.1⟩;have hV8:QXZ w8 S5 q v:=by rw [hS5];exact HV7.o.touch HT8.o (fun b hb _ h=>HNO.o.2.2.1 (h ▸ hb.1.1))
     have HV8:=hid hV8
     have HK8:Hid (w8.heap[D]?=some (.deferred (some []))/\D<w8.heap.size/\W5.heap.size<=D):=⟨by
      have h1:=(Array.getElem?_eq_some_iff.1 HK0.o).1;have h2:=HD0.o
      exact ⟨(HT8.o.block D h1 (by omega)).trans HK0.o,by omega,by omega⟩⟩
     have HVP:=hid (fun (W:World) (g':Gr w8 W)=>VML (HV8.o.gr g'));obtain ⟨pg,hpge⟩:∃ pg,pg=v.pl.pg:=⟨_,rfl⟩;have HPGE:=hid hpge;rw [<-hpge] at HVP hpg;obtain ⟨q0,hq0⟩:∃ q0,q0=c.fr/pg:=⟨_,rfl⟩;have hq0m:q0*pg<=c.fr:=by rw [hq0];exact Nat.div_mul_le_self c.fr pg
     have HQ0:=hid hq0;have HQM:=hid hq0m;have g1:((c.fr:Int).tdiv (pg:Int))=(q0:Int):=by rw [hq0];rfl
     have g2:((c.fr:Int)/(pg:Int))=(q0:Int):=by rw [hq0];rfl
     have hpg0:(pg:Int)≠0:=by omega
     have hq0n:q0<=524288:=by have:=Nat.div_le_self c.fr pg;omega
     have HUM:Hid (UmO w8 w8.drew S5 q (V4X v c L) v q0 0 pg c.tp):=⟨(Gr.refl w8).drew.touch _,⟨S5,v,fun b h=>.inl h,HV8.o.gr (Gr.refl w8).drew,Vdg.zero HOK.o q0⟩,fun i hi=>absurd hi (Nat.not_lt_zero _)⟩;have u1:=HB38.o.cell (j:=0) rfl;have u2:=HB58.o.cell (j:=0) rfl;clear hB3 hB5 hXb hV8 hpge hq0 hq0m hS5;obtain ⟨Sx,hSx⟩:∃ Sx:World->Prop,Sx=fun W'=>W'.cell? ⟨w.heap.size,0,none⟩=some (.pointer (some ⟨q,0,none⟩))/\W'.cell? ⟨w.heap.size+1,0,none⟩=some (.int .i64 c.fr):=⟨_,rfl⟩;have x1:∀ p:ZJV Sx,p.w.cell? ⟨w.heap.size,0,none⟩=some (.pointer (some ⟨q,0,none⟩)):=fun p=>by have h:=ZJV.get hSx p;exact h.1
     have x2:∀ p:ZJV Sx,p.w.cell? ⟨w.heap.size+1,0,none⟩=some (.int .i64 c.fr):=fun p=>by have h:=ZJV.get hSx p;exact h.2
     have HS:Hid (∀ W',W'.cell? ⟨w.heap.size,0,none⟩=some (.pointer (some ⟨q,0,none⟩))/\W'.cell? ⟨w.heap.size+1,0,none⟩=some (.int .i64 c.fr)->Sx W'):=⟨fun W' h=>by rw [hSx];exact h⟩;have hS0:=HS.o (w8.drew) (⟨u1,u2⟩);have inst:Inhabited (ZJV Sx):=⟨⟨_,hS0⟩⟩;clear hSx;refine V0Y Sx 6 [([0,1,2],3)] [4,5] JBz (by kernel_rfl) (by kernel_rfl) hS0 ?_;refine QgQ ?_
     try simp only [XZy,List.getElem?_cons_zero,List.getElem?_cons_succ]
     repeat (go_big_quiet_step (fail))
     refine wpQuiet_nil ?_;gi_wp2_with ((refine ⟨trivial,?_⟩;gi_at_call 136;refine (callsIn_wide.2 (HVP.o _ (Gr.refl w8).drew)).mono ?_;rintro e w9 ⟨rfl,rfl⟩));refine ⟨.inr (ZJV.of (HS.o _ (⟨u1,u2⟩))),?_⟩;refine X0q ?_
     try simp only [XZy,List.getElem?_cons_zero,List.getElem?_cons_succ]
     repeat (go_big_quiet_step (fail))
     refine wpQuiet_nil ?_;refine NoPanic.normal ?_;clear x1 x2 hS0 inst;clear HS Sx;clear u1 u2;gi_wp2
     gi_loopw [17] (fun s17 wx=>∃ j:Nat,Hid (UmO w8 wx S5 q (V4X v c L) v q0 j pg c.tp)/\s17=.int .i64 ((q0+j:Nat):Int)) (fun s17 _=>c.tp-(intOf s17).toNat*pg)
     case atStart=>exact ⟨0,HUM,rfl⟩
     case round=>
      clear HUM;obtain ⟨j,HU,rfl⟩:=hrel;obtain ⟨Sj,v',hsj,hvj,hum⟩:=HU.o.vm;have hVP:=fun (W:World) (g':Gr wr W)=>VML (hvj.gr g');rw [hum.pg,<-HPGE.o] at hVP;have HVP2:=hid hVP;have HVJ:=hid hvj;have HSJ:=hid hsj;have HOU:=hid hum;have HBX3:=hid (HB38.o.touch HU.o.t (fun h=>by have:=(HS5.o _ h).2;omega));have HBX5:=hid (HB58.o.touch HU.o.t (fun h=>by have:=(HS5.o _ h).2;omega));have HBXX:=hid (HX8.o.touch HU.o.t (fun h=>by have:=(HS5.o _ h).2;omega));have HCYX:=hid (HCY8.o.touch HU.o.t (fun k hk h=>by have:=hk.1;have:=(HS5.o _ h).2;omega));obtain ⟨qq,hqq⟩:∃ qq,qq=q0+j:=⟨_,rfl⟩;obtain ⟨pp,hpp⟩:∃ pp,pp=qq*pg:=⟨_,rfl⟩
      have hppb:pp<=1048576:=by
       rcases Nat.eq_zero_or_pos j with h0 | h0
       ·rw [hpp,hqq,h0,Nat.add_zero];have:=HQM.o;omega
       ·have:=HU.o.q1 (j-1) (by omega);have e:pp=(q0+(j-1))*pg+pg:=by rw [hpp,hqq,show q0+j=(q0+(j-1))+1 by omega,Nat.add_mul,Nat.one_mul]
        omega
      have hqb:qq<=pp:=by rw [hpp];exact Nat.le_mul_of_pos_right _ (by omega)
      have hmul:((qq:Int)*(pg:Int))=(pp:Int):=by rw [hpp];push_cast;rfl
      have HQQ:=hid (And.intro hqq hpp);rw [<-hqq];have u1:=HBX3.o.cell (j:=0) rfl;have u2:=HBX5.o.cell (j:=1) rfl;clear hVP hvj hsj hqq hpp hum;by_cases hlt:pp<c.tp
      ·have e1:decide ((pp:Int)<(c.tp:Int))=true:=decide_eq_true (by omega);have e2:decide (pp<c.tp)=true:=decide_eq_true hlt;have HLT:=hid hlt;have hlk:=Jfv (HCYX.o.gr (Gr.refl wr).drew).wd (q:=qq) (by omega);have hon:(V4X v c L).on (fun i=>!(V4X v c L).is i) qq=(V4X v c L).on (fun _=>true) qq:=Sl.on_congr fun i _=>by rw [JZl];rfl
       rw [hon] at hlk;obtain ⟨N1,hN1⟩:∃ N1,N1=(V4X v c L).on (fun _=>true) qq:=⟨_,rfl⟩;have HN1:=hid hN1;rw [<-hN1] at hlk;have HLK:=hid hlk;clear hlt hN1 hon hlk;gi_upto_region 23 with (fail);obtain ⟨Sx,hSx⟩:∃ Sx:World->Prop,Sx=fun W'=>W'.cell? ⟨w.heap.size,0,none⟩=some (.pointer (some ⟨q,0,none⟩))/\W'.cell? ⟨w.heap.size+1,1,none⟩=some (.int .i64 c.tp):=⟨_,rfl⟩;have x1:∀ p:ZJV Sx,p.w.cell? ⟨w.heap.size,0,none⟩=some (.pointer (some ⟨q,0,none⟩)):=fun p=>by have h:=ZJV.get hSx p;exact h.1
       have x2:∀ p:ZJV Sx,p.w.cell? ⟨w.heap.size+1,1,none⟩=some (.int .i64 c.tp):=fun p=>by have h:=ZJV.get hSx p;exact h.2
       have HS:Hid (∀ W',W'.cell? ⟨w.heap.size,0,none⟩=some (.pointer (some ⟨q,0,none⟩))/\W'.cell? ⟨w.heap.size+1,1,none⟩=some (.int .i64 c.tp)->Sx W'):=⟨fun W' h=>by rw [hSx];exact h⟩;have hS0:=HS.o (wr.drew) (⟨u1,u2⟩);have inst:Inhabited (ZJV Sx):=⟨⟨_,hS0⟩⟩;clear hSx;refine V0Y Sx 7 [([0,1,4,5],2)] [3,6] JBz (by kernel_rfl) (by kernel_rfl) hS0 ?_;refine QgQ ?_
       try simp only [XZy,List.getElem?_cons_zero,List.getElem?_cons_succ]
       repeat (go_big_quiet_step (fail))
       refine wpQuiet_nil ?_;gi_wp2_with ((refine ⟨trivial,?_⟩;gi_at_call 136;refine (callsIn_wide.2 (HVP2.o _ (Gr.refl wr).drew)).mono ?_;rintro e w10 ⟨rfl,rfl⟩));refine ⟨.inr (ZJV.of (HS.o _ (⟨u1,u2⟩))),?_⟩;refine X0q ?_
       try simp only [XZy,List.getElem?_cons_zero,List.getElem?_cons_succ]
       repeat (go_big_quiet_step (fail))
       refine wpQuiet_nil ?_;refine NoPanic.normal ?_;clear x1 x2 hS0 inst;clear HS Sx;have z1:=(HBXX.o.gr (Gr.refl wr).drew).cell (j:=0) rfl;have zl:=(HBXX.o.gr (Gr.refl wr).drew).lt;have z2:=(HCYX.o.gr (Gr.refl wr).drew).rc.cell (j:=14) rfl;have zl2:=(HCYX.o.gr (Gr.refl wr).drew).rc.lt;have hlk:=HLK.o;have u3:=HBX3.o.lt;have hzw:=(Gr.refl wr).drew.size;have hzt:=HU.o.t.size;by_cases hz:N1=0
       ·have d0:((N1:Int)==0)=true:=by simp [hz]
        have HZ:=hid hz;clear hz;gi_wp2_with (refine ⟨trivial,?_⟩;gi_at_call 137;refine (callsIn_wide.2 (JYA (HVJ.o.gr (Gr.refl wr).drew) (qq:Int))).mono ?_;rintro e w11 ⟨rfl,ht11,hv11⟩;have HT11:=hid ht11;have HV11:=hid hv11;clear ht11 hv11);go_roundw
        case rel=>
         refine ⟨j+1,⟨⟨?_,⟨plus Sj wr.drew,_,fun b hb=>?_,HV11.o,?_⟩,fun i hi=>?_⟩⟩,?_⟩
         ·exact (HU.o.t.trans ((Gr.refl wr).drew.touch _)).trans' HT11.o (fun b hb h=>(HSJ.o b h).elim id (fun h=>by omega))
         ·rcases hb with h | h
          ·exact HSJ.o b h
          ·right;omega
         ·have:=HOU.o.drop (j:=j) (by rw [<-HQQ.o.1,<-HN1.o];exact HZ.o);rw [<-HQQ.o.1] at this;exact this
         ·rcases Nat.lt_or_ge i j with h | h
          ·exact HU.o.q1 i h
          ·obtain rfl:i=j:=by omega
           rw [<-HQQ.o.1,<-HQQ.o.2];exact HLT.o
         ·rw [show q0+(j+1)=qq+1 by rw [HQQ.o.1];omega]
          go_num
        case measure=>
         have h1:=HLT.o;have h2:=HQQ.o.2;simp only [intOf];rw [show ((qq:Int)+1).toNat=qq+1 by omega,Int.toNat_natCast,Nat.add_mul,Nat.one_mul,<-h2];omega
       ·have d0:((N1:Int)==0)=false:=by simp;exact hz
        have HZ:=hid hz;clear hz;gi_wp2;go_roundw
        case rel=>
         refine ⟨j+1,⟨⟨HU.o.t.trans ((Gr.refl wr).drew.touch _),⟨Sj,_,HSJ.o,HVJ.o.gr (Gr.refl wr).drew,?_⟩,fun i hi=>?_⟩⟩,?_⟩
         ·exact HOU.o.keep (j:=j) (by rw [<-HQQ.o.1,<-HN1.o];exact HZ.o)
         ·rcases Nat.lt_or_ge i j with h | h
          ·exact HU.o.q1 i h
          ·obtain rfl:i=j:=by omega
           rw [<-HQQ.o.1,<-HQQ.o.2];exact HLT.o
         ·rw [show q0+(j+1)=qq+1 by rw [HQQ.o.1];omega]
          go_num
        case measure=>
         have h1:=HLT.o;have h2:=HQQ.o.2;simp only [intOf];rw [show ((qq:Int)+1).toNat=qq+1 by omega,Int.toNat_natCast,Nat.add_mul,Nat.one_mul,<-h2];omega
      ·have e1:decide ((pp:Int)<(c.tp:Int))=false:=decide_eq_false (by omega);have e2:decide (pp<c.tp)=false:=decide_eq_false hlt;have HLT:=hid hlt;clear hlt;gi_upto_region 23 with (fail);obtain ⟨Sx,hSx⟩:∃ Sx:World->Prop,Sx=fun W'=>W'.cell? ⟨w.heap.size,0,none⟩=some (.pointer (some ⟨q,0,none⟩))/\W'.cell? ⟨w.heap.size+1,1,none⟩=some (.int .i64 c.tp):=⟨_,rfl⟩;have x1:∀ p:ZJV Sx,p.w.cell? ⟨w.heap.size,0,none⟩=some (.pointer (some ⟨q,0,none⟩)):=fun p=>by have h:=ZJV.get hSx p;exact h.1
       have x2:∀ p:ZJV Sx,p.w.cell? ⟨w.heap.size+1,1,none⟩=some (.int .i64 c.tp):=fun p=>by have h:=ZJV.get hSx p;exact h.2
       have HS:Hid (∀ W',W'.cell? ⟨w.heap.size,0,none⟩=some (.pointer (some ⟨q,0,none⟩))/\W'.cell? ⟨w.heap.size+1,1,none⟩=some (.int .i64 c.tp)->Sx W'):=⟨fun W' h=>by rw [hSx];exact h⟩;have hS0:=HS.o (wr.drew) (⟨u1,u2⟩);have inst:Inhabited (ZJV Sx):=⟨⟨_,hS0⟩⟩;clear hSx;refine V0Y Sx 7 [([0,1,4,5],2)] [3,6] JBz (by kernel_rfl) (by kernel_rfl) hS0 ?_;refine QgQ ?_
       try simp only [XZy,List.getElem?_cons_zero,List.getElem?_cons_succ]
       repeat (go_big_quiet_step (fail))
       refine wpQuiet_nil ?_;gi_wp2_with ((refine ⟨trivial,?_⟩;gi_at_call 136;refine (callsIn_wide.2 (HVP2.o _ (Gr.refl wr).drew)).mono ?_;rintro e w10 ⟨rfl,rfl⟩));refine ⟨.inr (ZJV.of (HS.o _ (⟨u1,u2⟩))),?_⟩;refine X0q ?_
       try simp only [XZy,List.getElem?_cons_zero,List.getElem?_cons_succ]
       repeat (go_big_quiet_step (fail))
       refine wpQuiet_nil ?_;refine NoPanic.normal ?_;clear x1 x2 hS0 inst;clear HS Sx;clear u1 u2;have z1:=(HBXX.o.gr (Gr.refl wr).drew).cell (j:=0) rfl;have zl:=(HBXX.o.gr (Gr.refl wr).drew).lt;gi_wp2;have hzt:=HU.o.t.size;have hzw:=(Gr.refl wr).drew.size;have hS5D:¬ S5 D:=fun h=>by have:=(HS5.o _ h).2;have:=HK8.o.2.2;omega
       have hD5:wr.drew.heap[D]?=some (.deferred (some [])):=by
        have h2:=HK8.o.2.1;rw [(Gr.refl wr).drew.block (by omega),HU.o.t.block D h2 hS5D];exact HK8.o.1
       refine ⟨by simp,.inl ⟨_,_,rfl,run_takeDeferred hD5,?_⟩⟩;have tt:=Vx3 wr.drew D (.deferred none);have hD0:=HD0.o;refine ⟨.tuple #[.pointer (some ⟨y,0,none⟩),.int .i64 0],?_,?_,.inr ⟨L,HI.o,.inr ⟨by have h1:=HBIG.o;have h2:=HSN.o;omega,y,_,_,Sj,v',j,rfl,(HCYX.o.gr (Gr.refl wr).drew).touch tt (fun k hk e=>by have:=hk.2;omega),(HVJ.o.gr (Gr.refl wr).drew).touch tt (fun b hb _ h=>?_),fun b hb=>?_,fun b hb=>⟨?_,fun h=>?_⟩,?_,?_,?_,?_⟩⟩⟩
       ·simp [results,Tryz.f129,go_sem]
       ·have a1:XF4 (fun b=>b=g\/S b) w w1:=HG01.o.touch _;have a2:=a1.trans (HT2.o.mono (fun i _ h=>.inr h.1));have a3:=a2.trans ((HG3.o.trans (HTX.o W7 (HT5.o W7 HA7.o.t))).touch _);have a4:=a3.trans (HT8.o.mono (fun i _ h=>.inl h));have a5:=a4.trans (HU.o.t.mono (fun i _ h=>.inr (HS5.o i h).1));exact (a5.trans ((Gr.refl wr).drew.touch _)).trans' tt (fun b hb h=>by omega)
       ·rcases HSJ.o b hb with h' | h'
        ·exact hS5D (h ▸ h')
        ·have:=HK8.o.2.1;omega
       ·rcases HSJ.o b hb with h' | h'
        ·exact .inl (HS5.o b h').1
        ·right;omega
       ·have:=hb.1;omega
       ·rcases HSJ.o b h with h' | h'
        ·have:=(HS5.o b h').2;have:=hb.1;omega
        ·have:=hb.2;omega
       ·rw [<-HPGE.o,<-HQ0.o];exact HOU.o
       ·rw [<-HPGE.o,<-HQ0.o,<-HQQ.o.1,<-HQQ.o.2];have:=HLT.o;omega
       ·intro i hi;rw [<-HPGE.o,<-HQ0.o];exact HU.o.q1 i hi
       ·exact ((HR8.o.touch HU.o.t (fun h=>HNO.o.2.1 (HS5.o r h).1) (fun h=>HNO.o.2.2.1 (HS5.o g h).1)).gr (Gr.refl wr).drew).touch tt (fun h=>by omega) (fun h=>by omega)
 ·clear z3 z50 z51 z52 z53 z54 z55 z56 zl3 zl5;have HNOL:=hid hno;clear hno;gi_wp2;refine ⟨.tuple #[.pointer none,.int .i64 25],?_,?_,.inl ⟨HNOL.o,rfl,HV2.o.mono (fun b hb=>hb.1.1),(HR.o.gr HG01.o).touch HT2.o (fun h=>HNO.o.2.1 h.1) (fun h=>HNO.o.2.2.1 h.1)⟩⟩
  ·simp [results,Tryz.f129,go_sem]
  ·have a1:XF4 (fun b=>b=g\/S b) w w1:=HG01.o.touch _;exact a1.trans (HT2.o.mono (fun i _ h=>.inr h.1))
end
end
end
section
section
open Go.RowKit Go.Shelf Word
theorem VsG {n B m:Nat} (hB:1<=B) (h:n<=m) (hm:m%B=0):upN n B<=m:=by
 have e:m=m/B*B:=by have:=Nat.div_add_mod m B;rw [Nat.mul_comm] at this;omega
 have h1:(n+B-1)/B<m/B+1:=by
  rw [Nat.div_lt_iff_lt_mul (by omega),Nat.add_mul,Nat.one_mul,<-e];omega
 have h2:=Nat.mul_le_mul_right B (Nat.le_of_lt_succ h1)
 show (n+B-1)/B*B<=m
 omega
theorem Vdb {n fr tp:Nat} {L:List Ob} (hg:Q4l n L) (h:∀ o∈L,fr<=o.1/\o.1+o.2<=tp) (h2:fr<=tp):fr+Qd4 L<=tp:=by
 rcases Nat.eq_zero_or_pos L.length with h0 | h0
 ·have:L=[]:=List.eq_nil_of_length_eq_zero h0;subst this;simp only [Qd4];omega
 ·have hj:L.length-1<L.length:=by omega
  have h1:=YnY hg (fun o ho=>(h o ho).1) hj;have h3:=h _ (List.getElem_mem hj);have h4:=Qsm (L:=L) (j:=L.length-1) hj;rw [show L.length-1+1=L.length by omega,List.take_length] at h4;omega
theorem HCf.Ok.pg1 {c:HCf} (h:c.Ok):1<=c.pg:=by
 have h1:=h.pg;unfold Jnk at h1;rw [Bool.and_eq_true] at h1;have:=Quq h1.1;omega
section
variable {w w':World} {c:HCf} {g g':Gph} {s:HSt}
theorem HIn.cf (h:HIn w c g s) (hk:c.kd≠3) {v:Vm} (hv:HVm c v):VeB v.pl.pg v.n (YLQ c s.base s.top (c.ot s.base)):=by
 have k:=h.cok;have hot:=h.ot;have hbt:=h.bt;have hn:v.n=c.pg+c.wd+c.wd:=by rw [hv.n];exact if_neg hk
 have hpg:=hv.pg;have hp1:=k.pg1;have d0:c.pg%c.pg=0:=Nat.mod_self _;have d1:(c.pg+c.wd)%c.pg=0:=by rw [Nat.add_mod,d0,k.dv];simp
 have d2:(c.pg+c.wd+c.wd)%c.pg=0:=by rw [Nat.add_mod,d1,k.dv];simp
 rw [hpg,hn];unfold YLQ;refine ⟨k.bk,k.st,k.ah,?_,hbt.1,?_,?_,Nat.le_add_right _ _,?_,?_,?_,?_,?_⟩ <;> dsimp only
 ·rcases hot with ⟨-,e⟩ | ⟨-,e⟩ <;> omega
 ·rcases hot with ⟨-,e⟩ | ⟨-,e⟩ <;> omega
 ·rcases hot with ⟨e,-⟩ | ⟨e,-⟩ <;> omega
 ·rcases hot with ⟨e,-⟩ | ⟨e,-⟩ <;> omega
 ·rcases hot with ⟨-,e⟩ | ⟨-,e⟩ <;> rw [e] <;> assumption
 ·rcases hot with ⟨e,-⟩ | ⟨e,-⟩ <;> rw [e] <;> assumption
 ·rcases hot with ⟨e,-⟩ | ⟨e,-⟩ <;> rw [e] <;> assumption
 ·rcases hot with ⟨e,e2⟩ | ⟨e,e2⟩
  ·rw [e,e2];have:=VsG (n:=s.top) (m:=c.pg+c.wd) hp1 (by omega) d1;omega
  ·rw [e,e2];omega
theorem HIn.rch (h:HIn w c g s) {n:Nat} (hn:s.top<=n):∃ L,Zx6 s.u (s.rs g) n L/\(∀ o∈L,s.base<=o.1/\o.1+o.2<=s.top)/\XKC s.u L/\s.base+Qd4 L<=s.top/\Qd4 L=g.words/\L.length=g.all.length:=by
 obtain ⟨L,hM⟩:=h.img.marks h.gok hn;have hin:=h.img.inn h.gok hM;exact ⟨L,hM,hin,h.img.full h.gok hM,Vdb hM.mkd.good hin h.bt.1,h.img.words h.gok hM,h.img.count h.gok hM⟩
theorem HIn.opnd (h:HIn w c g s) (hk:c.kd=1) {v v':Vm} (hv:HVm c v) (hok:ZAR v) (hsh:ShA s.base s.top v) (hu:v=s.u) {L:List Ob} (hI:Jx2 v (s.rs g) s.base s.top L) {j:Nat}
  (hU:Vdg (V4X v (YLQ c s.base s.top (c.ot s.base)) L) v v' (s.base/v.pl.pg) j) (hj:s.top<=(s.base/v.pl.pg+j)*v.pl.pg):
  Qd4 L=g.words/\ZEw (V4X v (YLQ c s.base s.top (c.ot s.base)) L) v'/\c.ot s.base+Qd4 L<=c.ot s.base+c.wd/\∃ u,HpA (c.ot s.base+Qd4 L) u (V4X v (YLQ c s.base s.top (c.ot s.base)) L) v' ∧
   Img u g (fun x=>(toV L (c.ot s.base) (s.F x)).toNat) (c.ot s.base) (c.ot s.base+Qd4 L)/\(s.rs g).map (toV L (c.ot s.base))=g.S.map (fun x=>(((toV L (c.ot s.base) (s.F x)).toNat:Nat):Int)):=by
 have hcf:=h.cf (by omega) hv;have hM:Zx6 v (s.rs g) v.n L:=hI.1;have hin:∀ o∈L,s.base<=o.1/\o.1+o.2<=s.top:=fun o ho=>by have:=hI.2 o ho;omega
 have himg:Img v g s.F s.base s.top:=by rw [hu];exact h.img
 have hfull:=himg.full h.gok hM;have hle:=Vdb hM.mkd.good hin h.bt.1;have hbt:=h.bt
 have hfit:Qd4 L<=(YLQ c s.base s.top (c.ot s.base)).lm-(YLQ c s.base s.top (c.ot s.base)).to:=by
  show Qd4 L<=c.ot s.base+c.wd-c.ot s.base
  omega
 have hpgv:=hv.pg;have hus:=hsh.used (W:=c.wd) (by rw [hpgv];exact h.cok.dv) hbt.2
 have hrm:v.pl.used+(c.ah+2)*(max 1 (c.bk/v.pl.pg)+3)<=v.pl.rm:=by
  have e:v.pl.rm=c.wd/c.pg+(c.ah+2)*(max 1 (c.bk/c.pg)+3):=by
   rw [hv.rm];unfold HCf.fr;rw [if_pos hk];rfl
  rw [e,hpgv];rw [hpgv] at hus;omega
 obtain ⟨hO,u,hA⟩:=Jap hok hcf hI hfit hfull hU hj (fun p hp hne=>(hsh.map hp).1 hne) hrm
 ·have hmv:=XUb (v:=v) (gv:=u) (c:=YLQ c s.base s.top (c.ot s.base)) hM hok.n2 (fun i hi=>⟨hA.un _ (by have h1:c.ot s.base+c.wd<=v.n:=hcf.ln;show c.ot s.base+i<v.n;omega),hA.c i hi⟩);have hot1:1<=c.ot s.base:=by have:=h.cok.pg1;rcases h.ot with ⟨e,-⟩ | ⟨e,-⟩ <;> omega
  refine ⟨himg.words h.gok hM,hO,by omega,u,hA,himg.moved h.gok hmv hot1 ?_,himg.roots hmv⟩;have:=h.cok.wd;have:=h.cok.pw;rcases h.ot with ⟨e,-⟩ | ⟨e,-⟩ <;> omega
def QZz (w:World) (c:HCf) (g:Gph) (s:HSt) (w':World):Prop:=∃ s',Xfw w c s g s' w'/\s'.cyc=(if s'.lf=0 then wrap64 (s.cyc+1) else s.cyc)/\s'.top=s'.base+g.words/\s'.lf=nbl g.words c.bk
theorem HIn.opn {w1 w2:World} (h:HIn w c g s) (hn:s.o=none) (hk:c.kd=1) (hg1:Gr w w1) {e:Ending} (hO:QOD w1 (ZOk s.X w) s.A.q s.A.r s.A.g s.u (s.rs g) (YLQ c s.base s.top (c.ot s.base)) e w2):
  ∃ y,e=.returned (.tuple #[.pointer (some ⟨y,0,none⟩),.int .i64 0])/\Rec w2 s.A.hp 92 (hpL c s.A none s.cyc s.blk) ∧
   (∀ w3,w3=w2.setCell ⟨s.A.hp,11,none⟩ (.pointer (some ⟨y,0,none⟩)) →
    (∀ W,Gr w3 W->Calls Tryz.prog 130 #[.pointer (some ⟨y,0,none⟩)] W fun e W'=>e=.returned (.int .i64 ((c.ot s.base+g.words:Nat):Int))/\Gr W W') ∧
    (∀ W,Gr w3 W->Calls Tryz.prog 62 #[.pointer (some ⟨s.A.hp,0,none⟩),.int .i64 (c.ot s.base:Nat),.int .i64 ((c.ot s.base+g.words:Nat):Int)] W fun e W'=>e=.returned (.tuple #[]) ∧
     Calls Tryz.prog 72 #[.pointer (some ⟨s.A.hp,0,none⟩)] W' fun e w'=>e=.returned (.tuple #[])/\QZz w c g s w')):=by
 have hm:=h.mem;rw [hn] at hm;obtain ⟨hV,hv,hsh,hlf⟩:=hm;obtain ⟨hT,hO⟩:=hO;have hM0:=h.rch (n:=s.u.n) (by have:=hsh.bt;omega);obtain ⟨L0,hL0,hin0,-,hle0,hw0,-⟩:=hM0;have hbt:=h.bt;obtain ⟨l1,l2,l3,l4,l5⟩:=h.com.lt;have hz1:=hg1.size;have hS:∀ k,k<w1.heap.size->(k=s.A.g\/ZOk s.X w k)->k=s.A.g\/s.X k:=fun k _ hk=>hk.imp id (fun h=>h.1);have hT':XF4 (fun k=>k=s.A.g\/s.X k) w w2:=(hg1.touch _).trans (hT.mono hS);have hx:=h.com.x
 have hrow:Rec w2 s.A.hp 92 (hpL c s.A none s.cyc s.blk):=by
  have:=h.com.row;rw [hn] at this;exact this.touch hT' (fun hk=>hk.elim h.com.n1.2.1 hx.1)
 rcases hO with ⟨hno,-⟩ | ⟨L,hI,⟨hbig,-⟩ | ⟨hfit,y,z,R,S',v',j,rfl,hcy,hvm,hS',hR,hU,hj,-,hrt⟩⟩
 ·exact absurd (⟨hL0,fun o ho=>by have:=hin0 o ho;show (s.base:Int)<=_/\_<=(s.top:Int);omega⟩:Jx2 s.u (s.rs g) s.base s.top L0) (hno L0)
 ·exfalso;have h1:=Vdb hI.1.mkd.good (fr:=s.base) (tp:=s.top) (fun o ho=>by have h2:(s.base:Int)<=(o.1:Int)/\(o.1:Int)+o.2<=(s.top:Int):=hI.2 o ho;omega) hbt.1;have h2:c.ot s.base+c.wd-c.ot s.base<Qd4 L:=hbig;omega
 ·obtain ⟨hw,hO,hle,u,hA,himg,hroots⟩:=h.opnd hk hv hV.ok hsh rfl hI hU hj;refine ⟨y,rfl,hrow,fun w3 e3=>?_⟩;have hz2:=hT'.size;have hol:=hcy.od.lt;have t3:XF4 (fun k=>k=s.A.hp) w2 w3:=by rw [e3];exact (XF4.refl (fun k=>k=s.A.hp) w2).setCell (a:=⟨s.A.hp,11,none⟩) (fun _=>rfl) _
  have hz3:=t3.size;have hRw:∀ k,R k->w1.heap.size<=k:=fun k hk=>(hR k hk).1;have hSw:∀ k,S' k->(s.X k/\k<w.heap.size)\/w1.heap.size<=k:=fun k hk=>hS' k hk
  have hxS:∀ k,k<w.heap.size->¬ s.X k->¬ (R k\/ZOk S' w2 k):=fun k hk hn h2=>by
   rcases h2 with h2 | h2
   ·have:=hRw k h2;omega
   ·rcases hSw k h2.1 with h3 | h3
    ·exact hn h3.1
    ·omega
  have hrow3:Rec w3 s.A.hp 92 (hpL c s.A (some y) s.cyc s.blk):=by
   rw [e3];exact hrow.set 11 (.pointer (some ⟨y,0,none⟩))
  have n1:=h.com.n1;have n2:=h.com.n2;have n3:=h.com.n3
  have hcom3:XL4 w3 (fun k=>R k\/ZOk S' w2 k) s.A c s.base s.top ((s.rs g).map (toV L (c.ot s.base))) (some y) s.cyc s.blk:=
   ⟨hrow3,(h.com.rn.touch hT' (fun hk=>hk.elim (fun e=>n3.1 e.symm) hx.2.2.2.1)).touch t3 (fun e=>n1.2.2.1 e.symm),hrt.touch t3 (fun e=>n1.1 e.symm) (fun e=>n1.2.1 e.symm),
    t3.tab (hT'.tab l5 (fun hk=>hk.elim (fun e=>n3.2.1 e.symm) hx.2.2.2.2) h.com.tab).lt (fun e=>n1.2.2.2 e.symm) (hT'.tab l5 (fun hk=>hk.elim (fun e=>n3.2.1 e.symm) hx.2.2.2.2) h.com.tab),n1,n2,n3,hxS _ l1 hx.1,hxS _ l2 hx.2.1,hxS _ l3 hx.2.2.1,hxS _ l4 hx.2.2.2.1,hxS _ l5 hx.2.2.2.2⟩
  have hvm3:QXZ w3 (ZOk S' w2) s.A.q v':=hvm.cut.touch t3 (fun k hk _ e=>hxS _ l1 hx.1 (.inr (e ▸ hk)));have hcy3:Cyc w3 R y s.A.q z (V4X s.u (YLQ c s.base s.top (c.ot s.base)) L):=hcy.touch t3 (fun k hk e=>hxS _ l1 hx.1 (.inl (e ▸ hk)));have hv':HVm c v':=⟨hU.n.trans hv.n,hU.pg.trans hv.pg,hU.rm.trans hv.rm⟩;have hv'n:c.ot s.base+c.wd<=v'.n:=by rw [hU.n];exact (h.cf (by omega) hv).ln
  have hwd:=h.cok.wd;refine ⟨fun W gW=>?_,fun W gW=>?_⟩
  ·have k:V4y Tryz.prog 130 #[.pointer (some ⟨y,0,none⟩)] W (.int .i64 (((c.ot s.base:Nat):Int)+(Qd4 L:Nat))):=YCd (hcy3.gr gW);rw [hw,show ((c.ot s.base:Nat):Int)+(g.words:Nat)=((c.ot s.base+g.words:Nat):Int) by omega] at k;exact k
  ·refine (XQQ (b:=c.ot s.base) (t:=c.ot s.base+g.words) (hcom3.gr gW) (hvm3.gr gW) (Nat.le_add_right _ _) (by omega) hv'n (by omega) (fun k hk=>?_)).mono ?_
   ·have:=gW.size;rcases hk with hk | hk
    ·have:=hol k hk;omega
    ·have:=hk.2;omega
   ·rintro e W' ⟨rfl,rn,hrn,t4,hcom4⟩;refine ⟨rfl,?_⟩;have hgs:=gW.size;have t5:XF4 (fun k=>k=s.A.hp) w2 W':=(t3.trans (gW.touch _)).trans t4;have hxy:∀ k,R k\/ZOk S' w2 k->k≠s.A.hp:=fun k hk e=>hxS _ l1 hx.1 (e ▸ hk);have t6:XF4 (fun k=>k=s.A.hp) w3 W':=(gW.touch _).trans t4
    have hI:HIn W' c g { A:={ s.A with rn:=rn },X:=fun k=>R k\/ZOk S' w2 k,base:=c.ot s.base,top:=c.ot s.base+g.words,u:=u,F:=fun x=>(toV L (c.ot s.base) (s.F x)).toNat,o:=some y,lf:=(V4X s.u (YLQ c s.base s.top (c.ot s.base)) L).lf,nb:=(V4X s.u (YLQ c s.base s.top (c.ot s.base)) L).mv.length,cyc:=s.cyc,blk:=s.blk }:=by
     refine ⟨?_,⟨z,V4X s.u (YLQ c s.base s.top (c.ot s.base)) L,v',R,ZOk S' w2,⟨hcy3.touch t6 (fun k hk=>hxy k (.inl hk)),hvm3.touch t6 (fun k hk _=>hxy k (.inr hk)),hv',hO,?_,fun _ h=>h,fun k hk hk2=>(hR k hk).2 hk2.1,hcom4.tab,fun hk=>hxS _ l5 hx.2.2.2.2 (.inl hk),fun hk=>hxS _ l5 hx.2.2.2.2 (.inr hk),rfl,rfl,rfl,rfl,hk⟩,rfl,rfl⟩,?_,h.gok,h.cok,?_,?_,h.sl⟩
     ·rw [hroots] at hcom4;exact hcom4
     ·rw [<-hw];exact hA
     ·rw [<-hw];exact himg
     ·show c.ot s.base<=c.ot s.base+g.words/\c.ot s.base+g.words<=c.ot s.base+c.wd
      omega
     ·show c.ot s.base=c.pg\/(c.ot s.base=c.pg+c.wd/\c.kd≠3)
      rcases h.ot with ⟨e,-⟩ | ⟨e,-⟩
      ·exact .inr ⟨e,by omega⟩
      ·exact .inl e
    refine (VFm hI).mono ?_;rintro e w' ⟨rfl,s',h1⟩;refine ⟨rfl,s',⟨?_,h1.i,by rw [h1.A],fun k hk=>?_,h1.o⟩,?_,?_,by rw [h1.lf,<-hw];exact JnF _ _ _⟩
    ·exact ((hT'.mono (fun k _ hk=>hk.elim (fun e=>.inr (.inr (.inl e))) .inl)).trans' t5 (fun k _ e=>.inr (.inl e))).trans' h1.t (fun k _ e=>.inr (.inl e))
    ·have hq:∀ k,R k\/ZOk S' w2 k->plus s.S w k:=fun k hk=>by
      rcases hk with hk | hk
      ·exact .inr (Nat.le_trans hz1 (hRw k hk))
      ·rcases hSw k hk.1 with h3 | h3
       ·exact .inl (.inl h3.1)
       ·exact .inr (Nat.le_trans hz1 h3)
     rcases hk with hk | hk | hk | hk | hk
     ·exact hq k (h1.X k hk)
     ·rw [h1.A] at hk;exact .inl (.inr (.inl hk))
     ·rw [h1.A] at hk;exact .inl (.inr (.inr (.inl hk)))
     ·rw [h1.A] at hk;exact .inl (.inr (.inr (.inr (.inl hk))))
     ·rw [h1.A] at hk;refine .inr ?_;have:k=rn:=hk;have:=hT'.size;omega
    ·rw [h1.cyc,h1.lf];by_cases h0:(V4X s.u (YLQ c s.base s.top (c.ot s.base)) L).lf=0
     ·exact (if_pos ⟨by simp,h0⟩).trans (if_pos h0).symm
     ·exact (if_neg (fun hh=>h0 hh.2)).trans (if_neg h0).symm
    ·rw [h1.K.top,h1.K.base]
set_option maxHeartbeats 3200000 in
theorem JG2 (h:HIn w c g s) (hn:s.o=none) (hk:c.kd=1):Calls Tryz.prog 59 #[.pointer (some ⟨s.A.hp,0,none⟩)] w fun e w'=>e=.returned (.tuple #[])/\QZz w c g s w':=by
 have HPL:=hid (VZS h);have hm:=h.mem;rw [hn] at hm;obtain ⟨hV,hv,hsh,hlf⟩:=hm;obtain ⟨l1,l2,l3,l4,l5⟩:=h.com.lt;have hx:=h.com.x;have HOP:=hid (fun (W:World) (gg:Gr w W)=>VBz (hV.cut.gr gg) (h.com.rt.gr gg) (gg.tab l5 h.com.tab) (fun hk=>hx.2.2.2.2 hk.1) (fun hk=>hx.2.1 hk.1) (fun hk=>hx.2.2.1 hk.1) (h.cf (by omega) hv) (fun e=>h.com.n3.2.1 e.symm));have HFI:=hid (fun (W1 W2:World) (gg:Gr w W1) (e:Ending) (hO:QOD W1 (ZOk s.X w) s.A.q s.A.r s.A.g s.u (s.rs g) (YLQ c s.base s.top (c.ot s.base)) e W2)=>h.opn hn hk gg hO);have HC:=hid (fun (W:World) (gg:Gr w W)=>(h.com.gr gg).row);have c0:=h.com.row.lt;simp only [hn] at HC;obtain ⟨ap,hp⟩:∃ ap,ap=s.A.hp:=⟨_,rfl⟩;rw [<-hp] at HPL HFI HC c0 ⊢;obtain ⟨d,hd⟩:∃ d,d=c.ot s.base:=⟨_,rfl⟩;rw [<-hd] at HPL HFI HOP;have HPL2:Hid (Calls Tryz.prog 60 #[.pointer (some ⟨ap,0,none⟩)] w fun e w'=>e=.returned (.agg #[.int .i64 s.base,.int .i64 s.top,.int .i64 d,.int .i64 ((d+c.wd:Nat):Int),.int .i64 c.bk,.int .i64 c.st,.int .i64 c.ah])/\Gr w w'):=HPL;have HOP2:Hid (∀ W,Gr w W->Calls Tryz.prog 129 #[.pointer (some ⟨s.A.q,0,none⟩),.pointer (some ⟨s.A.r,0,none⟩),.agg #[.int .i64 s.base,.int .i64 s.top,.int .i64 d,.int .i64 ((d+c.wd:Nat):Int),.int .i64 c.bk,.int .i64 c.st,.int .i64 c.ah]] W (QOD W (ZOk s.X w) s.A.q s.A.r s.A.g s.u (s.rs g) (YLQ c s.base s.top d))):=HOP;clear HPL HOP;have HHP:=hid (And.intro hp l3);clear h hn hk hV hv hsh hlf l1 l2 l3 l4 l5 hx hp hd;go_enter Tryz.func59,Tryz.ntmps59;go_upto_region 1 with (go_at_call 60;refine (HPL2.o).mono ?_;rintro e w1 ⟨rfl,hg1⟩;have HG1:=hid hg1;clear hg1);have hga:=(Gr.refl w1).alloc (.cells #[.int .i64 s.base,.int .i64 s.top,.int .i64 d,.int .i64 ((d+c.wd:Nat):Int),.int .i64 c.bk,.int .i64 c.st,.int .i64 c.ah] 116);have HCR:=hid (Rec.new w1 116 [.int .i64 s.base,.int .i64 s.top,.int .i64 d,.int .i64 ((d+c.wd:Nat):Int),.int .i64 c.bk,.int .i64 c.st,.int .i64 c.ah]);have HGA:=hid hga.drew;have HGC:=hid (HG1.o.trans hga).drew;obtain ⟨Sx,hSx⟩:∃ Sx:World->Prop,Sx=fun W'=>(Rec W' ap 92 (hpL c s.A none s.cyc s.blk)/\Rec W' w1.heap.size 116 [.int .i64 s.base,.int .i64 s.top,.int .i64 d,.int .i64 ((d+c.wd:Nat):Int),.int .i64 c.bk,.int .i64 c.st,.int .i64 c.ah]):=⟨_,rfl⟩;have y8:∀ p:ZJV Sx,p.w.cell? ⟨ap,8,none⟩=some (.pointer (some ⟨s.A.q,0,none⟩)):=fun p=>by have h:=ZJV.get hSx p;exact h.1.cell (j:=8) rfl
 have y9:∀ p:ZJV Sx,p.w.cell? ⟨ap,9,none⟩=some (.pointer (some ⟨s.A.r,0,none⟩)):=fun p=>by have h:=ZJV.get hSx p;exact h.1.cell (j:=9) rfl
 have yc0:∀ p:ZJV Sx,p.w.cell? ⟨w1.heap.size,0,none⟩=some (.int .i64 s.base):=fun p=>by have h:=ZJV.get hSx p;exact h.2.cell (j:=0) rfl
 have yc1:∀ p:ZJV Sx,p.w.cell? ⟨w1.heap.size,1,none⟩=some (.int .i64 s.top):=fun p=>by have h:=ZJV.get hSx p;exact h.2.cell (j:=1) rfl
 have yc2:∀ p:ZJV Sx,p.w.cell? ⟨w1.heap.size,2,none⟩=some (.int .i64 d):=fun p=>by have h:=ZJV.get hSx p;exact h.2.cell (j:=2) rfl
 have yc3:∀ p:ZJV Sx,p.w.cell? ⟨w1.heap.size,3,none⟩=some (.int .i64 ((d+c.wd:Nat):Int)):=fun p=>by have h:=ZJV.get hSx p;exact h.2.cell (j:=3) rfl
 have yc4:∀ p:ZJV Sx,p.w.cell? ⟨w1.heap.size,4,none⟩=some (.int .i64 c.bk):=fun p=>by have h:=ZJV.get hSx p;exact h.2.cell (j:=4) rfl
 have yc5:∀ p:ZJV Sx,p.w.cell? ⟨w1.heap.size,5,none⟩=some (.int .i64 c.st):=fun p=>by have h:=ZJV.get hSx p;exact h.2.cell (j:=5) rfl
 have yc6:∀ p:ZJV Sx,p.w.cell? ⟨w1.heap.size,6,none⟩=some (.int .i64 c.ah):=fun p=>by have h:=ZJV.get hSx p;exact h.2.cell (j:=6) rfl
 have HS:Hid (∀ W',(Rec W' ap 92 (hpL c s.A none s.cyc s.blk)/\Rec W' w1.heap.size 116 [.int .i64 s.base,.int .i64 s.top,.int .i64 d,.int .i64 ((d+c.wd:Nat):Int),.int .i64 c.bk,.int .i64 c.st,.int .i64 c.ah])->Sx W'):=⟨fun W' h=>by rw [hSx];exact h⟩;have hS0:=HS.o _ (⟨HC.o _ HGC.o,HCR.o.gr (Gr.refl _).drew⟩);have inst:Inhabited (ZJV Sx):=⟨⟨_,hS0⟩⟩;clear hSx;refine Vv2 Sx 15 [([0,1,2,3,4,5,6,7,8],9)] [10,11,12,13,14] (by kernel_rfl) (by kernel_rfl) hS0 ?_;refine XGW ?_
 try simp only [XZy,List.getElem?_cons_zero,List.getElem?_cons_succ]
 repeat (go_big_quiet_step (fail))
 refine wpQuiet_nil ?_;go_wp2_with ((go_at_call 129;refine (HOP2.o _ HGC.o).mono ?_;rintro e w2 hO;obtain ⟨y,rfl,hrow,hrest⟩:=HFI.o _ _ HGC.o _ hO;have HRW:=hid hrow;have HRS:=hid hrest;have HCT:=hid ((HCR.o.gr (Gr.refl _).drew).touch hO.1 (fun hk=>hk.elim (fun e=>by have:=HHP.o.2;have:=HG1.o.size;omega) (fun hk=>by have:=hk.2;have:=HG1.o.size;omega)));clear hrow hrest hO));refine ⟨.inr (ZJV.of (HS.o _ (⟨HRW.o,HCT.o⟩))),?_⟩;refine Z9U ?_
 try simp only [XZy,List.getElem?_cons_zero,List.getElem?_cons_succ]
 repeat (go_big_quiet_step (fail))
 refine wpQuiet_nil ?_;refine NoPanic.normal ?_;clear y8 y9 yc0 yc1 yc2 yc3 yc4 yc5 yc6 hS0 inst;clear HS Sx;have z11:=HRW.o.cell (j:=11) rfl;have zf:=HRW.o.free 11;have z0l:=HRW.o.lt;go_upto_region 4 with (fail);clear z11 zf;generalize hw3:w2.setCell ⟨ap,11,none⟩ (.pointer (some ⟨y,0,none⟩))=w3;obtain ⟨hT,hL⟩:=HRS.o w3 hw3.symm;have HT:=hid hT;have HL:=hid hL
 have hc3:w3.cell? ⟨w1.heap.size,2,none⟩=some (.int .i64 d):=by
  rw [<-hw3];exact (HCT.o.touch ((XF4.refl (fun k=>k=ap) w2).setCell (a:=⟨ap,11,none⟩) (fun _=>rfl) _) (fun e=>by have:=HG1.o.size;omega)).cell (j:=2) rfl
 have HCC:=hid hc3;clear hT hL hc3 hw3 z0l;obtain ⟨Sx,hSx⟩:∃ Sx:World->Prop,Sx=fun W'=>W'.cell? ⟨w1.heap.size,2,none⟩=some (.int .i64 d):=⟨_,rfl⟩;have y2:∀ p:ZJV Sx,p.w.cell? ⟨w1.heap.size,2,none⟩=some (.int .i64 d):=fun p=>by have h:=ZJV.get hSx p;exact h
 have HS:Hid (∀ W',W'.cell? ⟨w1.heap.size,2,none⟩=some (.int .i64 d)->Sx W'):=⟨fun W' h=>by rw [hSx];exact h⟩;have hS0:=HS.o (w3.drew) (HCC.o);have inst:Inhabited (ZJV Sx):=⟨⟨_,hS0⟩⟩;clear hSx;refine Vv2 Sx 5 [([0,1,2,3],4),([],5)] [] (by kernel_rfl) (by kernel_rfl) hS0 ?_;refine XGW ?_
 try simp only [XZy,List.getElem?_cons_zero,List.getElem?_cons_succ]
 repeat (go_big_quiet_step (fail))
 refine wpQuiet_nil ?_;go_wp2_with ((go_at_call 130;refine (HT.o _ (Gr.refl w3).drew).mono ?_;rintro e w4 ⟨rfl,hg4⟩;have HG4:=hid ((Gr.refl w3).drew.trans hg4);clear hg4));refine ⟨.inr (ZJV.of (HS.o _ ((HG4.o.cell (ZQf HCC.o) 2).trans HCC.o))),?_⟩;refine XGW ?_
 try simp only [XZy,List.getElem?_cons_zero,List.getElem?_cons_succ]
 repeat (go_big_quiet_step (fail))
 refine wpQuiet_nil ?_;go_wp2_with ((go_at_call 62;refine (HL.o _ HG4.o).mono ?_;rintro e w5 ⟨rfl,he⟩;have HE:=hid he;clear he));refine ⟨.inl trivial,?_⟩;refine Z9U ?_
 try simp only [XZy]
 repeat (go_big_quiet_step (fail))
 refine wpQuiet_nil ?_;refine NoPanic.normal ?_;clear y2 hS0 inst;clear HS Sx;go_wp2_with (go_at_call 72;refine (HE.o).mono ?_;rintro e w6 ⟨rfl,ho⟩;have HOO:=hid ho;clear ho);exact bodyPost_end (results_none rfl _ _ _) rfl ⟨rfl,HOO.o⟩
end
end
end
section
section
open Go.RowKit Go.Shelf Word
theorem ShA.needP {base top:Nat} {v:Vm} (h:ShA base top v) {N:Nat} (hN:base+N<=top) (hu:v.pl.used<=v.pl.rm):Jsl v base ((base+N:Nat):Int)=0:=by
 have hpg:=h.ok.page.1;have hbt:=h.bt;rcases Nat.eq_zero_or_pos N with rfl | hN0
 ·unfold Jsl;rw [if_neg (by omega),if_pos (by omega)]
 obtain ⟨p0,hp0⟩:∃ p0,p0=base/v.pl.pg:=⟨_,rfl⟩;obtain ⟨p1,hp1⟩:∃ p1,p1=(base+N-1)/v.pl.pg:=⟨_,rfl⟩;have hp01:p0<=p1:=by rw [hp0,hp1];exact Nat.div_le_div_right (by omega)
 have hp1l:p1<v.pt.length:=by rw [hp1];exact (h.ok.split (a:=base+N-1) (by omega)).1
 have eA:((base:Int)/(v.pl.pg:Int)).toNat=p0:=by
  rw [show (base:Int)/(v.pl.pg:Int)=((base/v.pl.pg:Nat):Int) from rfl,Int.toNat_natCast,hp0]
 have eB:XZs v base ((base+N:Nat):Int)=p1+1-p0:=by
  unfold XZs;rw [show ((base+N:Nat):Int)-1=((base+N-1:Nat):Int) by omega,show ((base+N-1:Nat):Int)/(v.pl.pg:Int)=(((base+N-1)/v.pl.pg:Nat):Int) from rfl,show (base:Int)/(v.pl.pg:Int)=((base/v.pl.pg:Nat):Int) from rfl,<-hp0,<-hp1];omega
 have e0:Jfy v p0 (p1+1-p0)=[]:=by
  refine List.eq_nil_iff_forall_not_mem.2 fun p hp=>?_;obtain ⟨⟨h1,h2⟩,h3⟩:=YYE.1 hp;refine (h.map (p:=p) (by omega)).2 ⟨by rw [<-hp0];exact h1,?_⟩ h3;have h4:=Nat.mul_le_mul_right v.pl.pg (show p<=p1 by omega);have h5:=Nat.div_mul_le_self (base+N-1) v.pl.pg;rw [<-hp1] at h5;omega
 unfold Jsl;rw [if_neg (by omega),if_neg (by omega),eA,eB,e0,if_pos (by simpa using hu)]
section
variable {w w':World} {c:HCf} {g g':Gph} {s:HSt}
def ZOs (w:World) (c:HCf) (g:Gph) (s:HSt) (w':World):Prop:=∃ s',Xfw w c s g s' w'/\s'.lf=0/\s'.top=s'.base+g.words
structure Vej (w:World) (c:HCf) (g:Gph) (s:HSt) (A:HAd) (b t:Nat) (v:Vm) (F:Nat->Nat) (S2:Nat->Prop) (w3:World):Prop where
 tc:XF4 s.S w w3
 com:XL4 w3 S2 A c b t (g.S.map fun x=>(F x:Int)) none s.cyc s.blk
 vm:QXZ w3 S2 A.q v
 hv:HVm c v
 sh:ShA b t v
 img:Img v g F b t
 sub:∀ k,S2 k->s.X k\/w.heap.size<=k
 eA:A.hp=s.A.hp/\A.q=s.A.q/\A.g=s.A.g/\A.r=s.A.r
 rn:A.rn=s.A.rn\/w.heap.size<=A.rn
 bt:b<=t/\t<=b+c.wd
 bs:b=c.pg\/(b=c.pg+c.wd/\c.kd≠3)
theorem Vej.fin {A:HAd} {b t:Nat} {v:Vm} {F:Nat->Nat} {S2:Nat->Prop} {w3:World} (h:Vej w c g s A b t v F S2 w3) (h0:HIn w c g s) (ht:t=b+g.words):ZOs w c g s (w3.setCell ⟨s.A.hp,12,none⟩ (.int .i64 (wrap64 (s.cyc+1)))):=by
 obtain ⟨a1,a2,a3,a4⟩:=h.eA;have tp:XF4 (fun k=>k=s.A.hp) w3 (w3.setCell ⟨s.A.hp,12,none⟩ (.int .i64 (wrap64 (s.cyc+1)))):=(XF4.refl (fun k=>k=s.A.hp) w3).setCell (a:=⟨s.A.hp,12,none⟩) (fun _=>rfl) _;have hc:=h.com;have tp':XF4 (fun k=>k=A.hp) w3 (w3.setCell ⟨s.A.hp,12,none⟩ (.int .i64 (wrap64 (s.cyc+1)))):=(XF4.refl (fun k=>k=A.hp) w3).setCell (a:=⟨s.A.hp,12,none⟩) (fun _=>a1.symm) _;refine ⟨{ A:=A,X:=S2,base:=b,top:=t,u:=v,F:=F,o:=none,lf:=0,nb:=0,cyc:=wrap64 (s.cyc+1),blk:=s.blk },⟨h.tc.trans' tp (fun k _ e=>.inr (.inl e)),⟨?_,⟨h.vm.touch tp' (fun k hk _ e=>hc.x.1 (e ▸ hk)),h.hv,h.sh,rfl⟩,h.img,h0.gok,h0.cok,h.bt,h.bs,h0.sl⟩,a1,fun k hk=>?_,⟨fun _=>rfl,fun _=>rfl⟩⟩,rfl,ht⟩
 ·have hrow:=hc.row.set 12 (.int .i64 (wrap64 (s.cyc+1)));rw [a1] at hrow;refine ⟨by rw [a1];exact hrow,hc.rn.touch tp' (fun e=>hc.n1.2.2.1 e.symm),hc.rt.touch tp' (fun e=>hc.n1.1 e.symm) (fun e=>hc.n1.2.1 e.symm),tp'.tab hc.tab.lt (fun e=>hc.n1.2.2.2 e.symm) hc.tab,hc.n1,hc.n2,hc.n3,hc.x⟩
 ·rcases hk with hk | hk | hk | hk | hk
  ·exact (h.sub k hk).imp .inl id
  ·exact .inl (.inr (.inl (hk.trans a1)))
  ·exact .inl (.inr (.inr (.inl (hk.trans a3))))
  ·exact .inl (.inr (.inr (.inr (.inl (hk.trans a4)))))
  ·rcases h.rn with e | e
   ·exact .inl (.inr (.inr (.inr (.inr (hk.trans e)))))
   ·refine .inr ?_;have:k=A.rn:=hk;omega
theorem HIn.ran (h:HIn w c g s) (hn:s.o=none) {w1 w2:World} (hg1:Gr w w1) (hT:XF4 (fun b=>b=s.A.g\/ZOk s.X w b) w1 w2) {v:Vm} {F:Nat->Nat} (hV:QXZ w2 (plus (ZOk s.X w) w1) s.A.q v) (hR:V5d w2 s.A.r s.A.g (g.S.map fun x=>(F x:Int))):
  XF4 (fun k=>k=s.A.g\/s.X k) w w2/\XL4 w2 (ZOk (plus (ZOk s.X w) w1) w2) s.A c s.base s.top (g.S.map fun x=>(F x:Int)) none s.cyc s.blk/\QXZ w2 (ZOk (plus (ZOk s.X w) w1) w2) s.A.q v/\(∀ k,ZOk (plus (ZOk s.X w) w1) w2 k->(s.X k\/w.heap.size<=k)/\k<w2.heap.size):=by
 obtain ⟨l1,l2,l3,l4,l5⟩:=h.com.lt;have hz1:=hg1.size;have hx:=h.com.x;have n1:=h.com.n1;have n2:=h.com.n2;have n3:=h.com.n3;have hT':XF4 (fun k=>k=s.A.g\/s.X k) w w2:=(hg1.touch _).trans (hT.mono (fun k _ hk=>hk.imp id (fun h=>h.1)))
 have hxS:∀ k,k<w.heap.size->¬ s.X k->¬ ZOk (plus (ZOk s.X w) w1) w2 k:=fun k hk hn h2=>by
  rcases h2.1 with h3 | h3
  ·exact hn h3.1
  ·omega
 have hrow:Rec w2 s.A.hp 92 (hpL c s.A none s.cyc s.blk):=by
  have:=h.com.row;rw [hn] at this;exact this.touch hT' (fun hk=>hk.elim n1.2.1 hx.1)
 refine ⟨hT',⟨hrow,h.com.rn.touch hT' (fun hk=>hk.elim (fun e=>n3.1 e.symm) hx.2.2.2.1),hR,hT'.tab l5 (fun hk=>hk.elim (fun e=>n3.2.1 e.symm) hx.2.2.2.2) h.com.tab,n1,n2,n3,hxS _ l1 hx.1,hxS _ l2 hx.2.1,hxS _ l3 hx.2.2.1,hxS _ l4 hx.2.2.2.1,hxS _ l5 hx.2.2.2.2⟩,hV.cut,fun k hk=>⟨?_,hk.2⟩⟩;rcases hk.1 with h3 | h3
 ·exact .inl h3.1
 ·exact .inr (by omega)
theorem HIn.cpd (h:HIn w c g s) (hn:s.o=none) (hk:c.kd=2):(∀ W,Gr w W->Calls Tryz.prog 61 #[.pointer (some ⟨s.A.q,0,none⟩),.pointer (some ⟨s.A.r,0,none⟩),cfV (YLQ c s.base s.top (c.ot s.base))] W fun e w2=>
  e=.returned (.tuple #[.int .i64 ((c.ot s.base+g.words:Nat):Int),.int .i64 0])/\Rec w2 s.A.hp 92 (hpL c s.A none s.cyc s.blk)/\XF4 (fun k=>k=s.A.g\/ZOk s.X w k) W w2 ∧
   ∀ W2,Gr w2 W2->Calls Tryz.prog 62 #[.pointer (some ⟨s.A.hp,0,none⟩),.int .i64 (c.ot s.base:Nat),.int .i64 ((c.ot s.base+g.words:Nat):Int)] W2 fun e w3=>e=.returned (.tuple #[]) ∧
    ∃ r,Rec w3 s.A.hp 92 (hpL c { s.A with rn:=r } none s.cyc s.blk)/\ZOs w c g s (w3.setCell ⟨s.A.hp,12,none⟩ (.int .i64 (wrap64 (s.cyc+1))))):=fun W gW=>by
 have hm:=h.mem;rw [hn] at hm;obtain ⟨hV,hv,hsh,hlf⟩:=hm;obtain ⟨l1,l2,l3,l4,l5⟩:=h.com.lt;have hx:=h.com.x;have hbt:=h.bt;have hwd:=h.cok.wd;obtain ⟨L0,hL0,hin0,hfl0,hle0,hw0,-⟩:=h.rch (n:=s.u.n) (by have:=hsh.bt;omega);have hcf:=h.cf (by omega) hv;have hln:c.ot s.base+c.wd<=s.u.n:=hcf.ln;have hot1:1<=c.ot s.base:=by have:=h.cok.pg1;rcases h.ot with ⟨e,-⟩ | ⟨e,-⟩ <;> omega
 have hot2:c.ot s.base+c.wd<=2147483647:=by
  have:=h.cok.pw;rcases h.ot with ⟨e,-⟩ | ⟨e,-⟩ <;> omega
 have hall:∀ L,Zx6 s.u (s.rs g) s.u.n L->(∀ o∈L,s.base<=o.1/\o.1+o.2<=s.top)/\s.base+Qd4 L<=s.top/\Qd4 L=g.words:=fun L hM=>by
  have hin:=h.img.inn h.gok hM;exact ⟨hin,Vdb hM.mkd.good hin hbt.1,h.img.words h.gok hM⟩
 have hcp:JQF s.u (s.rs g) (YLQ c s.base s.top (c.ot s.base)):=⟨hcf,hL0.sound,fun L hM=>by
  obtain ⟨q1,q2,-⟩:=hall L hM;refine ⟨q1,?_⟩
  show c.ot s.base+Qd4 L<=c.ot s.base+c.wd
  omega⟩
 refine (Qj5 (hV.cut.gr gW) (h.com.rt.gr gW) (gW.tab l5 h.com.tab) (fun hk=>hx.2.2.2.2 hk.1) (fun hk=>hx.2.1 hk.1) (fun hk=>hx.2.2.1 hk.1) hcp (fun a a1 a2=>hsh.ld a1 a2) (fun a ha=>?_)).mono ?_
 ·obtain ⟨x,hx1,rfl⟩:=List.mem_map.1 ha;refine ⟨Int.natCast_nonneg _,?_⟩
  have h1:g.Ro x:=by
   by_cases h0:x=0
   ·exact .inl h0
   ·exact .inr (Gph.Rd.root hx1 h0)
  have:=h.adr h1;omega
 ·rintro e w2 ⟨L,hM,hT,hcase⟩;obtain ⟨q1,q2,hw⟩:=hall L hM;have hpgv:=hv.pg
  have hE:Jsl s.u (c.ot s.base:Nat) ((c.ot s.base+Qd4 L:Nat):Int)=0:=hsh.needC (W:=c.wd) (by rw [hpgv];exact h.cok.dv) hbt.2 hcf.at_ (by omega) (by omega) (by
   rw [hpgv,hv.rm];unfold HCf.fr
   rw [if_neg (by omega),if_pos hk];exact Nat.le_refl _)
  rcases hcase with ⟨hno,-⟩ | ⟨-,rfl,v1,v2,k,kq,hD,hV2,hR2⟩
  ·exact absurd hE hno
  ·obtain ⟨k1,k2,k3,k4,k5⟩:=ShA.copied (c:=YLQ c s.base s.top (c.ot s.base)) hsh hcf (by show c.ot s.base+Qd4 L<=c.ot s.base+c.wd;omega) hE hD;have hmv:=JW8 hV.ok hM (h.img.full h.gok hM) hD k5;have himg:=h.img.moved h.gok hmv hot1 (by show c.ot s.base+Qd4 L<=_;omega);have hR3:V5d w2 s.A.r s.A.g ((g.S.map fun x=>(s.F x:Int)).map (YQE v1 (QnE v1 (s.rs g) k) (YLQ c s.base s.top (c.ot s.base)).to)):=hR2;rw [h.img.roots hmv] at hR3;obtain ⟨t2,hc2,hv2,hs2⟩:=h.ran hn (gW) hT hV2 hR3;have hw':((c.ot s.base+Qd4 L:Nat):Int)=((c.ot s.base+g.words:Nat):Int):=by rw [hw]
   refine ⟨by rw [<-hw'];rfl,hc2.row,hT,fun W2 gW2=>?_⟩;refine (XQQ (b:=c.ot s.base) (t:=c.ot s.base+g.words) (hc2.gr gW2) (hv2.gr gW2) (Nat.le_add_right _ _) (by omega) (by rw [k2];exact hln) (by rw [k2];omega) (fun k hk=>Nat.lt_of_lt_of_le (hs2 k hk).2 gW2.size)).mono ?_;rintro e w3 ⟨rfl,rn,hrn,t3,hc3⟩;have hz:=t2.size;have hz2:=gW2.size;rw [hw] at k1 himg
   have hP:Vej w c g s { s.A with rn:=rn } (c.ot s.base) (c.ot s.base+g.words) _ _ _ w3:=⟨((t2.mono (fun k _ hk=>hk.elim (fun e=>.inr (.inr (.inl e))) .inl)).trans (gW2.touch _)).trans' t3 (fun k _ e=>.inr (.inl e)),hc3,(hv2.gr gW2).touch t3 (fun k hk _ e=>hc3.x.1 (e ▸ hk)),⟨k2.trans hv.n,k3.trans hv.pg,k4.trans hv.rm⟩,k1,himg,fun k hk=>(hs2 k hk).1,⟨rfl,rfl,rfl,rfl⟩,.inr (by show w.heap.size<=rn;omega),by omega,by
    rcases h.ot with ⟨e,-⟩ | ⟨e,-⟩
    ·exact .inr ⟨e,by omega⟩
    ·exact .inl e⟩
   exact ⟨rfl,rn,hc3.row,hP.fin h rfl⟩
theorem HIn.pkd (h:HIn w c g s) (hn:s.o=none) (hk:c.kd=3):∀ W,Gr w W->Calls Tryz.prog 63 #[.pointer (some ⟨s.A.q,0,none⟩),.pointer (some ⟨s.A.r,0,none⟩),.int .i64 s.base,.int .i64 s.top,.int .i64 c.st] W fun e w2=>
  e=.returned (.tuple #[.int .i64 ((s.base+g.words:Nat):Int),.int .i64 0])/\Rec w2 s.A.hp 92 (hpL c s.A none s.cyc s.blk) ∧
   ∀ W2,Gr w2 W2->Calls Tryz.prog 66 #[.pointer (some ⟨s.A.rn,0,none⟩),.int .i64 ((s.base+g.words:Nat):Int)] W2 fun e w3=>e=.returned (.int .i64 0) ∧
    Rec w3 s.A.hp 92 (hpL c s.A none s.cyc s.blk)/\ZOs w c g s (w3.setCell ⟨s.A.hp,12,none⟩ (.int .i64 (wrap64 (s.cyc+1)))):=fun W gW=>by
 have hm:=h.mem;rw [hn] at hm;obtain ⟨hV,hv,hsh,hlf⟩:=hm;obtain ⟨l1,l2,l3,l4,l5⟩:=h.com.lt;have hx:=h.com.x;have hbt:=h.bt;have hwd:=h.cok.wd;have hst:=h.cok.st;have hpgv:=hv.pg;have hsb:=hsh.bt;obtain ⟨L0,hL0,hin0,hfl0,hle0,hw0,-⟩:=h.rch (n:=s.u.n) (by omega);have hb:s.base=c.pg:=h.bs.elim id (fun e=>absurd hk e.2);have hp1:=h.cok.pg1;have hpw:=h.cok.pw;have hnn:s.u.n=c.pg+c.wd:=by rw [hv.n];exact if_pos hk
 have hused:s.u.pl.used<=s.u.pl.rm:=by
  have:=hsh.used (W:=c.wd) (by rw [hpgv];exact h.cok.dv) hbt.2;rw [hpgv] at this;rw [hv.rm];unfold HCf.fr;rw [if_neg (by omega),if_neg (by omega)];exact this
 refine (JZL (hV.cut.gr gW) (by omega) (h.com.rt.gr gW) (gW.tab l5 h.com.tab) (fun hk=>hx.2.2.2.2 hk.1) (fun hk=>hx.2.1 hk.1) (fun hk=>hx.2.2.1 hk.1) s.base s.top c.st).mono ?_;rintro e w2 ⟨hT,hcase⟩;rcases hcase with ⟨ha,-⟩ | ⟨-,(⟨hno,-⟩ | ⟨L,f,t,hI,hf,ht,hc2⟩)⟩
 ·rw [YMk.2 ⟨by omega,by omega,by omega,by omega,by omega⟩] at ha;cases ha
 ·exact absurd (⟨hL0,fun o ho=>by have:=hin0 o ho;omega⟩:Jx2 s.u (s.rs g) s.base s.top L0) (hno L0)
 ·obtain rfl:f=s.base:=by omega
  obtain rfl:t=s.top:=by omega
  have hM:=hI.1;have hin:=h.img.inn h.gok hM;have hle:=Vdb hM.mkd.good hin hbt.1;have hw:=h.img.words h.gok hM;have hE:=hsh.needP hle hused;rcases hc2 with ⟨hno,-⟩ | ⟨-,rfl,v1,v2,j,hD,hV2,hR2⟩
  ·exact absurd hE hno
  ·have hg1:∃ E,Ji4 s.u v1 E:=⟨_,hD.gr⟩;have himg1:=h.img.grown hV.ok hg1 (by omega);have hmv:=YxV hV.ok hM hE (by omega) hD;obtain ⟨k1,k2,k3,k4⟩:=hsh.packed hle hE hD;have himg:=himg1.moved h.gok hmv (by omega) (by omega);have hR3:V5d w2 s.A.r s.A.g ((g.S.map fun x=>(s.F x:Int)).map (toV L s.base)):=hR2;rw [himg1.roots hmv] at hR3;rw [hw] at k1 k2 k3 k4 himg hle hV2;obtain ⟨t2,hcm,hv2,hs2⟩:=h.ran hn gW hT hV2 hR3;refine ⟨by rw [hw],hcm.row,fun W2 gW2=>?_⟩;refine (JDi (hcm.gr gW2).rn (t:=s.base+g.words) (Nat.le_add_right _ _) (by omega)).mono ?_;rintro e w3 ⟨rfl,t3,hr3⟩;have hc3:=(hcm.gr gW2).turn t3 hr3;have hP:Vej w c g s s.A s.base (s.base+g.words) _ _ _ w3:=⟨((t2.mono (fun k _ hk=>hk.elim (fun e=>.inr (.inr (.inl e))) .inl)).trans (gW2.touch _)).trans' t3 (fun k _ e=>.inr (.inr (.inr (.inr e)))),hc3,(hv2.gr gW2).touch t3 (fun k hk _ e=>hc3.x.2.2.2.1 (e ▸ hk)),⟨k2.trans hv.n,k3.trans hv.pg,k4.trans hv.rm⟩,k1,himg,fun k hk=>(hs2 k hk).1,⟨rfl,rfl,rfl,rfl⟩,.inl rfl,by omega,h.bs⟩;exact ⟨rfl,hc3.row,hP.fin h rfl⟩
set_option maxHeartbeats 3200000 in
theorem QPI (h:HIn w c g s) (hn:s.o=none↔s.lf=0) (hk:c.kd=1):Calls Tryz.prog 16 #[.pointer (some ⟨s.A.hp,0,none⟩)] w fun e w'=>e=.returned (.tuple #[])/\ZOs w c g s w':=by
 have HN:=hid (XuX h);have HF:=hid (ZtQ h hn);have HF2:=hid (fun (W:World) (s1:HSt) (h:HIn W c g s1) (hn:s1.o=none↔s1.lf=0)=>ZtQ h hn);have HO:=hid (fun (W:World) (s1:HSt) (h:HIn W c g s1) (hn:s1.o=none)=>JG2 h hn hk);have c0:=h.cell (j:=0) rfl;have cl:=h.com.row.lt;obtain ⟨ap,hp⟩:∃ ap,ap=s.A.hp:=⟨_,rfl⟩;have HP:=hid hp;rw [<-hp] at HN HF c0 cl ⊢;rw [hk] at c0;clear h hn hk hp;go_enter Tryz.func16,Tryz.ntmps16;go_upto_region 1 with (go_at_call 50;refine (HN.o).mono ?_;rintro e w1 ⟨rfl,rfl⟩);go_upto_region 7 with (go_at_call 58;refine (HF.o).mono ?_;rintro e w1 ⟨rfl,s1,h1,h2,h3,h4⟩;have HR1:=hid h1;have HL1:=hid h4;have HO1:=hid (HO.o _ _ h1.i (h1.o.2 h4));rw [h1.hp,<-HP.o] at HO1;clear h1 h2 h3 h4);go_upto_region 8 with (go_at_call 59;refine (HO1.o).mono ?_;rintro e w2 ⟨rfl,s2,h1,h2,h3,h4⟩;have HR2:=hid (HR1.o.trans h1);have HT2:=hid h3;have HF3:=hid (HF2.o _ _ h1.i h1.o);rw [h1.hp,HR1.o.hp,<-HP.o] at HF3;clear h1 h2 h3 h4);go_wp2_with (go_at_call 58;refine (HF3.o).mono ?_;rintro e w3 ⟨rfl,s3,h1,h2,h3,h4⟩;have HR3:=hid (HR2.o.trans h1);have HK3:=hid (And.intro h3 h4);clear h1 h2 h3 h4);refine bodyPost_ret (results_none rfl _ _ _) rfl ⟨rfl,s3,HR3.o,HK3.o.2,?_⟩;rw [HK3.o.1.top,HK3.o.1.base];exact HT2.o
set_option maxHeartbeats 3200000 in
theorem ZAF (h:HIn w c g s) (hn:s.o=none) (hk:c.kd=3):Calls Tryz.prog 16 #[.pointer (some ⟨s.A.hp,0,none⟩)] w fun e w'=>e=.returned (.tuple #[])/\ZOs w c g s w':=by
 have HN:=hid (XuX h);have HPK:=hid (h.pkd hn hk);have HB:=hid (fun (W:World) (gg:Gr w W)=>JFl (h.com.gr gg).rn);have HT:=hid (fun (W:World) (gg:Gr w W)=>Vkj (h.com.gr gg).rn);have HC:=hid (fun (W:World) (gg:Gr w W)=>(h.com.gr gg).row);have c0:=h.cell (j:=0) rfl;have cl:=h.com.row.lt;simp only [hn] at HC;obtain ⟨ap,hp⟩:∃ ap,ap=s.A.hp:=⟨_,rfl⟩;rw [<-hp] at HN HPK HC c0 cl ⊢;rw [hk] at c0;clear h hn hk hp;go_enter Tryz.func16,Tryz.ntmps16;go_upto_region 1 with (go_at_call 50;refine (HN.o).mono ?_;rintro e w1 ⟨rfl,rfl⟩);go_upto_region 2 with (fail);clear c0;obtain ⟨Sx,hSx⟩:∃ Sx:World->Prop,Sx=fun W'=>Rec W' ap 92 (hpL c s.A none s.cyc s.blk):=⟨_,rfl⟩;have y5:∀ p:ZJV Sx,p.w.cell? ⟨ap,5,none⟩=some (.int .i64 c.st):=fun p=>by have h:=ZJV.get hSx p;exact h.cell (j:=5) rfl
 have y8:∀ p:ZJV Sx,p.w.cell? ⟨ap,8,none⟩=some (.pointer (some ⟨s.A.q,0,none⟩)):=fun p=>by have h:=ZJV.get hSx p;exact h.cell (j:=8) rfl
 have y9:∀ p:ZJV Sx,p.w.cell? ⟨ap,9,none⟩=some (.pointer (some ⟨s.A.r,0,none⟩)):=fun p=>by have h:=ZJV.get hSx p;exact h.cell (j:=9) rfl
 have y10:∀ p:ZJV Sx,p.w.cell? ⟨ap,10,none⟩=some (.pointer (some ⟨s.A.rn,0,none⟩)):=fun p=>by have h:=ZJV.get hSx p;exact h.cell (j:=10) rfl
 have HS:Hid (∀ W',Rec W' ap 92 (hpL c s.A none s.cyc s.blk)->Sx W'):=⟨fun W' h=>by rw [hSx];exact h⟩;have hS0:=HS.o _ (HC.o _ (Gr.refl w).drew);have inst:Inhabited (ZJV Sx):=⟨⟨_,hS0⟩⟩;clear hSx;refine Vv2 Sx 29 [([0,1,2,3,4,5,6,7,8,9,10,11,13,14,15,16,18,19,20,21,22],12),([],17),([],23)] [24,25,26,27,28] (by kernel_rfl) (by kernel_rfl) hS0 ?_;refine XGW ?_
 try simp only [XZy,List.getElem?_cons_zero,List.getElem?_cons_succ]
 repeat (go_big_quiet_step (fail))
 refine wpQuiet_nil ?_;go_wp2_with ((go_at_call 64;refine (HB.o _ (Gr.refl w).drew).mono ?_;rintro e w1 ⟨rfl,rfl⟩));refine ⟨.inr (ZJV.of (HS.o _ (HC.o _ (Gr.refl w).drew))),?_⟩;refine XGW ?_
 try simp only [XZy,List.getElem?_cons_zero,List.getElem?_cons_succ]
 repeat (go_big_quiet_step (fail))
 refine wpQuiet_nil ?_;go_wp2_with ((go_at_call 65;refine (HT.o _ (Gr.refl w).drew).mono ?_;rintro e w1 ⟨rfl,rfl⟩));refine ⟨.inr (ZJV.of (HS.o _ (HC.o _ (Gr.refl w).drew))),?_⟩;refine XGW ?_
 try simp only [XZy,List.getElem?_cons_zero,List.getElem?_cons_succ]
 repeat (go_big_quiet_step (fail))
 refine wpQuiet_nil ?_;go_wp2_with ((go_at_call 63;refine (HPK.o _ (Gr.refl w).drew).mono ?_;rintro e w2 ⟨rfl,hr,hst⟩;have HR2:=hid hr;have HS2:=hid hst;clear hr hst));refine ⟨.inr (ZJV.of (HS.o _ (HR2.o))),?_⟩;refine Z9U ?_
 try simp only [XZy,List.getElem?_cons_zero,List.getElem?_cons_succ]
 repeat (go_big_quiet_step (fail))
 refine wpQuiet_nil ?_;refine NoPanic.normal ?_;clear y5 y8 y9 y10 hS0 inst;clear HS Sx;have z10:=HR2.o.cell (j:=10) rfl;have zl:=HR2.o.lt;go_upto_region 14 with (go_at_call 66;refine (HS2.o _ (Gr.refl _)).mono ?_;rintro e w3 ⟨rfl,hr,hst⟩;have HR3:=hid hr;have HS3:=hid hst;clear hr hst);have z12:=HR3.o.cell (j:=12) rfl;have zf:=HR3.o.free 12;have zl3:=HR3.o.lt;go_wp2;exact bodyPost_end (results_none rfl _ _ _) rfl ⟨rfl,HS3.o⟩
set_option maxHeartbeats 3200000 in
theorem J1o (h:HIn w c g s) (hn:s.o=none) (hk:c.kd=2):Calls Tryz.prog 16 #[.pointer (some ⟨s.A.hp,0,none⟩)] w fun e w'=>e=.returned (.tuple #[])/\ZOs w c g s w':=by
 have HN:=hid (XuX h);have HPL:=hid (VZS h);have HCP:=hid (h.cpd hn hk);have HC:=hid (fun (W:World) (gg:Gr w W)=>(h.com.gr gg).row);have c0:=h.cell (j:=0) rfl;have cl:=h.com.row.lt;have l3:=h.com.lt.2.2.1;simp only [hn] at HC;obtain ⟨ap,hp⟩:∃ ap,ap=s.A.hp:=⟨_,rfl⟩;rw [<-hp] at HN HCP HPL HC c0 cl ⊢;rw [hk] at c0;obtain ⟨d,hd⟩:∃ d,d=c.ot s.base:=⟨_,rfl⟩;rw [<-hd] at HPL HCP;have HHP:=hid l3;have HPL2:Hid (Calls Tryz.prog 60 #[.pointer (some ⟨ap,0,none⟩)] w fun e w'=>e=.returned (.agg #[.int .i64 s.base,.int .i64 s.top,.int .i64 d,.int .i64 ((d+c.wd:Nat):Int),.int .i64 c.bk,.int .i64 c.st,.int .i64 c.ah])/\Gr w w'):=HPL
 have HCP2:Hid (∀ W,Gr w W->Calls Tryz.prog 61 #[.pointer (some ⟨s.A.q,0,none⟩),.pointer (some ⟨s.A.r,0,none⟩),.agg #[.int .i64 s.base,.int .i64 s.top,.int .i64 d,.int .i64 ((d+c.wd:Nat):Int),.int .i64 c.bk,.int .i64 c.st,.int .i64 c.ah]] W fun e w2=>
  e=.returned (.tuple #[.int .i64 ((d+g.words:Nat):Int),.int .i64 0])/\Rec w2 ap 92 (hpL c s.A none s.cyc s.blk)/\XF4 (fun k=>k=s.A.g\/ZOk s.X w k) W w2 ∧
   ∀ W2,Gr w2 W2->Calls Tryz.prog 62 #[.pointer (some ⟨ap,0,none⟩),.int .i64 d,.int .i64 ((d+g.words:Nat):Int)] W2 fun e w3=>e=.returned (.tuple #[]) ∧
    ∃ r,Rec w3 ap 92 (hpL c { s.A with rn:=r } none s.cyc s.blk)/\ZOs w c g s (w3.setCell ⟨ap,12,none⟩ (.int .i64 (wrap64 (s.cyc+1))))):=HCP
 clear HPL HCP;clear h hn hk hp hd l3;go_enter Tryz.func16,Tryz.ntmps16;go_upto_region 1 with (go_at_call 50;refine (HN.o).mono ?_;rintro e w1 ⟨rfl,rfl⟩);go_upto_region 11 with (go_at_call 60;refine (HPL2.o).mono ?_;rintro e w1 ⟨rfl,hg1⟩;have HG1:=hid hg1;clear hg1);have hga:=(Gr.refl w1).alloc (.cells #[.int .i64 s.base,.int .i64 s.top,.int .i64 d,.int .i64 ((d+c.wd:Nat):Int),.int .i64 c.bk,.int .i64 c.st,.int .i64 c.ah] 116);have HCR:=hid (Rec.new w1 116 [.int .i64 s.base,.int .i64 s.top,.int .i64 d,.int .i64 ((d+c.wd:Nat):Int),.int .i64 c.bk,.int .i64 c.st,.int .i64 c.ah]);have HGC:=hid (HG1.o.trans hga).drew;clear c0 hga;obtain ⟨Sx,hSx⟩:∃ Sx:World->Prop,Sx=fun W'=>(Rec W' ap 92 (hpL c s.A none s.cyc s.blk)/\Rec W' w1.heap.size 116 [.int .i64 s.base,.int .i64 s.top,.int .i64 d,.int .i64 ((d+c.wd:Nat):Int),.int .i64 c.bk,.int .i64 c.st,.int .i64 c.ah]):=⟨_,rfl⟩;have y8:∀ p:ZJV Sx,p.w.cell? ⟨ap,8,none⟩=some (.pointer (some ⟨s.A.q,0,none⟩)):=fun p=>by have h:=ZJV.get hSx p;exact h.1.cell (j:=8) rfl
 have y9:∀ p:ZJV Sx,p.w.cell? ⟨ap,9,none⟩=some (.pointer (some ⟨s.A.r,0,none⟩)):=fun p=>by have h:=ZJV.get hSx p;exact h.1.cell (j:=9) rfl
 have yc0:∀ p:ZJV Sx,p.w.cell? ⟨w1.heap.size,0,none⟩=some (.int .i64 s.base):=fun p=>by have h:=ZJV.get hSx p;exact h.2.cell (j:=0) rfl
 have yc1:∀ p:ZJV Sx,p.w.cell? ⟨w1.heap.size,1,none⟩=some (.int .i64 s.top):=fun p=>by have h:=ZJV.get hSx p;exact h.2.cell (j:=1) rfl
 have yc2:∀ p:ZJV Sx,p.w.cell? ⟨w1.heap.size,2,none⟩=some (.int .i64 d):=fun p=>by have h:=ZJV.get hSx p;exact h.2.cell (j:=2) rfl
 have yc3:∀ p:ZJV Sx,p.w.cell? ⟨w1.heap.size,3,none⟩=some (.int .i64 ((d+c.wd:Nat):Int)):=fun p=>by have h:=ZJV.get hSx p;exact h.2.cell (j:=3) rfl
 have yc4:∀ p:ZJV Sx,p.w.cell? ⟨w1.heap.size,4,none⟩=some (.int .i64 c.bk):=fun p=>by have h:=ZJV.get hSx p;exact h.2.cell (j:=4) rfl
 have yc5:∀ p:ZJV Sx,p.w.cell? ⟨w1.heap.size,5,none⟩=some (.int .i64 c.st):=fun p=>by have h:=ZJV.get hSx p;exact h.2.cell (j:=5) rfl
 have yc6:∀ p:ZJV Sx,p.w.cell? ⟨w1.heap.size,6,none⟩=some (.int .i64 c.ah):=fun p=>by have h:=ZJV.get hSx p;exact h.2.cell (j:=6) rfl
 have HS:Hid (∀ W',(Rec W' ap 92 (hpL c s.A none s.cyc s.blk)/\Rec W' w1.heap.size 116 [.int .i64 s.base,.int .i64 s.top,.int .i64 d,.int .i64 ((d+c.wd:Nat):Int),.int .i64 c.bk,.int .i64 c.st,.int .i64 c.ah])->Sx W'):=⟨fun W' h=>by rw [hSx];exact h⟩;have hS0:=HS.o _ (⟨HC.o _ HGC.o,HCR.o.gr (Gr.refl _).drew⟩);have inst:Inhabited (ZJV Sx):=⟨⟨_,hS0⟩⟩;clear hSx;refine Vv2 Sx 15 [([0,1,2,3,4,5,6,7,8],9)] [10,11,12,13,14] (by kernel_rfl) (by kernel_rfl) hS0 ?_;refine XGW ?_
 try simp only [XZy,List.getElem?_cons_zero,List.getElem?_cons_succ]
 repeat (go_big_quiet_step (fail))
 refine wpQuiet_nil ?_;go_wp2_with ((go_at_call 61;refine (HCP2.o _ HGC.o).mono ?_;rintro e w2 ⟨rfl,hr,ht,hst⟩;have HR2:=hid hr;have HS2:=hid hst;have HCT:=hid ((HCR.o.gr (Gr.refl _).drew).touch ht (fun hk=>hk.elim (fun e=>by have:=HHP.o;have:=HG1.o.size;omega) (fun hk=>by have:=hk.2;have:=HG1.o.size;omega)));clear hr hst ht));refine ⟨.inr (ZJV.of (HS.o _ (⟨HR2.o,HCT.o⟩))),?_⟩;refine Z9U ?_
 try simp only [XZy,List.getElem?_cons_zero,List.getElem?_cons_succ]
 repeat (go_big_quiet_step (fail))
 refine wpQuiet_nil ?_;refine NoPanic.normal ?_;clear y8 y9 yc0 yc1 yc2 yc3 yc4 yc5 yc6 hS0 inst;clear HS Sx;have zc2:=HCT.o.cell (j:=2) rfl;go_upto_region 14 with (go_at_call 62;refine (HS2.o _ (Gr.refl _)).mono ?_;rintro e w3 ⟨rfl,r,hr,hst⟩;have HR3:=hid hr;have HS3:=hid hst;clear hr hst);have z12:=HR3.o.cell (j:=12) rfl;have zf:=HR3.o.free 12;have zl3:=HR3.o.lt;go_wp2;exact bodyPost_end (results_none rfl _ _ _) rfl ⟨rfl,HS3.o⟩
theorem Vn4 (h:HIn w c g s) (hn:s.o=none↔s.lf=0):Calls Tryz.prog 16 #[.pointer (some ⟨s.A.hp,0,none⟩)] w fun e w'=>e=.returned (.tuple #[])/\ZOs w c g s w':=by
 by_cases h1:c.kd=1
 ·exact QPI h hn h1
 ·have ho:s.o=none:=by
   have hm:=h.mem;cases ho:s.o with
   | none=>rfl
   | some y=>
    rw [ho] at hm;obtain ⟨z,sl,v,R,Sv,hop,-⟩:=hm;exact absurd hop.kd h1
  by_cases h2:c.kd=2
  ·exact J1o h ho h2
  ·exact ZAF h ho (by have:=h.cok.kd;omega)
end
end
end
end Go.Proofs.YtmjoodkiiekjcaaGreatDoor
