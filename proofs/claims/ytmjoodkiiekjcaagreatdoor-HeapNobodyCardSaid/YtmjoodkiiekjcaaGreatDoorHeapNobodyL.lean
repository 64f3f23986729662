/- Part 12 of what HeapNobody leans on: my own lemmas, merged by shake.py. -/
import Derived.Test.YtmjoodkiiekjcaaGreatDoorHeapNobodyK
import Derived.Laws.FloatArith
namespace Go.Proofs.YtmjoodkiiekjcaaGreatDoor
set_option maxRecDepth 100000
section
section
open Go.RowKit Go.Shelf Word
section
variable {w w':World} {c:HCf} {g g':Gph} {s:HSt}
theorem HCf.q_in (hbk:Y1d c.bk=true) (hah:c.ah<=16):1<=c.q/\c.q<=1024/\c.spare<=18*1027:=by
 have hb:=Quq hbk;have h1:c.bk/c.pg<=c.bk:=Nat.div_le_self _ _;have hq:1<=c.q/\c.q<=1024:=by unfold HCf.q;omega
 refine ⟨hq.1,hq.2,?_⟩;unfold HCf.spare;exact Nat.mul_le_mul (by omega) (by omega)
theorem HCf.Ok.q (h:c.Ok):1<=c.q/\c.q<=1024/\c.spare<=18*1027:=HCf.q_in h.bk h.ah
set_option maxHeartbeats 1600000 in
theorem Yny (hbk:Y1d c.bk=true) (hp:1<=c.pg) (hah:c.ah<=16) (w:World):Calls Tryz.prog 118 #[Jdq c] w fun e w'=>e=.returned (.int .i64 c.spare)/\Gr w w':=by
 obtain ⟨hq1,hq2,hsp⟩:=HCf.q_in hbk hah;have hb:=Quq hbk;have hmax:=V9O Tryz.prog;have q1:((c.bk:Int).tdiv (c.pg:Int))=((c.bk/c.pg:Nat):Int):=rfl;have hm:max ((c.bk/c.pg:Nat):Int) 1=(c.q:Int):=by unfold HCf.q;omega
 have hmul:((c.ah:Int)+2)*((c.q:Int)+3)=(c.spare:Int):=by unfold HCf.spare;exact_mod_cast rfl
 have hdl:c.bk/c.pg<=c.bk:=Nat.div_le_self _ _;have HR:=hid (Rec.new w 24 (X2H c));have HMU:=hid hmul;generalize c.spare=sp at hsp hmul HMU ⊢;generalize c.q=qq at hq1 hq2 hm hmul HMU;generalize c.bk/c.pg=dd at q1 hm hdl;unfold Jdq X2H at *
 have r:=HR.o;have c1:=r.cell (j:=1) rfl;have c2:=r.cell (j:=2) rfl;have c6:=r.cell (j:=6) rfl;clear r hbk;go_enter Tryz.func118,Tryz.ntmps118;go_upto_region 1 with (fail);go_quiet (fail);go_wp2;go_ret;exact ⟨rfl,((Gr.refl w).alloc _).drewN _⟩
theorem Zvh.gr {X:Nat->Prop} {A:HAd} {base top:Nat} {u:Vm} {y:Nat} {z:ZH1} {sl:Sl} {v:Vm} {R Sv:Nat->Prop} (h:Zvh w X A c base top u y z sl v R Sv) (g:Gr w w'):Zvh w' X A c base top u y z sl v R Sv:=by
 have t:=g.touch (fun _=>False);exact ⟨h.cy.touch t (fun _ _ h=>h),h.vm.touch t (fun _ _ _ h=>h),h.hv,h.ok,h.a,h.x,h.d,t.tab h.tab.lt (fun h=>h) h.tab,h.t1,h.t2,h.bs,h.lm,h.bk,h.ah,h.kd⟩
def Xbc (w:World) (c:HCf) (s:HSt) (n:Nat):Prop:=∀ y,s.o=some y->∃ z sl v R Sv,Zvh w s.X s.A c s.base s.top s.u y z sl v R Sv/\sl.lf=s.lf/\sl.mv.length=s.nb/\v.pl.used+(n/c.pg+2+c.spare)<=v.pl.rm
def VQ6 (w:World) (c:HCf) (g:Gph) (s:HSt) (n:Nat) (w':World):Prop:=∃ s',Xfw w c s g s' w'/\Xwk s s'/\HKp s s'/\Xbc w' c s' n
set_option maxHeartbeats 3200000 in
theorem V0L (h:HIn w c g s) (hn:s.o=none↔s.lf=0) {n:Nat} (hn2:n<=256):Calls Tryz.prog 175 #[.pointer (some ⟨s.A.hp,0,none⟩),.int .i64 n] w fun e w'=>e=.returned (.tuple #[])/\VQ6 w c g s n w':=by
 have H0:Hid (Xfw w c s g s w/\Xwk s s/\HKp s s):=⟨Xfw.refl h hn,Xwk.same s,HKp.refl s⟩;have c1:=h.cell (j:=1) rfl;have cl:=h.com.row.lt;have hok:=h.cok;have hp1:=hok.pg1;obtain ⟨-,-,hsp⟩:=hok.q;have HS1:=hid (fun (W:World)=>Yny hok.bk hp1 hok.ah W);obtain ⟨ap,hp⟩:∃ ap,ap=s.A.hp:=⟨_,rfl⟩;have HP:=hid hp;rw [<-hp] at c1 cl ⊢;have q1:((n:Int).tdiv (c.pg:Int))=((n/c.pg:Nat):Int):=rfl;have hdl:n/c.pg<=n:=Nat.div_le_self _ _;obtain ⟨k,hk⟩:∃ k,k=n/c.pg:=⟨_,rfl⟩;have HK:=hid hk;rw [<-hk] at q1 hdl;obtain ⟨sp,hsp1⟩:∃ sp,sp=c.spare:=⟨_,rfl⟩;have HSP:=hid hsp1;rw [<-hsp1] at hsp HS1;clear h hn hp hk hok hsp1;unfold Jdq X2H at HS1;go_enter Tryz.func175,Tryz.ntmps175;go_wp2;clear c1
 go_loopw [] (fun wr=>∃ s',Hid (Xfw w c s g s' wr/\Xwk s s'/\HKp s s')) (fun wr=>XUL wr ap)
 case atStart=>exact ⟨s,H0⟩
 case round=>
  obtain ⟨s',HR⟩:=hrel;have hhp:ap=s'.A.hp:=HP.o.trans HR.o.1.hp.symm;have HHP:=hid hhp;have hrow:=HR.o.1.i.com.row;rw [<-hhp] at hrow;cases ho:s'.o with
  | none=>
   rw [ho] at hrow;have HO:=hid ho;have HC:=hid (fun (W:World) (gg:Gr wr W)=>hrow.gr gg);clear ho hrow hhp H0;go_upto_region 1 with (fail);obtain ⟨Sx,hSx⟩:∃ Sx:World->Prop,Sx=fun W'=>Rec W' ap 92 (hpL c s'.A none s'.cyc s'.blk):=⟨_,rfl⟩;have y11:∀ p:ZJV Sx,p.w.cell? ⟨ap,11,none⟩=some (.pointer none):=fun p=>by have h:=ZJV.get hSx p;exact h.cell (j:=11) rfl
   have HS:Hid (∀ W',Rec W' ap 92 (hpL c s'.A none s'.cyc s'.blk)->Sx W'):=⟨fun W' h=>by rw [hSx];exact h⟩;have hS0:=HS.o _ (HC.o _ (Gr.refl wr).drew);have inst:Inhabited (ZJV Sx):=⟨⟨_,hS0⟩⟩;clear hSx;refine Vv2 Sx 30 [([0,1,2,3,4,5,6,7,8,9,11,12,13,14,17,18,19,20,21],10),([],15),([16],22),([23,24,25,26,27],28)] [29] (by kernel_rfl) (by kernel_rfl) hS0 ?_;refine XGW ?_
   try simp only [XZy,List.getElem?_cons_zero,List.getElem?_cons_succ]
   repeat (go_big_quiet_step (fail))
   refine wpQuiet_nil ?_;go_wp2_with (fail);refine ⟨.inr (ZJV.of (HS.o _ (HC.o _ (Gr.refl wr).drew))),?_⟩;refine XGW ?_
   try simp only [XZy,List.getElem?_cons_zero,List.getElem?_cons_succ]
   repeat (go_big_quiet_step (fail))
   refine wpQuiet_nil ?_;go_wp2_with (fail);refine ⟨.inr (ZJV.of (HS.o _ (HC.o _ (Gr.refl wr).drew))),?_⟩;refine XGW ?_
   try simp only [XZy,List.getElem?_cons_zero,List.getElem?_cons_succ]
   repeat (go_big_quiet_step (fail))
   refine wpQuiet_nil ?_;go_wp2_with (fail);refine ⟨.inr (ZJV.of (HS.o _ (HC.o _ (Gr.refl wr).drew))),?_⟩;refine XGW ?_
   try simp only [XZy,List.getElem?_cons_zero,List.getElem?_cons_succ]
   repeat (go_big_quiet_step (fail))
   refine wpQuiet_nil ?_;go_wp2_with (fail);refine ⟨.inr (ZJV.of (HS.o _ (HC.o _ (Gr.refl wr).drew))),?_⟩;refine Z9U ?_
   try simp only [XZy,List.getElem?_cons_zero,List.getElem?_cons_succ]
   repeat (go_big_quiet_step (fail))
   refine wpQuiet_nil ?_;refine NoPanic.normal ?_;clear y11 hS0 inst;clear HS Sx;go_wp2;refine bodyPost_end (results_none rfl _ _ _) rfl ?_;exact ⟨rfl,s',HR.o.1.gr (Gr.refl wr).drew,HR.o.2.1,HR.o.2.2,fun y hy=>by rw [HO.o] at hy;cases hy⟩
  | some y=>
   have hm:=HR.o.1.i.mem;rw [ho] at hm;obtain ⟨z,sl,v,R,Sv,hop,e1,e2⟩:=hm;have HRM:=hid (fun (W:World) (gg:Gr wr W)=>JXO (hop.vm.gr gg));have HUS:=hid (fun (W:World) (gg:Gr wr W)=>XOa (hop.vm.gr gg));have hrm:v.pl.rm<=4096:=by rw [hop.hv.rm];exact HR.o.1.i.cok.fr
   have hus:=hop.a.room hop.ok;have hl:s'.lf≠0:=fun e=>by rw [HR.o.1.o.2 e] at ho;cases ho
   have HSTP:=hid (fun (W:World) (gg:Gr wr W)=>YFI (HR.o.1.i.gr gg) HR.o.1.o hl);have HOPN:=hid (And.intro hop (And.intro e1 e2));rw [ho] at hrow;rw [<-hhp] at HSTP;have HO:=hid ho;have HC:=hid (fun (W:World) (gg:Gr wr W)=>hrow.gr gg);have hup:v.pl.used<=v.pl.rm:=by omega
   obtain ⟨rm,hrm2⟩:∃ rm,rm=v.pl.rm:=⟨_,rfl⟩;obtain ⟨us,hus2⟩:∃ us,us=v.pl.used:=⟨_,rfl⟩;have HRU:=hid (And.intro hrm2 hus2);rw [<-hrm2] at HRM hrm hup;rw [<-hus2] at HUS hup;clear ho hrow hhp H0 hop e1 e2 hus hl hrm2 hus2;by_cases hlt:rm<us+(k+2+sp)
   ·have d0:decide ((rm:Int)-(us:Int)<(k:Int)+2+(sp:Int))=true:=decide_eq_true (by omega);clear hlt;go_upto_region 1 with (fail);obtain ⟨Sx,hSx⟩:∃ Sx:World->Prop,Sx=fun W'=>Rec W' ap 92 (hpL c s'.A (some y) s'.cyc s'.blk):=⟨_,rfl⟩;have y0:∀ p:ZJV Sx,p.w.cell? ⟨ap,0,none⟩=some (.int .i64 c.kd):=fun p=>by have h:=ZJV.get hSx p;exact h.cell (j:=0) rfl
    have y1:∀ p:ZJV Sx,p.w.cell? ⟨ap,1,none⟩=some (.int .i64 c.pg):=fun p=>by have h:=ZJV.get hSx p;exact h.cell (j:=1) rfl
    have y2:∀ p:ZJV Sx,p.w.cell? ⟨ap,2,none⟩=some (.int .i64 c.bk):=fun p=>by have h:=ZJV.get hSx p;exact h.cell (j:=2) rfl
    have y3:∀ p:ZJV Sx,p.w.cell? ⟨ap,3,none⟩=some (.int .i64 c.wd):=fun p=>by have h:=ZJV.get hSx p;exact h.cell (j:=3) rfl
    have y4:∀ p:ZJV Sx,p.w.cell? ⟨ap,4,none⟩=some (.int .i64 c.sl):=fun p=>by have h:=ZJV.get hSx p;exact h.cell (j:=4) rfl
    have y5:∀ p:ZJV Sx,p.w.cell? ⟨ap,5,none⟩=some (.int .i64 c.st):=fun p=>by have h:=ZJV.get hSx p;exact h.cell (j:=5) rfl
    have y6:∀ p:ZJV Sx,p.w.cell? ⟨ap,6,none⟩=some (.int .i64 c.ah):=fun p=>by have h:=ZJV.get hSx p;exact h.cell (j:=6) rfl
    have y7:∀ p:ZJV Sx,p.w.cell? ⟨ap,7,none⟩=some (.float .f64 c.tr):=fun p=>by have h:=ZJV.get hSx p;exact h.cell (j:=7) rfl
    have y8:∀ p:ZJV Sx,p.w.cell? ⟨ap,8,none⟩=some (.pointer (some ⟨s'.A.q,0,none⟩)):=fun p=>by have h:=ZJV.get hSx p;exact h.cell (j:=8) rfl
    have y11:∀ p:ZJV Sx,p.w.cell? ⟨ap,11,none⟩=some (.pointer (some ⟨y,0,none⟩)):=fun p=>by have h:=ZJV.get hSx p;exact h.cell (j:=11) rfl
    have HS:Hid (∀ W',Rec W' ap 92 (hpL c s'.A (some y) s'.cyc s'.blk)->Sx W'):=⟨fun W' h=>by rw [hSx];exact h⟩;have hS0:=HS.o _ (HC.o _ (Gr.refl wr).drew);have inst:Inhabited (ZJV Sx):=⟨⟨_,hS0⟩⟩;clear hSx;refine YvE Sx 28 [([0,1,2,3,4,5,6,7,8,9,11,12,13,14,17,18,19,20,21],10),([],15),([16],22),([23,24,25,26,27],28),([],29)] [] (by kernel_rfl) (by kernel_rfl) hS0 ?_;refine Xw6 ?_
    try simp only [XZy,List.getElem?_cons_zero,List.getElem?_cons_succ]
    repeat (go_big_quiet_step (fail))
    refine wpQuiet_nil ?_;go_wp2_with ((go_at_call 232;refine (HRM.o _ (Gr.refl wr).drew).mono ?_;rintro e w1 ⟨rfl,rfl⟩));refine ⟨.inr (ZJV.of (HS.o _ (HC.o _ (Gr.refl wr).drew))),?_⟩;refine Xw6 ?_
    try simp only [XZy,List.getElem?_cons_zero,List.getElem?_cons_succ]
    repeat (go_big_quiet_step (fail))
    refine wpQuiet_nil ?_;go_wp2_with ((go_at_call 67;refine (HUS.o _ (Gr.refl wr).drew).mono ?_;rintro e w1 ⟨rfl,rfl⟩));refine ⟨.inr (ZJV.of (HS.o _ (HC.o _ (Gr.refl wr).drew))),?_⟩;refine Xw6 ?_
    try simp only [XZy,List.getElem?_cons_zero,List.getElem?_cons_succ]
    repeat (go_big_quiet_step (fail))
    refine wpQuiet_nil ?_;go_wp2_with ((go_at_call 118;refine (HS1.o _).mono ?_;rintro e w1 ⟨rfl,hg1⟩;have HG1:=hid ((Gr.refl wr).drew.trans hg1);clear hg1));refine ⟨.inr (ZJV.of (HS.o _ (HC.o _ HG1.o))),?_⟩;refine Xw6 ?_
    try simp only [XZy,List.getElem?_cons_zero,List.getElem?_cons_succ]
    repeat (go_big_quiet_step (fail))
    refine wpQuiet_nil ?_;go_wp2_with ((go_at_call 19;refine (HSTP.o _ HG1.o).mono ?_;rintro e w2 ⟨rfl,s2,h1,h2,h3,h4⟩;have HS2:=hid (And.intro h1 (And.intro h2 (And.intro h3 h4)));clear h1 h2 h3 h4));refine ⟨.inl (by first | exact trivial | decide),?_⟩;refine Xw6 ?_
    try simp only [XZy,List.getElem?_cons_zero,List.getElem?_cons_succ]
    repeat (go_big_quiet_step (fail))
    refine wpQuiet_nil ?_;go_wp2_with (fail);refine ⟨.inl (by first | exact trivial | decide),?_⟩;refine YqX ?_
    try simp only [XZy]
    repeat (go_big_quiet_step (fail))
    refine wpQuiet_nil ?_;refine NoPanic.normal ?_;clear y0 y1 y2 y3 y4 y5 y6 y7 y8 y11 hS0 inst;clear HS Sx;go_wp2;go_round
    case rel=>exact ⟨s2,⟨(HR.o.1.gr HG1.o).trans HS2.o.1,HR.o.2.1.trans HS2.o.2.1,HR.o.2.2.trans HS2.o.2.2.1⟩⟩
    case measure=>
     have e1:=HS2.o.1.i.left;have e2:=HR.o.1.i.left;rw [HS2.o.1.hp,<-HHP.o] at e1;rw [<-HHP.o] at e2;have:=HS2.o.2.2.2;omega
   ·have d0:decide ((rm:Int)-(us:Int)<(k:Int)+2+(sp:Int))=false:=decide_eq_false (by omega);have HLT:=hid hlt;clear hlt;go_upto_region 1 with (fail);obtain ⟨Sx,hSx⟩:∃ Sx:World->Prop,Sx=fun W'=>Rec W' ap 92 (hpL c s'.A (some y) s'.cyc s'.blk):=⟨_,rfl⟩;have y0:∀ p:ZJV Sx,p.w.cell? ⟨ap,0,none⟩=some (.int .i64 c.kd):=fun p=>by have h:=ZJV.get hSx p;exact h.cell (j:=0) rfl
    have y1:∀ p:ZJV Sx,p.w.cell? ⟨ap,1,none⟩=some (.int .i64 c.pg):=fun p=>by have h:=ZJV.get hSx p;exact h.cell (j:=1) rfl
    have y2:∀ p:ZJV Sx,p.w.cell? ⟨ap,2,none⟩=some (.int .i64 c.bk):=fun p=>by have h:=ZJV.get hSx p;exact h.cell (j:=2) rfl
    have y3:∀ p:ZJV Sx,p.w.cell? ⟨ap,3,none⟩=some (.int .i64 c.wd):=fun p=>by have h:=ZJV.get hSx p;exact h.cell (j:=3) rfl
    have y4:∀ p:ZJV Sx,p.w.cell? ⟨ap,4,none⟩=some (.int .i64 c.sl):=fun p=>by have h:=ZJV.get hSx p;exact h.cell (j:=4) rfl
    have y5:∀ p:ZJV Sx,p.w.cell? ⟨ap,5,none⟩=some (.int .i64 c.st):=fun p=>by have h:=ZJV.get hSx p;exact h.cell (j:=5) rfl
    have y6:∀ p:ZJV Sx,p.w.cell? ⟨ap,6,none⟩=some (.int .i64 c.ah):=fun p=>by have h:=ZJV.get hSx p;exact h.cell (j:=6) rfl
    have y7:∀ p:ZJV Sx,p.w.cell? ⟨ap,7,none⟩=some (.float .f64 c.tr):=fun p=>by have h:=ZJV.get hSx p;exact h.cell (j:=7) rfl
    have y8:∀ p:ZJV Sx,p.w.cell? ⟨ap,8,none⟩=some (.pointer (some ⟨s'.A.q,0,none⟩)):=fun p=>by have h:=ZJV.get hSx p;exact h.cell (j:=8) rfl
    have y11:∀ p:ZJV Sx,p.w.cell? ⟨ap,11,none⟩=some (.pointer (some ⟨y,0,none⟩)):=fun p=>by have h:=ZJV.get hSx p;exact h.cell (j:=11) rfl
    have HS:Hid (∀ W',Rec W' ap 92 (hpL c s'.A (some y) s'.cyc s'.blk)->Sx W'):=⟨fun W' h=>by rw [hSx];exact h⟩;have hS0:=HS.o _ (HC.o _ (Gr.refl wr).drew);have inst:Inhabited (ZJV Sx):=⟨⟨_,hS0⟩⟩;clear hSx;refine YvE Sx 28 [([0,1,2,3,4,5,6,7,8,9,11,12,13,14,17,18,19,20,21],10),([],15),([16],22),([23,24,25,26,27],28),([],29)] [] (by kernel_rfl) (by kernel_rfl) hS0 ?_;refine Xw6 ?_
    try simp only [XZy,List.getElem?_cons_zero,List.getElem?_cons_succ]
    repeat (go_big_quiet_step (fail))
    refine wpQuiet_nil ?_;go_wp2_with ((go_at_call 232;refine (HRM.o _ (Gr.refl wr).drew).mono ?_;rintro e w1 ⟨rfl,rfl⟩));refine ⟨.inr (ZJV.of (HS.o _ (HC.o _ (Gr.refl wr).drew))),?_⟩;refine Xw6 ?_
    try simp only [XZy,List.getElem?_cons_zero,List.getElem?_cons_succ]
    repeat (go_big_quiet_step (fail))
    refine wpQuiet_nil ?_;go_wp2_with ((go_at_call 67;refine (HUS.o _ (Gr.refl wr).drew).mono ?_;rintro e w1 ⟨rfl,rfl⟩));refine ⟨.inr (ZJV.of (HS.o _ (HC.o _ (Gr.refl wr).drew))),?_⟩;refine Xw6 ?_
    try simp only [XZy,List.getElem?_cons_zero,List.getElem?_cons_succ]
    repeat (go_big_quiet_step (fail))
    refine wpQuiet_nil ?_;go_wp2_with ((go_at_call 118;refine (HS1.o _).mono ?_;rintro e w1 ⟨rfl,hg1⟩;have HG1:=hid ((Gr.refl wr).drew.trans hg1);clear hg1));refine ⟨.inr (ZJV.of (HS.o _ (HC.o _ HG1.o))),?_⟩;refine Xw6 ?_
    try simp only [XZy,List.getElem?_cons_zero,List.getElem?_cons_succ]
    repeat (go_big_quiet_step (fail))
    refine wpQuiet_nil ?_;go_wp2_with (fail);refine ⟨.inl (by first | exact trivial | decide),?_⟩;refine Xw6 ?_
    try simp only [XZy,List.getElem?_cons_zero,List.getElem?_cons_succ]
    repeat (go_big_quiet_step (fail))
    refine wpQuiet_nil ?_;go_wp2_with (fail);refine ⟨.inl (by first | exact trivial | decide),?_⟩;refine YqX ?_
    try simp only [XZy]
    repeat (go_big_quiet_step (fail))
    refine wpQuiet_nil ?_;refine NoPanic.normal ?_;clear y0 y1 y2 y3 y4 y5 y6 y7 y8 y11 hS0 inst;clear HS Sx;go_wp2;refine bodyPost_end (results_none rfl _ _ _) rfl ?_;refine ⟨rfl,s',HR.o.1.gr HG1.o,HR.o.2.1,HR.o.2.2,fun y' hy=>?_⟩;obtain rfl:y'=y:=by rw [HO.o] at hy;exact (Option.some.inj hy).symm
    refine ⟨z,sl,v,R,Sv,HOPN.o.1.gr HG1.o,HOPN.o.2.1,HOPN.o.2.2,?_⟩;rw [<-HK.o,<-HSP.o,<-HRU.o.1,<-HRU.o.2];have:=HLT.o;omega
end
end
end
section
section
open Go.RowKit Go.Shelf Word
section
variable {w w' w1 w2:World} {c:HCf} {g g':Gph} {s:HSt} {X:Nat->Prop} {A:HAd} {base top n:Nat} {u:Vm} {o:Option Nat} {lf nb:Nat}
def XQ3 (w:World) (X:Nat->Prop) (A:HAd) (c:HCf) (base top:Nat) (u:Vm) (n:Nat):Option Nat->Nat->Nat->Prop
 | none,lf,_=>∃ v1,QXZ w X A.q v1/\HVm c u/\ShA base top u/\Ji4 u v1 (J5L u top ((top+n:Nat):Int))/\Jsl u top ((top+n:Nat):Int)=0/\top+n<=u.n/\lf=0
 | some y,lf,nb=>∃ z sl v R Sv v1,(Cyc w R y A.q z sl/\QXZ w Sv A.q v1/\HVm c v/\ZEw sl v/\HpA top u sl v/\(∀ k,R k\/Sv k->X k)/\(∀ k,R k->¬ Sv k)/\VRW w/\¬ R 1/\¬ Sv 1 ∧
   sl.cf.to=base/\sl.cf.lm=base+c.wd/\sl.cf.bk=c.bk/\sl.cf.ah=c.ah/\c.kd=1)/\sl.lf=lf/\sl.mv.length=nb/\Ji4 v v1 (J5L v top ((top+n:Nat):Int))/\Jsl v top ((top+n:Nat):Int)=0/\v.pl.used+(n/c.pg+2+c.spare)<=v.pl.rm/\top+n<=base+c.wd
theorem HVm.of {v v':Vm} (h:HVm c v) (h1:v'.n=v.n) (h2:v'.pl.pg=v.pl.pg) (h3:v'.pl.rm=v.pl.rm):HVm c v':=⟨h1.trans h.n,h2.trans h.pg,h3.trans h.rm⟩
theorem XQ3.made (h:XQ3 w X A c base top u n o lf nb) (h0:0<top) {p f k:Nat} (hs:p+f+k<=255) (hn:n=1+p+f+k):∃ v1 Sv,QXZ w Sv A.q v1/\(∀ k,Sv k->X k)/\Y3I v1 top ⟨p,f,k⟩=0 ∧
  ∃ u',(∀ w2,XF4 Sv w w2->QXZ w2 (plus Sv w) A.q (mkVm v1 top ⟨p,f,k⟩)->V2z w2 (plus X w) A c base (top+n) u' o lf nb) ∧
   (∀ a:Nat,a<top->u.ldE a=0->u'.ldE a=0/\u'.ldV a=u.ldV a)/\(∀ a:Nat,top<=a->a<top+n->u'.ldE a=0)/\u'.ldV top=YsO p f k/\∀ i:Nat,i<p+f+k->u'.ldV ((top+1+i:Nat):Int)=0:=by
 match o,h with
 | none,⟨v1,hV,hv,hsh,hG,hE,hle,e0⟩=>
  obtain ⟨m1,m2,m3,m4,m5,m6⟩:=hsh.alloc hs hn h0 hle hE hG;refine ⟨v1,X,hV,fun _ h=>h,m1,mkVm v1 top ⟨p,f,k⟩,fun w2 t hV2=>⟨hV2,hv.of (m3.sm.n.trans hG.n) (m3.sm.pg.trans hG.pg) (m3.sm.rm.trans hG.rm),m2,e0⟩,fun a a1 a2=>⟨?_,m4 a a1⟩,fun a a1 a2=>m2.ld (by have:=hsh.bt;omega) a2,m5,m6⟩;rw [m3.sm.ldE,hG.ldE hsh.ok (by have:=hsh.bt;omega)]
  split
  ·rfl
  ·exact a2
 | some y,⟨z,sl,v,R,Sv,v1,⟨hcy,hV,hv,hok,hA,hX,hd,hT,t1,t2,b1,b2,b3,b4,hk⟩,e1,e2,hG,hE,hrm,hfit⟩=>
  have hq:sl.q=c.q:=by
   show max 1 (sl.cf.bk/sl.pg)=max 1 (c.bk/c.pg)
   rw [b3,<-hok.mid.pg,hv.pg]
  have hpg:sl.pg=c.pg:=by rw [<-hok.mid.pg];exact hv.pg
  obtain ⟨m1,m2,u',m3,m4,m5,m6⟩:=hA.alloc hok hs hn (by rw [b2];exact hfit) hE hG (by rw [hpg,b4,hq];exact hrm);have hst:=hok.st;have hln:=hst.cf.ln;have hlm:=m3.lm
  have hsn:(mkVm v1 top ⟨p,f,k⟩).n=v.n/\(mkVm v1 top ⟨p,f,k⟩).pl.pg=v.pl.pg/\(mkVm v1 top ⟨p,f,k⟩).pl.rm=v.pl.rm:=by
   have hsame:Z1d v1 (mkVm v1 top ⟨p,f,k⟩):=(Z1d.refl hG.ok).mkVm _ _;exact ⟨hsame.sm.n.trans hG.n,hsame.sm.pg.trans hG.pg,hsame.sm.rm.trans hG.rm⟩
  refine ⟨v1,Sv,hV,fun k hk=>hX k (.inr hk),m1,u',fun w2 t hV2=>⟨z,sl,mkVm v1 top ⟨p,f,k⟩,R,plus Sv w,⟨hcy.touch t (fun k hk hk2=>hd k hk hk2),hV2,hv.of hsn.1 hsn.2.1 hsn.2.2,m2,m3,fun k hk=>?_,fun k hk hk2=>?_,t.tab hT.lt t2 hT,t1,fun hk=>hk.elim t2 (fun hk=>by have:=hT.lt;omega),b1,b2,b3,b4,hk⟩,e1,e2⟩,fun a a1 a2=>⟨m3.un a (by omega),m4 a a1⟩,fun a a1 a2=>m3.un a (by omega),m5,m6⟩
  ·rcases hk with hk | hk | hk
   ·exact .inl (hX k (.inl hk))
   ·exact .inl (hX k (.inr hk))
   ·exact .inr hk
  ·rcases hk2 with hk2 | hk2
   ·exact hd k hk hk2
   ·have:=hcy.od.lt k hk;omega
theorem XQ3.gr (h:XQ3 w X A c base top u n o lf nb) (g:Gr w w'):XQ3 w' X A c base top u n o lf nb:=by
 match o,h with
 | none,⟨v1,hV,hr⟩=>exact ⟨v1,hV.gr g,hr⟩
 | some y,⟨z,sl,v,R,Sv,v1,⟨hcy,hV,hv,hok,hA,hX,hd,hT,hr⟩,hr2⟩=>exact ⟨z,sl,v,R,Sv,v1,⟨hcy.gr g,hV.gr g,hv,hok,hA,hX,hd,g.tab hT.lt hT,hr⟩,hr2⟩
structure HAl (w:World) (c:HCf) (g:Gph) (s:HSt) (n:Nat) (w1:World):Prop where
 t:XF4 (fun k=>k=s.A.rn\/s.X k) w w1
 com:XL4 w1 (plus s.X w) s.A c s.base (s.top+n) (s.rs g) s.o s.cyc s.blk
 gw:XQ3 w1 (plus s.X w) s.A c s.base s.top s.u n s.o s.lf s.nb
 fit:s.top+n<=s.base+c.wd
theorem HAl.gr (h:HAl w c g s n w1) (gr:Gr w1 w2):HAl w c g s n w2:=⟨h.t.trans (gr.touch _),h.com.gr gr,h.gw.gr gr,h.fit⟩
theorem HIn.bal (h:HIn w c g s) (hr:Xbc w c s n) (hn1:1<=n) (hn2:n<=256):Calls Tryz.prog 89 #[.pointer (some ⟨s.A.rn,0,none⟩),.int .i64 n] w fun e w1=>
  (s.base+c.wd<s.top+n/\e=.returned (.tuple #[.int .i64 0,.int .i64 21])/\Gr w w1)\/(s.top+n<=s.base+c.wd/\e=.returned (.tuple #[.int .i64 s.top,.int .i64 0])/\HAl w c g s n w1):=by
 have hx:=h.com.x;have hbt:=h.bt;have hcok:=h.cok;have hlt:=h.com.lt
 have hcn:s.base+c.wd<=c.n:=by
  unfold HCf.n;rcases h.bs with e | ⟨e,e3⟩
  ·split <;> omega
  ·rw [if_neg e3];omega
 have hfr:c.wd/c.pg<=c.fr:=by
  unfold HCf.fr
  split
  ·omega
  ·split <;> omega
 have hcom:∀ {S:Nat->Prop} {w1:World},(∀ k,S k->s.X k)->XF4 (fun k=>k=s.A.rn\/S k) w w1->Joi w1 s.A.rn s.A.q s.base (s.top+n) (s.base+c.wd)->XL4 w1 (plus s.X w) s.A c s.base (s.top+n) (s.rs g) s.o s.cyc s.blk:=fun {S w1} hS t hrn=>by
  obtain ⟨l1,l2,l3,l4,l5⟩:=hlt;have k:=h.com;have hxS:∀ k,¬ s.X k->¬ S k:=fun k hk hs=>hk (hS k hs);have hxp:∀ k,k<w.heap.size->¬ s.X k->¬ plus s.X w k:=fun k hk hn hp=>hp.elim hn (fun e=>by omega);exact ⟨k.row.touch t (fun e=>e.elim k.n1.2.2.1 (hxS _ hx.1)),hrn,k.rt.touch t (fun e=>e.elim k.n2.2.1 (hxS _ hx.2.1)) (fun e=>e.elim k.n3.1 (hxS _ hx.2.2.1)),t.tab l5 (fun e=>e.elim (fun e=>k.n3.2.2 e.symm) (hxS _ hx.2.2.2.2)) k.tab,k.n1,k.n2,k.n3,hxp _ l1 hx.1,hxp _ l2 hx.2.1,hxp _ l3 hx.2.2.1,hxp _ l4 hx.2.2.2.1,hxp _ l5 hx.2.2.2.2⟩
 cases ho:s.o with
 | none=>
  have hm:=h.mem;rw [ho] at hm;obtain ⟨hV,hv,hsh,hlf⟩:=hm;have hnn:s.u.n=c.n:=hv.n;refine (Xej h.com.rn hV hx.2.2.2.1 hn1 hbt.2 (by omega) (fun hle=>hsh.need (W:=c.wd) hn1 (by rw [hv.pg];exact hcok.dv) hle (by omega) (by rw [hv.pg,hv.rm];exact hfr))).mono ?_;rintro e w1 (⟨h1,rfl,h3⟩ | ⟨h1,rfl,t,⟨v1,hG,hV1⟩,hrn⟩)
  ·exact .inl ⟨h1,rfl,h3⟩
  ·refine .inr ⟨h1,rfl,t,hcom (fun _ h=>h) t hrn,?_,h1⟩;rw [ho];exact ⟨v1,hV1,hv,hsh,hG,hsh.need (W:=c.wd) hn1 (by rw [hv.pg];exact hcok.dv) h1 (by omega) (by rw [hv.pg,hv.rm];exact hfr),by omega,hlf⟩
 | some y=>
  obtain ⟨z,sl,v,R,Sv,hop,e1,e2,hrm⟩:=hr y ho;have hnn:v.n=c.n:=hop.hv.n
  have hE:s.top+n<=s.base+c.wd->Jsl v s.top ((s.top+n:Nat):Int)=0:=fun hle=>by
   have hpg:=hop.hv.pg;have hp1:=hcok.pg1
   have hb:XZs v s.top ((s.top+n:Nat):Int)<=n/c.pg+2:=by
    unfold XZs;rw [show ((s.top+n:Nat):Int)-1=((s.top+n-1:Nat):Int) by omega,hpg,show ((s.top+n-1:Nat):Int)/(c.pg:Int)=(((s.top+n-1)/c.pg:Nat):Int) from rfl,show ((s.top:Nat):Int)/(c.pg:Int)=((s.top/c.pg:Nat):Int) from rfl]
    have h1:(s.top+n-1)/c.pg<=s.top/c.pg+n/c.pg+1:=by
     have q1:=Nat.div_add_mod s.top c.pg;have q2:=Nat.mod_lt s.top (show 0<c.pg by omega);have q3:=Nat.div_add_mod n c.pg;have q4:=Nat.mod_lt n (show 0<c.pg by omega);refine Nat.le_of_lt_succ ((Nat.div_lt_iff_lt_mul (by omega)).2 ?_)
     have q5:(s.top/c.pg+n/c.pg+1+1)*c.pg=c.pg*(s.top/c.pg)+c.pg*(n/c.pg)+c.pg+c.pg:=by
      rw [Nat.add_mul,Nat.add_mul,Nat.add_mul,Nat.one_mul,Nat.mul_comm (s.top/c.pg),Nat.mul_comm (n/c.pg)]
     show s.top+n-1<(s.top/c.pg+n/c.pg+1+1)*c.pg
     rw [q5];generalize c.pg*(s.top/c.pg)=P1 at *
     generalize c.pg*(n/c.pg)=P2 at *
     omega
    generalize (s.top+n-1)/c.pg=P1 at *
    generalize s.top/c.pg=P2 at *
    generalize n/c.pg=P3 at *
    omega
   unfold Jsl;rw [if_neg (by omega),if_neg (by omega),if_pos];have:=ZmX v ((s.top:Int)/(v.pl.pg:Int)).toNat (XZs v s.top ((s.top+n:Nat):Int));omega
  refine (Xej h.com.rn hop.vm (fun hk=>hx.2.2.2.1 (hop.x _ (.inr hk))) hn1 hbt.2 (by omega) hE).mono ?_;rintro e w1 (⟨h1,rfl,h3⟩ | ⟨h1,rfl,t,⟨v1,hG,hV1⟩,hrn⟩)
  ·exact .inl ⟨h1,rfl,h3⟩
  ·have hXS:∀ k,Sv k->s.X k:=fun k hk=>hop.x k (.inr hk);have htl:=hop.tab.lt;refine .inr ⟨h1,rfl,t.mono (fun k _ hk=>hk.imp id (hXS k)),hcom hXS t hrn,?_,h1⟩;rw [ho];have hRn:∀ k,R k->¬ (k=s.A.rn\/Sv k):=fun k hk e=>e.elim (fun e=>hx.2.2.2.1 (by rw [<-e];exact hop.x k (.inl hk))) (hop.d k hk);refine ⟨z,sl,v,R,plus Sv w,v1,⟨hop.cy.touch t hRn,hV1,hop.hv,hop.ok,hop.a,fun k hk=>?_,fun k hk hk2=>?_,t.tab htl (fun hk=>hk.elim (fun e=>h.com.n3.2.2 e.symm) hop.t2) hop.tab,hop.t1,fun hk=>hk.elim hop.t2 (fun hk=>by omega),hop.bs,hop.lm,hop.bk,hop.ah,hop.kd⟩,e1,e2,hG,hE h1,hrm,h1⟩
   ·rcases hk with hk | hk | hk
    ·exact .inl (hop.x k (.inl hk))
    ·exact .inl (hop.x k (.inr hk))
    ·exact .inr hk
   ·rcases hk2 with hk2 | hk2
    ·exact hop.d k hk hk2
    ·have:=hop.cy.od.lt k hk;omega
end
end
end
section
section
open Go.RowKit Go.Shelf Word
section
variable {w w' w1 w2:World} {c:HCf} {g g':Gph} {s:HSt} {n:Nat}
theorem HIn.bal0 (h:HIn w c g s) (hr:Xbc w c s n) (hn1:1<=n) (hn2:n<=256) (hf:¬ s.top+n<=s.base+c.wd):Calls Tryz.prog 89 #[.pointer (some ⟨s.A.rn,0,none⟩),.int .i64 n] w fun e w1=>e=.returned (.tuple #[.int .i64 0,.int .i64 21])/\Gr w w1:=
 (h.bal hr hn1 hn2).mono fun _ _ hh=>by
  rcases hh with ⟨-,h2,h3⟩ | ⟨h1,-⟩
  ·exact ⟨h2,h3⟩
  ·exact absurd h1 hf
theorem HIn.bal1 (h:HIn w c g s) (hr:Xbc w c s n) (hn1:1<=n) (hn2:n<=256) (hf:s.top+n<=s.base+c.wd):Calls Tryz.prog 89 #[.pointer (some ⟨s.A.rn,0,none⟩),.int .i64 n] w fun e w1=>e=.returned (.tuple #[.int .i64 s.top,.int .i64 0])/\HAl w c g s n w1:=
 (h.bal hr hn1 hn2).mono fun _ _ hh=>by
  rcases hh with ⟨h1,-⟩ | ⟨-,h2,h3⟩
  ·omega
  ·exact ⟨h2,h3⟩
theorem Xbc.none (h:s.o=none):Xbc w c s n:=fun y hy=>by rw [h] at hy;cases hy
theorem HIn.fits (h:HIn w c g s):s.base+g.words<=s.top:=by
 have hm:=h.rch (n:=s.top) (Nat.le_refl _);obtain ⟨L,-,-,-,h1,h2,-⟩:=hm;omega
def QAH (w:World) (c:HCf) (g:Gph) (s:HSt) (n:Nat) (e:Ending) (w':World):Prop:=
 (c.wd<g.words+n/\e=.returned (.tuple #[.int .i64 0,.int .i64 21])/\∃ s',Xfw w c s g s' w') ∨
 (g.words+n<=c.wd/\∃ s' w1,Xfw w c s g s' w1/\e=.returned (.tuple #[.int .i64 s'.top,.int .i64 0])/\HAl w1 c g s' n w')
theorem QAH.ok {s1:HSt} (h:Xfw w c s g s1 w1) (ha:HAl w1 c g s1 n w'):QAH w c g s n (.returned (.tuple #[.int .i64 s1.top,.int .i64 0])) w':=.inr ⟨by have:=h.i.fits;have:=ha.fit;omega,s1,w1,h,rfl,ha⟩
theorem Xfw.rnc {s1:HSt} (h:Xfw w c s g' s1 w1) {ap:Nat} (hp:ap=s.A.hp):w1.cell? ⟨ap,10,none⟩=some (.pointer (some ⟨s1.A.rn,0,none⟩)):=by
 have:=h.i.cell (j:=10) rfl;rw [h.hp,<-hp] at this;exact this
set_option maxHeartbeats 3200000 in
theorem XLK (h:HIn w c g s) (hn:s.o=none↔s.lf=0) (hn1:1<=n) (hn2:n<=256):Calls Tryz.prog 108 #[.pointer (some ⟨s.A.hp,0,none⟩),.int .i64 n] w (QAH w c g s n):=by
 have HRV:=hid (V0L h hn hn2);have HN:=hid (And.intro hn1 hn2);obtain ⟨ap,hp⟩:∃ ap,ap=s.A.hp:=⟨_,rfl⟩;have HP:=hid hp;rw [<-hp] at HRV ⊢;have cl:=h.com.row.lt;rw [<-hp] at cl;clear h hn hp hn1 hn2;go_enter Tryz.func108,Tryz.ntmps108;go_upto_region 2 with (go_at_call 175;refine (HRV.o).mono ?_;rintro e w1 ⟨rfl,s1,h1,h2,h3,h4⟩;have HR1:=hid (And.intro h1 h4);clear h1 h2 h3 h4);have y10:=HR1.o.1.rnc HP.o;have yl:=ZQf y10;by_cases hf:s1.top+n<=s1.base+c.wd
 ·have HA:=hid (HR1.o.1.i.bal1 HR1.o.2 HN.o.1 HN.o.2 hf);clear hf;go_wp2_with (go_at_call 89;refine (HA.o).mono ?_;rintro e w2 ⟨rfl,ha⟩;have HAL:=hid ha;clear ha);go_ret2;exact QAH.ok HR1.o.1 HAL.o
 ·have HA:=hid (HR1.o.1.i.bal0 HR1.o.2 HN.o.1 HN.o.2 hf);have HF:=hid (fun (W:World) (gg:Gr w1 W)=>ZtQ (HR1.o.1.i.gr gg) HR1.o.1.o);have hhp:s1.A.hp=ap:=HR1.o.1.hp.trans HP.o.symm;rw [hhp] at HF;clear hf hhp;go_upto_region 5 with (go_at_call 89;refine (HA.o).mono ?_;rintro e w2 ⟨rfl,hg2⟩;have HG2:=hid hg2;clear hg2);clear y10 yl;go_upto_region 6 with (go_at_call 58;refine (HF.o _ HG2.o).mono ?_;rintro e w3 ⟨rfl,s2,h1,h2,h3,h4⟩;have HR2:=hid (And.intro ((HR1.o.1.gr HG2.o).trans h1) h4);clear h1 h2 h3 h4);have y10:=HR2.o.1.rnc HP.o;have yl:=ZQf y10;have ho2:=HR2.o.1.o.2 HR2.o.2;have HO2:=hid ho2;by_cases hf:s2.top+n<=s2.base+c.wd
  ·have HA:=hid (HR2.o.1.i.bal1 (Xbc.none ho2) HN.o.1 HN.o.2 hf);clear hf ho2;go_wp2_with (go_at_call 89;refine (HA.o).mono ?_;rintro e w4 ⟨rfl,ha⟩;have HAL:=hid ha;clear ha);go_ret2;exact QAH.ok HR2.o.1 HAL.o
  ·have HA:=hid (HR2.o.1.i.bal0 (Xbc.none ho2) HN.o.1 HN.o.2 hf);have HC:=hid (fun (W:World) (gg:Gr w3 W)=>Vn4 (HR2.o.1.i.gr gg) HR2.o.1.o);have hhp:s2.A.hp=ap:=HR2.o.1.hp.trans HP.o.symm;rw [hhp] at HC;clear hf hhp ho2;go_upto_region 9 with (go_at_call 89;refine (HA.o).mono ?_;rintro e w4 ⟨rfl,hg4⟩;have HG4:=hid hg4;clear hg4);clear y10 yl;go_upto_region 10 with (go_at_call 16;refine (HC.o _ HG4.o).mono ?_;rintro e w5 ⟨rfl,s3,h1,h2,h3⟩;have HR3:=hid (And.intro ((HR2.o.1.gr HG4.o).trans h1) (And.intro h2 h3));clear h1 h2 h3);have y10:=HR3.o.1.rnc HP.o;have yl:=ZQf y10;have ho3:=HR3.o.1.o.2 HR3.o.2.1;by_cases hf:s3.top+n<=s3.base+c.wd
   ·have HA:=hid (HR3.o.1.i.bal1 (Xbc.none ho3) HN.o.1 HN.o.2 hf);clear hf ho3;go_wp2_with (go_at_call 89;refine (HA.o).mono ?_;rintro e w6 ⟨rfl,ha⟩;have HAL:=hid ha;clear ha);go_ret2;exact QAH.ok HR3.o.1 HAL.o
   ·have HA:=hid (HR3.o.1.i.bal0 (Xbc.none ho3) HN.o.1 HN.o.2 hf);have HF:=hid hf;clear hf ho3;go_wp2_with (go_at_call 89;refine (HA.o).mono ?_;rintro e w6 ⟨rfl,hg6⟩;have HG6:=hid hg6;clear hg6);go_ret2;exact .inl ⟨by have:=HF.o;have:=HR3.o.2.2;omega,rfl,s3,HR3.o.1.gr HG6.o⟩
end
end
end
section
section
open Go.RowKit Go.Shelf Word
theorem ZnB (t:TypeId) (x y:Nat):(∃ r,∀ w,(binOp .mul t (.float .f64 x) (.float .f64 y)).run Tryz.prog w=.ok (.float .f64 r) w)\/(∀ w,∃ r,(binOp .mul t (.float .f64 x) (.float .f64 y)).run Tryz.prog w=.ok (.float .f64 r) w.drew):=by
 cases h:floatBits .mul .f64 x y with
 | some r=>exact .inl ⟨r,fun w=>run_float_arith w .mul t .f64 x y r h⟩
 | none=>
  refine .inr fun w=>?_;unfold floatBits at h;simp only at h;have hf:(Question.nanBits FloatKind.f64 x y).forced=false:=rfl;simp [binOp,Op.floatArith,h,choose,Sem.run,hf]
section
variable {w w' w1 w2:World} {c:HCf} {g g':Gph} {s:HSt} {n:Nat}
set_option maxHeartbeats 1600000 in
theorem Y88 (h:HIn w c g s):Calls Tryz.prog 110 #[.pointer (some ⟨s.A.hp,0,none⟩)] w fun e w'=>∃ b,e=.returned (.bool b)/\Gr w w':=by
 have HC:=hid (fun (W:World) (gg:Gr w W)=>(h.com.gr gg).row);have HB:=hid (fun (W:World) (gg:Gr w W)=>JFl (h.com.gr gg).rn);have HT:=hid (fun (W:World) (gg:Gr w W)=>Vkj (h.com.gr gg).rn);have hbt:=h.bt;have hhi:=h.hi;obtain ⟨ap,hp⟩:∃ ap,ap=s.A.hp:=⟨_,rfl⟩;rw [<-hp] at HC ⊢;have hu3:=Tryz.underlying3;have hu22:=Tryz.underlying22;have hcv:∀ (n:Int) (w:World),(convert 3 22 (.int .i64 n)).run Tryz.prog w=.ok (.float .f64 (floatOfInt .f64 n)) w:=fun n w=>run_convert_int_float w _ _ _ _ n (by rw [hu3];rfl) hu22;clear hu3 hu22;clear h hp;go_enter Tryz.func110,Tryz.ntmps110;go_upto_region 1 with (fail);obtain ⟨Sx,hSx⟩:∃ Sx:World->Prop,Sx=fun W'=>Rec W' ap 92 (hpL c s.A s.o s.cyc s.blk):=⟨_,rfl⟩;have y10:∀ p:ZJV Sx,p.w.cell? ⟨ap,10,none⟩=some (.pointer (some ⟨s.A.rn,0,none⟩)):=fun p=>by have h:=ZJV.get hSx p;exact h.cell (j:=10) rfl
 have HS:Hid (∀ W',Rec W' ap 92 (hpL c s.A s.o s.cyc s.blk)->Sx W'):=⟨fun W' h=>by rw [hSx];exact h⟩;have hS0:=HS.o _ (HC.o _ (Gr.refl w).drew);have inst:Inhabited (ZJV Sx):=⟨⟨_,hS0⟩⟩;clear hSx;refine Vv2 Sx 13 [([0,1,2,3,5,6,7,8],4),([],9)] [10,11,12] (by kernel_rfl) (by kernel_rfl) hS0 ?_;refine XGW ?_
 try simp only [XZy,List.getElem?_cons_zero,List.getElem?_cons_succ]
 repeat (go_big_quiet_step (fail))
 refine wpQuiet_nil ?_;go_wp2_with ((go_at_call 65;refine (HT.o _ (Gr.refl w).drew).mono ?_;rintro e w1 ⟨rfl,rfl⟩));refine ⟨.inr (ZJV.of (HS.o _ (HC.o _ (Gr.refl w).drew))),?_⟩;refine XGW ?_
 try simp only [XZy,List.getElem?_cons_zero,List.getElem?_cons_succ]
 repeat (go_big_quiet_step (fail))
 refine wpQuiet_nil ?_;go_wp2_with ((go_at_call 64;refine (HB.o _ (Gr.refl w).drew).mono ?_;rintro e w1 ⟨rfl,rfl⟩));refine ⟨.inr (ZJV.of (HS.o _ (HC.o _ (Gr.refl w).drew))),?_⟩;refine Z9U ?_
 try simp only [XZy,List.getElem?_cons_zero,List.getElem?_cons_succ]
 repeat (go_big_quiet_step (fail))
 refine wpQuiet_nil ?_;refine NoPanic.normal ?_;clear y10 hS0 inst;clear HS Sx;generalize floatOfInt .f64 ((s.top:Int)-s.base)=fu at *
 have hr9:=HC.o _ (Gr.refl w).drew;have hg9:=(Gr.refl w).drew;generalize w.drew=w9 at hr9 hg9 ⊢;have HR9:=hid hr9;have HG9:=hid hg9;clear hr9 hg9 HC HB HT;go_upto_region 2 with (fail);obtain ⟨r,hmul⟩ | hmul:=ZnB 22 c.tr (floatOfInt .f64 c.wd)
 ·have y3:=HR9.o.cell (j:=3) rfl;have y7:=HR9.o.cell (j:=7) rfl;have yl:=HR9.o.lt;go_quiet (fail);go_wp2;go_ret;exact ⟨_,rfl,HG9.o.drewN _⟩
 ·have HML:=hid hmul;clear hmul;obtain ⟨Sx,hSx⟩:∃ Sx:World->Prop,Sx=fun W'=>Rec W' ap 92 (hpL c s.A s.o s.cyc s.blk):=⟨_,rfl⟩;have y3:∀ p:ZJV Sx,p.w.cell? ⟨ap,3,none⟩=some (.int .i64 c.wd):=fun p=>by have h:=ZJV.get hSx p;exact h.cell (j:=3) rfl
  have y7:∀ p:ZJV Sx,p.w.cell? ⟨ap,7,none⟩=some (.float .f64 c.tr):=fun p=>by have h:=ZJV.get hSx p;exact h.cell (j:=7) rfl
  obtain ⟨r,hmul⟩:=HML.o w9.drew;have HS:Hid (∀ W',Rec W' ap 92 (hpL c s.A s.o s.cyc s.blk)->Sx W'):=⟨fun W' h=>by rw [hSx];exact h⟩;have hS0:=HS.o _ (HR9.o.gr (Gr.refl w9).drew);have inst:Inhabited (ZJV Sx):=⟨⟨_,hS0⟩⟩;clear hSx;refine Vv2 Sx 15 [([0,1,2,3,4,5,6,7,8,9,10,11],12)] [13,14] (by kernel_rfl) (by kernel_rfl) hS0 ?_;refine XGW ?_
  try simp only [XZy,List.getElem?_cons_zero,List.getElem?_cons_succ]
  repeat (go_big_quiet_step (fail))
  refine wpQuiet_nil ?_;go_wp2_with (fail);refine ⟨.inr (ZJV.of (HS.o _ (HR9.o.gr (Gr.refl w9).drew.drew))),?_⟩;refine Z9U ?_
  try simp only [XZy,List.getElem?_cons_zero,List.getElem?_cons_succ]
  repeat (go_big_quiet_step (fail))
  refine wpQuiet_nil ?_;refine NoPanic.normal ?_;clear y3 y7 hS0 inst;clear HS Sx;go_wp2;go_ret;exact ⟨_,rfl,HG9.o.drew.drew⟩
end
end
end
section
section
open Go.RowKit Go.Shelf Word
section
variable {w w' w1 w2:World} {c:HCf} {g g':Gph} {s:HSt} {n:Nat}
theorem Xfw.cutGr {wA:World} {s':HSt} (gr:Gr w wA) (h:Xfw wA c (s.cut w) g' s' w'):Xfw w c s g' s' w':=
 ⟨(gr.touch _).trans' (h.t.mono (fun k _ hk=>hk.imp (fun h=>h.1) id)) (fun _ _ h=>h),h.i,h.hp,fun k hk=>by
  rcases h.S k hk with h1 | h1
  ·exact .inl (h1.imp (fun h=>h.1) id)
  ·exact .inr (Nat.le_trans gr.size h1),h.o⟩
theorem HAl.mkd (h:HIn w1 c g s) (hn:s.o=none↔s.lf=0) (ha:HAl w1 c g s n w') {p f k:Nat} (hs:p+f+k<=255) (hnn:n=1+p+f+k) {a:Int} (hsl:g.sl a=true):∀ W,Gr w' W →
  Calls Tryz.prog 109 #[spV s.A.q,.int .i64 s.top,X79 ⟨p,f,k⟩] W fun e w2=>e=.returned (.int .i64 0)/\Rec w2 s.A.hp 92 (hpL c s.A s.o s.cyc s.blk)/\XF4 (plus s.X w1) W w2 ∧
   Calls Tryz.prog 94 #[.pointer (some ⟨s.A.r,0,none⟩),.int .i64 a,.int .i64 s.top] w2 fun e w3=>e=.returned (.int .i64 0)/\∃ s4,Xfw w1 c s (g.add a.toNat p f k) s4 w3/\s4.o=s.o/\s4.A=s.A:=fun W gW=>by
 have hbt:=h.bt
 have hpos:0<s.top:=by
  have:=h.cok.pg1;have:=h.bs;omega
 have haW:=ha.gr gW;obtain ⟨v1,Sv,hV,hSX,hmk,u',hmem,hu1,hu2,hu3,hu4⟩:=haW.gw.made hpos hs hnn;refine (V9e hV s.top ⟨p,f,k⟩).mono ?_;rintro e w2 ⟨rfl,t2,hV2⟩;have hm2:=hmem w2 t2 hV2;have hc2:=haW.com.mem (t2.mono (fun k _ hk=>hSX k hk));rw [hmk];refine ⟨rfl,hc2.row,t2.mono (fun k _ hk=>hSX k hk),?_⟩;obtain ⟨i,rfl,hi1,hi2⟩:=XdH hsl;refine (VHr hc2.rt (i:=i) (by rw [s.len];exact hi1) (a:=(s.top:Int)) (Int.natCast_nonneg _)).mono ?_;rintro e w3 ⟨rfl,t3,hr3⟩;have htk:=XS7 hs;have hrd:=Q66 (v:=u') (a:=(s.top:Int)) (by omega) (hu2 s.top (Nat.le_refl _) (by omega)) (by rw [hu3];exact htk.1);have himg:=h.img.add (s:=i) h.gok hs (v':=u') (A:=s.top) (Nat.le_refl _) hbt.1 hrd.1 (by rw [hrd.2,hu3];exact htk.2) (fun m hm=>⟨by rw [show s.top+1+m=s.top+(1+m) by omega];exact hu2 _ (by omega) (by omega),hu4 m hm⟩) (fun b _ b2 b3=>hu1 b b2 b3);have etop:s.top+1+p+f+k=s.top+n:=by omega
 rw [etop] at himg
 have hrs:(g.add i p f k).S.map (fun x=>((if x=g.L.length+1 then s.top else s.F x:Nat):Int))=(s.rs g).set i (s.top:Int):=by
  unfold HSt.rs Gph.add;rw [List.map_set];simp only [if_true];congr 1;refine List.map_congr_left fun x hx=>?_;have:=h.gok.st x hx;rw [if_neg (by omega)]
 have hxg:¬ plus (plus s.X w1) W s.A.g:=hc2.x.2.2.1;refine ⟨rfl,{ s with X:=plus (plus s.X w1) W,top:=s.top+n,u:=u',F:=fun x=>if x=g.L.length+1 then s.top else s.F x },⟨?_,⟨?_,hm2.touch t3 (fun b hb e=>⟨fun hx=>hxg (by rw [<-e];exact hx),fun e2=>hc2.n3.2.1 (by rw [<-e,e2])⟩) (fun _ h=>h),himg,h.gok.add hs,h.cok,⟨by show s.base<=s.top+n;omega,ha.fit⟩,h.bs,?_⟩,rfl,fun b hb=>?_,hn⟩,rfl,rfl⟩
 ·have ta:XF4 s.S w1 W:=haW.t.mono (fun b _ hb=>hb.elim (fun e=>.inr (.inr (.inr (.inr e)))) .inl);refine (ta.trans' (t2.mono (fun b _ hb=>hSX b hb)) (fun b hb e=>?_)).trans' t3 (fun b hb e=>.inr (.inr (.inl e)));rcases e with e | e
  ·exact .inl e
  ·omega
 ·have:=hc2.root t3 hr3
  show XL4 w3 _ s.A c s.base (s.top+n) ((g.add i p f k).S.map _) s.o s.cyc s.blk
  rw [hrs];exact this
 ·show (g.S.set _ _).length=c.sl
  rw [List.length_set];exact h.sl
 ·have hzz:=haW.t.size;rcases hb with hb | hb | hb | hb | hb
  ·rcases hb with (hb | hb) | hb
   ·exact .inl (.inl hb)
   ·exact .inr hb
   ·exact .inr (Nat.le_trans hzz hb)
  ·exact .inl (.inr (.inl hb))
  ·exact .inl (.inr (.inr (.inl hb)))
  ·exact .inl (.inr (.inr (.inr (.inl hb))))
  ·exact .inl (.inr (.inr (.inr (.inr hb))))
end
end
end
section
section
open Go.RowKit Go.Shelf Word
section
variable {w w' w1 w2:World} {c:HCf} {g g':Gph} {s:HSt} {n:Nat}
def J77 (w:World) (c:HCf) (s:HSt) (g':Gph) (w':World):Prop:=∃ s',Xfw w c s g' s' w'
theorem HIn.getSl (h:HIn w c g s) (a:Int):∃ y,Calls Tryz.prog 106 #[.pointer (some ⟨s.A.r,0,none⟩),.int .i64 a] w fun e w'=>e=.returned (.tuple #[.int .i64 y,.int .i64 (if g.sl a then 0 else 17)])/\Gr w w':=by
 cases hs:g.sl a with
 | false=>exact ⟨0,VMw h.com.rt (by rw [YGy,hs];decide)⟩
 | true=>
  obtain ⟨i,rfl,h1,h2⟩:=XdH hs;exact ⟨_,Jwg h.com.rt (i:=i) (by rw [s.len];exact h1)⟩
set_option maxHeartbeats 3200000 in
theorem J6F (h:HIn w c g s) (hn:s.o=none↔s.lf=0) (a:Int) (x:Hdr):Calls Tryz.prog 38 #[.pointer (some ⟨s.A.hp,0,none⟩),.int .i64 a,X79 x] w fun e w'=>e=.returned (.int .i64 (g.alE c.wd a x))/\J77 w c s (g.alG c.wd a x) w':=by
 have hc:=h.cut;have hga:=(Gr.refl w).alloc (.cells #[.int .i64 x.p,.int .i64 x.f,.int .i64 x.k] 33);have HN:=hid (XuX (hc.gr hga));have H0:Hid (∀ W,Gr w W->J77 w c s g W):=⟨fun W gg=>⟨s,Xfw.gr (Xfw.refl h hn) gg⟩⟩;have HBX:=hid (Rec.new w 33 [.int .i64 x.p,.int .i64 x.f,.int .i64 x.k]);have HGA:=hid hga;have HC:=hid (fun (W:World) (gg:Gr w W)=>(hc.com.gr gg).row);have hap:(s.cut w).A=s.A:=rfl;have HGT:=hid (fun (W:World) (gg:Gr w W)=>(hc.gr gg).getSl a);have HRM:=hid (fun (W:World) (gg:Gr w W) (m:Nat) (h1:1<=m) (h2:m<=256)=>XLK (hc.gr gg) hn h1 h2)
 have hnS:¬ (s.cut w).S w.heap.size:=by
  obtain ⟨l1,l2,l3,l4,l5⟩:=h.com.lt;rintro (e | e | e | e | e)
  ·exact Nat.lt_irrefl _ e.2
  ·exact absurd e (by show w.heap.size≠s.A.hp;omega)
  ·exact absurd e (by show w.heap.size≠s.A.g;omega)
  ·exact absurd e (by show w.heap.size≠s.A.r;omega)
  ·exact absurd e (by show w.heap.size≠s.A.rn;omega)
 have HNS:=hid hnS;have HCK:=hid (fun (W:World)=>Jld x W);have HSZ:=hid (fun (W:World)=>ZUg x W);have cl:=h.com.row.lt;obtain ⟨ap,hp⟩:∃ ap,ap=s.A.hp:=⟨_,rfl⟩;have HP:=hid hp;rw [hap] at HN HC HRM HGT;rw [<-hp] at HN HC HRM cl ⊢;have HCT:Hid (∀ {W W':World} {g':Gph} {s':HSt},Gr w W->Xfw W c (s.cut w) g' s' W'->J77 w c s g' W'):=⟨fun gg hr=>⟨_,Xfw.cutGr gg hr⟩⟩;have z0:=(HBX.o).cell (j:=0) rfl;have z1:=(HBX.o).cell (j:=1) rfl;have z2:=(HBX.o).cell (j:=2) rfl;unfold X79 at HCK HSZ ⊢;clear h hn hc hga hap hnS hp;by_cases hsl:g.sl a=true
 ·by_cases he:JQC x=0
  ·obtain ⟨np,nf,nk,rfl,hs⟩:=XZe he;obtain ⟨n,hnn⟩:∃ n,n=1+np+nf+nk:=⟨_,rfl⟩
   have hN:Z3o ⟨np,nf,nk⟩=(n:Int):=by
    unfold Z3o;rw [if_pos he,hnn]
    show 1+(np:Int)+nf+nk=_
    omega
   have hE0:g.alE c.wd a ⟨np,nf,nk⟩=if (c.wd:Int)<g.words+(n:Int) then 21 else 0:=by unfold Gph.alE;rw [if_pos hsl,if_neg (fun hh=>hh he),hN]
   rw [he] at HCK;rw [hN] at HSZ;have HSL:=hid hsl;have HNN:=hid (And.intro hs hnn);simp only [hsl,if_true] at HGT;by_cases hfit:c.wd<g.words+n
   ·have HE:Hid (g.alE c.wd a ⟨np,nf,nk⟩=21/\g.alG c.wd a ⟨np,nf,nk⟩=g):=⟨by
     have e:g.alE c.wd a ⟨np,nf,nk⟩=21:=by rw [hE0,if_pos (by omega)]
     exact ⟨e,by unfold Gph.alG;rw [e];rfl⟩⟩
    have HR0:=hid (fun (W:World) (gg:Gr w W)=>(HRM.o W gg n (by omega) (by omega)).mono (R':=fun e w'=>e=.returned (.tuple #[.int .i64 0,.int .i64 21])/\∃ s',Xfw W c (s.cut w) g s' w') fun e w' hh=>by
     rcases hh with ⟨-,h2,h3⟩ | ⟨h1,-⟩
     ·exact ⟨h2,h3⟩
     ·omega)
    clear hsl he hs hnn hN hE0 hfit HRM;go_enter Tryz.func38,Tryz.ntmps38;go_upto_region 3 with (go_at_call 50;refine (HN.o).mono ?_;rintro e w1 ⟨rfl,rfl⟩);have y9:=(HC.o _ HGA.o).cell (j:=9) rfl;have yl:=ZQf y9;obtain ⟨y,hgt⟩:=HGT.o _ HGA.o;have HG:=hid hgt;clear hgt;go_upto_region 6 with (go_at_call 106;refine (HG.o).mono ?_;rintro e w1 ⟨rfl,hg1⟩;have HG1:=hid (HGA.o.trans hg1);have zb:=HBX.o.gr hg1;have HB1:=hid zb;have z0:=zb.cell (j:=0) rfl;have z1:=zb.cell (j:=1) rfl;have z2:=zb.cell (j:=2) rfl;have zl:=zb.lt;clear hg1 zb);go_upto_region 9 with (go_at_call 107;refine (HCK.o _).mono ?_;rintro e w2 ⟨rfl,hg2⟩;have HG2:=hid (HG1.o.trans hg2);have zb:=HB1.o.gr hg2;clear z0 z1 z2 zl;have HB2:=hid zb;have z0:=zb.cell (j:=0) rfl;have z1:=zb.cell (j:=1) rfl;have z2:=zb.cell (j:=2) rfl;have zl:=zb.lt;clear hg2 zb);go_wp2_with (first | (go_at_call 108;refine (HR0.o _ HG3.o).mono ?_;rintro e w4 ⟨rfl,s',hr⟩;have HR4:=hid hr;clear hr) | (go_at_call 90;refine (HSZ.o _).mono ?_;rintro e w3 ⟨rfl,hg3⟩;have HG3:=hid (HG2.o.trans hg3);clear hg3));go_ret;exact ⟨ZzN HE.o.1.symm,by rw [HE.o.2];exact HCT.o HG3.o HR4.o⟩
   ·have HE:Hid (g.alE c.wd a ⟨np,nf,nk⟩=0/\g.alG c.wd a ⟨np,nf,nk⟩=g.add a.toNat np nf nk):=⟨by
     have e:g.alE c.wd a ⟨np,nf,nk⟩=0:=by rw [hE0,if_neg (by omega)]
     exact ⟨e,by unfold Gph.alG;rw [if_pos e];rfl⟩⟩
    have HR0:=hid (fun (W:World) (gg:Gr w W)=>(HRM.o W gg n (by omega) (by omega)).mono (R':=fun e w'=>∃ s' w1,e=.returned (.tuple #[.int .i64 s'.top,.int .i64 0])/\Xfw W c (s.cut w) g s' w1/\HAl w1 c g s' n w') fun e w' hh=>by
     rcases hh with ⟨h1,-⟩ | ⟨-,s',w1,h2,h3,h4⟩
     ·omega
     ·exact ⟨s',w1,h3,h2,h4⟩)
    clear hsl he hs hnn hN hE0 hfit HRM;go_enter Tryz.func38,Tryz.ntmps38;go_upto_region 3 with (go_at_call 50;refine (HN.o).mono ?_;rintro e w1 ⟨rfl,rfl⟩);have y9:=(HC.o _ HGA.o).cell (j:=9) rfl;have yl:=ZQf y9;obtain ⟨y,hgt⟩:=HGT.o _ HGA.o;have HG:=hid hgt;clear hgt;go_upto_region 6 with (go_at_call 106;refine (HG.o).mono ?_;rintro e w1 ⟨rfl,hg1⟩;have HG1:=hid (HGA.o.trans hg1);have zb:=HBX.o.gr hg1;have HB1:=hid zb;have z0:=zb.cell (j:=0) rfl;have z1:=zb.cell (j:=1) rfl;have z2:=zb.cell (j:=2) rfl;have zl:=zb.lt;clear hg1 zb);go_upto_region 9 with (go_at_call 107;refine (HCK.o _).mono ?_;rintro e w2 ⟨rfl,hg2⟩;have HG2:=hid (HG1.o.trans hg2);have zb:=HB1.o.gr hg2;clear z0 z1 z2 zl;have HB2:=hid zb;have z0:=zb.cell (j:=0) rfl;have z1:=zb.cell (j:=1) rfl;have z2:=zb.cell (j:=2) rfl;have zl:=zb.lt;clear hg2 zb);go_upto_region 12 with (first | (go_at_call 108;refine (HR0.o _ HG3.o).mono ?_;rintro e w5 ⟨s',w4,rfl,hr,ha⟩;have HR4:=hid hr;have HA4:=hid ha;clear hr ha) | (go_at_call 90;refine (HSZ.o _).mono ?_;rintro e w3 ⟨rfl,hg3⟩;have HG3:=hid (HG2.o.trans hg3);have HB3:=hid (HB2.o.gr hg3);clear hg3));clear z0 z1 z2 zl y9 yl
    have hbx:Rec w5 w.heap.size 33 [.int .i64 np,.int .i64 nf,.int .i64 nk]:=by
     have hb3:=HB3.o.lt;have hns:¬ s'.S w.heap.size:=fun hk=>(HR4.o.S _ hk).elim HNS.o (fun e=>by omega);refine (HB3.o.touch HR4.o.t HNS.o).touch HA4.o.t (fun hk=>hns ?_);rcases hk with hk | hk
     ·exact .inr (.inr (.inr (.inr hk)))
     ·exact .inl hk
    have HBX5:=hid hbx
    have hrow:Rec w5 ap 92 (hpL c s'.A s'.o s'.cyc s'.blk):=by
     have:=HA4.o.com.row;rw [HR4.o.hp] at this;rw [HP.o];exact this
    have HRW5:=hid hrow;have hmk:=HAl.mkd HR4.o.i HR4.o.o HA4.o HNN.o.1 HNN.o.2 HSL.o;unfold spV X79 at hmk;have hh4:s'.A.hp=ap:=HR4.o.hp.trans HP.o.symm;rw [hh4] at hmk;have HMK:=hid hmk;clear hbx hrow hmk hh4;obtain ⟨Sx,hSx⟩:∃ Sx:World->Prop,Sx=fun W'=>(Rec W' ap 92 (hpL c s'.A s'.o s'.cyc s'.blk)/\Rec W' w.heap.size 33 [.int .i64 np,.int .i64 nf,.int .i64 nk]):=⟨_,rfl⟩;have y8:∀ p:ZJV Sx,p.w.cell? ⟨ap,8,none⟩=some (.pointer (some ⟨s'.A.q,0,none⟩)):=fun p=>by have h:=ZJV.get hSx p;exact h.1.cell (j:=8) rfl
    have yb0:∀ p:ZJV Sx,p.w.cell? ⟨w.heap.size,0,none⟩=some (.int .i64 np):=fun p=>by have h:=ZJV.get hSx p;exact h.2.cell (j:=0) rfl
    have yb1:∀ p:ZJV Sx,p.w.cell? ⟨w.heap.size,1,none⟩=some (.int .i64 nf):=fun p=>by have h:=ZJV.get hSx p;exact h.2.cell (j:=1) rfl
    have yb2:∀ p:ZJV Sx,p.w.cell? ⟨w.heap.size,2,none⟩=some (.int .i64 nk):=fun p=>by have h:=ZJV.get hSx p;exact h.2.cell (j:=2) rfl
    have HS:Hid (∀ W',(Rec W' ap 92 (hpL c s'.A s'.o s'.cyc s'.blk)/\Rec W' w.heap.size 33 [.int .i64 np,.int .i64 nf,.int .i64 nk])->Sx W'):=⟨fun W' h=>by rw [hSx];exact h⟩;have hS0:=HS.o _ (⟨HRW5.o.gr (Gr.refl w5).drew,HBX5.o.gr (Gr.refl w5).drew⟩);have inst:Inhabited (ZJV Sx):=⟨⟨_,hS0⟩⟩;clear hSx;refine Vv2 Sx 7 [([0,1,2,3,4,5,6],7)] [] (by kernel_rfl) (by kernel_rfl) hS0 ?_;refine XGW ?_
    try simp only [XZy,List.getElem?_cons_zero,List.getElem?_cons_succ]
    repeat (go_big_quiet_step (fail))
    refine wpQuiet_nil ?_;go_wp2_with ((go_at_call 109;refine (HMK.o _ (Gr.refl w5).drew).mono ?_;rintro e w6 ⟨rfl,hr6,-,hst⟩;have HR6:=hid hr6;have HST:=hid hst;clear hr6 hst));refine ⟨.inl trivial,?_⟩;refine Z9U ?_
    try simp only [XZy]
    repeat (go_big_quiet_step (fail))
    refine wpQuiet_nil ?_;refine NoPanic.normal ?_;clear y8 yb0 yb1 yb2 hS0 inst;clear HS Sx;have y9:=HR6.o.cell (j:=9) rfl;have yl:=ZQf y9;go_upto_region 14 with (go_at_call 94;refine (HST.o).mono ?_;rintro e w7 ⟨rfl,s4,h4,-,-⟩;have HR7:=hid (HR4.o.trans h4);clear h4);clear y9 yl;have hhp:s4.A.hp=ap:=HR7.o.hp.trans HP.o.symm;have HHP:=hid hhp;have y0:=HR7.o.i.cell (j:=0) rfl;have y11:=HR7.o.i.cell (j:=11) rfl;rw [hhp] at y0 y11;have yl:=ZQf y0;clear hhp;by_cases hk:c.kd=1
    ·have hd:((c.kd:Int)==1)=true:=by rw [hk];rfl
     cases ho:s4.o with
     | some y'=>
      rw [ho] at y11;simp only [Option.map_some] at y11;clear hk ho;go_wp2;go_ret;exact ⟨ZzN HE.o.1.symm,by rw [HE.o.2];exact HCT.o HG3.o HR7.o⟩
     | none=>
      rw [ho] at y11;simp only [Option.map_none] at y11;have hdu:=Y88 HR7.o.i;rw [HHP.o] at hdu;have HDU:=hid hdu;have HOP:=hid (fun (W:World) (gg:Gr w7 W)=>JG2 (HR7.o.i.gr gg) ho hk);rw [HHP.o] at HOP;clear hk ho hdu;go_upto_region 15 with (go_at_call 110;refine (HDU.o).mono ?_;rintro e w8 ⟨b,rfl,hg8⟩;have HG8:=hid hg8;clear hg8;cases b)
      ·go_ret;exact ⟨ZzN HE.o.1.symm,by rw [HE.o.2];exact HCT.o HG3.o (HR7.o.gr HG8.o)⟩
      ·go_wp2_with (go_at_call 59;refine (HOP.o _ HG8.o).mono ?_;rintro e w9 ⟨rfl,s5,h5,-,-⟩;have HR9:=hid ((HR7.o.gr HG8.o).trans h5);clear h5);go_ret;exact ⟨ZzN HE.o.1.symm,by rw [HE.o.2];exact HCT.o HG3.o HR9.o⟩
    ·have hd:((c.kd:Int)==1)=false:=by simp;omega
     clear hk;go_wp2;go_ret;exact ⟨ZzN HE.o.1.symm,by rw [HE.o.2];exact HCT.o HG3.o HR7.o⟩
  ·have HE:Hid (g.alE c.wd a x=15/\g.alG c.wd a x=g):=⟨by
    have e:g.alE c.wd a x=15:=by unfold Gph.alE;rw [if_pos hsl,if_pos he]
    exact ⟨e,by unfold Gph.alG;rw [e];rfl⟩⟩
   have he15:JQC x=15:=(Vhh x).resolve_left he;rw [he15] at HCK;simp only [hsl,if_true] at HGT;clear hsl he he15;go_enter Tryz.func38,Tryz.ntmps38;go_upto_region 3 with (go_at_call 50;refine (HN.o).mono ?_;rintro e w1 ⟨rfl,rfl⟩);have y9:=(HC.o _ HGA.o).cell (j:=9) rfl;have yl:=ZQf y9;obtain ⟨y,hgt⟩:=HGT.o _ HGA.o;have HG:=hid hgt;clear hgt;go_upto_region 6 with (go_at_call 106;refine (HG.o).mono ?_;rintro e w1 ⟨rfl,hg1⟩;have HG1:=hid (HGA.o.trans hg1);have zb:=HBX.o.gr hg1;have z0:=zb.cell (j:=0) rfl;have z1:=zb.cell (j:=1) rfl;have z2:=zb.cell (j:=2) rfl;have zl:=zb.lt;clear hg1 zb);go_wp2_with (go_at_call 107;refine (HCK.o _).mono ?_;rintro e w2 ⟨rfl,hg2⟩;have HG2:=hid (HG1.o.trans hg2);clear hg2);go_ret;exact ⟨ZzN HE.o.1.symm,by rw [HE.o.2];exact H0.o _ HG2.o⟩
 ·have HE:Hid (g.alE c.wd a x=17/\g.alG c.wd a x=g):=⟨by
   have e:g.alE c.wd a x=17:=by unfold Gph.alE;rw [if_neg hsl]
   exact ⟨e,by unfold Gph.alG;rw [e];rfl⟩⟩
  simp only [hsl] at HGT;clear hsl;go_enter Tryz.func38,Tryz.ntmps38;go_upto_region 3 with (go_at_call 50;refine (HN.o).mono ?_;rintro e w1 ⟨rfl,rfl⟩);have y9:=(HC.o _ HGA.o).cell (j:=9) rfl;have yl:=ZQf y9;obtain ⟨y,hgt⟩:=HGT.o _ HGA.o;have HG:=hid hgt;clear hgt;go_wp2_with (go_at_call 106;refine (HG.o).mono ?_;rintro e w1 ⟨rfl,hg1⟩;have HG1:=hid (HGA.o.trans hg1);clear hg1);go_ret;exact ⟨ZzN HE.o.1.symm,by rw [HE.o.2];exact H0.o _ HG1.o⟩
end
end
end
section
section
open Go.RowKit Go.Shelf Word
theorem Y4J (w:World) (v:Value):Calls Tryz.prog 96 #[.pointer none,v] w fun e w'=>e=.returned (.tuple #[.slice none 0 0,.int .i64 9])/\Gr w w':=by
 go_enter Tryz.func96,Tryz.ntmps96;go_wp2_with (go_at_call 50;refine (Jvl _).mono ?_;rintro e w1 ⟨rfl,rfl⟩);go_ret2;exact ⟨rfl,Gr.refl _⟩
theorem QMX (w:World) (a i:Int):Calls Tryz.prog 32 #[.pointer none,.int .i64 a,.int .i64 i] w fun e w'=>e=.returned (.tuple #[.int .u64 0,.int .i64 9])/\Gr w w':=by
 go_enter Tryz.func32,Tryz.ntmps32;go_wp2_with (go_at_call 96;refine (Y4J _ _).mono ?_;rintro e w1 ⟨rfl,hg⟩;have HG:=hid (((Gr.refl w).alloc _).trans hg);clear hg);go_ret2;exact ⟨rfl,HG.o⟩
theorem QHo (w:World) (a i:Int):Calls Tryz.prog 33 #[.pointer none,.int .i64 a,.int .i64 i] w fun e w'=>e=.returned (.tuple #[.float .f64 0,.int .i64 9])/\Gr w w':=by
 go_enter Tryz.func33,Tryz.ntmps33;go_wp2_with (go_at_call 96;refine (Y4J _ _).mono ?_;rintro e w1 ⟨rfl,hg⟩;have HG:=hid (((Gr.refl w).alloc _).trans hg);clear hg);go_ret2;exact ⟨rfl,HG.o⟩
theorem JNm (w:World) (a i:Int) (x:Nat):Calls Tryz.prog 41 #[.pointer none,.int .i64 a,.int .i64 i,.int .u64 x] w fun e w'=>e=.returned (.int .i64 9)/\Gr w w':=by
 go_enter Tryz.func41,Tryz.ntmps41;go_wp2_with (go_at_call 96;refine (Y4J _ _).mono ?_;rintro e w1 ⟨rfl,hg⟩;have HG:=hid (((Gr.refl w).alloc _).trans hg);clear hg);go_ret;exact ⟨rfl,HG.o⟩
theorem JlZ (w:World) (a i:Int) (x:Nat):Calls Tryz.prog 42 #[.pointer none,.int .i64 a,.int .i64 i,.float .f64 x] w fun e w'=>e=.returned (.int .i64 9)/\Gr w w':=by
 go_enter Tryz.func42,Tryz.ntmps42;go_wp2_with (go_at_call 96;refine (Y4J _ _).mono ?_;rintro e w1 ⟨rfl,hg⟩;have HG:=hid (((Gr.refl w).alloc _).trans hg);clear hg);go_ret;exact ⟨rfl,HG.o⟩
theorem J99 (w:World) (a b i:Int):Calls Tryz.prog 39 #[.pointer none,.int .i64 a,.int .i64 b,.int .i64 i] w fun e w'=>e=.returned (.int .i64 9)/\Gr w w':=by
 go_enter Tryz.func39,Tryz.ntmps39;go_wp2_with (go_at_call 96;refine (Y4J _ _).mono ?_;rintro e w1 ⟨rfl,hg⟩;have HG:=hid (((Gr.refl w).alloc _).trans hg);clear hg);go_ret;exact ⟨rfl,HG.o⟩
theorem J2t (w:World) (a i b:Int):Calls Tryz.prog 40 #[.pointer none,.int .i64 a,.int .i64 i,.int .i64 b] w fun e w'=>e=.returned (.int .i64 9)/\Gr w w':=by
 go_enter Tryz.func40,Tryz.ntmps40;go_wp2_with (go_at_call 96;refine (Y4J _ _).mono ?_;rintro e w1 ⟨rfl,hg⟩;have HG:=hid (((Gr.refl w).alloc _).trans hg);clear hg);go_ret;exact ⟨rfl,HG.o⟩
theorem Z4r (w:World) (a b:Int):Calls Tryz.prog 34 #[.pointer none,.int .i64 a,.int .i64 b] w fun e w'=>e=.returned (.tuple #[.bool false,.int .i64 9])/\Gr w w':=by
 go_enter Tryz.func34,Tryz.ntmps34;go_wp2_with (go_at_call 96;refine (Y4J _ _).mono ?_;rintro e w1 ⟨rfl,hg⟩;have HG:=hid (((Gr.refl w).alloc _).trans hg);clear hg);go_ret2;exact ⟨rfl,HG.o⟩
theorem ZXZ (w:World) (a b:Int):Calls Tryz.prog 43 #[.pointer none,.int .i64 a,.int .i64 b] w fun e w'=>e=.returned (.int .i64 9)/\Gr w w':=by
 go_enter Tryz.func43,Tryz.ntmps43;go_wp2_with (go_at_call 50;refine (Jvl _).mono ?_;rintro e w1 ⟨rfl,rfl⟩);go_ret;exact ⟨rfl,Gr.refl _⟩
theorem Z3Y (w:World) (a:Int):Calls Tryz.prog 44 #[.pointer none,.int .i64 a] w fun e w'=>e=.returned (.int .i64 9)/\Gr w w':=by
 go_enter Tryz.func44,Tryz.ntmps44;go_wp2_with (go_at_call 50;refine (Jvl _).mono ?_;rintro e w1 ⟨rfl,rfl⟩);go_ret;exact ⟨rfl,Gr.refl _⟩
theorem YP3 (w:World)  : Calls Tryz.prog 19 #[.pointer none] w fun e w'=>e=.returned (.bool false)/\Gr w w':=by
 go_enter Tryz.func19,Tryz.ntmps19;go_wp2_with (go_at_call 50;refine (Jvl _).mono ?_;rintro e w1 ⟨rfl,rfl⟩);go_ret;exact ⟨rfl,Gr.refl _⟩
theorem XNk (w:World)  : Calls Tryz.prog 17 #[.pointer none] w fun e w'=>e=.returned (.tuple #[])/\Gr w w':=by
 go_enter Tryz.func17,Tryz.ntmps17;go_wp2_with (go_at_call 50;refine (Jvl _).mono ?_;rintro e w1 ⟨rfl,rfl⟩);exact bodyPost_end (results_none rfl _ _ _) rfl ⟨rfl,Gr.refl _⟩
theorem ZXg (w:World)  : Calls Tryz.prog 16 #[.pointer none] w fun e w'=>e=.returned (.tuple #[])/\Gr w w':=by
 go_enter Tryz.func16,Tryz.ntmps16;go_wp2_with (go_at_call 50;refine (Jvl _).mono ?_;rintro e w1 ⟨rfl,rfl⟩);exact bodyPost_ret (results_none rfl _ _ _) rfl ⟨rfl,Gr.refl _⟩
theorem X9D (w:World)  : Calls Tryz.prog 13 #[.pointer none] w fun e w'=>e=.returned (.tuple #[.int .i64 0,.int .i64 0])/\Gr w w':=by
 go_enter Tryz.func13,Tryz.ntmps13;go_wp2_with (go_at_call 50;refine (Jvl _).mono ?_;rintro e w1 ⟨rfl,rfl⟩);go_ret2;exact ⟨rfl,Gr.refl _⟩
theorem ZZH (w:World) (a:Int) (x:Hdr):Calls Tryz.prog 38 #[.pointer none,.int .i64 a,.agg #[.int .i64 x.p,.int .i64 x.f,.int .i64 x.k]] w fun e w'=>e=.returned (.int .i64 9)/\Gr w w':=by
 go_enter Tryz.func38,Tryz.ntmps38;go_wp2_with (go_at_call 50;refine (Jvl _).mono ?_;rintro e w1 ⟨rfl,rfl⟩);go_ret;exact ⟨rfl,(Gr.refl w).alloc _⟩
end
end
section
section
open Go.RowKit Go.Shelf Word
set_option maxHeartbeats 1600000 in
theorem YBx (n lo hi:Int) (hn:n<=9223372036854775807) (w:World):Calls Tryz.prog 80 #[.int .i64 n,.int .i64 lo,.int .i64 hi] w fun e w'=>e=.returned (.bool (XuW n&&decide (lo<=n)&&decide (n<=hi)))/\w=w':=by
 have HP:=hid (VWY n hn w);cases h1:XuW n with
 | false=>
  rw [h1] at HP;clear h1 hn;go_enter Tryz.func80,Tryz.ntmps80;go_wp2_with (go_at_call 152;refine (HP.o).mono ?_;rintro e w1 ⟨rfl,rfl⟩);go_ret;exact ⟨rfl,rfl⟩
 | true=>
  rw [h1] at HP;by_cases h2:lo<=n
  ·have d2:decide (lo<=n)=true:=decide_eq_true h2;clear h1 hn h2;go_enter Tryz.func80,Tryz.ntmps80;go_wp2_with (go_at_call 152;refine (HP.o).mono ?_;rintro e w1 ⟨rfl,rfl⟩);go_ret;exact ⟨by rw [d2];rfl,rfl⟩
  ·have d2:decide (lo<=n)=false:=decide_eq_false h2;clear h1 hn h2;go_enter Tryz.func80,Tryz.ntmps80;go_wp2_with (go_at_call 152;refine (HP.o).mono ?_;rintro e w1 ⟨rfl,rfl⟩);go_ret;exact ⟨by rw [d2];rfl,rfl⟩
end
end
section
section
open Go.RowKit Go.Shelf Word
structure CfI where
 kd:Int
 pg:Int
 bk:Int
 wd:Int
 sl:Int
 st:Int
 ah:Int
 tr:Nat
def CfI.V (c:CfI):Value:=.agg #[.int .i64 c.kd,.int .i64 c.pg,.int .i64 c.bk,.int .i64 c.wd,.int .i64 c.sl,.int .i64 c.st,.int .i64 c.ah,.float .f64 c.tr]
def CfI.nat (c:CfI):HCf:=⟨c.kd.toNat,c.pg.toNat,c.bk.toNat,c.wd.toNat,c.sl.toNat,c.st.toNat,c.ah.toNat,c.tr⟩
def CfI.base (c:CfI):Bool:=
 decide (1<=c.kd)&&decide (c.kd<=3)&&XiS c.pg 1 256&&XiS c.bk 1 1024&&XiS c.wd 16 131072&&decide (c.pg<=c.wd) &&
 (decide (1<=c.sl)&&decide (c.sl<=64)&&decide (1<=c.st)&&decide (c.st<=4096)&&decide (0<=c.ah)&&decide (c.ah<=16))
def CfI.may (c:CfI):Bool:=c.base&&decide (c.nat.fr<=4096)
theorem CfI.base_in {c:CfI} (h:c.base=true):(1<=c.kd/\c.kd<=3/\XiS c.pg 1 256=true/\XiS c.bk 1 1024=true/\XiS c.wd 16 131072=true/\c.pg<=c.wd)/\(1<=c.sl/\c.sl<=64/\1<=c.st/\c.st<=4096/\0<=c.ah/\c.ah<=16):=by
 unfold CfI.base at h;simp only [Bool.and_eq_true,decide_eq_true_eq] at h;obtain ⟨⟨⟨⟨⟨⟨a,b⟩,c⟩,d⟩,e⟩,f⟩,⟨⟨⟨⟨⟨g,i⟩,j⟩,k⟩,l⟩,m⟩⟩:=h;exact ⟨⟨a,b,c,d,e,f⟩,g,i,j,k,l,m⟩
theorem CfI.nat_V {c:CfI} (h:c.base=true):c.V=Jdq c.nat:=by
 obtain ⟨⟨h1,h2,h3,h4,h5,h6⟩,h7,h8,h9,h10,h11,h12⟩:=CfI.base_in h;have t3:=Jo9 h3;have t4:=Jo9 h4;have t5:=Jo9 h5;obtain ⟨kd,pg,bk,wd,sl,st,ah,tr⟩:=c;obtain ⟨kd,rfl⟩:∃ n:Nat,kd=n:=⟨kd.toNat,by dsimp only at *;omega⟩;obtain ⟨pg,rfl⟩:∃ n:Nat,pg=n:=⟨pg.toNat,by dsimp only at *;omega⟩;obtain ⟨bk,rfl⟩:∃ n:Nat,bk=n:=⟨bk.toNat,by dsimp only at *;omega⟩;obtain ⟨wd,rfl⟩:∃ n:Nat,wd=n:=⟨wd.toNat,by dsimp only at *;omega⟩;obtain ⟨sl,rfl⟩:∃ n:Nat,sl=n:=⟨sl.toNat,by dsimp only at *;omega⟩;obtain ⟨st,rfl⟩:∃ n:Nat,st=n:=⟨st.toNat,by dsimp only at *;omega⟩;obtain ⟨ah,rfl⟩:∃ n:Nat,ah=n:=⟨ah.toNat,by dsimp only at *;omega⟩;rfl
theorem CfI.may_ok {c:CfI} (h:c.may=true):c.nat.Ok:=by
 unfold CfI.may at h;rw [Bool.and_eq_true,decide_eq_true_eq] at h;obtain ⟨hb,hf⟩:=h;obtain ⟨⟨h1,h2,h3,h4,h5,h6⟩,h7,h8,h9,h10,h11,h12⟩:=CfI.base_in hb;have t3:=Jo9 h3;have t4:=Jo9 h4;have t5:=Jo9 h5;have e3:((c.pg.toNat:Nat):Int)=c.pg:=Int.toNat_of_nonneg (by omega);have e4:((c.bk.toNat:Nat):Int)=c.bk:=Int.toNat_of_nonneg (by omega);have e5:((c.wd.toNat:Nat):Int)=c.wd:=Int.toNat_of_nonneg (by omega);refine ⟨⟨?_,?_⟩,?_,?_,⟨?_,?_⟩,?_,?_,⟨?_,?_⟩,⟨?_,?_⟩,?_,hf⟩
 ·show 1<=c.kd.toNat;omega
 ·show c.kd.toNat<=3;omega
 ·show Jnk (c.pg.toNat:Int)=true
  unfold Jnk;rw [e3,<-X1d,decide_eq_true t3.2.1,Bool.and_true];unfold XiS;rw [t3.2.2,decide_eq_true t3.1,decide_eq_true (by omega)];rfl
 ·show Y1d (c.bk.toNat:Int)=true
  rw [e4,<-X1d];exact h4
 ·show 16<=c.wd.toNat;omega
 ·show c.wd.toNat<=131072;omega
 ·show c.wd.toNat%c.pg.toNat=0
  exact V2o (by rw [e3];exact t3.2.2) (by rw [e5];exact t5.2.2) (by omega) (by omega) (by omega)
 ·show c.pg.toNat<=c.wd.toNat;omega
 ·show 1<=c.sl.toNat;omega
 ·show c.sl.toNat<=64;omega
 ·show 1<=c.st.toNat;omega
 ·show c.st.toNat<=4096;omega
 ·show c.ah.toNat<=16;omega
theorem QuJ (n lo hi:Int) (hn:n<=9223372036854775807) (w:World):Calls Tryz.prog 80 #[.int .i64 n,.int .i64 lo,.int .i64 hi] w fun e w'=>e=.returned (.bool (XiS n lo hi))/\w=w':=YBx n lo hi hn w
set_option maxHeartbeats 1600000 in
theorem Qa3 {c:HCf} (hbk:Y1d c.bk=true) (hp:1<=c.pg) (hah:c.ah<=16) (hwd:c.wd<=131072) (w:World):Calls Tryz.prog 47 #[Jdq c] w fun e w'=>e=.returned (.int .i64 c.fr)/\Gr w w':=by
 obtain ⟨hq1,hq2,hsp⟩:=HCf.q_in hbk hah;have HS:=hid (fun (W:World)=>Yny hbk hp hah W);have q1:((c.wd:Int).tdiv (c.pg:Int))=((c.wd/c.pg:Nat):Int):=rfl;have hdl:c.wd/c.pg<=c.wd:=Nat.div_le_self _ _;have HR:=hid (Rec.new w 24 (X2H c));have hF:c.fr=if c.kd=1 then c.wd/c.pg+c.spare else if c.kd=2 then 2*(c.wd/c.pg) else c.wd/c.pg:=rfl
 have HGA:=hid ((Gr.refl w).alloc (.cells (X2H c).toArray 24));generalize c.fr=fr at hF ⊢;generalize c.spare=sp at hsp HS hF;generalize c.q=qq at hq1 hq2;generalize c.wd/c.pg=dd at q1 hdl hF;unfold Jdq at HS ⊢;unfold X2H at *
 have r:=HR.o;have c0:=r.cell (j:=0) rfl;have c1:=r.cell (j:=1) rfl;have c2:=r.cell (j:=2) rfl;have c3:=r.cell (j:=3) rfl;have c4:=r.cell (j:=4) rfl;have c5:=r.cell (j:=5) rfl;have c6:=r.cell (j:=6) rfl;have c7:=r.cell (j:=7) rfl;clear r hbk hq1 hq2
 have h3:(c.kd=1/\((c.kd:Int)==1)=true/\fr=dd+sp)\/(((c.kd:Int)==1)=false/\((c.kd:Int)==2)=true/\fr=2*dd)\/(((c.kd:Int)==1)=false/\((c.kd:Int)==2)=false/\fr=dd):=by
  by_cases h1:c.kd=1
  ·rw [if_pos h1] at hF;exact .inl ⟨h1,by rw [h1];rfl,hF⟩
  ·rw [if_neg h1] at hF;have e1:((c.kd:Int)==1)=false:=beq_false_of_ne (by omega);by_cases h2:c.kd=2
   ·rw [if_pos h2] at hF;exact .inr (.inl ⟨e1,by rw [h2];rfl,hF⟩)
   ·rw [if_neg h2] at hF;exact .inr (.inr ⟨e1,beq_false_of_ne (by omega),hF⟩)
 clear hF;rcases h3 with ⟨-,h4,hf⟩ | ⟨h4,h5,hf⟩ | ⟨h4,h5,hf⟩
 ·have HF:=hid hf;clear hf;go_enter Tryz.func47,Tryz.ntmps47;go_wp2_with (go_at_call 118;refine (HS.o _).mono ?_;rintro e w1 ⟨rfl,hg⟩;have HG:=hid hg;clear hg);go_ret;exact ⟨by rw [HF.o];exact ZzN (by push_cast;rfl),HGA.o.trans HG.o⟩
 ·have HF:=hid hf;clear hf;go_enter Tryz.func47,Tryz.ntmps47;go_wp2;go_ret;exact ⟨by rw [HF.o];exact ZzN (by push_cast;rfl),HGA.o⟩
 ·have HF:=hid hf;clear hf;go_enter Tryz.func47,Tryz.ntmps47;go_wp2;go_ret;exact ⟨by rw [HF.o];rfl,HGA.o⟩
theorem XVm {b1 b2 b3 b4 b5 b6 b7 b8 b9 b10 b11 b12:Bool}:b1=false\/(b1=true/\b2=false)\/(b1=true/\b2=true/\b3=false)\/(b1=true/\b2=true/\b3=true/\b4=false)\/(b1=true/\b2=true/\b3=true/\b4=true/\b5=false) ∨
  (b1=true/\b2=true/\b3=true/\b4=true/\b5=true/\b6=false)\/(b1=true/\b2=true/\b3=true/\b4=true/\b5=true/\b6=true/\b7=false)\/(b1=true/\b2=true/\b3=true/\b4=true/\b5=true/\b6=true/\b7=true/\b8=false) ∨
  (b1=true/\b2=true/\b3=true/\b4=true/\b5=true/\b6=true/\b7=true/\b8=true/\b9=false)\/(b1=true/\b2=true/\b3=true/\b4=true/\b5=true/\b6=true/\b7=true/\b8=true/\b9=true/\b10=false) ∨
  (b1=true/\b2=true/\b3=true/\b4=true/\b5=true/\b6=true/\b7=true/\b8=true/\b9=true/\b10=true/\b11=false)\/(b1=true/\b2=true/\b3=true/\b4=true/\b5=true/\b6=true/\b7=true/\b8=true/\b9=true/\b10=true/\b11=true/\b12=false) ∨
  (b1=true/\b2=true/\b3=true/\b4=true/\b5=true/\b6=true/\b7=true/\b8=true/\b9=true/\b10=true/\b11=true/\b12=true):=by
 cases b1 <;> simp
 cases b2 <;> simp
 cases b3 <;> simp
 cases b4 <;> simp
 cases b5 <;> simp
 cases b6 <;> simp
 cases b7 <;> simp
 cases b8 <;> simp
 cases b9 <;> simp
 cases b10 <;> simp
 cases b11 <;> simp
def CfI.Bd (c:CfI):Prop:=c.pg<=9223372036854775807/\c.bk<=9223372036854775807/\c.wd<=9223372036854775807
set_option maxHeartbeats 6400000 in
theorem VZi (c:CfI) (hb:c.Bd) (w:World):Calls Tryz.prog 23 #[c.V] w fun e w'=>e=.returned (.int .i64 (if c.may then 0 else 22))/\Gr w w':=by
 obtain ⟨hb1,hb2,hb3⟩:=hb;have HM:Hid (c.may=(c.base&&decide (c.nat.fr<=4096))):=⟨rfl⟩
 have HBA:Hid (c.base=(decide (1<=c.kd)&&decide (c.kd<=3)&&XiS c.pg 1 256&&XiS c.bk 1 1024&&XiS c.wd 16 131072&&decide (c.pg<=c.wd) &&
  (decide (1<=c.sl)&&decide (c.sl<=64)&&decide (1<=c.st)&&decide (c.st<=4096)&&decide (0<=c.ah)&&decide (c.ah<=16)))):=⟨rfl⟩
 have HFR:Hid (c.base=true->∀ W,Calls Tryz.prog 47 #[c.V] W fun e w'=>e=.returned (.int .i64 c.nat.fr)/\Gr W w'):=⟨fun h W=>by
  obtain ⟨⟨h1,h2,h3,h4,h5,h6⟩,h7,h8,h9,h10,h11,h12⟩:=CfI.base_in h;have t3:=Jo9 h3;have t4:=Jo9 h4;have t5:=Jo9 h5;rw [CfI.nat_V h];refine Qa3 ?_ ?_ ?_ ?_ W
  ·show Y1d (c.bk.toNat:Int)=true
   rw [show ((c.bk.toNat:Nat):Int)=c.bk from Int.toNat_of_nonneg (by omega),<-X1d];exact h4
  ·show 1<=c.pg.toNat;omega
  ·show c.ah.toNat<=16;omega
  ·show c.wd.toNat<=131072;omega⟩
 obtain ⟨re,hre⟩:∃ re:Int,re=if c.may then 0 else 22:=⟨_,rfl⟩
 rw [<-hre];have HRE:=hid hre;clear hre;generalize c.may=my at HM HRE;generalize c.base=ba at HM HBA HFR;generalize c.nat.fr=fr at HM HFR;unfold CfI.V at HFR ⊢;have HGA:=hid ((Gr.refl w).alloc (.cells #[.int .i64 c.kd,.int .i64 c.pg,.int .i64 c.bk,.int .i64 c.wd,.int .i64 c.sl,.int .i64 c.st,.int .i64 c.ah,.float .f64 c.tr] 24));have r:=Rec.new w 24 [.int .i64 c.kd,.int .i64 c.pg,.int .i64 c.bk,.int .i64 c.wd,.int .i64 c.sl,.int .i64 c.st,.int .i64 c.ah,.float .f64 c.tr];have c0:=r.cell (j:=0) rfl;have c1:=r.cell (j:=1) rfl;have c2:=r.cell (j:=2) rfl;have c3:=r.cell (j:=3) rfl;have c4:=r.cell (j:=4) rfl;have c5:=r.cell (j:=5) rfl;have c6:=r.cell (j:=6) rfl;have c7:=r.cell (j:=7) rfl;clear r;obtain ⟨kd,pg,bk,wd,sl,st,ah,tr⟩:=c;dsimp only at *
 obtain ⟨b1,D1⟩:∃ b,decide (1<=kd)=b:=⟨_,rfl⟩;obtain ⟨b2,D2⟩:∃ b,decide (kd<=3)=b:=⟨_,rfl⟩;obtain ⟨b3,D3⟩:∃ b,XiS pg 1 256=b:=⟨_,rfl⟩;obtain ⟨b4,D4⟩:∃ b,XiS bk 1 1024=b:=⟨_,rfl⟩;obtain ⟨b5,D5⟩:∃ b,XiS wd 16 131072=b:=⟨_,rfl⟩;obtain ⟨b6,D6⟩:∃ b,decide (pg<=wd)=b:=⟨_,rfl⟩;obtain ⟨b7,D7⟩:∃ b,decide (1<=sl)=b:=⟨_,rfl⟩;obtain ⟨b8,D8⟩:∃ b,decide (sl<=64)=b:=⟨_,rfl⟩;obtain ⟨b9,D9⟩:∃ b,decide (1<=st)=b:=⟨_,rfl⟩;obtain ⟨b10,D10⟩:∃ b,decide (st<=4096)=b:=⟨_,rfl⟩;obtain ⟨b11,D11⟩:∃ b,decide (0<=ah)=b:=⟨_,rfl⟩;obtain ⟨b12,D12⟩:∃ b,decide (ah<=16)=b:=⟨_,rfl⟩;rw [D1,D2,D3,D4,D5,D6,D7,D8,D9,D10,D11,D12] at HBA;rcases @XVm b1 b2 b3 b4 b5 b6 b7 b8 b9 b10 b11 b12 with rfl | ⟨rfl,rfl⟩ | ⟨rfl,rfl,rfl⟩ | ⟨rfl,rfl,rfl,rfl⟩ | ⟨rfl,rfl,rfl,rfl,rfl⟩ | ⟨rfl,rfl,rfl,rfl,rfl,rfl⟩ | ⟨rfl,rfl,rfl,rfl,rfl,rfl,rfl⟩ | ⟨rfl,rfl,rfl,rfl,rfl,rfl,rfl,rfl⟩ | ⟨rfl,rfl,rfl,rfl,rfl,rfl,rfl,rfl,rfl⟩ | ⟨rfl,rfl,rfl,rfl,rfl,rfl,rfl,rfl,rfl,rfl⟩ | ⟨rfl,rfl,rfl,rfl,rfl,rfl,rfl,rfl,rfl,rfl,rfl⟩ | ⟨rfl,rfl,rfl,rfl,rfl,rfl,rfl,rfl,rfl,rfl,rfl,rfl⟩ | ⟨rfl,rfl,rfl,rfl,rfl,rfl,rfl,rfl,rfl,rfl,rfl,rfl⟩
 case' inr.inr.inr.inr.inr.inr.inr.inr.inr.inr.inr.inr=>
  have hba:ba=true:=by rw [HBA.o];rfl
  have HF:=hid (HFR.o hba)
  have hx:(decide (4096<(fr:Int))=true/\my=false)\/(decide (4096<(fr:Int))=false/\my=true):=by
   rw [HM.o,hba,Bool.true_and];by_cases h:fr<=4096
   ·exact .inr ⟨decide_eq_false (by omega),decide_eq_true h⟩
   ·exact .inl ⟨decide_eq_true (by omega),decide_eq_false h⟩
  clear hba HM HBA HFR;obtain ⟨d,e⟩ | ⟨d,e⟩:=hx
 all_goals
  try (have e:my=false:=by rw [HM.o,HBA.o];simp)
  try clear HM HBA HFR
  have HE:Hid (re=if my then 0 else 22):=⟨HRE.o⟩;rw [e] at HE;clear e;go_enter Tryz.func23,Tryz.ntmps23
  go_wp2_with (first
   | (go_at_call 80;refine (QuJ _ _ _ (by assumption) _).mono ?_;rintro e w1 ⟨rfl,rfl⟩)
   | (go_at_call 47;refine (HF.o _).mono ?_;rintro e w1 ⟨rfl,hg⟩;have HG:=hid hg;clear hg))
  go_ret;exact ⟨by rw [HE.o];rfl,by first | exact HGA.o.trans HG.o | exact HGA.o⟩
end
end
section
section
open Go.ChangeShapes Go.WideShapes Go.ChangeAt Go.RowKit Word
def opL (x:GOp):List Value:=[.int .i64 x.kd,.int .i64 x.a,.int .i64 x.b,.int .i64 x.i,.int .i64 x.h.p,.int .i64 x.h.f,.int .i64 x.h.k,.int .u64 (x.wd:Nat),.float .f64 x.fl]
structure GOp.Bd (x:GOp):Prop where
 kd:-9223372036854775808<=x.kd/\x.kd<=9223372036854775807
 a:-9223372036854775808<=x.a/\x.a<=9223372036854775807
 b:-9223372036854775808<=x.b/\x.b<=9223372036854775807
 i:-9223372036854775808<=x.i/\x.i<=9223372036854775807
 hp:-9223372036854775808<=x.h.p/\x.h.p<=9223372036854775807
 hf:-9223372036854775808<=x.h.f/\x.h.f<=9223372036854775807
 hk:-9223372036854775808<=x.h.k/\x.h.k<=9223372036854775807
 wd:x.wd<18446744073709551616
 fl:x.fl<18446744073709551616
theorem Vuv:Tryz.prog.cellsOf 36=9:=by kernel_rfl
theorem VT5:Tryz.prog.cellsOf 33=3:=by kernel_rfl
theorem ZO3:Tryz.prog.cellsOf 22=1:=by kernel_rfl
theorem QE0:Tryz.prog.cellsOf 34=1:=by kernel_rfl
theorem QmK:Tryz.prog.cellsOf 3=1:=by kernel_rfl
section
variable {H:Type} {enc:TypeId × Value->H} {P:Program} {w:World} {base:Nat} {spare:Nat->Bool} {held:Bool} {fuel:Nat} {t:TypeId} {cs:List Value} {x:DataW H × List MemPlace}
theorem VUD {k:FloatKind} (ht:P.underlying t=some (.float k)) (h:DataW.trod enc P w base spare held fuel t cs=some x):∃ n,cs=[.float k n]/\(Lit.float k n).wf=true:=by
 cases fuel with
 | zero=>simp [DataW.trod] at h
 | succ n=>
  unfold DataW.trod at h;rw [ht] at h
  split at h <;> simp_all
theorem Zzh {l:List Value} {j:Nat} {v:Value} (h:(l.drop j).take 1=[v]):l[j]?=some v:=by
 have:((l.drop j).take 1)[0]?=some v:=by rw [h];rfl
 simpa using this
theorem Vgf {l:List Value} {v0 v1 v2 v3 v4 v5 v6 v7 v8:Value} (hl:l.length=9) (h0:l[0]?=some v0) (h1:l[1]?=some v1) (h2:l[2]?=some v2) (h3:l[3]?=some v3) (h4:l[4]?=some v4) (h5:l[5]?=some v5) (h6:l[6]?=some v6) (h7:l[7]?=some v7) (h8:l[8]?=some v8):l=[v0,v1,v2,v3,v4,v5,v6,v7,v8]:=by
 match l,hl with
 | [a0,a1,a2,a3,a4,a5,a6,a7,a8],_=>simp at h0 h1 h2 h3 h4 h5 h6 h7 h8;simp [*]
end
section
variable {H:Type} {enc:TypeId × Value->H} {w:World} {base:Nat} {spare:Nat->Bool} {held:Bool} {fuel:Nat} {cs:List Value} {x:DataW H × List MemPlace}
theorem X9C (h:DataW.trod enc Tryz.prog w base spare held fuel 36 cs=some x):∃ g:GOp,cs=opL g/\g.Bd:=by
 obtain ⟨xs,n,-,-,hl,hlen,hf⟩:=DataW.trod_struct Tryz.underlying36 h;have ex:∀ i,i<xs.length->∃ y,xs[i]?=some y:=fun i hi=>⟨_,List.getElem?_eq_getElem hi⟩
 have hlen:xs.length=7:=hlen;have g0:DataW.trod enc Tryz.prog w base spare held n 3 ((cs.drop 0).take (Tryz.prog.cellsOf 3))=xs[0]?:=hf 0 _ rfl;have g1:DataW.trod enc Tryz.prog w base spare held n 3 ((cs.drop 1).take (Tryz.prog.cellsOf 3))=xs[1]?:=hf 1 _ rfl;have g2:DataW.trod enc Tryz.prog w base spare held n 3 ((cs.drop 2).take (Tryz.prog.cellsOf 3))=xs[2]?:=hf 2 _ rfl;have g3:DataW.trod enc Tryz.prog w base spare held n 3 ((cs.drop 3).take (Tryz.prog.cellsOf 3))=xs[3]?:=hf 3 _ rfl;have g4:DataW.trod enc Tryz.prog w base spare held n 33 ((cs.drop 4).take (Tryz.prog.cellsOf 33))=xs[4]?:=hf 4 _ rfl;have g5:DataW.trod enc Tryz.prog w base spare held n 34 ((cs.drop 7).take (Tryz.prog.cellsOf 34))=xs[5]?:=hf 5 _ rfl;have g6:DataW.trod enc Tryz.prog w base spare held n 22 ((cs.drop 8).take (Tryz.prog.cellsOf 22))=xs[6]?:=hf 6 _ rfl;obtain ⟨y0,e0⟩:=ex 0 (by omega);obtain ⟨y1,e1⟩:=ex 1 (by omega);obtain ⟨y2,e2⟩:=ex 2 (by omega);obtain ⟨y3,e3⟩:=ex 3 (by omega);obtain ⟨y4,e4⟩:=ex 4 (by omega);obtain ⟨y5,e5⟩:=ex 5 (by omega);obtain ⟨y6,e6⟩:=ex 6 (by omega);rw [e0] at g0;rw [e1] at g1;rw [e2] at g2;rw [e3] at g3;rw [e4] at g4;rw [e5] at g5;rw [e6] at g6;obtain ⟨a0,c0,-,b0⟩:=DataW.trod_int Tryz.underlying3 g0;obtain ⟨a1,c1,-,b1⟩:=DataW.trod_int Tryz.underlying3 g1;obtain ⟨a2,c2,-,b2⟩:=DataW.trod_int Tryz.underlying3 g2;obtain ⟨a3,c3,-,b3⟩:=DataW.trod_int Tryz.underlying3 g3;obtain ⟨a5,c5,-,b5⟩:=DataW.trod_int Tryz.underlying34 g5;obtain ⟨a6,c6,b6⟩:=VUD Tryz.underlying22 g6;obtain ⟨ys,m,-,-,hl4,hlen4,hf4⟩:=DataW.trod_struct Tryz.underlying33 g4;have hlen4:ys.length=3:=hlen4;have ex4:∀ i,i<ys.length->∃ y,ys[i]?=some y:=fun i hi=>⟨_,List.getElem?_eq_getElem hi⟩
 have k0:DataW.trod enc Tryz.prog w base spare held m 3 ((((cs.drop 4).take (Tryz.prog.cellsOf 33)).drop 0).take (Tryz.prog.cellsOf 3))=ys[0]?:=hf4 0 _ rfl;have k1:DataW.trod enc Tryz.prog w base spare held m 3 ((((cs.drop 4).take (Tryz.prog.cellsOf 33)).drop 1).take (Tryz.prog.cellsOf 3))=ys[1]?:=hf4 1 _ rfl;have k2:DataW.trod enc Tryz.prog w base spare held m 3 ((((cs.drop 4).take (Tryz.prog.cellsOf 33)).drop 2).take (Tryz.prog.cellsOf 3))=ys[2]?:=hf4 2 _ rfl;obtain ⟨z0,f0⟩:=ex4 0 (by omega);obtain ⟨z1,f1⟩:=ex4 1 (by omega);obtain ⟨z2,f2⟩:=ex4 2 (by omega);rw [f0] at k0;rw [f1] at k1;rw [f2] at k2;obtain ⟨p0,q0,-,r0⟩:=DataW.trod_int Tryz.underlying3 k0;obtain ⟨p1,q1,-,r1⟩:=DataW.trod_int Tryz.underlying3 k1;obtain ⟨p2,q2,-,r2⟩:=DataW.trod_int Tryz.underlying3 k2;simp only [QmK,QE0,ZO3,VT5] at c0 c1 c2 c3 c5 c6 q0 q1 q2;have hl9:cs.length=9:=hl.trans Vuv;have q0':=Zzh q0;have q1':=Zzh q1;have q2':=Zzh q2;rw [List.getElem?_take_of_lt (by omega),List.getElem?_drop] at q0' q1' q2';have bu:=bounds_u64 b5;have hcs:=Vgf hl9 (Zzh c0) (Zzh c1) (Zzh c2) (Zzh c3) q0' q1' q2' (Zzh c5) (Zzh c6);refine ⟨⟨a0,a1,a2,a3,⟨p0,p1,p2⟩,a5.toNat,a6⟩,?_,⟨bounds_i64 b0,bounds_i64 b1,bounds_i64 b2,bounds_i64 b3,bounds_i64 r0,bounds_i64 r1,bounds_i64 r2,by show a5.toNat<_;omega,?_⟩⟩
 ·rw [hcs];unfold opL;dsimp only;rw [show ((a5.toNat:Nat):Int)=a5 from Int.toNat_of_nonneg (by omega)]
 ·simpa [Lit.wf] using b6
end
theorem Xpm {H:Type} {enc:TypeId × Value->H} {W:World} {r:Reach} {b0:Nat} {v:Value} {d:DataW H} {p:List MemPlace}
  (hv:Value.okWide Tryz.prog W r b0 36 v) (h:DataW.Trod enc Tryz.prog W 0 (fun _=>true) true 36 v d p):∃ g:GOp,v=.agg (opL g).toArray/\g.Bd:=by
 obtain ⟨cs,rfl,hsz⟩:=okWide_struct Tryz.underlying36 hv;obtain ⟨fuel,hf⟩:=h;obtain ⟨g,h1,h2⟩:=X9C hf;refine ⟨g,?_,h2⟩;have:cs.toList=opL g:=by simpa [Value.cells] using h1
 rw [<-this]
end
end
section
section
open Go.RowKit Go.Shelf Word
def Gph.nil (sl:Nat):Gph:=⟨[],List.replicate sl 0⟩
theorem Gph.nil_rd {sl x:Nat}:¬ (Gph.nil sl).Rd x:=fun h=>h (fun _=>False) (fun _ hr h0=>h0 (List.eq_of_mem_replicate hr)) (fun _ h=>h.elim)
theorem Gph.nil_ok (sl:Nat):(Gph.nil sl).Ok:=⟨(fun o ho=>by cases ho),(fun o ho=>by cases ho),fun y hy=>by rw [List.eq_of_mem_replicate hy];exact Nat.zero_le _⟩
theorem Q6y {n pg rm a:Nat} (ha:a<n) (h5:n%pg=0) (h6:1<=pg):(Vm.new n pg rm).ldE a≠0:=by
 have hd:n/pg*pg=n:=by have:=Nat.div_add_mod n pg;rw [h5,Nat.mul_comm] at this;omega
 have e1:a/pg<n/pg:=(Nat.div_lt_iff_lt_mul h6).2 (by rw [hd];exact ha);unfold Vm.ldE;rw [if_pos ⟨Int.natCast_nonneg _,by exact_mod_cast ha⟩]
 show frE (List.replicate (n/pg) 0) ((a/pg:Nat):Int)≠0
 rw [VP8 (by rw [List.length_replicate];exact e1),VBu];decide
theorem ZzW {n pg rm base:Nat} (h1:Y4M rm=true) (h2:Jnk pg=true) (h3:1<=n) (h4:n<=524288) (h5:n%pg=0) (hb:base%pg=0) (hn:base<=n) (h6:1<=pg):ShA base base (Vm.new n pg rm):=by
 refine ⟨ZAR.new h1 h2 h3 h4 h5,hb,⟨Nat.le_refl _,hn⟩,fun a ha=>⟨fun h=>absurd h (Q6y ha h5 h6),fun ⟨k1,k2⟩=>?_⟩⟩;have k2:a/pg*pg<base:=k2;have:=(Vod (p:=a/pg) h6 hb).2 (Nat.div_le_div_right k1);omega
theorem Xei {c:HCf} (hc:c.Ok):Y4M c.fr=true:=by
 have h1:=hc.fr;have h2:=hc.wd;have h3:=hc.pw;have hp:=hc.pg1;have h4:1<=c.wd/c.pg:=(Nat.one_le_div_iff (by omega)).2 h3;have h5:1<=c.fr:=by unfold HCf.fr;split <;> (try split) <;> omega
 unfold Y4M;simp;omega
theorem YRa {c:HCf} (hc:c.Ok):c.pg+c.wd<=c.n/\c.n<=524288/\c.n%c.pg=0:=by
 have h2:=hc.wd;have h3:=hc.pw;have h4:=hc.dv;unfold HCf.n
 split
 ·refine ⟨Nat.le_refl _,by omega,?_⟩;rw [Nat.add_mod_left];exact h4
 ·refine ⟨by omega,by omega,?_⟩;rw [Nat.add_assoc,Nat.add_mod_left,Nat.add_mod,h4];simp
theorem HIn.new {w:World} {c:HCf} (hc:c.Ok) {A:HAd} {X:Nat->Prop} (hrow:Rec w A.hp 92 (hpL c A none 0 0)) (hrn:Joi w A.rn A.q c.pg c.pg (c.pg+c.wd)) (hrt:V5d w A.r A.g (List.replicate c.sl 0)) (hv:QXZ w X A.q (Vm.new c.n c.pg c.fr)) (hT:VRW w)
  (n1:A.hp≠A.r/\A.hp≠A.g/\A.hp≠A.rn/\A.hp≠1) (n2:A.r≠A.rn/\A.r≠1) (n3:A.g≠A.rn/\A.g≠1/\A.rn≠1)
  (hx:¬ X A.hp/\¬ X A.r/\¬ X A.g/\¬ X A.rn/\¬ X 1):HIn w c (Gph.nil c.sl) ⟨A,X,c.pg,c.pg,Vm.new c.n c.pg c.fr,fun _=>0,none,0,0,0,0⟩:=by
 obtain ⟨w1,w2,w3⟩:=YRa hc;have hp:=hc.pg1;refine ⟨⟨hrow,hrn,?_,hT,n1,⟨fun e=>hrt.dif e.symm,n2⟩,n3,hx⟩,⟨hv,⟨rfl,rfl,rfl⟩,ZzW (base:=c.pg) (n:=c.n) (Xei hc) hc.pg (by omega) w2 w3 (Nat.mod_self _) (show c.pg<=c.n by omega) hp,rfl⟩,⟨rfl,fun x hx=>absurd hx Gph.nil_rd,fun x hx=>absurd hx Gph.nil_rd,fun x hx=>absurd hx Gph.nil_rd,fun x hx=>absurd hx Gph.nil_rd,fun x hx=>absurd hx Gph.nil_rd,fun x y hx=>absurd hx Gph.nil_rd⟩,Gph.nil_ok _,hc,⟨Nat.le_refl _,Nat.le_add_right _ _⟩,.inl rfl,List.length_replicate⟩
 have:HSt.rs ⟨A,X,c.pg,c.pg,Vm.new c.n c.pg c.fr,fun _=>0,none,0,0,0,0⟩ (Gph.nil c.sl)=List.replicate c.sl 0:=by
  unfold HSt.rs Gph.nil;rw [List.map_replicate];rfl
 rw [this];exact hrt
structure Zqv (w:World) (c:HCf) (s:HSt) (w':World):Prop where
 gr:Gr w w'
 i:HIn w' c (Gph.nil c.sl) s
 o:s.o=none
 lf:s.lf=0
 S:∀ k,s.S k->w.heap.size<=k/\k<w'.heap.size
theorem QR7 {n:Nat} (h:Jnk (n:Int)=true):n<=256:=by
 unfold Jnk at h;simp at h;omega
set_option maxHeartbeats 3200000 in
theorem Xcy (c:CfI) (hb:c.Bd) (hm:c.may=true) (w:World) (hT:VRW w):Calls Tryz.prog 12 #[c.V] w fun e w'=>∃ s,e=.returned (.tuple #[.pointer (some ⟨s.A.hp,0,none⟩),.int .i64 0])/\Zqv w c.nat s w':=by
 have HC:=hid (fun (W:World)=>VZi c hb W);rw [hm] at HC;simp only [if_true] at HC;have hok:=CfI.may_ok hm;have hba:c.base=true:=by unfold CfI.may at hm;simp at hm;exact hm.1
 rw [CfI.nat_V hba] at HC ⊢;generalize c.nat=d at hok HC ⊢;clear hb hm hba c;have HOK:=hid hok;have HT:=hid hT;obtain ⟨p1,p2,p3⟩:=YRa hok;have hp:=hok.pg1;have hwd:=hok.wd;have hpw:=hok.pw;have hpg:=QR7 hok.pg;have HFR:=hid (fun (W:World)=>Qa3 hok.bk hp hok.ah (by omega) W);have HVM:=hid (fun (W:World)=>ZEa (Xei hok) hok.pg (show 1<=d.n by omega) p2 p3 hp hpg W);have HRT:=hid (fun (W:World)=>YuH hok.sl.1 hok.sl.2 W)
 have hN:(d.kd=3/\((d.kd:Int) !=3)=false/\(d.n:Int)=(d.pg:Int)+d.wd)\/(d.kd≠3/\((d.kd:Int) !=3)=true/\(d.n:Int)=(d.pg:Int)+d.wd+d.wd):=by
  unfold HCf.n;by_cases h:d.kd=3
  ·exact .inl ⟨h,by rw [h];rfl,by rw [if_pos h];push_cast;rfl⟩
  ·exact .inr ⟨h,bne_iff_ne.2 (by omega),by rw [if_neg h];push_cast;rfl⟩
 have HBX:=hid (Rec.new w 24 (X2H d));have HGA:=hid ((Gr.refl w).alloc (.cells (X2H d).toArray 24));obtain ⟨n,hn⟩:∃ n,n=d.n:=⟨_,rfl⟩;obtain ⟨fr,hfr⟩:∃ fr,fr=d.fr:=⟨_,rfl⟩;rw [<-hn] at hN HVM p1 p2;rw [<-hfr] at HVM HFR;have HNF:=hid (And.intro hn hfr);have htl:=hT.lt;have HTL:=hid htl;unfold Jdq at HC HFR ⊢;unfold X2H at *
 clear hok hT p3 hn hfr;rcases hN with ⟨-,k3,hN⟩ | ⟨-,k3,hN⟩
 all_goals
  rw [hN] at HVM;clear hN htl;go_enter Tryz.func12,Tryz.ntmps12;go_upto_region 8 with (go_at_call 23;refine (HC.o _).mono ?_;rintro e w1 ⟨rfl,hg⟩;have HG1:=hid (HGA.o.trans hg);have r1:=HBX.o.gr hg;have HB1:=hid r1;have c0:=r1.cell (j:=0) rfl;have c1:=r1.cell (j:=1) rfl;have c2:=r1.cell (j:=2) rfl;have c3:=r1.cell (j:=3) rfl;have c4:=r1.cell (j:=4) rfl;have c5:=r1.cell (j:=5) rfl;have c6:=r1.cell (j:=6) rfl;have c7:=r1.cell (j:=7) rfl;have cl:=r1.lt;clear r1 hg);have hr2:=Rec.new w1 92 [.int .i64 d.kd,.int .i64 d.pg,.int .i64 d.bk,.int .i64 d.wd,.int .i64 d.sl,.int .i64 d.st,.int .i64 d.ah,.float .f64 d.tr,.pointer none,.pointer none,.pointer none,.pointer none,.int .i64 0,.int .i64 0];have hg2:=(Gr.refl w1).alloc (.cells #[.int .i64 d.kd,.int .i64 d.pg,.int .i64 d.bk,.int .i64 d.wd,.int .i64 d.sl,.int .i64 d.st,.int .i64 d.ah,.float .f64 d.tr,.pointer none,.pointer none,.pointer none,.pointer none,.int .i64 0,.int .i64 0] 92);have hz2:=World.size_alloc w1 (.cells #[.int .i64 d.kd,.int .i64 d.pg,.int .i64 d.bk,.int .i64 d.wd,.int .i64 d.sl,.int .i64 d.st,.int .i64 d.ah,.float .f64 d.tr,.pointer none,.pointer none,.pointer none,.pointer none,.int .i64 0,.int .i64 0] 92);obtain ⟨w2,hw2⟩:∃ w2,w2=w1.alloc (.cells #[.int .i64 d.kd,.int .i64 d.pg,.int .i64 d.bk,.int .i64 d.wd,.int .i64 d.sl,.int .i64 d.st,.int .i64 d.ah,.float .f64 d.tr,.pointer none,.pointer none,.pointer none,.pointer none,.int .i64 0,.int .i64 0] 92):=⟨_,rfl⟩;rw [<-hw2] at hr2 hg2 hz2 ⊢;have HR2:=hid hr2;have HG2:=hid hg2;have HZ2:=hid hz2;have HB2:=hid (HB1.o.gr hg2);obtain ⟨hb,hhb⟩:∃ hb,hb=w1.heap.size:=⟨_,rfl⟩;rw [<-hhb] at HR2 HZ2 ⊢;have HHB:=hid hhb;clear hr2 hg2 hz2 hw2 hhb c0 c1 c2 c3 c4 c5 c6 c7 cl;have HNB:Hid (¬ w.heap.size=hb):=⟨fun e=>by have:=HB1.o.lt;rw [<-HHB.o] at this;omega⟩;obtain ⟨Sx,hSx⟩:∃ Sx:World->Prop,Sx=fun W'=>XF4 (fun k=>k=hb) w2 W':=⟨_,rfl⟩;have y0:∀ p:ZJV Sx,p.w.cell? ⟨w.heap.size,0,none⟩=some (.int .i64 d.kd):=fun p=>by have h:=ZJV.get hSx p;exact (HB2.o.touch h HNB.o).cell (j:=0) rfl
  have y1:∀ p:ZJV Sx,p.w.cell? ⟨w.heap.size,1,none⟩=some (.int .i64 d.pg):=fun p=>by have h:=ZJV.get hSx p;exact (HB2.o.touch h HNB.o).cell (j:=1) rfl
  have y2:∀ p:ZJV Sx,p.w.cell? ⟨w.heap.size,2,none⟩=some (.int .i64 d.bk):=fun p=>by have h:=ZJV.get hSx p;exact (HB2.o.touch h HNB.o).cell (j:=2) rfl
  have y3:∀ p:ZJV Sx,p.w.cell? ⟨w.heap.size,3,none⟩=some (.int .i64 d.wd):=fun p=>by have h:=ZJV.get hSx p;exact (HB2.o.touch h HNB.o).cell (j:=3) rfl
  have y4:∀ p:ZJV Sx,p.w.cell? ⟨w.heap.size,4,none⟩=some (.int .i64 d.sl):=fun p=>by have h:=ZJV.get hSx p;exact (HB2.o.touch h HNB.o).cell (j:=4) rfl
  have y5:∀ p:ZJV Sx,p.w.cell? ⟨w.heap.size,5,none⟩=some (.int .i64 d.st):=fun p=>by have h:=ZJV.get hSx p;exact (HB2.o.touch h HNB.o).cell (j:=5) rfl
  have y6:∀ p:ZJV Sx,p.w.cell? ⟨w.heap.size,6,none⟩=some (.int .i64 d.ah):=fun p=>by have h:=ZJV.get hSx p;exact (HB2.o.touch h HNB.o).cell (j:=6) rfl
  have y7:∀ p:ZJV Sx,p.w.cell? ⟨w.heap.size,7,none⟩=some (.float .f64 d.tr):=fun p=>by have h:=ZJV.get hSx p;exact (HB2.o.touch h HNB.o).cell (j:=7) rfl
  have HS:Hid (∀ W',XF4 (fun k=>k=hb) w2 W'->Sx W'):=⟨fun W' h=>by rw [hSx];exact h⟩;have hS0:=HS.o _ ((Gr.refl w2).drew.touch _);have inst:Inhabited (ZJV Sx):=⟨⟨_,hS0⟩⟩;clear hSx;refine Vv2 Sx 13 [([0,1,2,3,4],5),([],6),([7,8,9,10,11],12)] [] (by kernel_rfl) (by kernel_rfl) hS0 ?_;refine XGW ?_
  try simp only [XZy,List.getElem?_cons_zero,List.getElem?_cons_succ]
  repeat (go_big_quiet_step (fail))
  refine wpQuiet_nil ?_;go_wp2_with ((go_at_call 47;refine (HFR.o _).mono ?_;rintro e w3 ⟨rfl,hg⟩;have HG3:=hid ((Gr.refl w2).drew.trans hg);clear hg));refine ⟨.inr (ZJV.of (HS.o _ (HG3.o.touch _))),?_⟩;refine XGW ?_
  try simp only [XZy,List.getElem?_cons_zero,List.getElem?_cons_succ]
  repeat (go_big_quiet_step (fail))
  refine wpQuiet_nil ?_;go_wp2_with ((go_at_call 46;refine (HVM.o _).mono ?_;rintro e w4 ⟨q,rfl,hg,hv⟩;have HV4:=hid hv;have HG34:=hid hg;have HG4:=hid (HG3.o.trans hg);have r4:=HR2.o.gr (HG3.o.trans hg);have HR4:=hid r4;have z8:=r4.cell (j:=8) rfl;have zf:=r4.free;have zl:=r4.lt;clear hg hv r4));refine ⟨.inr (ZJV.of (HS.o _ (HG4.o.touch _))),?_⟩;refine XGW ?_
  try simp only [XZy,List.getElem?_cons_zero,List.getElem?_cons_succ]
  repeat (go_big_quiet_step (fail))
  refine wpQuiet_nil ?_;go_wp2_with (fail);refine ⟨.inr (ZJV.of (HS.o _ ((HG4.o.touch (fun k=>k=hb)).setCell (a:=⟨hb,8,none⟩) (fun _=>rfl) _))),?_⟩;refine Z9U ?_
  try simp only [XZy]
  repeat (go_big_quiet_step (fail))
  refine wpQuiet_nil ?_;refine NoPanic.normal ?_;clear y0 y1 y2 y3 y4 y5 y6 y7 hS0 inst;clear HS Sx;clear z8 zf zl;have hr5:=HR4.o.set 8 (.pointer (some ⟨q,0,none⟩));have ht5:=(XF4.refl (fun k=>k=hb) w4).setCell (a:=⟨hb,8,none⟩) (fun _=>rfl) (.pointer (some ⟨q,0,none⟩));obtain ⟨w5,hw5⟩:∃ w5,w5=w4.setCell ⟨hb,8,none⟩ (.pointer (some ⟨q,0,none⟩)):=⟨_,rfl⟩;rw [<-hw5] at hr5 ht5 ⊢;have HR5:=hid hr5;have HT5:=hid ht5;have hb5:=(HB2.o.gr HG4.o).touch ht5 HNB.o;have HB5:=hid hb5;have c4:=hb5.cell (j:=4) rfl;clear hr5 ht5 hw5 hb5;go_upto_region 10 with (go_at_call 48;refine (HRT.o _).mono ?_;rintro e w6 ⟨r,g,rfl,hg,hr,hr1,hr2⟩;have HRT6:=hid (And.intro hr (And.intro hr1 hr2));have HG56:=hid hg;have r6:=HR5.o.gr hg;have HR6:=hid r6;have z9:=r6.cell (j:=9) rfl;have zf:=r6.free;have zl:=r6.lt;clear hg hr hr1 hr2 r6);clear z9 zf zl c4;have hr7:=HR6.o.set 9 (.pointer (some ⟨r,0,none⟩));have ht7:=(XF4.refl (fun k=>k=hb) w6).setCell (a:=⟨hb,9,none⟩) (fun _=>rfl) (.pointer (some ⟨r,0,none⟩));obtain ⟨w7,hw7⟩:∃ w7,w7=w6.setCell ⟨hb,9,none⟩ (.pointer (some ⟨r,0,none⟩)):=⟨_,rfl⟩;rw [<-hw7] at hr7 ht7 ⊢;have HT7:=hid ht7;have HR7:Hid (Rec w7 hb 92 [.int .i64 d.kd,.int .i64 d.pg,.int .i64 d.bk,.int .i64 d.wd,.int .i64 d.sl,.int .i64 d.st,.int .i64 d.ah,.float .f64 d.tr,.pointer (some ⟨q,0,none⟩),.pointer (some ⟨r,0,none⟩),.pointer none,.pointer none,.int .i64 0,.int .i64 0]):=⟨hr7⟩;have HB7:=hid ((HB5.o.gr HG56.o).touch ht7 HNB.o);clear hr7 ht7 hw7;have H34:Hid (hb<w3.heap.size):=⟨by have:=HG3.o.size;rw [HZ2.o] at this;rw [HHB.o] at this ⊢;omega⟩
  have HV7:Hid (QXZ w7 (ZOk (fun k=>w3.heap.size<=k) w4) q (Vm.new n d.pg fr)):=⟨by
   have h1:=HV4.o.cut.touch HT5.o (fun k hk _ e=>by have:=hk.1;have:=H34.o;omega)
   exact (h1.gr HG56.o).touch HT7.o (fun k hk _ e=>by have:=hk.1;have:=H34.o;omega)⟩
  have HBN:Hid (∀ W,Gr w7 W->Calls Tryz.prog 49 #[.pointer (some ⟨q,0,none⟩),.int .i64 d.pg,.int .i64 ((d.pg:Int)+d.wd)] W fun e w'=>∃ rn,e=.returned (.tuple #[.pointer (some ⟨rn,0,none⟩),.int .i64 0])/\Gr W w'/\W.heap.size<=rn/\Joi w' rn q d.pg d.pg (d.pg+d.wd)):=⟨fun W gg=>by
   have:=YN8 (base:=d.pg) (lim:=d.pg+d.wd) (HV7.o.gr gg) (show n≠0 by omega) (by omega) (show d.pg+d.wd<=n from p1);rw [show (((d.pg+d.wd:Nat):Int))=(d.pg:Int)+d.wd by push_cast;rfl] at this
   exact this⟩
  obtain ⟨Sx,hSx⟩:∃ Sx:World->Prop,Sx=fun W'=>(∃ v:Value,Rec W' hb 92 [.int .i64 d.kd,.int .i64 d.pg,.int .i64 d.bk,.int .i64 d.wd,.int .i64 d.sl,.int .i64 d.st,.int .i64 d.ah,.float .f64 d.tr,.pointer (some ⟨q,0,none⟩),.pointer (some ⟨r,0,none⟩),v,.pointer none,.int .i64 0,.int .i64 0])/\XF4 (fun k=>k=hb) w7 W':=⟨_,rfl⟩;have y8:∀ p:ZJV Sx,p.w.cell? ⟨hb,8,none⟩=some (.pointer (some ⟨q,0,none⟩)):=fun p=>by have h:=ZJV.get hSx p;exact by obtain ⟨⟨v,h⟩,-⟩:=h;exact h.cell (j:=8) rfl
  have y1:∀ p:ZJV Sx,p.w.cell? ⟨w.heap.size,1,none⟩=some (.int .i64 d.pg):=fun p=>by have h:=ZJV.get hSx p;exact (HB7.o.touch h.2 HNB.o).cell (j:=1) rfl
  have y3:∀ p:ZJV Sx,p.w.cell? ⟨w.heap.size,3,none⟩=some (.int .i64 d.wd):=fun p=>by have h:=ZJV.get hSx p;exact (HB7.o.touch h.2 HNB.o).cell (j:=3) rfl
  have HS:Hid (∀ W',(∃ v:Value,Rec W' hb 92 [.int .i64 d.kd,.int .i64 d.pg,.int .i64 d.bk,.int .i64 d.wd,.int .i64 d.sl,.int .i64 d.st,.int .i64 d.ah,.float .f64 d.tr,.pointer (some ⟨q,0,none⟩),.pointer (some ⟨r,0,none⟩),v,.pointer none,.int .i64 0,.int .i64 0])/\XF4 (fun k=>k=hb) w7 W'->Sx W'):=⟨fun W' h=>by rw [hSx];exact h⟩;have hS0:=HS.o _ (⟨⟨_,HR7.o.gr (Gr.refl w7).drew⟩,(Gr.refl w7).drew.touch _⟩);have inst:Inhabited (ZJV Sx):=⟨⟨_,hS0⟩⟩;clear hSx;refine Vv2 Sx 19 [([0,1,2,3,4,5,6,7,8,9,10,11],12),([13,14,15,16,17],18)] [] (by kernel_rfl) (by kernel_rfl) hS0 ?_;refine XGW ?_
  try simp only [XZy,List.getElem?_cons_zero,List.getElem?_cons_succ]
  repeat (go_big_quiet_step (fail))
  refine wpQuiet_nil ?_;go_wp2_with ((go_at_call 49;refine (HBN.o _ (Gr.refl w7).drew).mono ?_;rintro e w8 ⟨rn,rfl,hg,hrn,hrr⟩;have HG78:=hid ((Gr.refl w7).drew.trans hg);have HRN:=hid (And.intro hrn hrr);have r8:=HR7.o.gr ((Gr.refl w7).drew.trans hg);have HR8:=hid r8;have z10:=r8.cell (j:=10) rfl;have zf:=r8.free;have zl:=r8.lt;clear hg hrn hrr r8));refine ⟨.inr (ZJV.of (HS.o _ (⟨⟨_,HR8.o⟩,HG78.o.touch _⟩))),?_⟩;refine XGW ?_
  try simp only [XZy,List.getElem?_cons_zero,List.getElem?_cons_succ]
  repeat (go_big_quiet_step (fail))
  refine wpQuiet_nil ?_;go_wp2_with (fail);refine ⟨.inr (ZJV.of (HS.o _ (⟨⟨_,HR8.o.set 10 (.pointer (some ⟨rn,0,none⟩))⟩,(HG78.o.touch (fun k=>k=hb)).setCell (a:=⟨hb,10,none⟩) (fun _=>rfl) _⟩))),?_⟩;refine Z9U ?_
  try simp only [XZy]
  repeat (go_big_quiet_step (fail))
  refine wpQuiet_nil ?_;refine NoPanic.normal ?_;clear y8 y1 y3 hS0 inst;clear HS Sx;clear z10 zf zl;go_wp2;go_ret2;have hr9:=HR8.o.set 10 (.pointer (some ⟨rn,0,none⟩));have ht9:=(XF4.refl (fun k=>k=hb) w8).setCell (a:=⟨hb,10,none⟩) (fun _=>rfl) (.pointer (some ⟨rn,0,none⟩));have hHG1:=HG1.o;have z1:=hHG1.size;have z2:=HZ2.o;have z34:=HG34.o.size;have z3:=HG3.o.size;have hh:=HHB.o;have zt5:=HT5.o.size;have z56:=HG56.o.size;have zt7:=HT7.o.size;have z78:=HG78.o.size;obtain ⟨hrt,l1,l2⟩:=HRT6.o;obtain ⟨l3',hrn⟩:=HRN.o;have l3:w7.heap.size<=rn:=l3';have lr:=hrt.lt;have ltl:=HTL.o;have lb:=H34.o
  have hgr:Gr w (w8.setCell ⟨hb,10,none⟩ (.pointer (some ⟨rn,0,none⟩))):=by
   have t1:XF4 (fun k=>k=hb) w2 _:=(((HG4.o.touch (fun k=>k=hb)).trans HT5.o).trans (HG56.o.touch _)).trans ((HT7.o.trans (HG78.o.touch _)).trans ht9);have t2:XF4 (fun k=>k=hb) w _:=((hHG1.trans HG2.o).touch (fun k=>k=hb)).trans t1;exact (t2.mono (T:=fun _=>False) (fun k hk e=>by omega)).gr
  have hsz:w8.heap.size<=(w8.setCell ⟨hb,10,none⟩ (.pointer (some ⟨rn,0,none⟩))).heap.size:=ht9.size
  have hI:=HIn.new (w:=w8.setCell ⟨hb,10,none⟩ (.pointer (some ⟨rn,0,none⟩))) HOK.o (A:=⟨hb,q,r,g,rn⟩) (X:=ZOk (fun k=>w3.heap.size<=k) w4) hr9 (hrn.touch ht9 (fun e=>by omega)) (((hrt.touch HT7.o (fun e=>by omega) (fun e=>by omega)).gr HG78.o).touch ht9 (fun e=>by omega) (fun e=>by omega))
   (by have:=((HV7.o.gr HG78.o).touch ht9 (fun k hk _ e=>by have:=hk.1;omega));rw [HNF.o.1,HNF.o.2] at this;exact this) (hgr.tab ltl HT.o)
   ⟨show hb≠r by omega,show hb≠g by omega,show hb≠rn by omega,show hb≠_ by omega⟩ ⟨show r≠rn by omega,show r≠_ by omega⟩ ⟨show g≠rn by omega,show g≠_ by omega,show rn≠_ by omega⟩
   ⟨fun e=>by have:w3.heap.size<=hb:=e.1;omega,fun e=>by have:r<w4.heap.size:=e.2;omega,fun e=>by have:g<w4.heap.size:=e.2;omega,fun e=>by have:rn<w4.heap.size:=e.2;omega,fun e=>by have:w3.heap.size<=1:=e.1;omega⟩
  refine ⟨_,rfl,hgr,hI,rfl,rfl,fun k hk=>?_⟩;rcases hk with hk | hk | hk | hk | hk
  ·have h1:w3.heap.size<=k:=hk.1;have h2:k<w4.heap.size:=hk.2;omega
  ·have hk:k=hb:=hk;omega
  ·have hk:k=g:=hk;omega
  ·have hk:k=r:=hk;omega
  ·have hk:k=rn:=hk;have:=hrn.lt;omega
end
end
section
section
open Go.RowKit Go.Shelf Word
structure HLv (w0:World) (K:Nat->Prop) (c:HCf) (hb:Nat) (g:Gph) (w:World):Prop where
 gr:Gr w0 w
 ex:∃ s:HSt,s.A.hp=hb/\HIn w c g s/\(s.o=none↔s.lf=0)/\∀ k,s.S k->w0.heap.size<=k/\¬ K k
 kl:∀ k,K k->k<w.heap.size
def hlT (w0:World) (K:Nat->Prop) (k:Nat):Prop:=w0.heap.size<=k/\¬ K k
section
variable {w0 w w':World} {K K':Nat->Prop} {c:HCf} {hb:Nat} {g g':Gph}
theorem HSt.cut_S {s:HSt} (h:HIn w c g s):∀ k,(s.cut w).S k->s.S k/\k<w.heap.size:=fun k hk=>by
 obtain ⟨l1,l2,l3,l4,l5⟩:=h.com.lt;rcases hk with hk | hk | hk | hk | hk
 ·exact ⟨.inl hk.1,hk.2⟩
 ·exact ⟨.inr (.inl hk),by rw [hk];exact l1⟩
 ·exact ⟨.inr (.inr (.inl hk)),by rw [hk];exact l3⟩
 ·exact ⟨.inr (.inr (.inr (.inl hk))),by rw [hk];exact l2⟩
 ·exact ⟨.inr (.inr (.inr (.inr hk))),by rw [hk];exact l4⟩
theorem HLv.own (h:HLv w0 K c hb g w) (gr:Gr w w') (hK:∀ k,K' k->K k\/(w.heap.size<=k/\k<w'.heap.size)):HLv w0 K' c hb g w':=by
 obtain ⟨h1,⟨s,e1,e2,e3,e4⟩,h3⟩:=h;refine ⟨h1.trans gr,⟨s.cut w,e1,e2.cut.gr gr,e3,fun k hk=>?_⟩,fun k hk=>?_⟩
 ·obtain ⟨k1,k2⟩:=HSt.cut_S e2 k hk;refine ⟨(e4 k k1).1,fun hk'=>?_⟩;rcases hK k hk' with h4 | h4
  ·exact (e4 k k1).2 h4
  ·omega
 ·rcases hK k hk with h4 | h4
  ·exact Nat.lt_of_lt_of_le (h3 k h4) gr.size
  ·exact h4.2
theorem HLv.res {s s':HSt} (h1:Gr w0 w) (h3:∀ k,K k->k<w.heap.size) (e1:s.A.hp=hb) (e4:∀ k,s.S k->w0.heap.size<=k/\¬ K k) (r:Xfw w c s g' s' w'):XF4 (hlT w0 K) w w'/\HLv w0 K c hb g' w':=by
 have t:XF4 (hlT w0 K) w w':=r.t.mono (fun k _ hk=>e4 k hk);refine ⟨t,?_,⟨s',by rw [r.hp];exact e1,r.i,r.o,fun k hk=>?_⟩,fun k hk=>Nat.lt_of_lt_of_le (h3 k hk) t.size⟩
 ·exact ((h1.touch (hlT w0 K)).trans t |>.mono (T:=fun _=>False) (fun k hk e=>by have:=e.1;omega)).gr
 ·rcases r.S k hk with hk | hk
  ·exact e4 k hk
  ·exact ⟨by have:=h1.size;omega,fun h=>by have:=h3 k h;omega⟩
theorem HLv.new {s:HSt} (r:Zqv w0 c s w'):HLv w0 (fun _=>False) c s.A.hp (Gph.nil c.sl) w':=
 ⟨r.gr,⟨s,rfl,r.i,⟨fun _=>r.lf,fun _=>r.o⟩,fun k hk=>⟨(r.S k hk).1,id⟩⟩,fun _ h=>h.elim⟩
theorem HLv.alloc (h:HLv w0 K c hb g w) (a:Int) (x:Hdr):Calls Tryz.prog 38 #[.pointer (some ⟨hb,0,none⟩),.int .i64 a,X79 x] w fun e w'=>e=.returned (.int .i64 (g.alE c.wd a x))/\XF4 (hlT w0 K) w w'/\HLv w0 K c hb (g.alG c.wd a x) w':=by
 obtain ⟨h1,⟨s,rfl,e2,e3,e4⟩,h3⟩:=h;refine (J6F e2 e3 a x).mono ?_;rintro e w' ⟨rfl,s',r⟩;exact ⟨rfl,HLv.res h1 h3 rfl e4 r⟩
theorem HLv.clear (h:HLv w0 K c hb g w) (a:Int):Calls Tryz.prog 44 #[.pointer (some ⟨hb,0,none⟩),.int .i64 a] w fun e w'=>e=.returned (.int .i64 (g.slE a))/\XF4 (hlT w0 K) w w'/\HLv w0 K c hb (g.clG a) w':=by
 obtain ⟨h1,⟨s,rfl,e2,e3,e4⟩,h3⟩:=h;refine (JfK e2 e3 a).mono ?_;rintro e w' ⟨rfl,s',r,-⟩;exact ⟨rfl,HLv.res h1 h3 rfl e4 r⟩
end
end
end
section
section
open Go.RowKit Go.Shelf Word
def Qtq (k:Int):CfI:=⟨k,4,4,16,3,2,1,4607182418800017408⟩
theorem XK4 (k:Int) (w:World):Calls Tryz.prog 45 #[.int .i64 k] w fun e w'=>e=.returned (Qtq k).V/\Gr w w':=by
 unfold CfI.V Qtq;have hsf:=Qwi;have hr:=Rec.new w 24 [.int .i64 k,.int .i64 4,.int .i64 4,.int .i64 16,.int .i64 3,.int .i64 2,.int .i64 1,.float .f64 4607182418800017408];have HL:=hid (XkM hr (by kernel_rfl) (by kernel_rfl));clear hr;go_enter Tryz.func45,Tryz.ntmps45;go_wp2;have hl:=HL.o;refine bodyPost_ret (v:=.agg #[.int .i64 k,.int .i64 4,.int .i64 4,.int .i64 16,.int .i64 3,.int .i64 2,.int .i64 1,.float .f64 4607182418800017408]) ?_ rfl ⟨rfl,(Gr.refl w).alloc _⟩;simp [results,Tryz.results45,asAddr,hl]
def x7:Hdr:=⟨0,0,7⟩
def Vva:Gph:=Gph.nil 3
def JGZ:Gph:=Vva.alG 16 0 x7
def QR8:Gph:=JGZ.alG 16 1 x7
def JTp:Gph:=QR8.alG 16 2 x7
def QMF:Gph:=JTp.clG 0
theorem JK1:Vva.alE 16 0 x7=0/\JGZ.alE 16 1 x7=0/\QR8.alE 16 2 x7=21/\JTp.slE 0=0/\QMF.alE 16 2 x7=0:=by decide +kernel
theorem XXW:(Qtq 1).may=true/\(Qtq 2).may=true/\(Qtq 3).may=true:=by decide +kernel
set_option maxHeartbeats 6400000 in
theorem Zse (w:World) (hT:VRW w):Calls Tryz.prog 11 #[] w fun e w'=>e=.returned (.bool true)/\Gr w w':=by
 have HT:=hid hT;have hx:=JK1;have HX1:=hid hx.1;have HX2:=hid hx.2.1;have HX3:=hid hx.2.2.1;have HX4:=hid hx.2.2.2.1;have HX5:=hid hx.2.2.2.2;clear hT hx;go_enter Tryz.func11,Tryz.ntmps11;go_wp2
 go_loopw [1] (fun s1 wr=>∃ k:Nat,1<=k/\k<=4/\Hid (Gr w wr)/\s1=.int .i64 k) (fun s1 _=>5-(intOf s1).toNat)
 case atStart=>exact ⟨1,Nat.le_refl _,by omega,⟨Gr.refl w⟩,rfl⟩
 case round=>
  obtain ⟨k,hk1,hk4,HG,rfl⟩:=hrel;by_cases hlast:k<=3
  ·have hkI:(k:Int)<=3:=by omega
   have hm:(Qtq k).may=true:=by
    rcases (by omega:k=1\/k=2\/k=3) with rfl | rfl | rfl
    ·exact XXW.1
    ·exact XXW.2.1
    ·exact XXW.2.2
   have HNW:=hid (fun (W:World) (gg:Gr w W)=>Xcy (Qtq k) ⟨by show (4:Int)<=_;decide,by show (4:Int)<=_;decide,by show (16:Int)<=_;decide⟩ hm W (gg.tab HT.o.lt HT.o));obtain ⟨d,hd⟩:∃ d,d=(Qtq k).nat:=⟨_,rfl⟩;have HD:Hid (d.wd=16/\d.sl=3):=⟨by rw [hd];exact ⟨rfl,rfl⟩⟩;rw [<-hd] at HNW;have HSM:=hid (fun (W:World)=>XK4 k W);obtain ⟨cv,hcv⟩:∃ cv,cv=(Qtq k).V:=⟨_,rfl⟩;rw [<-hcv] at HNW HSM;clear hm hd hcv
   go_upto_region 5 with (first
    | (go_at_call 45;refine (HSM.o _).mono ?_;rintro e w1 ⟨rfl,hg⟩;have HG1:=hid (HG.o.trans hg);clear hg)
    | (go_at_call 12;refine (HNW.o _ HG1.o).mono ?_;rintro e w2 ⟨s,rfl,hn⟩;have HN:=hid hn;clear hn))
   have hl0:=HLv.new HN.o;obtain ⟨hb,hhb⟩:∃ hb,hb=s.A.hp:=⟨_,rfl⟩;rw [<-hhb] at hl0 ⊢;have hr3:=Rec.new w2 33 [.int .i64 0,.int .i64 0,.int .i64 7];have hg3:=(Gr.refl w2).alloc (.cells #[.int .i64 0,.int .i64 0,.int .i64 7] 33);have hz3:=World.size_alloc w2 (.cells #[.int .i64 0,.int .i64 0,.int .i64 7] 33);go_upto_region 6 with (fail);obtain ⟨w3,hw3⟩:∃ w3,w3=w2.alloc (.cells #[.int .i64 0,.int .i64 0,.int .i64 7] 33):=⟨_,rfl⟩;rw [<-hw3] at hr3 hg3 hz3 ⊢;obtain ⟨xb,hxb⟩:∃ xb,xb=w2.heap.size:=⟨_,rfl⟩;rw [<-hxb] at hr3 ⊢;have hl1:=hl0.own (K':=fun k=>k=xb) hg3 (fun k hk=>.inr (by have hk:k=xb:=hk;omega));rw [HD.o.2] at hl1;have HS0:Hid (HLv w1 (fun k=>k=xb) d hb Vva w3):=⟨hl1⟩;have HR:=hid hr3;have HKX:Hid (¬ hlT w1 (fun k=>k=xb) xb):=⟨fun h=>h.2 rfl⟩;have y0:=hr3.cell (j:=0) rfl;have y1:=hr3.cell (j:=1) rfl;have y2:=hr3.cell (j:=2) rfl;have yl:=hr3.lt
   have HAL:Hid (∀ (W:World) (g:Gph) (a:Int),HLv w1 (fun k=>k=xb) d hb g W->Calls Tryz.prog 38 #[.pointer (some ⟨hb,0,none⟩),.int .i64 a,.agg #[.int .i64 0,.int .i64 0,.int .i64 7]] W fun e w'=>e=.returned (.int .i64 (g.alE 16 a x7))/\XF4 (hlT w1 (fun k=>k=xb)) W w'/\HLv w1 (fun k=>k=xb) d hb (g.alG 16 a x7) w'):=⟨fun W g a h=>by
    have:=h.alloc a x7;rw [HD.o.1] at this
    exact this⟩
   have HCL:Hid (∀ (W:World) (g:Gph) (a:Int),HLv w1 (fun k=>k=xb) d hb g W->Calls Tryz.prog 44 #[.pointer (some ⟨hb,0,none⟩),.int .i64 a] W fun e w'=>e=.returned (.int .i64 (g.slE a))/\XF4 (hlT w1 (fun k=>k=xb)) W w'/\HLv w1 (fun k=>k=xb) d hb (g.clG a) w'):=⟨fun W g a h=>h.clear a⟩;clear hl0 hhb hr3 hg3 hz3 hw3 hxb hl1
   go_wp2_with (first
    | (have hm:=HS4.o;go_at_call 38;refine (HAL.o _ QMF 2 hm).mono ?_;rintro e w8 ⟨rfl,ht,hl⟩;rw [HX5.o];have HS5:=hid hl;have HT5:=hid ((HT4.o.trans ht));have rr:=HR.o.touch (HT4.o.trans ht) HKX.o;have y0:=rr.cell (j:=0) rfl;have y1:=rr.cell (j:=1) rfl;have y2:=rr.cell (j:=2) rfl;have yl:=rr.lt;clear rr;clear ht hl hm)
    | (have hm:=HS3.o;go_at_call 44;refine (HCL.o _ JTp 0 hm).mono ?_;rintro e w7 ⟨rfl,ht,hl⟩;rw [HX4.o];have HS4:=hid hl;have HT4:=hid ((HT3.o.trans ht));have rr:=HR.o.touch (HT3.o.trans ht) HKX.o;have y0:=rr.cell (j:=0) rfl;have y1:=rr.cell (j:=1) rfl;have y2:=rr.cell (j:=2) rfl;have yl:=rr.lt;clear rr;clear ht hl hm)
    | (have hm:=HS2.o;go_at_call 38;refine (HAL.o _ QR8 2 hm).mono ?_;rintro e w6 ⟨rfl,ht,hl⟩;rw [HX3.o];have HS3:=hid hl;have HT3:=hid ((HT2.o.trans ht));have rr:=HR.o.touch (HT2.o.trans ht) HKX.o;have y0:=rr.cell (j:=0) rfl;have y1:=rr.cell (j:=1) rfl;have y2:=rr.cell (j:=2) rfl;have yl:=rr.lt;clear rr;clear ht hl hm)
    | (have hm:=HS1.o;go_at_call 38;refine (HAL.o _ JGZ 1 hm).mono ?_;rintro e w5 ⟨rfl,ht,hl⟩;rw [HX2.o];have HS2:=hid hl;have HT2:=hid ((HT1.o.trans ht));have rr:=HR.o.touch (HT1.o.trans ht) HKX.o;have y0:=rr.cell (j:=0) rfl;have y1:=rr.cell (j:=1) rfl;have y2:=rr.cell (j:=2) rfl;have yl:=rr.lt;clear rr;clear ht hl hm)
    | (have hm:=HS0.o;go_at_call 38;refine (HAL.o _ Vva 0 hm).mono ?_;rintro e w4 ⟨rfl,ht,hl⟩;rw [HX1.o];have HS1:=hid hl;have HT1:=hid (ht);have rr:=HR.o.touch ht HKX.o;have y0:=rr.cell (j:=0) rfl;have y1:=rr.cell (j:=1) rfl;have y2:=rr.cell (j:=2) rfl;have yl:=rr.lt;clear rr;clear ht hl hm))
   go_round
   case rel=>exact ⟨k+1,by omega,by omega,⟨HG1.o.trans HS5.o.gr⟩,by go_num⟩
   case measure=>simp [intOf];omega
  ·have hkI:¬ (k:Int)<=3:=by omega
   go_wp2;go_ret;exact ⟨rfl,HG.o⟩
end
end
section
section
open Go.RowKit Go.Shelf Word
set_option maxHeartbeats 1600000 in
theorem JQx (w:World) (a:Int):Calls Tryz.prog 35 #[.pointer none,.int .i64 a] w fun e w'=>e=.returned (.tuple #[X79 ⟨0,0,0⟩,.int .i64 9])/\Gr w w':=by
 have hq0:=Rec.new w 33 [.int .i64 0,.int .i64 0,.int .i64 0];have hga:=(Gr.refl w).alloc (.cells #[.int .i64 0,.int .i64 0,.int .i64 0] 33);obtain ⟨w0,hw0⟩:∃ w0,w0=w.alloc (.cells #[.int .i64 0,.int .i64 0,.int .i64 0] 33):=⟨_,rfl⟩;have hr0:Rec w0 w.heap.size 33 [.int .i64 0,.int .i64 0,.int .i64 0]:=by rw [hw0];exact hq0
 clear hq0;rw [<-hw0] at hga;have HR0:=hid hr0;have HGA:=hid hga;have HW0:=hid hw0;clear hr0 hga hw0;have hsf:=Qwi;go_enter Tryz.func35,Tryz.ntmps35;go_upto_region 1 with (fail);rw [<-HW0.o];go_upto_region 3 with (go_at_call 96;refine (Y4J _ _).mono ?_;rintro e w1 ⟨rfl,hg⟩;have HG:=hid (((Gr.refl w0).alloc _).trans hg);clear hg;have r1:=HR0.o.gr HG.o;have HR1:=hid r1;have z0:=r1.cell (j:=0) rfl;have z1:=r1.cell (j:=1) rfl;have z2:=r1.cell (j:=2) rfl;have zf:=r1.free;have zl:=r1.lt;clear r1);go_wp2;have R3:=(((HR1.o.set 0 (.int .i64 0)).set 1 (.int .i64 0)).set 2 (.int .i64 0));have hl:=XkM R3 (by kernel_rfl) (by kernel_rfl);have gr:=(((((HGA.o.trans HG.o).touch (fun k=>k=w.heap.size)).setCell (a:=⟨w.heap.size,0,none⟩) (fun _=>rfl) (.int .i64 0)).setCell (a:=⟨w.heap.size,1,none⟩) (fun _=>rfl) (.int .i64 0)).setCell (a:=⟨w.heap.size,2,none⟩) (fun _=>rfl) (.int .i64 0)).mono (T:=fun _=>False) (fun k hk e=>by omega);refine bodyPost_ret (v:=.tuple #[X79 ⟨0,0,0⟩,.int .i64 9]) ?_ rfl ⟨rfl,gr.gr⟩;rw [results_cell_tmp rfl];simp only [List.set_cons_zero,List.set_cons_succ] at hl;simp [asAddr,Result.andThen,X79,hl]
set_option maxHeartbeats 1600000 in
theorem VSf (w:World)  : Calls Tryz.prog 25 #[.pointer none] w fun e w'=>e=.returned (.agg #[.int .i64 0,.int .i64 0,.int .i64 0,.int .i64 0,.int .i64 0,.int .i64 0,.int .i64 0,.float .f64 0])/\Gr w w':=by
 have hq0:=Rec.new w 24 [.int .i64 0,.int .i64 0,.int .i64 0,.int .i64 0,.int .i64 0,.int .i64 0,.int .i64 0,.float .f64 0];have hga:=(Gr.refl w).alloc (.cells #[.int .i64 0,.int .i64 0,.int .i64 0,.int .i64 0,.int .i64 0,.int .i64 0,.int .i64 0,.float .f64 0] 24);obtain ⟨w0,hw0⟩:∃ w0,w0=w.alloc (.cells #[.int .i64 0,.int .i64 0,.int .i64 0,.int .i64 0,.int .i64 0,.int .i64 0,.int .i64 0,.float .f64 0] 24):=⟨_,rfl⟩;have hr0:Rec w0 w.heap.size 24 [.int .i64 0,.int .i64 0,.int .i64 0,.int .i64 0,.int .i64 0,.int .i64 0,.int .i64 0,.float .f64 0]:=by rw [hw0];exact hq0
 clear hq0;rw [<-hw0] at hga;have HR0:=hid hr0;have HGA:=hid hga;have HW0:=hid hw0;clear hr0 hga hw0;have hsf:=Qwi;go_enter Tryz.func25,Tryz.ntmps25;go_upto_region 1 with (fail);rw [<-HW0.o];go_upto_region 2 with (go_at_call 50;refine (Jvl _).mono ?_;rintro e w1 ⟨rfl,rfl⟩;have HG:=hid (Gr.refl w0);have r1:=HR0.o.gr HG.o;have HR1:=hid r1;have z0:=r1.cell (j:=0) rfl;have z1:=r1.cell (j:=1) rfl;have z2:=r1.cell (j:=2) rfl;have z3:=r1.cell (j:=3) rfl;have z4:=r1.cell (j:=4) rfl;have z5:=r1.cell (j:=5) rfl;have z6:=r1.cell (j:=6) rfl;have z7:=r1.cell (j:=7) rfl;have zf:=r1.free;have zl:=r1.lt;clear r1);go_wp2;have R3:=((((((((HR1.o.set 0 (.int .i64 0)).set 1 (.int .i64 0)).set 2 (.int .i64 0)).set 3 (.int .i64 0)).set 4 (.int .i64 0)).set 5 (.int .i64 0)).set 6 (.int .i64 0)).set 7 (.float .f64 0));have hl:=XkM R3 (by kernel_rfl) (by kernel_rfl);have gr:=((((((((((HGA.o.trans HG.o).touch (fun k=>k=w.heap.size)).setCell (a:=⟨w.heap.size,0,none⟩) (fun _=>rfl) (.int .i64 0)).setCell (a:=⟨w.heap.size,1,none⟩) (fun _=>rfl) (.int .i64 0)).setCell (a:=⟨w.heap.size,2,none⟩) (fun _=>rfl) (.int .i64 0)).setCell (a:=⟨w.heap.size,3,none⟩) (fun _=>rfl) (.int .i64 0)).setCell (a:=⟨w.heap.size,4,none⟩) (fun _=>rfl) (.int .i64 0)).setCell (a:=⟨w.heap.size,5,none⟩) (fun _=>rfl) (.int .i64 0)).setCell (a:=⟨w.heap.size,6,none⟩) (fun _=>rfl) (.int .i64 0)).setCell (a:=⟨w.heap.size,7,none⟩) (fun _=>rfl) (.float .f64 0)).mono (T:=fun _=>False) (fun k hk e=>by omega);refine bodyPost_ret (v:=.agg #[.int .i64 0,.int .i64 0,.int .i64 0,.int .i64 0,.int .i64 0,.int .i64 0,.int .i64 0,.float .f64 0]) ?_ rfl ⟨rfl,gr.gr⟩;simp only [List.set_cons_zero,List.set_cons_succ] at hl;simp [results,Tryz.results25,asAddr,hl]
set_option maxHeartbeats 1600000 in
theorem ZQE (w:World)  : Calls Tryz.prog 18 #[.pointer none] w fun e w'=>e=.returned (.agg #[.int .i64 0,.int .i64 0,.int .i64 0,.int .i64 0,.int .i64 0,.int .i64 0,.int .i64 0,.bool false,.int .i64 0])/\Gr w w':=by
 have hq0:=Rec.new w 44 [.int .i64 0,.int .i64 0,.int .i64 0,.int .i64 0,.int .i64 0,.int .i64 0,.int .i64 0,.bool false,.int .i64 0];have hga:=(Gr.refl w).alloc (.cells #[.int .i64 0,.int .i64 0,.int .i64 0,.int .i64 0,.int .i64 0,.int .i64 0,.int .i64 0,.bool false,.int .i64 0] 44);obtain ⟨w0,hw0⟩:∃ w0,w0=w.alloc (.cells #[.int .i64 0,.int .i64 0,.int .i64 0,.int .i64 0,.int .i64 0,.int .i64 0,.int .i64 0,.bool false,.int .i64 0] 44):=⟨_,rfl⟩;have hr0:Rec w0 w.heap.size 44 [.int .i64 0,.int .i64 0,.int .i64 0,.int .i64 0,.int .i64 0,.int .i64 0,.int .i64 0,.bool false,.int .i64 0]:=by rw [hw0];exact hq0
 clear hq0;rw [<-hw0] at hga;have HR0:=hid hr0;have HGA:=hid hga;have HW0:=hid hw0;clear hr0 hga hw0;have hsf:=Qwi;go_enter Tryz.func18,Tryz.ntmps18;go_upto_region 1 with (fail);rw [<-HW0.o];go_upto_region 2 with (go_at_call 50;refine (Jvl _).mono ?_;rintro e w1 ⟨rfl,rfl⟩;have HG:=hid (Gr.refl w0);have r1:=HR0.o.gr HG.o;have HR1:=hid r1;have z0:=r1.cell (j:=0) rfl;have z1:=r1.cell (j:=1) rfl;have z2:=r1.cell (j:=2) rfl;have z3:=r1.cell (j:=3) rfl;have z4:=r1.cell (j:=4) rfl;have z5:=r1.cell (j:=5) rfl;have z6:=r1.cell (j:=6) rfl;have z7:=r1.cell (j:=7) rfl;have z8:=r1.cell (j:=8) rfl;have zf:=r1.free;have zl:=r1.lt;clear r1);go_wp2;have R3:=(((((((((HR1.o.set 0 (.int .i64 0)).set 1 (.int .i64 0)).set 2 (.int .i64 0)).set 3 (.int .i64 0)).set 4 (.int .i64 0)).set 5 (.int .i64 0)).set 6 (.int .i64 0)).set 7 (.bool false)).set 8 (.int .i64 0));have hl:=XkM R3 (by kernel_rfl) (by kernel_rfl);have gr:=(((((((((((HGA.o.trans HG.o).touch (fun k=>k=w.heap.size)).setCell (a:=⟨w.heap.size,0,none⟩) (fun _=>rfl) (.int .i64 0)).setCell (a:=⟨w.heap.size,1,none⟩) (fun _=>rfl) (.int .i64 0)).setCell (a:=⟨w.heap.size,2,none⟩) (fun _=>rfl) (.int .i64 0)).setCell (a:=⟨w.heap.size,3,none⟩) (fun _=>rfl) (.int .i64 0)).setCell (a:=⟨w.heap.size,4,none⟩) (fun _=>rfl) (.int .i64 0)).setCell (a:=⟨w.heap.size,5,none⟩) (fun _=>rfl) (.int .i64 0)).setCell (a:=⟨w.heap.size,6,none⟩) (fun _=>rfl) (.int .i64 0)).setCell (a:=⟨w.heap.size,7,none⟩) (fun _=>rfl) (.bool false)).setCell (a:=⟨w.heap.size,8,none⟩) (fun _=>rfl) (.int .i64 0)).mono (T:=fun _=>False) (fun k hk e=>by omega);refine bodyPost_ret (v:=.agg #[.int .i64 0,.int .i64 0,.int .i64 0,.int .i64 0,.int .i64 0,.int .i64 0,.int .i64 0,.bool false,.int .i64 0]) ?_ rfl ⟨rfl,gr.gr⟩;simp only [List.set_cons_zero,List.set_cons_succ] at hl;simp [results,Tryz.results18,asAddr,hl]
set_option maxHeartbeats 1600000 in
theorem QWO (w:World)  : Calls Tryz.prog 21 #[.pointer none] w fun e w'=>e=.returned (.agg #[.slice none 0 0,.slice none 0 0])/\Gr w w':=by
 have hq0:=Rec.new w 51 [.slice none 0 0,.slice none 0 0];have hga:=(Gr.refl w).alloc (.cells #[.slice none 0 0,.slice none 0 0] 51);obtain ⟨w0,hw0⟩:∃ w0,w0=w.alloc (.cells #[.slice none 0 0,.slice none 0 0] 51):=⟨_,rfl⟩;have hr0:Rec w0 w.heap.size 51 [.slice none 0 0,.slice none 0 0]:=by rw [hw0];exact hq0
 clear hq0;rw [<-hw0] at hga;have HR0:=hid hr0;have HGA:=hid hga;have HW0:=hid hw0;clear hr0 hga hw0;have hsf:=Qwi;go_enter Tryz.func21,Tryz.ntmps21;go_upto_region 1 with (fail);rw [<-HW0.o];go_upto_region 3 with (go_at_call 50;refine (Jvl _).mono ?_;rintro e w1 ⟨rfl,rfl⟩;have HG:=hid (Gr.refl w0);have r1:=HR0.o.gr HG.o;have HR1:=hid r1;have z0:=r1.cell (j:=0) rfl;have z1:=r1.cell (j:=1) rfl;have zf:=r1.free;have zl:=r1.lt;clear r1);go_wp2;have R3:=(((HR1.o.set 0 (.slice none 0 0)).set 1 (.slice none 0 0))).gr ((Gr.refl _).alloc (.cells #[.slice none 0 0,.slice none 0 0] 51));have hl:=XkM R3 (by kernel_rfl) (by kernel_rfl);have gr:=((((HGA.o.trans HG.o).touch (fun k=>k=w.heap.size)).setCell (a:=⟨w.heap.size,0,none⟩) (fun _=>rfl) (.slice none 0 0)).setCell (a:=⟨w.heap.size,1,none⟩) (fun _=>rfl) (.slice none 0 0)).mono (T:=fun _=>False) (fun k hk e=>by omega);refine bodyPost_ret (v:=.agg #[.slice none 0 0,.slice none 0 0]) ?_ rfl ⟨rfl,gr.gr.alloc _⟩;simp only [List.set_cons_zero,List.set_cons_succ] at hl;simp [results,Tryz.results21,asAddr,hl]
set_option maxHeartbeats 1600000 in
theorem Qio (w:World) (x:GOp):Calls Tryz.prog 14 #[.pointer none,.agg #[.int .i64 x.kd,.int .i64 x.a,.int .i64 x.b,.int .i64 x.i,.int .i64 x.h.p,.int .i64 x.h.f,.int .i64 x.h.k,.int .u64 (x.wd:Nat),.float .f64 x.fl]] w fun e w'=>e=.returned (.agg #[.int .i64 9,.bool false,.int .i64 0,.int .u64 0,.int .i64 0,.int .i64 0,.int .i64 0])/\Gr w w':=by
 have hq0:=Rec.new (w.alloc (.cells #[.int .i64 x.kd,.int .i64 x.a,.int .i64 x.b,.int .i64 x.i,.int .i64 x.h.p,.int .i64 x.h.f,.int .i64 x.h.k,.int .u64 (x.wd:Nat),.float .f64 x.fl] 36)) 40 [.int .i64 0,.bool false,.int .i64 0,.int .u64 0,.int .i64 0,.int .i64 0,.int .i64 0];rw [World.size_alloc] at hq0;have hga:=((Gr.refl w).alloc (.cells #[.int .i64 x.kd,.int .i64 x.a,.int .i64 x.b,.int .i64 x.i,.int .i64 x.h.p,.int .i64 x.h.f,.int .i64 x.h.k,.int .u64 (x.wd:Nat),.float .f64 x.fl] 36)).alloc (.cells #[.int .i64 0,.bool false,.int .i64 0,.int .u64 0,.int .i64 0,.int .i64 0,.int .i64 0] 40);obtain ⟨w0,hw0⟩:∃ w0,w0=(w.alloc (.cells #[.int .i64 x.kd,.int .i64 x.a,.int .i64 x.b,.int .i64 x.i,.int .i64 x.h.p,.int .i64 x.h.f,.int .i64 x.h.k,.int .u64 (x.wd:Nat),.float .f64 x.fl] 36)).alloc (.cells #[.int .i64 0,.bool false,.int .i64 0,.int .u64 0,.int .i64 0,.int .i64 0,.int .i64 0] 40):=⟨_,rfl⟩;have hr0:Rec w0 (w.heap.size+1) 40 [.int .i64 0,.bool false,.int .i64 0,.int .u64 0,.int .i64 0,.int .i64 0,.int .i64 0]:=by rw [hw0];exact hq0
 clear hq0;rw [<-hw0] at hga;have HR0:=hid hr0;have HGA:=hid hga;have HW0:=hid hw0;clear hr0 hga hw0;have hsf:=Qwi;go_enter Tryz.func14,Tryz.ntmps14;go_upto_region 1 with (fail);rw [<-HW0.o];go_upto_region 2 with (go_at_call 50;refine (Jvl _).mono ?_;rintro e w1 ⟨rfl,rfl⟩;have HG:=hid (Gr.refl w0);have r1:=HR0.o.gr HG.o;have HR1:=hid r1;have z0:=r1.cell (j:=0) rfl;have z1:=r1.cell (j:=1) rfl;have z2:=r1.cell (j:=2) rfl;have z3:=r1.cell (j:=3) rfl;have z4:=r1.cell (j:=4) rfl;have z5:=r1.cell (j:=5) rfl;have z6:=r1.cell (j:=6) rfl;have zf:=r1.free;have zl:=r1.lt;clear r1);go_wp2;have R3:=(((((((HR1.o.set 0 (.int .i64 9)).set 1 (.bool false)).set 2 (.int .i64 0)).set 3 (.int .u64 0)).set 4 (.int .i64 0)).set 5 (.int .i64 0)).set 6 (.int .i64 0));have hl:=XkM R3 (by kernel_rfl) (by kernel_rfl);have gr:=(((((((((HGA.o.trans HG.o).touch (fun k=>k=(w.heap.size+1))).setCell (a:=⟨(w.heap.size+1),0,none⟩) (fun _=>rfl) (.int .i64 9)).setCell (a:=⟨(w.heap.size+1),1,none⟩) (fun _=>rfl) (.bool false)).setCell (a:=⟨(w.heap.size+1),2,none⟩) (fun _=>rfl) (.int .i64 0)).setCell (a:=⟨(w.heap.size+1),3,none⟩) (fun _=>rfl) (.int .u64 0)).setCell (a:=⟨(w.heap.size+1),4,none⟩) (fun _=>rfl) (.int .i64 0)).setCell (a:=⟨(w.heap.size+1),5,none⟩) (fun _=>rfl) (.int .i64 0)).setCell (a:=⟨(w.heap.size+1),6,none⟩) (fun _=>rfl) (.int .i64 0)).mono (T:=fun _=>False) (fun k hk e=>by omega);refine bodyPost_ret (v:=.agg #[.int .i64 9,.bool false,.int .i64 0,.int .u64 0,.int .i64 0,.int .i64 0,.int .i64 0]) ?_ rfl ⟨rfl,gr.gr⟩;simp only [List.set_cons_zero,List.set_cons_succ] at hl;simp [results,Tryz.results14,asAddr,hl]
set_option maxHeartbeats 1600000 in
theorem Xan (w:World) (a:Int):Calls Tryz.prog 36 #[.pointer none,.int .i64 a] w fun e w'=>e=.returned (.tuple #[.float .f64 0,.int .i64 9])/\Gr w w':=by
 have HS:=hid (fun (W:World)=>JQx W a);unfold X79 at HS;go_enter Tryz.func36,Tryz.ntmps36;go_wp2_with (go_at_call 35;refine (HS.o _).mono ?_;rintro e w1 ⟨rfl,hg⟩;have HG:=hid hg;clear hg);go_ret2;exact ⟨rfl,HG.o.alloc _⟩
set_option maxHeartbeats 1600000 in
theorem JeS (w:World) (a i b k:Int):Calls Tryz.prog 37 #[.pointer none,.int .i64 a,.int .i64 i,.int .i64 b,.int .i64 k] w fun e w'=>e=.returned (.tuple #[.int .i64 0,.int .i64 9])/\Gr w w':=by
 go_enter Tryz.func37,Tryz.ntmps37;go_wp2_with (go_at_call 33;refine (QHo _ _ _).mono ?_;rintro e w1 ⟨rfl,hg⟩;have HG:=hid hg;clear hg);go_ret2;exact ⟨rfl,HG.o⟩
set_option maxHeartbeats 1600000 in
theorem Xva (w:World) (x y:Value):Calls Tryz.prog 30 #[.pointer none,.agg #[x,y]] w fun e w'=>e=.returned (.int .i64 9)/\Gr w w':=by
 go_enter Tryz.func30,Tryz.ntmps30;go_wp2_with (go_at_call 50;refine (Jvl _).mono ?_;rintro e w1 ⟨rfl,rfl⟩);go_ret;exact ⟨rfl,(Gr.refl w).alloc _⟩
end
end
section
section
open Go.RowKit Go.Shelf Word
def opV (x:GOp):Value:=.agg #[.int .i64 x.kd,.int .i64 x.a,.int .i64 x.b,.int .i64 x.i,.int .i64 x.h.p,.int .i64 x.h.f,.int .i64 x.h.k,.int .u64 (x.wd:Nat),.float .f64 x.fl]
set_option maxHeartbeats 6400000 in
theorem ZjV {w:World} (hT:VRW w) (x:GOp) (sl i:Int):Calls Tryz.prog 9 #[opV x,.int .i64 sl,.int .i64 i] w fun e w'=>e=.returned (.bool true)/\Gr w w':=by
 have HT:=hid hT;have HB:=hid (Rec.new w 36 [.int .i64 x.kd,.int .i64 x.a,.int .i64 x.b,.int .i64 x.i,.int .i64 x.h.p,.int .i64 x.h.f,.int .i64 x.h.k,.int .u64 (x.wd:Nat),.float .f64 x.fl]);have HGA:=hid ((Gr.refl w).alloc (.cells #[.int .i64 x.kd,.int .i64 x.a,.int .i64 x.b,.int .i64 x.i,.int .i64 x.h.p,.int .i64 x.h.f,.int .i64 x.h.k,.int .u64 (x.wd:Nat),.float .f64 x.fl] 36));unfold opV;clear hT;go_enter Tryz.func9,Tryz.ntmps9
 go_upto_region 9 with (first
  | (go_at_call 35;refine (JQx _ _).mono ?_;rintro e w7 ⟨rfl,hg⟩;have HG7:=hid (HG6.o.trans hg);unfold X79;clear hg)
  | (go_at_call 34;refine (Z4r _ _ _).mono ?_;rintro e w6 ⟨rfl,hg⟩;have HG6:=hid (HG5.o.trans hg);clear hg)
  | (go_at_call 33;refine (QHo _ _ _).mono ?_;rintro e w5 ⟨rfl,hg⟩;have HG5:=hid (HG4.o.trans hg);clear hg)
  | (go_at_call 32;refine (QMX _ _ _).mono ?_;rintro e w4 ⟨rfl,hg⟩;have HG4:=hid (HG3.o.trans hg);clear hg)
  | (go_at_call 13;refine (X9D _).mono ?_;rintro e w3 ⟨rfl,hg⟩;have HG3:=hid (HG2.o.trans hg);clear hg)
  | (go_at_call 17;refine (XNk _).mono ?_;rintro e w2 ⟨rfl,hg⟩;have HG2:=hid (HG1.o.trans hg);clear hg)
  | (go_at_call 16;refine (ZXg _).mono ?_;rintro e w1 ⟨rfl,hg⟩;have HG1:=hid hg;clear hg))
 have hr8:=Rec.new w7 33 [.int .i64 0,.int .i64 0,.int .i64 0];have hg8:=(Gr.refl w7).alloc (.cells #[.int .i64 0,.int .i64 0,.int .i64 0] 33);obtain ⟨yb,hyb⟩:∃ yb,yb=w7.heap.size:=⟨_,rfl⟩;rw [<-hyb] at hr8 ⊢;obtain ⟨w8,hw8⟩:∃ w8,w8=w7.alloc (.cells #[.int .i64 0,.int .i64 0,.int .i64 0] 33):=⟨_,rfl⟩;rw [<-hw8] at hr8 hg8 ⊢;have HY:=hid hr8;have HG8:=hid (HG7.o.trans hg8);clear hr8 hg8 hyb hw8
 go_upto_region 11 with (first
  | (go_at_call 37;refine (JeS _ _ _ _ _).mono ?_;rintro e w10 ⟨rfl,hg⟩;have HG10:=hid (HG9.o.trans hg);clear hg)
  | (go_at_call 36;refine (Xan _ _).mono ?_;rintro e w9 ⟨rfl,hg⟩;have HG9:=hid hg;clear hg))
 have hb10:=HB.o.gr (HG8.o.trans HG10.o);have z4:=hb10.cell (j:=4) rfl;have z5:=hb10.cell (j:=5) rfl;have z6:=hb10.cell (j:=6) rfl;have zl:=hb10.lt;clear hb10
 go_wp2_with (first
  | (go_at_call 30;refine (Xva _ _ _).mono ?_;rintro e w18 ⟨rfl,hg⟩;have HG18:=hid (HG17.o.trans hg);clear hg)
  | (go_at_call 44;refine (Z3Y _ _).mono ?_;rintro e w17 ⟨rfl,hg⟩;have HG17:=hid (HG16.o.trans hg);clear hg)
  | (go_at_call 43;refine (ZXZ _ _ _).mono ?_;rintro e w16 ⟨rfl,hg⟩;have HG16:=hid (HG15.o.trans hg);clear hg)
  | (go_at_call 42;refine (JlZ _ _ _ _).mono ?_;rintro e w15 ⟨rfl,hg⟩;have HG15:=hid (HG14.o.trans hg);clear hg)
  | (go_at_call 41;refine (JNm _ _ _ _).mono ?_;rintro e w14 ⟨rfl,hg⟩;have HG14:=hid (HG13.o.trans hg);clear hg)
  | (go_at_call 40;refine (J2t _ _ _ _).mono ?_;rintro e w13 ⟨rfl,hg⟩;have HG13:=hid (HG12.o.trans hg);clear hg)
  | (go_at_call 39;refine (J99 _ _ _ _).mono ?_;rintro e w12 ⟨rfl,hg⟩;have HG12:=hid (HG11.o.trans hg);clear hg)
  | (go_at_call 38;refine (ZZH _ _ _).mono ?_;rintro e w11 ⟨rfl,hg⟩;have HG11:=hid (HG10.o.trans hg);clear hg))
 have hr19:=Rec.new w18 29 [.int .i64 9,.int .i64 9,.int .i64 9,.int .i64 9,.int .i64 9,.int .i64 9,.int .i64 9,.int .i64 9,.int .i64 9,.int .i64 9,.int .i64 9,.int .i64 9,.int .i64 9,.int .i64 9];have hg19:=(Gr.refl w18).alloc (.cells #[.int .i64 9,.int .i64 9,.int .i64 9,.int .i64 9,.int .i64 9,.int .i64 9,.int .i64 9,.int .i64 9,.int .i64 9,.int .i64 9,.int .i64 9,.int .i64 9,.int .i64 9,.int .i64 9] 29);obtain ⟨lb,hlb⟩:∃ lb,lb=w18.heap.size:=⟨_,rfl⟩;rw [<-hlb] at hr19 ⊢;obtain ⟨w19,hw19⟩:∃ w19,w19=w18.alloc (.cells #[.int .i64 9,.int .i64 9,.int .i64 9,.int .i64 9,.int .i64 9,.int .i64 9,.int .i64 9,.int .i64 9,.int .i64 9,.int .i64 9,.int .i64 9,.int .i64 9,.int .i64 9,.int .i64 9] 29):=⟨_,rfl⟩;rw [<-hw19] at hr19 hg19 ⊢;have HG19:=hid (HG18.o.trans hg19)
 have HLS:Hid (∀ j,j<14->w19.cell? ⟨lb,j,none⟩=some (.int .i64 9)):=⟨fun j hj=>hr19.cell (by
  have:j=0\/j=1\/j=2\/j=3\/j=4\/j=5\/j=6\/j=7\/j=8\/j=9\/j=10\/j=11\/j=12\/j=13:=by omega
  rcases this with rfl | rfl | rfl | rfl | rfl | rfl | rfl | rfl | rfl | rfl | rfl | rfl | rfl | rfl <;> rfl)⟩
 have hll:=hr19.lt;clear hr19 hg19 hlb hw19 z4 z5 z6 zl
 go_loopw [118] (fun s118 wr=>∃ j:Nat,j<=14/\wr=w19/\s118=.int .i64 j) (fun s118 _=>14-(intOf s118).toNat)
 case atStart=>exact ⟨0,by omega,rfl,rfl⟩
 case round=>
  obtain ⟨j,hj,hww,rfl⟩:=hrel;have h:=hww.symm;subst h;by_cases hlast:j<14
  ·have hjI:(j:Int)<14:=by omega
   have hc:=HLS.o j hlast;go_wp2;go_round
   case rel=>exact ⟨j+1,by omega,by first | trivial | rfl,by go_num⟩
   case measure=>simp [intOf];omega
  ·have hjI:¬ (j:Int)<14:=by omega
   have hb19:=HB.o.gr (HG8.o.trans HG19.o);have z0:=hb19.cell (j:=0) rfl;have z1:=hb19.cell (j:=1) rfl;have z2:=hb19.cell (j:=2) rfl;have z3:=hb19.cell (j:=3) rfl;have z4:=hb19.cell (j:=4) rfl;have z5:=hb19.cell (j:=5) rfl;have z6:=hb19.cell (j:=6) rfl;have z7:=hb19.cell (j:=7) rfl;have z8:=hb19.cell (j:=8) rfl;have zl:=hb19.lt;clear hb19;have HDO:=hid (fun (W:World)=>Qio W x);have hf0:∀ W,(binOp BinOp.eql 22 (.float .f64 0) (.float .f64 0)).run Tryz.prog W=.ok (.bool true) W:=fun W=>by kernel_rfl
   have hg0:∀ W,(Instr.field 51 (.agg #[.slice none 0 0,.slice none 0 0]) 0).run Tryz.prog W=.ok (.slice none 0 0) W:=fun W=>by kernel_rfl
   have hg1:∀ W,(Instr.field 51 (.agg #[.slice none 0 0,.slice none 0 0]) 1).run Tryz.prog W=.ok (.slice none 0 0) W:=fun W=>by kernel_rfl
   have hg2:∀ W,(Instr.field 24 (.agg #[.int .i64 0,.int .i64 0,.int .i64 0,.int .i64 0,.int .i64 0,.int .i64 0,.int .i64 0,.float .f64 0]) 0).run Tryz.prog W=.ok (.int .i64 0) W:=fun W=>by kernel_rfl
   go_wp2_with (first
    | (go_at_call 11;refine (Zse _ ((((HGA.o.trans HG8.o).trans (HG19.o.trans HG25.o))).tab HT.o.lt HT.o)).mono ?_;rintro e w26 ⟨rfl,hg⟩;have HG26:=hid (HG25.o.trans hg);clear hg)
    | (go_at_call 25;refine (VSf _).mono ?_;rintro e w25 ⟨rfl,hg⟩;have HG25:=hid (HG24.o.trans hg);clear hg)
    | (have:=HG23.o;(go_at_call 21;refine (QWO _).mono ?_;rintro e w24 ⟨rfl,hg⟩;have HG24:=hid (HG23.o.trans hg);clear hg))
    | (go_at_call 21;refine (QWO _).mono ?_;rintro e w23 ⟨rfl,hg⟩;have HG23:=hid (HG22.o.trans hg);clear hg)
    | (go_at_call 18;refine (ZQE _).mono ?_;rintro e w22 ⟨rfl,hg⟩;have HG22:=hid (HG21.o.trans hg);clear hg)
    | (go_at_call 19;refine (YP3 _).mono ?_;rintro e w21 ⟨rfl,hg⟩;have HG21:=hid (HG20.o.trans hg);clear hg)
    | (go_at_call 14;refine (HDO.o _).mono ?_;rintro e w20 ⟨rfl,hg⟩;have HG20:=hid hg;have q20:=HY.o.gr (HG19.o.trans hg);have y0:=q20.cell (j:=0) rfl;have y1:=q20.cell (j:=1) rfl;have y2:=q20.cell (j:=2) rfl;have yl:=q20.lt;clear q20 hg))
   go_ret;exact ⟨rfl,(HGA.o.trans HG8.o).trans (HG19.o.trans HG26.o)⟩
end
end
end Go.Proofs.YtmjoodkiiekjcaaGreatDoor
