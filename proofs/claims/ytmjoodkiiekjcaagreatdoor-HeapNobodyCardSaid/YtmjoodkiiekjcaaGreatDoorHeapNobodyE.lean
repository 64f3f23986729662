/- Part 5 of what HeapNobody leans on: my own lemmas, merged by shake.py. -/
import Derived.Test.YtmjoodkiiekjcaaGreatDoorHeapNobodyD
import Derived.Laws.BitsAllLaws
import Derived.Laws.Bits64b
namespace Go.Proofs.YtmjoodkiiekjcaaGreatDoor
set_option maxRecDepth 100000
section
section
section
open Go.RowKit Word
structure Vm where
 n:Nat
 pl:Pl
 pt:List Nat
structure ZAR (v:Vm):Prop where
 pl:QIq v.pl
 pt:Zym v.pt
 n2:v.n<=524288
 np:v.n=v.pt.length*v.pl.pg
 fr:∀ p,p<v.pt.length->v.pt.getD p 0≠0->at_ v.pl.tk (v.pt.getD p 0-1)=true
 inj:∀ p p',p<v.pt.length->p' < v.pt.length->v.pt.getD p 0≠0->v.pt.getD p 0=v.pt.getD p' 0->p=p'
 us:v.pl.used=nz v.pt
structure QXZ (w:World) (S:Nat->Prop) (q:Nat) (v:Vm):Prop where
 ok:ZAR v
 sq:S q
 row:∃ S1 S2 b1 b2,Rec w q 175 [.pointer (some ⟨b1,0,none⟩),.pointer (some ⟨b2,0,none⟩),.int .i64 v.n]/\Z9Y w S1 b1 v.pl/\XZC w S2 b2 v.pt ∧
  (∀ k,S1 k->S k)/\(∀ k,S2 k->S k)/\(∀ k,S1 k->¬ S2 k)/\¬ S1 q/\¬ S2 q
theorem QXZ.touch {S T:Nat->Prop} {w w':World} {q:Nat} {v:Vm} (h:QXZ w S q v) (t:XF4 T w w') (hS:∀ k,S k->k<w.heap.size->¬ T k):QXZ w' S q v:=by
 obtain ⟨h1,h2,S1,S2,b1,b2,hr,hp,hg,s1,s2,s3,s4,s5⟩:=h;exact ⟨h1,h2,S1,S2,b1,b2,hr.touch t (hS _ h2 hr.lt),hp.touch t (fun k hk=>hS k (s1 k hk)),hg.touch t (fun k hk=>hS k (s2 k hk)),s1,s2,s3,s4,s5⟩
theorem QXZ.gr {S:Nat->Prop} {w w':World} {q:Nat} {v:Vm} (h:QXZ w S q v) (t:Gr w w'):QXZ w' S q v:=h.touch (t.touch (fun _=>False)) (fun _ _ _ h=>h)
theorem QXZ.mono {S T:Nat->Prop} {w:World} {q:Nat} {v:Vm} (h:QXZ w S q v) (hT:∀ k,S k->T k):QXZ w T q v:=by
 obtain ⟨h1,h2,S1,S2,b1,b2,hr,hp,hg,s1,s2,s3,s4,s5⟩:=h;exact ⟨h1,hT _ h2,S1,S2,b1,b2,hr,hp,hg,fun k hk=>hT k (s1 k hk),fun k hk=>hT k (s2 k hk),s3,s4,s5⟩
def ZOk (S:Nat->Prop) (w:World) (k:Nat):Prop:=S k/\k<w.heap.size
theorem Z9Y.cut {w:World} {S:Nat->Prop} {q:Nat} {p:Pl} (h:Z9Y w S q p):Z9Y w (ZOk S w) q p:=by
 obtain ⟨h1,h2,vw,vt,vb,hi,ts,hr,o1,o2,o3,s1,s2,s3⟩:=h;exact ⟨h1,⟨h2,hr.lt⟩,vw,vt,vb,hi,ts,hr,o1,o2,o3,fun g hg=>⟨s1 g hg,(Vvr o1 hg).2⟩,fun g hg=>⟨s2 g hg,(Vvr o2 hg).2⟩,fun g hg=>⟨s3 g hg,(Vvr o3 hg).2⟩⟩
theorem XZC.cut {w:World} {S:Nat->Prop} {q:Nat} {pt:List Nat} (h:XZC w S q pt):XZC w (ZOk S w) q pt:=by
 obtain ⟨ok,sq,g,c,L,hr,h1,h2,sg,ho,ht,hd⟩:=h;refine ⟨ok,⟨sq,hr.lt⟩,g,c,L,hr,h1,h2,⟨sg,(Vvr ho rfl).2⟩,ho,fun k hk=>?_,hd⟩;have:=ht k hk;cases hl:L.getD k none with
 | none=>rw [hl] at this;exact this
 | some b=>rw [hl] at this;exact ⟨⟨this.1,this.2.lt⟩,this.2⟩
theorem QXZ.cut {w:World} {S:Nat->Prop} {q:Nat} {v:Vm} (h:QXZ w S q v):QXZ w (ZOk S w) q v:=by
 obtain ⟨h1,h2,S1,S2,b1,b2,hr,hp,hg,s1,s2,s3,s4,s5⟩:=h;exact ⟨h1,⟨h2,hr.lt⟩,ZOk S1 w,ZOk S2 w,b1,b2,hr,hp.cut,hg.cut,fun k hk=>⟨s1 k hk.1,hk.2⟩,fun k hk=>⟨s2 k hk.1,hk.2⟩,fun k hk hk2=>s3 k hk.1 hk2.1,fun h=>s4 h.1,fun h=>s5 h.1⟩
theorem JH4 {a b c a' b' c':Value} (h1:a=a') (h2:b=b') (h3:c=c'):Ending.returned (.tuple #[a,b,c])=.returned (.tuple #[a',b',c']):=by rw [h1,h2,h3]
def Vm.ldE (v:Vm) (a:Int):Int:=if 0<=a/\a<v.n then frE v.pt (a/v.pl.pg) else 11
def Vm.at (v:Vm) (a:Int):Nat:=(v.pt.getD (a/v.pl.pg).toNat 0-1)*v.pl.pg+(a%v.pl.pg).toNat
def Vm.ldV (v:Vm) (a:Int):Nat:=if v.ldE a=0 then v.pl.wd.getD (v.at a) 0 else 0
def Vm.st (v:Vm) (a:Int) (x:Nat):Vm:=if v.ldE a=0 then { v with pl:={ v.pl with wd:=v.pl.wd.set (v.at a) x } } else v
theorem ZAR.page {v:Vm} (h:ZAR v):1<=v.pl.pg/\v.pl.pg<=256:=⟨by have:=Quq h.pl.pg;omega,h.pl.pg2⟩
theorem ZAR.split {v:Vm} (h:ZAR v) {a:Nat} (ha:a<v.n):a/v.pl.pg<v.pt.length/\a%v.pl.pg<v.pl.pg:=by
 have hp:=h.page;refine ⟨(Nat.div_lt_iff_lt_mul hp.1).2 (by rw [<-h.np];exact ha),Nat.mod_lt _ hp.1⟩
theorem ZAR.hit {v:Vm} {a:Int} (h0:v.ldE a=0):∃ j:Nat,a=j/\j<v.n/\v.pt.getD (j/v.pl.pg) 0≠0:=by
 unfold Vm.ldE at h0
 split at h0
 ·rename_i hr;obtain ⟨j,rfl⟩:∃ j:Nat,a=j:=⟨a.toNat,by omega⟩;obtain ⟨p,hp1,hp2,hp3⟩:=ZsE h0;have hpj:p=j/v.pl.pg:=by omega
  exact ⟨j,rfl,by omega,by rw [<-hpj];exact hp3⟩
 ·cases h0
section
variable {w:World} {S:Nat->Prop} {q:Nat} {v:Vm}
theorem Zuu (hV:QXZ w S q v):Calls Tryz.prog 120 #[.pointer (some ⟨q,0,none⟩)] w fun e w'=>e=.returned (.bool false)/\w=w':=by
 obtain ⟨S1,S2,b1,b2,hr,-⟩:=hV.row;have c0:=hr.cell (j:=0) rfl;clear hr;go_enter Tryz.func120,Tryz.ntmps120;go_wp2;go_ret;exact ⟨rfl,rfl⟩
def Xy7 (w:World) (v:Vm) (a:Int) (e:Ending) (w':World):Prop:=
 Gr w w'/\∃ x y:Int,e=.returned (.tuple #[.int .i64 x,.int .i64 y,.int .i64 (v.ldE a)])/\(v.ldE a=0->x=(v.pt.getD (a/v.pl.pg).toNat 0:Nat)-1/\y=a%v.pl.pg)
set_option maxHeartbeats 1600000 in
theorem ZfJ (hV:QXZ w S q v) (a:Int):Calls Tryz.prog 258 #[.pointer (some ⟨q,0,none⟩),.int .i64 a] w (Xy7 w v a):=by
 have HV:=hid hV;obtain ⟨S1,S2,b1,b2,hr,hp,hg,-⟩:=hV.row;have c0:=hr.cell (j:=0) rfl;have c1:=hr.cell (j:=1) rfl;have c2:=hr.cell (j:=2) rfl;have hql:=hr.lt;have HP:=hid hp;have HG:=hid hg;have hpg:=hV.ok.page;have hn:=hV.ok.n2;by_cases hin:0<=a/\a<v.n
 ·obtain ⟨j,rfl⟩:∃ j:Nat,a=j:=⟨a.toNat,by omega⟩;have HE:Hid (v.ldE j=frE v.pt ((j/v.pl.pg:Nat):Int)):=⟨by unfold Vm.ldE;rw [if_pos hin,Int.natCast_ediv]⟩;have HA:Hid (((j:Int)/(v.pl.pg:Int)).toNat=j/v.pl.pg/\((j%v.pl.pg:Nat):Int)=(j:Int)%(v.pl.pg:Int)):=⟨⟨by rw [<-Int.natCast_ediv,Int.toNat_natCast],Int.natCast_emod ..⟩⟩;obtain ⟨p,hpp⟩:∃ p,p=j/v.pl.pg:=⟨_,rfl⟩;obtain ⟨o,hoo⟩:∃ o,o=j%v.pl.pg:=⟨_,rfl⟩;have q1:((j:Int).tdiv (v.pl.pg:Int))=(p:Int):=by rw [hpp];rfl
  have q2:((j:Int)/(v.pl.pg:Int))=(p:Int):=by rw [hpp];rfl
  have q3:((j:Int).tmod (v.pl.pg:Int))=(o:Int):=by rw [hoo];rfl
  have q4:((j:Int)%(v.pl.pg:Int))=(o:Int):=by rw [hoo];rfl
  have hBp:(v.pl.pg:Int)≠0:=by omega
  rw [<-hpp] at HE;rw [<-hpp,<-hoo] at HA;have hp2:p<=524288:=by have:=Nat.div_le_self j v.pl.pg;omega
  have ho2:o<=524288:=by have:=Nat.mod_le j v.pl.pg;omega
  have hjI:(j:Int)<(v.n:Int):=by omega
  obtain ⟨B,hB⟩:∃ B,B=v.pl.pg:=⟨_,rfl⟩;have HB:=hid hB;rw [<-hB] at q1 q2 q3 q4 hBp hpg;have d0:decide ((j:Int)<0)=false:=decide_eq_false (by omega);have d1:decide ((v.n:Int)<=(j:Int))=false:=decide_eq_false (by omega);clear hr hp hg hV hin hpp hoo hB;go_enter Tryz.func258,Tryz.ntmps258
  go_wp2_with (first
   | (go_at_call 120;refine (Zuu HV.o).mono ?_;rintro e w1 ⟨rfl,rfl⟩)
   | (go_at_call 200;refine (J7n HP.o).mono ?_;rintro e w1 ⟨rfl,rfl⟩;rw [<-HB.o]))
  have z1:∀ xs m,(grow w xs m).cell? ⟨q,1,none⟩=some (.pointer (some ⟨b2,0,none⟩)):=fun xs m=>((grown w xs m).cell hql 1).trans c1;refine XAX (by kernel_rfl) (by kernel_rfl) ?_
  repeat (go_big_quiet_step ((go_at_call 246;have hc:=fun xs m=>Qit (HG.o.gr (grown w xs m)) (p:Int);exact V4y.grown (hc _ _))))
  refine wpQuiet_nil ?_;intro _ hw';obtain ⟨⟨xs,nq⟩,hw''⟩:=hw';subst hw'';go_wp2;go_quiet (fail);go_wp2
  go_ret3
  refine ⟨(grown w _ _).drewN _,_,_,JH4 rfl rfl (Yhd HE.o.symm),fun h0=>?_⟩;rw [HE.o] at h0;rw [HA.o.1,<-HA.o.2];refine ⟨?_,rfl⟩;unfold frV;rw [if_pos h0,Int.toNat_natCast]
 ·have E:v.ldE a=11:=by unfold Vm.ldE;rw [if_neg hin]
  have HE:=hid E;rcases (by omega:a<0\/(0<=a/\(v.n:Int)<=a)) with h | h
  ·have d0:decide (a<0)=true:=decide_eq_true h;clear hr hp hg hV hin E h;go_enter Tryz.func258,Tryz.ntmps258;go_wp2_with (go_at_call 120;refine (Zuu HV.o).mono ?_;rintro e w1 ⟨rfl,rfl⟩)
   go_ret3
   exact ⟨Gr.refl w,_,_,JH4 rfl rfl (Yhd HE.o.symm),fun h0=>by rw [HE.o] at h0;exact absurd h0 (by decide)⟩
  ·have d0:decide (a<0)=false:=decide_eq_false (by omega);have d1:decide ((v.n:Int)<=a)=true:=decide_eq_true h.2;clear hr hp hg hV hin E h;go_enter Tryz.func258,Tryz.ntmps258;go_wp2_with (go_at_call 120;refine (Zuu HV.o).mono ?_;rintro e w1 ⟨rfl,rfl⟩)
   go_ret3
   exact ⟨Gr.refl w,_,_,JH4 rfl rfl (Yhd HE.o.symm),fun h0=>by rw [HE.o] at h0;exact absurd h0 (by decide)⟩
theorem ViR (hok:ZAR v) {a x y:Int} (h0:v.ldE a=0) (hx:x=(v.pt.getD (a/v.pl.pg).toNat 0:Nat)-1) (hy:y=a%v.pl.pg):VIj v.pl x y=0/\x.toNat*v.pl.pg+y.toNat=v.at a:=by
 obtain ⟨j,rfl,hj,hne⟩:=ZAR.hit h0;obtain ⟨h1,h2⟩:=hok.split hj;have hf:=hok.fr _ h1 hne;have e1:((j:Int)/(v.pl.pg:Int)).toNat=j/v.pl.pg:=by rw [<-Int.natCast_ediv,Int.toNat_natCast]
 have e2:(j:Int)%(v.pl.pg:Int)=((j%v.pl.pg:Nat):Int):=(Int.natCast_emod ..).symm;rw [e1] at hx;rw [e2] at hy;have hx1:0<=x:=by omega
 have hx2:x.toNat=v.pt.getD (j/v.pl.pg) 0-1:=by omega
 have hc:YHh v.pl x=0:=by unfold YHh;rw [decide_eq_true hx1,hx2,hf];rfl
 refine ⟨?_,?_⟩
 ·unfold VIj;rw [if_pos hc,if_pos ⟨by omega,by omega⟩]
 ·unfold Vm.at;rw [e1,e2,hx2,hy]
set_option maxHeartbeats 800000 in
theorem VW8 (hV:QXZ w S q v) (a:Int):Calls Tryz.prog 213 #[.pointer (some ⟨q,0,none⟩),.int .i64 a] w fun e w'=>e=.returned (.tuple #[.int .u64 (v.ldV a:Nat),.int .i64 (v.ldE a)])/\Gr w w':=by
 have HV:=hid hV;obtain ⟨S1,S2,b1,b2,hr,hp,hg,-⟩:=hV.row;have hql:=hr.lt;have c0:=hr.cell (j:=0) rfl;have HP:=hid hp;by_cases h0:v.ldE a=0
 ·have HE:=hid h0
  have HW:Hid (∀ x y:Int,x=(v.pt.getD (a/v.pl.pg).toNat 0:Nat)-1->y=a%v.pl.pg->VIj v.pl x y=0/\Q0D v.pl x y=v.ldV a):=⟨fun x y hx hy=>by
   obtain ⟨h1,h2⟩:=ViR hV.ok h0 hx hy;refine ⟨h1,?_⟩;unfold Q0D Vm.ldV
   rw [if_pos h1,if_pos h0,h2]⟩
  clear hr hp hg hV h0;go_enter Tryz.func213,Tryz.ntmps213
  go_wp2_with (first
   | (go_at_call 258;refine (ZfJ HV.o a).mono ?_;rintro e w1 ⟨hg1,x,y,rfl,hxy⟩;have HXY:=hid (HW.o x y (hxy HE.o).1 (hxy HE.o).2);rw [HE.o];have k0:=(hg1.cell hql 0).trans c0;have HG1:=hid hg1;clear hg1 hxy)
   | (go_at_call 259;refine (Xn2 (HP.o.gr HG1.o) x y).mono ?_;rintro e w2 ⟨rfl,rfl⟩))
  go_ret2;exact ⟨Qh8 (congrArg (fun n:Nat=>Value.int .u64 (n:Int)) HXY.o.2) (Yhd (by rw [HXY.o.1,HE.o])),HG1.o⟩
 ·have HV0:Hid (v.ldV a=0):=⟨by unfold Vm.ldV;rw [if_neg h0]⟩;obtain ⟨x,hx⟩:∃ x,x=v.ldE a:=⟨_,rfl⟩;have HX:=hid hx;have d0:(x==0)=false:=by rw [hx];simpa using h0
  clear hr hp hg hV h0 hx;go_enter Tryz.func213,Tryz.ntmps213;go_wp2_with (go_at_call 258;refine (ZfJ HV.o a).mono ?_;rintro e w1 ⟨hg1,x1,y1,rfl,-⟩;rw [<-HX.o];have HG1:=hid hg1;clear hg1);go_ret2;exact ⟨Qh8 (by rw [HV0.o];rfl) (Yhd (by rw [HX.o])),HG1.o⟩
def Zfu (w:World) (S:Nat->Prop) (q:Nat) (v:Vm) (a:Int) (x:Nat) (w':World):Prop:=XF4 S w w'/\QXZ w' S q (v.st a x)
theorem ZAR.st (h:ZAR v) (a:Int) {x:Nat} (hx:x<18446744073709551616):ZAR (v.st a x):=by
 unfold Vm.st
 split
 ·exact ⟨QTa h.pl _ _ hx,h.pt,h.n2,h.np,h.fr,h.inj,h.us⟩
 ·exact h
set_option maxHeartbeats 800000 in
theorem Qpx (hV:QXZ w S q v) (a:Int) {x:Nat} (hx:x<18446744073709551616):Calls Tryz.prog 214 #[.pointer (some ⟨q,0,none⟩),.int .i64 a,.int .u64 x] w fun e w'=>e=.returned (.int .i64 (v.ldE a))/\Zfu w S q v a x w':=by
 have HV:=hid hV;obtain ⟨S1,S2,b1,b2,hr,hp,hg,s1,s2,s3,s4,s5⟩:=hV.row;have hql:=hr.lt;have c0:=hr.cell (j:=0) rfl;have HP:=hid hp;have hok:=hid (hV.ok.st a hx);have hX:=hid hx;by_cases h0:v.ldE a=0
 ·have HE:=hid h0;have HS:Hid (v.st a x={ v with pl:={ v.pl with wd:=v.pl.wd.set (v.at a) x } }):=⟨by unfold Vm.st;rw [if_pos h0]⟩
  have HW:Hid (∀ y z:Int,y=(v.pt.getD (a/v.pl.pg).toNat 0:Nat)-1->z=a%v.pl.pg->VIj v.pl y z=0/\QrR v.pl y z x={ v.pl with wd:=v.pl.wd.set (v.at a) x }):=⟨fun y z hy hz=>by
   obtain ⟨h1,h2⟩:=ViR hV.ok h0 hy hz;refine ⟨h1,?_⟩;unfold QrR
   rw [if_pos h1,h2]⟩
  have HK:Hid (∀ (w1:World),Gr w w1->∀ w2,XF4 S1 w1 w2->Z9Y w2 S1 b1 { v.pl with wd:=v.pl.wd.set (v.at a) x }->Zfu w S q v a x w2):=⟨fun w1 g1 w2 t2 p2=>by
   have T:XF4 S1 w w2:=(g1.touch S1).trans t2;refine ⟨T.mono (fun k _ hk=>s1 k hk),hok.o,hV.sq,S1,S2,b1,b2,?_,?_,?_,s1,s2,s3,s4,s5⟩
   ·rw [HS.o];exact hr.touch T s4
   ·rw [HS.o];exact p2
   ·rw [HS.o];exact hg.touch T (fun k hk _ hk2=>s3 k hk2 hk)⟩
  clear hr hp hg hV h0 hx s1 s2 s3 s4 s5;go_enter Tryz.func214,Tryz.ntmps214
  go_wp2_with (first
   | (go_at_call 258;refine (ZfJ HV.o a).mono ?_;rintro e w1 ⟨hg1,y,z,rfl,hxy⟩;have HXY:=hid (HW.o y z (hxy HE.o).1 (hxy HE.o).2);rw [HE.o];have k0:=(hg1.cell hql 0).trans c0;have HG1:=hid hg1;clear hg1 hxy)
   | (go_at_call 260;refine (YBJ (HP.o.gr HG1.o) y z x hX.o).mono ?_;rintro e w2 ⟨rfl,ht2,hp2⟩;have HT2:=hid ht2;have HP2:=hid hp2;clear ht2 hp2))
  go_ret;refine ⟨ZzN (by rw [HXY.o.1,HE.o]),HK.o _ HG1.o _ HT2.o ?_⟩;rw [<-HXY.o.2];exact HP2.o
 ·have HS:Hid (v.st a x=v):=⟨by unfold Vm.st;rw [if_neg h0]⟩;obtain ⟨y,hy⟩:∃ y,y=v.ldE a:=⟨_,rfl⟩;have HX:=hid hy;have d0:(y==0)=false:=by rw [hy];simpa using h0
  clear hr hp hg hV h0 hx hy;go_enter Tryz.func214,Tryz.ntmps214;go_wp2_with (go_at_call 258;refine (ZfJ HV.o a).mono ?_;rintro e w1 ⟨hg1,x1,y1,rfl,-⟩;rw [<-HX.o];have HG1:=hid hg1;clear hg1);go_ret;exact ⟨ZzN (by rw [HX.o]),HG1.o.touch S,by rw [HS.o];exact HV.o.gr HG1.o⟩
end
end
end
section
section
open Go.RowKit Word
def Vm.mpE (v:Vm) (p:Int):Int:=if pgE v.pt p≠0 then 11 else if v.pt.getD p.toNat 0≠0 then 13 else if v.pl.used=v.pl.rm then 14 else 0
def Vm.mp (v:Vm) (p:Int):Vm:=if v.mpE p=0 then { v with pl:=v.pl.take,pt:=v.pt.set p.toNat (v.pl.next+1) } else v
def Vm.um (v:Vm) (p:Int):Vm:=if frE v.pt p=0 then { v with pl:=v.pl.give (v.pt.getD p.toNat 0-1),pt:=v.pt.set p.toNat 0 } else v
theorem YMb {p:Pl} {f:Nat} (h:at_ p.tk f=true):at_ p.fresh.tk f=true:=by
 unfold Pl.fresh
 split
 ·have:=XaX h
  show at_ (p.tk++[false]) f=true
  unfold at_ at h ⊢;rw [List.getD_eq_getElem?_getD,List.getElem?_append_left this,<-List.getD_eq_getElem?_getD];exact h
 ·exact h
theorem Xiq (l:List Bool) {i:Nat} (hi:i<l.length) (x:Bool) (j:Nat):at_ (l.set i x) j=if i=j then x else at_ l j:=by
 unfold at_;simp only [List.getD_eq_getElem?_getD,List.getElem?_set];by_cases e:i=j
 ·subst e;simp [hi]
 ·simp [e]
theorem QGm {p:Pl} (h:QIq p) (f:Nat):at_ p.take.tk f=if p.next=f then true else at_ p.fresh.tk f:=Xiq _ (Z3f h).1 _ _
theorem VP7 {p:Pl} (h:QIq p) {f:Nat} (hf:at_ p.tk f=true):f≠p.next:=by
 rintro rfl;have h1:=(Z3f h).2.2;rw [YMb hf] at h1;cases h1
theorem ZAR.frame {v:Vm} (h:ZAR v) {p:Nat} (hp:v.pt.getD p 0≠0):at_ v.pl.tk (v.pt.getD p 0-1)=true:=by
 by_cases hl:p<v.pt.length
 ·exact h.fr p hl hp
 ·rw [List.getD_eq_getElem?_getD,List.getElem?_eq_none (by omega)] at hp;exact absurd rfl hp
theorem ZAR.mp {v:Vm} (h:ZAR v) (p:Int):ZAR (v.mp p):=by
 unfold Vm.mp
 split
 ·rename_i h0;unfold Vm.mpE at h0;by_cases h1:pgE v.pt p≠0
  ·rw [if_pos h1] at h0;cases h0
  ·rw [if_neg h1] at h0;by_cases h2:v.pt.getD p.toNat 0≠0
   ·rw [if_pos h2] at h0;cases h0
   ·rw [if_neg h2] at h0;have h2':v.pt.getD p.toNat 0=0:=Decidable.not_not.1 h2;by_cases h3:v.pl.used=v.pl.rm
    ·rw [if_pos h3] at h0;cases h0
    ·obtain ⟨j,rfl,hj⟩:=JkS (Decidable.not_not.1 h1);rw [Int.toNat_natCast] at h2' ⊢;have hn:=Z3f h.pl;have hle:=X9u h.pl;have hok:=ZGf h.pl (by omega);have hlen:v.pl.fresh.tk.length=v.pl.take.tk.length:=by unfold Pl.take;exact List.length_set.symm
     have hn2:v.pl.next<4096:=by have:=hok.le;have:=hok.rm;omega
     refine ⟨hok,h.pt.set j (by omega),h.n2,?_,fun i hi hne=>?_,fun i i' hi hi' hne he=>?_,?_⟩
     ·show v.n=(v.pt.set j _).length*v.pl.take.pg
      rw [List.length_set];have:v.pl.take.pg=v.pl.pg:=(Yoc v.pl).1;rw [this];exact h.np
     ·show at_ v.pl.take.tk ((v.pt.set j _).getD i 0-1)=true
      rw [Q81 hj,QGm h.pl];by_cases e:j=i
      ·rw [if_pos e,if_pos (by omega)]
      ·rw [if_neg e]
       split
       ·rfl
       ·refine YMb (h.frame ?_);have:(v.pt.set j (v.pl.next+1)).getD i 0≠0:=hne;rw [Q81 hj,if_neg e] at this;exact this
     ·have hne:(v.pt.set j (v.pl.next+1)).getD i 0≠0:=hne;have he:(v.pt.set j (v.pl.next+1)).getD i 0=(v.pt.set j (v.pl.next+1)).getD i' 0:=he;have hi:i<v.pt.length:=by have:i<(v.pt.set j (v.pl.next+1)).length:=hi;rwa [List.length_set] at this
      have hi':i' < v.pt.length:=by have:i' < (v.pt.set j (v.pl.next+1)).length:=hi';rwa [List.length_set] at this
      rw [Q81 hj] at hne he;rw [Q81 hj] at he;by_cases e:j=i <;> by_cases e':j=i'
      ·rw [<-e,e']
      ·rw [if_pos e,if_neg e'] at he;have:=VP7 h.pl (h.frame (p:=i') (by omega));omega
      ·rw [if_neg e,if_pos e'] at he;have:=VP7 h.pl (h.frame (p:=i) (by omega));omega
      ·rw [if_neg e] at hne he;rw [if_neg e'] at he;exact h.inj i i' hi hi' hne he
     ·show v.pl.take.used=nz (v.pt.set j (v.pl.next+1))
      rw [VaR h.pl,Zav hj h2' (by omega),h.us]
 ·exact h
theorem ZAR.um {v:Vm} (h:ZAR v) (p:Int):ZAR (v.um p):=by
 unfold Vm.um
 split
 ·rename_i h0;obtain ⟨j,rfl,hj,hne⟩:=ZsE h0;rw [Int.toNat_natCast];have hf:=h.fr j hj hne;refine ⟨Q60 h.pl hf,h.pt.set j (by omega),h.n2,?_,fun i hi hn=>?_,fun i i' hi hi' hn he=>?_,?_⟩
  ·show v.n=(v.pt.set j 0).length*v.pl.pg
   rw [List.length_set];exact h.np
  ·have hi:i<v.pt.length:=by have:i<(v.pt.set j 0).length:=hi;rwa [List.length_set] at this
   have hn:(v.pt.set j 0).getD i 0≠0:=hn
   show at_ (v.pl.tk.set _ false) ((v.pt.set j 0).getD i 0-1)=true
   rw [Q81 hj] at hn ⊢;by_cases e:j=i
   ·rw [if_pos e] at hn;exact absurd rfl hn
   ·rw [if_neg e] at hn ⊢;rw [Xiq _ (XaX hf),if_neg,h.fr i hi hn];intro e2;exact e (h.inj j i hj hi hne (by omega))
  ·have hi:i<v.pt.length:=by have:i<(v.pt.set j 0).length:=hi;rwa [List.length_set] at this
   have hi':i' < v.pt.length:=by have:i' < (v.pt.set j 0).length:=hi';rwa [List.length_set] at this
   have hn:(v.pt.set j 0).getD i 0≠0:=hn;have he:(v.pt.set j 0).getD i 0=(v.pt.set j 0).getD i' 0:=he;rw [Q81 hj] at hn he;rw [Q81 hj] at he;by_cases e:j=i
   ·rw [if_pos e] at hn;exact absurd rfl hn
   ·rw [if_neg e] at hn he;by_cases e':j=i'
    ·rw [if_pos e'] at he;omega
    ·rw [if_neg e'] at he;exact h.inj i i' hi hi' hn he
  ·show (v.pl.give _).used=nz (v.pt.set j 0)
   have h1:=XvH (p:=v.pl) hf;have h2:=VtU hj hne;have:=h.us;omega
 ·exact h
theorem ZAR.place_lt {v:Vm} (h:ZAR v) {a:Int} (h0:v.ldE a=0):v.at a<v.pl.wd.length:=by
 obtain ⟨j,rfl,hj,hne⟩:=ZAR.hit h0;obtain ⟨h1,h2⟩:=h.split hj;have hf:=XaX (h.fr _ h1 hne);unfold Vm.at;rw [<-Int.natCast_ediv,Int.toNat_natCast,<-Int.natCast_emod,Int.toNat_natCast,h.pl.wl];have:(v.pt.getD (j/v.pl.pg) 0-1+1)*v.pl.pg<=v.pl.tk.length*v.pl.pg:=Nat.mul_le_mul_right _ hf;rw [Nat.succ_mul] at this;omega
theorem XfE {g f o f' o':Nat} (h1:o<g) (h2:o' < g) (h:f*g+o=f' * g+o'):f=f'/\o=o':=by
 have e1:(f*g+o)/g=f:=by rw [Nat.mul_comm,Nat.mul_add_div (by omega),Nat.div_eq_of_lt h1,Nat.add_zero]
 have e2:(f' * g+o')/g=f':=by rw [Nat.mul_comm,Nat.mul_add_div (by omega),Nat.div_eq_of_lt h2,Nat.add_zero]
 rw [h,e2] at e1;subst e1;exact ⟨rfl,by omega⟩
theorem ZAR.at_inj {v:Vm} (h:ZAR v) {a b:Int} (ha:v.ldE a=0) (hb:v.ldE b=0) (he:v.at a=v.at b):a=b:=by
 obtain ⟨j,rfl,hj,hne⟩:=ZAR.hit ha;obtain ⟨i,rfl,hi,hne'⟩:=ZAR.hit hb;obtain ⟨h1,h2⟩:=h.split hj;obtain ⟨h3,h4⟩:=h.split hi;unfold Vm.at at he;rw [<-Int.natCast_ediv,Int.toNat_natCast,<-Int.natCast_emod,Int.toNat_natCast,<-Int.natCast_ediv,Int.toNat_natCast,<-Int.natCast_emod,Int.toNat_natCast] at he;obtain ⟨e1,e2⟩:=XfE h2 h4 he;have e3:=h.inj _ _ h1 h3 hne (by omega);have:=Nat.div_add_mod j v.pl.pg;have:=Nat.div_add_mod i v.pl.pg;rw [e3,e2] at *
 omega
theorem Zpt (v:Vm) (a:Int) (x:Nat) (b:Int):(v.st a x).ldE b=v.ldE b:=by unfold Vm.st;split <;> rfl
theorem ZAR.st_ldV {v:Vm} (h:ZAR v) {a:Int} (x:Nat) (ha:v.ldE a=0) (b:Int):(v.st a x).ldV b=if a=b then x else v.ldV b:=by
 have e1:v.st a x={ v with pl:={ v.pl with wd:=v.pl.wd.set (v.at a) x } }:=if_pos ha;have e2:(v.st a x).at b=v.at b:=by rw [e1];rfl
 have e3:(v.st a x).pl.wd=v.pl.wd.set (v.at a) x:=by rw [e1]
 unfold Vm.ldV;rw [Zpt,e2,e3];by_cases hb:v.ldE b=0
 ·rw [if_pos hb,if_pos hb,Q81 (h.place_lt ha)];by_cases e:a=b
  ·rw [if_pos e,if_pos (by rw [e])]
  ·rw [if_neg e,if_neg (fun he=>e (h.at_inj ha hb he))]
 ·rw [if_neg hb,if_neg hb];by_cases e:a=b
  ·subst e;exact absurd ha hb
  ·rw [if_neg e]
theorem Qmw {v:Vm} {p:Int} (h:v.mpE p≠0):v.mp p=v:=if_neg h
theorem V4M {v:Vm} {p:Int} (h:frE v.pt p≠0):v.um p=v:=if_neg h
theorem Jvo {v:Vm} {p:Int} (h:v.mpE p=0):∃ j:Nat,p=j/\j<v.pt.length/\v.pt.getD j 0=0/\v.pl.used≠v.pl.rm:=by
 unfold Vm.mpE at h
 split at h
 ·cases h
 ·rename_i h1;obtain ⟨j,rfl,hj⟩:=JkS (Decidable.not_not.1 h1);rw [Int.toNat_natCast] at h
  split at h
  ·cases h
  ·rename_i h2
   split at h
   ·cases h
   ·rename_i h3;exact ⟨j,rfl,hj,Decidable.not_not.1 h2,h3⟩
theorem VP8 {pt:List Nat} {p:Nat} (h:p<pt.length):frE pt p=if pt.getD p 0=0 then 12 else 0:=by
 unfold frE pgE;rw [if_pos (show (if (0:Int)<=(p:Int)/\(p:Int)<(pt.length:Int) then (0:Int) else 11)=0 from if_pos ⟨by omega,by omega⟩),Int.toNat_natCast]
theorem ZAR.ldE_of {v:Vm} (h:ZAR v) {a:Nat} (ha:a<v.n):v.ldE a=if v.pt.getD (a/v.pl.pg) 0=0 then 12 else 0:=by
 unfold Vm.ldE;rw [if_pos ⟨by omega,by omega⟩,<-Int.natCast_ediv,VP8 (h.split ha).1]
theorem ZAR.mp_ldE {v:Vm} (h:ZAR v) {p:Nat} (hp:v.mpE p=0) {a:Nat} (ha:a<v.n):(v.mp p).ldE a=if a/v.pl.pg=p then 0 else v.ldE a:=by
 have e1:v.mp p={ v with pl:=v.pl.take,pt:=v.pt.set p (v.pl.next+1) }:=by unfold Vm.mp;rw [if_pos hp,Int.toNat_natCast]
 obtain ⟨j,hj,hjl,-,-⟩:=Jvo hp;obtain rfl:p=j:=by omega
 have h1:=(h.mp p).ldE_of (a:=a) (by rw [e1];exact ha);have e2:(v.mp p).pl.pg=v.pl.pg:=by rw [e1];exact (Yoc v.pl).1
 have e3:(v.mp p).pt=v.pt.set p (v.pl.next+1):=by rw [e1]
 rw [h1,e2,e3,Q81 hjl,h.ldE_of ha];by_cases e:a/v.pl.pg=p
 ·rw [if_pos e.symm,if_pos e,if_neg (by omega)]
 ·have en:¬ p=a/v.pl.pg:=fun h=>e h.symm;rw [if_neg en,if_neg e]
theorem ZAR.mp_ldV {v:Vm} (h:ZAR v) {p:Nat} (hp:v.mpE p=0) {a:Nat} (ha:a<v.n):(v.mp p).ldV a=if a/v.pl.pg=p then 0 else v.ldV a:=by
 have e1:v.mp p={ v with pl:=v.pl.take,pt:=v.pt.set p (v.pl.next+1) }:=by unfold Vm.mp;rw [if_pos hp,Int.toNat_natCast]
 obtain ⟨j,hj,hjl,-,-⟩:=Jvo hp;obtain rfl:p=j:=by omega
 have hE:=h.mp_ldE hp ha;obtain ⟨n1,n2,n3⟩:=Z3f h.pl;have hf:v.pl.next*v.pl.pg+v.pl.pg<=v.pl.fresh.wd.length:=by rw [n2,<-Nat.succ_mul];exact Nat.mul_le_mul_right _ n1
 have e2:(v.mp p).pl.pg=v.pl.pg:=by rw [e1];exact (Yoc v.pl).1
 have e3:(v.mp p).pt=v.pt.set p (v.pl.next+1):=by rw [e1]
 have e4:(v.mp p).pl.wd=JA7 v.pl.fresh.wd (v.pl.next*v.pl.pg) v.pl.pg:=by rw [e1];rfl
 obtain ⟨s1,s2⟩:=h.split ha
 have e5:(v.mp p).at a=((v.pt.set p (v.pl.next+1)).getD (a/v.pl.pg) 0-1)*v.pl.pg+a%v.pl.pg:=by
  unfold Vm.at;rw [e2,e3,<-Int.natCast_ediv,Int.toNat_natCast,<-Int.natCast_emod,Int.toNat_natCast]
 unfold Vm.ldV;rw [hE,e4,e5,Q81 hjl];by_cases e:a/v.pl.pg=p
 ·rw [if_pos e,if_pos e,if_pos rfl,if_pos e.symm,YMA hf,if_pos ⟨by simp,by rw [Nat.add_sub_cancel];omega⟩]
 ·have en:¬ p=a/v.pl.pg:=fun h=>e h.symm;rw [if_neg e,if_neg e,if_neg en];by_cases h0:v.ldE a=0
  ·rw [if_pos h0,if_pos h0];obtain ⟨j',hj',hj2,hne⟩:=ZAR.hit h0;obtain rfl:a=j':=by omega
   have hfr:=h.fr _ s1 hne;have hnx:=VP7 h.pl hfr;have hlt:=XaX hfr
   have hat:v.at a=(v.pt.getD (a/v.pl.pg) 0-1)*v.pl.pg+a%v.pl.pg:=by
    unfold Vm.at;rw [<-Int.natCast_ediv,Int.toNat_natCast,<-Int.natCast_emod,Int.toNat_natCast]
   have hal:=h.place_lt h0;rw [hat] at hal ⊢;rw [YMA hf,if_neg]
   ·unfold Pl.fresh
    split
    ·generalize (v.pt.getD (a/v.pl.pg) 0-1)*v.pl.pg+a%v.pl.pg=i at hal;simp only [List.getD_eq_getElem?_getD];rw [List.getElem?_append_left hal]
    ·rfl
   ·rintro ⟨c1,c2⟩;generalize v.pt.getD (a/v.pl.pg) 0-1=f at *
    rcases Nat.lt_or_ge f v.pl.next with hl | hl
    ·have:(f+1)*v.pl.pg<=v.pl.next*v.pl.pg:=Nat.mul_le_mul_right _ hl
     rw [Nat.succ_mul] at this;omega
    ·have:(v.pl.next+1)*v.pl.pg<=f*v.pl.pg:=Nat.mul_le_mul_right _ (by omega);rw [Nat.succ_mul] at this;omega
  ·rw [if_neg h0,if_neg h0]
theorem ZAR.um_ldE {v:Vm} (h:ZAR v) {p:Nat} (hp:frE v.pt p=0) {a:Nat} (ha:a<v.n):(v.um p).ldE a=if a/v.pl.pg=p then 12 else v.ldE a:=by
 have e1:v.um p={ v with pl:=v.pl.give (v.pt.getD p 0-1),pt:=v.pt.set p 0 }:=by unfold Vm.um;rw [if_pos hp,Int.toNat_natCast]
 obtain ⟨j,hj,hjl,-⟩:=ZsE hp;obtain rfl:p=j:=by omega
 have h1:=(h.um p).ldE_of (a:=a) (by rw [e1];exact ha);have e2:(v.um p).pl.pg=v.pl.pg:=by rw [e1];rfl
 have e3:(v.um p).pt=v.pt.set p 0:=by rw [e1]
 rw [h1,e2,e3,Q81 hjl,h.ldE_of ha];by_cases e:a/v.pl.pg=p
 ·rw [if_pos e.symm,if_pos e,if_pos rfl]
 ·have en:¬ p=a/v.pl.pg:=fun h=>e h.symm;rw [if_neg en,if_neg e]
theorem ZAR.um_ldV {v:Vm} (h:ZAR v) {p:Nat} (hp:frE v.pt p=0) {a:Nat} (ha:a<v.n) (hne:a/v.pl.pg≠p):(v.um p).ldV a=v.ldV a:=by
 have e1:v.um p={ v with pl:=v.pl.give (v.pt.getD p 0-1),pt:=v.pt.set p 0 }:=by unfold Vm.um;rw [if_pos hp,Int.toNat_natCast]
 obtain ⟨j,hj,hjl,-⟩:=ZsE hp;obtain rfl:p=j:=by omega
 have hE:=h.um_ldE hp ha;rw [if_neg hne] at hE
 have e5:(v.um p).at a=v.at a:=by
  unfold Vm.at;rw [e1]
  show ((v.pt.set p 0).getD ((a:Int)/(v.pl.pg:Int)).toNat 0-1)*v.pl.pg+_=_
  rw [<-Int.natCast_ediv,Int.toNat_natCast,Q81 hjl,if_neg (show ¬ p=a/v.pl.pg from fun h=>hne h.symm)];rfl
 unfold Vm.ldV;rw [hE,e5,e1];rfl
end
end
section
section
open Go.RowKit Word
def XqR (w:World) (S:Nat->Prop) (q:Nat) (v:Vm) (w':World):Prop:=XF4 S w w'/\QXZ w' (plus S w) q v
section
variable {w:World} {S:Nat->Prop} {q:Nat} {v:Vm}
theorem ZXj (v:Vm) (p:Int):(frE v.pt p=11/\v.mpE p=11)\/(frE v.pt p=0/\v.mpE p=13)\/(frE v.pt p=12/\v.pl.used=v.pl.rm/\v.mpE p=14)\/(frE v.pt p=12/\v.pl.used≠v.pl.rm/\v.mpE p=0):=by
 have e1:frE v.pt p=if pgE v.pt p=0 then (if v.pt.getD p.toNat 0=0 then 12 else 0) else 11:=rfl
 have e2:v.mpE p=if pgE v.pt p≠0 then 11 else if v.pt.getD p.toNat 0≠0 then 13 else if v.pl.used=v.pl.rm then 14 else 0:=rfl
 rw [e1,e2];by_cases h:pgE v.pt p=0
 ·have h':¬ pgE v.pt p≠0:=fun h'=>h' h;by_cases h2:v.pt.getD p.toNat 0=0
  ·have h2':¬ v.pt.getD p.toNat 0≠0:=fun h'=>h' h2;by_cases h3:v.pl.used=v.pl.rm
   ·exact .inr (.inr (.inl ⟨by rw [if_pos h,if_pos h2],h3,by rw [if_neg h',if_neg h2',if_pos h3]⟩))
   ·exact .inr (.inr (.inr ⟨by rw [if_pos h,if_pos h2],h3,by rw [if_neg h',if_neg h2',if_neg h3]⟩))
  ·exact .inr (.inl ⟨by rw [if_pos h,if_neg h2],by rw [if_neg h',if_pos h2]⟩)
 ·exact .inl ⟨by rw [if_neg h],by rw [if_pos h]⟩
set_option maxHeartbeats 1600000 in
theorem YKH (hV:QXZ w S q v) (p:Int):Calls Tryz.prog 201 #[.pointer (some ⟨q,0,none⟩),.int .i64 p] w fun e w'=>e=.returned (.int .i64 (v.mpE p))/\XqR w S q (v.mp p) w':=by
 have HV:=hid hV;obtain ⟨S1,S2,b1,b2,hr,hp,hg,s1,s2,s3,s4,s5⟩:=hV.row;have hql:=hr.lt;have c0:=hr.cell (j:=0) rfl;have c1:=hr.cell (j:=1) rfl;have HP:=hid hp;have HG:=hid hg
 have HN:Hid (v.mpE p≠0->∀ w',Gr w w'->XqR w S q (v.mp p) w'):=⟨fun h w' g=>by
  rw [Qmw h]
  exact ⟨g.touch S,(hV.gr g).mono (fun k hk=>.inl hk)⟩⟩
 have HR:=hid hr;have HS:=hid (And.intro s1 (And.intro s2 (And.intro s3 (And.intro s4 s5))));rcases ZXj v p with ⟨h1,h2⟩ | ⟨h1,h2⟩ | ⟨h1,h2,h3⟩ | ⟨h1,h2,h3⟩
 ·have HE:=hid (And.intro h1 h2);clear hV hr hp hg s1 s2 s3 s4 s5 h1 h2;go_enter Tryz.func201,Tryz.ntmps201
  go_wp2_with (first
   | (go_at_call 120;refine (Zuu HV.o).mono ?_;rintro e w1 ⟨rfl,rfl⟩)
   | (go_at_call 246;refine (Qit HG.o p).mono ?_;rintro e w1 ⟨rfl,hg1⟩;rw [HE.o.1];have HG1:=hid hg1;clear hg1))
  go_ret;exact ⟨ZzN (by rw [HE.o.2]),HN.o (by rw [HE.o.2];decide) _ HG1.o⟩
 ·have HE:=hid (And.intro h1 h2);clear hV hr hp hg s1 s2 s3 s4 s5 h1 h2;go_enter Tryz.func201,Tryz.ntmps201
  go_wp2_with (first
   | (go_at_call 120;refine (Zuu HV.o).mono ?_;rintro e w1 ⟨rfl,rfl⟩)
   | (go_at_call 246;refine (Qit HG.o p).mono ?_;rintro e w1 ⟨rfl,hg1⟩;rw [HE.o.1];have HG1:=hid hg1;clear hg1))
  go_ret;exact ⟨ZzN (by rw [HE.o.2]),HN.o (by rw [HE.o.2];decide) _ HG1.o⟩
 ·have HE:=hid (And.intro h1 (And.intro h2 h3));clear hV hr hp hg s1 s2 s3 s4 s5 h1 h2 h3;go_enter Tryz.func201,Tryz.ntmps201
  go_wp2_with (first
   | (go_at_call 120;refine (Zuu HV.o).mono ?_;rintro e w1 ⟨rfl,rfl⟩)
   | (go_at_call 246;refine (Qit HG.o p).mono ?_;rintro e w1 ⟨rfl,hg1⟩;rw [HE.o.1];have k0:=(hg1.cell hql 0).trans c0;have HG1:=hid hg1;clear hg1)
   | (go_at_call 247;refine (JVJ (HP.o.gr HG1.o)).mono ?_;rintro e w2 (⟨-,rfl,hg2⟩ | ⟨h,-⟩);rotate_left;(exact absurd HE.o.2.1 (by omega));have HG2:=hid hg2;clear hg2))
  go_ret;exact ⟨ZzN (by rw [HE.o.2.2]),HN.o (by rw [HE.o.2.2];decide) _ (HG1.o.trans HG2.o)⟩
 ·obtain ⟨j,rfl,hj,h0,-⟩:=Jvo h3;have HE:=hid (And.intro h1 (And.intro h2 h3))
  have hnx:v.pl.next<4096:=by
   have hle:=X9u hV.ok.pl;have hok:=ZGf hV.ok.pl (by omega);have hn:=Z3f hV.ok.pl;have hlen:v.pl.fresh.tk.length=v.pl.take.tk.length:=by unfold Pl.take;exact List.length_set.symm
   have:=hok.le;have:=hok.rm;omega
  have HM:=hid (show v.mp j={ v with pl:=v.pl.take,pt:=v.pt.set j (v.pl.next+1) } by unfold Vm.mp;rw [if_pos h3,Int.toNat_natCast]);have HPT:=hid (fun (w1 w2:World) (g1:Gr w w1) (t2:XF4 S1 w1 w2)=>YTd (((hg.gr g1).cut).touch t2 (fun k hk _ hk2=>s3 k hk2 hk.1)) hj h0 hnx);have hok':=hid (hV.ok.mp j);obtain ⟨nx,hnxe⟩:∃ nx,nx=v.pl.next:=⟨_,rfl⟩
  have HNX:=hid hnxe;rw [<-hnxe] at hnx;have c1':=hid c1;clear hV hr hp hg s1 s2 s3 h1 h2 h3 hnxe h0;go_enter Tryz.func201,Tryz.ntmps201
  go_wp2_with (first
   | (go_at_call 120;refine (Zuu HV.o).mono ?_;rintro e w1 ⟨rfl,rfl⟩)
   | (go_at_call 246;refine (Qit HG.o j).mono ?_;rintro e w1 ⟨rfl,hg1⟩;rw [HE.o.1];have k0:=(hg1.cell hql 0).trans c0;have HG1:=hid hg1;clear hg1)
   | (go_at_call 247;refine (JVJ (HP.o.gr HG1.o)).mono ?_;rintro e w2 (⟨h,-⟩ | ⟨-,rfl,ht2,hp2⟩);(exact absurd h HE.o.2.1);rw [<-HNX.o];have k1:=(ht2.cell (Nat.lt_of_lt_of_le hql HG1.o.size) s4 1).trans ((HG1.o.cell hql 1).trans c1'.o);have HT2:=hid ht2;have HP2:=hid hp2;clear ht2 hp2)
   | (go_at_call 248;have hpt:=HPT.o _ _ HG1.o HT2.o;rw [<-HNX.o] at hpt;refine hpt.mono ?_;rintro e w3 ⟨rfl,hs3⟩;have HS3:=hid hs3;clear hs3 hpt))
  go_ret;refine ⟨ZzN (by rw [HE.o.2.2]),?_⟩;obtain ⟨s1,s2,s3,s4,s5⟩:=HS.o;obtain ⟨t3,p3⟩:=HS3.o;have T12:XF4 S w w2:=(HG1.o.touch S).trans (HT2.o.mono (fun k _ hk=>s1 k hk));have z1:=HG1.o.size;have z2:=HT2.o.size;refine ⟨T12.trans (t3.mono (fun k _ hk=>s2 k hk.1)),hok'.o,.inl HV.o.sq,ZOk (plus S1 w1) w2,plus (ZOk S2 w1) w2,b1,b2,?_,?_,?_,fun k hk=>?_,fun k hk=>?_,fun k hk hk2=>?_,fun hk=>?_,fun hk=>?_⟩
  ·rw [HM.o];exact ((HR.o.gr HG1.o).touch HT2.o s4).touch t3 (fun h=>s5 h.1)
  ·rw [HM.o]
   exact HP2.o.cut.touch t3 (fun k hk _ hk2=>by
    rcases hk.1 with h | h
    ·exact s3 k h hk2.1
    ·have:=hk2.2;omega)
  ·rw [HM.o]
   show XZC w3 _ b2 (v.pt.set j (v.pl.next+1))
   rw [<-HNX.o];exact p3
  ·rcases hk.1 with h | h
   ·exact .inl (s1 k h)
   ·exact .inr (by omega)
  ·rcases hk with h | h
   ·exact .inl (s2 k h.1)
   ·exact .inr (by omega)
  ·rcases hk2 with h | h
   ·rcases hk.1 with h' | h'
    ·exact s3 k h' h.1
    ·have:=h.2;omega
   ·have:=hk.2;omega
  ·rcases hk.1 with h | h
   ·exact s4 h
   ·omega
  ·rcases hk with h | h
   ·exact s5 h.1
   ·omega
set_option maxHeartbeats 1600000 in
theorem JYA (hV:QXZ w S q v) (p:Int):Calls Tryz.prog 137 #[.pointer (some ⟨q,0,none⟩),.int .i64 p] w fun e w'=>e=.returned (.int .i64 (frE v.pt p))/\XqR w S q (v.um p) w':=by
 have HV:=hid hV;obtain ⟨S1,S2,b1,b2,hr,hp,hg,s1,s2,s3,s4,s5⟩:=hV.row;have hql:=hr.lt;have c0:=hr.cell (j:=0) rfl;have c1:=hr.cell (j:=1) rfl;have HP:=hid hp;have HG:=hid hg;have HR:=hid hr;have HS:=hid (And.intro s1 (And.intro s2 (And.intro s3 (And.intro s4 s5))));by_cases h0:frE v.pt p=0
 ·have HE:=hid h0;obtain ⟨j,rfl,hj,hne⟩:=ZsE h0;have hf:=hV.ok.fr j hj hne;obtain ⟨f,hff⟩:∃ f,f=v.pt.getD j 0-1:=⟨_,rfl⟩;have HF:=hid hff;have HFV:=hid (show frV v.pt j=(f:Int) by unfold frV;rw [if_pos h0,Int.toNat_natCast,hff];omega);rw [<-hff] at hf;have HM:=hid (show v.um j={ v with pl:=v.pl.give f,pt:=v.pt.set j 0 } by unfold Vm.um;rw [if_pos h0,Int.toNat_natCast,hff]);have HGV:=hid (fun (w1:World) (t1:XF4 S2 w w1)=>XDh (p:=v.pl) (f:=f) ((hp.cut).touch t1 (fun k hk _ hk2=>s3 k hk.1 hk2)) hf);have hok':=hid (hV.ok.um j);clear hV hr hp hg s1 s2 s3 s4 h0 hne hf hff;have c0':=hid c0;go_enter Tryz.func137,Tryz.ntmps137
  go_wp2_with (first
   | (go_at_call 120;refine (Zuu HV.o).mono ?_;rintro e w1 ⟨rfl,rfl⟩)
   | (go_at_call 203;refine (Yzj HG.o j).mono ?_;rintro e w1 ⟨rfl,(⟨h,-⟩ | ⟨-,ht1,hp1⟩)⟩;(exact absurd HE.o h);rw [HE.o,HFV.o];have k0:=(ht1.cell hql s5 0).trans c0'.o;have HT1:=hid ht1;have HP1:=hid hp1;clear ht1 hp1)
   | (go_at_call 204;refine (HGV.o _ HT1.o).mono ?_;rintro e w2 ⟨rfl,ht2,hp2⟩;have HT2:=hid ht2;have HP2:=hid hp2;clear ht2 hp2))
  go_ret;refine ⟨ZzN (by rw [HE.o]),?_⟩;obtain ⟨s1,s2,s3,s4,s5⟩:=HS.o;have t1:=HT1.o;have t2:=HT2.o;have z1:=HT1.o.size;have z2:=HT2.o.size;refine ⟨(t1.mono (fun k _ hk=>s2 k hk)).trans (t2.mono (fun k _ hk=>s1 k hk.1)),hok'.o,.inl HV.o.sq,plus (ZOk S1 w) w1,ZOk (plus S2 w) w1,b1,b2,?_,?_,?_,fun k hk=>?_,fun k hk=>?_,fun k hk hk2=>?_,fun hk=>?_,fun hk=>?_⟩
  ·rw [HM.o];exact (HR.o.touch t1 s5).touch t2 (fun h=>s4 h.1)
  ·rw [HM.o];exact HP2.o
  ·rw [HM.o];have hp1:=HP1.o;rw [Int.toNat_natCast] at hp1
   exact hp1.cut.touch t2 (fun k hk _ hk2=>by
    rcases hk.1 with h | h
    ·exact s3 k hk2.1 h
    ·have:=hk2.2;omega)
  ·rcases hk with h | h
   ·exact .inl (s1 k h.1)
   ·exact .inr (by omega)
  ·rcases hk.1 with h | h
   ·exact .inl (s2 k h)
   ·exact .inr (by omega)
  ·rcases hk with h | h
   ·rcases hk2.1 with h' | h'
    ·exact s3 k h.1 h'
    ·have:=h.2;omega
   ·have:=hk2.2;omega
  ·rcases hk with h | h
   ·exact s4 h.1
   ·omega
  ·rcases hk.1 with h | h
   ·exact s5 h
   ·omega
 ·obtain ⟨y,hy⟩:∃ y,y=frE v.pt p:=⟨_,rfl⟩;have HX:=hid hy;have d0:(y==0)=false:=by rw [hy];simpa using h0
  have HM:=hid (V4M h0);have h0':=hid h0;clear hV hr hp hg h0 hy s1 s2 s3 s4 s5;go_enter Tryz.func137,Tryz.ntmps137
  go_wp2_with (first
   | (go_at_call 120;refine (Zuu HV.o).mono ?_;rintro e w1 ⟨rfl,rfl⟩)
   | (go_at_call 203;refine (Yzj HG.o p).mono ?_;rintro e w1 ⟨rfl,(⟨-,hg1⟩ | ⟨h,-⟩)⟩;rotate_left;(exact absurd h h0'.o);rw [<-HX.o];have HG1:=hid hg1;clear hg1))
  go_ret;refine ⟨ZzN (by rw [HX.o]),HG1.o.touch S,?_⟩;rw [HM.o];exact (HV.o.gr HG1.o).mono (fun k hk=>.inl hk)
def Vm.new (n pg rm:Nat):Vm:=⟨n,Pl.none pg rm,List.replicate (n/pg) 0⟩
theorem ZAR.new {n pg rm:Nat} (h1:Y4M rm=true) (h2:Jnk pg=true) (h3:1<=n) (h4:n<=524288) (h5:n%pg=0):ZAR (Vm.new n pg rm):=by
 have hd:n/pg*pg=n:=by have:=Nat.div_add_mod n pg;rw [h5,Nat.mul_comm] at this;omega
 have h7:1<=n/pg:=by
  rcases Nat.eq_zero_or_pos (n/pg) with h | h
  ·rw [h] at hd;omega
  ·exact h
 refine ⟨Xgr h1 h2,Zym.new h7 (by have:=Nat.div_le_self n pg;omega),h4,?_,fun p hp hne=>?_,fun p p' hp hp' hne=>?_,?_⟩
 ·show n=(List.replicate (n/pg) 0).length*pg
  rw [List.length_replicate,hd]
 ·exact absurd (VBu _ _) hne
 ·exact absurd (VBu _ _) hne
 ·show Pl.used (Pl.none pg rm)=nz (List.replicate (n/pg) 0)
  rw [YPV];rfl
set_option maxHeartbeats 1600000 in
theorem ZEa {n pg rm:Nat} (h1:Y4M rm=true) (h2:Jnk pg=true) (h3:1<=n) (h4:n<=524288) (h5:n%pg=0) (h6:1<=pg) (h7:pg<=256) (w:World):Calls Tryz.prog 46 #[.int .i64 n,.int .i64 pg,.int .i64 rm] w fun e w'=>
  ∃ q,e=.returned (.tuple #[.pointer (some ⟨q,0,none⟩),.int .i64 0])/\Gr w w'/\QXZ w' (fun k=>w.heap.size<=k) q (Vm.new n pg rm):=by
 have HOK:=hid (ZAR.new h1 h2 h3 h4 h5);have HPN:=hid (fun w=>XXu rm pg (by omega) w);have HB:=hid (show (Y4M rm&&Jnk pg)=true by rw [h1,h2];rfl);have hd:n/pg*pg=n:=by have:=Nat.div_add_mod n pg;rw [h5,Nat.mul_comm] at this;omega
 have h8:1<=n/pg:=by
  rcases Nat.eq_zero_or_pos (n/pg) with h | h
  ·rw [h] at hd;omega
  ·exact h
 have h9:n/pg<=524288:=by have:=Nat.div_le_self n pg;omega
 obtain ⟨m,hm⟩:∃ m,m=n/pg:=⟨_,rfl⟩;have q1:((n:Int).tdiv (pg:Int))=(m:Int):=by rw [hm];rfl
 have q2:((n:Int)/(pg:Int))=(m:Int):=by rw [hm];rfl
 have q3:((n:Int).tmod (pg:Int))=0:=by rw [show ((n:Int).tmod (pg:Int))=((n%pg:Nat):Int) from rfl,h5];rfl
 have q4:((n:Int)%(pg:Int))=0:=by rw [show ((n:Int)%(pg:Int))=((n%pg:Nat):Int) from rfl,h5];rfl
 rw [<-hm] at h8 h9;have HM:=hid hm;have HPG:=hid (fun w=>J3k (w:=w) h8 h9);have hBp:(pg:Int)≠0:=by omega
 clear h1 h2 h5 hd hm;go_enter Tryz.func46,Tryz.ntmps46
 go_wp2_with (first
  | (go_at_call 116;refine (HPN.o _).mono ?_;rintro e w1 (⟨h,-⟩ | ⟨-,rfl,hg1,hp1⟩);(exact absurd (HB.o.symm.trans h) (by decide));have HG1:=hid hg1;have HP1:=hid hp1;clear hg1 hp1)
  | (go_at_call 117;refine (HPG.o _).mono ?_;rintro e w2 ⟨q2,rfl,hg2,hp2⟩;have hr2:=(Rec.new w1 175 [.pointer (some ⟨w.heap.size,0,none⟩),.pointer none,.int .i64 n]).gr hg2;have kf:=hr2.free 1;have k1:=hr2.cell (j:=1) rfl;have HR2:=hid hr2;have HG2:=hid hg2;have HP2:=hid hp2;clear hg2 hp2 hr2))
 go_ret2;have z1:=HG1.o.size;have z2:=HG2.o.size
 have hq:w.heap.size<w1.heap.size:=HP1.o.row.elim fun _ h=>by
  obtain ⟨_,_,_,_,hr,-⟩:=h;exact hr.lt
 have hG:=XF4.setCell (XF4.refl (fun k=>k=w1.heap.size) w2) (a:=⟨w1.heap.size,1,none⟩) (fun _=>rfl) (.pointer (some ⟨q2,0,none⟩));simp only [World.size_alloc] at z2;refine ⟨_,Qh8 rfl rfl,?_,HOK.o,z1,ZOk (fun b=>w.heap.size<=b) w1,fun k=>w1.heap.size+1<=k,w.heap.size,q2,Rec.set HR2.o 1 _,?_,?_,fun k hk=>hk.1,fun k hk=>by omega,fun k hk hk2=>by have:=hk.2;omega,fun h=>by have:=h.2;omega,fun h=>by omega⟩
 ·exact XF4.gr ((((HG1.o.alloc _).trans HG2.o).touch (fun k=>w.heap.size<=k)).trans (hG.mono (fun k _ hk=>by omega)) |>.mono (fun k hk h=>by omega))
 ·have:=(HP1.o.cut.gr (((Gr.refl w1).alloc _).trans HG2.o)).touch hG (fun k hk _ he=>by have:=hk.2;omega);rw [Int.toNat_natCast,Int.toNat_natCast] at this;exact this
 ·have:=HP2.o.touch hG (fun k hk _ he=>by simp only [World.size_alloc] at hk;omega);rw [HM.o] at this;exact this.mono (fun k hk=>by simpa using hk)
end
end
end
section
section
open Go.RowKit Word
structure Ji4 (v v':Vm) (F:List Nat):Prop where
 ok:ZAR v'
 n:v'.n=v.n
 pg:v'.pl.pg=v.pl.pg
 rm:v'.pl.rm=v.pl.rm
 us:v'.pl.used=v.pl.used+F.length
 nd:F.Nodup
 un:∀ p∈F,p<v.pt.length/\v.pt.getD p 0=0
 ma:∀ p,p<v.pt.length->(v'.pt.getD p 0≠0↔(v.pt.getD p 0≠0\/p∈F))
 vl:∀ a:Nat,a<v.n->v'.ldV a=if a/v.pl.pg∈F then 0 else v.ldV a
theorem ZAR.len {v:Vm} (h:ZAR v):v.pt.length=v.n/v.pl.pg:=by
 rw [h.np,Nat.mul_div_cancel _ h.page.1]
theorem Ji4.len {v v':Vm} {F:List Nat} (h:Ji4 v v' F) (hv:ZAR v):v'.pt.length=v.pt.length:=by
 rw [h.ok.len,hv.len,h.n,h.pg]
theorem Ji4.ldE {v v':Vm} {F:List Nat} (h:Ji4 v v' F) (hv:ZAR v) {a:Nat} (ha:a<v.n):v'.ldE a=if a/v.pl.pg∈F then 0 else v.ldE a:=by
 have h1:=h.ma _ (hv.split ha).1;rw [h.ok.ldE_of (by rw [h.n];exact ha),hv.ldE_of ha,h.pg];by_cases hf:a/v.pl.pg∈F
 ·rw [if_pos hf,if_neg (h1.2 (.inr hf))]
 ·rw [if_neg hf];by_cases h0:v.pt.getD (a/v.pl.pg) 0=0
  ·rw [if_pos h0,if_pos];exact Decidable.not_not.1 (fun hn=>(h1.1 hn).elim (fun h'=>h' h0) hf)
  ·rw [if_neg h0,if_neg (h1.2 (.inl h0))]
theorem Ji4.refl {v:Vm} (h:ZAR v):Ji4 v v []:=
 ⟨h,rfl,rfl,rfl,rfl,List.nodup_nil,fun p hp=>(by cases hp),fun p _=>by simp,fun a _=>by simp⟩
theorem Ji4.mp {v v':Vm} {F:List Nat} (h:Ji4 v v' F) (hv:ZAR v) {p:Nat} (hp:v'.mpE p=0):Ji4 v (v'.mp p) (F++[p]):=by
 have e1:v'.mp p={ v' with pl:=v'.pl.take,pt:=v'.pt.set p (v'.pl.next+1) }:=by unfold Vm.mp;rw [if_pos hp,Int.toNat_natCast]
 obtain ⟨j,hj,hjl,h0,hr⟩:=Jvo hp;obtain rfl:p=j:=by omega
 have hl:=h.len hv;have h1:=h.ma p (by omega);have hpF:p ∉ F:=fun hf=>h1.2 (.inr hf) h0;have hp0:v.pt.getD p 0=0:=Decidable.not_not.1 (fun hn=>h1.2 (.inl hn) h0);refine ⟨h.ok.mp p,?_,?_,?_,?_,?_,fun i hi=>?_,fun i hi=>?_,fun a ha=>?_⟩
 ·rw [e1];exact h.n
 ·rw [e1];exact (Yoc v'.pl).1.trans h.pg
 ·rw [e1];exact (Yoc v'.pl).2.1.trans h.rm
 ·rw [e1,List.length_append]
  show v'.pl.take.used=_
  rw [VaR h.ok.pl,h.us];rfl
 ·rw [List.nodup_append];exact ⟨h.nd,by simp,fun a ha b hb=>by simp at hb;subst hb;rintro rfl;exact hpF ha⟩
 ·rcases List.mem_append.1 hi with h' | h'
  ·exact h.un i h'
  ·simp at h';subst h';exact ⟨by omega,hp0⟩
 ·rw [e1]
  show (v'.pt.set p _).getD i 0≠0↔_
  rw [Q81 hjl,List.mem_append];by_cases e:p=i
  ·subst e;simp
  ·rw [if_neg e,h.ma i hi];have:i ∉ [p]:=by simp;omega
   simp [this]
 ·have:=h.ok.mp_ldV hp (a:=a) (by rw [h.n];exact ha);rw [this,h.pg,h.vl a ha];by_cases e:a/v.pl.pg=p
  ·rw [if_pos e,if_pos (List.mem_append.2 (.inr (by simp [e])))]
  ·rw [if_neg e];by_cases hf:a/v.pl.pg∈F
   ·rw [if_pos hf,if_pos (List.mem_append.2 (.inl hf))]
   ·rw [if_neg hf,if_neg];intro hm;rcases List.mem_append.1 hm with h' | h'
    ·exact hf h'
    ·simp at h';exact e h'
theorem Ji4.um {v v':Vm} {F:List Nat} {p:Nat} (h:Ji4 v v' (F++[p])) (hv:ZAR v):frE v'.pt p=0/\Ji4 v (v'.um p) F:=by
 obtain ⟨hpl,hp0⟩:=h.un p (by simp);have hl:=h.len hv;have h1:=(h.ma p hpl).2 (.inr (by simp));have hfr:frE v'.pt p=0:=by rw [VP8 (by omega),if_neg h1]
 have e1:v'.um p={ v' with pl:=v'.pl.give (v'.pt.getD p 0-1),pt:=v'.pt.set p 0 }:=by unfold Vm.um;rw [if_pos hfr,Int.toNat_natCast]
 have hnd:=List.nodup_append.1 h.nd;have hpF:p ∉ F:=fun hf=>hnd.2.2 p hf p (by simp) rfl;refine ⟨hfr,h.ok.um p,?_,?_,?_,?_,hnd.1,fun i hi=>h.un i (by simp [hi]),fun i hi=>?_,fun a ha=>?_⟩
 ·rw [e1];exact h.n
 ·rw [e1];exact h.pg
 ·rw [e1];exact h.rm
 ·rw [e1]
  show (v'.pl.give _).used=_
  have h2:=XvH (p:=v'.pl) (h.ok.frame h1);have h3:=h.us;rw [List.length_append,List.length_singleton] at h3;omega
 ·rw [e1]
  show (v'.pt.set p 0).getD i 0≠0↔_
  rw [Q81 (by omega)];by_cases e:p=i
  ·subst e;rw [if_pos rfl];exact ⟨fun h=>absurd rfl h,fun h=>h.elim (fun h=>absurd hp0 h) (fun h=>absurd h hpF)⟩
  ·have:i ∉ [p]:=by simp;omega
   rw [if_neg e,h.ma i hi,List.mem_append];simp [this]
 ·by_cases e:a/v.pl.pg=p
  ·have hE:=h.ok.um_ldE hfr (a:=a) (by rw [h.n];exact ha);rw [h.pg,if_pos e] at hE;have hE2:=hv.ldE_of ha;rw [e,if_pos hp0] at hE2;rw [e,if_neg hpF];unfold Vm.ldV;rw [hE,hE2];rfl
  ·have:=h.ok.um_ldV hfr (a:=a) (by rw [h.n];exact ha) (by rw [h.pg];exact e);rw [this,h.vl a ha];by_cases hf:a/v.pl.pg∈F
   ·rw [if_pos hf,if_pos (List.mem_append.2 (.inl hf))]
   ·rw [if_neg hf,if_neg];intro hm;rcases List.mem_append.1 hm with h' | h'
    ·exact hf h'
    ·simp at h';exact e h'
end
end
section
section
open Go.RowKit Word
section
variable {w:World} {S:Nat->Prop} {q:Nat} {v:Vm}
def Y1U (w:World) (S:Nat->Prop) (q:Nat) (v:Vm) (F:List Nat):Prop:=∃ v',Ji4 v v' F/\QXZ w S q v'
set_option maxHeartbeats 1600000 in
theorem Y97 {bs bm:Nat} {F:List Nat} {vF:Value} (hv:ZAR v) (hG:Y1U w S q v F) (hF:w.ownsRow 0 3 1 vF F.length (VfO F)) (hs:∀ g,vF.ownBlock=some g->¬ S g)
  (cs:w.cell? ⟨bs,0,none⟩=some vF) (cm:w.cell? ⟨bm,0,none⟩=some (.pointer (some ⟨q,0,none⟩))) (ls:bs<w.heap.size) (lm:bm<w.heap.size) (ns:¬ S bs) (nm:¬ S bm):
  Calls Tryz.prog 199 #[.pointer (some ⟨bs,0,none⟩),.pointer (some ⟨bm,0,none⟩)] w fun e w'=>e=.returned (.tuple #[])/\XF4 S w w'/\Y1U w' (plus S w) q v []:=by
 obtain ⟨A,c,rfl,hc1,hc2⟩:=ZfN hF;unfold maxLen at hc2
 have hlen:F.length<=524288:=by
  obtain ⟨v',hg,-⟩:=hG;have h1:=hg.us;have h2:=hg.ok.us;have h3:=Yig v'.pt;have h4:=hg.ok.pt.n2;omega
 have HF:=hid hF;have HG:=hid hG;have HV:=hid hv;have HS:=hid hs;obtain ⟨N,hN⟩:∃ N,N=F.length:=⟨_,rfl⟩;rw [<-hN] at cs hc1 hlen;have HN:=hid hN;clear hF hG hv hs hN;go_enter Tryz.func199,Tryz.ntmps199;go_wp2
 go_loopw [2] (fun i wr=>∃ k:Nat,k<=N/\Hid (XF4 S w wr)/\Hid (Y1U wr (plus S w) q v (F.take k))/\i=.int .i64 ((k:Int)-1)) (fun i _=>(intOf i+1).toNat)
 case atStart=>exact ⟨N,Nat.le_refl _,⟨XF4.refl S w⟩,⟨by obtain ⟨v',hg,ha⟩:=HG.o;exact ⟨v',by rw [HN.o,List.take_length];exact hg,ha.mono (fun k hk=>.inl hk)⟩⟩,by go_num⟩
 case round=>
  obtain ⟨k,hk,HT,HK,rfl⟩:=hrel;by_cases hk0:k=0
  ·subst hk0;go_wp2
   go_end0
   exact ⟨rfl,HT.o,HK.o⟩
  ·obtain ⟨j,rfl⟩:∃ j,k=j+1:=⟨k-1,by omega⟩;have hjF:j<F.length:=by have:=HN.o;omega
   obtain ⟨g,c',e1,-,-,-,-⟩:=YTP HF.o (by omega);simp only [Value.slice.injEq] at e1;obtain ⟨rfl,-,rfl⟩:=e1;have hgl:=(Vvr HF.o (g:=g) rfl).2;have ng:=HS.o g rfl;have kb:=ZBn HF.o (XS1 hjF);obtain ⟨p,hp⟩:∃ p,p=F[j]:=⟨_,rfl⟩;rw [<-hp] at kb;have HP:Hid (F.take (j+1)=F.take j++[p]):=⟨by rw [hp,List.take_add_one,List.getElem?_eq_getElem hjF];rfl⟩
   have KS:Hid (∀ W',Gr wr W'->W'.cell? ⟨bs,0,none⟩=some (.slice (some ⟨g,0,none⟩) N c)/\W'.cell? ⟨bm,0,none⟩=some (.pointer (some ⟨q,0,none⟩))/\W'.cell? ⟨g,j,none⟩=some (.int .i64 (p:Nat))):=
    ⟨fun W' h=>⟨(h.cell (Nat.lt_of_lt_of_le ls HT.o.size) 0).trans ((HT.o.cell ls ns 0).trans cs),(h.cell (Nat.lt_of_lt_of_le lm HT.o.size) 0).trans ((HT.o.cell lm nm 0).trans cm),(h.cell (Nat.lt_of_lt_of_le hgl HT.o.size) j).trans ((HT.o.cell hgl ng j).trans kb)⟩⟩
   have hjN:(j:Int)<(N:Int):=by omega
   clear hjF hgl ng kb hp cs cm;go_upto_region 3 with (fail);obtain ⟨Sx,hSx⟩:∃ Sx:World->Prop,Sx=fun W'=>Gr wr W':=⟨_,rfl⟩;have x1:∀ p:ZJV Sx,p.w.cell? ⟨bs,0,none⟩=some (.slice (some ⟨g,0,none⟩) N c):=fun p=>(KS.o _ (ZJV.get hSx p)).1;have x2:∀ p:ZJV Sx,p.w.cell? ⟨bm,0,none⟩=some (.pointer (some ⟨q,0,none⟩)):=fun p=>(KS.o _ (ZJV.get hSx p)).2.1;have x3:∀ r:ZJV Sx,r.w.cell? ⟨g,j,none⟩=some (.int .i64 (p:Nat)):=fun p=>(KS.o _ (ZJV.get hSx p)).2.2;have hS0:Sx wr.drew:=by rw [hSx];exact (Gr.refl wr).drew
   have inst:Inhabited (ZJV Sx):=⟨⟨_,hS0⟩⟩;clear hSx;refine Vv2 Sx 5 [([0,1,2,3,4],5)] [] (by kernel_rfl) (by kernel_rfl) hS0 ?_;refine XGW ?_;simp only [XZy,List.getElem?_cons_zero,List.getElem?_cons_succ]
   repeat (go_big_quiet_step (fail))
   refine wpQuiet_nil ?_;obtain ⟨vk,hgk,hvk⟩:=HK.o;rw [HP.o] at hgk;have HUM:=hid (hgk.um HV.o);have HVK:=hid (hvk.gr (Gr.refl wr).drew);clear hgk hvk;go_wp2_with (go_at_call 137;refine (JYA HVK.o (p:Int)).mono ?_;rintro e w1 ⟨rfl,ht1,hv1⟩;have HT1:=hid ht1;have HV1:=hid hv1;clear ht1 hv1);refine ⟨.inl trivial,?_⟩;refine Z9U ?_;refine wpQuiet_nil ?_;refine NoPanic.normal ?_;clear x1 x2 x3 hS0 inst;clear Sx;go_wp2;have hsz:=HT.o.size;have h1:XF4 (plus S w) wr w1:=((Gr.refl wr).drew.touch _).trans HT1.o;go_round
   case rel=>
    refine ⟨j,by omega,⟨HT.o.trans' h1 (fun i hi hp=>hp.resolve_right (by omega))⟩,⟨_,HUM.o.2,HV1.o.mono (fun k hk=>?_)⟩,by go_num⟩;rcases hk with h | h
    ·exact h
    ·exact .inr (Nat.le_trans hsz h)
   case measure=>simp [intOf]
def Jfy (v:Vm) (p0 k:Nat):List Nat:=(List.range' p0 k).filter fun p=>v.pt.getD p 0==0
theorem Q1f (v:Vm) (p0 k:Nat):Jfy v p0 (k+1)=if v.pt.getD (p0+k) 0=0 then Jfy v p0 k++[p0+k] else Jfy v p0 k:=by
 unfold Jfy;rw [List.range'_concat,List.filter_append];by_cases h:v.pt.getD (p0+k) 0=0
 ·rw [if_pos h,List.filter_cons_of_pos (by rw [Nat.one_mul];exact beq_iff_eq.2 h),Nat.one_mul];rfl
 ·rw [if_neg h,List.filter_cons_of_neg (by rw [Nat.one_mul];simpa using h)];simp
theorem YYE {v:Vm} {p0 k p:Nat}:p∈Jfy v p0 k↔(p0<=p/\p<p0+k)/\v.pt.getD p 0=0:=by
 unfold Jfy;rw [List.mem_filter,List.mem_range'_1];simp
theorem ZNP (v:Vm) (p0:Nat) {k m:Nat} (h:k<=m):(Jfy v p0 k).length<=(Jfy v p0 m).length:=by
 induction m with
 | zero=>rw [Nat.le_zero.1 h];exact Nat.le_refl _
 | succ m ih=>
  rcases Nat.lt_or_ge m k with h' | h'
  ·rw [show k=m+1 by omega];exact Nat.le_refl _
  ·refine Nat.le_trans (ih h') ?_;rw [Q1f]
   split
   ·simp
   ·exact Nat.le_refl _
def XZs (v:Vm) (f t:Int):Nat:=((t-1)/v.pl.pg-f/v.pl.pg+1).toNat
def Jsl (v:Vm) (f t:Int):Int:=if f<0\/(v.n:Int)<t then 11 else if t<=f then 0 else if v.pl.used+(Jfy v (f/v.pl.pg).toNat (XZs v f t)).length<=v.pl.rm then 0 else 14
def J5L (v:Vm) (f t:Int):List Nat:=if Jsl v f t=0/\f<t then Jfy v (f/v.pl.pg).toNat (XZs v f t) else []
structure ZRG (w wr:World) (S S':Nat->Prop) (q:Nat) (v:Vm) (p0 k bs bm:Nat) (vF:Value):Prop where
 t:XF4 S w wr
 g:Y1U wr S' q v (Jfy v p0 k)
 own:wr.ownsRow 0 3 1 vF (Jfy v p0 k).length (VfO (Jfy v p0 k))
 rs:Rec wr bs 48 [vF]
 rm:Rec wr bm 87 [.pointer (some ⟨q,0,none⟩)]
 sub:∀ k,S' k->plus S w k
 ns:¬ S' bs
 nm:¬ S' bm
 ng:∀ g,vF.ownBlock=some g->¬ S' g
 ls:w.heap.size<=bs
 lg:∀ g,vF.ownBlock=some g->w.heap.size<=g
theorem ZRG.map {w wr w1:World} {S S':Nat->Prop} {q:Nat} {v:Vm} {p0 k bs bm:Nat} {vF:Value} (h:ZRG w wr S S' q v p0 k bs bm vF) (t:XF4 S' wr w1):
  XF4 S w w1/\w1.ownsRow 0 3 1 vF (Jfy v p0 k).length (VfO (Jfy v p0 k))/\Rec w1 bs 48 [vF]/\Rec w1 bm 87 [.pointer (some ⟨q,0,none⟩)] ∧
   (∀ k,plus S' wr k->plus S w k)/\¬ plus S' wr bs/\¬ plus S' wr bm/\(∀ g,vF.ownBlock=some g->¬ plus S' wr g):=by
 have hz:=h.t.size;refine ⟨h.t.trans' t (fun i hi hs=>(h.sub i hs).resolve_right (by omega)),Zs2 h.own t h.ng,h.rs.touch t h.ns,h.rm.touch t h.nm,fun k hk=>?_,fun hk=>?_,fun hk=>?_,fun g hg hk=>?_⟩
 ·rcases hk with hk | hk
  ·exact h.sub k hk
  ·exact .inr (by omega)
 ·have:=h.rs.lt;exact hk.elim h.ns (by omega)
 ·have:=h.rm.lt;exact hk.elim h.nm (by omega)
 ·have:=(Vvr h.own hg).2;exact hk.elim (h.ng g hg) (by omega)
set_option maxHeartbeats 1600000 in
theorem VfQ (hV:QXZ w S q v) (f t:Nat) (ht:t<=v.n) (hft:f<t):Calls Tryz.prog 133 #[.pointer (some ⟨q,0,none⟩),.int .i64 f,.int .i64 t] w fun e w'=>e=.returned (.int .i64 (Jsl v f t))/\XF4 S w w'/\Y1U w' (plus S w) q v (J5L v f t):=by
 have HV:=hid hV;have hn:=hV.ok.n2;obtain ⟨S1,S2,b1,b2,hr,hp,-⟩:=hV.row;have hql:=hr.lt;have c0:=hr.cell (j:=0) rfl;have c2:=hr.cell (j:=2) rfl;have hpg:=hV.ok.page;have HP:=hid hp;obtain ⟨p0,hp0⟩:∃ p0,p0=f/v.pl.pg:=⟨_,rfl⟩;obtain ⟨p1,hp1⟩:∃ p1,p1=(t-1)/v.pl.pg:=⟨_,rfl⟩;have h01:p0<=p1:=by rw [hp0,hp1];exact Nat.div_le_div_right (by omega)
 have h1l:p1<v.pt.length:=by rw [hp1];exact (hV.ok.split (by omega)).1
 have ht1:(t:Int)-1=((t-1:Nat):Int):=by omega
 have HNE:Hid (XZs v f t=p1+1-p0/\((f:Int)/(v.pl.pg:Int)).toNat=p0):=⟨by
  unfold XZs;rw [ht1,<-Int.natCast_ediv,<-Int.natCast_ediv,<-hp0,<-hp1]
  exact ⟨by omega,Int.toNat_natCast _⟩⟩
 have HE:Hid (Jsl v f t=if v.pl.used+(Jfy v p0 (p1+1-p0)).length<=v.pl.rm then 0 else 14):=⟨by
  unfold Jsl
  rw [if_neg (by omega),if_neg (by omega),HNE.o.1,HNE.o.2]⟩
 have HF:Hid (J5L v f t=if v.pl.used+(Jfy v p0 (p1+1-p0)).length<=v.pl.rm then Jfy v p0 (p1+1-p0) else []):=⟨by
  unfold J5L;rw [HE.o,HNE.o.1,HNE.o.2]
  split
  ·rw [if_pos ⟨rfl,by omega⟩]
  ·rw [if_neg (fun h=>absurd h.1 (by decide))]⟩
 obtain ⟨B,hB⟩:∃ B,B=v.pl.pg:=⟨_,rfl⟩;have HB:=hid hB;rw [<-hB] at hp0 hp1 hpg;have q1:((f:Int).tdiv (B:Int))=(p0:Int):=by rw [hp0];rfl
 have q2:((f:Int)/(B:Int))=(p0:Int):=by rw [hp0];rfl
 have q3:(((t:Int)-1).tdiv (B:Int))=(p1:Int):=by rw [ht1,hp1];rfl
 have q4:(((t:Int)-1)/(B:Int))=(p1:Int):=by rw [ht1,hp1];rfl
 have hBp:(B:Int)≠0:=by omega
 have d0:decide ((f:Int)<0)=false:=decide_eq_false (by omega);have d1:decide ((v.n:Int)<(t:Int))=false:=decide_eq_false (by omega);have d2:decide ((t:Int)<=(f:Int))=false:=decide_eq_false (by omega);have hpt:=hV.ok.pt.n2;clear hV hr hp hB hp0 hp1 ht1;go_enter Tryz.func133,Tryz.ntmps133
 go_wp2_with (first
  | (go_at_call 120;refine (Zuu (HV.o.gr ((Gr.refl w).alloc _))).mono ?_;rintro e w1 ⟨rfl,rfl⟩)
  | (go_at_call 200;refine (J7n (HP.o.gr (((Gr.refl w).alloc _).alloc _))).mono ?_;rintro e w1 ⟨rfl,rfl⟩;rw [<-HB.o]))
 obtain ⟨bm,hbm⟩:∃ bm,bm=w.heap.size:=⟨_,rfl⟩;rw [<-hbm]
 have HI0:=hid (show ZRG w ((w.alloc (Obj.cells #[.pointer (some ⟨q,0,none⟩)] 87)).alloc (Obj.cells #[.slice none 0 0] 48)) S (ZOk S w) q v p0 0 (bm+1) bm (.slice none 0 0) from
  ⟨((XF4.refl S w).alloc _).alloc _,⟨v,Ji4.refl HV.o.ok,HV.o.cut.gr (((Gr.refl w).alloc _).alloc _)⟩,Vm9 _ _ _ _,by
   have:=Rec.new (w.alloc (Obj.cells #[.pointer (some ⟨q,0,none⟩)] 87)) 48 [.slice none 0 0];rw [World.size_alloc,<-hbm] at this;exact this,by
   have:=Rec.gr (Rec.new w 87 [.pointer (some ⟨q,0,none⟩)]) ((Gr.refl _).alloc (Obj.cells #[.slice none 0 0] 48));rw [<-hbm] at this
   exact this,fun k hk=>.inl hk.1,fun h=>by have:=h.2;omega,fun h=>by have:=h.2;omega,(fun g h=>by cases h),by omega,(fun g h=>by cases h)⟩)
 go_loopw [10] (fun p wr=>∃ (k:Nat) (S':Nat->Prop) (vF:Value),k<=p1+1-p0/\Hid (ZRG w wr S S' q v p0 k (bm+1) bm vF)/\p=.int .i64 ((p0+k:Nat):Int)) (fun p _=>p1+1-(intOf p).toNat)
 case atStart=>exact ⟨0,ZOk S w,.slice none 0 0,by omega,HI0,by go_num⟩
 case round=>
  obtain ⟨k,S',vF,hk,HI,rfl⟩:=hrel;have HBM:=hid hbm;clear HI0 c0 c2 hbm;obtain ⟨r,hr⟩:∃ r,r=p0+k:=⟨_,rfl⟩;rw [<-hr];by_cases hlast:k=p1+1-p0
  ·have d3:decide (r<=p1)=false:=decide_eq_false (by omega);have HR:=hid hr;have HL:=hid hlast;clear hr hlast;go_wp2;go_ret;obtain ⟨v',hg,hv'⟩:=HI.o.g;have hus:=hg.us;have hle:=X9u hg.ok.pl;rw [hg.rm,hus] at hle;rw [HL.o] at hg hle;refine ⟨ZzN (by rw [HE.o,if_pos hle]),HI.o.t,v',?_,hv'.mono HI.o.sub⟩;rw [HF.o,if_pos hle];exact hg
  ·have d3:decide (r<=p1)=true:=decide_eq_true (by omega);obtain ⟨v',hg,hv'⟩:=HI.o.g;obtain ⟨A,c,rfl,hc1,hc2⟩:=ZfN HI.o.own;unfold maxLen at hc2;have hS:=Q1f v p0 k;rw [<-hr] at hS;have hrl:r<v.pt.length:=by omega
   have hma:=hg.ma r hrl;have hFr:r ∉ Jfy v p0 k:=fun h=>by have:=(YYE.1 h).1;omega
   have hl':=hg.len HV.o.ok;have hpE:pgE v'.pt r=0:=by unfold pgE;rw [if_pos ⟨by omega,by omega⟩]
   have km:=HI.o.rm.cell (j:=0) rfl;have hr2:r<=524288:=by omega
   have lbm:=HI.o.rm.lt;have lbs:=HI.o.rs.lt;have HVK:=hid hv';have HGK:=hid hg;have HK:=hid hk;have HR:=hid hr;have HLA:=hid hlast;by_cases h0:v.pt.getD r 0=0
   ·rw [if_pos h0] at hS;have h0':v'.pt.getD r 0=0:=Decidable.not_not.1 (fun hn=>(hma.1 hn).elim (fun h=>h h0) hFr);by_cases hroom:v'.pl.used=v'.pl.rm
    ·have HM:Hid (v'.mpE r=14):=⟨by
      unfold Vm.mpE
      rw [if_neg (by rw [hpE];decide),Int.toNat_natCast,if_neg (by rw [h0'];decide),if_pos hroom]⟩
     have HE0:Hid (¬ v.pl.used+(Jfy v p0 (p1+1-p0)).length<=v.pl.rm):=⟨by
      have h1:=ZNP v p0 (show k+1<=p1+1-p0 by omega);rw [hS,List.length_append,List.length_singleton] at h1;have h2:=hg.us;have h3:=hg.rm
      omega⟩
     clear hS h0 h0' hroom hma hFr hl' hpE hg hv' hk hr hlast hrl
     go_wp2_with (first
      | (go_at_call 201;refine (YKH HVK.o r).mono ?_;rintro e w1 ⟨rfl,ht1,hv1⟩;rw [HM.o];have HT1:=hid ht1;have HV1:=hid hv1;clear ht1 hv1)
      | (go_at_call 199;have hv1:=HV1.o;rw [Qmw (by rw [HM.o];decide)] at hv1;obtain ⟨-,i2,i3,i4,-,i6,i7,i8⟩:=HI.o.map HT1.o;refine (Y97 HV.o.ok ⟨_,HGK.o,hv1⟩ i2 i8 (i3.cell (j:=0) rfl) (i4.cell (j:=0) rfl) i3.lt i4.lt i6 i7).mono ?_;rintro e w2 ⟨rfl,ht2,hg2⟩;have HT2:=hid ht2;have HG2:=hid hg2;clear ht2 hg2 hv1 i2 i3 i4 i6 i7 i8))
     go_ret;obtain ⟨i1,i2,i3,i4,i5,i6,i7,i8⟩:=HI.o.map HT1.o;have hz:=HI.o.t.size;have hz1:=HT1.o.size;refine ⟨ZzN (by rw [HE.o,if_neg HE0.o]),i1.trans' HT2.o (fun i hi hs=>(i5 i hs).resolve_right (by omega)),?_⟩;rw [HF.o,if_neg HE0.o];obtain ⟨v2,hg2,hv2⟩:=HG2.o;refine ⟨v2,hg2,hv2.mono (fun k hk=>?_)⟩;rcases hk with hk | hk
     ·exact i5 k hk
     ·exact .inr (by omega)
    ·have HM:Hid (v'.mpE r=0):=⟨by
      unfold Vm.mpE
      rw [if_neg (by rw [hpE];decide),Int.toNat_natCast,if_neg (by rw [h0'];decide),if_neg hroom]⟩
     have HGN:=hid (hg.mp HV.o.ok HM.o);have HSU:=hid hS
     have hFl:(Jfy v p0 k).length<=524288:=by
      have h1:=hg.us;have h2:=hg.ok.us;have h3:=Yig v'.pt;have h4:=hg.ok.pt.n2;omega
     obtain ⟨N,hN⟩:∃ N,N=(Jfy v p0 k).length:=⟨_,rfl⟩;have HN:=hid hN;rw [<-hN] at hc1 hFl;clear hS h0 h0' hroom hma hFr hl' hpE hg hv' hk hr hlast hrl;rw [<-hN] at HI;clear hN;obtain ⟨ii,hii,hi0,hi1,hi2⟩:=info_parts YWy
     go_wp2_with (first
      | (go_at_call 201;refine (YKH HVK.o r).mono ?_;rintro e w1 ⟨rfl,ht1,hv1⟩;rw [HM.o];have HRS1:=hid (HI.o.rs.touch ht1 HI.o.ns);have ks:=HRS1.o.cell (j:=0) rfl;have HT1:=hid ht1;have HV1:=hid hv1;have HO1:=hid (HI.o.map ht1).2.1;rw [<-HN.o] at HO1;clear ht1 hv1)
      | (at_builtin;refine wpList_append_lies _ rfl _ _ 48 rfl 0 3 ii _ 1 8 Tryz.underlying48 hii hi0 hi1 hi2 rfl (by decide) (.slice A N c) N (VfO (Jfy v p0 k)) rfl (HO1.o.alloc _) ⟨w1.heap.size,0,none⟩ 1 1 [.int .i64 (r:Nat)] rfl rfl (World.news_of_block (cs:=#[.int .i64 (r:Nat)]) (t:=3) (fr:=(0,0)) (heap_alloc_new w1 (.cells #[.int .i64 (r:Nat)] 3))) (by simp [Value.oneCell']) (by omega) (by unfold maxLen;omega) (by omega) (Nat.zero_le _) (w1.heap.size+1) (by simp) ?_;intro g2 c2' w2 hown2 hgrow2 hat2 hlt2;have t2:XF4 (fun k=>(Value.slice A N c).ownBlock=some k) w1 w2:=(((Gr.refl _).alloc _).touch _).trans (VxQ hgrow2 _ (fun k e _=>e));have HRS2:=hid (HRS1.o.touch t2 (fun e=>YnK HO1.o HRS1.o (by decide) e rfl rfl));have ks2:=HRS2.o.cell (j:=0) rfl;have kf2:=HRS2.o.free 0;have HT2:=hid t2;have HO2:=hid hown2;have HA2:=hid (And.intro hat2 hlt2);clear hown2 hgrow2 hat2 hlt2 t2))
     have hI:=HI.o;have hN:=HN.o;obtain ⟨i1,i2,i3,i4,i5,i6,i7,i8⟩:=HI.o.map HT1.o;have hz:=HI.o.t.size;have hz1:=HT1.o.size;have hz2:=HT2.o.size;have hat2:=HA2.o;have hT12:XF4 S w w2:=i1.trans' HT2.o (fun i hi hs=>by have:=HI.o.lg i hs;omega);go_round
     case rel=>
      refine ⟨k+1,ZOk (plus S' wr) w1,.slice (some ⟨g2,0,none⟩) (N+1) c2',by have:=HK.o;have:=HLA.o;omega,⟨?_⟩,by rw [HR.o];go_num⟩;refine ⟨hT12.setCell (a:=⟨bm+1,0,none⟩) (fun h=>by have:=HBM.o;have h:bm+1<w.heap.size:=h;omega) _,?_,?_,?_,?_,fun i hi=>i5 i hi.1,fun h=>i6 h.1,fun h=>i7 h.1,fun g hg=>?_,by have:=HBM.o;omega,fun g hg=>?_⟩
      ·refine ⟨_,by rw [HSU.o];exact HGN.o,((HV1.o.cut.touch HT2.o (fun i hi _ e=>i8 i e hi.1)).touch ((XF4.refl (fun i=>i=bm+1) w2).setCell (a:=⟨bm+1,0,none⟩) (fun _=>rfl) _) (fun i hi _ e=>by subst e;exact i6 hi.1))⟩
      ·rw [HSU.o,List.length_append,List.length_singleton,<-HN.o,show VfO (Jfy v p0 k++[r])=VfO (Jfy v p0 k)++[.int .i64 (r:Nat)] by unfold VfO;rw [List.map_append];rfl];exact VDR HO2.o _ (fun g hg=>YnK HO2.o HRS2.o (by decide) hg rfl)
      ·exact Rec.set HRS2.o 0 _
      ·exact VDR (i4.touch HT2.o (fun e=>YnK HO1.o i4 (by decide) e rfl rfl)) _ (fun g hg=>by cases hg;show bm≠bm+1;omega)
      ·intro hc;cases hg;rcases hat2.1 with h | h
       ·exact i8 _ h hc.1
       ·have:g2<w1.heap.size:=hc.2;omega
      ·cases hg;rcases hat2.1 with h | h
       ·exact HI.o.lg _ h
       ·show w.heap.size<=g2
        omega
     case measure=>have:=HK.o;have:=HLA.o;have:=HR.o;simp [intOf];omega
   ·rw [if_neg h0] at hS;have h0':v'.pt.getD r 0≠0:=hma.2 (.inl h0)
    have HM:Hid (v'.mpE r=13):=⟨by
     unfold Vm.mpE
     rw [if_neg (by rw [hpE];decide),Int.toNat_natCast,if_pos h0']⟩
    have HSU:=hid hS;clear hS h0 h0' hma hFr hl' hpE hg hv' hk hr hlast hrl;go_wp2_with (go_at_call 201;refine (YKH HVK.o r).mono ?_;rintro e w1 ⟨rfl,ht1,hv1⟩;rw [HM.o];have HT1:=hid ht1;have HV1:=hid hv1;clear ht1 hv1);obtain ⟨i1,i2,i3,i4,i5,i6,i7,i8⟩:=HI.o.map HT1.o;have hv1:=HV1.o;rw [Qmw (by rw [HM.o];decide)] at hv1;go_round
    case rel=>
     refine ⟨k+1,plus S' wr,_,by have:=HK.o;have:=HLA.o;omega,⟨i1,?_,?_,i3,i4,i5,i6,i7,i8,HI.o.ls,HI.o.lg⟩,by rw [HR.o];go_num⟩
     ·rw [HSU.o];exact ⟨_,HGK.o,hv1⟩
     ·rw [HSU.o];exact i2
    case measure=>have:=HK.o;have:=HLA.o;have:=HR.o;simp [intOf];omega
end
end
end
section
section
open Go.RowKit Word
section
variable {w:World} {S:Nat->Prop} {q:Nat} {v:Vm}
theorem VR1 {p:Pl} (hP:Z9Y w S q p):Calls Tryz.prog 147 #[.pointer (some ⟨q,0,none⟩)] w fun e w'=>e=.returned (.int .i64 p.used)/\w=w':=by
 obtain ⟨vw,vt,vb,hi,ts,hr,-⟩:=hP.row;have c4:=hr.cell (j:=5) rfl;clear hr hP;go_enter Tryz.func147,Tryz.ntmps147;go_wp2;go_ret;exact ⟨rfl,rfl⟩
theorem VFh {p:Pl} (hP:Z9Y w S q p):Calls Tryz.prog 273 #[.pointer (some ⟨q,0,none⟩)] w fun e w'=>e=.returned (.int .i64 p.rm)/\w=w':=by
 obtain ⟨vw,vt,vb,hi,ts,hr,-⟩:=hP.row;have c4:=hr.cell (j:=3) rfl;clear hr hP;go_enter Tryz.func273,Tryz.ntmps273;go_wp2;go_ret;exact ⟨rfl,rfl⟩
theorem VML (hV:QXZ w S q v):Calls Tryz.prog 136 #[.pointer (some ⟨q,0,none⟩)] w fun e w'=>e=.returned (.int .i64 v.pl.pg)/\w=w':=by
 have HV:=hid hV;obtain ⟨S1,S2,b1,b2,hr,hp,-⟩:=hV.row;have c0:=hr.cell (j:=0) rfl;have HP:=hid hp;clear hr hp hV;go_enter Tryz.func136,Tryz.ntmps136
 go_wp2_with (first
  | (go_at_call 120;refine (Zuu HV.o).mono ?_;rintro e w1 ⟨rfl,rfl⟩)
  | (go_at_call 200;refine (J7n HP.o).mono ?_;rintro e w1 ⟨rfl,rfl⟩))
 go_ret;exact ⟨rfl,rfl⟩
theorem XOa (hV:QXZ w S q v):Calls Tryz.prog 67 #[.pointer (some ⟨q,0,none⟩)] w fun e w'=>e=.returned (.int .i64 v.pl.used)/\w=w':=by
 have HV:=hid hV;obtain ⟨S1,S2,b1,b2,hr,hp,-⟩:=hV.row;have c0:=hr.cell (j:=0) rfl;have HP:=hid hp;clear hr hp hV;go_enter Tryz.func67,Tryz.ntmps67
 go_wp2_with (first
  | (go_at_call 120;refine (Zuu HV.o).mono ?_;rintro e w1 ⟨rfl,rfl⟩)
  | (go_at_call 147;refine (VR1 HP.o).mono ?_;rintro e w1 ⟨rfl,rfl⟩))
 go_ret;exact ⟨rfl,rfl⟩
theorem JXO (hV:QXZ w S q v):Calls Tryz.prog 232 #[.pointer (some ⟨q,0,none⟩)] w fun e w'=>e=.returned (.int .i64 v.pl.rm)/\w=w':=by
 have HV:=hid hV;obtain ⟨S1,S2,b1,b2,hr,hp,-⟩:=hV.row;have c0:=hr.cell (j:=0) rfl;have HP:=hid hp;clear hr hp hV;go_enter Tryz.func232,Tryz.ntmps232
 go_wp2_with (first
  | (go_at_call 120;refine (Zuu HV.o).mono ?_;rintro e w1 ⟨rfl,rfl⟩)
  | (go_at_call 273;refine (VFh HP.o).mono ?_;rintro e w1 ⟨rfl,rfl⟩))
 go_ret;exact ⟨rfl,rfl⟩
theorem Xwn (hV:QXZ w S q v):Calls Tryz.prog 52 #[.pointer (some ⟨q,0,none⟩)] w fun e w'=>e=.returned (.int .i64 v.n)/\w=w':=by
 have HV:=hid hV;obtain ⟨S1,S2,b1,b2,hr,hp,-⟩:=hV.row;have c0:=hr.cell (j:=2) rfl;clear hr hp hV;go_enter Tryz.func52,Tryz.ntmps52;go_wp2_with (go_at_call 120;refine (Zuu HV.o).mono ?_;rintro e w1 ⟨rfl,rfl⟩);go_ret;exact ⟨rfl,rfl⟩
theorem Q7x (hV:QXZ w S q v) (f t:Nat) (ht:t<=v.n) (hft:t<=f):Calls Tryz.prog 133 #[.pointer (some ⟨q,0,none⟩),.int .i64 f,.int .i64 t] w fun e w'=>e=.returned (.int .i64 0)/\Gr w w':=by
 have HV:=hid hV;obtain ⟨S1,S2,b1,b2,hr,-⟩:=hV.row;have n2:=hV.ok.n2;have HR:=hid hr;have d0:decide ((f:Int)<0)=false:=decide_eq_false (by omega);have d1:decide ((v.n:Int)<(t:Int))=false:=decide_eq_false (by omega);have d2:decide ((t:Int)<=(f:Int))=true:=decide_eq_true (by omega);have c2:=(hr.gr ((Gr.refl w).alloc (.cells #[.pointer (some ⟨q,0,none⟩)] 87))).cell (j:=2) rfl;have hv':=hid (hV.gr ((Gr.refl w).alloc (.cells #[.pointer (some ⟨q,0,none⟩)] 87)));clear hr hV;go_enter Tryz.func133,Tryz.ntmps133;go_wp2_with (go_at_call 120;refine (Zuu hv'.o).mono ?_;rintro e w1 ⟨rfl,rfl⟩);go_ret;exact ⟨rfl,(Gr.refl w).alloc _⟩
end
end
end
end
section
section
section
open Go.RowKit Word
structure Hdr where
 p:Int
 f:Int
 k:Int
def X79 (h:Hdr):Value:=.agg #[.int .i64 h.p,.int .i64 h.f,.int .i64 h.k]
def inS (x:Int):Bool:=decide (0<=x/\x<256)
def JQC (h:Hdr):Int:=if inS h.p&&inS h.f&&inS h.k&&decide (h.p+h.f+h.k<256) then 0 else 15
def Z3o (h:Hdr):Int:=if JQC h=0 then 1+h.p+h.f+h.k else 0
theorem VPd (x:Int):(decide (x<0)=true/\inS x=false)\/(decide (x<0)=false/\decide (256<=x)=true/\inS x=false)\/(decide (x<0)=false/\decide (256<=x)=false/\inS x=true):=by
 unfold inS;by_cases h0:x<0
 ·exact .inl ⟨decide_eq_true h0,decide_eq_false (by omega)⟩
 ·by_cases h1:256<=x
  ·exact .inr (.inl ⟨decide_eq_false h0,decide_eq_true h1,decide_eq_false (by omega)⟩)
  ·exact .inr (.inr ⟨decide_eq_false h0,decide_eq_false h1,decide_eq_true (by omega)⟩)
theorem XZe {h:Hdr} (he:JQC h=0):∃ a b c:Nat,h=⟨a,b,c⟩/\a+b+c<=255:=by
 unfold JQC inS at he
 split at he
 ·rename_i hh;simp only [Bool.and_eq_true,decide_eq_true_eq] at hh;obtain ⟨p,f,k⟩:=h;simp only at hh;exact ⟨p.toNat,f.toNat,k.toNat,by congr <;> omega,by omega⟩
 ·cases he
theorem JJj {a b c:Nat} (h:a+b+c<=255):JQC ⟨a,b,c⟩=0:=by
 unfold JQC inS;simp only [];rw [decide_eq_true (by omega),decide_eq_true (by omega),decide_eq_true (by omega),decide_eq_true (by omega)];rfl
theorem Vhh (h:Hdr):JQC h=0\/JQC h=15:=by unfold JQC;split <;> simp
section
variable {w:World}
set_option maxHeartbeats 1600000 in
theorem Jld (h:Hdr) (w:World):Calls Tryz.prog 107 #[X79 h] w fun e w'=>e=.returned (.int .i64 (JQC h))/\Gr w w':=by
 obtain ⟨p,f,k⟩:=h;unfold X79;simp only [];have HE:Hid (JQC ⟨p,f,k⟩=if inS p&&inS f&&inS k&&decide (p+f+k<256) then 0 else 15):=⟨rfl⟩
 have HN:∀ x,x=p\/x=f\/x=k->Hid (inS x=false->JQC ⟨p,f,k⟩=15):=fun x hx=>⟨fun h0=>by
  rw [HE.o]
  rcases hx with rfl | rfl | rfl <;> rw [h0] <;> simp⟩
 have HY:Hid (inS p=true->inS f=true->inS k=true->JQC ⟨p,f,k⟩=if p+f+k<256 then 0 else 15):=⟨fun a b c=>by
  rw [HE.o,a,b,c]
  by_cases h:p+f+k<256 <;> simp [h]⟩
 have H0:=HN p (.inl rfl);have H1:=HN f (.inr (.inl rfl));have H2:=HN k (.inr (.inr rfl));clear HN;obtain ⟨E,hE⟩:∃ E,E=JQC ⟨p,f,k⟩:=⟨_,rfl⟩;rw [<-hE] at H0 H1 H2 HY HE ⊢;clear hE;have i0:∀ W,(Instr.index 246 (.agg #[.int .i64 p,.int .i64 f,.int .i64 k]) (.int .i64 0)).run Tryz.prog W=.ok (.int .i64 p) W:=fun _=>by kernel_rfl
 have i1:∀ W,(Instr.index 246 (.agg #[.int .i64 p,.int .i64 f,.int .i64 k]) (.int .i64 1)).run Tryz.prog W=.ok (.int .i64 f) W:=fun _=>by kernel_rfl
 have i2:∀ W,(Instr.index 246 (.agg #[.int .i64 p,.int .i64 f,.int .i64 k]) (.int .i64 2)).run Tryz.prog W=.ok (.int .i64 k) W:=fun _=>by kernel_rfl
 go_enter Tryz.func107,Tryz.ntmps107;go_wp2
 go_loop [12] (fun i=>∃ j:Nat,j<=3/\i=.int .i64 j/\Hid ((1<=j->inS p=true)/\(2<=j->inS f=true)/\(3<=j->inS k=true))) (fun i=>3-(intOf i).toNat)
 case atStart=>exact ⟨0,by omega,rfl,⟨fun h=>by omega,fun h=>by omega,fun h=>by omega⟩⟩
 case round=>
  obtain ⟨j,hj,rfl,HJ⟩:=hrel;rcases (by omega:j=0\/j=1\/j=2\/j=3) with rfl | rfl | rfl | rfl
  ·rcases VPd p with ⟨p0,E1⟩ | ⟨p0,p1,E1⟩ | ⟨p0,p1,E1⟩
   ·have E1:=hid E1;go_wp2;go_ret;exact ⟨ZzN (H0.o E1.o).symm,(Gr.refl w).alloc _⟩
   ·have E1:=hid E1;go_wp2;go_ret;exact ⟨ZzN (H0.o E1.o).symm,(Gr.refl w).alloc _⟩
   ·have E1:=hid E1;go_wp2;go_round
    case rel=>exact ⟨1,by omega,by go_num,⟨fun _=>E1.o,fun h=>by omega,fun h=>by omega⟩⟩
    case measure=>simp [intOf]
  ·rcases VPd f with ⟨p0,E1⟩ | ⟨p0,p1,E1⟩ | ⟨p0,p1,E1⟩
   ·have E1:=hid E1;go_wp2;go_ret;exact ⟨ZzN (H1.o E1.o).symm,(Gr.refl w).alloc _⟩
   ·have E1:=hid E1;go_wp2;go_ret;exact ⟨ZzN (H1.o E1.o).symm,(Gr.refl w).alloc _⟩
   ·have E1:=hid E1;go_wp2;go_round
    case rel=>exact ⟨2,by omega,by go_num,⟨fun _=>HJ.o.1 (by omega),fun _=>E1.o,fun h=>by omega⟩⟩
    case measure=>simp [intOf]
  ·rcases VPd k with ⟨p0,E1⟩ | ⟨p0,p1,E1⟩ | ⟨p0,p1,E1⟩
   ·have E1:=hid E1;go_wp2;go_ret;exact ⟨ZzN (H2.o E1.o).symm,(Gr.refl w).alloc _⟩
   ·have E1:=hid E1;go_wp2;go_ret;exact ⟨ZzN (H2.o E1.o).symm,(Gr.refl w).alloc _⟩
   ·have E1:=hid E1;go_wp2;go_round
    case rel=>exact ⟨3,by omega,by go_num,⟨fun _=>HJ.o.1 (by omega),fun _=>HJ.o.2.1 (by omega),fun _=>E1.o⟩⟩
    case measure=>simp [intOf]
  ·have j1:=HJ.o.1 (by omega);have j2:=HJ.o.2.1 (by omega);have j3:=HJ.o.2.2 (by omega);have HZ:=hid (HY.o j1 j2 j3);unfold inS at j1 j2 j3;simp only [decide_eq_true_eq] at j1 j2 j3;clear i0 i1 i2;by_cases hs:p+f+k<256
   ·have d0:decide (256<=p+f+k)=false:=decide_eq_false (by omega);have HS:=hid hs;clear hs;go_wp2;go_ret;exact ⟨ZzN (by rw [HZ.o,if_pos HS.o]),(Gr.refl w).alloc _⟩
   ·have d0:decide (256<=p+f+k)=true:=decide_eq_true (by omega);have HS:=hid hs;clear hs;go_wp2;go_ret;exact ⟨ZzN (by rw [HZ.o,if_neg (by have:=HS.o;omega)]),(Gr.refl w).alloc _⟩
set_option maxHeartbeats 1600000 in
theorem ZUg (h:Hdr) (w:World):Calls Tryz.prog 90 #[X79 h] w fun e w'=>e=.returned (.int .i64 (Z3o h))/\Gr w w':=by
 have HC:=hid (fun W=>Jld h W);rcases Vhh h with he | he
 ·obtain ⟨a,b,c,rfl,hs⟩:=XZe he;have HE:=hid he;have HN:Hid (Z3o ⟨a,b,c⟩=1+(a:Int)+b+c):=⟨if_pos he⟩;unfold X79 at HC ⊢;clear he;go_enter Tryz.func90,Tryz.ntmps90;go_wp2_with (go_at_call 107;refine (HC.o _).mono ?_;rintro e w1 ⟨rfl,hg1⟩;rw [HE.o];have hl:=(Gr.refl w).alloc (.cells #[.int .i64 a,.int .i64 b,.int .i64 c] 33);have k0:=(hg1.cell (b:=w.heap.size) (by simp) 0).trans (World.cell?_alloc_at _ _ _ 0 rfl);have k1:=(hg1.cell (b:=w.heap.size) (by simp) 1).trans (World.cell?_alloc_at _ _ _ 1 rfl);have k2:=(hg1.cell (b:=w.heap.size) (by simp) 2).trans (World.cell?_alloc_at _ _ _ 2 rfl);have HG1:=hid (hl.trans hg1);clear hg1 hl);go_ret;exact ⟨ZzN (by rw [HN.o]),HG1.o⟩
 ·have HE:=hid he;have HN:Hid (Z3o h=0):=⟨if_neg (by rw [he];decide)⟩;unfold X79 at HC ⊢;clear he;go_enter Tryz.func90,Tryz.ntmps90;go_wp2_with (go_at_call 107;refine (HC.o _).mono ?_;rintro e w1 ⟨rfl,hg1⟩;rw [HE.o];have HG1:=hid (((Gr.refl w).alloc _).trans hg1);clear hg1);go_ret;exact ⟨ZzN (by rw [HN.o]),HG1.o⟩
end
end
end
section
section
open Go.RowKit Word
def QQf (a b c:Nat):Nat:=a+256*b+65536*c+2768240640
def YsO (a b c:Nat):Nat:=(4294967295-QQf a b c)*4294967296+QQf a b c
def Yoq (h:Hdr) (i:Int):Int:=if 0<=i/\i<Z3o h-1 then (if i<h.p then 1 else if i<h.p+h.f then 2 else 3) else 0
theorem XEA (a b i m:Nat) (hm:m=2 ^ i) (h:a<m):a ||| (b*m)=b*m+a:=by
 subst hm;rw [Nat.or_comm,<-Nat.shiftLeft_eq,Nat.shiftLeft_add_eq_or_of_lt h]
theorem Z2Y (n:Nat) (hn:n<4294967296):bits .xor .u32 IntKind.u32.max (n:Int)=((4294967295-n:Nat):Int):=by
 have h1:(BitVec.ofInt 32 (n:Int)).toNat=n:=by
  rw [BitVec.ofInt_natCast,BitVec.toNat_ofNat];exact Nat.mod_eq_of_lt (by omega)
 have h2:BitVec.ofInt 32 IntKind.u32.max=BitVec.allOnes 32:=by decide
 show IntKind.u32.wrap ((BitVec.ofInt 32 IntKind.u32.max ^^^ BitVec.ofInt 32 (n:Int)).toNat:Int)=_
 rw [h2,BitVec.allOnes_xor,BitVec.toNat_not,h1,IntKind.wrap_u32];omega
theorem XiL {a b c:Nat} (hs:a+b+c<=255):bits .or .u32 (bits .or .u32 (bits .or .u32 (a:Int) ((b:Int)*256)) ((c:Int)*65536)) 2768240640=((QQf a b c:Nat):Int):=by
 have e1:((b:Int)*256)=((b*256:Nat):Int):=by omega
 have e2:((c:Int)*65536)=((c*65536:Nat):Int):=by omega
 have e3:(2768240640:Int)=((165*16777216:Nat):Int):=by omega
 rw [e1,e2,e3,u32_or_nat a (b*256) (by omega) (by omega),XEA a b 8 256 (by decide) (by omega),u32_or_nat _ (c*65536) (by omega) (by omega),XEA _ c 16 65536 (by decide) (by omega),u32_or_nat _ (165*16777216) (by omega) (by omega),XEA _ 165 24 16777216 (by decide) (by omega)];unfold QQf;omega
theorem Vts {a b c:Nat} (hs:a+b+c<=255):QQf a b c<4294967296:=by unfold QQf;omega
theorem J0L {n:Nat} (hn:n<4294967296):bits .or .u64 (((4294967295-n:Nat):Int)*4294967296) (n:Int)=(((4294967295-n)*4294967296+n:Nat):Int):=by
 have e1:(((4294967295-n:Nat):Int)*4294967296)=(((4294967295-n)*4294967296:Nat):Int):=by omega
 rw [e1,bits_or_u64_nat _ _ (by omega) (by omega),Nat.or_comm,XEA _ _ 32 4294967296 (by decide) hn]
set_option maxHeartbeats 1600000 in
theorem Jii {a b c:Nat} (hs:a+b+c<=255) (w:World):Calls Tryz.prog 176 #[X79 ⟨a,b,c⟩] w fun e w'=>e=.returned (.tuple #[.int .u64 (YsO a b c:Nat),.int .i64 0])/\Gr w w':=by
 have HC:=hid (fun W=>Jld ⟨a,b,c⟩ W);have HE:=hid (JJj hs);have f1:=XiL hs;have hn:=Vts hs;have HW:Hid (YsO a b c=(4294967295-QQf a b c)*4294967296+QQf a b c):=⟨rfl⟩;obtain ⟨n,hnn⟩:∃ n,n=QQf a b c:=⟨_,rfl⟩;rw [<-hnn] at f1 hn HW;have f2:=Z2Y n hn;have f3:=J0L hn;have f4:IntKind.u64.wrap (((4294967295-n:Nat):Int))=((4294967295-n:Nat):Int):=by rw [IntKind.wrap_u64];omega
 have f5:IntKind.u64.wrap (((4294967295-n:Nat):Int)*4294967296)=((4294967295-n:Nat):Int)*4294967296:=by rw [IntKind.wrap_u64];omega
 have f6:IntKind.u64.wrap (n:Int)=(n:Int):=by rw [IntKind.wrap_u64];omega
 generalize 4294967295-n=m at f2 f3 f4 f5 HW;clear hnn hn;unfold X79 at HC ⊢;go_enter Tryz.func176,Tryz.ntmps176;go_wp2_with (go_at_call 107;refine (HC.o _).mono ?_;rintro e w1 ⟨rfl,hg1⟩;rw [HE.o];have hl:=(Gr.refl w).alloc (.cells #[.int .i64 a,.int .i64 b,.int .i64 c] 33);have k0:=(hg1.cell (b:=w.heap.size) (by simp) 0).trans (World.cell?_alloc_at _ _ _ 0 rfl);have k1:=(hg1.cell (b:=w.heap.size) (by simp) 1).trans (World.cell?_alloc_at _ _ _ 1 rfl);have k2:=(hg1.cell (b:=w.heap.size) (by simp) 2).trans (World.cell?_alloc_at _ _ _ 2 rfl);have HG1:=hid (hl.trans hg1);clear hg1 hl);go_ret2;exact ⟨Qh8 (by rw [HW.o];rfl) rfl,HG1.o⟩
def Q3b (x:Nat):Bool:=decide (x%4294967296/16777216=165)&&decide (x/4294967296=4294967295-x%4294967296)&&decide (x%256+x/256%256+x/65536%256<=255)
def tkH (x:Nat):Hdr:=if Q3b x then ⟨(x%256:Nat),(x/256%256:Nat),(x/65536%256:Nat)⟩ else ⟨0,0,0⟩
def tkE (x:Nat):Int:=if Q3b x then 0 else 16
theorem Jxe (n:Nat) (hn:n<4294967296):bits .and .u32 (n:Int) 255=((n%256:Nat):Int):=by
 rw [show (255:Int)=((255:Nat):Int) from rfl,u32_and_nat n 255 hn (by omega)];have:n &&& 255=n%256:=Nat.and_two_pow_sub_one_eq_mod n 8;skip;rw [this]
theorem JIC (W:World) (blk:Nat) (p q r:Value) (h0:W.cell? ⟨blk,0,none⟩=some p) (h1:W.cell? ⟨blk,1,none⟩=some q) (h2:W.cell? ⟨blk,2,none⟩=some r):(loadVar 33 ⟨blk,0,none⟩).run Tryz.prog W=.ok (.agg #[p,q,r]) W:=by
 have a1:(isAgg 33).run Tryz.prog W=.ok true W:=by kernel_rfl
 have a2:(sizeOf 33).run Tryz.prog W=.ok 3 W:=by kernel_rfl
 simp [loadVar,Sem.run_bind,a1,a2,Result.andThen,loadCells,go_sem,h0,h1,h2]
theorem ZBB {w w1:World} {xs ys:List Value} (hg:Gr ((w.alloc (.cells xs.toArray 33)).alloc (.cells ys.toArray 33)) w1):Rec w1 w.heap.size 33 xs/\Rec w1 (w.heap.size+1) 33 ys:=by
 refine ⟨((Rec.new w _ xs).gr ((Gr.refl _).alloc _)).gr hg,?_⟩;have:=(Rec.new (w.alloc (.cells xs.toArray 33)) 33 ys).gr hg;rw [World.size_alloc] at this;exact this
theorem Q9L {w w1:World} {o o2:Obj} (hg:Gr ((w.alloc o).alloc o2) w1) {x y z:Value}:Gr w (((w1.setCell ⟨w.heap.size,0,none⟩ x).setCell ⟨w.heap.size,1,none⟩ y).setCell ⟨w.heap.size,2,none⟩ z):=by
 have h1:XF4 (fun k=>w.heap.size<=k) w w1:=((((Gr.refl w).alloc o).alloc o2).trans hg).touch _;have h2:=((h1.setCell (a:=⟨w.heap.size,0,none⟩) (fun _=>Nat.le_refl _) x).setCell (a:=⟨w.heap.size,1,none⟩) (fun _=>Nat.le_refl _) y).setCell (a:=⟨w.heap.size,2,none⟩) (fun _=>Nat.le_refl _) z;exact (h2.mono (fun k hk h=>by omega)).gr
set_option maxHeartbeats 1600000 in
theorem XFZ {x:Nat} (hx:x<18446744073709551616) (w:World):Calls Tryz.prog 167 #[.int .u64 x] w fun e w'=>e=.returned (.tuple #[X79 (tkH x),.int .i64 (tkE x)])/\Gr w w':=by
 obtain ⟨n,hn⟩:∃ n,n=x%4294967296:=⟨_,rfl⟩;obtain ⟨h,hh⟩:∃ h,h=x/4294967296:=⟨_,rfl⟩;obtain ⟨a,ha⟩:∃ a,a=n%256:=⟨_,rfl⟩;obtain ⟨b,hb⟩:∃ b,b=n/256%256:=⟨_,rfl⟩;obtain ⟨c,hc⟩:∃ c,c=n/65536%256:=⟨_,rfl⟩;obtain ⟨d,hd⟩:∃ d,d=n/16777216:=⟨_,rfl⟩;obtain ⟨m,hm⟩:∃ m,m=4294967295-n:=⟨_,rfl⟩;have hnl:n<4294967296:=by omega
 have HT:Hid (Q3b x=(decide (d=165)&&decide (h=m)&&decide (a+b+c<=255))/\tkH x=if Q3b x then ⟨(a:Nat),(b:Nat),(c:Nat)⟩ else ⟨0,0,0⟩):=⟨by
  have e1:x%256=a:=by omega
  have e2:x/256%256=b:=by omega
  have e3:x/65536%256=c:=by omega
  unfold tkH Q3b;rw [e1,e2,e3,<-hn,<-hd,<-hh,<-hm]
  exact ⟨rfl,rfl⟩⟩
 have g0:(x:Int)%4294967296=(n:Int):=by omega
 have g5:(x:Int)/4294967296=(h:Int):=by omega
 have g1:bits .and .u32 (n:Int) 255=(a:Int):=by rw [Jxe n hnl,ha]
 have g2:bits .and .u32 ((n:Int)/256) 255=(b:Int):=by
  rw [show (n:Int)/256=((n/256:Nat):Int) by omega,Jxe _ (by omega),hb]
 have g3:bits .and .u32 ((n:Int)/65536) 255=(c:Int):=by
  rw [show (n:Int)/65536=((n/65536:Nat):Int) by omega,Jxe _ (by omega),hc]
 have g4:(n:Int)/16777216=(d:Int):=by omega
 have g6:bits .xor .u32 IntKind.u32.max (n:Int)=(m:Int):=by rw [Z2Y n hnl,hm]
 have ba:a<=255:=by omega
 have bb:b<=255:=by omega
 have bc:c<=255:=by omega
 have HC:=hid (fun W=>Jld ⟨a,b,c⟩ W)
 have hEE:JQC ⟨a,b,c⟩=if a+b+c<=255 then 0 else 15:=by
  unfold JQC inS;simp only [];rw [decide_eq_true (by omega),decide_eq_true (by omega),decide_eq_true (by omega)];by_cases h:a+b+c<=255
  ·rw [if_pos h,decide_eq_true (by omega)];rfl
  ·rw [if_neg h,decide_eq_false (by omega)];rfl
 have HEE:=hid hEE;clear hEE;unfold X79 at HC
 have KL:=hid (show ∀ (W:World) (blk:Nat) (p q r:Value),W.cell? ⟨blk,0,none⟩=some p->W.cell? ⟨blk,1,none⟩=some q->W.cell? ⟨blk,2,none⟩=some r->(loadVar 33 ⟨blk,0,none⟩).run Tryz.prog W=.ok (.agg #[p,q,r]) W by
  intro W blk p q r h0 h1 h2
  exact JIC W blk p q r h0 h1 h2)
 clear hn hh ha hb hc hd hm hnl;by_cases t1:d=165
 ·have HT1:=hid t1;have d1:((d:Int) !=165)=false:=by rw [t1];rfl
  by_cases t2:h=m
  ·have HT2:=hid t2;have d2:((h:Int) !=(m:Int))=false:=by rw [t2];simp
   have d3:¬ ¬ ((h:Int)=bits .xor .u32 IntKind.u32.max (n:Int)):=by rw [g6,t2];simp
   by_cases t3:a+b+c<=255
   ·have HK:Hid (JQC ⟨a,b,c⟩=0):=⟨by rw [HEE.o,if_pos t3]⟩
    have HE:Hid (tkH x=⟨(a:Nat),(b:Nat),(c:Nat)⟩/\tkE x=0):=⟨by
     have:Q3b x=true:=by rw [HT.o.1,decide_eq_true t1,decide_eq_true t2,decide_eq_true t3];rfl
     unfold tkE;rw [HT.o.2,this];exact ⟨rfl,rfl⟩⟩
    clear t1 t2 t3 HT;go_enter Tryz.func167,Tryz.ntmps167;go_wp2_with (go_at_call 107;refine (HC.o _).mono ?_;rintro e w1 ⟨rfl,hg1⟩;rw [HK.o];obtain ⟨r1,r2⟩:=ZBB (xs:=[.int .i64 0,.int .i64 0,.int .i64 0]) (ys:=[.int .i64 a,.int .i64 b,.int .i64 c]) hg1;have k0:=r1.cell (j:=0) rfl;have k1:=r1.cell (j:=1) rfl;have k2:=r1.cell (j:=2) rfl;have kf:=r1.free;have k3:=r2.cell (j:=0) rfl;have k4:=r2.cell (j:=1) rfl;have k5:=r2.cell (j:=2) rfl;have HR1:=hid r1;have HG1:=hid hg1;clear hg1 r1 r2);have R3:=Rec.set (Rec.set (Rec.set HR1.o 0 (.int .i64 a)) 1 (.int .i64 b)) 2 (.int .i64 c);refine bodyPost_ret (v:=.tuple #[X79 ⟨a,b,c⟩,.int .i64 0]) ?_ rfl ?_
    ·rw [results_cell_tmp rfl];have hl:=KL.o _ w.heap.size _ _ _ (R3.cell (j:=0) rfl) (R3.cell (j:=1) rfl) (R3.cell (j:=2) rfl);simp [asAddr,Result.andThen,hl,X79]
    ·exact ⟨by rw [HE.o.1,HE.o.2],Q9L HG1.o⟩
   ·have HK:Hid (JQC ⟨a,b,c⟩=15):=⟨by rw [HEE.o,if_neg t3]⟩
    have HE:Hid (tkH x=⟨0,0,0⟩/\tkE x=16):=⟨by
     have:Q3b x=false:=by rw [HT.o.1,decide_eq_false t3];simp
     unfold tkE;rw [HT.o.2,this];exact ⟨rfl,rfl⟩⟩
    clear t1 t2 t3 HT;go_enter Tryz.func167,Tryz.ntmps167;go_wp2_with (go_at_call 107;refine (HC.o _).mono ?_;rintro e w1 ⟨rfl,hg1⟩;rw [HK.o];obtain ⟨r1,r2⟩:=ZBB (xs:=[.int .i64 0,.int .i64 0,.int .i64 0]) (ys:=[.int .i64 a,.int .i64 b,.int .i64 c]) hg1;have k0:=r1.cell (j:=0) rfl;have k1:=r1.cell (j:=1) rfl;have k2:=r1.cell (j:=2) rfl;have kf:=r1.free;have k3:=r2.cell (j:=0) rfl;have k4:=r2.cell (j:=1) rfl;have k5:=r2.cell (j:=2) rfl;have HR1:=hid r1;have HG1:=hid hg1;clear hg1 r1 r2);have R3:=Rec.set (Rec.set (Rec.set HR1.o 0 (.int .i64 0)) 1 (.int .i64 0)) 2 (.int .i64 0);refine bodyPost_ret (v:=.tuple #[X79 ⟨0,0,0⟩,.int .i64 16]) ?_ rfl ?_
    ·rw [results_cell_tmp rfl];have hl:=KL.o _ w.heap.size _ _ _ (R3.cell (j:=0) rfl) (R3.cell (j:=1) rfl) (R3.cell (j:=2) rfl);simp [asAddr,Result.andThen,hl,X79]
    ·exact ⟨by rw [HE.o.1,HE.o.2],Q9L HG1.o⟩
  ·have d2:((h:Int) !=(m:Int))=true:=by simp;omega
   have d3:¬ ((h:Int)=bits .xor .u32 IntKind.u32.max (n:Int)):=by rw [g6];omega
   have HE:Hid (tkH x=⟨0,0,0⟩/\tkE x=16):=⟨by
    have:Q3b x=false:=by rw [HT.o.1,decide_eq_false t2];simp
    unfold tkE;rw [HT.o.2,this];exact ⟨rfl,rfl⟩⟩
   clear t1 t2 HT;go_enter Tryz.func167,Tryz.ntmps167;go_wp2;refine bodyPost_ret (v:=.tuple #[X79 ⟨0,0,0⟩,.int .i64 16]) ?_ rfl ?_
   ·rw [results_cell_tmp rfl];simp [asAddr,Result.andThen,go_sem];rfl
   ·exact ⟨by rw [HE.o.1,HE.o.2],((Gr.refl w).alloc _).alloc _⟩
 ·have d1:((d:Int) !=165)=true:=by simp;omega
  have d3:¬ ((d:Int)=165):=by omega
  have d4:¬ ((n:Int)/16777216=165):=by omega
  have HE:Hid (tkH x=⟨0,0,0⟩/\tkE x=16):=⟨by
   have:Q3b x=false:=by rw [HT.o.1,decide_eq_false t1];simp
   unfold tkE;rw [HT.o.2,this];exact ⟨rfl,rfl⟩⟩
  clear t1 HT;go_enter Tryz.func167,Tryz.ntmps167;go_wp2;refine bodyPost_ret (v:=.tuple #[X79 ⟨0,0,0⟩,.int .i64 16]) ?_ rfl ?_
  ·rw [results_cell_tmp rfl];simp [asAddr,Result.andThen,go_sem];rfl
  ·exact ⟨by rw [HE.o.1,HE.o.2],((Gr.refl w).alloc _).alloc _⟩
set_option maxHeartbeats 1600000 in
theorem VNI {a b c:Nat} (hs:a+b+c<=255) (i:Int) (w:World):Calls Tryz.prog 151 #[X79 ⟨a,b,c⟩,.int .i64 i] w fun e w'=>e=.returned (.int .i64 (Yoq ⟨a,b,c⟩ i))/\Gr w w':=by
 have hN:Z3o ⟨a,b,c⟩=1+(a:Int)+b+c:=if_pos (JJj hs);have HZ:=hid (fun W=>ZUg ⟨a,b,c⟩ W)
 have HK:Hid (Yoq ⟨a,b,c⟩ i=if 0<=i/\i<(a:Int)+b+c then (if i<a then 1 else if i<(a:Int)+b then 2 else 3) else 0):=⟨by
  unfold Yoq;rw [hN];simp only [];by_cases h:0<=i/\i<(a:Int)+b+c
  ·rw [if_pos h,if_pos (by omega)]
  ·rw [if_neg h,if_neg (by omega)]⟩
 rw [hN] at HZ;unfold X79 at HZ ⊢;clear hN;by_cases h0:i<0
 ·have d0:decide (i<0)=true:=decide_eq_true h0;have HE:Hid (Yoq ⟨a,b,c⟩ i=0):=⟨by rw [HK.o,if_neg (by omega)]⟩;clear HK;go_enter Tryz.func151,Tryz.ntmps151;go_wp2;go_ret;exact ⟨ZzN (by rw [HE.o]),(Gr.refl w).alloc _⟩
 ·have d0:decide (i<0)=false:=decide_eq_false h0;by_cases h1:(a:Int)+b+c<=i
  ·have HE:Hid (Yoq ⟨a,b,c⟩ i=0):=⟨by rw [HK.o,if_neg (by omega)]⟩;have d1:decide (1+(a:Int)+b+c-1<=i)=true:=decide_eq_true (by omega);clear HK;go_enter Tryz.func151,Tryz.ntmps151;go_wp2_with (go_at_call 90;refine (HZ.o _).mono ?_;rintro e w1 ⟨rfl,hg1⟩;have HG1:=hid (((Gr.refl w).alloc _).trans hg1);clear hg1);go_ret;exact ⟨ZzN (by rw [HE.o]),HG1.o⟩
  ·have d1:decide (1+(a:Int)+b+c-1<=i)=false:=decide_eq_false (by omega);have HE:Hid (Yoq ⟨a,b,c⟩ i=if i<a then 1 else if i<(a:Int)+b then 2 else 3):=⟨by rw [HK.o,if_pos (by omega)]⟩;clear HK;by_cases h2:i<a
   ·have d2:decide (i<(a:Int))=true:=decide_eq_true h2;go_enter Tryz.func151,Tryz.ntmps151;go_wp2_with (go_at_call 90;refine (HZ.o _).mono ?_;rintro e w1 ⟨rfl,hg1⟩;have k0:=(hg1.cell (b:=w.heap.size) (by simp) 0).trans (World.cell?_alloc_at _ _ _ 0 rfl);have k1:=(hg1.cell (b:=w.heap.size) (by simp) 1).trans (World.cell?_alloc_at _ _ _ 1 rfl);have HG1:=hid (((Gr.refl w).alloc _).trans hg1);clear hg1);go_ret;exact ⟨ZzN (by rw [HE.o,if_pos h2]),HG1.o⟩
   ·have d2:decide (i<(a:Int))=false:=decide_eq_false h2;by_cases h3:i<(a:Int)+b
    ·have d3:decide (i<(a:Int)+(b:Int))=true:=decide_eq_true h3;go_enter Tryz.func151,Tryz.ntmps151;go_wp2_with (go_at_call 90;refine (HZ.o _).mono ?_;rintro e w1 ⟨rfl,hg1⟩;have k0:=(hg1.cell (b:=w.heap.size) (by simp) 0).trans (World.cell?_alloc_at _ _ _ 0 rfl);have k1:=(hg1.cell (b:=w.heap.size) (by simp) 1).trans (World.cell?_alloc_at _ _ _ 1 rfl);have HG1:=hid (((Gr.refl w).alloc _).trans hg1);clear hg1);go_ret;exact ⟨ZzN (by rw [HE.o,if_neg (by omega),if_pos h3]),HG1.o⟩
    ·have d3:decide (i<(a:Int)+(b:Int))=false:=decide_eq_false h3;go_enter Tryz.func151,Tryz.ntmps151;go_wp2_with (go_at_call 90;refine (HZ.o _).mono ?_;rintro e w1 ⟨rfl,hg1⟩;have k0:=(hg1.cell (b:=w.heap.size) (by simp) 0).trans (World.cell?_alloc_at _ _ _ 0 rfl);have k1:=(hg1.cell (b:=w.heap.size) (by simp) 1).trans (World.cell?_alloc_at _ _ _ 1 rfl);have HG1:=hid (((Gr.refl w).alloc _).trans hg1);clear hg1);go_ret;exact ⟨ZzN (by rw [HE.o,if_neg (by omega),if_neg (by omega)]),HG1.o⟩
end
end
section
section
open Go.RowKit Word
def spV (q:Nat):Value:=.iface 87 (.pointer (some ⟨q,0,none⟩))
theorem Ye4 (n:Nat) (a:Addr) (w:World):(nilAhead (n+1) 87 (.pointer (some a)) "Load").run Tryz.prog w=.ok (some false) w:=by kernel_rfl
theorem V01 (n:Nat) (a:Addr) (w:World):(method (n+1) 87 (.pointer (some a)) "Load").run Tryz.prog w=.ok (213,.pointer (some a)) w:=by kernel_rfl
def Vm.rdH (v:Vm) (a:Int):Hdr:=if 0<a/\v.ldE a=0 then tkH (v.ldV a) else ⟨0,0,0⟩
def Vm.rdE (v:Vm) (a:Int):Int:=if a=0 then 18 else if a<0 then 5 else if v.ldE a=0 then tkE (v.ldV a) else v.ldE a
theorem ZAR.ldV_lt {v:Vm} (h:ZAR v) (a:Int):v.ldV a<18446744073709551616:=by
 unfold Vm.ldV
 split
 ·rw [List.getD_eq_getElem?_getD];rcases Nat.lt_or_ge (v.at a) v.pl.wd.length with hl | hl
  ·rw [List.getElem?_eq_getElem hl];exact h.pl.w64 _ (List.getElem_mem hl)
  ·rw [List.getElem?_eq_none hl];decide
 ·decide
structure Sp where
 T:TypeId
 rv:Value
 FL:FuncId
 P:Int->Prop
 M:Prop
 D:Nat->Prop
 I:Vm->(Nat->Prop)->World->Prop
def Sp.v (z:Sp):Value:=.iface z.T z.rv
structure Sp.Ok (z:Sp):Prop where
 nl:∀ n w,(nilAhead (n+1) z.T z.rv "Load").run Tryz.prog w=.ok (some false) w
 ml:∀ n w,(method (n+1) z.T z.rv "Load").run Tryz.prog w=.ok (z.FL,z.rv) w
 cl:∀ args w,(callFunc z.FL args).run Tryz.prog w=.ok (.enter z.FL args) w
 nn:∀ w,(binOp BinOp.eql 155 (.iface z.T z.rv) .nilIface).run Tryz.prog w=.ok (.bool false) w
 ok:∀ {u S w},z.I u S w->ZAR u
 fr:∀ {u S S' T' w w'},z.I u S w->XF4 T' w w'->(∀ k,k<w.heap.size->T' k->¬ S k/\¬ z.D k)->(∀ k,S k->S' k)->z.I u S' w'
 nw:∀ {u S w},z.I u S w->∀ k,z.D k->k<w.heap.size
 ct:∀ {u S w},z.I u S w->z.I u (ZOk S w) w
 ld:∀ {u S w},z.I u S w->∀ a,z.P a->Calls Tryz.prog z.FL #[z.rv,.int .i64 a] w (fun e w'=>e=.returned (.tuple #[.int .u64 (u.ldV a:Nat),.int .i64 (u.ldE a)])/\XF4 (fun k=>z.M/\S k) w w'/\z.I u (plus S w) w')
def Sp.E (z:Sp) (u:Vm) (S:Nat->Prop) (w w':World):Prop:=XF4 (fun k=>z.M/\S k) w w'/\z.I u (plus S w) w'
section
variable {z:Sp} {u:Vm} {S:Nat->Prop} {w w1 w':World}
theorem Sp.Ok.gr (h:z.Ok) (hI:z.I u S w) (g:Gr w w'):z.I u S w':=h.fr hI (g.touch (fun _=>False)) (fun _ _ h=>h.elim) (fun _ h=>h)
theorem Sp.Ok.mono {S':Nat->Prop} (h:z.Ok) (hI:z.I u S w) (hs:∀ k,S k->S' k):z.I u S' w:=h.fr hI (XF4.refl (fun _=>False) w) (fun _ _ h=>h.elim) hs
theorem Sp.Ok.get (h:z.Ok) (hI:z.I u S w) (g:Gr w w'):z.E u S w w':=⟨g.touch _,h.mono (h.gr hI g) (fun _ h=>.inl h)⟩
theorem Sp.E.ro (h:z.E u S w w') (hM:¬ z.M):Gr w w':=(h.1.mono (fun _ _ hk=>hM hk.1)).gr
theorem Sp.E.trans (h:z.E u S w w1) (k:z.E u (plus S w) w1 w') (hS:z.Ok):z.E u S w w':=by
 have hz:=h.1.size;refine ⟨h.1.trans' k.1 (fun _ hi hh=>⟨hh.1,hh.2.elim id (fun h=>by omega)⟩),hS.mono k.2 (fun i hi=>?_)⟩;rcases hi with h1 | h1
 ·exact h1
 ·exact .inr (by omega)
theorem Sp.E.gr (h:z.E u S w w1) (g:Gr w1 w') (hS:z.Ok):z.E u S w w':=⟨h.1.trans (g.touch _),hS.gr h.2 g⟩
theorem Sp.E.rec {b t:Nat} {xs:List Value} (h:z.E u (ZOk S w) w1 w') (hr:Rec w1 b t xs) (hb:w.heap.size<=b):Rec w' b t xs:=hr.touch h.1 (fun hh=>by have:=hh.2.2;omega)
theorem Sp.E.cells (h:z.E u (ZOk S w) w1 w') (hS:z.Ok) (hI:z.I u S w) (g:Gr w w1) {b:Nat} (hb:w.heap.size<=b) (hb1:b<w1.heap.size) {w2:World} (t:XF4 (fun k=>k=b) w' w2):z.E u S w w2:=by
 refine ⟨(((g.touch (fun k=>z.M/\S k)).trans' h.1 (fun _ _ hh=>⟨hh.1,hh.2.1⟩))).trans' t (fun i hi hh=>by omega),hS.fr h.2 t (fun i _ hh=>?_) (fun i hi=>?_)⟩
 ·subst hh;refine ⟨fun hp=>?_,fun hd=>?_⟩
  ·rcases hp with hp | hp
   ·have:=hp.2;omega
   ·omega
  ·have:=hS.nw hI _ hd;omega
 ·rcases hi with h1 | h1
  ·exact .inl h1.1
  ·exact .inr (Nat.le_trans g.size h1)
theorem ZGx (W:World) (b:Nat) (x y z:Value):XF4 (fun k=>k=b) W (((W.setCell ⟨b,0,none⟩ x).setCell ⟨b,1,none⟩ y).setCell ⟨b,2,none⟩ z):=
 (((XF4.refl (fun k=>k=b) W).setCell (a:=⟨b,0,none⟩) (fun _=>rfl) x).setCell (a:=⟨b,1,none⟩) (fun _=>rfl) y).setCell (a:=⟨b,2,none⟩) (fun _=>rfl) z
set_option maxHeartbeats 1600000 in
theorem JYm (hS:z.Ok) (hI:z.I u S w) (a:Int) (hP:0<a->z.P a):Calls Tryz.prog 100 #[z.v,.int .i64 a] w fun e w'=>e=.returned (.tuple #[X79 (u.rdH a),.int .i64 (u.rdE a)])/\z.E u S w w':=by
 have HS:=hid hS;have HI:=hid hI;have hok:=hS.ok hI;have hx:=hok.ldV_lt a;have n1:=hS.nl;have n2:=hS.ml;have n3:=hS.cl;unfold Sp.v;have KL:=hid (fun (W:World) (blk:Nat) (p q r:Value)=>JIC W blk p q r);rcases (by omega:a=0\/a<0\/0<a) with h0 | h0 | h0
 ·subst h0;clear hS hI hP;go_enter Tryz.func100,Tryz.ntmps100;go_wp2;refine bodyPost_ret (v:=.tuple #[X79 ⟨0,0,0⟩,.int .i64 18]) ?_ rfl ?_
  ·rw [results_cell_tmp rfl];simp [asAddr,Result.andThen,go_sem];rfl
  ·exact ⟨rfl,HS.o.get HI.o ((Gr.refl w).alloc _)⟩
 ·have d0:(a==0)=false:=by simp;omega
  have d1:decide (a<0)=true:=decide_eq_true h0;have HE:Hid (u.rdH a=⟨0,0,0⟩/\u.rdE a=5):=⟨⟨if_neg (by omega),by unfold Vm.rdE;rw [if_neg (by omega),if_pos h0]⟩⟩;clear hS hI hP;go_enter Tryz.func100,Tryz.ntmps100;go_wp2;refine bodyPost_ret (v:=.tuple #[X79 ⟨0,0,0⟩,.int .i64 5]) ?_ rfl ?_
  ·rw [results_cell_tmp rfl];simp [asAddr,Result.andThen,go_sem];rfl
  ·exact ⟨by rw [HE.o.1,HE.o.2],HS.o.get HI.o ((Gr.refl w).alloc _)⟩
 ·have d0:(a==0)=false:=by simp;omega
  have d1:decide (a<0)=false:=decide_eq_false (by omega);have HLD:=hid (hS.ld (hS.gr (hS.ct hI) ((Gr.refl w).alloc (.cells #[.int .i64 0,.int .i64 0,.int .i64 0] 33))) a (hP h0));by_cases hE:u.ldE a=0
  ·have HE:Hid (u.rdH a=tkH (u.ldV a)/\u.rdE a=tkE (u.ldV a)):=⟨⟨if_pos ⟨h0,hE⟩,by unfold Vm.rdE;rw [if_neg (by omega),if_neg (by omega),if_pos hE]⟩⟩;have HT:=hid (fun W=>XFZ hx W);have hh:X79 (tkH (u.ldV a))=.agg #[.int .i64 (tkH (u.ldV a)).p,.int .i64 (tkH (u.ldV a)).f,.int .i64 (tkH (u.ldV a)).k]:=rfl;rw [hh] at HT;rw [hE] at HLD;generalize tkH (u.ldV a)=h at HT HE;generalize tkE (u.ldV a)=er at HT HE;obtain ⟨p,f,k⟩:=h;clear hE hh hS hI hP hok;go_enter Tryz.func100,Tryz.ntmps100
   go_wp2_with (first
    | (go_at_call 167;refine (HT.o _).mono ?_;rintro e w2 ⟨rfl,hg2⟩;have r2:=HR1.o.gr hg2;have k0:=r2.cell (j:=0) rfl;have k1:=r2.cell (j:=1) rfl;have k2:=r2.cell (j:=2) rfl;have kf:=r2.free;have HR2:=hid r2;have HG2:=hid (HG1.o.gr hg2 HS.o);clear hg2 r2)
    | (refine HLD.o.mono ?_;rintro e w1 ⟨rfl,hg1⟩;have HG1:Hid (z.E u (ZOk S w) _ w1):=⟨hg1⟩;have HR1:=hid (Sp.E.rec (z:=z) hg1 (Rec.new w 33 [.int .i64 0,.int .i64 0,.int .i64 0]) (Nat.le_refl _));clear hg1))
   have R3:=Rec.set (Rec.set (Rec.set HR2.o 0 (.int .i64 p)) 1 (.int .i64 f)) 2 (.int .i64 k);refine bodyPost_ret (v:=.tuple #[X79 ⟨p,f,k⟩,.int .i64 er]) ?_ rfl ?_
   ·rw [results_cell_tmp rfl];have hl:=KL.o _ w.heap.size _ _ _ (R3.cell (j:=0) rfl) (R3.cell (j:=1) rfl) (R3.cell (j:=2) rfl);simp [asAddr,Result.andThen,hl,X79]
   ·exact ⟨by rw [HE.o.1,HE.o.2],HG2.o.cells HS.o HI.o ((Gr.refl w).alloc _) (Nat.le_refl _) (by rw [World.size_alloc];omega) (ZGx _ _ _ _ _)⟩
  ·have HE:Hid (u.rdH a=⟨0,0,0⟩/\u.rdE a=u.ldE a):=⟨⟨if_neg (fun h=>hE h.2),by unfold Vm.rdE;rw [if_neg (by omega),if_neg (by omega),if_neg hE]⟩⟩;obtain ⟨y,hy⟩:∃ y,y=u.ldE a:=⟨_,rfl⟩;have d2:(y==0)=false:=by rw [hy];simpa using hE
   rw [<-hy] at HLD;have HY:=hid hy;clear hE hy hS hI hP hok;go_enter Tryz.func100,Tryz.ntmps100;go_wp2_with (refine HLD.o.mono ?_;rintro e w1 ⟨rfl,hg1⟩;have HG1:Hid (z.E u (ZOk S w) _ w1):=⟨hg1⟩;have r2:=Sp.E.rec (z:=z) hg1 (Rec.new w 33 [.int .i64 0,.int .i64 0,.int .i64 0]) (Nat.le_refl _);have k0:=r2.cell (j:=0) rfl;have k1:=r2.cell (j:=1) rfl;have k2:=r2.cell (j:=2) rfl;have kf:=r2.free;have HR1:=hid r2;clear hg1 r2);have R3:=Rec.set (Rec.set (Rec.set HR1.o 0 (.int .i64 0)) 1 (.int .i64 0)) 2 (.int .i64 0);refine bodyPost_ret (v:=.tuple #[X79 ⟨0,0,0⟩,.int .i64 y]) ?_ rfl ?_
   ·rw [results_cell_tmp rfl];have hl:=KL.o _ w.heap.size _ _ _ (R3.cell (j:=0) rfl) (R3.cell (j:=1) rfl) (R3.cell (j:=2) rfl);simp [asAddr,Result.andThen,hl,X79]
   ·exact ⟨by rw [HE.o.1,HE.o.2,HY.o],HG1.o.cells HS.o HI.o ((Gr.refl w).alloc _) (Nat.le_refl _) (by rw [World.size_alloc];omega) (ZGx _ _ _ _ _)⟩
end
def spM (q:Nat):Sp:=⟨87,.pointer (some ⟨q,0,none⟩),213,fun _=>True,False,fun _=>False,fun u S w=>QXZ w S q u⟩
theorem YGi (q:Nat):(spM q).Ok:=
 ⟨fun n w=>Ye4 n _ w,fun n w=>V01 n _ w,fun args w=>by kernel_rfl,fun w=>by kernel_rfl,fun h=>QXZ.ok h,fun h t hT hs=>QXZ.mono (QXZ.touch h t (fun k hk hl=>fun ht=>(hT k hl ht).1 hk)) hs,fun _ _ h=>h.elim,fun h=>QXZ.cut h,
  fun {u S w} h a _=>(VW8 (S:=S) h a).mono fun _ _ hh=>⟨hh.1,hh.2.touch _,QXZ.mono (QXZ.gr h hh.2) (fun _ h=>.inl h)⟩⟩
section
variable {w:World} {S:Nat->Prop} {q:Nat} {v:Vm}
theorem ZkF (hV:QXZ w S q v) (a:Int):Calls Tryz.prog 100 #[spV q,.int .i64 a] w fun e w'=>e=.returned (.tuple #[X79 (v.rdH a),.int .i64 (v.rdE a)])/\Gr w w':=
 (JYm (z:=spM q) (YGi q) hV a (fun _=>trivial)).mono fun _ _ h=>⟨h.1,h.2.ro (fun h=>h)⟩
end
end
end
section
section
open Go.RowKit Word
def Vm.plE (v:Vm) (a i kd:Int):Int:=if v.rdE a≠0 then v.rdE a else if Yoq (v.rdH a) i=kd then 0 else if Yoq (v.rdH a) i=0 then 19 else 20
def Vm.plA (v:Vm) (a i kd:Int):Int:=if v.plE a i kd=0 then a+1+i else 0
def Vm.gtE (v:Vm) (a i kd:Int):Int:=if v.plE a i kd≠0 then v.plE a i kd else v.ldE (a+1+i)
def Vm.gtV (v:Vm) (a i kd:Int):Nat:=if v.plE a i kd≠0 then 0 else v.ldV (a+1+i)
def Vm.ptE (v:Vm) (a i:Int):Int:=if v.gtE a i 1≠0 then v.gtE a i 1 else if 2147483647<v.gtV a i 1 then 25 else 0
def Vm.ptV (v:Vm) (a i:Int):Nat:=if v.ptE a i=0 then v.gtV a i 1 else 0
theorem Jzk {x:Nat} (h:tkE x=0):∃ p f k:Nat,tkH x=⟨p,f,k⟩/\p+f+k<=255:=by
 unfold tkE at h
 split at h
 ·rename_i ho;refine ⟨x%256,x/256%256,x/65536%256,if_pos ho,?_⟩;unfold Q3b at ho;simp only [Bool.and_eq_true,decide_eq_true_eq] at ho;exact ho.2
 ·cases h
theorem J7F {v:Vm} {a:Int} (h:v.rdE a=0):0<a/\v.ldE a=0/\∃ p f k:Nat,v.rdH a=⟨p,f,k⟩/\p+f+k<=255:=by
 unfold Vm.rdE at h
 split at h
 ·cases h
 ·split at h
  ·cases h
  ·split at h
   ·rename_i h0;have ha:0<a:=by omega
    refine ⟨ha,h0,?_⟩;obtain ⟨p,f,k,e1,e2⟩:=Jzk h;exact ⟨p,f,k,by unfold Vm.rdH;rw [if_pos ⟨ha,h0⟩];exact e1,e2⟩
   ·rename_i h0;exact absurd h h0
theorem Qo9 {v:Vm} {a:Int} (h:v.ldE a=0):0<=a/\a<v.n:=by
 obtain ⟨j,rfl,hj,-⟩:=ZAR.hit h;omega
section
variable {z:Sp} {w:World} {S:Nat->Prop} {v:Vm}
set_option maxHeartbeats 1600000 in
theorem JJW (hS:z.Ok) (hI:z.I v S w) (a i kd:Int) (hk:kd≠0) (hP:0<a->z.P a):Calls Tryz.prog 179 #[z.v,.int .i64 a,.int .i64 i,.int .i64 kd] w fun e w'=>e=.returned (.tuple #[.int .i64 (v.plA a i kd),.int .i64 (v.plE a i kd)])/\z.E v S w w':=by
 have HS:=hid hS;have hn:=(hS.ok hI).n2;have HRD:=hid (JYm hS hI a hP);by_cases hE:v.rdE a=0
 ·obtain ⟨ha,hl,p,f,k,hh,hs⟩:=J7F hE;have hr:=Qo9 hl;rw [hh] at HRD;have HP:Hid (v.plE a i kd=if Yoq ⟨p,f,k⟩ i=kd then 0 else if Yoq ⟨p,f,k⟩ i=0 then 19 else 20):=⟨by unfold Vm.plE;rw [if_neg (fun h=>h hE),hh]⟩;have HA:Hid (v.plA a i kd=if v.plE a i kd=0 then a+1+i else 0):=⟨rfl⟩;have HK:=hid (fun W=>VNI hs i W);have hN:Z3o ⟨p,f,k⟩=1+(p:Int)+f+k:=if_pos (JJj hs)
  have hki:Yoq ⟨p,f,k⟩ i≠0->0<=i/\i<255:=fun h=>by
   unfold Yoq at h
   split at h
   ·rename_i h';rw [hN] at h';omega
   ·exact absurd rfl h
  generalize Yoq ⟨(p:Int),(f:Int),(k:Int)⟩ i=kk at HP HK hki;have HE:=hid hE;clear hE hl hh hs hN hS hI hP;unfold X79 at HRD HK;by_cases h1:kk=kd
  ·have e0:v.plE a i kd=0:=by rw [HP.o,if_pos h1]
   have HE0:Hid (v.plE a i kd=0/\v.plA a i kd=a+1+i):=⟨⟨e0,by rw [HA.o,if_pos e0]⟩⟩;have hii:=hki (by rw [h1];exact hk);have d0:(kk==kd)=true:=by simpa using h1
   clear h1 hki HP HA e0;go_enter Tryz.func179,Tryz.ntmps179
   go_wp2_with (first
    | (go_at_call 100;refine (HRD.o).mono ?_;rintro e w1 ⟨rfl,hg1⟩;rw [HE.o];have HG1:=hid hg1;clear hg1)
    | (go_at_call 151;refine (HK.o _).mono ?_;rintro e w2 ⟨rfl,hg2⟩;have HG2:=hid hg2;clear hg2))
   go_ret2;exact ⟨Qh8 (Yhd (by rw [HE0.o.2])) (Yhd (by rw [HE0.o.1])),HG1.o.gr (((Gr.refl _).alloc _).trans HG2.o) HS.o⟩
  ·have d0:(kk==kd)=false:=by simpa using h1
   by_cases h2:kk=0
   ·have e0:v.plE a i kd=19:=by rw [HP.o,if_neg h1,if_pos h2]
    have HE0:Hid (v.plE a i kd=19/\v.plA a i kd=0):=⟨⟨e0,by rw [HA.o,if_neg (by rw [e0];decide)]⟩⟩;have d1:(kk==0)=true:=by simpa using h2
    clear h1 h2 hki HP HA e0;go_enter Tryz.func179,Tryz.ntmps179
    go_wp2_with (first
     | (go_at_call 100;refine (HRD.o).mono ?_;rintro e w1 ⟨rfl,hg1⟩;rw [HE.o];have HG1:=hid hg1;clear hg1)
     | (go_at_call 151;refine (HK.o _).mono ?_;rintro e w2 ⟨rfl,hg2⟩;have HG2:=hid hg2;clear hg2))
    go_ret2;exact ⟨Qh8 (Yhd (by rw [HE0.o.2])) (Yhd (by rw [HE0.o.1])),HG1.o.gr (((Gr.refl _).alloc _).trans HG2.o) HS.o⟩
   ·have e0:v.plE a i kd=20:=by rw [HP.o,if_neg h1,if_neg h2]
    have HE0:Hid (v.plE a i kd=20/\v.plA a i kd=0):=⟨⟨e0,by rw [HA.o,if_neg (by rw [e0];decide)]⟩⟩;have d1:(kk==0)=false:=by simpa using h2
    clear h1 h2 hki HP HA e0;go_enter Tryz.func179,Tryz.ntmps179
    go_wp2_with (first
     | (go_at_call 100;refine (HRD.o).mono ?_;rintro e w1 ⟨rfl,hg1⟩;rw [HE.o];have HG1:=hid hg1;clear hg1)
     | (go_at_call 151;refine (HK.o _).mono ?_;rintro e w2 ⟨rfl,hg2⟩;have HG2:=hid hg2;clear hg2))
    go_ret2;exact ⟨Qh8 (Yhd (by rw [HE0.o.2])) (Yhd (by rw [HE0.o.1])),HG1.o.gr (((Gr.refl _).alloc _).trans HG2.o) HS.o⟩
 ·have e1:v.plE a i kd=v.rdE a:=by unfold Vm.plE;rw [if_pos hE]
  have HE0:Hid (v.plE a i kd=v.rdE a/\v.plA a i kd=0):=⟨⟨e1,by unfold Vm.plA;rw [if_neg (by rw [e1];exact hE)]⟩⟩;obtain ⟨y,hy⟩:∃ y,y=v.rdE a:=⟨_,rfl⟩;have d2:(y==0)=false:=by rw [hy];simpa using hE
  rw [<-hy] at HE0 HRD;clear hE hy e1 hS hI hP;unfold X79 at HRD;go_enter Tryz.func179,Tryz.ntmps179;go_wp2_with (go_at_call 100;refine (HRD.o).mono ?_;rintro e w1 ⟨rfl,hg1⟩;have HG1:=hid hg1;clear hg1);go_ret2;exact ⟨Qh8 (Yhd (by rw [HE0.o.2])) (Yhd (by rw [HE0.o.1])),HG1.o.gr ((Gr.refl _).alloc _) HS.o⟩
set_option maxHeartbeats 1600000 in
theorem YbF (hS:z.Ok) (hI:z.I v S w) (a i kd:Int) (hk:kd≠0) (hP:0<a->z.P a) (hQ:v.plE a i kd=0->z.P (a+1+i)):Calls Tryz.prog 166 #[z.v,.int .i64 a,.int .i64 i,.int .i64 kd] w fun e w'=>e=.returned (.tuple #[.int .u64 (v.gtV a i kd:Nat),.int .i64 (v.gtE a i kd)])/\z.E v S w w':=by
 have HS:=hid hS;have HRD:=hid (JJW hS hI a i kd hk hP);have n1:=hS.nl;have n2:=hS.ml;have n3:=hS.cl;unfold Sp.v at HRD ⊢;by_cases hE:v.plE a i kd=0
 ·have HE:Hid (v.gtE a i kd=v.ldE (a+1+i)/\v.gtV a i kd=v.ldV (a+1+i)):=⟨⟨if_neg (fun h=>h hE),if_neg (fun h=>h hE)⟩⟩;have HA:Hid (v.plA a i kd=a+1+i):=⟨if_pos hE⟩;rw [hE,HA.o] at HRD;have HPP:=hid (hQ hE);generalize a+1+i=at' at HE HRD HPP;clear hE hS hI hP hQ HA;go_enter Tryz.func166,Tryz.ntmps166
  go_wp2_with (first
   | (go_at_call 179;refine (HRD.o).mono ?_;rintro e w1 ⟨rfl,hg1⟩;have HG1:=hid hg1;clear hg1)
   | (refine (HS.o.ld HG1.o.2 at' HPP.o).mono ?_;rintro e w2 ⟨rfl,hg2⟩;have HG2:Hid (z.E v (plus S w) w1 w2):=⟨hg2⟩;clear hg2))
  go_ret2;exact ⟨Qh8 (congrArg (fun n:Nat=>Value.int .u64 (n:Int)) HE.o.2.symm) (Yhd HE.o.1.symm),HG1.o.trans HG2.o HS.o⟩
 ·have HE:Hid (v.gtE a i kd=v.plE a i kd/\v.gtV a i kd=0):=⟨⟨if_pos hE,if_pos hE⟩⟩;obtain ⟨y,hy⟩:∃ y,y=v.plE a i kd:=⟨_,rfl⟩;have d2:(y==0)=false:=by rw [hy];simpa using hE
  rw [<-hy] at HE HRD;clear hE hy hS hI hP hQ;go_enter Tryz.func166,Tryz.ntmps166;go_wp2_with (go_at_call 179;refine (HRD.o).mono ?_;rintro e w1 ⟨rfl,hg1⟩;have HG1:=hid hg1;clear hg1);go_ret2;exact ⟨Qh8 (congrArg (fun n:Nat=>Value.int .u64 (n:Int)) HE.o.2.symm) (Yhd HE.o.1.symm),HG1.o⟩
theorem Jk4 (hok:ZAR v) (a i kd:Int):v.gtV a i kd<18446744073709551616:=by
 unfold Vm.gtV
 split
 ·decide
 ·exact hok.ldV_lt _
set_option maxHeartbeats 1600000 in
theorem Zn7 (hS:z.Ok) (hI:z.I v S w) (a i:Int) (hP:0<a->z.P a) (hQ:v.plE a i 1=0->z.P (a+1+i)):Calls Tryz.prog 111 #[z.v,.int .i64 a,.int .i64 i] w fun e w'=>e=.returned (.tuple #[.int .i64 (v.ptV a i:Nat),.int .i64 (v.ptE a i)])/\z.E v S w w':=by
 have HS:=hid hS;have HRD:=hid (YbF hS hI a i 1 (by decide) hP hQ);have hx:=Jk4 (hS.ok hI) a i 1;unfold Sp.v at HRD ⊢;by_cases hE:v.gtE a i 1=0
 ·by_cases hb:2147483647<v.gtV a i 1
  ·have e1:v.ptE a i=25:=by unfold Vm.ptE;rw [if_neg (fun h=>h hE),if_pos hb]
   have HE:Hid (v.ptE a i=25/\v.ptV a i=0):=⟨⟨e1,by unfold Vm.ptV;rw [if_neg (by rw [e1];decide)]⟩⟩;rw [hE] at HRD;generalize v.gtV a i 1=x at HRD hb hx;have d0:decide (2147483647<(x:Int))=true:=decide_eq_true (by omega);clear hE hS hI e1 hP hQ;go_enter Tryz.func111,Tryz.ntmps111;go_wp2_with (go_at_call 166;refine (HRD.o).mono ?_;rintro e w1 ⟨rfl,hg1⟩;have HG1:=hid hg1;clear hg1);go_ret2;exact ⟨Qh8 (congrArg (fun n:Nat=>Value.int .i64 (n:Int)) HE.o.2.symm) (Yhd HE.o.1.symm),HG1.o⟩
  ·have e1:v.ptE a i=0:=by unfold Vm.ptE;rw [if_neg (fun h=>h hE),if_neg hb]
   have HE:Hid (v.ptE a i=0/\v.ptV a i=v.gtV a i 1):=⟨⟨e1,by unfold Vm.ptV;rw [if_pos e1]⟩⟩;rw [hE] at HRD;generalize v.gtV a i 1=x at HRD hb hx HE;have d0:decide (2147483647<(x:Int))=false:=decide_eq_false (by omega);clear hE hS hI e1 hP hQ;go_enter Tryz.func111,Tryz.ntmps111;go_wp2_with (go_at_call 166;refine (HRD.o).mono ?_;rintro e w1 ⟨rfl,hg1⟩;have HG1:=hid hg1;clear hg1);go_ret2;exact ⟨Qh8 (congrArg (fun n:Nat=>Value.int .i64 (n:Int)) HE.o.2.symm) (Yhd HE.o.1.symm),HG1.o⟩
 ·have e1:v.ptE a i=v.gtE a i 1:=by unfold Vm.ptE;rw [if_pos hE]
  have HE:Hid (v.ptE a i=v.gtE a i 1/\v.ptV a i=0):=⟨⟨e1,by unfold Vm.ptV;rw [if_neg (by rw [e1];exact hE)]⟩⟩;obtain ⟨y,hy⟩:∃ y,y=v.gtE a i 1:=⟨_,rfl⟩;have d2:(y==0)=false:=by rw [hy];simpa using hE
  rw [<-hy] at HE HRD;clear hE hy hS hI e1 hP hQ;go_enter Tryz.func111,Tryz.ntmps111;go_wp2_with (go_at_call 166;refine (HRD.o).mono ?_;rintro e w1 ⟨rfl,hg1⟩;have HG1:=hid hg1;clear hg1);go_ret2;exact ⟨Qh8 (congrArg (fun n:Nat=>Value.int .i64 (n:Int)) HE.o.2.symm) (Yhd HE.o.1.symm),HG1.o⟩
end
section
variable {w:World} {S:Nat->Prop} {q:Nat} {v:Vm}
theorem JNY (hV:QXZ w S q v) (a i kd:Int) (hk:kd≠0):Calls Tryz.prog 179 #[spV q,.int .i64 a,.int .i64 i,.int .i64 kd] w fun e w'=>e=.returned (.tuple #[.int .i64 (v.plA a i kd),.int .i64 (v.plE a i kd)])/\Gr w w':=
 (JJW (z:=spM q) (YGi q) hV a i kd hk (fun _=>trivial)).mono fun _ _ h=>⟨h.1,h.2.ro (fun h=>h)⟩
theorem ZZi (hV:QXZ w S q v) (a i:Int):Calls Tryz.prog 111 #[spV q,.int .i64 a,.int .i64 i] w fun e w'=>e=.returned (.tuple #[.int .i64 (v.ptV a i:Nat),.int .i64 (v.ptE a i)])/\Gr w w':=
 (Zn7 (z:=spM q) (YGi q) hV a i (fun _=>trivial) (fun _=>trivial)).mono fun _ _ h=>⟨h.1,h.2.ro (fun h=>h)⟩
end
end
end
end
section
section
open Go.RowKit Word
def J8X (v:Vm) (a b:Int):Prop:=v.rdE a=0/\∃ i:Nat,(i:Int)<(v.rdH a).p/\v.ptE a i=0/\v.ptV a i≠0/\b=(v.ptV a i:Nat)
def Rch (v:Vm) (rs:List Int) (a:Int):Prop:=∀ P:Int->Prop,(∀ r∈rs,r≠0->P r)->(∀ a b,P a->J8X v a b->P b)->P a
theorem Rch.root {v:Vm} {rs:List Int} {r:Int} (h:r∈rs) (h0:r≠0):Rch v rs r:=fun _ h1 _=>h1 r h h0
theorem Rch.step {v:Vm} {rs:List Int} {a b:Int} (h:Rch v rs a) (hp:J8X v a b):Rch v rs b:=fun P h1 h2=>h2 a b (h P h1 h2) hp
def Vm.osz (v:Vm) (a:Int):Int:=Z3o (v.rdH a)
structure Xd6 (v:Vm) (rs:List Int) (n:Nat):Prop where
 rd:∀ a,Rch v rs a->v.rdE a=0
 pt:∀ a,Rch v rs a->∀ i:Nat,(i:Int)<(v.rdH a).p->v.ptE a i=0
 rm:∀ a,Rch v rs a->a+v.osz a<=n
 dj:∀ a b,Rch v rs a->Rch v rs b->a=b\/a+v.osz a<=b\/b+v.osz b<=a
def Hs (L:List Ob) (a:Int):Prop:=∃ o∈L,(o.1:Int)=a
structure Mk (v:Vm) (rs:List Int) (n:Nat) (L:List Ob):Prop where
 good:Q4l n L
 ats:∀ o∈L,Rch v rs o.1/\v.rdE o.1=0/\(o.2:Int)=v.osz o.1
theorem Mk.nil (v:Vm) (rs:List Int) (n:Nat):Mk v rs n []:=⟨Q4l.nil n,fun _ h=>by cases h⟩
theorem QXB {v:Vm} {a:Int} (h:v.rdE a=0):0<a/\1<=v.osz a/\v.osz a<=256:=by
 obtain ⟨h0,-,p,f,k,e,hs⟩:=J7F h;refine ⟨h0,?_⟩;unfold Vm.osz;rw [e,show Z3o ⟨p,f,k⟩=1+(p:Int)+f+k from if_pos (JJj hs)];omega
theorem Mk.hs {v:Vm} {rs:List Int} {n:Nat} {L:List Ob} (h:Mk v rs n L) {a:Int} (ha:Hs L a):Rch v rs a/\v.rdE a=0:=by
 obtain ⟨o,ho,rfl⟩:=ha;exact ⟨(h.ats o ho).1,(h.ats o ho).2.1⟩
theorem QH9 {v:Vm} {n:Nat} {L:List Ob} {a b:Int} (hr:v.rdE a=0) (he:ZbB L n a (v.osz a)=0):Hs (VI0 L n a (v.osz a)) b↔b=a\/Hs L b:=by
 have h0:=(QXB hr).1;unfold VI0 Hs;rw [if_pos he];constructor
 ·rintro ⟨o,ho,rfl⟩;rcases Xz6.1 ho with rfl | ho
  ·left;show (a.toNat:Int)=a;omega
  ·exact .inr ⟨o,ho,rfl⟩
 ·rintro (rfl | ⟨o,ho,rfl⟩)
  ·exact ⟨_,Xz6.2 (.inl rfl),by show (b.toNat:Int)=b;omega⟩
  ·exact ⟨o,Xz6.2 (.inr ho),rfl⟩
theorem Mk.add {v:Vm} {rs:List Int} {n:Nat} {L:List Ob} (h:Mk v rs n L) {a:Int} (ha:Rch v rs a) (hr:v.rdE a=0) (he:ZbB L n a (v.osz a)=0):Mk v rs n (VI0 L n a (v.osz a)):=by
 refine ⟨V9U h.good _ _,fun o ho=>?_⟩;have hp:=QXB hr;unfold VI0 at ho;rw [if_pos he] at ho;rcases Xz6.1 ho with rfl | ho
 ·have e:((a.toNat:Nat):Int)=a:=by omega
  show Rch v rs (a.toNat:Nat)/\v.rdE (a.toNat:Nat)=0/\(((v.osz a).toNat:Nat):Int)=v.osz (a.toNat:Nat)
  rw [e];exact ⟨ha,hr,by omega⟩
 ·exact h.ats o ho
theorem ZoS {L:List Ob} {n:Nat} {s z:Int} (he:ZbB L n s z=0):(VI0 L n s z).length=L.length+1:=by
 unfold VI0;rw [if_pos he,YKx]
theorem Mk.fail {v:Vm} {rs:List Int} {n:Nat} {L:List Ob} (h:Mk v rs n L) {a:Int} (ha:Rch v rs a) (hn:¬ Hs L a) (he:ZbB L n a (v.osz a)≠0):¬ Xd6 v rs n:=fun hS=>by
 have hr:=hS.rd a ha;have hp:=QXB hr;have hm:=hS.rm a ha;unfold ZbB at he;rw [if_neg (by omega),if_neg (by omega)] at he
 split at he
 ·rename_i hc;obtain ⟨o,ho,h1,h2⟩:=Y01.1 hc;obtain ⟨q1,q2,q3⟩:=h.ats o ho;rcases hS.dj a o.1 ha q1 with e | e | e
  ·exact hn ⟨o,ho,e.symm⟩
  ·omega
  ·omega
 ·exact he rfl
def Cl (v:Vm) (L:List Ob) (a:Int):Prop:=∀ i:Nat,(i:Int)<(v.rdH a).p->v.ptE a i=0/\(v.ptV a i≠0->Hs L (v.ptV a i:Nat))
structure Zx6 (v:Vm) (rs:List Int) (n:Nat) (L:List Ob):Prop where
 mkd:Mk v rs n L
 all:∀ a,Rch v rs a->Hs L a
 cl:∀ o∈L,Cl v L o.1
theorem Zx6.of {v:Vm} {rs:List Int} {n:Nat} {L:List Ob} (h:Mk v rs n L) (hr:∀ r∈rs,r≠0->Hs L r) (hc:∀ o∈L,Cl v L o.1):Zx6 v rs n L:=by
 refine ⟨h,fun a ha=>ha (Hs L) hr ?_,hc⟩;rintro a b ⟨o,ho,rfl⟩ ⟨-,i,hi,h0,h1,rfl⟩;exact (hc o ho i hi).2 h1
theorem Zx6.sound {v:Vm} {rs:List Int} {n:Nat} {L:List Ob} (h:Zx6 v rs n L):Xd6 v rs n:=by
 refine ⟨fun a ha=>(h.mkd.hs (h.all a ha)).2,fun a ha i hi=>?_,fun a ha=>?_,fun a b ha hb=>?_⟩
 ·obtain ⟨o,ho,rfl⟩:=h.all a ha;exact (h.cl o ho i hi).1
 ·obtain ⟨o,ho,rfl⟩:=h.all a ha;have:=(h.mkd.good.sz o ho).2;have:=(h.mkd.ats o ho).2.2;omega
 ·obtain ⟨o,ho,rfl⟩:=h.all a ha;obtain ⟨q,hq,rfl⟩:=h.all b hb;have:=(h.mkd.ats o ho).2.2;have:=(h.mkd.ats q hq).2.2;rcases h.mkd.good.disj ho hq with e | e | e
  ·left;rw [e]
  ·right;left;omega
  ·right;right;omega
theorem YKj {L M:List Ob} (h1:L.Pairwise (fun o q=>o.1<q.1)) (h2:M.Pairwise (fun o q=>o.1<q.1)) (h:∀ x,x∈L↔x∈M):L=M:=by
 induction L generalizing M with
 | nil=>
  cases M with
  | nil=>rfl
  | cons m M=>exact absurd ((h m).2 (List.mem_cons_self ..)) (by simp)
 | cons l L ih=>
  cases M with
  | nil=>exact absurd ((h l).1 (List.mem_cons_self ..)) (by simp)
  | cons m M=>
   obtain ⟨a1,a2⟩:=List.pairwise_cons.1 h1;obtain ⟨b1,b2⟩:=List.pairwise_cons.1 h2
   have e:l=m:=by
    rcases List.mem_cons.1 ((h l).1 (List.mem_cons_self ..)) with e | hm
    ·exact e
    ·rcases List.mem_cons.1 ((h m).2 (List.mem_cons_self ..)) with e | hl
     ·exact e.symm
     ·have:=b1 l hm;have:=a1 m hl;omega
   subst e;congr 1;refine ih a2 b2 fun x=>⟨fun hx=>?_,fun hx=>?_⟩
   ·rcases List.mem_cons.1 ((h x).1 (List.mem_cons_of_mem _ hx)) with e | hm
    ·subst e;have:=a1 _ hx;omega
    ·exact hm
   ·rcases List.mem_cons.1 ((h x).2 (List.mem_cons_of_mem _ hx)) with e | hm
    ·subst e;have:=b1 _ hx;omega
    ·exact hm
theorem Q4l.lt {n:Nat} {L:List Ob} (h:Q4l n L):L.Pairwise (fun o q=>o.1<q.1):=by
 refine List.pairwise_iff_getElem.2 fun i j hi hj hij=>?_;have:=h.at hi hj hij;have:=(h.sz _ (List.getElem_mem hi)).1;omega
theorem Zx6.unique {v:Vm} {rs:List Int} {n:Nat} {L M:List Ob} (h:Zx6 v rs n L) (h':Zx6 v rs n M):L=M:=by
 have key:∀ {L M:List Ob},Zx6 v rs n L->Zx6 v rs n M->∀ x∈L,x∈M:=fun {L M} h h' x hx=>by
  obtain ⟨q1,q2,q3⟩:=h.mkd.ats x hx;obtain ⟨o,ho,e⟩:=h'.all _ q1;obtain ⟨p1,p2,p3⟩:=h'.mkd.ats o ho;rw [e] at p3;have e1:o=x:=Prod.ext (by omega) (by omega);rw [<-e1];exact ho
 exact YKj h.mkd.good.lt h'.mkd.good.lt fun x=>⟨key h h' x,key h' h x⟩
structure MkS where
 L:List Ob
 st:List Int
 lost:Bool
def MkS.push (s:MkS) (R:Nat) (L':List Ob) (a:Int):MkS:=if s.st.length<R then ⟨L',s.st++[a],s.lost⟩ else ⟨L',s.st,true⟩
structure QxY (s s':MkS):Prop where
 sub:∀ a,Hs s.L a->Hs s'.L a
 len:s.L.length<=s'.L.length
 los:s'.lost=true->s.lost=true\/s.L.length<s'.L.length
 mea:2*s.L.length+s'.st.length<=2*s'.L.length+s.st.length
theorem QxY.refl (s:MkS):QxY s s:=⟨fun _ h=>h,Nat.le_refl _,fun h=>.inl h,Nat.le_refl _⟩
theorem QxY.trans {s t u:MkS} (h:QxY s t) (k:QxY t u):QxY s u:=
 ⟨fun a ha=>k.sub a (h.sub a ha),Nat.le_trans h.len k.len,fun hl=>by
  rcases k.los hl with h1 | h1
  ·rcases h.los h1 with h2 | h2
   ·exact .inl h2
   ·exact .inr (Nat.lt_of_lt_of_le h2 k.len)
  ·exact .inr (Nat.lt_of_le_of_lt h.len h1),by have:=h.mea;have:=k.mea;omega⟩
theorem Cl.mono {v:Vm} {L M:List Ob} (hs:∀ a,Hs L a->Hs M a) {a:Int} (h:Cl v L a):Cl v M a:=fun i hi=>⟨(h i hi).1,fun h0=>hs _ ((h i hi).2 h0)⟩
structure YK6 (v:Vm) (rs:List Int) (n R:Nat) (X:Int->Prop) (s:MkS):Prop where
 mkd:Mk v rs n s.L
 st:∀ a∈s.st,Hs s.L a
 r:s.st.length<=R
 cl:∀ a,Hs s.L a->Cl v s.L a\/a∈s.st\/s.lost=true\/X a
theorem YK6.weak {v:Vm} {rs:List Int} {n R:Nat} {X Y:Int->Prop} {s:MkS} (h:YK6 v rs n R X s) (hX:∀ a,X a->Y a):YK6 v rs n R Y s:=
 ⟨h.mkd,h.st,h.r,fun a ha=>(h.cl a ha).imp id (Or.imp id (Or.imp id (hX a)))⟩
theorem YK6.push {v:Vm} {rs:List Int} {n R:Nat} {X:Int->Prop} {s:MkS} (h:YK6 v rs n R X s) {a:Int} (ha:Rch v rs a) (hr:v.rdE a=0) (he:ZbB s.L n a (v.osz a)=0):
  YK6 v rs n R X (s.push R (VI0 s.L n a (v.osz a)) a)/\QxY s (s.push R (VI0 s.L n a (v.osz a)) a)/\Hs (s.push R (VI0 s.L n a (v.osz a)) a).L a:=by
 have hm:=h.mkd.add ha hr he;have hh:=fun b=>QH9 (b:=b) hr he;have hl:=ZoS he;have hsub:∀ b,Hs s.L b->Hs (VI0 s.L n a (v.osz a)) b:=fun b hb=>(hh b).2 (.inr hb);unfold MkS.push
 split
 ·rename_i hR;refine ⟨⟨hm,fun b hb=>?_,by show (s.st++[a]).length<=R;simp;omega,fun b hb=>?_⟩,⟨hsub,by show _<=(VI0 _ _ _ _).length;omega,fun h=>.inl h,by show 2*_+(s.st++[a]).length<=2*(VI0 _ _ _ _).length+_;simp;omega⟩,(hh a).2 (.inl rfl)⟩
  ·rcases List.mem_append.1 hb with hb | hb
   ·exact hsub b (h.st b hb)
   ·rw [List.mem_singleton.1 hb];exact (hh a).2 (.inl rfl)
  ·rcases (hh b).1 hb with rfl | hb
   ·exact .inr (.inl (List.mem_append.2 (.inr (List.mem_singleton.2 rfl))))
   ·rcases h.cl b hb with h1 | h1 | h1 | h1
    ·exact .inl (h1.mono hsub)
    ·exact .inr (.inl (List.mem_append.2 (.inl h1)))
    ·exact .inr (.inr (.inl h1))
    ·exact .inr (.inr (.inr h1))
 ·refine ⟨⟨hm,fun b hb=>hsub b (h.st b hb),h.r,fun b _=>.inr (.inr (.inl rfl))⟩,⟨hsub,by show _<=(VI0 _ _ _ _).length;omega,fun _=>.inr (by show _<(VI0 _ _ _ _).length;omega),by show 2*_+s.st.length<=2*(VI0 _ _ _ _).length+_;omega⟩,(hh a).2 (.inl rfl)⟩
theorem YK6.pop {v:Vm} {rs:List Int} {n R:Nat} {X:Int->Prop} {L:List Ob} {st:List Int} {lost:Bool} {a:Int} (h:YK6 v rs n R X ⟨L,st++[a],lost⟩):YK6 v rs n R (fun b=>X b\/b=a) ⟨L,st,lost⟩/\Hs L a:=by
 refine ⟨⟨h.mkd,fun b hb=>h.st b (List.mem_append.2 (.inl hb)),by have:=h.r;simp at this;show st.length<=R;omega,fun b hb=>?_⟩,h.st a (List.mem_append.2 (.inr (List.mem_singleton.2 rfl)))⟩;rcases h.cl b hb with h1 | h1 | h1 | h1
 ·exact .inl h1
 ·rcases List.mem_append.1 h1 with h2 | h2
  ·exact .inr (.inl h2)
  ·exact .inr (.inr (.inr (.inr (List.mem_singleton.1 h2))))
 ·exact .inr (.inr (.inl h1))
 ·exact .inr (.inr (.inr (.inl h1)))
theorem YK6.done {v:Vm} {rs:List Int} {n R:Nat} {X Y:Int->Prop} {s:MkS} {a:Int} (h:YK6 v rs n R X s) (hc:Cl v s.L a) (hX:∀ b,X b->Y b\/b=a):YK6 v rs n R Y s:=
 ⟨h.mkd,h.st,h.r,fun b hb=>by
  rcases h.cl b hb with h1 | h1 | h1 | h1
  ·exact .inl h1
  ·exact .inr (.inl h1)
  ·exact .inr (.inr (.inl h1))
  ·rcases hX b h1 with h2 | rfl
   ·exact .inr (.inr (.inr h2))
   ·exact .inl hc⟩
def ClN (v:Vm) (L:List Ob) (a:Int) (k:Nat):Prop:=∀ i:Nat,i<k->v.ptE a i=0/\(v.ptV a i≠0->Hs L (v.ptV a i:Nat))
theorem ClN.mono {v:Vm} {L M:List Ob} (hs:∀ a,Hs L a->Hs M a) {a:Int} {k:Nat} (h:ClN v L a k):ClN v M a k:=fun i hi=>⟨(h i hi).1,fun h0=>hs _ ((h i hi).2 h0)⟩
theorem ClN.succ {v:Vm} {L:List Ob} {a:Int} {k:Nat} (h:ClN v L a k) (h0:v.ptE a k=0) (h1:v.ptV a k≠0->Hs L (v.ptV a k:Nat)):ClN v L a (k+1):=fun i hi=>by
 rcases Nat.lt_or_ge i k with h2 | h2
 ·exact h i h2
 ·have:i=k:=by omega
  subst this;exact ⟨h0,h1⟩
theorem ClN.cl {v:Vm} {L:List Ob} {a:Int} {k:Nat} (h:ClN v L a k) (hk:(v.rdH a).p<=k):Cl v L a:=fun i hi=>h i (by omega)
theorem YK6.marks {v:Vm} {rs:List Int} {n R:Nat} {X:Int->Prop} {s:MkS} (h:YK6 v rs n R X s) (hX:∀ a,¬ X a) (hst:s.st=[]) (hlost:s.lost=false) (hr:∀ r∈rs,r≠0->Hs s.L r):Zx6 v rs n s.L:=by
 refine Zx6.of h.mkd hr fun o ho=>?_;rcases h.cl o.1 ⟨o,ho,rfl⟩ with h1 | h1 | h1 | h1
 ·exact h1
 ·rw [hst] at h1;cases h1
 ·rw [hlost] at h1;cases h1
 ·exact absurd h1 (hX _)
theorem ZFY {v:Vm} {rs:List Int} {n:Nat} {a:Int} (ha:Rch v rs a) (h:v.rdE a≠0):¬ Xd6 v rs n:=fun hS=>h (hS.rd a ha)
theorem J7J {v:Vm} {rs:List Int} {n:Nat} {a:Int} (ha:Rch v rs a) {i:Nat} (hi:(i:Int)<(v.rdH a).p) (h:v.ptE a i≠0):¬ Xd6 v rs n:=fun hS=>h (hS.pt a ha i hi)
end
end
section
section
section
open Go.RowKit Word
def Xmc (v:Vm):List Int->Int
 | []=>0
 | a :: r=>v.osz a+Xmc v r
def YQE (v:Vm):List Int->Int->Int->Int
 | [],_,_=>0
 | b :: r,t,a=>if b=a then t else YQE v r (t+v.osz b) a
theorem QCw (v:Vm) (a:Int):0<=v.osz a:=by
 unfold Vm.osz Z3o
 split
 ·rename_i h;obtain ⟨p,f,k,e,hs⟩:=XZe h;rw [e]
  show (0:Int)<=1+(p:Int)+f+k
  omega
 ·exact Int.le_refl 0
theorem J7B (v:Vm) (O P:List Int):Xmc v (O++P)=Xmc v O+Xmc v P:=by
 induction O with
 | nil=>simp [Xmc]
 | cons a r ih=>simp only [List.cons_append,Xmc,ih];omega
theorem YB0 (v:Vm) (O:List Int):0<=Xmc v O:=by
 induction O with
 | nil=>simp [Xmc]
 | cons a r ih=>have:=QCw v a;simp only [Xmc];omega
theorem VZm (v:Vm) {O:List Int} {j:Nat} (hj:j<O.length):Xmc v (O.take (j+1))=Xmc v (O.take j)+v.osz O[j]:=by
 rw [List.take_add_one,List.getElem?_eq_getElem hj,J7B];simp [Xmc]
theorem XCA (v:Vm) (O:List Int) {i j:Nat} (h:i<=j):Xmc v (O.take i)<=Xmc v (O.take j):=by
 have e:O.take j=O.take i++(O.take j).drop i:=by
  conv=>lhs;rw [<-List.take_append_drop i (O.take j)]
  rw [List.take_take,Nat.min_eq_left h]
 rw [e,J7B];have:=YB0 v ((O.take j).drop i);omega
theorem ZWV (v:Vm) (O:List Int) (j:Nat):Xmc v (O.take j)<=Xmc v O:=by
 have:=YB0 v (O.drop j);have e:=J7B v (O.take j) (O.drop j);rw [List.take_append_drop] at e;omega
theorem YAF (v:Vm) {O:List Int} (P:List Int) (t:Int) {a:Int} (h:a∈O):YQE v (O++P) t a=YQE v O t a:=by
 induction O generalizing t with
 | nil=>cases h
 | cons b r ih=>
  simp only [List.cons_append,YQE]
  split
  ·rfl
  ·rename_i hb;exact ih _ ((List.mem_cons.1 h).resolve_left (fun e=>hb e.symm))
theorem QDm (v:Vm) {O:List Int} (P:List Int) (t:Int) {a:Int} (h:a ∉ O):YQE v (O++P) t a=YQE v P (t+Xmc v O) a:=by
 induction O generalizing t with
 | nil=>simp [Xmc]
 | cons b r ih=>
  have hb:¬ b=a:=fun e=>h (by rw [e];exact List.mem_cons_self ..);simp only [List.cons_append,YQE,Xmc,if_neg hb];rw [ih _ (fun h'=>h (List.mem_cons_of_mem _ h'))];congr 1;omega
theorem YPv (v:Vm) {O:List Int} (t:Int) {a:Int} (h:a ∉ O):YQE v O t a=0:=by
 have:=QDm v [] t h;rw [List.append_nil] at this;rw [this];rfl
theorem XjJ (v:Vm) {O:List Int} (hn:O.Nodup) (t:Int) {j:Nat} (hj:j<O.length):YQE v O t O[j]=t+Xmc v (O.take j):=by
 have e:O=O.take j++O[j] :: O.drop (j+1):=by
  conv=>lhs;rw [<-List.take_append_drop j O,List.drop_eq_getElem_cons hj]
 have hnot:O[j] ∉ O.take j:=by
  intro hm;obtain ⟨i,hi,he⟩:=List.getElem_of_mem hm;rw [List.length_take] at hi;rw [List.getElem_take] at he;have:=(List.getElem_inj hn).1 he;omega
 have h:=QDm v (O[j] :: O.drop (j+1)) t hnot;refine (congrArg (fun X=>YQE v X t O[j]) e).trans (h.trans ?_);rw [YQE,if_pos rfl]
theorem VEW (v:Vm) {O:List Int} (t:Int) {a:Int} (h:a∈O):t<=YQE v O t a/\YQE v O t a+v.osz a<=t+Xmc v O:=by
 induction O generalizing t with
 | nil=>cases h
 | cons b r ih=>
  have h1:=YB0 v r;have h2:=QCw v b;simp only [YQE,Xmc]
  split
  ·rename_i e;subst e;omega
  ·rename_i hb;have:=ih (t+v.osz b) ((List.mem_cons.1 h).resolve_left (fun e=>hb e.symm));omega
def Yfl (O:List Int) (a:Int):List Int:=if a=0\/a∈O then O else O++[a]
def X4e (O l:List Int):List Int:=l.foldl Yfl O
theorem XTn (O:List Int) (a:Int):∃ X,Yfl O a=O++X:=by
 unfold Yfl
 split
 ·exact ⟨[],(List.append_nil _).symm⟩
 ·exact ⟨[a],rfl⟩
theorem XlQ (O l:List Int):∃ X,X4e O l=O++X:=by
 induction l generalizing O with
 | nil=>exact ⟨[],(List.append_nil _).symm⟩
 | cons a r ih=>
  obtain ⟨X,hX⟩:=XTn O a;obtain ⟨Y,hY⟩:=ih (Yfl O a);exact ⟨X++Y,by show X4e (Yfl O a) r=_;rw [hY,hX,List.append_assoc]⟩
theorem QwE (O l:List Int) (a:Int):X4e O (l++[a])=Yfl (X4e O l) a:=by unfold X4e;rw [List.foldl_append];rfl
theorem Q9S {O:List Int} {a b:Int}:b∈Yfl O a↔b∈O\/(b=a/\a≠0):=by
 unfold Yfl
 split
 ·rename_i h;constructor
  ·exact .inl
  ·rintro (h' | ⟨rfl,h0⟩)
   ·exact h'
   ·exact h.resolve_left h0
 ·rename_i h;rw [List.mem_append,List.mem_singleton];constructor
  ·rintro (h' | rfl)
   ·exact .inl h'
   ·exact .inr ⟨rfl,fun h0=>h (.inl h0)⟩
  ·rintro (h' | ⟨rfl,-⟩)
   ·exact .inl h'
   ·exact .inr rfl
theorem Z9b {O l:List Int} {b:Int}:b∈X4e O l↔b∈O\/(b∈l/\b≠0):=by
 induction l generalizing O with
 | nil=>simp [X4e]
 | cons a r ih=>
  show b∈X4e (Yfl O a) r↔_
  rw [ih,Q9S,List.mem_cons];constructor
  ·rintro ((h | ⟨rfl,h⟩) | ⟨h,h0⟩)
   ·exact .inl h
   ·exact .inr ⟨.inl rfl,h⟩
   ·exact .inr ⟨.inr h,h0⟩
  ·rintro (h | ⟨rfl | h,h0⟩)
   ·exact .inl (.inl h)
   ·exact .inl (.inr ⟨rfl,h0⟩)
   ·exact .inr ⟨h,h0⟩
theorem QE5 {O:List Int} (h:O.Nodup) (a:Int):(Yfl O a).Nodup:=by
 unfold Yfl
 split
 ·exact h
 ·rename_i hn;rw [List.nodup_append];refine ⟨h,by simp,fun x hx y hy e=>?_⟩;rw [List.mem_singleton] at hy;exact hn (.inr (by rw [<-hy,<-e];exact hx))
theorem QBB {O:List Int} (h:O.Nodup) (l:List Int):(X4e O l).Nodup:=by
 induction l generalizing O with
 | nil=>exact h
 | cons a r ih=>exact ih (QE5 h a)
def X7I (v:Vm) (a:Int):List Int:=(List.range (v.rdH a).p.toNat).map fun i:Nat=>(v.ldV (a+1+i):Int)
theorem JjJ (v:Vm) (a:Int):(X7I v a).length=(v.rdH a).p.toNat:=by unfold X7I;simp
theorem YxN (v:Vm) (a:Int) {i:Nat} (hi:i<(X7I v a).length):(X7I v a)[i]=(v.ldV (a+1+i):Int):=by simp only [X7I,List.getElem_map,List.getElem_range]
def QnE (v:Vm) (rs:List Int):Nat->List Int
 | 0=>X4e [] rs
 | k+1=>if k<(QnE v rs k).length then X4e (QnE v rs k) (X7I v ((QnE v rs k).getD k 0)) else QnE v rs k
theorem Zh5 (v:Vm) (rs:List Int) (k:Nat):(QnE v rs k).Nodup:=by
 induction k with
 | zero=>exact QBB List.nodup_nil _
 | succ k ih=>unfold QnE;split;exact QBB ih _;exact ih
structure VqE (v v':Vm):Prop where
 n:v'.n=v.n
 pt:v'.pt=v.pt
 pg:v'.pl.pg=v.pl.pg
 rm:v'.pl.rm=v.pl.rm
theorem VqE.refl (v:Vm):VqE v v:=⟨rfl,rfl,rfl,rfl⟩
theorem VqE.trans {a b c:Vm} (h:VqE a b) (k:VqE b c):VqE a c:=⟨k.n.trans h.n,k.pt.trans h.pt,k.pg.trans h.pg,k.rm.trans h.rm⟩
theorem VqE.st (v:Vm) (a:Int) (x:Nat):VqE v (v.st a x):=by
 unfold Vm.st
 split
 ·exact ⟨rfl,rfl,rfl,rfl⟩
 ·exact VqE.refl v
theorem VqE.ldE {v v':Vm} (h:VqE v v') (a:Int):v'.ldE a=v.ldE a:=by unfold Vm.ldE;rw [h.n,h.pt,h.pg]
def cpV (u:Vm) (a t:Int):Nat->Vm
 | 0=>u
 | m+1=>(cpV u a t m).st (t+m) (u.ldV (a+m))
theorem Vxj (u:Vm) (a t:Int) (n:Nat):VqE u (cpV u a t n):=by
 induction n with
 | zero=>exact VqE.refl u
 | succ m ih=>exact ih.trans (VqE.st _ _ _)
theorem JdP {u:Vm} (h:ZAR u) (a t:Int) (n:Nat):ZAR (cpV u a t n):=by
 induction n with
 | zero=>exact h
 | succ m ih=>exact ih.st _ (h.ldV_lt _)
theorem Yrt {u:Vm} (h:ZAR u) (a t:Int) {n:Nat} (hm:∀ m:Nat,m<n->u.ldE (t+m)=0) (b:Int):(cpV u a t n).ldV b=if t<=b/\b<t+n then u.ldV (a+(b-t)) else u.ldV b:=by
 induction n with
 | zero=>rw [if_neg (by omega)];rfl
 | succ m ih=>
  show ((cpV u a t m).st (t+m) (u.ldV (a+m))).ldV b=_
  rw [(JdP h a t m).st_ldV _ (by rw [(Vxj u a t m).ldE];exact hm m (Nat.lt_succ_self m)),ih (fun j hj=>hm j (by omega))];by_cases h1:t+(m:Int)=b
  ·rw [if_pos h1,if_pos (by omega)];congr 2;omega
  ·rw [if_neg h1];by_cases h2:t<=b/\b<t+m
   ·rw [if_pos h2,if_pos (by omega)]
   ·rw [if_neg h2,if_neg (by omega)]
structure ZrG (v:Vm) (rs:List Int) (L:List Ob) (to:Nat):Prop where
 ok:ZAR v
 mks:Zx6 v rs v.n L
 pos:0<to
 ap:∀ o∈L,o.1+o.2<=to\/to+Qd4 L<=o.1
 map:∀ a:Nat,to<=a->a<to+Qd4 L->v.ldE a=0
 top:to+Qd4 L<=v.n
def Trn (v:Vm) (O:List Int) (k i j m:Nat):Prop:=1<=m/\((j<k/\(m:Int)<=(v.rdH (O.getD j 0)).p)\/(j=k/\m<=i))
structure Cpd (v v':Vm) (to:Nat) (O:List Int) (k i:Nat):Prop where
 ok:ZAR v'
 sm:VqE v v'
 o:∀ a:Int,¬ (to<=a/\a<to+Xmc v O)->v'.ldV a=v.ldV a
 raw:∀ j (hj:j<O.length) (m:Nat),(m:Int)<v.osz O[j]->¬ Trn v O k i j m->v'.ldV (to+Xmc v (O.take j)+m)=v.ldV (O[j]+m)
 trn:∀ j (hj:j<O.length) (m:Nat),(m:Int)<v.osz O[j]->Trn v O k i j m->(v'.ldV (to+Xmc v (O.take j)+m):Int)=YQE v O to (v.ldV (O[j]+m))
theorem Cpd.nil {v:Vm} (h:ZAR v) (to:Nat):Cpd v v to [] 0 0:=⟨h,VqE.refl v,fun _ _=>rfl,fun _ h=>absurd h (Nat.not_lt_zero _),fun _ h=>absurd h (Nat.not_lt_zero _)⟩
theorem VRK {v:Vm} {a:Int} (h:v.rdE a=0):0<=(v.rdH a).p/\(v.rdH a).p<v.osz a:=by
 obtain ⟨-,-,p,f,k,e,hs⟩:=J7F h;unfold Vm.osz;rw [e,show Z3o ⟨p,f,k⟩=1+(p:Int)+f+k from if_pos (JJj hs)]
 show (0:Int)<=(p:Int)/\(p:Int)<_
 omega
theorem XaN {v:Vm} {L:List Ob} (hz:∀ o∈L,(o.2:Int)=v.osz o.1) {O:List Int} (hn:O.Nodup) (h:∀ a∈O,Hs L a):Xmc v O<=Qd4 L:=by
 induction L generalizing O with
 | nil=>
  cases O with
  | nil=>exact Int.le_refl _
  | cons a r=>obtain ⟨o,ho,-⟩:=h a (List.mem_cons_self ..);cases ho
 | cons o r ih=>
  have h1:=ih (fun q hq=>hz q (List.mem_cons_of_mem _ hq)) (hn.erase (o.1:Int)) (fun a ha=>by
   have hm:=(hn.mem_erase_iff).1 ha;obtain ⟨q,hq,e⟩:=h a hm.2;rcases List.mem_cons.1 hq with rfl | hq
   ·exact absurd e.symm hm.1
   ·exact ⟨q,hq,e⟩)
  have h2:Xmc v O<=Xmc v (O.erase (o.1:Int))+v.osz o.1:=by
   clear ih h1 h hn
   induction O with
   | nil=>have:=QCw v o.1;simp [Xmc];omega
   | cons a s ih=>
    rw [List.erase_cons];by_cases e:a=(o.1:Int)
    ·rw [if_pos (by simpa using e),e];simp only [Xmc];omega
    ·rw [if_neg (by simpa using e)];simp only [Xmc];omega
  have h3:=hz o (List.mem_cons_self ..);simp only [Qd4];omega
theorem VJ9 {v:Vm} {L:List Ob} (hz:∀ o∈L,(o.2:Int)=v.osz o.1) (hp:L.Pairwise (fun o q=>o.1<q.1)) {O:List Int} (h:∀ o∈L,(o.1:Int)∈O):(Qd4 L:Int)<=Xmc v O:=by
 induction L generalizing O with
 | nil=>exact YB0 v O
 | cons o r ih=>
  have h1:=ih (O:=O.erase (o.1:Int)) (fun q hq=>hz q (List.mem_cons_of_mem _ hq)) (List.pairwise_cons.1 hp).2 (fun q hq=>by
   have:=(List.pairwise_cons.1 hp).1 q hq
   exact (List.mem_erase_of_ne (by omega)).2 (h q (List.mem_cons_of_mem _ hq)))
  have h2:Xmc v (O.erase (o.1:Int))+v.osz o.1<=Xmc v O:=by
   have hm:=h o (List.mem_cons_self ..);clear ih h1 h hp
   induction O with
   | nil=>cases hm
   | cons a s ih=>
    rw [List.erase_cons];by_cases e:a=(o.1:Int)
    ·rw [if_pos (by simpa using e),e];simp only [Xmc];omega
    ·have:=ih ((List.mem_cons.1 hm).resolve_left (fun e'=>e e'.symm));rw [if_neg (by simpa using e)];simp only [Xmc];omega
  have h3:=hz o (List.mem_cons_self ..);simp only [Qd4];omega
end
end
section
section
open Go.RowKit Word
theorem ZbX {v:Vm} {a i:Int} (h:v.ptE a i=0):v.ptV a i=v.ldV (a+1+i)/\v.ldV (a+1+i)<=2147483647/\v.ldE (a+1+i)=0/\v.plE a i 1=0:=by
 have e1:v.ptV a i=v.gtV a i 1:=if_pos h;unfold Vm.ptE at h
 split at h
 ·rename_i hg;exact absurd h hg
 ·rename_i hg;have hg:=Decidable.not_not.1 hg
  split at h
  ·cases h
  ·rename_i hm;unfold Vm.gtE at hg
   split at hg
   ·rename_i hp;exact absurd hg hp
   ·rename_i hp;have e2:v.gtV a i 1=v.ldV (a+1+i):=if_neg hp;exact ⟨e1.trans e2,by omega,hg,Decidable.not_not.1 hp⟩
theorem VaX {h:Hdr} {i:Int} (h0:0<=i) (h1:i<h.p) (h2:h.p<Z3o h):Yoq h i=1:=by
 unfold Yoq;rw [if_pos (by omega),if_pos h1]
theorem Xm6 {v:Vm} {a:Int} {i:Nat} (hr:v.rdE a=0) (hi:(i:Int)<(v.rdH a).p) (hl:v.ldE (a+1+i)=0) (hv:v.ldV (a+1+i)<=2147483647):v.ptE a i=0/\v.plE a i 1=0:=by
 have hk:v.plE a i 1=0:=by
  unfold Vm.plE;rw [if_neg (by omega),if_pos (VaX (by omega) hi (VRK hr).2)]
 refine ⟨?_,hk⟩;have hg:v.gtE a i 1=0:=by unfold Vm.gtE;rw [if_neg (by omega)];exact hl
 unfold Vm.ptE;rw [if_neg (by omega)];have e2:v.gtV a i 1=v.ldV (a+1+i):=if_neg (by omega);rw [e2,if_neg (by omega)]
def XKC (v:Vm) (L:List Ob):Prop:=∀ o∈L,∀ m:Nat,m<o.2->v.ldE (o.1+m)=0
section
variable {v v':Vm} {rs:List Int} {L:List Ob} {to:Nat} {O:List Int} {k i:Nat}
theorem ZrG.ob (c:ZrG v rs L to) {a:Int} (ha:Rch v rs a):∃ o∈L,(o.1:Int)=a/\(o.2:Int)=v.osz a:=by
 obtain ⟨o,ho,rfl⟩:=c.mks.all a ha;exact ⟨o,ho,rfl,(c.mks.mkd.ats o ho).2.2⟩
theorem ZrG.sum (c:ZrG v rs L to) (hn:O.Nodup) (hR:∀ a∈O,Rch v rs a):Xmc v O<=Qd4 L:=
 XaN (fun o ho=>(c.mks.mkd.ats o ho).2.2) hn (fun a ha=>c.mks.all a (hR a ha))
theorem ZrG.same (c:ZrG v rs L to) (hf:XKC v L) (hn:O.Nodup) (hR:∀ a∈O,Rch v rs a) (h:Cpd v v' to O k i) {a:Int} (ha:Rch v rs a):
  0<a/\v'.rdE a=0/\v'.rdH a=v.rdH a/\∀ m:Nat,(m:Int)<v.osz a->v'.ldE (a+m)=0/\v'.ldV (a+m)=v.ldV (a+m):=by
 obtain ⟨o,ho,rfl,hz⟩:=c.ob ha;have hs:=c.sum hn hR;have hap:=c.ap o ho;have hrd:=c.mks.sound.rd _ ha;have hp:=QXB hrd
 have hm:∀ m:Nat,(m:Int)<v.osz o.1->v'.ldE (o.1+m)=0/\v'.ldV (o.1+m)=v.ldV (o.1+m):=fun m hm=>
  ⟨by rw [h.sm.ldE];exact hf o ho m (by omega),h.o _ (by omega)⟩
 have h0:=hm 0 (by omega);rw [show (o.1:Int)+(0:Nat)=o.1 by omega] at h0;refine ⟨hp.1,?_,?_,hm⟩
 ·unfold Vm.rdE at hrd ⊢;rw [h0.2,h.sm.ldE];exact hrd
 ·unfold Vm.rdH;rw [h0.2,h.sm.ldE]
theorem Trn.ext {X:List Int} {j m:Nat} (hj:j<O.length):Trn v (O++X) k i j m↔Trn v O k i j m:=by
 unfold Trn;rw [List.getD_eq_getElem?_getD,List.getD_eq_getElem?_getD,List.getElem?_append_left hj]
theorem JxM (v:Vm) {O:List Int} {j j' m m':Nat} (hj:j<O.length) (hj':j' < O.length) (hm:(m:Int)<v.osz O[j]) (hm':(m':Int)<v.osz O[j']) (h:Xmc v (O.take j)+m=Xmc v (O.take j')+m'):j=j'/\m=m':=by
 rcases Nat.lt_trichotomy j j' with h1 | rfl | h1
 ·have e:=VZm v hj;have:=XCA v O (i:=j+1) (j:=j') (by omega);omega
 ·exact ⟨rfl,by omega⟩
 ·have e:=VZm v hj';have:=XCA v O (i:=j' + 1) (j:=j) (by omega);omega
theorem place_lt (v:Vm) {O:List Int} {j m:Nat} (hj:j<O.length) (hm:(m:Int)<v.osz O[j]):Xmc v (O.take j)+m<Xmc v O:=by
 have e:=VZm v hj;have:=ZWV v O (j+1);omega
def XaG (v:Vm) (O:List Int) (k i:Nat):Prop:=∀ j (hj:j<O.length) (m:Nat),(m:Int)<v.osz O[j]->Trn v O k i j m->(v.ldV (O[j]+m):Int)=0\/(v.ldV (O[j]+m):Int)∈O
theorem Vqd (v:Vm) {O:List Int} (X:List Int) (t:Int) {a:Int} (h0:(0:Int) ∉ O++X) (h:a=0\/a∈O):YQE v (O++X) t a=YQE v O t a:=by
 rcases h with rfl | h
 ·rw [YPv v t h0,YPv v t (fun h=>h0 (List.mem_append_left _ h))]
 ·exact YAF v X t h
theorem Cpd.take (c:ZrG v rs L to) (hf:XKC v L) (hn:O.Nodup) (hR:∀ a∈O,Rch v rs a) (h:Cpd v v' to O k i) (hK:XaG v O k i) (hk:k<O.length\/(k=O.length/\i=0)) {a:Int} (ha:Rch v rs a) (hna:a ∉ O) (z:Nat) (hz:(z:Int)=v.osz a):
  (∀ m:Nat,m<z->v'.ldE (to+Xmc v O+m)=0)/\(to:Int)+Xmc v O+z<=v.n/\Cpd v (cpV v' a (to+Xmc v O) z) to (O++[a]) k i/\XaG v (O++[a]) k i:=by
 have hn':(O++[a]).Nodup:=by
  rw [List.nodup_append];exact ⟨hn,by simp,fun x hx y hy e=>hna (by rw [List.mem_singleton] at hy;rw [<-hy,<-e];exact hx)⟩
 have hR':∀ b∈O++[a],Rch v rs b:=fun b hb=>by
  rcases List.mem_append.1 hb with hb | hb
  ·exact hR b hb
  ·rw [List.mem_singleton] at hb;rw [hb];exact ha
 have hs:=c.sum hn' hR';have h0s:=YB0 v O;have hsa:Xmc v (O++[a])=Xmc v O+v.osz a:=by rw [J7B];simp [Xmc]
 have hmp:∀ m:Nat,m<z->v'.ldE (to+Xmc v O+m)=0:=fun m hm=>by
  rw [h.sm.ldE];have:=c.map (to+(Xmc v O).toNat+m) (by omega) (by omega);rw [<-this];congr 1;omega
 have htop:=c.top;have hsm:=(c.same hf hn hR h ha).2.2.2
 have h00:(0:Int) ∉ O++[a]:=fun hm=>by
  have:=(QXB (c.mks.sound.rd _ (hR' 0 hm))).1;omega
 have hcp:=Yrt h.ok a (to+Xmc v O) hmp;refine ⟨hmp,by omega,⟨JdP h.ok _ _ _,h.sm.trans (Vxj _ _ _ _),fun b hb=>?_,fun j hj m hm hT=>?_,fun j hj m hm hT=>?_⟩,fun j hj m hm hT=>?_⟩
 ·rw [hcp,if_neg (by omega)];exact h.o b (by omega)
 ·rw [List.length_append,List.length_singleton] at hj;rcases Nat.lt_or_ge j O.length with hjl | hjl
  ·simp only [List.getElem_append_left hjl] at hm ⊢;have hl:=place_lt v hjl hm;have e1:(O++[a]).take j=O.take j:=by rw [List.take_append_of_le_length (by omega)]
   rw [e1,hcp,if_neg (by omega)];exact h.raw j hjl m hm (fun ht=>hT ((Trn.ext hjl).2 ht))
  ·obtain rfl:j=O.length:=by omega
   have e2:(O++[a])[O.length]'(by simp)=a:=by simp
   rw [e2] at hm;have e1:(O++[a]).take O.length=O:=by rw [List.take_append_of_le_length (Nat.le_refl _),List.take_length]
   rw [e1,hcp,if_pos (by omega),e2,show a+((to:Int)+Xmc v O+m-(to+Xmc v O))=a+m by omega];exact (hsm m hm).2
 ·rw [List.length_append,List.length_singleton] at hj;rcases Nat.lt_or_ge j O.length with hjl | hjl
  ·simp only [List.getElem_append_left hjl] at hm ⊢;have hl:=place_lt v hjl hm;have e1:(O++[a]).take j=O.take j:=by rw [List.take_append_of_le_length (by omega)]
   have ht:=(Trn.ext (i:=i) (m:=m) hjl).1 hT;rw [e1,hcp,if_neg (by omega),h.trn j hjl m hm ht];exact (Vqd v [a] to h00 (hK j hjl m hm ht)).symm
  ·obtain rfl:j=O.length:=by omega
   obtain ⟨h1,h2 | h2⟩:=hT <;> omega
 ·rw [List.length_append,List.length_singleton] at hj;rcases Nat.lt_or_ge j O.length with hjl | hjl
  ·simp only [List.getElem_append_left hjl] at hm ⊢;exact (hK j hjl m hm ((Trn.ext hjl).1 hT)).imp id (fun h=>List.mem_append_left _ h)
  ·obtain rfl:j=O.length:=by omega
   obtain ⟨h1,h2 | h2⟩:=hT <;> omega
theorem Cpd.copy (c:ZrG v rs L to) (hn:O.Nodup) (hR:∀ a∈O,Rch v rs a) (h:Cpd v v' to O k i) {j:Nat} (hj:j<O.length) {t:Int} (ht:t=to+Xmc v (O.take j)):
  v'.rdE t=0/\v'.rdH t=v.rdH O[j]/\(j=k->∀ m:Nat,i<=m->(m:Int)<(v.rdH O[j]).p->v'.ptE t m=0/\v'.ptV t m=v.ldV (O[j]+1+m)) ∧
   ∀ m:Nat,(m:Int)<(v.rdH O[j]).p->v'.plE t m 1=0/\v'.ldE (t+1+m)=0:=by
 have ha:=hR _ (List.getElem_mem hj);have hrd:=c.mks.sound.rd _ ha;have hp:=QXB hrd;have hpp:=VRK hrd;have hs:=c.sum hn hR;have h0:=YB0 v (O.take j);have hpos:=c.pos;have htop:=c.top
 have hle:∀ m:Nat,(m:Int)<v.osz O[j]->v'.ldE (t+m)=0:=fun m hm=>by
  rw [h.sm.ldE];have hl:=place_lt v hj hm;have:=c.map (to+(Xmc v (O.take j)).toNat+m) (by omega) (by omega);rw [<-this];congr 1;omega
 have hr0:=h.raw j hj 0 (by omega) (fun hT=>absurd hT.1 (by omega));have hl0:=hle 0 (by omega);rw [show t+(0:Nat)=t by omega] at hl0;rw [show (to:Int)+Xmc v (O.take j)+(0:Nat)=t by omega,show O[j]+(0:Nat)=O[j] by omega] at hr0
 have hE:v'.rdE t=0:=by
  have h1:=hrd;unfold Vm.rdE at h1 ⊢;rw [if_neg (by omega),if_neg (by omega),if_pos hl0,hr0];rw [if_neg (by omega),if_neg (by omega)] at h1
  split at h1
  ·exact h1
  ·rename_i hx;exact absurd h1 hx
 have hH:v'.rdH t=v.rdH O[j]:=by
  have h1:=(J7F hrd).2.1;unfold Vm.rdH;rw [if_pos ⟨by omega,hl0⟩,if_pos ⟨by omega,h1⟩,hr0]
 refine ⟨hE,hH,fun hjk m hm1 hm2=>?_,fun m hm=>?_⟩
 ·have hmm:((m+1:Nat):Int)<v.osz O[j]:=by omega
  have hr:=h.raw j hj (m+1) hmm (fun hT=>by
   obtain ⟨-,h2 | h2⟩:=hT <;> omega)
  have hl:=hle (m+1) hmm;rw [show (to:Int)+Xmc v (O.take j)+(m+1:Nat)=t+1+m by omega,show O[j]+(m+1:Nat)=O[j]+1+m by omega] at hr;rw [show t+((m+1:Nat):Int)=t+1+m by omega] at hl;have hpt:=ZbX (c.mks.sound.pt _ ha m hm2);have:=Xm6 (v:=v') (a:=t) (i:=m) hE (by rw [hH];exact hm2) hl (by rw [hr];exact hpt.2.1);refine ⟨this.1,?_⟩;rw [(ZbX this.1).1,hr]
 ·have hl:=hle (m+1) (by omega);rw [show t+((m+1:Nat):Int)=t+1+m by omega] at hl;refine ⟨?_,hl⟩;unfold Vm.plE;rw [if_neg (by omega),hH,if_pos (VaX (by omega) hm hpp.2)]
theorem Cpd.set (c:ZrG v rs L to) (hn:O.Nodup) (hR:∀ a∈O,Rch v rs a) (h:Cpd v v' to O k i) (hK:XaG v O k i) (hk:k<O.length) {t:Int} (ht:t=to+Xmc v (O.take k)) (hi:(i:Int)<(v.rdH O[k]).p)
  (hx:(v.ldV (O[k]+1+i):Int)=0\/(v.ldV (O[k]+1+i):Int)∈O) {x:Nat} (hxx:(x:Int)=YQE v O to (v.ldV (O[k]+1+i))) (hx2:x<18446744073709551616):
  Cpd v (v'.st (t+1+i) x) to O k (i+1)/\XaG v O k (i+1):=by
 have ha:=hR _ (List.getElem_mem hk);have hrd:=c.mks.sound.rd _ ha;have hpp:=VRK hrd;have hs:=c.sum hn hR;have h0:=YB0 v (O.take k);have hl:=((Cpd.copy c hn hR h hk ht).2.2.2 i hi).2;have hst:=h.ok.st_ldV x hl;have hpl:=place_lt v hk (m:=i+1) (by omega)
 have hT:∀ j m:Nat,Trn v O k (i+1) j m↔Trn v O k i j m\/(j=k/\m=i+1):=fun j m=>by
  unfold Trn;constructor
  ·rintro ⟨h1,h2 | h2⟩
   ·exact .inl ⟨h1,.inl h2⟩
   ·rcases Nat.lt_or_ge i m with h3 | h3
    ·exact .inr (by omega)
    ·exact .inl ⟨h1,.inr (by omega)⟩
  ·rintro (⟨h1,h2 | h2⟩ | ⟨h1,h2⟩)
   ·exact ⟨h1,.inl h2⟩
   ·exact ⟨h1,.inr (by omega)⟩
   ·exact ⟨by omega,.inr (by omega)⟩
 refine ⟨⟨h.ok.st _ hx2,h.sm.trans (VqE.st _ _ _),fun b hb=>?_,fun j hj m hm hnT=>?_,fun j hj m hm hTT=>?_⟩,fun j hj m hm hTT=>?_⟩
 ·rw [hst,if_neg (by omega)];exact h.o b hb
 ·have hn1:¬ (j=k/\m=i+1):=fun e=>hnT ((hT j m).2 (.inr e));rw [hst,if_neg (fun e=>hn1 (JxM v hj hk hm (m':=i+1) (by omega) (by omega)))];exact h.raw j hj m hm (fun h'=>hnT ((hT j m).2 (.inl h')))
 ·by_cases e:j=k/\m=i+1
  ·obtain ⟨rfl,rfl⟩:=e;rw [hst,if_pos (by omega),show O[j]+((i+1:Nat):Int)=O[j]+1+i by omega];exact hxx
  ·rw [hst,if_neg (fun e'=>e (JxM v hj hk hm (m':=i+1) (by omega) (by omega)))];exact h.trn j hj m hm (((hT j m).1 hTT).resolve_right e)
 ·by_cases e:j=k/\m=i+1
  ·obtain ⟨rfl,rfl⟩:=e;rw [show O[j]+((i+1:Nat):Int)=O[j]+1+i by omega];exact hx
  ·exact hK j hj m hm (((hT j m).1 hTT).resolve_right e)
theorem VNh {v:Vm} {O:List Int} {k i:Nat} (hk:k<O.length) (hi:(i:Int)=(v.rdH O[k]).p) (j m:Nat):Trn v O (k+1) 0 j m↔Trn v O k i j m:=by
 unfold Trn;have e:O.getD k 0=O[k]:=by rw [List.getD_eq_getElem?_getD,List.getElem?_eq_getElem hk];rfl
 constructor
 ·rintro ⟨h1,h2 | h2⟩
  ·rcases Nat.lt_or_ge j k with h3 | h3
   ·exact ⟨h1,.inl ⟨h3,h2.2⟩⟩
   ·obtain rfl:j=k:=by omega
    rw [e] at h2;exact ⟨h1,.inr ⟨rfl,by omega⟩⟩
  ·omega
 ·rintro ⟨h1,h2 | h2⟩
  ·exact ⟨h1,.inl ⟨by omega,h2.2⟩⟩
  ·obtain ⟨rfl,h3⟩:=h2;exact ⟨h1,.inl ⟨by omega,by rw [e];omega⟩⟩
theorem Cpd.next (h:Cpd v v' to O k i) (hK:XaG v O k i) (hk:k<O.length) (hi:(i:Int)=(v.rdH O[k]).p):Cpd v v' to O (k+1) 0/\XaG v O (k+1) 0:=
 ⟨⟨h.ok,h.sm,h.o,fun j hj m hm hT=>h.raw j hj m hm (fun h'=>hT ((VNh hk hi j m).2 h')),fun j hj m hm hT=>h.trn j hj m hm ((VNh hk hi j m).1 hT)⟩,fun j hj m hm hT=>hK j hj m hm ((VNh hk hi j m).1 hT)⟩
theorem VqB (hR:∀ a∈O,Rch v rs a) {l:List Int} (hl:∀ a∈l,a≠0->Rch v rs a):∀ a∈X4e O l,Rch v rs a:=fun a ha=>by
 rcases Z9b.1 ha with h | ⟨h,h0⟩
 ·exact hR a h
 ·exact hl a h h0
theorem JKk (c:ZrG v rs L to) {b:Int} (hb:Rch v rs b):∀ a∈X7I v b,a≠0->Rch v rs a:=fun a ha h0=>by
 obtain ⟨i,hi,rfl⟩:=List.getElem_of_mem ha;rw [YxN] at h0 ⊢;rw [JjJ] at hi;have hrd:=c.mks.sound.rd _ hb;have hp:=VRK hrd;have hpt:=c.mks.sound.pt _ hb i (by omega);have he:=ZbX hpt;exact hb.step ⟨hrd,i,by omega,hpt,by rw [he.1];omega,by rw [he.1]⟩
theorem V16 (c:ZrG v rs L to) (k:Nat):∀ a∈QnE v rs k,Rch v rs a:=by
 induction k with
 | zero=>exact VqB (fun a h=>by cases h) (fun a ha h0=>Rch.root ha h0)
 | succ k ih=>
  unfold QnE
  split
  ·rename_i hk;refine VqB ih (JKk c (ih _ ?_));rw [List.getD_eq_getElem?_getD,List.getElem?_eq_getElem hk];exact List.getElem_mem hk
  ·exact ih
theorem VRh (v:Vm) (rs:List Int) (k:Nat):∃ X,QnE v rs (k+1)=QnE v rs k++X:=by
 show ∃ X,(if k<(QnE v rs k).length then X4e (QnE v rs k) (X7I v ((QnE v rs k).getD k 0)) else QnE v rs k)=QnE v rs k++X
 split
 ·exact XlQ _ _
 ·exact ⟨[],(List.append_nil _).symm⟩
theorem YFK (v:Vm) (rs:List Int) (k:Nat):∀ j,j<k->∀ (hj:j<(QnE v rs k).length),∀ b∈X7I v (QnE v rs k)[j],b≠0->b∈QnE v rs k:=by
 induction k with
 | zero=>intro j hj;omega
 | succ k ih=>
  intro j hjk hj b hb h0;by_cases hlt:k<(QnE v rs k).length
  ·have e:QnE v rs (k+1)=X4e (QnE v rs k) (X7I v ((QnE v rs k).getD k 0)):=by
    show (if _ then _ else _)=_
    rw [if_pos hlt]
   obtain ⟨X,hX⟩:=XlQ (QnE v rs k) (X7I v ((QnE v rs k).getD k 0));have hjl:j<(QnE v rs k).length:=by omega
   have e1:(QnE v rs (k+1))[j]=(QnE v rs k)[j]:=by
    simp only [e,hX,List.getElem_append_left hjl]
   rw [e1] at hb;rw [e];rcases Nat.lt_or_ge j k with h1 | h1
   ·exact Z9b.2 (.inl (ih j h1 hjl b hb h0))
   ·obtain rfl:j=k:=by omega
    refine Z9b.2 (.inr ⟨?_,h0⟩);rw [List.getD_eq_getElem?_getD,List.getElem?_eq_getElem hjl];exact hb
  ·have e:QnE v rs (k+1)=QnE v rs k:=by
    show (if _ then _ else _)=_
    rw [if_neg hlt]
   simp only [e] at hj hb ⊢;exact ih j (by omega) hj b hb h0
theorem Zqu (v:Vm) (rs:List Int) (k:Nat):∀ r∈rs,r≠0->r∈QnE v rs k:=by
 induction k with
 | zero=>exact fun r hr h0=>Z9b.2 (.inr ⟨hr,h0⟩)
 | succ k ih=>
  intro r hr h0;obtain ⟨X,hX⟩:=VRh v rs k;rw [hX];exact List.mem_append_left _ (ih r hr h0)
theorem ZrG.done (c:ZrG v rs L to) (hk:k=(QnE v rs k).length):(∀ a,Rch v rs a->a∈QnE v rs k)/\Xmc v (QnE v rs k)=Qd4 L:=by
 have hall:∀ a,Rch v rs a->a∈QnE v rs k:=fun a ha=>by
  refine (ha (fun b=>b∈QnE v rs k/\Rch v rs b) (fun r hr h0=>⟨Zqu v rs k r hr h0,Rch.root hr h0⟩) ?_).1;rintro x y ⟨hx,hxr⟩ hp;refine ⟨?_,hxr.step hp⟩;obtain ⟨-,i,hi,h0,h1,rfl⟩:=hp;obtain ⟨j,hj,rfl⟩:=List.getElem_of_mem hx;have he:=ZbX h0;have hpp:=VRK (c.mks.sound.rd _ hxr);refine YFK v rs k j (by omega) hj _ ?_ (by omega);rw [he.1];have hil:i<(X7I v (QnE v rs k)[j]).length:=by rw [JjJ];omega
  rw [<-YxN v _ hil];exact List.getElem_mem hil
 refine ⟨hall,?_⟩;have h1:=c.sum (Zh5 v rs k) (V16 c k);have h2:=VJ9 (v:=v) (fun o ho=>(c.mks.mkd.ats o ho).2.2) c.mks.mkd.good.lt (O:=QnE v rs k) (fun o ho=>hall _ (c.mks.mkd.ats o ho).1);omega
end
end
end
section
section
open Go.RowKit Word
structure XHO (v v':Vm):Prop where
 n:v'.n=v.n
 le:∀ a:Int,v.ldE a=0->v'.ldE a=0/\v'.ldV a=v.ldV a
theorem Ji4.wider {v v':Vm} {F:List Nat} (h:Ji4 v v' F) (hv:ZAR v):XHO v v':=by
 refine ⟨h.n,fun a ha=>?_⟩;obtain ⟨h0,h1⟩:=Qo9 ha;obtain ⟨j,rfl⟩:∃ j:Nat,a=j:=⟨a.toNat,by omega⟩;have hj:j<v.n:=by omega
 have hn:¬ j/v.pl.pg∈F:=fun hm=>by
  rw [hv.ldE_of hj,if_pos (h.un _ hm).2] at ha;cases ha
 rw [h.ldE hv hj,h.vl j hj,if_neg hn,if_neg hn];exact ⟨ha,rfl⟩
theorem XHO.rd {v v':Vm} (h:XHO v v') {a:Int} (hr:v.rdE a=0):v'.rdE a=0/\v'.rdH a=v.rdH a:=by
 obtain ⟨h0,h1,-⟩:=J7F hr;obtain ⟨e1,e2⟩:=h.le a h1;unfold Vm.rdE at hr ⊢;rw [if_neg (by omega),if_neg (by omega),if_pos h1] at hr;refine ⟨by rw [if_neg (by omega),if_neg (by omega),if_pos e1,e2];exact hr,?_⟩;unfold Vm.rdH;rw [if_pos ⟨h0,e1⟩,if_pos ⟨h0,h1⟩,e2]
theorem XHO.pt {v v':Vm} (h:XHO v v') {a:Int} {i:Nat} (hr:v.rdE a=0) (hi:(i:Int)<(v.rdH a).p) (hp:v.ptE a i=0):v'.ptE a i=0/\v'.ptV a i=v.ptV a i:=by
 obtain ⟨e1,e2⟩:=h.rd hr;have hp':=ZbX hp;obtain ⟨e3,e4⟩:=h.le _ hp'.2.2.1;have:=Xm6 (v:=v') (a:=a) (i:=i) e1 (by rw [e2];exact hi) e3 (by rw [e4];exact hp'.2.1);exact ⟨this.1,by rw [(ZbX this.1).1,hp'.1,e4]⟩
theorem XHO.rch {v v':Vm} (h:XHO v v') {rs:List Int} {n:Nat} (hS:Xd6 v rs n) (a:Int):Rch v' rs a↔Rch v rs a:=by
 constructor
 ·intro ha;refine ha (fun b=>Rch v rs b) (fun r hr h0=>Rch.root hr h0) ?_;rintro b c hb ⟨-,i,hi,h0,h1,rfl⟩;have hrd:=hS.rd b hb;rw [(h.rd hrd).2] at hi;have hp:=h.pt hrd hi (hS.pt b hb i hi);rw [hp.2] at h1 ⊢;exact hb.step ⟨hrd,i,hi,hS.pt b hb i hi,h1,rfl⟩
 ·intro ha;refine (ha (fun b=>Rch v' rs b/\Rch v rs b) (fun r hr h0=>⟨Rch.root hr h0,Rch.root hr h0⟩) ?_).1;rintro b c ⟨hb,hb'⟩ hp;refine ⟨?_,hb'.step hp⟩;obtain ⟨hrd,i,hi,h0,h1,rfl⟩:=hp;have hp:=h.pt hrd hi h0;rw [<-hp.2];exact hb.step ⟨(h.rd hrd).1,i,by rw [(h.rd hrd).2];exact hi,hp.1,by rw [hp.2];exact h1,rfl⟩
theorem XHO.marks {v v':Vm} (h:XHO v v') {rs:List Int} {n:Nat} {L:List Ob} (hM:Zx6 v rs n L):Zx6 v' rs n L:=by
 have hS:=hM.sound;refine ⟨⟨hM.mkd.good,fun o ho=>?_⟩,fun a ha=>hM.all a ((h.rch hS a).1 ha),fun o ho i hi=>?_⟩
 ·obtain ⟨h1,h2,h3⟩:=hM.mkd.ats o ho;obtain ⟨e1,e2⟩:=h.rd h2;exact ⟨(h.rch hS _).2 h1,e1,by rw [h3];unfold Vm.osz;rw [e2]⟩
 ·obtain ⟨h1,h2,-⟩:=hM.mkd.ats o ho;rw [(h.rd h2).2] at hi;obtain ⟨c1,c2⟩:=hM.cl o ho i hi;have hp:=h.pt h2 hi c1;exact ⟨hp.1,fun h0=>by rw [hp.2] at h0 ⊢;exact c2 h0⟩
def umN (v:Vm) (q0:Nat):Nat->Vm
 | 0=>v
 | k+1=>(umN v q0 k).um ((q0+k:Nat):Int)
theorem Jz0 (v:Vm) (p:Int):(v.um p).n=v.n/\(v.um p).pl.pg=v.pl.pg/\(v.um p).pl.rm=v.pl.rm/\(v.um p).pt.length=v.pt.length:=by
 unfold Vm.um
 split
 ·exact ⟨rfl,rfl,rfl,List.length_set⟩
 ·exact ⟨rfl,rfl,rfl,rfl⟩
theorem Jow (v:Vm) (q0 k:Nat):(umN v q0 k).n=v.n/\(umN v q0 k).pl.pg=v.pl.pg/\(umN v q0 k).pl.rm=v.pl.rm/\(umN v q0 k).pt.length=v.pt.length:=by
 induction k with
 | zero=>exact ⟨rfl,rfl,rfl,rfl⟩
 | succ k ih=>
  obtain ⟨h1,h2,h3,h4⟩:=Jz0 (umN v q0 k) ((q0+k:Nat):Int);exact ⟨h1.trans ih.1,h2.trans ih.2.1,h3.trans ih.2.2.1,h4.trans ih.2.2.2⟩
theorem JjA {v:Vm} (h:ZAR v) (q0 k:Nat):ZAR (umN v q0 k):=by
 induction k with
 | zero=>exact h
 | succ k ih=>exact ih.um _
theorem X0U {v:Vm} (h:ZAR v) (q0 k:Nat) {a:Nat} (ha:a<v.n):(umN v q0 k).ldE a=if q0<=a/v.pl.pg/\a/v.pl.pg<q0+k then 12 else v.ldE a:=by
 induction k with
 | zero=>rw [if_neg (by omega)];rfl
 | succ k ih=>
  obtain ⟨s1,s2,-,s4⟩:=Jow v q0 k;have hok:=JjA h q0 k
  show ((umN v q0 k).um ((q0+k:Nat):Int)).ldE a=_
  by_cases hf:frE (umN v q0 k).pt ((q0+k:Nat):Int)=0
  ·rw [hok.um_ldE hf (by rw [s1];exact ha),s2,ih];by_cases e:a/v.pl.pg=q0+k
   ·rw [if_pos e,if_pos (by omega)]
   ·rw [if_neg e];by_cases hx:q0<=a/v.pl.pg/\a/v.pl.pg<q0+k
    ·rw [if_pos hx,if_pos (by omega)]
    ·rw [if_neg hx,if_neg (by omega)]
  ·rw [V4M hf];by_cases e:a/v.pl.pg=q0+k
   ·have h1:=hok.ldE_of (a:=a) (by rw [s1];exact ha);rw [s2,e] at h1;have hl:q0+k<(umN v q0 k).pt.length:=by rw [s4,<-e];exact (h.split ha).1
    rw [VP8 hl] at hf;rw [if_pos (by omega),h1]
    split at hf
    ·rename_i h0;exact if_pos h0
    ·exact absurd rfl hf
   ·rw [ih];by_cases hx:q0<=a/v.pl.pg/\a/v.pl.pg<q0+k
    ·rw [if_pos hx,if_pos (by omega)]
    ·rw [if_neg hx,if_neg (by omega)]
theorem VIn {v:Vm} (h:ZAR v) (q0 k:Nat) {a:Nat} (ha:a<v.n) (hn:¬ (q0<=a/v.pl.pg/\a/v.pl.pg<q0+k)):(umN v q0 k).ldV a=v.ldV a:=by
 induction k with
 | zero=>rfl
 | succ k ih=>
  obtain ⟨s1,s2,-,-⟩:=Jow v q0 k;have hok:=JjA h q0 k
  show ((umN v q0 k).um ((q0+k:Nat):Int)).ldV a=_
  by_cases hf:frE (umN v q0 k).pt ((q0+k:Nat):Int)=0
  ·rw [hok.um_ldV hf (by rw [s1];exact ha) (by rw [s2];omega)];exact ih (by omega)
  ·rw [V4M hf];exact ih (by omega)
end
end
end
end Go.Proofs.YtmjoodkiiekjcaaGreatDoor
