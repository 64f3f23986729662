/- Part 3 of what SlideReads leans on: my own lemmas, merged by shake.py. -/
import Derived.Test.YthgdadohijgleaaGreatDoorSlideReadsB
import Derived.Laws.BitsAllLaws
import Derived.Laws.Bits64b
section
section
namespace Go.Proofs.YthgdadohijgleaaGreatDoor
open Go.RowKit Word
structure Vm where
 n:Nat
 pl:Pl
 pt:List Nat
structure VmOk (v:Vm):Prop where
 pl:PlOk v.pl
 pt:PtOk v.pt
 n2:v.n<=524288
 np:v.n=v.pt.length*v.pl.pg
 fr:∀ p,p<v.pt.length->v.pt.getD p 0≠0->at_ v.pl.tk (v.pt.getD p 0-1)=true
 inj:∀ p p',p<v.pt.length->p' < v.pt.length->v.pt.getD p 0≠0->v.pt.getD p 0=v.pt.getD p' 0->p=p'
 us:v.pl.used=nz v.pt
structure VmAt (w:World) (S:Nat->Prop) (q:Nat) (v:Vm):Prop where
 ok:VmOk v
 sq:S q
 row:∃ S1 S2 b1 b2,Rec w q 237 [.pointer (some ⟨b1,0,none⟩),.pointer (some ⟨b2,0,none⟩),.int .i64 v.n]/\PoolAt w S1 b1 v.pl/\PgAt w S2 b2 v.pt ∧
  (∀ k,S1 k->S k)/\(∀ k,S2 k->S k)/\(∀ k,S1 k->¬ S2 k)/\¬ S1 q/\¬ S2 q
theorem VmAt.touch {S T:Nat->Prop} {w w':World} {q:Nat} {v:Vm} (h:VmAt w S q v) (t:Touch T w w') (hS:∀ k,S k->k<w.heap.size->¬ T k):VmAt w' S q v:=by
 obtain ⟨h1,h2,S1,S2,b1,b2,hr,hp,hg,s1,s2,s3,s4,s5⟩:=h
 exact ⟨h1,h2,S1,S2,b1,b2,hr.touch t (hS _ h2 hr.lt),hp.touch t (fun k hk=>hS k (s1 k hk)),hg.touch t (fun k hk=>hS k (s2 k hk)),s1,s2,s3,s4,s5⟩
theorem VmAt.gr {S:Nat->Prop} {w w':World} {q:Nat} {v:Vm} (h:VmAt w S q v) (t:Gr w w'):VmAt w' S q v:=h.touch (t.touch (fun _=>False)) (fun _ _ _ h=>h)
theorem VmAt.mono {S T:Nat->Prop} {w:World} {q:Nat} {v:Vm} (h:VmAt w S q v) (hT:∀ k,S k->T k):VmAt w T q v:=by
 obtain ⟨h1,h2,S1,S2,b1,b2,hr,hp,hg,s1,s2,s3,s4,s5⟩:=h
 exact ⟨h1,hT _ h2,S1,S2,b1,b2,hr,hp,hg,fun k hk=>hT k (s1 k hk),fun k hk=>hT k (s2 k hk),s3,s4,s5⟩
def cutS (S:Nat->Prop) (w:World) (k:Nat):Prop:=S k/\k<w.heap.size
theorem PoolAt.cut {w:World} {S:Nat->Prop} {q:Nat} {p:Pl} (h:PoolAt w S q p):PoolAt w (cutS S w) q p:=by
 obtain ⟨h1,h2,vw,vt,vb,hi,ts,hr,o1,o2,o3,s1,s2,s3⟩:=h
 exact ⟨h1,⟨h2,hr.lt⟩,vw,vt,vb,hi,ts,hr,o1,o2,o3,fun g hg=>⟨s1 g hg,(own_lt o1 hg).2⟩,fun g hg=>⟨s2 g hg,(own_lt o2 hg).2⟩,fun g hg=>⟨s3 g hg,(own_lt o3 hg).2⟩⟩
theorem PgAt.cut {w:World} {S:Nat->Prop} {q:Nat} {pt:List Nat} (h:PgAt w S q pt):PgAt w (cutS S w) q pt:=by
 obtain ⟨ok,sq,g,c,L,hr,h1,h2,sg,ho,ht,hd⟩:=h
 refine ⟨ok,⟨sq,hr.lt⟩,g,c,L,hr,h1,h2,⟨sg,(own_lt ho rfl).2⟩,ho,fun k hk=>?_,hd⟩
 have:=ht k hk
 cases hl:L.getD k none with
 | none=>rw [hl] at this;exact this
 | some b=>rw [hl] at this;exact ⟨⟨this.1,this.2.lt⟩,this.2⟩
theorem VmAt.cut {w:World} {S:Nat->Prop} {q:Nat} {v:Vm} (h:VmAt w S q v):VmAt w (cutS S w) q v:=by
 obtain ⟨h1,h2,S1,S2,b1,b2,hr,hp,hg,s1,s2,s3,s4,s5⟩:=h
 exact ⟨h1,⟨h2,hr.lt⟩,cutS S1 w,cutS S2 w,b1,b2,hr,hp.cut,hg.cut,fun k hk=>⟨s1 k hk.1,hk.2⟩,fun k hk=>⟨s2 k hk.1,hk.2⟩,fun k hk hk2=>s3 k hk.1 hk2.1,fun h=>s4 h.1,fun h=>s5 h.1⟩
theorem ret3v {a b c a' b' c':Value} (h1:a=a') (h2:b=b') (h3:c=c'):Ending.returned (.tuple #[a,b,c])=.returned (.tuple #[a',b',c']):=by rw [h1,h2,h3]
def Vm.ldE (v:Vm) (a:Int):Int:=if 0<=a/\a<v.n then frE v.pt (a/v.pl.pg) else 11
def Vm.at (v:Vm) (a:Int):Nat:=(v.pt.getD (a/v.pl.pg).toNat 0-1)*v.pl.pg+(a%v.pl.pg).toNat
def Vm.ldV (v:Vm) (a:Int):Nat:=if v.ldE a=0 then v.pl.wd.getD (v.at a) 0 else 0
def Vm.st (v:Vm) (a:Int) (x:Nat):Vm:=if v.ldE a=0 then { v with pl:={ v.pl with wd:=v.pl.wd.set (v.at a) x } } else v
theorem VmOk.page {v:Vm} (h:VmOk v):1<=v.pl.pg/\v.pl.pg<=256:=⟨by have:=blockOk_pos h.pl.pg;omega,h.pl.pg2⟩
theorem VmOk.split {v:Vm} (h:VmOk v) {a:Nat} (ha:a<v.n):a/v.pl.pg<v.pt.length/\a%v.pl.pg<v.pl.pg:=by
 have hp:=h.page
 refine ⟨(Nat.div_lt_iff_lt_mul hp.1).2 (by rw [<-h.np];exact ha),Nat.mod_lt _ hp.1⟩
theorem VmOk.hit {v:Vm} {a:Int} (h0:v.ldE a=0):∃ j:Nat,a=j/\j<v.n/\v.pt.getD (j/v.pl.pg) 0≠0:=by
 unfold Vm.ldE at h0
 split at h0
 ·rename_i hr
  obtain ⟨j,rfl⟩:∃ j:Nat,a=j:=⟨a.toNat,by omega⟩
  obtain ⟨p,hp1,hp2,hp3⟩:=frE_zero h0
  have hpj:p=j/v.pl.pg:=by omega
  exact ⟨j,rfl,by omega,by rw [<-hpj];exact hp3⟩
 ·cases h0
section
variable {w:World} {S:Nat->Prop} {q:Nat} {v:Vm}
theorem vm_none (hV:VmAt w S q v):Calls Tryz.prog 164 #[.pointer (some ⟨q,0,none⟩)] w fun e w'=>e=.returned (.bool false)/\w=w':=by
 obtain ⟨S1,S2,b1,b2,hr,-⟩:=hV.row
 have c0:=hr.cell (j:=0) rfl
 clear hr
 go_enter Tryz.func164,Tryz.ntmps164
 go_wp2
 go_ret
 exact ⟨rfl,rfl⟩
def FindEnd (w:World) (v:Vm) (a:Int) (e:Ending) (w':World):Prop:=
 Gr w w'/\∃ x y:Int,e=.returned (.tuple #[.int .i64 x,.int .i64 y,.int .i64 (v.ldE a)])/\(v.ldE a=0->x=(v.pt.getD (a/v.pl.pg).toNat 0:Nat)-1/\y=a%v.pl.pg)
set_option maxRecDepth 100000 in
set_option maxHeartbeats 1600000 in
theorem vm_find (hV:VmAt w S q v) (a:Int):Calls Tryz.prog 246 #[.pointer (some ⟨q,0,none⟩),.int .i64 a] w (FindEnd w v a):=by
 have HV:=hid hV
 obtain ⟨S1,S2,b1,b2,hr,hp,hg,-⟩:=hV.row
 have c0:=hr.cell (j:=0) rfl
 have c1:=hr.cell (j:=1) rfl
 have c2:=hr.cell (j:=2) rfl
 have hql:=hr.lt
 have HP:=hid hp
 have HG:=hid hg
 have hpg:=hV.ok.page
 have hn:=hV.ok.n2
 by_cases hin:0<=a/\a<v.n
 ·obtain ⟨j,rfl⟩:∃ j:Nat,a=j:=⟨a.toNat,by omega⟩
  have HE:Hid (v.ldE j=frE v.pt ((j/v.pl.pg:Nat):Int)):=⟨by unfold Vm.ldE;rw [if_pos hin,Int.natCast_ediv]⟩
  have HA:Hid (((j:Int)/(v.pl.pg:Int)).toNat=j/v.pl.pg/\((j%v.pl.pg:Nat):Int)=(j:Int)%(v.pl.pg:Int)):=⟨⟨by rw [<-Int.natCast_ediv,Int.toNat_natCast],Int.natCast_emod ..⟩⟩
  obtain ⟨p,hpp⟩:∃ p,p=j/v.pl.pg:=⟨_,rfl⟩
  obtain ⟨o,hoo⟩:∃ o,o=j%v.pl.pg:=⟨_,rfl⟩
  have q1:((j:Int).tdiv (v.pl.pg:Int))=(p:Int):=by rw [hpp];rfl
  have q2:((j:Int)/(v.pl.pg:Int))=(p:Int):=by rw [hpp];rfl
  have q3:((j:Int).tmod (v.pl.pg:Int))=(o:Int):=by rw [hoo];rfl
  have q4:((j:Int)%(v.pl.pg:Int))=(o:Int):=by rw [hoo];rfl
  have hBp:(v.pl.pg:Int)≠0:=by omega
  rw [<-hpp] at HE
  rw [<-hpp,<-hoo] at HA
  have hp2:p<=524288:=by have:=Nat.div_le_self j v.pl.pg;omega
  have ho2:o<=524288:=by have:=Nat.mod_le j v.pl.pg;omega
  have hjI:(j:Int)<(v.n:Int):=by omega
  obtain ⟨B,hB⟩:∃ B,B=v.pl.pg:=⟨_,rfl⟩
  have HB:=hid hB
  rw [<-hB] at q1 q2 q3 q4 hBp hpg
  have d0:decide ((j:Int)<0)=false:=decide_eq_false (by omega)
  have d1:decide ((v.n:Int)<=(j:Int))=false:=decide_eq_false (by omega)
  clear hr hp hg hV hin hpp hoo hB
  go_enter Tryz.func246,Tryz.ntmps246
  go_wp2_with (first
   | (go_at_call 164;refine (vm_none HV.out).mono ?_;rintro e w1 ⟨rfl,rfl⟩)
   | (go_at_call 244;refine (pool_page HP.out).mono ?_;rintro e w1 ⟨rfl,rfl⟩;rw [<-HB.out]))
  have z1:∀ xs m,(grow w xs m).cell? ⟨q,1,none⟩=some (.pointer (some ⟨b2,0,none⟩)):=fun xs m=>((grown w xs m).cell hql 1).trans c1
  refine wp_region_by (by kernel_rfl) (by kernel_rfl) ?_
  repeat (go_big_quiet_step ((go_at_call 255;have hc:=fun xs m=>pg_frame (HG.out.gr (grown w xs m)) (p:Int);exact Gets.grown (hc _ _))))
  refine wpQuiet_nil ?_
  intro _ hw'
  obtain ⟨⟨xs,nq⟩,hw''⟩:=hw'
  subst hw''
  go_wp2
  go_quiet (fail)
  go_wp2
  go_ret3
  refine ⟨(grown w _ _).drewN _,_,_,ret3v rfl rfl (vint HE.out.symm),fun h0=>?_⟩
  rw [HE.out] at h0
  rw [HA.out.1,<-HA.out.2]
  refine ⟨?_,rfl⟩
  unfold frV
  rw [if_pos h0,Int.toNat_natCast]
 ·have E:v.ldE a=11:=by unfold Vm.ldE;rw [if_neg hin]
  have HE:=hid E
  rcases (by omega:a<0\/(0<=a/\(v.n:Int)<=a)) with h | h
  ·have d0:decide (a<0)=true:=decide_eq_true h
   clear hr hp hg hV hin E h
   go_enter Tryz.func246,Tryz.ntmps246
   go_wp2_with (go_at_call 164;refine (vm_none HV.out).mono ?_;rintro e w1 ⟨rfl,rfl⟩)
   go_ret3
   exact ⟨Gr.refl w,_,_,ret3v rfl rfl (vint HE.out.symm),fun h0=>by rw [HE.out] at h0;exact absurd h0 (by decide)⟩
  ·have d0:decide (a<0)=false:=decide_eq_false (by omega)
   have d1:decide ((v.n:Int)<=a)=true:=decide_eq_true h.2
   clear hr hp hg hV hin E h
   go_enter Tryz.func246,Tryz.ntmps246
   go_wp2_with (go_at_call 164;refine (vm_none HV.out).mono ?_;rintro e w1 ⟨rfl,rfl⟩)
   go_ret3
   exact ⟨Gr.refl w,_,_,ret3v rfl rfl (vint HE.out.symm),fun h0=>by rw [HE.out] at h0;exact absurd h0 (by decide)⟩
theorem find_wrd (hok:VmOk v) {a x y:Int} (h0:v.ldE a=0) (hx:x=(v.pt.getD (a/v.pl.pg).toNat 0:Nat)-1) (hy:y=a%v.pl.pg):wrdE v.pl x y=0/\x.toNat*v.pl.pg+y.toNat=v.at a:=by
 obtain ⟨j,rfl,hj,hne⟩:=VmOk.hit h0
 obtain ⟨h1,h2⟩:=hok.split hj
 have hf:=hok.fr _ h1 hne
 have e1:((j:Int)/(v.pl.pg:Int)).toNat=j/v.pl.pg:=by rw [<-Int.natCast_ediv,Int.toNat_natCast]
 have e2:(j:Int)%(v.pl.pg:Int)=((j%v.pl.pg:Nat):Int):=(Int.natCast_emod ..).symm
 rw [e1] at hx
 rw [e2] at hy
 have hx1:0<=x:=by omega
 have hx2:x.toNat=v.pt.getD (j/v.pl.pg) 0-1:=by omega
 have hc:chkE v.pl x=0:=by unfold chkE;rw [decide_eq_true hx1,hx2,hf];rfl
 refine ⟨?_,?_⟩
 ·unfold wrdE
  rw [if_pos hc,if_pos ⟨by omega,by omega⟩]
 ·unfold Vm.at
  rw [e1,e2,hx2,hy]
set_option maxRecDepth 100000 in
set_option maxHeartbeats 800000 in
theorem vm_load (hV:VmAt w S q v) (a:Int):Calls Tryz.prog 150 #[.pointer (some ⟨q,0,none⟩),.int .i64 a] w fun e w'=>e=.returned (.tuple #[.int .u64 (v.ldV a:Nat),.int .i64 (v.ldE a)])/\Gr w w':=by
 have HV:=hid hV
 obtain ⟨S1,S2,b1,b2,hr,hp,hg,-⟩:=hV.row
 have hql:=hr.lt
 have c0:=hr.cell (j:=0) rfl
 have HP:=hid hp
 by_cases h0:v.ldE a=0
 ·have HE:=hid h0
  have HW:Hid (∀ x y:Int,x=(v.pt.getD (a/v.pl.pg).toNat 0:Nat)-1->y=a%v.pl.pg->wrdE v.pl x y=0/\wrdV v.pl x y=v.ldV a):=⟨fun x y hx hy=>by
   obtain ⟨h1,h2⟩:=find_wrd hV.ok h0 hx hy
   refine ⟨h1,?_⟩
   unfold wrdV Vm.ldV
   rw [if_pos h1,if_pos h0,h2]⟩
  clear hr hp hg hV h0
  go_enter Tryz.func150,Tryz.ntmps150
  go_wp2_with (first
   | (go_at_call 246;refine (vm_find HV.out a).mono ?_;rintro e w1 ⟨hg1,x,y,rfl,hxy⟩;have HXY:=hid (HW.out x y (hxy HE.out).1 (hxy HE.out).2);rw [HE.out];have k0:=(hg1.cell hql 0).trans c0;have HG1:=hid hg1;clear hg1 hxy)
   | (go_at_call 248;refine (pool_load (HP.out.gr HG1.out) x y).mono ?_;rintro e w2 ⟨rfl,rfl⟩))
  go_ret2
  exact ⟨ret2 (congrArg (fun n:Nat=>Value.int .u64 (n:Int)) HXY.out.2) (vint (by rw [HXY.out.1,HE.out])),HG1.out⟩
 ·have HV0:Hid (v.ldV a=0):=⟨by unfold Vm.ldV;rw [if_neg h0]⟩
  obtain ⟨x,hx⟩:∃ x,x=v.ldE a:=⟨_,rfl⟩
  have HX:=hid hx
  have d0:(x==0)=false:=by rw [hx];simpa using h0
  clear hr hp hg hV h0 hx
  go_enter Tryz.func150,Tryz.ntmps150
  go_wp2_with (go_at_call 246;refine (vm_find HV.out a).mono ?_;rintro e w1 ⟨hg1,x1,y1,rfl,-⟩;rw [<-HX.out];have HG1:=hid hg1;clear hg1)
  go_ret2
  exact ⟨ret2 (by rw [HV0.out];rfl) (vint (by rw [HX.out])),HG1.out⟩
def StEnd (w:World) (S:Nat->Prop) (q:Nat) (v:Vm) (a:Int) (x:Nat) (w':World):Prop:=Touch S w w'/\VmAt w' S q (v.st a x)
theorem VmOk.st (h:VmOk v) (a:Int) {x:Nat} (hx:x<18446744073709551616):VmOk (v.st a x):=by
 unfold Vm.st
 split
 ·exact ⟨plOk_store h.pl _ _ hx,h.pt,h.n2,h.np,h.fr,h.inj,h.us⟩
 ·exact h
set_option maxRecDepth 100000 in
set_option maxHeartbeats 800000 in
theorem vm_store (hV:VmAt w S q v) (a:Int) {x:Nat} (hx:x<18446744073709551616):Calls Tryz.prog 147 #[.pointer (some ⟨q,0,none⟩),.int .i64 a,.int .u64 x] w fun e w'=>e=.returned (.int .i64 (v.ldE a))/\StEnd w S q v a x w':=by
 have HV:=hid hV
 obtain ⟨S1,S2,b1,b2,hr,hp,hg,s1,s2,s3,s4,s5⟩:=hV.row
 have hql:=hr.lt
 have c0:=hr.cell (j:=0) rfl
 have HP:=hid hp
 have hok:=hid (hV.ok.st a hx)
 have hX:=hid hx
 by_cases h0:v.ldE a=0
 ·have HE:=hid h0
  have HS:Hid (v.st a x={ v with pl:={ v.pl with wd:=v.pl.wd.set (v.at a) x } }):=⟨by unfold Vm.st;rw [if_pos h0]⟩
  have HW:Hid (∀ y z:Int,y=(v.pt.getD (a/v.pl.pg).toNat 0:Nat)-1->z=a%v.pl.pg->wrdE v.pl y z=0/\wrdSet v.pl y z x={ v.pl with wd:=v.pl.wd.set (v.at a) x }):=⟨fun y z hy hz=>by
   obtain ⟨h1,h2⟩:=find_wrd hV.ok h0 hy hz
   refine ⟨h1,?_⟩
   unfold wrdSet
   rw [if_pos h1,h2]⟩
  have HK:Hid (∀ (w1:World),Gr w w1->∀ w2,Touch S1 w1 w2->PoolAt w2 S1 b1 { v.pl with wd:=v.pl.wd.set (v.at a) x }->StEnd w S q v a x w2):=⟨fun w1 g1 w2 t2 p2=>by
   have T:Touch S1 w w2:=(g1.touch S1).trans t2
   refine ⟨T.mono (fun k _ hk=>s1 k hk),hok.out,hV.sq,S1,S2,b1,b2,?_,?_,?_,s1,s2,s3,s4,s5⟩
   ·rw [HS.out];exact hr.touch T s4
   ·rw [HS.out];exact p2
   ·rw [HS.out];exact hg.touch T (fun k hk _ hk2=>s3 k hk2 hk)⟩
  clear hr hp hg hV h0 hx s1 s2 s3 s4 s5
  go_enter Tryz.func147,Tryz.ntmps147
  go_wp2_with (first
   | (go_at_call 246;refine (vm_find HV.out a).mono ?_;rintro e w1 ⟨hg1,y,z,rfl,hxy⟩;have HXY:=hid (HW.out y z (hxy HE.out).1 (hxy HE.out).2);rw [HE.out];have k0:=(hg1.cell hql 0).trans c0;have HG1:=hid hg1;clear hg1 hxy)
   | (go_at_call 247;refine (pool_store (HP.out.gr HG1.out) y z x hX.out).mono ?_;rintro e w2 ⟨rfl,ht2,hp2⟩;have HT2:=hid ht2;have HP2:=hid hp2;clear ht2 hp2))
  go_ret
  refine ⟨ret_int (by rw [HXY.out.1,HE.out]),HK.out _ HG1.out _ HT2.out ?_⟩
  rw [<-HXY.out.2];exact HP2.out
 ·have HS:Hid (v.st a x=v):=⟨by unfold Vm.st;rw [if_neg h0]⟩
  obtain ⟨y,hy⟩:∃ y,y=v.ldE a:=⟨_,rfl⟩
  have HX:=hid hy
  have d0:(y==0)=false:=by rw [hy];simpa using h0
  clear hr hp hg hV h0 hx hy
  go_enter Tryz.func147,Tryz.ntmps147
  go_wp2_with (go_at_call 246;refine (vm_find HV.out a).mono ?_;rintro e w1 ⟨hg1,x1,y1,rfl,-⟩;rw [<-HX.out];have HG1:=hid hg1;clear hg1)
  go_ret
  exact ⟨ret_int (by rw [HX.out]),HG1.out.touch S,by rw [HS.out];exact HV.out.gr HG1.out⟩
end
end Go.Proofs.YthgdadohijgleaaGreatDoor
end
section
namespace Go.Proofs.YthgdadohijgleaaGreatDoor
open Go.RowKit Word
def Vm.mpE (v:Vm) (p:Int):Int:=if pgE v.pt p≠0 then 11 else if v.pt.getD p.toNat 0≠0 then 13 else if v.pl.used=v.pl.rm then 14 else 0
def Vm.mp (v:Vm) (p:Int):Vm:=if v.mpE p=0 then { v with pl:=v.pl.take,pt:=v.pt.set p.toNat (v.pl.next+1) } else v
def Vm.um (v:Vm) (p:Int):Vm:=if frE v.pt p=0 then { v with pl:=v.pl.give (v.pt.getD p.toNat 0-1),pt:=v.pt.set p.toNat 0 } else v
theorem at_fresh {p:Pl} {f:Nat} (h:at_ p.tk f=true):at_ p.fresh.tk f=true:=by
 unfold Pl.fresh
 split
 ·have:=at_lt h
  show at_ (p.tk++[false]) f=true
  unfold at_ at h ⊢
  rw [List.getD_eq_getElem?_getD,List.getElem?_append_left this,<-List.getD_eq_getElem?_getD]
  exact h
 ·exact h
theorem at_setB (l:List Bool) {i:Nat} (hi:i<l.length) (x:Bool) (j:Nat):at_ (l.set i x) j=if i=j then x else at_ l j:=by
 unfold at_
 simp only [List.getD_eq_getElem?_getD,List.getElem?_set]
 by_cases e:i=j
 ·subst e;simp [hi]
 ·simp [e]
theorem at_take {p:Pl} (h:PlOk p) (f:Nat):at_ p.take.tk f=if p.next=f then true else at_ p.fresh.tk f:=at_setB _ (next_lt h).1 _ _
theorem take_ne {p:Pl} (h:PlOk p) {f:Nat} (hf:at_ p.tk f=true):f≠p.next:=by
 rintro rfl
 have h1:=(next_lt h).2.2
 rw [at_fresh hf] at h1
 cases h1
theorem VmOk.frame {v:Vm} (h:VmOk v) {p:Nat} (hp:v.pt.getD p 0≠0):at_ v.pl.tk (v.pt.getD p 0-1)=true:=by
 by_cases hl:p<v.pt.length
 ·exact h.fr p hl hp
 ·rw [List.getD_eq_getElem?_getD,List.getElem?_eq_none (by omega)] at hp
  exact absurd rfl hp
theorem VmOk.mp {v:Vm} (h:VmOk v) (p:Int):VmOk (v.mp p):=by
 unfold Vm.mp
 split
 ·rename_i h0
  unfold Vm.mpE at h0
  by_cases h1:pgE v.pt p≠0
  ·rw [if_pos h1] at h0;cases h0
  ·rw [if_neg h1] at h0
   by_cases h2:v.pt.getD p.toNat 0≠0
   ·rw [if_pos h2] at h0;cases h0
   ·rw [if_neg h2] at h0
    have h2':v.pt.getD p.toNat 0=0:=Decidable.not_not.1 h2
    by_cases h3:v.pl.used=v.pl.rm
    ·rw [if_pos h3] at h0;cases h0
    ·obtain ⟨j,rfl,hj⟩:=pgE_zero (Decidable.not_not.1 h1)
     rw [Int.toNat_natCast] at h2' ⊢
     have hn:=next_lt h.pl
     have hle:=used_le h.pl
     have hok:=take_ok h.pl (by omega)
     have hlen:v.pl.fresh.tk.length=v.pl.take.tk.length:=by unfold Pl.take;exact List.length_set.symm
     have hn2:v.pl.next<4096:=by have:=hok.le;have:=hok.rm;omega
     refine ⟨hok,h.pt.set j (by omega),h.n2,?_,fun i hi hne=>?_,fun i i' hi hi' hne he=>?_,?_⟩
     ·show v.n=(v.pt.set j _).length*v.pl.take.pg
      rw [List.length_set]
      have:v.pl.take.pg=v.pl.pg:=(fresh_same v.pl).1
      rw [this];exact h.np
     ·show at_ v.pl.take.tk ((v.pt.set j _).getD i 0-1)=true
      rw [getD_setM hj,at_take h.pl]
      by_cases e:j=i
      ·rw [if_pos e,if_pos (by omega)]
      ·rw [if_neg e]
       split
       ·rfl
       ·refine at_fresh (h.frame ?_)
        have:(v.pt.set j (v.pl.next+1)).getD i 0≠0:=hne
        rw [getD_setM hj,if_neg e] at this
        exact this
     ·have hne:(v.pt.set j (v.pl.next+1)).getD i 0≠0:=hne
      have he:(v.pt.set j (v.pl.next+1)).getD i 0=(v.pt.set j (v.pl.next+1)).getD i' 0:=he
      have hi:i<v.pt.length:=by have:i<(v.pt.set j (v.pl.next+1)).length:=hi;rwa [List.length_set] at this
      have hi':i' < v.pt.length:=by have:i' < (v.pt.set j (v.pl.next+1)).length:=hi';rwa [List.length_set] at this
      rw [getD_setM hj] at hne he
      rw [getD_setM hj] at he
      by_cases e:j=i <;> by_cases e':j=i'
      ·rw [<-e,e']
      ·rw [if_pos e,if_neg e'] at he
       have:=take_ne h.pl (h.frame (p:=i') (by omega))
       omega
      ·rw [if_neg e,if_pos e'] at he
       have:=take_ne h.pl (h.frame (p:=i) (by omega))
       omega
      ·rw [if_neg e] at hne he
       rw [if_neg e'] at he
       exact h.inj i i' hi hi' hne he
     ·show v.pl.take.used=nz (v.pt.set j (v.pl.next+1))
      rw [take_used h.pl,nz_set hj h2' (by omega),h.us]
 ·exact h
theorem VmOk.um {v:Vm} (h:VmOk v) (p:Int):VmOk (v.um p):=by
 unfold Vm.um
 split
 ·rename_i h0
  obtain ⟨j,rfl,hj,hne⟩:=frE_zero h0
  rw [Int.toNat_natCast]
  have hf:=h.fr j hj hne
  refine ⟨give_ok h.pl hf,h.pt.set j (by omega),h.n2,?_,fun i hi hn=>?_,fun i i' hi hi' hn he=>?_,?_⟩
  ·show v.n=(v.pt.set j 0).length*v.pl.pg
   rw [List.length_set];exact h.np
  ·have hi:i<v.pt.length:=by have:i<(v.pt.set j 0).length:=hi;rwa [List.length_set] at this
   have hn:(v.pt.set j 0).getD i 0≠0:=hn
   show at_ (v.pl.tk.set _ false) ((v.pt.set j 0).getD i 0-1)=true
   rw [getD_setM hj] at hn ⊢
   by_cases e:j=i
   ·rw [if_pos e] at hn;exact absurd rfl hn
   ·rw [if_neg e] at hn ⊢
    rw [at_setB _ (at_lt hf),if_neg,h.fr i hi hn]
    intro e2
    exact e (h.inj j i hj hi hne (by omega))
  ·have hi:i<v.pt.length:=by have:i<(v.pt.set j 0).length:=hi;rwa [List.length_set] at this
   have hi':i' < v.pt.length:=by have:i' < (v.pt.set j 0).length:=hi';rwa [List.length_set] at this
   have hn:(v.pt.set j 0).getD i 0≠0:=hn
   have he:(v.pt.set j 0).getD i 0=(v.pt.set j 0).getD i' 0:=he
   rw [getD_setM hj] at hn he
   rw [getD_setM hj] at he
   by_cases e:j=i
   ·rw [if_pos e] at hn;exact absurd rfl hn
   ·rw [if_neg e] at hn he
    by_cases e':j=i'
    ·rw [if_pos e'] at he;omega
    ·rw [if_neg e'] at he
     exact h.inj i i' hi hi' hn he
  ·show (v.pl.give _).used=nz (v.pt.set j 0)
   have h1:=give_used (p:=v.pl) hf
   have h2:=nz_drop hj hne
   have:=h.us
   omega
 ·exact h
theorem VmOk.place_lt {v:Vm} (h:VmOk v) {a:Int} (h0:v.ldE a=0):v.at a<v.pl.wd.length:=by
 obtain ⟨j,rfl,hj,hne⟩:=VmOk.hit h0
 obtain ⟨h1,h2⟩:=h.split hj
 have hf:=at_lt (h.fr _ h1 hne)
 unfold Vm.at
 rw [<-Int.natCast_ediv,Int.toNat_natCast,<-Int.natCast_emod,Int.toNat_natCast,h.pl.wl]
 have:(v.pt.getD (j/v.pl.pg) 0-1+1)*v.pl.pg<=v.pl.tk.length*v.pl.pg:=Nat.mul_le_mul_right _ hf
 rw [Nat.succ_mul] at this
 omega
theorem split_mul {g f o f' o':Nat} (h1:o<g) (h2:o' < g) (h:f*g+o=f' * g+o'):f=f'/\o=o':=by
 have e1:(f*g+o)/g=f:=by rw [Nat.mul_comm,Nat.mul_add_div (by omega),Nat.div_eq_of_lt h1,Nat.add_zero]
 have e2:(f' * g+o')/g=f':=by rw [Nat.mul_comm,Nat.mul_add_div (by omega),Nat.div_eq_of_lt h2,Nat.add_zero]
 rw [h,e2] at e1
 subst e1
 exact ⟨rfl,by omega⟩
theorem VmOk.at_inj {v:Vm} (h:VmOk v) {a b:Int} (ha:v.ldE a=0) (hb:v.ldE b=0) (he:v.at a=v.at b):a=b:=by
 obtain ⟨j,rfl,hj,hne⟩:=VmOk.hit ha
 obtain ⟨i,rfl,hi,hne'⟩:=VmOk.hit hb
 obtain ⟨h1,h2⟩:=h.split hj
 obtain ⟨h3,h4⟩:=h.split hi
 unfold Vm.at at he
 rw [<-Int.natCast_ediv,Int.toNat_natCast,<-Int.natCast_emod,Int.toNat_natCast,<-Int.natCast_ediv,Int.toNat_natCast,<-Int.natCast_emod,Int.toNat_natCast] at he
 obtain ⟨e1,e2⟩:=split_mul h2 h4 he
 have e3:=h.inj _ _ h1 h3 hne (by omega)
 have:=Nat.div_add_mod j v.pl.pg
 have:=Nat.div_add_mod i v.pl.pg
 rw [e3,e2] at *
 omega
theorem st_ldE (v:Vm) (a:Int) (x:Nat) (b:Int):(v.st a x).ldE b=v.ldE b:=by unfold Vm.st;split <;> rfl
theorem VmOk.st_ldV {v:Vm} (h:VmOk v) {a:Int} (x:Nat) (ha:v.ldE a=0) (b:Int):(v.st a x).ldV b=if a=b then x else v.ldV b:=by
 have e1:v.st a x={ v with pl:={ v.pl with wd:=v.pl.wd.set (v.at a) x } }:=if_pos ha
 have e2:(v.st a x).at b=v.at b:=by rw [e1];rfl
 have e3:(v.st a x).pl.wd=v.pl.wd.set (v.at a) x:=by rw [e1]
 unfold Vm.ldV
 rw [st_ldE,e2,e3]
 by_cases hb:v.ldE b=0
 ·rw [if_pos hb,if_pos hb,getD_setM (h.place_lt ha)]
  by_cases e:a=b
  ·rw [if_pos e,if_pos (by rw [e])]
  ·rw [if_neg e,if_neg (fun he=>e (h.at_inj ha hb he))]
 ·rw [if_neg hb,if_neg hb]
  by_cases e:a=b
  ·subst e;exact absurd ha hb
  ·rw [if_neg e]
theorem mp_none {v:Vm} {p:Int} (h:v.mpE p≠0):v.mp p=v:=if_neg h
theorem um_none {v:Vm} {p:Int} (h:frE v.pt p≠0):v.um p=v:=if_neg h
theorem mpE_zero {v:Vm} {p:Int} (h:v.mpE p=0):∃ j:Nat,p=j/\j<v.pt.length/\v.pt.getD j 0=0/\v.pl.used≠v.pl.rm:=by
 unfold Vm.mpE at h
 split at h
 ·cases h
 ·rename_i h1
  obtain ⟨j,rfl,hj⟩:=pgE_zero (Decidable.not_not.1 h1)
  rw [Int.toNat_natCast] at h
  split at h
  ·cases h
  ·rename_i h2
   split at h
   ·cases h
   ·rename_i h3
    exact ⟨j,rfl,hj,Decidable.not_not.1 h2,h3⟩
theorem frE_of {pt:List Nat} {p:Nat} (h:p<pt.length):frE pt p=if pt.getD p 0=0 then 12 else 0:=by
 unfold frE pgE
 rw [if_pos (show (if (0:Int)<=(p:Int)/\(p:Int)<(pt.length:Int) then (0:Int) else 11)=0 from if_pos ⟨by omega,by omega⟩),Int.toNat_natCast]
theorem VmOk.ldE_of {v:Vm} (h:VmOk v) {a:Nat} (ha:a<v.n):v.ldE a=if v.pt.getD (a/v.pl.pg) 0=0 then 12 else 0:=by
 unfold Vm.ldE
 rw [if_pos ⟨by omega,by omega⟩,<-Int.natCast_ediv,frE_of (h.split ha).1]
theorem VmOk.mp_ldE {v:Vm} (h:VmOk v) {p:Nat} (hp:v.mpE p=0) {a:Nat} (ha:a<v.n):(v.mp p).ldE a=if a/v.pl.pg=p then 0 else v.ldE a:=by
 have e1:v.mp p={ v with pl:=v.pl.take,pt:=v.pt.set p (v.pl.next+1) }:=by unfold Vm.mp;rw [if_pos hp,Int.toNat_natCast]
 obtain ⟨j,hj,hjl,-,-⟩:=mpE_zero hp
 obtain rfl:p=j:=by omega
 have h1:=(h.mp p).ldE_of (a:=a) (by rw [e1];exact ha)
 have e2:(v.mp p).pl.pg=v.pl.pg:=by rw [e1];exact (fresh_same v.pl).1
 have e3:(v.mp p).pt=v.pt.set p (v.pl.next+1):=by rw [e1]
 rw [h1,e2,e3,getD_setM hjl,h.ldE_of ha]
 by_cases e:a/v.pl.pg=p
 ·rw [if_pos e.symm,if_pos e,if_neg (by omega)]
 ·have en:¬ p=a/v.pl.pg:=fun h=>e h.symm
  rw [if_neg en,if_neg e]
theorem VmOk.mp_ldV {v:Vm} (h:VmOk v) {p:Nat} (hp:v.mpE p=0) {a:Nat} (ha:a<v.n):(v.mp p).ldV a=if a/v.pl.pg=p then 0 else v.ldV a:=by
 have e1:v.mp p={ v with pl:=v.pl.take,pt:=v.pt.set p (v.pl.next+1) }:=by unfold Vm.mp;rw [if_pos hp,Int.toNat_natCast]
 obtain ⟨j,hj,hjl,-,-⟩:=mpE_zero hp
 obtain rfl:p=j:=by omega
 have hE:=h.mp_ldE hp ha
 obtain ⟨n1,n2,n3⟩:=next_lt h.pl
 have hf:v.pl.next*v.pl.pg+v.pl.pg<=v.pl.fresh.wd.length:=by rw [n2,<-Nat.succ_mul];exact Nat.mul_le_mul_right _ n1
 have e2:(v.mp p).pl.pg=v.pl.pg:=by rw [e1];exact (fresh_same v.pl).1
 have e3:(v.mp p).pt=v.pt.set p (v.pl.next+1):=by rw [e1]
 have e4:(v.mp p).pl.wd=zeroAt v.pl.fresh.wd (v.pl.next*v.pl.pg) v.pl.pg:=by rw [e1];rfl
 obtain ⟨s1,s2⟩:=h.split ha
 have e5:(v.mp p).at a=((v.pt.set p (v.pl.next+1)).getD (a/v.pl.pg) 0-1)*v.pl.pg+a%v.pl.pg:=by
  unfold Vm.at
  rw [e2,e3,<-Int.natCast_ediv,Int.toNat_natCast,<-Int.natCast_emod,Int.toNat_natCast]
 unfold Vm.ldV
 rw [hE,e4,e5,getD_setM hjl]
 by_cases e:a/v.pl.pg=p
 ·rw [if_pos e,if_pos e,if_pos rfl,if_pos e.symm,zeroAt_get hf,if_pos ⟨by simp,by rw [Nat.add_sub_cancel];omega⟩]
 ·have en:¬ p=a/v.pl.pg:=fun h=>e h.symm
  rw [if_neg e,if_neg e,if_neg en]
  by_cases h0:v.ldE a=0
  ·rw [if_pos h0,if_pos h0]
   obtain ⟨j',hj',hj2,hne⟩:=VmOk.hit h0
   obtain rfl:a=j':=by omega
   have hfr:=h.fr _ s1 hne
   have hnx:=take_ne h.pl hfr
   have hlt:=at_lt hfr
   have hat:v.at a=(v.pt.getD (a/v.pl.pg) 0-1)*v.pl.pg+a%v.pl.pg:=by
    unfold Vm.at
    rw [<-Int.natCast_ediv,Int.toNat_natCast,<-Int.natCast_emod,Int.toNat_natCast]
   have hal:=h.place_lt h0
   rw [hat] at hal ⊢
   rw [zeroAt_get hf,if_neg]
   ·unfold Pl.fresh
    split
    ·generalize (v.pt.getD (a/v.pl.pg) 0-1)*v.pl.pg+a%v.pl.pg=i at hal
     simp only [List.getD_eq_getElem?_getD]
     rw [List.getElem?_append_left hal]
    ·rfl
   ·rintro ⟨c1,c2⟩
    generalize v.pt.getD (a/v.pl.pg) 0-1=f at *
    rcases Nat.lt_or_ge f v.pl.next with hl | hl
    ·have:(f+1)*v.pl.pg<=v.pl.next*v.pl.pg:=Nat.mul_le_mul_right _ hl
     rw [Nat.succ_mul] at this
     omega
    ·have:(v.pl.next+1)*v.pl.pg<=f*v.pl.pg:=Nat.mul_le_mul_right _ (by omega)
     rw [Nat.succ_mul] at this
     omega
  ·rw [if_neg h0,if_neg h0]
theorem VmOk.um_ldE {v:Vm} (h:VmOk v) {p:Nat} (hp:frE v.pt p=0) {a:Nat} (ha:a<v.n):(v.um p).ldE a=if a/v.pl.pg=p then 12 else v.ldE a:=by
 have e1:v.um p={ v with pl:=v.pl.give (v.pt.getD p 0-1),pt:=v.pt.set p 0 }:=by unfold Vm.um;rw [if_pos hp,Int.toNat_natCast]
 obtain ⟨j,hj,hjl,-⟩:=frE_zero hp
 obtain rfl:p=j:=by omega
 have h1:=(h.um p).ldE_of (a:=a) (by rw [e1];exact ha)
 have e2:(v.um p).pl.pg=v.pl.pg:=by rw [e1];rfl
 have e3:(v.um p).pt=v.pt.set p 0:=by rw [e1]
 rw [h1,e2,e3,getD_setM hjl,h.ldE_of ha]
 by_cases e:a/v.pl.pg=p
 ·rw [if_pos e.symm,if_pos e,if_pos rfl]
 ·have en:¬ p=a/v.pl.pg:=fun h=>e h.symm
  rw [if_neg en,if_neg e]
theorem VmOk.um_ldV {v:Vm} (h:VmOk v) {p:Nat} (hp:frE v.pt p=0) {a:Nat} (ha:a<v.n) (hne:a/v.pl.pg≠p):(v.um p).ldV a=v.ldV a:=by
 have e1:v.um p={ v with pl:=v.pl.give (v.pt.getD p 0-1),pt:=v.pt.set p 0 }:=by unfold Vm.um;rw [if_pos hp,Int.toNat_natCast]
 obtain ⟨j,hj,hjl,-⟩:=frE_zero hp
 obtain rfl:p=j:=by omega
 have hE:=h.um_ldE hp ha
 rw [if_neg hne] at hE
 have e5:(v.um p).at a=v.at a:=by
  unfold Vm.at
  rw [e1]
  show ((v.pt.set p 0).getD ((a:Int)/(v.pl.pg:Int)).toNat 0-1)*v.pl.pg+_=_
  rw [<-Int.natCast_ediv,Int.toNat_natCast,getD_setM hjl,if_neg (show ¬ p=a/v.pl.pg from fun h=>hne h.symm)]
  rfl
 unfold Vm.ldV
 rw [hE,e5,e1]
 rfl
end Go.Proofs.YthgdadohijgleaaGreatDoor
end
section
namespace Go.Proofs.YthgdadohijgleaaGreatDoor
open Go.RowKit Word
def VmEnd (w:World) (S:Nat->Prop) (q:Nat) (v:Vm) (w':World):Prop:=Touch S w w'/\VmAt w' (plus S w) q v
section
variable {w:World} {S:Nat->Prop} {q:Nat} {v:Vm}
theorem mpE_fr (v:Vm) (p:Int):(frE v.pt p=11/\v.mpE p=11)\/(frE v.pt p=0/\v.mpE p=13)\/(frE v.pt p=12/\v.pl.used=v.pl.rm/\v.mpE p=14)\/(frE v.pt p=12/\v.pl.used≠v.pl.rm/\v.mpE p=0):=by
 have e1:frE v.pt p=if pgE v.pt p=0 then (if v.pt.getD p.toNat 0=0 then 12 else 0) else 11:=rfl
 have e2:v.mpE p=if pgE v.pt p≠0 then 11 else if v.pt.getD p.toNat 0≠0 then 13 else if v.pl.used=v.pl.rm then 14 else 0:=rfl
 rw [e1,e2]
 by_cases h:pgE v.pt p=0
 ·have h':¬ pgE v.pt p≠0:=fun h'=>h' h
  by_cases h2:v.pt.getD p.toNat 0=0
  ·have h2':¬ v.pt.getD p.toNat 0≠0:=fun h'=>h' h2
   by_cases h3:v.pl.used=v.pl.rm
   ·exact .inr (.inr (.inl ⟨by rw [if_pos h,if_pos h2],h3,by rw [if_neg h',if_neg h2',if_pos h3]⟩))
   ·exact .inr (.inr (.inr ⟨by rw [if_pos h,if_pos h2],h3,by rw [if_neg h',if_neg h2',if_neg h3]⟩))
  ·exact .inr (.inl ⟨by rw [if_pos h,if_neg h2],by rw [if_neg h',if_pos h2]⟩)
 ·exact .inl ⟨by rw [if_neg h],by rw [if_pos h]⟩
set_option maxRecDepth 100000 in
set_option maxHeartbeats 1600000 in
theorem vm_map (hV:VmAt w S q v) (p:Int):Calls Tryz.prog 245 #[.pointer (some ⟨q,0,none⟩),.int .i64 p] w fun e w'=>e=.returned (.int .i64 (v.mpE p))/\VmEnd w S q (v.mp p) w':=by
 have HV:=hid hV
 obtain ⟨S1,S2,b1,b2,hr,hp,hg,s1,s2,s3,s4,s5⟩:=hV.row
 have hql:=hr.lt
 have c0:=hr.cell (j:=0) rfl
 have c1:=hr.cell (j:=1) rfl
 have HP:=hid hp
 have HG:=hid hg
 have HN:Hid (v.mpE p≠0->∀ w',Gr w w'->VmEnd w S q (v.mp p) w'):=⟨fun h w' g=>by
  rw [mp_none h]
  exact ⟨g.touch S,(hV.gr g).mono (fun k hk=>.inl hk)⟩⟩
 have HR:=hid hr
 have HS:=hid (And.intro s1 (And.intro s2 (And.intro s3 (And.intro s4 s5))))
 rcases mpE_fr v p with ⟨h1,h2⟩ | ⟨h1,h2⟩ | ⟨h1,h2,h3⟩ | ⟨h1,h2,h3⟩
 ·have HE:=hid (And.intro h1 h2)
  clear hV hr hp hg s1 s2 s3 s4 s5 h1 h2
  go_enter Tryz.func245,Tryz.ntmps245
  go_wp2_with (first
   | (go_at_call 164;refine (vm_none HV.out).mono ?_;rintro e w1 ⟨rfl,rfl⟩)
   | (go_at_call 255;refine (pg_frame HG.out p).mono ?_;rintro e w1 ⟨rfl,hg1⟩;rw [HE.out.1];have HG1:=hid hg1;clear hg1))
  go_ret
  exact ⟨ret_int (by rw [HE.out.2]),HN.out (by rw [HE.out.2];decide) _ HG1.out⟩
 ·have HE:=hid (And.intro h1 h2)
  clear hV hr hp hg s1 s2 s3 s4 s5 h1 h2
  go_enter Tryz.func245,Tryz.ntmps245
  go_wp2_with (first
   | (go_at_call 164;refine (vm_none HV.out).mono ?_;rintro e w1 ⟨rfl,rfl⟩)
   | (go_at_call 255;refine (pg_frame HG.out p).mono ?_;rintro e w1 ⟨rfl,hg1⟩;rw [HE.out.1];have HG1:=hid hg1;clear hg1))
  go_ret
  exact ⟨ret_int (by rw [HE.out.2]),HN.out (by rw [HE.out.2];decide) _ HG1.out⟩
 ·have HE:=hid (And.intro h1 (And.intro h2 h3))
  clear hV hr hp hg s1 s2 s3 s4 s5 h1 h2 h3
  go_enter Tryz.func245,Tryz.ntmps245
  go_wp2_with (first
   | (go_at_call 164;refine (vm_none HV.out).mono ?_;rintro e w1 ⟨rfl,rfl⟩)
   | (go_at_call 255;refine (pg_frame HG.out p).mono ?_;rintro e w1 ⟨rfl,hg1⟩;rw [HE.out.1];have k0:=(hg1.cell hql 0).trans c0;have HG1:=hid hg1;clear hg1)
   | (go_at_call 315;refine (pool_take (HP.out.gr HG1.out)).mono ?_;rintro e w2 (⟨-,rfl,hg2⟩ | ⟨h,-⟩);rotate_left;(exact absurd HE.out.2.1 (by omega));have HG2:=hid hg2;clear hg2))
  go_ret
  exact ⟨ret_int (by rw [HE.out.2.2]),HN.out (by rw [HE.out.2.2];decide) _ (HG1.out.trans HG2.out)⟩
 ·obtain ⟨j,rfl,hj,h0,-⟩:=mpE_zero h3
  have HE:=hid (And.intro h1 (And.intro h2 h3))
  have hnx:v.pl.next<4096:=by
   have hle:=used_le hV.ok.pl
   have hok:=take_ok hV.ok.pl (by omega)
   have hn:=next_lt hV.ok.pl
   have hlen:v.pl.fresh.tk.length=v.pl.take.tk.length:=by unfold Pl.take;exact List.length_set.symm
   have:=hok.le
   have:=hok.rm
   omega
  have HM:=hid (show v.mp j={ v with pl:=v.pl.take,pt:=v.pt.set j (v.pl.next+1) } by unfold Vm.mp;rw [if_pos h3,Int.toNat_natCast])
  have HPT:=hid (fun (w1 w2:World) (g1:Gr w w1) (t2:Touch S1 w1 w2)=>pg_put (((hg.gr g1).cut).touch t2 (fun k hk _ hk2=>s3 k hk2 hk.1)) hj h0 hnx)
  have hok':=hid (hV.ok.mp j)
  obtain ⟨nx,hnxe⟩:∃ nx,nx=v.pl.next:=⟨_,rfl⟩
  have HNX:=hid hnxe
  rw [<-hnxe] at hnx
  have c1':=hid c1
  clear hV hr hp hg s1 s2 s3 h1 h2 h3 hnxe h0
  go_enter Tryz.func245,Tryz.ntmps245
  go_wp2_with (first
   | (go_at_call 164;refine (vm_none HV.out).mono ?_;rintro e w1 ⟨rfl,rfl⟩)
   | (go_at_call 255;refine (pg_frame HG.out j).mono ?_;rintro e w1 ⟨rfl,hg1⟩;rw [HE.out.1];have k0:=(hg1.cell hql 0).trans c0;have HG1:=hid hg1;clear hg1)
   | (go_at_call 315;refine (pool_take (HP.out.gr HG1.out)).mono ?_;rintro e w2 (⟨h,-⟩ | ⟨-,rfl,ht2,hp2⟩);(exact absurd h HE.out.2.1);rw [<-HNX.out];have k1:=(ht2.cell (Nat.lt_of_lt_of_le hql HG1.out.size) s4 1).trans ((HG1.out.cell hql 1).trans c1'.out);have HT2:=hid ht2;have HP2:=hid hp2;clear ht2 hp2)
   | (go_at_call 316;have hpt:=HPT.out _ _ HG1.out HT2.out;rw [<-HNX.out] at hpt;refine hpt.mono ?_;rintro e w3 ⟨rfl,hs3⟩;have HS3:=hid hs3;clear hs3 hpt))
  go_ret
  refine ⟨ret_int (by rw [HE.out.2.2]),?_⟩
  obtain ⟨s1,s2,s3,s4,s5⟩:=HS.out
  obtain ⟨t3,p3⟩:=HS3.out
  have T12:Touch S w w2:=(HG1.out.touch S).trans (HT2.out.mono (fun k _ hk=>s1 k hk))
  have z1:=HG1.out.size
  have z2:=HT2.out.size
  refine ⟨T12.trans (t3.mono (fun k _ hk=>s2 k hk.1)),hok'.out,.inl HV.out.sq,cutS (plus S1 w1) w2,plus (cutS S2 w1) w2,b1,b2,?_,?_,?_,fun k hk=>?_,fun k hk=>?_,fun k hk hk2=>?_,fun hk=>?_,fun hk=>?_⟩
  ·rw [HM.out]
   exact ((HR.out.gr HG1.out).touch HT2.out s4).touch t3 (fun h=>s5 h.1)
  ·rw [HM.out]
   exact HP2.out.cut.touch t3 (fun k hk _ hk2=>by
    rcases hk.1 with h | h
    ·exact s3 k h hk2.1
    ·have:=hk2.2;omega)
  ·rw [HM.out]
   show PgAt w3 _ b2 (v.pt.set j (v.pl.next+1))
   rw [<-HNX.out];exact p3
  ·rcases hk.1 with h | h
   ·exact .inl (s1 k h)
   ·exact .inr (by omega)
  ·rcases hk with h | h
   ·exact .inl (s2 k h.1)
   ·exact .inr (by omega)
  ·rcases hk2 with h | h
   ·rcases hk.1 with h' | h'
    ·exact s3 k h' h.1
    ·have:=h.2;omega
   ·have:=hk.2;omega
  ·rcases hk.1 with h | h
   ·exact s4 h
   ·omega
  ·rcases hk with h | h
   ·exact s5 h.1
   ·omega
set_option maxRecDepth 100000 in
set_option maxHeartbeats 1600000 in
theorem vm_unmap (hV:VmAt w S q v) (p:Int):Calls Tryz.prog 199 #[.pointer (some ⟨q,0,none⟩),.int .i64 p] w fun e w'=>e=.returned (.int .i64 (frE v.pt p))/\VmEnd w S q (v.um p) w':=by
 have HV:=hid hV
 obtain ⟨S1,S2,b1,b2,hr,hp,hg,s1,s2,s3,s4,s5⟩:=hV.row
 have hql:=hr.lt
 have c0:=hr.cell (j:=0) rfl
 have c1:=hr.cell (j:=1) rfl
 have HP:=hid hp
 have HG:=hid hg
 have HR:=hid hr
 have HS:=hid (And.intro s1 (And.intro s2 (And.intro s3 (And.intro s4 s5))))
 by_cases h0:frE v.pt p=0
 ·have HE:=hid h0
  obtain ⟨j,rfl,hj,hne⟩:=frE_zero h0
  have hf:=hV.ok.fr j hj hne
  obtain ⟨f,hff⟩:∃ f,f=v.pt.getD j 0-1:=⟨_,rfl⟩
  have HF:=hid hff
  have HFV:=hid (show frV v.pt j=(f:Int) by unfold frV;rw [if_pos h0,Int.toNat_natCast,hff];omega)
  rw [<-hff] at hf
  have HM:=hid (show v.um j={ v with pl:=v.pl.give f,pt:=v.pt.set j 0 } by unfold Vm.um;rw [if_pos h0,Int.toNat_natCast,hff])
  have HGV:=hid (fun (w1:World) (t1:Touch S2 w w1)=>pool_give (p:=v.pl) (f:=f) ((hp.cut).touch t1 (fun k hk _ hk2=>s3 k hk.1 hk2)) hf)
  have hok':=hid (hV.ok.um j)
  clear hV hr hp hg s1 s2 s3 s4 h0 hne hf hff
  have c0':=hid c0
  go_enter Tryz.func199,Tryz.ntmps199
  go_wp2_with (first
   | (go_at_call 164;refine (vm_none HV.out).mono ?_;rintro e w1 ⟨rfl,rfl⟩)
   | (go_at_call 288;refine (pg_drop HG.out j).mono ?_;rintro e w1 ⟨rfl,(⟨h,-⟩ | ⟨-,ht1,hp1⟩)⟩;(exact absurd HE.out h);rw [HE.out,HFV.out];have k0:=(ht1.cell hql s5 0).trans c0'.out;have HT1:=hid ht1;have HP1:=hid hp1;clear ht1 hp1)
   | (go_at_call 289;refine (HGV.out _ HT1.out).mono ?_;rintro e w2 ⟨rfl,ht2,hp2⟩;have HT2:=hid ht2;have HP2:=hid hp2;clear ht2 hp2))
  go_ret
  refine ⟨ret_int (by rw [HE.out]),?_⟩
  obtain ⟨s1,s2,s3,s4,s5⟩:=HS.out
  have t1:=HT1.out
  have t2:=HT2.out
  have z1:=HT1.out.size
  have z2:=HT2.out.size
  refine ⟨(t1.mono (fun k _ hk=>s2 k hk)).trans (t2.mono (fun k _ hk=>s1 k hk.1)),hok'.out,.inl HV.out.sq,plus (cutS S1 w) w1,cutS (plus S2 w) w1,b1,b2,?_,?_,?_,fun k hk=>?_,fun k hk=>?_,fun k hk hk2=>?_,fun hk=>?_,fun hk=>?_⟩
  ·rw [HM.out]
   exact (HR.out.touch t1 s5).touch t2 (fun h=>s4 h.1)
  ·rw [HM.out]
   exact HP2.out
  ·rw [HM.out]
   have hp1:=HP1.out
   rw [Int.toNat_natCast] at hp1
   exact hp1.cut.touch t2 (fun k hk _ hk2=>by
    rcases hk.1 with h | h
    ·exact s3 k hk2.1 h
    ·have:=hk2.2;omega)
  ·rcases hk with h | h
   ·exact .inl (s1 k h.1)
   ·exact .inr (by omega)
  ·rcases hk.1 with h | h
   ·exact .inl (s2 k h)
   ·exact .inr (by omega)
  ·rcases hk with h | h
   ·rcases hk2.1 with h' | h'
    ·exact s3 k h.1 h'
    ·have:=h.2;omega
   ·have:=hk2.2;omega
  ·rcases hk with h | h
   ·exact s4 h.1
   ·omega
  ·rcases hk.1 with h | h
   ·exact s5 h
   ·omega
 ·obtain ⟨y,hy⟩:∃ y,y=frE v.pt p:=⟨_,rfl⟩
  have HX:=hid hy
  have d0:(y==0)=false:=by rw [hy];simpa using h0
  have HM:=hid (um_none h0)
  have h0':=hid h0
  clear hV hr hp hg h0 hy s1 s2 s3 s4 s5
  go_enter Tryz.func199,Tryz.ntmps199
  go_wp2_with (first
   | (go_at_call 164;refine (vm_none HV.out).mono ?_;rintro e w1 ⟨rfl,rfl⟩)
   | (go_at_call 288;refine (pg_drop HG.out p).mono ?_;rintro e w1 ⟨rfl,(⟨-,hg1⟩ | ⟨h,-⟩)⟩;rotate_left;(exact absurd h h0'.out);rw [<-HX.out];have HG1:=hid hg1;clear hg1))
  go_ret
  refine ⟨ret_int (by rw [HX.out]),HG1.out.touch S,?_⟩
  rw [HM.out]
  exact (HV.out.gr HG1.out).mono (fun k hk=>.inl hk)
def Vm.new (n pg rm:Nat):Vm:=⟨n,Pl.none pg rm,List.replicate (n/pg) 0⟩
theorem VmOk.new {n pg rm:Nat} (h1:roomOk rm=true) (h2:pageOk pg=true) (h3:1<=n) (h4:n<=524288) (h5:n%pg=0):VmOk (Vm.new n pg rm):=by
 have hd:n/pg*pg=n:=by have:=Nat.div_add_mod n pg;rw [h5,Nat.mul_comm] at this;omega
 have h7:1<=n/pg:=by
  rcases Nat.eq_zero_or_pos (n/pg) with h | h
  ·rw [h] at hd;omega
  ·exact h
 refine ⟨pl_none h1 h2,PtOk.new h7 (by have:=Nat.div_le_self n pg;omega),h4,?_,fun p hp hne=>?_,fun p p' hp hp' hne=>?_,?_⟩
 ·show n=(List.replicate (n/pg) 0).length*pg
  rw [List.length_replicate,hd]
 ·exact absurd (rep_getD _ _) hne
 ·exact absurd (rep_getD _ _) hne
 ·show Pl.used (Pl.none pg rm)=nz (List.replicate (n/pg) 0)
  rw [nz_rep];rfl
set_option maxRecDepth 100000 in
set_option maxHeartbeats 1600000 in
theorem vm_new {n pg rm:Nat} (h1:roomOk rm=true) (h2:pageOk pg=true) (h3:1<=n) (h4:n<=524288) (h5:n%pg=0) (h6:1<=pg) (h7:pg<=256) (w:World):Calls Tryz.prog 71 #[.int .i64 n,.int .i64 pg,.int .i64 rm] w fun e w'=>
  ∃ q,e=.returned (.tuple #[.pointer (some ⟨q,0,none⟩),.int .i64 0])/\Gr w w'/\VmAt w' (fun k=>w.heap.size<=k) q (Vm.new n pg rm):=by
 have HOK:=hid (VmOk.new h1 h2 h3 h4 h5)
 have HPN:=hid (fun w=>pool_new rm pg (by omega) w)
 have HB:=hid (show (roomOk rm&&pageOk pg)=true by rw [h1,h2];rfl)
 have hd:n/pg*pg=n:=by have:=Nat.div_add_mod n pg;rw [h5,Nat.mul_comm] at this;omega
 have h8:1<=n/pg:=by
  rcases Nat.eq_zero_or_pos (n/pg) with h | h
  ·rw [h] at hd;omega
  ·exact h
 have h9:n/pg<=524288:=by have:=Nat.div_le_self n pg;omega
 obtain ⟨m,hm⟩:∃ m,m=n/pg:=⟨_,rfl⟩
 have q1:((n:Int).tdiv (pg:Int))=(m:Int):=by rw [hm];rfl
 have q2:((n:Int)/(pg:Int))=(m:Int):=by rw [hm];rfl
 have q3:((n:Int).tmod (pg:Int))=0:=by rw [show ((n:Int).tmod (pg:Int))=((n%pg:Nat):Int) from rfl,h5];rfl
 have q4:((n:Int)%(pg:Int))=0:=by rw [show ((n:Int)%(pg:Int))=((n%pg:Nat):Int) from rfl,h5];rfl
 rw [<-hm] at h8 h9
 have HM:=hid hm
 have HPG:=hid (fun w=>pg_new (w:=w) h8 h9)
 have hBp:(pg:Int)≠0:=by omega
 clear h1 h2 h5 hd hm
 go_enter Tryz.func71,Tryz.ntmps71
 go_wp2_with (first
  | (go_at_call 170;refine (HPN.out _).mono ?_;rintro e w1 (⟨h,-⟩ | ⟨-,rfl,hg1,hp1⟩);(exact absurd (HB.out.symm.trans h) (by decide));have HG1:=hid hg1;have HP1:=hid hp1;clear hg1 hp1)
  | (go_at_call 171;refine (HPG.out _).mono ?_;rintro e w2 ⟨q2,rfl,hg2,hp2⟩;have hr2:=(Rec.new w1 237 [.pointer (some ⟨w.heap.size,0,none⟩),.pointer none,.int .i64 n]).gr hg2;have kf:=hr2.free 1;have k1:=hr2.cell (j:=1) rfl;have HR2:=hid hr2;have HG2:=hid hg2;have HP2:=hid hp2;clear hg2 hp2 hr2))
 go_ret2
 have z1:=HG1.out.size
 have z2:=HG2.out.size
 have hq:w.heap.size<w1.heap.size:=HP1.out.row.elim fun _ h=>by
  obtain ⟨_,_,_,_,hr,-⟩:=h
  exact hr.lt
 have hG:=Touch.setCell (Touch.refl (fun k=>k=w1.heap.size) w2) (a:=⟨w1.heap.size,1,none⟩) (fun _=>rfl) (.pointer (some ⟨q2,0,none⟩))
 simp only [World.size_alloc] at z2
 refine ⟨_,ret2 rfl rfl,?_,HOK.out,z1,cutS (fun b=>w.heap.size<=b) w1,fun k=>w1.heap.size+1<=k,w.heap.size,q2,Rec.set HR2.out 1 _,?_,?_,fun k hk=>hk.1,fun k hk=>by omega,fun k hk hk2=>by have:=hk.2;omega,fun h=>by have:=h.2;omega,fun h=>by omega⟩
 ·exact Touch.gr ((((HG1.out.alloc _).trans HG2.out).touch (fun k=>w.heap.size<=k)).trans (hG.mono (fun k _ hk=>by omega)) |>.mono (fun k hk h=>by omega))
 ·have:=(HP1.out.cut.gr (((Gr.refl w1).alloc _).trans HG2.out)).touch hG (fun k hk _ he=>by have:=hk.2;omega)
  rw [Int.toNat_natCast,Int.toNat_natCast] at this
  exact this
 ·have:=HP2.out.touch hG (fun k hk _ he=>by simp only [World.size_alloc] at hk;omega)
  rw [HM.out] at this
  exact this.mono (fun k hk=>by simpa using hk)
end
end Go.Proofs.YthgdadohijgleaaGreatDoor
end
section
namespace Go.Proofs.YthgdadohijgleaaGreatDoor
open Go.RowKit Word
structure Grown (v v':Vm) (F:List Nat):Prop where
 ok:VmOk v'
 n:v'.n=v.n
 pg:v'.pl.pg=v.pl.pg
 rm:v'.pl.rm=v.pl.rm
 us:v'.pl.used=v.pl.used+F.length
 nd:F.Nodup
 un:∀ p∈F,p<v.pt.length/\v.pt.getD p 0=0
 ma:∀ p,p<v.pt.length->(v'.pt.getD p 0≠0↔(v.pt.getD p 0≠0\/p∈F))
 vl:∀ a:Nat,a<v.n->v'.ldV a=if a/v.pl.pg∈F then 0 else v.ldV a
theorem VmOk.len {v:Vm} (h:VmOk v):v.pt.length=v.n/v.pl.pg:=by
 rw [h.np,Nat.mul_div_cancel _ h.page.1]
theorem Grown.len {v v':Vm} {F:List Nat} (h:Grown v v' F) (hv:VmOk v):v'.pt.length=v.pt.length:=by
 rw [h.ok.len,hv.len,h.n,h.pg]
theorem Grown.ldE {v v':Vm} {F:List Nat} (h:Grown v v' F) (hv:VmOk v) {a:Nat} (ha:a<v.n):v'.ldE a=if a/v.pl.pg∈F then 0 else v.ldE a:=by
 have h1:=h.ma _ (hv.split ha).1
 rw [h.ok.ldE_of (by rw [h.n];exact ha),hv.ldE_of ha,h.pg]
 by_cases hf:a/v.pl.pg∈F
 ·rw [if_pos hf,if_neg (h1.2 (.inr hf))]
 ·rw [if_neg hf]
  by_cases h0:v.pt.getD (a/v.pl.pg) 0=0
  ·rw [if_pos h0,if_pos]
   exact Decidable.not_not.1 (fun hn=>(h1.1 hn).elim (fun h'=>h' h0) hf)
  ·rw [if_neg h0,if_neg (h1.2 (.inl h0))]
theorem Grown.refl {v:Vm} (h:VmOk v):Grown v v []:=
 ⟨h,rfl,rfl,rfl,rfl,List.nodup_nil,fun p hp=>(by cases hp),fun p _=>by simp,fun a _=>by simp⟩
theorem Grown.mp {v v':Vm} {F:List Nat} (h:Grown v v' F) (hv:VmOk v) {p:Nat} (hp:v'.mpE p=0):Grown v (v'.mp p) (F++[p]):=by
 have e1:v'.mp p={ v' with pl:=v'.pl.take,pt:=v'.pt.set p (v'.pl.next+1) }:=by unfold Vm.mp;rw [if_pos hp,Int.toNat_natCast]
 obtain ⟨j,hj,hjl,h0,hr⟩:=mpE_zero hp
 obtain rfl:p=j:=by omega
 have hl:=h.len hv
 have h1:=h.ma p (by omega)
 have hpF:p ∉ F:=fun hf=>h1.2 (.inr hf) h0
 have hp0:v.pt.getD p 0=0:=Decidable.not_not.1 (fun hn=>h1.2 (.inl hn) h0)
 refine ⟨h.ok.mp p,?_,?_,?_,?_,?_,fun i hi=>?_,fun i hi=>?_,fun a ha=>?_⟩
 ·rw [e1];exact h.n
 ·rw [e1];exact (fresh_same v'.pl).1.trans h.pg
 ·rw [e1];exact (fresh_same v'.pl).2.1.trans h.rm
 ·rw [e1,List.length_append]
  show v'.pl.take.used=_
  rw [take_used h.ok.pl,h.us];rfl
 ·rw [List.nodup_append]
  exact ⟨h.nd,by simp,fun a ha b hb=>by simp at hb;subst hb;rintro rfl;exact hpF ha⟩
 ·rcases List.mem_append.1 hi with h' | h'
  ·exact h.un i h'
  ·simp at h';subst h';exact ⟨by omega,hp0⟩
 ·rw [e1]
  show (v'.pt.set p _).getD i 0≠0↔_
  rw [getD_setM hjl,List.mem_append]
  by_cases e:p=i
  ·subst e;simp
  ·rw [if_neg e,h.ma i hi]
   have:i ∉ [p]:=by simp;omega
   simp [this]
 ·have:=h.ok.mp_ldV hp (a:=a) (by rw [h.n];exact ha)
  rw [this,h.pg,h.vl a ha]
  by_cases e:a/v.pl.pg=p
  ·rw [if_pos e,if_pos (List.mem_append.2 (.inr (by simp [e])))]
  ·rw [if_neg e]
   by_cases hf:a/v.pl.pg∈F
   ·rw [if_pos hf,if_pos (List.mem_append.2 (.inl hf))]
   ·rw [if_neg hf,if_neg]
    intro hm
    rcases List.mem_append.1 hm with h' | h'
    ·exact hf h'
    ·simp at h';exact e h'
theorem Grown.um {v v':Vm} {F:List Nat} {p:Nat} (h:Grown v v' (F++[p])) (hv:VmOk v):frE v'.pt p=0/\Grown v (v'.um p) F:=by
 obtain ⟨hpl,hp0⟩:=h.un p (by simp)
 have hl:=h.len hv
 have h1:=(h.ma p hpl).2 (.inr (by simp))
 have hfr:frE v'.pt p=0:=by rw [frE_of (by omega),if_neg h1]
 have e1:v'.um p={ v' with pl:=v'.pl.give (v'.pt.getD p 0-1),pt:=v'.pt.set p 0 }:=by unfold Vm.um;rw [if_pos hfr,Int.toNat_natCast]
 have hnd:=List.nodup_append.1 h.nd
 have hpF:p ∉ F:=fun hf=>hnd.2.2 p hf p (by simp) rfl
 refine ⟨hfr,h.ok.um p,?_,?_,?_,?_,hnd.1,fun i hi=>h.un i (by simp [hi]),fun i hi=>?_,fun a ha=>?_⟩
 ·rw [e1];exact h.n
 ·rw [e1];exact h.pg
 ·rw [e1];exact h.rm
 ·rw [e1]
  show (v'.pl.give _).used=_
  have h2:=give_used (p:=v'.pl) (h.ok.frame h1)
  have h3:=h.us
  rw [List.length_append,List.length_singleton] at h3
  omega
 ·rw [e1]
  show (v'.pt.set p 0).getD i 0≠0↔_
  rw [getD_setM (by omega)]
  by_cases e:p=i
  ·subst e
   rw [if_pos rfl]
   exact ⟨fun h=>absurd rfl h,fun h=>h.elim (fun h=>absurd hp0 h) (fun h=>absurd h hpF)⟩
  ·have:i ∉ [p]:=by simp;omega
   rw [if_neg e,h.ma i hi,List.mem_append]
   simp [this]
 ·by_cases e:a/v.pl.pg=p
  ·have hE:=h.ok.um_ldE hfr (a:=a) (by rw [h.n];exact ha)
   rw [h.pg,if_pos e] at hE
   have hE2:=hv.ldE_of ha
   rw [e,if_pos hp0] at hE2
   rw [e,if_neg hpF]
   unfold Vm.ldV
   rw [hE,hE2];rfl
  ·have:=h.ok.um_ldV hfr (a:=a) (by rw [h.n];exact ha) (by rw [h.pg];exact e)
   rw [this,h.vl a ha]
   by_cases hf:a/v.pl.pg∈F
   ·rw [if_pos hf,if_pos (List.mem_append.2 (.inl hf))]
   ·rw [if_neg hf,if_neg]
    intro hm
    rcases List.mem_append.1 hm with h' | h'
    ·exact hf h'
    ·simp at h';exact e h'
end Go.Proofs.YthgdadohijgleaaGreatDoor
end
section
namespace Go.Proofs.YthgdadohijgleaaGreatDoor
open Go.RowKit Word
section
variable {w:World} {S:Nat->Prop} {q:Nat} {v:Vm}
def GrownAt (w:World) (S:Nat->Prop) (q:Nat) (v:Vm) (F:List Nat):Prop:=∃ v',Grown v v' F/\VmAt w S q v'
set_option maxRecDepth 100000 in
set_option maxHeartbeats 1600000 in
theorem vm_undo {bs bm:Nat} {F:List Nat} {vF:Value} (hv:VmOk v) (hG:GrownAt w S q v F) (hF:w.ownsRow 0 3 1 vF F.length (i64s F)) (hs:∀ g,vF.ownBlock=some g->¬ S g)
  (cs:w.cell? ⟨bs,0,none⟩=some vF) (cm:w.cell? ⟨bm,0,none⟩=some (.pointer (some ⟨q,0,none⟩))) (ls:bs<w.heap.size) (lm:bm<w.heap.size) (ns:¬ S bs) (nm:¬ S bm):
  Calls Tryz.prog 243 #[.pointer (some ⟨bs,0,none⟩),.pointer (some ⟨bm,0,none⟩)] w fun e w'=>e=.returned (.tuple #[])/\Touch S w w'/\GrownAt w' (plus S w) q v []:=by
 obtain ⟨A,c,rfl,hc1,hc2⟩:=own_shape hF
 unfold maxLen at hc2
 have hlen:F.length<=524288:=by
  obtain ⟨v',hg,-⟩:=hG
  have h1:=hg.us
  have h2:=hg.ok.us
  have h3:=nz_le v'.pt
  have h4:=hg.ok.pt.n2
  omega
 have HF:=hid hF
 have HG:=hid hG
 have HV:=hid hv
 have HS:=hid hs
 obtain ⟨N,hN⟩:∃ N,N=F.length:=⟨_,rfl⟩
 rw [<-hN] at cs hc1 hlen
 have HN:=hid hN
 clear hF hG hv hs hN
 go_enter Tryz.func243,Tryz.ntmps243
 go_wp2
 go_loopw [2] (fun i wr=>∃ k:Nat,k<=N/\Hid (Touch S w wr)/\Hid (GrownAt wr (plus S w) q v (F.take k))/\i=.int .i64 ((k:Int)-1)) (fun i _=>(intOf i+1).toNat)
 case atStart=>exact ⟨N,Nat.le_refl _,⟨Touch.refl S w⟩,⟨by obtain ⟨v',hg,ha⟩:=HG.out;exact ⟨v',by rw [HN.out,List.take_length];exact hg,ha.mono (fun k hk=>.inl hk)⟩⟩,by go_num⟩
 case round=>
  obtain ⟨k,hk,HT,HK,rfl⟩:=hrel
  by_cases hk0:k=0
  ·subst hk0
   go_wp2
   go_end0
   exact ⟨rfl,HT.out,HK.out⟩
  ·obtain ⟨j,rfl⟩:∃ j,k=j+1:=⟨k-1,by omega⟩
   have hjF:j<F.length:=by have:=HN.out;omega
   obtain ⟨g,c',e1,-,-,-,-⟩:=own_form HF.out (by omega)
   simp only [Value.slice.injEq] at e1
   obtain ⟨rfl,-,rfl⟩:=e1
   have hgl:=(own_lt HF.out (g:=g) rfl).2
   have ng:=HS.out g rfl
   have kb:=own_cell HF.out (i64s_at hjF)
   obtain ⟨p,hp⟩:∃ p,p=F[j]:=⟨_,rfl⟩
   rw [<-hp] at kb
   have HP:Hid (F.take (j+1)=F.take j++[p]):=⟨by rw [hp,List.take_add_one,List.getElem?_eq_getElem hjF];rfl⟩
   have KS:Hid (∀ W',Gr wr W'->W'.cell? ⟨bs,0,none⟩=some (.slice (some ⟨g,0,none⟩) N c)/\W'.cell? ⟨bm,0,none⟩=some (.pointer (some ⟨q,0,none⟩))/\W'.cell? ⟨g,j,none⟩=some (.int .i64 (p:Nat))):=
    ⟨fun W' h=>⟨(h.cell (Nat.lt_of_lt_of_le ls HT.out.size) 0).trans ((HT.out.cell ls ns 0).trans cs),(h.cell (Nat.lt_of_lt_of_le lm HT.out.size) 0).trans ((HT.out.cell lm nm 0).trans cm),(h.cell (Nat.lt_of_lt_of_le hgl HT.out.size) j).trans ((HT.out.cell hgl ng j).trans kb)⟩⟩
   have hjN:(j:Int)<(N:Int):=by omega
   clear hjF hgl ng kb hp cs cm
   go_upto_region 3 with (fail)
   obtain ⟨Sx,hSx⟩:∃ Sx:World->Prop,Sx=fun W'=>Gr wr W':=⟨_,rfl⟩
   have x1:∀ p:Held Sx,p.w.cell? ⟨bs,0,none⟩=some (.slice (some ⟨g,0,none⟩) N c):=fun p=>(KS.out _ (Held.get hSx p)).1
   have x2:∀ p:Held Sx,p.w.cell? ⟨bm,0,none⟩=some (.pointer (some ⟨q,0,none⟩)):=fun p=>(KS.out _ (Held.get hSx p)).2.1
   have x3:∀ r:Held Sx,r.w.cell? ⟨g,j,none⟩=some (.int .i64 (p:Nat)):=fun p=>(KS.out _ (Held.get hSx p)).2.2
   have hS0:Sx wr.drew:=by rw [hSx];exact (Gr.refl wr).drew
   have inst:Inhabited (Held Sx):=⟨⟨_,hS0⟩⟩
   clear hSx
   refine wp_region_mixS Sx 5 [([0,1,2,3,4],5)] [] (by kernel_rfl) (by kernel_rfl) hS0 ?_
   refine segs_step ?_
   simp only [opsAt,List.getElem?_cons_zero,List.getElem?_cons_succ]
   repeat (go_big_quiet_step (fail))
   refine wpQuiet_nil ?_
   obtain ⟨vk,hgk,hvk⟩:=HK.out
   rw [HP.out] at hgk
   have HUM:=hid (hgk.um HV.out)
   have HVK:=hid (hvk.gr (Gr.refl wr).drew)
   clear hgk hvk
   go_wp2_with (go_at_call 199;refine (vm_unmap HVK.out (p:Int)).mono ?_;rintro e w1 ⟨rfl,ht1,hv1⟩;have HT1:=hid ht1;have HV1:=hid hv1;clear ht1 hv1)
   refine ⟨.inl trivial,?_⟩
   refine segs_end ?_
   refine wpQuiet_nil ?_
   refine NoPanic.normal ?_
   clear x1 x2 x3 hS0 inst
   clear Sx
   go_wp2
   have hsz:=HT.out.size
   have h1:Touch (plus S w) wr w1:=((Gr.refl wr).drew.touch _).trans HT1.out
   go_round
   case rel=>
    refine ⟨j,by omega,⟨HT.out.trans' h1 (fun i hi hp=>hp.resolve_right (by omega))⟩,⟨_,HUM.out.2,HV1.out.mono (fun k hk=>?_)⟩,by go_num⟩
    rcases hk with h | h
    ·exact h
    ·exact .inr (Nat.le_trans hsz h)
   case measure=>simp [intOf]
def unmL (v:Vm) (p0 k:Nat):List Nat:=(List.range' p0 k).filter fun p=>v.pt.getD p 0==0
theorem unmL_succ (v:Vm) (p0 k:Nat):unmL v p0 (k+1)=if v.pt.getD (p0+k) 0=0 then unmL v p0 k++[p0+k] else unmL v p0 k:=by
 unfold unmL
 rw [List.range'_concat,List.filter_append]
 by_cases h:v.pt.getD (p0+k) 0=0
 ·rw [if_pos h,List.filter_cons_of_pos (by rw [Nat.one_mul];exact beq_iff_eq.2 h),Nat.one_mul];rfl
 ·rw [if_neg h,List.filter_cons_of_neg (by rw [Nat.one_mul];simpa using h)];simp
theorem unmL_mem {v:Vm} {p0 k p:Nat}:p∈unmL v p0 k↔(p0<=p/\p<p0+k)/\v.pt.getD p 0=0:=by
 unfold unmL
 rw [List.mem_filter,List.mem_range'_1]
 simp
theorem unmL_le (v:Vm) (p0:Nat) {k m:Nat} (h:k<=m):(unmL v p0 k).length<=(unmL v p0 m).length:=by
 induction m with
 | zero=>rw [Nat.le_zero.1 h];exact Nat.le_refl _
 | succ m ih=>
  rcases Nat.lt_or_ge m k with h' | h'
  ·rw [show k=m+1 by omega];exact Nat.le_refl _
  ·refine Nat.le_trans (ih h') ?_
   rw [unmL_succ]
   split
   ·simp
   ·exact Nat.le_refl _
def pgsN (v:Vm) (f t:Int):Nat:=((t-1)/v.pl.pg-f/v.pl.pg+1).toNat
def needE (v:Vm) (f t:Int):Int:=if f<0\/(v.n:Int)<t then 11 else if t<=f then 0 else if v.pl.used+(unmL v (f/v.pl.pg).toNat (pgsN v f t)).length<=v.pl.rm then 0 else 14
def needF (v:Vm) (f t:Int):List Nat:=if needE v f t=0/\f<t then unmL v (f/v.pl.pg).toNat (pgsN v f t) else []
structure NeedInv (w wr:World) (S S':Nat->Prop) (q:Nat) (v:Vm) (p0 k bs bm:Nat) (vF:Value):Prop where
 t:Touch S w wr
 g:GrownAt wr S' q v (unmL v p0 k)
 own:wr.ownsRow 0 3 1 vF (unmL v p0 k).length (i64s (unmL v p0 k))
 rs:Rec wr bs 40 [vF]
 rm:Rec wr bm 107 [.pointer (some ⟨q,0,none⟩)]
 sub:∀ k,S' k->plus S w k
 ns:¬ S' bs
 nm:¬ S' bm
 ng:∀ g,vF.ownBlock=some g->¬ S' g
 ls:w.heap.size<=bs
 lg:∀ g,vF.ownBlock=some g->w.heap.size<=g
theorem NeedInv.map {w wr w1:World} {S S':Nat->Prop} {q:Nat} {v:Vm} {p0 k bs bm:Nat} {vF:Value} (h:NeedInv w wr S S' q v p0 k bs bm vF) (t:Touch S' wr w1):
  Touch S w w1/\w1.ownsRow 0 3 1 vF (unmL v p0 k).length (i64s (unmL v p0 k))/\Rec w1 bs 40 [vF]/\Rec w1 bm 107 [.pointer (some ⟨q,0,none⟩)] ∧
   (∀ k,plus S' wr k->plus S w k)/\¬ plus S' wr bs/\¬ plus S' wr bm/\(∀ g,vF.ownBlock=some g->¬ plus S' wr g):=by
 have hz:=h.t.size
 refine ⟨h.t.trans' t (fun i hi hs=>(h.sub i hs).resolve_right (by omega)),own_touch h.own t h.ng,h.rs.touch t h.ns,h.rm.touch t h.nm,fun k hk=>?_,fun hk=>?_,fun hk=>?_,fun g hg hk=>?_⟩
 ·rcases hk with hk | hk
  ·exact h.sub k hk
  ·exact .inr (by omega)
 ·have:=h.rs.lt
  exact hk.elim h.ns (by omega)
 ·have:=h.rm.lt
  exact hk.elim h.nm (by omega)
 ·have:=(own_lt h.own hg).2
  exact hk.elim (h.ng g hg) (by omega)
set_option maxRecDepth 100000 in
set_option maxHeartbeats 1600000 in
theorem vm_need (hV:VmAt w S q v) (f t:Nat) (ht:t<=v.n) (hft:f<t):Calls Tryz.prog 146 #[.pointer (some ⟨q,0,none⟩),.int .i64 f,.int .i64 t] w fun e w'=>e=.returned (.int .i64 (needE v f t))/\Touch S w w'/\GrownAt w' (plus S w) q v (needF v f t):=by
 have HV:=hid hV
 have hn:=hV.ok.n2
 obtain ⟨S1,S2,b1,b2,hr,hp,-⟩:=hV.row
 have hql:=hr.lt
 have c0:=hr.cell (j:=0) rfl
 have c2:=hr.cell (j:=2) rfl
 have hpg:=hV.ok.page
 have HP:=hid hp
 obtain ⟨p0,hp0⟩:∃ p0,p0=f/v.pl.pg:=⟨_,rfl⟩
 obtain ⟨p1,hp1⟩:∃ p1,p1=(t-1)/v.pl.pg:=⟨_,rfl⟩
 have h01:p0<=p1:=by rw [hp0,hp1];exact Nat.div_le_div_right (by omega)
 have h1l:p1<v.pt.length:=by rw [hp1];exact (hV.ok.split (by omega)).1
 have ht1:(t:Int)-1=((t-1:Nat):Int):=by omega
 have HNE:Hid (pgsN v f t=p1+1-p0/\((f:Int)/(v.pl.pg:Int)).toNat=p0):=⟨by
  unfold pgsN
  rw [ht1,<-Int.natCast_ediv,<-Int.natCast_ediv,<-hp0,<-hp1]
  exact ⟨by omega,Int.toNat_natCast _⟩⟩
 have HE:Hid (needE v f t=if v.pl.used+(unmL v p0 (p1+1-p0)).length<=v.pl.rm then 0 else 14):=⟨by
  unfold needE
  rw [if_neg (by omega),if_neg (by omega),HNE.out.1,HNE.out.2]⟩
 have HF:Hid (needF v f t=if v.pl.used+(unmL v p0 (p1+1-p0)).length<=v.pl.rm then unmL v p0 (p1+1-p0) else []):=⟨by
  unfold needF
  rw [HE.out,HNE.out.1,HNE.out.2]
  split
  ·rw [if_pos ⟨rfl,by omega⟩]
  ·rw [if_neg (fun h=>absurd h.1 (by decide))]⟩
 obtain ⟨B,hB⟩:∃ B,B=v.pl.pg:=⟨_,rfl⟩
 have HB:=hid hB
 rw [<-hB] at hp0 hp1 hpg
 have q1:((f:Int).tdiv (B:Int))=(p0:Int):=by rw [hp0];rfl
 have q2:((f:Int)/(B:Int))=(p0:Int):=by rw [hp0];rfl
 have q3:(((t:Int)-1).tdiv (B:Int))=(p1:Int):=by rw [ht1,hp1];rfl
 have q4:(((t:Int)-1)/(B:Int))=(p1:Int):=by rw [ht1,hp1];rfl
 have hBp:(B:Int)≠0:=by omega
 have d0:decide ((f:Int)<0)=false:=decide_eq_false (by omega)
 have d1:decide ((v.n:Int)<(t:Int))=false:=decide_eq_false (by omega)
 have d2:decide ((t:Int)<=(f:Int))=false:=decide_eq_false (by omega)
 have hpt:=hV.ok.pt.n2
 clear hV hr hp hB hp0 hp1 ht1
 go_enter Tryz.func146,Tryz.ntmps146
 go_wp2_with (first
  | (go_at_call 164;refine (vm_none (HV.out.gr ((Gr.refl w).alloc _))).mono ?_;rintro e w1 ⟨rfl,rfl⟩)
  | (go_at_call 244;refine (pool_page (HP.out.gr (((Gr.refl w).alloc _).alloc _))).mono ?_;rintro e w1 ⟨rfl,rfl⟩;rw [<-HB.out]))
 obtain ⟨bm,hbm⟩:∃ bm,bm=w.heap.size:=⟨_,rfl⟩
 rw [<-hbm]
 have HI0:=hid (show NeedInv w ((w.alloc (Obj.cells #[.pointer (some ⟨q,0,none⟩)] 107)).alloc (Obj.cells #[.slice none 0 0] 40)) S (cutS S w) q v p0 0 (bm+1) bm (.slice none 0 0) from
  ⟨((Touch.refl S w).alloc _).alloc _,⟨v,Grown.refl HV.out.ok,HV.out.cut.gr (((Gr.refl w).alloc _).alloc _)⟩,own_nil _ _ _ _,by
   have:=Rec.new (w.alloc (Obj.cells #[.pointer (some ⟨q,0,none⟩)] 107)) 40 [.slice none 0 0]
   rw [World.size_alloc,<-hbm] at this
   exact this,by
   have:=Rec.gr (Rec.new w 107 [.pointer (some ⟨q,0,none⟩)]) ((Gr.refl _).alloc (Obj.cells #[.slice none 0 0] 40))
   rw [<-hbm] at this
   exact this,fun k hk=>.inl hk.1,fun h=>by have:=h.2;omega,fun h=>by have:=h.2;omega,(fun g h=>by cases h),by omega,(fun g h=>by cases h)⟩)
 go_loopw [10] (fun p wr=>∃ (k:Nat) (S':Nat->Prop) (vF:Value),k<=p1+1-p0/\Hid (NeedInv w wr S S' q v p0 k (bm+1) bm vF)/\p=.int .i64 ((p0+k:Nat):Int)) (fun p _=>p1+1-(intOf p).toNat)
 case atStart=>exact ⟨0,cutS S w,.slice none 0 0,by omega,HI0,by go_num⟩
 case round=>
  obtain ⟨k,S',vF,hk,HI,rfl⟩:=hrel
  have HBM:=hid hbm
  clear HI0 c0 c2 hbm
  obtain ⟨r,hr⟩:∃ r,r=p0+k:=⟨_,rfl⟩
  rw [<-hr]
  by_cases hlast:k=p1+1-p0
  ·have d3:decide (r<=p1)=false:=decide_eq_false (by omega)
   have HR:=hid hr
   have HL:=hid hlast
   clear hr hlast
   go_wp2
   go_ret
   obtain ⟨v',hg,hv'⟩:=HI.out.g
   have hus:=hg.us
   have hle:=used_le hg.ok.pl
   rw [hg.rm,hus] at hle
   rw [HL.out] at hg hle
   refine ⟨ret_int (by rw [HE.out,if_pos hle]),HI.out.t,v',?_,hv'.mono HI.out.sub⟩
   rw [HF.out,if_pos hle]
   exact hg
  ·have d3:decide (r<=p1)=true:=decide_eq_true (by omega)
   obtain ⟨v',hg,hv'⟩:=HI.out.g
   obtain ⟨A,c,rfl,hc1,hc2⟩:=own_shape HI.out.own
   unfold maxLen at hc2
   have hS:=unmL_succ v p0 k
   rw [<-hr] at hS
   have hrl:r<v.pt.length:=by omega
   have hma:=hg.ma r hrl
   have hFr:r ∉ unmL v p0 k:=fun h=>by have:=(unmL_mem.1 h).1;omega
   have hl':=hg.len HV.out.ok
   have hpE:pgE v'.pt r=0:=by unfold pgE;rw [if_pos ⟨by omega,by omega⟩]
   have km:=HI.out.rm.cell (j:=0) rfl
   have hr2:r<=524288:=by omega
   have lbm:=HI.out.rm.lt
   have lbs:=HI.out.rs.lt
   have HVK:=hid hv'
   have HGK:=hid hg
   have HK:=hid hk
   have HR:=hid hr
   have HLA:=hid hlast
   by_cases h0:v.pt.getD r 0=0
   ·rw [if_pos h0] at hS
    have h0':v'.pt.getD r 0=0:=Decidable.not_not.1 (fun hn=>(hma.1 hn).elim (fun h=>h h0) hFr)
    by_cases hroom:v'.pl.used=v'.pl.rm
    ·have HM:Hid (v'.mpE r=14):=⟨by
      unfold Vm.mpE
      rw [if_neg (by rw [hpE];decide),Int.toNat_natCast,if_neg (by rw [h0'];decide),if_pos hroom]⟩
     have HE0:Hid (¬ v.pl.used+(unmL v p0 (p1+1-p0)).length<=v.pl.rm):=⟨by
      have h1:=unmL_le v p0 (show k+1<=p1+1-p0 by omega)
      rw [hS,List.length_append,List.length_singleton] at h1
      have h2:=hg.us
      have h3:=hg.rm
      omega⟩
     clear hS h0 h0' hroom hma hFr hl' hpE hg hv' hk hr hlast hrl
     go_wp2_with (first
      | (go_at_call 245;refine (vm_map HVK.out r).mono ?_;rintro e w1 ⟨rfl,ht1,hv1⟩;rw [HM.out];have HT1:=hid ht1;have HV1:=hid hv1;clear ht1 hv1)
      | (go_at_call 243;have hv1:=HV1.out;rw [mp_none (by rw [HM.out];decide)] at hv1;obtain ⟨-,i2,i3,i4,-,i6,i7,i8⟩:=HI.out.map HT1.out;refine (vm_undo HV.out.ok ⟨_,HGK.out,hv1⟩ i2 i8 (i3.cell (j:=0) rfl) (i4.cell (j:=0) rfl) i3.lt i4.lt i6 i7).mono ?_;rintro e w2 ⟨rfl,ht2,hg2⟩;have HT2:=hid ht2;have HG2:=hid hg2;clear ht2 hg2 hv1 i2 i3 i4 i6 i7 i8))
     go_ret
     obtain ⟨i1,i2,i3,i4,i5,i6,i7,i8⟩:=HI.out.map HT1.out
     have hz:=HI.out.t.size
     have hz1:=HT1.out.size
     refine ⟨ret_int (by rw [HE.out,if_neg HE0.out]),i1.trans' HT2.out (fun i hi hs=>(i5 i hs).resolve_right (by omega)),?_⟩
     rw [HF.out,if_neg HE0.out]
     obtain ⟨v2,hg2,hv2⟩:=HG2.out
     refine ⟨v2,hg2,hv2.mono (fun k hk=>?_)⟩
     rcases hk with hk | hk
     ·exact i5 k hk
     ·exact .inr (by omega)
    ·have HM:Hid (v'.mpE r=0):=⟨by
      unfold Vm.mpE
      rw [if_neg (by rw [hpE];decide),Int.toNat_natCast,if_neg (by rw [h0'];decide),if_neg hroom]⟩
     have HGN:=hid (hg.mp HV.out.ok HM.out)
     have HSU:=hid hS
     have hFl:(unmL v p0 k).length<=524288:=by
      have h1:=hg.us
      have h2:=hg.ok.us
      have h3:=nz_le v'.pt
      have h4:=hg.ok.pt.n2
      omega
     obtain ⟨N,hN⟩:∃ N,N=(unmL v p0 k).length:=⟨_,rfl⟩
     have HN:=hid hN
     rw [<-hN] at hc1 hFl
     clear hS h0 h0' hroom hma hFr hl' hpE hg hv' hk hr hlast hrl
     rw [<-hN] at HI
     clear hN
     obtain ⟨ii,hii,hi0,hi1,hi2⟩:=info_parts infoInt'
     go_wp2_with (first
      | (go_at_call 245;refine (vm_map HVK.out r).mono ?_;rintro e w1 ⟨rfl,ht1,hv1⟩;rw [HM.out];have HRS1:=hid (HI.out.rs.touch ht1 HI.out.ns);have ks:=HRS1.out.cell (j:=0) rfl;have HT1:=hid ht1;have HV1:=hid hv1;have HO1:=hid (HI.out.map ht1).2.1;rw [<-HN.out] at HO1;clear ht1 hv1)
      | (at_builtin;refine wpList_append_lies _ rfl _ _ 40 rfl 0 3 ii _ 1 8 Tryz.underlying40 hii hi0 hi1 hi2 rfl (by decide) (.slice A N c) N (i64s (unmL v p0 k)) rfl (HO1.out.alloc _) ⟨w1.heap.size,0,none⟩ 1 1 [.int .i64 (r:Nat)] rfl rfl (World.news_of_block (cs:=#[.int .i64 (r:Nat)]) (t:=3) (fr:=(0,0)) (heap_alloc_new w1 (.cells #[.int .i64 (r:Nat)] 3))) (by simp [Value.oneCell']) (by omega) (by unfold maxLen;omega) (by omega) (Nat.zero_le _) (w1.heap.size+1) (by simp) ?_;intro g2 c2' w2 hown2 hgrow2 hat2 hlt2;have t2:Touch (fun k=>(Value.slice A N c).ownBlock=some k) w1 w2:=(((Gr.refl _).alloc _).touch _).trans (grown_touch hgrow2 _ (fun k e _=>e));have HRS2:=hid (HRS1.out.touch t2 (fun e=>own_ne HO1.out HRS1.out (by decide) e rfl rfl));have ks2:=HRS2.out.cell (j:=0) rfl;have kf2:=HRS2.out.free 0;have HT2:=hid t2;have HO2:=hid hown2;have HA2:=hid (And.intro hat2 hlt2);clear hown2 hgrow2 hat2 hlt2 t2))
     have hI:=HI.out
     have hN:=HN.out
     obtain ⟨i1,i2,i3,i4,i5,i6,i7,i8⟩:=HI.out.map HT1.out
     have hz:=HI.out.t.size
     have hz1:=HT1.out.size
     have hz2:=HT2.out.size
     have hat2:=HA2.out
     have hT12:Touch S w w2:=i1.trans' HT2.out (fun i hi hs=>by have:=HI.out.lg i hs;omega)
     go_round
     case rel=>
      refine ⟨k+1,cutS (plus S' wr) w1,.slice (some ⟨g2,0,none⟩) (N+1) c2',by have:=HK.out;have:=HLA.out;omega,⟨?_⟩,by rw [HR.out];go_num⟩
      refine ⟨hT12.setCell (a:=⟨bm+1,0,none⟩) (fun h=>by have:=HBM.out;have h:bm+1<w.heap.size:=h;omega) _,?_,?_,?_,?_,fun i hi=>i5 i hi.1,fun h=>i6 h.1,fun h=>i7 h.1,fun g hg=>?_,by have:=HBM.out;omega,fun g hg=>?_⟩
      ·refine ⟨_,by rw [HSU.out];exact HGN.out,((HV1.out.cut.touch HT2.out (fun i hi _ e=>i8 i e hi.1)).touch ((Touch.refl (fun i=>i=bm+1) w2).setCell (a:=⟨bm+1,0,none⟩) (fun _=>rfl) _) (fun i hi _ e=>by subst e;exact i6 hi.1))⟩
      ·rw [HSU.out,List.length_append,List.length_singleton,<-HN.out,show i64s (unmL v p0 k++[r])=i64s (unmL v p0 k)++[.int .i64 (r:Nat)] by unfold i64s;rw [List.map_append];rfl]
       exact own_set_other HO2.out _ (fun g hg=>own_ne HO2.out HRS2.out (by decide) hg rfl)
      ·exact Rec.set HRS2.out 0 _
      ·exact own_set_other (i4.touch HT2.out (fun e=>own_ne HO1.out i4 (by decide) e rfl rfl)) _ (fun g hg=>by cases hg;show bm≠bm+1;omega)
      ·intro hc
       cases hg
       rcases hat2.1 with h | h
       ·exact i8 _ h hc.1
       ·have:g2<w1.heap.size:=hc.2
        omega
      ·cases hg
       rcases hat2.1 with h | h
       ·exact HI.out.lg _ h
       ·show w.heap.size<=g2
        omega
     case measure=>have:=HK.out;have:=HLA.out;have:=HR.out;simp [intOf];omega
   ·rw [if_neg h0] at hS
    have h0':v'.pt.getD r 0≠0:=hma.2 (.inl h0)
    have HM:Hid (v'.mpE r=13):=⟨by
     unfold Vm.mpE
     rw [if_neg (by rw [hpE];decide),Int.toNat_natCast,if_pos h0']⟩
    have HSU:=hid hS
    clear hS h0 h0' hma hFr hl' hpE hg hv' hk hr hlast hrl
    go_wp2_with (go_at_call 245;refine (vm_map HVK.out r).mono ?_;rintro e w1 ⟨rfl,ht1,hv1⟩;rw [HM.out];have HT1:=hid ht1;have HV1:=hid hv1;clear ht1 hv1)
    obtain ⟨i1,i2,i3,i4,i5,i6,i7,i8⟩:=HI.out.map HT1.out
    have hv1:=HV1.out
    rw [mp_none (by rw [HM.out];decide)] at hv1
    go_round
    case rel=>
     refine ⟨k+1,plus S' wr,_,by have:=HK.out;have:=HLA.out;omega,⟨i1,?_,?_,i3,i4,i5,i6,i7,i8,HI.out.ls,HI.out.lg⟩,by rw [HR.out];go_num⟩
     ·rw [HSU.out];exact ⟨_,HGK.out,hv1⟩
     ·rw [HSU.out];exact i2
    case measure=>have:=HK.out;have:=HLA.out;have:=HR.out;simp [intOf];omega
end
end Go.Proofs.YthgdadohijgleaaGreatDoor
end
section
namespace Go.Proofs.YthgdadohijgleaaGreatDoor
open Go.RowKit Word
section
variable {w:World} {S:Nat->Prop} {q:Nat} {v:Vm}
theorem pool_used {p:Pl} (hP:PoolAt w S q p):Calls Tryz.prog 165 #[.pointer (some ⟨q,0,none⟩)] w fun e w'=>e=.returned (.int .i64 p.used)/\w=w':=by
 obtain ⟨vw,vt,vb,hi,ts,hr,-⟩:=hP.row
 have c4:=hr.cell (j:=5) rfl
 clear hr hP
 go_enter Tryz.func165,Tryz.ntmps165
 go_wp2
 go_ret
 exact ⟨rfl,rfl⟩
theorem vm_page (hV:VmAt w S q v):Calls Tryz.prog 198 #[.pointer (some ⟨q,0,none⟩)] w fun e w'=>e=.returned (.int .i64 v.pl.pg)/\w=w':=by
 have HV:=hid hV
 obtain ⟨S1,S2,b1,b2,hr,hp,-⟩:=hV.row
 have c0:=hr.cell (j:=0) rfl
 have HP:=hid hp
 clear hr hp hV
 go_enter Tryz.func198,Tryz.ntmps198
 go_wp2_with (first
  | (go_at_call 164;refine (vm_none HV.out).mono ?_;rintro e w1 ⟨rfl,rfl⟩)
  | (go_at_call 244;refine (pool_page HP.out).mono ?_;rintro e w1 ⟨rfl,rfl⟩))
 go_ret
 exact ⟨rfl,rfl⟩
theorem vm_used (hV:VmAt w S q v):Calls Tryz.prog 66 #[.pointer (some ⟨q,0,none⟩)] w fun e w'=>e=.returned (.int .i64 v.pl.used)/\w=w':=by
 have HV:=hid hV
 obtain ⟨S1,S2,b1,b2,hr,hp,-⟩:=hV.row
 have c0:=hr.cell (j:=0) rfl
 have HP:=hid hp
 clear hr hp hV
 go_enter Tryz.func66,Tryz.ntmps66
 go_wp2_with (first
  | (go_at_call 164;refine (vm_none HV.out).mono ?_;rintro e w1 ⟨rfl,rfl⟩)
  | (go_at_call 165;refine (pool_used HP.out).mono ?_;rintro e w1 ⟨rfl,rfl⟩))
 go_ret
 exact ⟨rfl,rfl⟩
theorem vm_words (hV:VmAt w S q v):Calls Tryz.prog 90 #[.pointer (some ⟨q,0,none⟩)] w fun e w'=>e=.returned (.int .i64 v.n)/\w=w':=by
 have HV:=hid hV
 obtain ⟨S1,S2,b1,b2,hr,hp,-⟩:=hV.row
 have c0:=hr.cell (j:=2) rfl
 clear hr hp hV
 go_enter Tryz.func90,Tryz.ntmps90
 go_wp2_with (go_at_call 164;refine (vm_none HV.out).mono ?_;rintro e w1 ⟨rfl,rfl⟩)
 go_ret
 exact ⟨rfl,rfl⟩
theorem vm_mapped (hV:VmAt w S q v) (p:Int):Calls Tryz.prog 152 #[.pointer (some ⟨q,0,none⟩),.int .i64 p] w fun e w'=>e=.returned (.bool (frE v.pt p==0))/\Gr w w':=by
 have HV:=hid hV
 obtain ⟨S1,S2,b1,b2,hr,hp,hg,-⟩:=hV.row
 have c0:=hr.cell (j:=1) rfl
 have HG:=hid hg
 have hrl:=hr.lt
 clear hr hp hg hV
 go_enter Tryz.func152,Tryz.ntmps152
 go_wp2_with (first
  | (go_at_call 164;refine (vm_none HV.out).mono ?_;rintro e w1 ⟨rfl,rfl⟩)
  | (go_at_call 255;refine (pg_frame HG.out p).mono ?_;rintro e w1 ⟨rfl,hg1⟩;have HG1:=hid hg1;clear hg1))
 go_ret
 exact ⟨rfl,HG1.out⟩
theorem vm_need_none (hV:VmAt w S q v) (f t:Nat) (ht:t<=v.n) (hft:t<=f):Calls Tryz.prog 146 #[.pointer (some ⟨q,0,none⟩),.int .i64 f,.int .i64 t] w fun e w'=>e=.returned (.int .i64 0)/\Gr w w':=by
 have HV:=hid hV
 obtain ⟨S1,S2,b1,b2,hr,-⟩:=hV.row
 have n2:=hV.ok.n2
 have HR:=hid hr
 have d0:decide ((f:Int)<0)=false:=decide_eq_false (by omega)
 have d1:decide ((v.n:Int)<(t:Int))=false:=decide_eq_false (by omega)
 have d2:decide ((t:Int)<=(f:Int))=true:=decide_eq_true (by omega)
 have c2:=(hr.gr ((Gr.refl w).alloc (.cells #[.pointer (some ⟨q,0,none⟩)] 107))).cell (j:=2) rfl
 have hv':=hid (hV.gr ((Gr.refl w).alloc (.cells #[.pointer (some ⟨q,0,none⟩)] 107)))
 clear hr hV
 go_enter Tryz.func146,Tryz.ntmps146
 go_wp2_with (go_at_call 164;refine (vm_none hv'.out).mono ?_;rintro e w1 ⟨rfl,rfl⟩)
 go_ret
 exact ⟨rfl,(Gr.refl w).alloc _⟩
end
end Go.Proofs.YthgdadohijgleaaGreatDoor
end
end
section
namespace Go.Proofs.YthgdadohijgleaaGreatDoor
open Go.RowKit Word
theorem pow_le (k:Nat) (hk:k<=10):2 ^ k<=1024:=Nat.pow_le_pow_right (by decide) hk
theorem block_pow {n:Int} (h:blockOk n=true):∃ k:Nat,k<=10/\n=((2 ^ k:Nat):Int):=by
 simp [blockOk] at h
 rcases h with rfl | rfl | rfl | rfl | rfl | rfl | rfl | rfl | rfl | rfl | rfl
 ·exact ⟨0,by decide,rfl⟩
 ·exact ⟨1,by decide,rfl⟩
 ·exact ⟨2,by decide,rfl⟩
 ·exact ⟨3,by decide,rfl⟩
 ·exact ⟨4,by decide,rfl⟩
 ·exact ⟨5,by decide,rfl⟩
 ·exact ⟨6,by decide,rfl⟩
 ·exact ⟨7,by decide,rfl⟩
 ·exact ⟨8,by decide,rfl⟩
 ·exact ⟨9,by decide,rfl⟩
 ·exact ⟨10,by decide,rfl⟩
theorem and_high {x k:Nat} (hk:k<=63) (hx:x<18446744073709551616):x &&& (18446744073709551615-(2 ^ k-1))=x/2 ^ k*2 ^ k:=by
 have h2:2 ^ k<=2 ^ 63:=Nat.pow_le_pow_right (by decide) hk
 have h3:0<2 ^ k:=Nat.two_pow_pos k
 have e:18446744073709551615-(2 ^ k-1)=(2 ^ (64-k)-1)*2 ^ k:=by
  rw [Nat.sub_mul,<-Nat.pow_add,show 64-k+k=64 by omega]
  show _=18446744073709551616-1*2 ^ k
  omega
 rw [e]
 apply Nat.eq_of_testBit_eq
 intro i
 rw [Nat.testBit_and,Nat.testBit_mul_two_pow,Nat.testBit_mul_two_pow,Nat.testBit_div_two_pow,Nat.testBit_two_pow_sub_one]
 by_cases hi:k<=i
 ·rw [decide_eq_true hi,show i-k+k=i by omega]
  by_cases h64:i<64
  ·rw [decide_eq_true (show i-k<64-k by omega)];simp
  ·have:x.testBit i=false:=Nat.testBit_lt_two_pow (Nat.lt_of_lt_of_le (show x<2 ^ 64 from hx) (Nat.pow_le_pow_right (by decide) (by omega)))
   rw [this];simp
 ·rw [decide_eq_false (show ¬ i>=k by omega)];simp
theorem andNot_pow {x k:Nat} (hk:k<=10) (hx:x<9223372036854775808):bits .andNot .i64 (x:Int) ((2 ^ k:Nat)-1:Int)=((x/2 ^ k*2 ^ k:Nat):Int):=by
 have hp:=pow_le k hk
 have h3:0<2 ^ k:=Nat.two_pow_pos k
 have h1:(BitVec.ofInt 64 (x:Int)).toNat=x:=by
  rw [BitVec.ofInt_natCast,BitVec.toNat_ofNat];exact Nat.mod_eq_of_lt (by omega)
 have e:((2 ^ k:Nat)-1:Int)=((2 ^ k-1:Nat):Int):=by omega
 have h2:(BitVec.ofInt 64 ((2 ^ k:Nat)-1:Int)).toNat=2 ^ k-1:=by
  rw [e,BitVec.ofInt_natCast,BitVec.toNat_ofNat];exact Nat.mod_eq_of_lt (by omega)
 show IntKind.i64.wrap ((BitVec.ofInt 64 (x:Int) &&& ~~~ BitVec.ofInt 64 ((2 ^ k:Nat)-1:Int)).toNat:Int)=_
 rw [BitVec.toNat_and,BitVec.toNat_not,h1,h2]
 have:2 ^ 64-1-(2 ^ k-1)=18446744073709551615-(2 ^ k-1):=rfl
 rw [this,and_high (by omega) (by omega)]
 have hle:x/2 ^ k*2 ^ k<=x:=Nat.div_mul_le_self x _
 exact IntWalk.i64_in _ (by omega)
set_option maxHeartbeats 800000 in
theorem fits_ok (n:Nat) (hn:n<=1152921504606846976) {u:Int} (hu:blockOk u=true) (w:World):
  Calls Tryz.prog 358 #[.int .i64 n,.int .i64 u] w fun e w'=>e=.returned (.bool true)/\w=w':=by
 have hb:=blockOk_pos hu
 have HP:Hid (powB u=true):=⟨by rw [blockOk_eq] at hu;simp at hu;exact hu.1⟩
 clear hu
 have d1:decide ((n:Int)<=1152921504606846976)=true:=decide_eq_true (by omega)
 go_enter Tryz.func358,Tryz.ntmps358
 go_wp2_with (go_at_call 173;refine (power_any u (by omega) _).mono ?_;rintro e w1 ⟨rfl,rfl⟩;rw [HP.out])
 go_ret
 exact ⟨rfl,rfl⟩
theorem up_block (n B:Nat) (hn:n<=1152921504606846976) (hB:blockOk B=true) (w:World):
  Calls Tryz.prog 319 #[.int .i64 n,.int .i64 B] w fun e w'=>e=.returned (.int .i64 ((n+B-1)/B*B:Nat))/\w=w':=by
 have hb:=blockOk_pos hB
 obtain ⟨k,hk,e⟩:=block_pow hB
 have e':B=2 ^ k:=Int.ofNat.inj e
 have HE:Hid (bits .andNot .i64 ((n:Int)+(B:Int)-1) ((B:Int)-1)=(((n+B-1)/B*B:Nat):Int)):=⟨by
  have:=andNot_pow (x:=n+B-1) hk (by omega)
  rw [<-e'] at this
  rw [<-this];congr 1;omega⟩
 have HB:=hid hB
 clear hB e e'
 go_enter Tryz.func319,Tryz.ntmps319
 go_wp2_with (go_at_call 358;refine (fits_ok n hn HB.out _).mono ?_;rintro e w1 ⟨rfl,rfl⟩)
 go_ret
 exact ⟨ret_int HE.out,rfl⟩
end Go.Proofs.YthgdadohijgleaaGreatDoor
end
section
namespace Go.Proofs.YthgdadohijgleaaGreatDoor
open Go.RowKit Word
structure Cf where
 fr:Nat
 tp:Nat
 to:Nat
 lm:Nat
 bk:Nat
 st:Nat
 ah:Nat
def cfV (c:Cf):Value:=.agg #[.int .i64 c.fr,.int .i64 c.tp,.int .i64 c.to,.int .i64 c.lm,.int .i64 c.bk,.int .i64 c.st,.int .i64 c.ah]
def upN (n B:Nat):Nat:=(n+B-1)/B*B
structure CfOk (pg n:Nat) (c:Cf):Prop where
 bk:blockOk c.bk=true
 st:1<=c.st/\c.st<=4096
 ah:c.ah<=16
 fr:pg<=c.fr
 tp:c.fr<=c.tp
 tn:c.tp<=n
 to:pg<=c.to
 lm:c.to<=c.lm
 ln:c.lm<=n
 af:c.fr%pg=0
 at_:c.to%pg=0
 al:c.lm%pg=0
 ap:¬ (c.fr<upN c.tp pg/\c.to<c.lm/\c.fr<c.lm/\c.to<upN c.tp pg)
section
variable {w:World} {S:Nat->Prop} {q:Nat} {v:Vm}
set_option maxRecDepth 100000 in
set_option maxHeartbeats 1600000 in
theorem within_ok {b cp:Nat} {lo md hi:Nat->Nat} (hb:b<w.heap.size)
  (hc:∀ j,j<7->w.cell? ⟨b,j*3,none⟩=some (.int .i64 (lo j))/\w.cell? ⟨b,j*3+1,none⟩=some (.int .i64 (md j))/\w.cell? ⟨b,j*3+2,none⟩=some (.int .i64 (hi j)))
  (ho:∀ j,j<7->lo j<=md j/\md j<=hi j):Gets Tryz.prog 318 #[.slice (some ⟨b,0,none⟩) 7 cp] w (.bool true):=by
 have HC:=hid hc
 have HO:=hid ho
 clear hc ho
 unfold Gets
 go_enter Tryz.func318,Tryz.ntmps318
 go_wp2
 go_loopw [7] (fun s7 wr=>∃ j:Nat,j<=7/\Hid (Gr w wr)/\s7=.int .i64 j) (fun s7 _=>7-(intOf s7).toNat)
 case atStart=>exact ⟨0,by omega,⟨Gr.refl w⟩,rfl⟩
 case round=>
  obtain ⟨j,hj,HG,rfl⟩:=hrel
  by_cases hlast:j=7
  ·subst hlast
   go_wp2
   go_ret
   exact ⟨rfl,HG.out⟩
  ·obtain ⟨k0,k1,k2⟩:=HC.out j (by omega)
   obtain ⟨o1,o2⟩:=HO.out j (by omega)
   have c0:=(HG.out.cell hb _).trans k0
   have c1:=(HG.out.cell hb _).trans k1
   have c2:=(HG.out.cell hb _).trans k2
   have hjI:(j:Int)<7:=by omega
   have d0:decide ((md j:Int)<(lo j:Int))=false:=decide_eq_false (by omega)
   have d1:decide ((hi j:Int)<(md j:Int))=false:=decide_eq_false (by omega)
   have HL:=hid hlast
   clear hlast k0 k1 k2
   generalize lo j=x at *
   generalize md j=y at *
   generalize hi j=z at *
   go_wp2
   go_round
   case rel=>exact ⟨j+1,by have:=HL.out;omega,⟨HG.out.alloc _⟩,by go_num⟩
   case measure=>have:=HL.out;simp [intOf];omega
theorem check_ap {a b c d:Prop} (h:¬ (a/\b/\c/\d)):¬ a\/(a/\¬ b)\/(a/\b/\¬ c)\/(a/\b/\c/\¬ d):=by
 by_cases ha:a
 ·by_cases hb:b
  ·by_cases hc:c
   ·exact .inr (.inr (.inr ⟨ha,hb,hc,fun hd=>h ⟨ha,hb,hc,hd⟩⟩))
   ·exact .inr (.inr (.inl ⟨ha,hb,hc⟩))
  ·exact .inr (.inl ⟨ha,hb⟩)
 ·exact .inl ha
set_option maxRecDepth 100000 in
set_option maxHeartbeats 1600000 in
theorem slide_check (hV:VmAt w S q v) {c:Cf} (hc:CfOk v.pl.pg v.n c):Calls Tryz.prog 249 #[.pointer (some ⟨q,0,none⟩),cfV c] w fun e w'=>e=.returned (.int .i64 0)/\Gr w w':=by
 have hpg:=hV.ok.page
 have hn2:=hV.ok.n2
 have hpB:=hV.ok.pl.pg
 obtain ⟨fr,tp,to,lm,bk,st,ah⟩:=c
 obtain ⟨h1,h2,h3,h4,h5,h6,h7,h8,h9,h10,h11,h12,h13⟩:=hc
 dsimp only at h1 h2 h3 h4 h5 h6 h7 h8 h9 h10 h11 h12 h13
 have hbp:=blockOk_pos h1
 have hpow:powB bk=true:=by
  have:=blockOk_eq bk
  rw [h1] at this
  exact (Bool.and_eq_true_iff.1 this.symm).1
 have HPW:=hid (fun W=>power_any (bk:Int) (by omega) W)
 rw [hpow] at HPW
 have HPG:=hid (fun (W:World) (g:Gr w W)=>vm_page (hV.gr g))
 have HWD:=hid (fun (W:World) (g:Gr w W)=>vm_words (hV.gr g))
 have HUP:=hid (fun W=>up_block tp v.pl.pg (by omega) hpB W)
 obtain ⟨pg,hpge⟩:∃ pg,pg=v.pl.pg:=⟨_,rfl⟩
 obtain ⟨n,hne⟩:∃ n,n=v.n:=⟨_,rfl⟩
 rw [<-hpge] at HPG HUP hpg h4 h7 h10 h11 h12 h13
 rw [<-hne] at HWD hn2 h6 h9
 have HWI:=hid (fun (W:World) (b:Nat) (cp:Nat) (R:Rec W b 302 [.int .i64 1,.int .i64 bk,.int .i64 1024,.int .i64 1,.int .i64 st,.int .i64 4096,.int .i64 0,.int .i64 ah,.int .i64 16,.int .i64 pg,.int .i64 fr,.int .i64 n,.int .i64 fr,.int .i64 tp,.int .i64 n,.int .i64 pg,.int .i64 to,.int .i64 n,.int .i64 to,.int .i64 lm,.int .i64 n])=>
  within_ok (w:=W) (b:=b) (cp:=cp) (lo:=fun j=>[1,1,0,pg,fr,pg,to].getD j 0) (md:=fun j=>[bk,st,ah,fr,tp,to,lm].getD j 0) (hi:=fun j=>[1024,4096,16,n,n,n,n].getD j 0) R.lt
   (fun j hj=>by
    rcases (by omega:j=0\/j=1\/j=2\/j=3\/j=4\/j=5\/j=6) with rfl | rfl | rfl | rfl | rfl | rfl | rfl <;> exact ⟨R.cell rfl,R.cell rfl,R.cell rfl⟩)
   (fun j hj=>by
    rcases (by omega:j=0\/j=1\/j=2\/j=3\/j=4\/j=5\/j=6) with rfl | rfl | rfl | rfl | rfl | rfl | rfl <;> (refine ⟨?_,?_⟩ <;> simp <;> omega)))
 have m1:((fr:Int)).tmod (pg:Int)=0:=by rw [<-Int.ofNat_tmod,h10];rfl
 have m2:((to:Int)).tmod (pg:Int)=0:=by rw [<-Int.ofNat_tmod,h11];rfl
 have m3:((lm:Int)).tmod (pg:Int)=0:=by rw [<-Int.ofNat_tmod,h12];rfl
 have R0:=Rec.new w 106 [.int .i64 fr,.int .i64 tp,.int .i64 to,.int .i64 lm,.int .i64 bk,.int .i64 st,.int .i64 ah]
 have HAP:=hid (check_ap h13)
 have hup:upN tp pg<=1048576:=by
  unfold upN
  have:=Nat.div_mul_le_self (tp+pg-1) pg
  omega
 obtain ⟨up,hupe⟩:∃ up,up=upN tp pg:=⟨_,rfl⟩
 rw [<-hupe] at HAP hup
 rw [show (tp+pg-1)/pg*pg=up from hupe.symm] at HUP
 have b0:((pg:Int)==0)=false:=by simp;omega
 have b1:(pg:Int)≠0:=by omega
 unfold cfV
 have HR0:=hid R0
 have z0:=R0.cell (j:=0) rfl
 have z1:=R0.cell (j:=1) rfl
 have z2:=R0.cell (j:=2) rfl
 have z3:=R0.cell (j:=3) rfl
 have z4:=R0.cell (j:=4) rfl
 have z5:=R0.cell (j:=5) rfl
 have z6:=R0.cell (j:=6) rfl
 have zl:=R0.lt
 obtain ⟨W1,hW1⟩:∃ W1,W1=w.alloc (.cells #[.int .i64 fr,.int .i64 tp,.int .i64 to,.int .i64 lm,.int .i64 bk,.int .i64 st,.int .i64 ah] 106):=⟨_,rfl⟩
 have HGW:Hid (Gr w W1):=⟨by rw [hW1];exact (Gr.refl w).alloc _⟩
 clear hpge hne hupe R0 hV h13 hpow hpB h1 h10 h11 h12
 go_enter Tryz.func249,Tryz.ntmps249
 go_upto_region 1 with (fail)
 rw [<-hW1] at z0 z1 z2 z3 z4 z5 z6 zl HR0 ⊢
 clear hW1
 go_upto_region 6 with (first
  | (go_at_call 198;refine (HPG.out _ HGW.out).mono ?_;rintro e w1 ⟨rfl,rfl⟩)
  | (go_at_call 90;refine (HWD.out _ HGW.out).mono ?_;rintro e w1 ⟨rfl,rfl⟩)
  | (go_at_call 173;refine (HPW.out _).mono ?_;rintro e w1 ⟨rfl,rfl⟩)
  | (go_at_call 318;refine (HWI.out _ _ _ (Rec.new _ _ _)).mono ?_;rintro e w2 ⟨rfl,hg2⟩;have HG2:=hid (((Gr.refl _).alloc _).trans hg2);have HR2:=hid (HR0.out.gr HG2.out);have y0:=HR2.out.cell (j:=0) rfl;have y1:=HR2.out.cell (j:=1) rfl;have y2:=HR2.out.cell (j:=2) rfl;have y3:=HR2.out.cell (j:=3) rfl;have yl:=HR2.out.lt;clear hg2))
 go_quiet (fail)
 go_upto_region 9 with (go_at_call 319;refine (HUP.out _).mono ?_;rintro e w1 ⟨rfl,rfl⟩)
 have hG:=HGW.out.trans HG2.out
 rcases HAP.out with h | ⟨h,h'⟩ | ⟨h,h',h''⟩ | ⟨h,h',h'',h3⟩
 ·have e0:decide ((fr:Int)<(up:Int))=false:=decide_eq_false (by omega)
  have f0:decide (fr<up)=false:=decide_eq_false h
  go_wp2
  go_ret
  exact ⟨rfl,hG.drewN _⟩
 ·have e0:decide ((fr:Int)<(up:Int))=true:=decide_eq_true (by omega)
  have e1:decide ((to:Int)<(lm:Int))=false:=decide_eq_false (by omega)
  have f0:decide (fr<up)=true:=decide_eq_true h
  have f1:decide (to<lm)=false:=decide_eq_false h'
  go_wp2
  go_ret
  exact ⟨rfl,hG.drewN _⟩
 ·have e0:decide ((fr:Int)<(up:Int))=true:=decide_eq_true (by omega)
  have e1:decide ((to:Int)<(lm:Int))=true:=decide_eq_true (by omega)
  have e2:decide ((fr:Int)<(lm:Int))=false:=decide_eq_false (by omega)
  have f0:decide (fr<up)=true:=decide_eq_true h
  have f1:decide (to<lm)=true:=decide_eq_true h'
  have f2:decide (fr<lm)=false:=decide_eq_false h''
  go_wp2
  go_ret
  exact ⟨rfl,hG.drewN _⟩
 ·have e0:decide ((fr:Int)<(up:Int))=true:=decide_eq_true (by omega)
  have e1:decide ((to:Int)<(lm:Int))=true:=decide_eq_true (by omega)
  have e2:decide ((fr:Int)<(lm:Int))=true:=decide_eq_true (by omega)
  have e3:decide ((to:Int)<(up:Int))=false:=decide_eq_false (by omega)
  have f0:decide (fr<up)=true:=decide_eq_true h
  have f1:decide (to<lm)=true:=decide_eq_true h'
  have f2:decide (fr<lm)=true:=decide_eq_true h''
  have f3:decide (to<up)=false:=decide_eq_false h3
  go_wp2
  go_ret
  exact ⟨rfl,hG.drewN _⟩
end
end Go.Proofs.YthgdadohijgleaaGreatDoor
end
section
section
namespace Go.Proofs.YthgdadohijgleaaGreatDoor
open Go.RowKit Word
end Go.Proofs.YthgdadohijgleaaGreatDoor
end
section
namespace Go.Proofs.YthgdadohijgleaaGreatDoor
open Word
abbrev Ob:=Nat × Nat
structure Good (n:Nat) (L:List Ob):Prop where
 pw:L.Pairwise (fun o q=>o.1+o.2<=q.1)
 sz:∀ o∈L,1<=o.2/\o.1+o.2<=n
theorem Good.nil (n:Nat):Good n []:=⟨List.Pairwise.nil,fun _ h=>by cases h⟩
theorem Good.at {n:Nat} {L:List Ob} (h:Good n L) {i j:Nat} (hi:i<L.length) (hj:j<L.length) (hij:i<j):L[i].1+L[i].2<=L[j].1:=List.pairwise_iff_getElem.1 h.pw i j hi hj hij
theorem Good.disj {n:Nat} {L:List Ob} (h:Good n L) {o q:Ob} (ho:o∈L) (hq:q∈L):o=q\/o.1+o.2<=q.1\/q.1+q.2<=o.1:=by
 obtain ⟨i,hi,rfl⟩:=List.getElem_of_mem ho
 obtain ⟨j,hj,rfl⟩:=List.getElem_of_mem hq
 rcases Nat.lt_trichotomy i j with hij | rfl | hij
 ·exact .inr (.inl (h.at hi hj hij))
 ·exact .inl rfl
 ·exact .inr (.inr (h.at hj hi hij))
theorem Good.len {n:Nat}:∀ {L:List Ob},Good n L->L.length<=n:=by
 intro L h
 have key:∀ (L:List Ob),L.Pairwise (fun o q=>o.1+o.2<=q.1)->(∀ o∈L,1<=o.2/\o.1+o.2<=n)->∀ a,a<=n->(∀ o∈L,a<=o.1)->a+L.length<=n:=by
  intro L
  induction L with
  | nil=>intro _ _ a ha _;simpa using ha
  | cons o r ih=>
   intro hp hs a ha hl
   obtain ⟨h1,h2⟩:=List.pairwise_cons.1 hp
   have ho:=hs o (List.mem_cons_self ..)
   have:=ih h2 (fun q hq=>hs q (List.mem_cons_of_mem _ hq)) (o.1+o.2) ho.2 (fun q hq=>h1 q hq)
   have:=hl o (List.mem_cons_self ..)
   simp only [List.length_cons];omega
 have:=key L h.pw h.sz 0 (Nat.zero_le _) (fun _ _=>Nat.zero_le _)
 omega
def startsL (n:Nat) (L:List Ob):List Bool:=(List.range n).map fun i=>L.any fun o=>o.1==i
def endsL (n:Nat) (L:List Ob):List Bool:=(List.range n).map fun i=>L.any fun o=>o.1+o.2==i+1
theorem startsL_len (n:Nat) (L:List Ob):(startsL n L).length=n:=by simp [startsL]
theorem endsL_len (n:Nat) (L:List Ob):(endsL n L).length=n:=by simp [endsL]
theorem at_map_range (f:Nat->Bool) (n i:Nat):at_ ((List.range n).map f) i=(decide (i<n)&&f i):=by
 unfold at_
 rw [List.getD_eq_getElem?_getD,List.getElem?_map]
 by_cases h:i<n
 ·rw [List.getElem?_range h,decide_eq_true h];rfl
 ·rw [List.getElem?_eq_none (by simpa using h),decide_eq_false h];rfl
theorem at_starts {n:Nat} {L:List Ob} (h:Good n L) (i:Nat):at_ (startsL n L) i=true↔∃ o∈L,o.1=i:=by
 unfold startsL
 rw [at_map_range]
 simp only [Bool.and_eq_true,decide_eq_true_eq,List.any_eq_true,beq_iff_eq]
 constructor
 ·rintro ⟨_,h⟩;exact h
 ·rintro ⟨o,ho,rfl⟩;have:=h.sz o ho;exact ⟨by omega,o,ho,rfl⟩
theorem at_ends {n:Nat} {L:List Ob} (h:Good n L) (i:Nat):at_ (endsL n L) i=true↔∃ o∈L,o.1+o.2=i+1:=by
 unfold endsL
 rw [at_map_range]
 simp only [Bool.and_eq_true,decide_eq_true_eq,List.any_eq_true,beq_iff_eq]
 constructor
 ·rintro ⟨_,h⟩;exact h
 ·rintro ⟨o,ho,e⟩;have:=h.sz o ho;exact ⟨by omega,o,ho,e⟩
theorem next_end {n:Nat} {L:List Ob} (h:Good n L) {o:Ob} (ho:o∈L):nextL (endsL n L) (o.1:Int)=o.1+o.2-1/\o.1+o.2-1<(endsL n L).length:=by
 have hs:=h.sz o ho
 have:=nextL_at (l:=endsL n L) (a:=(o.1:Int)) (k:=o.1+o.2-1) (fun i hi hc=>by
  obtain ⟨q,hq,e⟩:=(at_ends h i).1 hc.1
  have hqs:=h.sz q hq
  have hc2:=hc.2
  rcases h.disj ho hq with rfl | hd | hd <;> omega) ((at_ends h _).2 ⟨o,ho,by omega⟩) (by omega)
 exact ⟨this.1,by rw [endsL_len];omega⟩
def nextO (L:List Ob) (a:Int):Nat:=L.findIdx fun o=>decide (a<=o.1)
theorem nextO_le (L:List Ob) (a:Int):nextO L a<=L.length:=List.findIdx_le_length
theorem nextO_no {L:List Ob} {a:Int} {i:Nat} (h:i<nextO L a) (hi:i<L.length):(L[i].1:Int)<a:=by
 have:=List.not_of_lt_findIdx h
 simp at this;omega
theorem nextO_yes {L:List Ob} {a:Int} (h:nextO L a<L.length):a<=(L[nextO L a]'h).1:=by
 have:=List.findIdx_getElem (p:=fun o:Ob=>decide (a<=(o.1:Int))) (w:=h)
 simp only [decide_eq_true_eq] at this
 exact this
theorem nextO_eq {L:List Ob} {a:Int} {j:Nat} (hj:j<=L.length) (hn:∀ i (hi:i<L.length),i<j->(L[i].1:Int)<a) (hy:∀ h:j<L.length,a<=(L[j].1:Int)):nextO L a=j:=by
 rcases Nat.lt_trichotomy (nextO L a) j with h | h | h
 ·have h1:=nextO_yes (L:=L) (a:=a) (by omega)
  have h2:=hn _ (by omega) h
  omega
 ·exact h
 ·have hlt:j<L.length:=by have:=nextO_le L a;omega
  have h1:=nextO_no h hlt
  have h2:=hy hlt
  omega
theorem next_start_yes {n:Nat} {L:List Ob} (h:Good n L) {a:Int} (hj:nextO L a<L.length):nextL (startsL n L) a=(L[nextO L a]).1/\nextL (startsL n L) a<(startsL n L).length:=by
 have hy:=nextO_yes hj
 refine nextL_at (fun i hi hc=>?_) ((at_starts h _).2 ⟨_,List.getElem_mem hj,rfl⟩) (by omega)
 obtain ⟨q,hq,e⟩:=(at_starts h i).1 hc.1
 obtain ⟨k,hk,rfl⟩:=List.getElem_of_mem hq
 rcases Nat.lt_trichotomy k (nextO L a) with hlt | rfl | hlt
 ·have:=nextO_no hlt hk;omega
 ·omega
 ·have:=h.at hj hk hlt;omega
theorem next_start_no {n:Nat} {L:List Ob} (h:Good n L) {a:Int} (hj:¬ nextO L a<L.length):nextL (startsL n L) a=(startsL n L).length:=by
 refine nextL_end (fun i hi hc=>?_)
 obtain ⟨q,hq,e⟩:=(at_starts h i).1 hc.1
 obtain ⟨k,hk,rfl⟩:=List.getElem_of_mem hq
 have:=nextO_no (L:=L) (a:=a) (i:=k) (by omega) hk
 omega
theorem next_after_ob {n:Nat} {L:List Ob} (h:Good n L) {j:Nat} (hj:j<L.length):nextO L ((L[j].1:Int)+(L[j].2:Int))=j+1:=by
 refine nextO_eq (by omega) (fun i hi hij=>?_) (fun h2=>?_)
 ·have hs:=h.sz _ (List.getElem_mem hj)
  rcases Nat.lt_or_ge i j with h1 | h1
  ·have:=h.at hi hj h1;have:=h.sz _ (List.getElem_mem hi);omega
  ·have:i=j:=by omega
   subst this;omega
 ·have:=h.at hj h2 (Nat.lt_succ_self j);omega
def hasO (a:Int) (o:Ob):Bool:=decide ((o.1:Int)<=a/\a<o.1+o.2)
def findO (L:List Ob) (a:Int):Nat:=L.findIdx (hasO a)
theorem findO_le (L:List Ob) (a:Int):findO L a<=L.length:=List.findIdx_le_length
theorem findO_yes {L:List Ob} {a:Int} (h:findO L a<L.length):((L[findO L a]'h).1:Int)<=a/\a<(L[findO L a]'h).1+(L[findO L a]'h).2:=by
 have:=List.findIdx_getElem (p:=hasO a) (w:=h)
 simp only [hasO,decide_eq_true_eq] at this
 exact this
theorem findO_no {L:List Ob} {a:Int} {i:Nat} (h:i<findO L a) (hi:i<L.length):¬ ((L[i].1:Int)<=a/\a<L[i].1+L[i].2):=by
 have:=List.not_of_lt_findIdx h
 simpa [hasO] using this
theorem findO_eq {n:Nat} {L:List Ob} (h:Good n L) {a:Int} {j:Nat} (hj:j<L.length) (h1:(L[j].1:Int)<=a) (h2:a<L[j].1+L[j].2):findO L a=j:=by
 rcases Nat.lt_trichotomy (findO L a) j with hlt | he | hlt
 ·have hy:=findO_yes (L:=L) (a:=a) (by omega)
  have:=h.at (i:=findO L a) (by omega) hj hlt
  omega
 ·exact he
 ·exact absurd ⟨h1,h2⟩ (findO_no hlt hj)
theorem findO_none {L:List Ob} {a:Int} (h:∀ o∈L,¬ ((o.1:Int)<=a/\a<o.1+o.2)):findO L a=L.length:=by
 rcases Nat.lt_or_ge (findO L a) L.length with h1 | h1
 ·exact absurd (findO_yes h1) (h _ (List.getElem_mem h1))
 ·have:=findO_le L a;omega
theorem last_of {n:Nat} {L:List Ob} (h:Good n L) (a:Int):(lastL (startsL n L) (a+1) = -1/\∀ o∈L,a<(o.1:Int))\/∃ j,∃ hj:j<L.length,lastL (startsL n L) (a+1)=(L[j].1:Int)/\(L[j].1:Int)<=a/\∀ i (hi:i<L.length),j<i->a<(L[i].1:Int):=by
 have hx:=nextO_le L (a+1)
 rcases Nat.eq_zero_or_pos (nextO L (a+1)) with h0 | h0
 ·left
  have hall:∀ o∈L,a<(o.1:Int):=fun o ho=>by
   obtain ⟨k,hk,rfl⟩:=List.getElem_of_mem ho
   have hy:=nextO_yes (L:=L) (a:=a+1) (by omega)
   rcases Nat.eq_zero_or_pos k with rfl | hk0
   ·have e:L[nextO L (a+1)]'(by omega)=L[0]:=by congr 1
    rw [e] at hy;omega
   ·have:=h.at (i:=0) (j:=k) (by omega) hk hk0
    have e:L[nextO L (a+1)]'(by omega)=L[0]'(by omega):=by congr 1
    rw [e] at hy;omega
  refine ⟨lastL_end (fun i hc=>?_),hall⟩
  obtain ⟨q,hq,e⟩:=(at_starts h i).1 hc.1
  have:=hall q hq;omega
 ·right
  obtain ⟨j,hj⟩:∃ j,nextO L (a+1)=j+1:=⟨nextO L (a+1)-1,by omega⟩
  have hjl:j<L.length:=by omega
  have h1:=nextO_no (L:=L) (a:=a+1) (i:=j) (by omega) hjl
  have hall:∀ i (hi:i<L.length),j<i->a<(L[i].1:Int):=fun i hi hij=>by
   have hy:=nextO_yes (L:=L) (a:=a+1) (by omega)
   rcases Nat.lt_or_ge (nextO L (a+1)) i with h2 | h2
   ·have:=h.at (i:=nextO L (a+1)) (by omega) hi h2;omega
   ·have e:L[nextO L (a+1)]'(by omega)=L[i]:=by congr 1;omega
    rw [e] at hy;omega
  refine ⟨j,hjl,lastL_at (fun i hij hc=>?_) ((at_starts h _).2 ⟨_,List.getElem_mem hjl,rfl⟩) (by omega),by omega,hall⟩
  obtain ⟨q,hq,e⟩:=(at_starts h i).1 hc.1
  obtain ⟨k,hk,rfl⟩:=List.getElem_of_mem hq
  rcases Nat.lt_trichotomy k j with hlt | rfl | hlt
  ·have:=h.at hk hjl hlt;omega
  ·omega
  ·have:=hall k hk hlt;omega
end Go.Proofs.YthgdadohijgleaaGreatDoor
end
section
namespace Go.Proofs.YthgdadohijgleaaGreatDoor
open Word
def liveB (L:List Ob) (i:Nat):Bool:=L.any fun o=>decide (o.1<=i/\i<o.1+o.2)
theorem liveB_iff {L:List Ob} {i:Nat}:liveB L i=true↔∃ o∈L,o.1<=i/\i<o.1+o.2:=by simp [liveB]
theorem liveB_find {L:List Ob} {i:Nat}:liveB L i=decide (findO L (i:Int)<L.length):=by
 by_cases h:findO L (i:Int)<L.length
 ·rw [decide_eq_true h]
  have:=findO_yes h
  exact liveB_iff.2 ⟨_,List.getElem_mem h,by omega,by omega⟩
 ·rw [decide_eq_false h]
  cases hb:liveB L i with
  | false=>rfl
  | true=>
   obtain ⟨o,ho,h1,h2⟩:=liveB_iff.1 hb
   obtain ⟨k,hk,rfl⟩:=List.getElem_of_mem ho
   exact absurd ⟨by omega,by omega⟩ (findO_no (L:=L) (a:=(i:Int)) (i:=k) (by omega) hk)
def liveN (L:List Ob) (n:Nat) (f t:Int):Nat:=cnt (fun i=>decide (f<=(i:Nat)/\((i:Nat):Int)<t)&&liveB L i) n
def over (o:Ob) (f t:Int):Int:=max 0 (min (o.1+o.2:Int) t-max (o.1:Int) f)
def overs (L:List Ob) (f t:Int):Int:=(L.map fun o=>over o f t).sum
theorem cnt_run (a b n:Nat) (h1:a<=b) (h2:b<=n):cnt (fun i=>decide (a<=i/\i<b)) n=b-a:=by
 induction n generalizing b with
 | zero=>rw [cnt_zero];omega
 | succ n ih=>
  rw [cnt_succ]
  rcases Nat.lt_or_ge n b with h | h
  ·have e:cnt (fun i=>decide (a<=i/\i<b)) n=cnt (fun i=>decide (a<=i/\i<b-1)) n\/a=b:=by
    by_cases hab:a=b
    ·exact .inr hab
    ·exact .inl (cnt_congr (fun i hi=>decide_eq_decide.2 (by omega)))
   rcases e with e | e
   ·by_cases hab:a=b
    ·subst hab
     rw [cnt_none (fun i _=>decide_eq_false (by omega)),decide_eq_false (by omega)];simp
    ·rw [e,ih (b-1) (by omega) (by omega),decide_eq_true (by omega)];simp;omega
   ·subst e
    rw [cnt_none (fun i _=>decide_eq_false (by omega)),decide_eq_false (by omega)];simp
  ·rw [ih b h1 h,decide_eq_false (by omega)];simp
theorem liveN_nil (n:Nat) (f t:Int):liveN [] n f t=0:=cnt_none (fun i _=>by simp [liveB])
theorem cnt_over {n:Nat} {o:Ob} (ho:o.1+o.2<=n) (f t:Int):((cnt (fun i=>decide (f<=(i:Nat)/\((i:Nat):Int)<t)&&decide (o.1<=i/\i<o.1+o.2)) n:Nat):Int)=over o f t:=by
 unfold over
 by_cases h:max (o.1:Int) f<min (o.1+o.2:Int) t
 ·have e:cnt (fun i=>decide (f<=(i:Nat)/\((i:Nat):Int)<t)&&decide (o.1<=i/\i<o.1+o.2)) n=cnt (fun i=>decide ((max (o.1:Int) f).toNat<=i/\i<(min (o.1+o.2:Int) t).toNat)) n:=
   cnt_congr (fun i _=>by rw [<-Bool.decide_and];exact decide_eq_decide.2 (by omega))
  rw [e,cnt_run _ _ _ (by omega) (by omega)];omega
 ·rw [cnt_none (fun i _=>by rw [<-Bool.decide_and];exact decide_eq_false (by omega))];omega
theorem liveN_eq {n:Nat}:∀ {L:List Ob},Good n L->∀ (f t:Int),((liveN L n f t:Nat):Int)=overs L f t:=by
 intro L
 induction L with
 | nil=>intro _ f t;rw [liveN_nil];rfl
 | cons o r ih=>
  intro h f t
  obtain ⟨h1,h2⟩:=List.pairwise_cons.1 h.pw
  have hr:Good n r:=⟨h2,fun q hq=>h.sz q (List.mem_cons_of_mem _ hq)⟩
  have ho:=h.sz o (List.mem_cons_self ..)
  have hs:=cnt_or (f:=fun i=>decide (f<=(i:Nat)/\((i:Nat):Int)<t)&&decide (o.1<=i/\i<o.1+o.2)) (g:=fun i=>decide (f<=(i:Nat)/\((i:Nat):Int)<t)&&liveB r i) (fun i=>by
   by_cases hc:o.1<=i/\i<o.1+o.2
   ·have:liveB r i=false:=by
     cases hb:liveB r i with
     | false=>rfl
     | true=>obtain ⟨q,hq,h3,h4⟩:=liveB_iff.1 hb;have:=h1 q hq;omega
    rw [this];simp
   ·rw [decide_eq_false hc];simp) n
  have e:liveN (o :: r) n f t=cnt (fun i=>(decide (f<=(i:Nat)/\((i:Nat):Int)<t)&&decide (o.1<=i/\i<o.1+o.2))||(decide (f<=(i:Nat)/\((i:Nat):Int)<t)&&liveB r i)) n:=
   cnt_congr (fun i _=>by rw [<-Bool.and_or_distrib_left];rfl)
  rw [e,hs,Int.natCast_add,cnt_over ho.2]
  have:=ih hr f t
  unfold liveN at this
  rw [this]
  simp [overs]
theorem overs_append (L M:List Ob) (f t:Int):overs (L++M) f t=overs L f t+overs M f t:=by simp [overs]
theorem over_zero {o:Ob} {f t:Int} (h:(o.1+o.2:Int)<=f\/t<=o.1):over o f t=0:=by unfold over;omega
theorem overs_zero {L:List Ob} {f t:Int} (h:∀ o∈L,(o.1+o.2:Int)<=f\/t<=o.1):overs L f t=0:=by
 induction L with
 | nil=>rfl
 | cons o r ih=>
  have:=ih (fun q hq=>h q (List.mem_cons_of_mem _ hq))
  have h2:=over_zero (h o (List.mem_cons_self ..))
  simp only [overs,List.map_cons,List.sum_cons] at this ⊢
  omega
theorem overs_take {L:List Ob} {j:Nat} (hj:j<L.length) (f t:Int):overs (L.take (j+1)) f t=overs (L.take j) f t+over L[j] f t:=by
 rw [List.take_succ_eq_append_getElem hj,overs_append];simp [overs]
theorem overs_split (L:List Ob) (j:Nat) (f t:Int):overs L f t=overs (L.take j) f t+overs (L.drop j) f t:=by
 rw [<-overs_append,List.take_append_drop]
theorem mem_take_lt {L:List Ob} {j:Nat} {o:Ob} (h:o∈L.take j):∃ i,∃ hi:i<L.length,i<j/\L[i]=o:=by
 obtain ⟨i,hi,rfl⟩:=List.getElem_of_mem h
 simp only [List.length_take] at hi
 exact ⟨i,by omega,by omega,by rw [List.getElem_take]⟩
theorem mem_drop_ge {L:List Ob} {j:Nat} {o:Ob} (h:o∈L.drop j):∃ i,∃ hi:i<L.length,j<=i/\L[i]=o:=by
 obtain ⟨i,hi,rfl⟩:=List.getElem_of_mem h
 simp only [List.length_drop] at hi
 exact ⟨j+i,by omega,by omega,by rw [List.getElem_drop]⟩
theorem overs_head {n:Nat} {L:List Ob} (h:Good n L) {f t:Int}:
  overs (L.take (nextO L f)) f t=if findO L f<L.length/\(L[findO L f]?.getD (0,0)).1<f/\f<t then min ((L[findO L f]?.getD (0,0)).1+(L[findO L f]?.getD (0,0)).2:Int) t-f else 0:=by
 by_cases hfi:findO L f<L.length
 ·have hy:=findO_yes hfi
  have hg:L[findO L f]?.getD (0,0)=L[findO L f]:=by rw [List.getElem?_eq_getElem hfi];rfl
  rw [hg]
  by_cases hlt:(L[findO L f].1:Int)<f
  ·have hn:nextO L f=findO L f+1:=nextO_eq (by omega) (fun i hi hij=>by
    rcases Nat.lt_or_ge i (findO L f) with h1 | h1
    ·have:=h.at hi hfi h1;omega
    ·have:i=findO L f:=by omega
     subst this;omega) (fun h2=>by have:=h.at hfi h2 (Nat.lt_succ_self _);omega)
   rw [hn,overs_take hfi,overs_zero (fun o ho=>by
    obtain ⟨i,hi,hij,rfl⟩:=mem_take_lt ho
    have:=h.at hi hfi hij;left;omega)]
   by_cases hft:f<t
   ·rw [if_pos ⟨hfi,by omega,hft⟩];unfold over;omega
   ·rw [if_neg (by omega)];unfold over;omega
  ·rw [if_neg (by omega)]
   refine overs_zero (fun o ho=>?_)
   obtain ⟨i,hi,hij,rfl⟩:=mem_take_lt ho
   have h1:=nextO_no hij hi
   rcases Nat.lt_trichotomy i (findO L f) with h2 | rfl | h2
   ·have:=h.at hi hfi h2;left;omega
   ·omega
   ·have:=h.at hfi hi h2;have:=(h.sz _ (List.getElem_mem hfi)).1;omega
 ·rw [if_neg (by omega)]
  refine overs_zero (fun o ho=>?_)
  obtain ⟨i,hi,hij,rfl⟩:=mem_take_lt ho
  have h1:=nextO_no hij hi
  have h2:=findO_no (L:=L) (a:=f) (i:=i) (by omega) hi
  left;omega
theorem overs_tail {n:Nat} {L:List Ob} (h:Good n L) {j:Nat} {f t:Int} (hj:∀ hl:j<L.length,t<=(L[j].1:Int)):overs (L.drop j) f t=0:=by
 refine overs_zero (fun o ho=>?_)
 obtain ⟨i,hi,hij,rfl⟩:=mem_drop_ge ho
 right
 have:=hj (by omega)
 rcases Nat.lt_or_ge j i with h1 | h1
 ·have:=h.at (i:=j) (by omega) hi h1;omega
 ·have:i=j:=by omega
  subst this;exact hj _
theorem overs_clip {n:Nat} {L:List Ob} (h:Good n L) (f t:Int):overs L (max f 0) (min t n)=overs L f t:=by
 unfold overs
 congr 1
 refine List.map_congr_left (fun o ho=>?_)
 have:=h.sz o ho
 unfold over;omega
def sizes:List Ob->Nat
 | []=>0
 | o :: r=>o.2+sizes r
def wordO:List Ob->Nat->Option Nat
 | [],_=>none
 | o :: r,k=>if k<o.2 then some (o.1+k) else wordO r (k-o.2)
def wordV (L:List Ob) (k:Int):Int:=if k<0 then 0 else ((wordO L k.toNat).getD 0:Nat)
def wordY (L:List Ob) (k:Int):Bool:=decide (0<=k)&&(wordO L k.toNat).isSome
theorem wordO_none {L:List Ob}:∀ {k:Nat},wordO L k=none↔sizes L<=k:=by
 induction L with
 | nil=>intro k;simp [wordO,sizes]
 | cons o r ih=>
  intro k
  unfold wordO sizes
  split
  ·constructor
   ·intro h;cases h
   ·intro h;omega
  ·rw [ih];omega
theorem sizes_take {L:List Ob} {j:Nat} (hj:j<L.length):sizes (L.take (j+1))=sizes (L.take j)+L[j].2:=by
 induction L generalizing j with
 | nil=>simp at hj
 | cons o r ih=>
  cases j with
  | zero=>simp [sizes]
  | succ j=>
   have:=ih (j:=j) (by simpa using hj)
   simp only [List.take_succ_cons,sizes,List.getElem_cons_succ] at this ⊢
   omega
theorem wordO_take {L:List Ob} {j i:Nat} (hj:j<L.length) (hi:i<L[j].2):wordO L (sizes (L.take j)+i)=some (L[j].1+i):=by
 induction L generalizing j with
 | nil=>simp at hj
 | cons o r ih=>
  cases j with
  | zero=>
   have hi:i<o.2:=hi
   simp only [List.take_zero,sizes,Nat.zero_add,wordO,List.getElem_cons_zero]
   rw [if_pos hi]
  | succ j=>
   have:=ih (j:=j) (by simpa using hj) (by simpa using hi)
   simp only [List.take_succ_cons,sizes,List.getElem_cons_succ,wordO]
   rw [if_neg (by omega),show o.2+sizes (List.take j r)+i-o.2=sizes (List.take j r)+i by omega]
   exact this
theorem overs_all {n:Nat} {L:List Ob} (h:Good n L):overs L 0 n=sizes L:=by
 have key:∀ (L:List Ob),(∀ o∈L,1<=o.2/\o.1+o.2<=n)->overs L 0 n=sizes L:=by
  intro L
  induction L with
  | nil=>intro _;rfl
  | cons o r ih=>
   intro hs
   have h1:=ih (fun q hq=>hs q (List.mem_cons_of_mem _ hq))
   have ho:=hs o (List.mem_cons_self ..)
   have h2:over o 0 n=o.2:=by unfold over;omega
   simp only [overs,List.map_cons,List.sum_cons,sizes] at h1 ⊢
   rw [h2];omega
 exact key L h.sz
theorem overs_upto {n:Nat} {L:List Ob} (h:Good n L) {j i:Nat} (hj:j<L.length) (hi:i<=L[j].2):overs L 0 ((L[j].1:Int)+i)=sizes (L.take j)+i:=by
 rw [overs_split L (j+1),overs_tail h (j:=j+1) (fun hl=>by have:=h.at hj hl (Nat.lt_succ_self _);omega),overs_take hj]
 have hg:Good L[j].1 (L.take j):=⟨h.pw.sublist (List.take_sublist ..),fun o ho=>by
  obtain ⟨q,hq,hqj,rfl⟩:=mem_take_lt ho
  have:=h.at hq hj hqj
  exact ⟨(h.sz _ (List.getElem_mem hq)).1,this⟩⟩
 have e:overs (L.take j) 0 ((L[j].1:Int)+i)=overs (L.take j) 0 (L[j].1:Nat):=by
  unfold overs
  congr 1
  refine List.map_congr_left (fun o ho=>?_)
  have:=hg.sz o ho
  unfold over;omega
 rw [e,overs_all hg]
 unfold over;omega
theorem sizes_le {n:Nat} {L:List Ob} (h:Good n L):sizes L<=n:=by
 have h1:=overs_all h
 have h2:=liveN_eq h 0 n
 have h3:liveN L n 0 n<=n:=cnt_le _ _
 omega
end Go.Proofs.YthgdadohijgleaaGreatDoor
end
section
namespace Go.Proofs.YthgdadohijgleaaGreatDoor
open Word
def insO:List Ob->Ob->List Ob
 | [],o=>[o]
 | q :: r,o=>if o.1<q.1 then o :: q :: r else q :: insO r o
theorem mem_insO {L:List Ob} {o x:Ob}:x∈insO L o↔x=o\/x∈L:=by
 induction L with
 | nil=>simp [insO]
 | cons q r ih=>
  unfold insO
  split
  ·simp
  ·simp only [List.mem_cons,ih]
   constructor
   ·rintro (h | h | h) <;> simp [h]
   ·rintro (h | h | h) <;> simp [h]
theorem insO_len (L:List Ob) (o:Ob):(insO L o).length=L.length+1:=by
 induction L with
 | nil=>rfl
 | cons q r ih=>unfold insO;split <;> simp [ih]
theorem insO_good {n:Nat} {L:List Ob} (h:Good n L) {o:Ob} (h1:1<=o.2) (h2:o.1+o.2<=n) (hd:∀ q∈L,o.1+o.2<=q.1\/q.1+q.2<=o.1):Good n (insO L o):=by
 refine ⟨?_,fun x hx=>?_⟩
 ·have key:∀ (L:List Ob),L.Pairwise (fun o q=>o.1+o.2<=q.1)->(∀ q∈L,1<=q.2)->(∀ q∈L,o.1+o.2<=q.1\/q.1+q.2<=o.1)->(insO L o).Pairwise (fun o q=>o.1+o.2<=q.1):=by
   intro L
   induction L with
   | nil=>intro _ _ _;simp [insO]
   | cons q r ih=>
    intro hp hs hd
    obtain ⟨hp1,hp2⟩:=List.pairwise_cons.1 hp
    have hq:=hd q (List.mem_cons_self ..)
    have hqs:=hs q (List.mem_cons_self ..)
    unfold insO
    split
    ·rename_i hlt
     refine List.pairwise_cons.2 ⟨fun x hx=>?_,hp⟩
     rcases List.mem_cons.1 hx with rfl | hx
     ·omega
     ·have:=hp1 x hx;omega
    ·rename_i hlt
     refine List.pairwise_cons.2 ⟨fun x hx=>?_,ih hp2 (fun x hx=>hs x (List.mem_cons_of_mem _ hx)) (fun x hx=>hd x (List.mem_cons_of_mem _ hx))⟩
     rcases mem_insO.1 hx with rfl | hx
     ·omega
     ·exact hp1 x hx
  exact key L h.pw (fun q hq=>(h.sz q hq).1) hd
 ·rcases mem_insO.1 hx with rfl | hx
  ·exact ⟨h1,h2⟩
  ·exact h.sz x hx
theorem bool_ext {a b:Bool} (h:a=true↔b=true):a=b:=Bool.eq_iff_iff.2 h
theorem at_set {l:List Bool} {k i:Nat} {x:Bool} (hk:k<l.length):at_ (l.set k x) i=if i=k then x else at_ l i:=getD_set l k i x hk
theorem starts_ins {n:Nat} {L:List Ob} (h:Good n L) {o:Ob} (h1:1<=o.2) (h2:o.1+o.2<=n) (hd:∀ q∈L,o.1+o.2<=q.1\/q.1+q.2<=o.1):startsL n (insO L o)=(startsL n L).set o.1 true:=
 ext_at (by rw [List.length_set,startsL_len,startsL_len]) (fun i _=>by
  rw [at_set (by rw [startsL_len];omega)]
  refine bool_ext ?_
  rw [at_starts (insO_good h h1 h2 hd)]
  split
  ·rename_i e;subst e;exact ⟨fun _=>rfl,fun _=>⟨o,mem_insO.2 (.inl rfl),rfl⟩⟩
  ·rename_i e
   rw [at_starts h]
   constructor
   ·rintro ⟨q,hq,rfl⟩
    rcases mem_insO.1 hq with rfl | hq
    ·exact absurd rfl e
    ·exact ⟨q,hq,rfl⟩
   ·rintro ⟨q,hq,rfl⟩;exact ⟨q,mem_insO.2 (.inr hq),rfl⟩)
theorem ends_ins {n:Nat} {L:List Ob} (h:Good n L) {o:Ob} (h1:1<=o.2) (h2:o.1+o.2<=n) (hd:∀ q∈L,o.1+o.2<=q.1\/q.1+q.2<=o.1):endsL n (insO L o)=(endsL n L).set (o.1+o.2-1) true:=
 ext_at (by rw [List.length_set,endsL_len,endsL_len]) (fun i _=>by
  rw [at_set (by rw [endsL_len];omega)]
  refine bool_ext ?_
  rw [at_ends (insO_good h h1 h2 hd)]
  split
  ·rename_i e;subst e;exact ⟨fun _=>rfl,fun _=>⟨o,mem_insO.2 (.inl rfl),by omega⟩⟩
  ·rename_i e
   rw [at_ends h]
   constructor
   ·rintro ⟨q,hq,e2⟩
    rcases mem_insO.1 hq with rfl | hq
    ·omega
    ·exact ⟨q,hq,e2⟩
   ·rintro ⟨q,hq,e2⟩;exact ⟨q,mem_insO.2 (.inr hq),e2⟩)
def clashB (L:List Ob) (s z:Int):Bool:=L.any fun o=>decide ((o.1:Int)<s+z/\s<o.1+o.2)
theorem clash_iff {L:List Ob} {s z:Int}:clashB L s z=true↔∃ o∈L,(o.1:Int)<s+z/\s<o.1+o.2:=by simp [clashB]
theorem clash_find {n:Nat} {L:List Ob} (h:Good n L) {s z:Int} (hz:1<=z):clashB L s z=(decide (findO L s<L.length)||(decide (nextO L s<L.length)&&decide (((L[nextO L s]?.getD (0,0)).1:Int)<s+z))):=by
 refine bool_ext ?_
 rw [clash_iff]
 simp only [Bool.or_eq_true,Bool.and_eq_true,decide_eq_true_eq]
 constructor
 ·rintro ⟨o,ho,h1,h2⟩
  by_cases hs:(o.1:Int)<=s
  ·left
   obtain ⟨j,hj,rfl⟩:=List.getElem_of_mem ho
   rw [findO_eq h hj hs h2];exact hj
  ·right
   obtain ⟨j,hj,rfl⟩:=List.getElem_of_mem ho
   have hn:nextO L s<=j:=by
    rcases Nat.lt_or_ge j (nextO L s) with hlt | hge
    ·have:=nextO_no hlt hj;omega
    ·exact hge
   refine ⟨by omega,?_⟩
   rw [List.getElem?_eq_getElem (by omega)]
   show (L[nextO L s].1:Int)<s+z
   rcases Nat.lt_or_ge (nextO L s) j with hlt | hge
   ·have:=h.at (i:=nextO L s) (by omega) hj hlt;omega
   ·have e:L[nextO L s]'(by omega)=L[j]:=by congr 1;omega
    rw [e];exact h1
 ·rintro (hf | ⟨hn,hl⟩)
  ·have:=findO_yes hf
   exact ⟨_,List.getElem_mem hf,by omega,by omega⟩
  ·rw [List.getElem?_eq_getElem hn] at hl
   have hl:(L[nextO L s].1:Int)<s+z:=hl
   have hy:=nextO_yes hn
   have:=(h.sz _ (List.getElem_mem hn)).1
   exact ⟨_,List.getElem_mem hn,hl,by omega⟩
def addE (L:List Ob) (n:Nat) (s z:Int):Int:=if z<1 then 15 else if s<0\/(n:Int)<=s\/(n:Int)-s<z then 11 else if clashB L s z then 7 else 0
def addL (L:List Ob) (n:Nat) (s z:Int):List Ob:=if addE L n s z=0 then insO L (s.toNat,z.toNat) else L
theorem addE_zero {L:List Ob} {n:Nat} {s z:Int} (h:addE L n s z=0):1<=z/\0<=s/\s+z<=n/\clashB L s z=false:=by
 unfold addE at h
 split at h
 ·omega
 ·split at h
  ·omega
  ·split at h
   ·omega
   ·rename_i h1 h2 h3
    refine ⟨by omega,by omega,by omega,by simpa using h3⟩
theorem add_apart {L:List Ob} {s z:Int} (hs:0<=s) (hz:1<=z) (h:clashB L s z=false):∀ q∈L,s.toNat+z.toNat<=q.1\/q.1+q.2<=s.toNat:=fun q hq=>by
 by_cases hc:(q.1:Int)<s+z/\s<q.1+q.2
 ·have:=clash_iff.2 ⟨q,hq,hc⟩;rw [h] at this;cases this
 ·omega
theorem addL_good {n:Nat} {L:List Ob} (h:Good n L) (s z:Int):Good n (addL L n s z):=by
 unfold addL
 split
 ·rename_i he
  obtain ⟨h1,h2,h3,h4⟩:=addE_zero he
  exact insO_good h (by show 1<=z.toNat;omega) (by show s.toNat+z.toNat<=n;omega) (add_apart h2 h1 h4)
 ·exact h
theorem starts_nil (n:Nat):startsL n []=List.replicate n false:=by unfold startsL;exact ext_at (by simp) (fun i hi=>by rw [at_map_range];simp [at_,List.getD_eq_getElem?_getD,List.getElem?_replicate];split <;> rfl)
theorem ends_nil (n:Nat):endsL n []=List.replicate n false:=by unfold endsL;exact ext_at (by simp) (fun i hi=>by rw [at_map_range];simp [at_,List.getD_eq_getElem?_getD,List.getElem?_replicate];split <;> rfl)
end Go.Proofs.YthgdadohijgleaaGreatDoor
end
end
section
section
namespace Go.Proofs.YthgdadohijgleaaGreatDoor
open Go.RowKit Word
structure Hdr where
 p:Int
 f:Int
 k:Int
def hdrV (h:Hdr):Value:=.agg #[.int .i64 h.p,.int .i64 h.f,.int .i64 h.k]
def inS (x:Int):Bool:=decide (0<=x/\x<256)
def hdrE (h:Hdr):Int:=if inS h.p&&inS h.f&&inS h.k&&decide (h.p+h.f+h.k<256) then 0 else 15
def hdrN (h:Hdr):Int:=if hdrE h=0 then 1+h.p+h.f+h.k else 0
theorem inS_cut (x:Int):(decide (x<0)=true/\inS x=false)\/(decide (x<0)=false/\decide (256<=x)=true/\inS x=false)\/(decide (x<0)=false/\decide (256<=x)=false/\inS x=true):=by
 unfold inS
 by_cases h0:x<0
 ·exact .inl ⟨decide_eq_true h0,decide_eq_false (by omega)⟩
 ·by_cases h1:256<=x
  ·exact .inr (.inl ⟨decide_eq_false h0,decide_eq_true h1,decide_eq_false (by omega)⟩)
  ·exact .inr (.inr ⟨decide_eq_false h0,decide_eq_false h1,decide_eq_true (by omega)⟩)
theorem hdrE_zero {h:Hdr} (he:hdrE h=0):∃ a b c:Nat,h=⟨a,b,c⟩/\a+b+c<=255:=by
 unfold hdrE inS at he
 split at he
 ·rename_i hh
  simp only [Bool.and_eq_true,decide_eq_true_eq] at hh
  obtain ⟨p,f,k⟩:=h
  simp only at hh
  exact ⟨p.toNat,f.toNat,k.toNat,by congr <;> omega,by omega⟩
 ·cases he
theorem hdrE_of {a b c:Nat} (h:a+b+c<=255):hdrE ⟨a,b,c⟩=0:=by
 unfold hdrE inS
 simp only []
 rw [decide_eq_true (by omega),decide_eq_true (by omega),decide_eq_true (by omega),decide_eq_true (by omega)]
 rfl
theorem hdrE_two (h:Hdr):hdrE h=0\/hdrE h=15:=by unfold hdrE;split <;> simp
section
variable {w:World}
set_option maxRecDepth 100000 in
set_option maxHeartbeats 1600000 in
theorem hdr_check (h:Hdr) (w:World):Calls Tryz.prog 128 #[hdrV h] w fun e w'=>e=.returned (.int .i64 (hdrE h))/\Gr w w':=by
 obtain ⟨p,f,k⟩:=h
 unfold hdrV
 simp only []
 have HE:Hid (hdrE ⟨p,f,k⟩=if inS p&&inS f&&inS k&&decide (p+f+k<256) then 0 else 15):=⟨rfl⟩
 have HN:∀ x,x=p\/x=f\/x=k->Hid (inS x=false->hdrE ⟨p,f,k⟩=15):=fun x hx=>⟨fun h0=>by
  rw [HE.out]
  rcases hx with rfl | rfl | rfl <;> rw [h0] <;> simp⟩
 have HY:Hid (inS p=true->inS f=true->inS k=true->hdrE ⟨p,f,k⟩=if p+f+k<256 then 0 else 15):=⟨fun a b c=>by
  rw [HE.out,a,b,c]
  by_cases h:p+f+k<256 <;> simp [h]⟩
 have H0:=HN p (.inl rfl)
 have H1:=HN f (.inr (.inl rfl))
 have H2:=HN k (.inr (.inr rfl))
 clear HN
 obtain ⟨E,hE⟩:∃ E,E=hdrE ⟨p,f,k⟩:=⟨_,rfl⟩
 rw [<-hE] at H0 H1 H2 HY HE ⊢
 clear hE
 have i0:∀ W,(Instr.index 302 (.agg #[.int .i64 p,.int .i64 f,.int .i64 k]) (.int .i64 0)).run Tryz.prog W=.ok (.int .i64 p) W:=fun _=>by kernel_rfl
 have i1:∀ W,(Instr.index 302 (.agg #[.int .i64 p,.int .i64 f,.int .i64 k]) (.int .i64 1)).run Tryz.prog W=.ok (.int .i64 f) W:=fun _=>by kernel_rfl
 have i2:∀ W,(Instr.index 302 (.agg #[.int .i64 p,.int .i64 f,.int .i64 k]) (.int .i64 2)).run Tryz.prog W=.ok (.int .i64 k) W:=fun _=>by kernel_rfl
 go_enter Tryz.func128,Tryz.ntmps128
 go_wp2
 go_loop [12] (fun i=>∃ j:Nat,j<=3/\i=.int .i64 j/\Hid ((1<=j->inS p=true)/\(2<=j->inS f=true)/\(3<=j->inS k=true))) (fun i=>3-(intOf i).toNat)
 case atStart=>exact ⟨0,by omega,rfl,⟨fun h=>by omega,fun h=>by omega,fun h=>by omega⟩⟩
 case round=>
  obtain ⟨j,hj,rfl,HJ⟩:=hrel
  rcases (by omega:j=0\/j=1\/j=2\/j=3) with rfl | rfl | rfl | rfl
  ·rcases inS_cut p with ⟨p0,E1⟩ | ⟨p0,p1,E1⟩ | ⟨p0,p1,E1⟩
   ·have E1:=hid E1
    go_wp2
    go_ret
    exact ⟨ret_int (H0.out E1.out).symm,(Gr.refl w).alloc _⟩
   ·have E1:=hid E1
    go_wp2
    go_ret
    exact ⟨ret_int (H0.out E1.out).symm,(Gr.refl w).alloc _⟩
   ·have E1:=hid E1
    go_wp2
    go_round
    case rel=>exact ⟨1,by omega,by go_num,⟨fun _=>E1.out,fun h=>by omega,fun h=>by omega⟩⟩
    case measure=>simp [intOf]
  ·rcases inS_cut f with ⟨p0,E1⟩ | ⟨p0,p1,E1⟩ | ⟨p0,p1,E1⟩
   ·have E1:=hid E1
    go_wp2
    go_ret
    exact ⟨ret_int (H1.out E1.out).symm,(Gr.refl w).alloc _⟩
   ·have E1:=hid E1
    go_wp2
    go_ret
    exact ⟨ret_int (H1.out E1.out).symm,(Gr.refl w).alloc _⟩
   ·have E1:=hid E1
    go_wp2
    go_round
    case rel=>exact ⟨2,by omega,by go_num,⟨fun _=>HJ.out.1 (by omega),fun _=>E1.out,fun h=>by omega⟩⟩
    case measure=>simp [intOf]
  ·rcases inS_cut k with ⟨p0,E1⟩ | ⟨p0,p1,E1⟩ | ⟨p0,p1,E1⟩
   ·have E1:=hid E1
    go_wp2
    go_ret
    exact ⟨ret_int (H2.out E1.out).symm,(Gr.refl w).alloc _⟩
   ·have E1:=hid E1
    go_wp2
    go_ret
    exact ⟨ret_int (H2.out E1.out).symm,(Gr.refl w).alloc _⟩
   ·have E1:=hid E1
    go_wp2
    go_round
    case rel=>exact ⟨3,by omega,by go_num,⟨fun _=>HJ.out.1 (by omega),fun _=>HJ.out.2.1 (by omega),fun _=>E1.out⟩⟩
    case measure=>simp [intOf]
  ·have j1:=HJ.out.1 (by omega)
   have j2:=HJ.out.2.1 (by omega)
   have j3:=HJ.out.2.2 (by omega)
   have HZ:=hid (HY.out j1 j2 j3)
   unfold inS at j1 j2 j3
   simp only [decide_eq_true_eq] at j1 j2 j3
   clear i0 i1 i2
   by_cases hs:p+f+k<256
   ·have d0:decide (256<=p+f+k)=false:=decide_eq_false (by omega)
    have HS:=hid hs
    clear hs
    go_wp2
    go_ret
    exact ⟨ret_int (by rw [HZ.out,if_pos HS.out]),(Gr.refl w).alloc _⟩
   ·have d0:decide (256<=p+f+k)=true:=decide_eq_true (by omega)
    have HS:=hid hs
    clear hs
    go_wp2
    go_ret
    exact ⟨ret_int (by rw [HZ.out,if_neg (by have:=HS.out;omega)]),(Gr.refl w).alloc _⟩
set_option maxRecDepth 100000 in
set_option maxHeartbeats 1600000 in
theorem hdr_size (h:Hdr) (w:World):Calls Tryz.prog 111 #[hdrV h] w fun e w'=>e=.returned (.int .i64 (hdrN h))/\Gr w w':=by
 have HC:=hid (fun W=>hdr_check h W)
 rcases hdrE_two h with he | he
 ·obtain ⟨a,b,c,rfl,hs⟩:=hdrE_zero he
  have HE:=hid he
  have HN:Hid (hdrN ⟨a,b,c⟩=1+(a:Int)+b+c):=⟨if_pos he⟩
  unfold hdrV at HC ⊢
  clear he
  go_enter Tryz.func111,Tryz.ntmps111
  go_wp2_with (go_at_call 128;refine (HC.out _).mono ?_;rintro e w1 ⟨rfl,hg1⟩;rw [HE.out];have hl:=(Gr.refl w).alloc (.cells #[.int .i64 a,.int .i64 b,.int .i64 c] 48);have k0:=(hg1.cell (b:=w.heap.size) (by simp) 0).trans (World.cell?_alloc_at _ _ _ 0 rfl);have k1:=(hg1.cell (b:=w.heap.size) (by simp) 1).trans (World.cell?_alloc_at _ _ _ 1 rfl);have k2:=(hg1.cell (b:=w.heap.size) (by simp) 2).trans (World.cell?_alloc_at _ _ _ 2 rfl);have HG1:=hid (hl.trans hg1);clear hg1 hl)
  go_ret
  exact ⟨ret_int (by rw [HN.out]),HG1.out⟩
 ·have HE:=hid he
  have HN:Hid (hdrN h=0):=⟨if_neg (by rw [he];decide)⟩
  unfold hdrV at HC ⊢
  clear he
  go_enter Tryz.func111,Tryz.ntmps111
  go_wp2_with (go_at_call 128;refine (HC.out _).mono ?_;rintro e w1 ⟨rfl,hg1⟩;rw [HE.out];have HG1:=hid (((Gr.refl w).alloc _).trans hg1);clear hg1)
  go_ret
  exact ⟨ret_int (by rw [HN.out]),HG1.out⟩
end
end Go.Proofs.YthgdadohijgleaaGreatDoor
end
section
namespace Go.Proofs.YthgdadohijgleaaGreatDoor
open Go.RowKit Word
def hdrL (a b c:Nat):Nat:=a+256*b+65536*c+2768240640
def hdrW (a b c:Nat):Nat:=(4294967295-hdrL a b c)*4294967296+hdrL a b c
def kindOf (h:Hdr) (i:Int):Int:=if 0<=i/\i<hdrN h-1 then (if i<h.p then 1 else if i<h.p+h.f then 2 else 3) else 0
theorem or_mulT (a b i m:Nat) (hm:m=2 ^ i) (h:a<m):a ||| (b*m)=b*m+a:=by
 subst hm
 rw [Nat.or_comm,<-Nat.shiftLeft_eq,Nat.shiftLeft_add_eq_or_of_lt h]
theorem u32_not (n:Nat) (hn:n<4294967296):bits .xor .u32 IntKind.u32.max (n:Int)=((4294967295-n:Nat):Int):=by
 have h1:(BitVec.ofInt 32 (n:Int)).toNat=n:=by
  rw [BitVec.ofInt_natCast,BitVec.toNat_ofNat];exact Nat.mod_eq_of_lt (by omega)
 have h2:BitVec.ofInt 32 IntKind.u32.max=BitVec.allOnes 32:=by decide
 show IntKind.u32.wrap ((BitVec.ofInt 32 IntKind.u32.max ^^^ BitVec.ofInt 32 (n:Int)).toNat:Int)=_
 rw [h2,BitVec.allOnes_xor,BitVec.toNat_not,h1,IntKind.wrap_u32]
 omega
theorem hdrL_bits {a b c:Nat} (hs:a+b+c<=255):bits .or .u32 (bits .or .u32 (bits .or .u32 (a:Int) ((b:Int)*256)) ((c:Int)*65536)) 2768240640=((hdrL a b c:Nat):Int):=by
 have e1:((b:Int)*256)=((b*256:Nat):Int):=by omega
 have e2:((c:Int)*65536)=((c*65536:Nat):Int):=by omega
 have e3:(2768240640:Int)=((165*16777216:Nat):Int):=by omega
 rw [e1,e2,e3,u32_or_nat a (b*256) (by omega) (by omega),or_mulT a b 8 256 (by decide) (by omega),u32_or_nat _ (c*65536) (by omega) (by omega),or_mulT _ c 16 65536 (by decide) (by omega),u32_or_nat _ (165*16777216) (by omega) (by omega),or_mulT _ 165 24 16777216 (by decide) (by omega)]
 unfold hdrL
 omega
theorem hdrL_lt {a b c:Nat} (hs:a+b+c<=255):hdrL a b c<4294967296:=by unfold hdrL;omega
theorem hdrW_bits {n:Nat} (hn:n<4294967296):bits .or .u64 (((4294967295-n:Nat):Int)*4294967296) (n:Int)=(((4294967295-n)*4294967296+n:Nat):Int):=by
 have e1:(((4294967295-n:Nat):Int)*4294967296)=(((4294967295-n)*4294967296:Nat):Int):=by omega
 rw [e1,bits_or_u64_nat _ _ (by omega) (by omega),Nat.or_comm,or_mulT _ _ 32 4294967296 (by decide) hn]
set_option maxRecDepth 100000 in
set_option maxHeartbeats 1600000 in
theorem hdr_put_ok {a b c:Nat} (hs:a+b+c<=255) (w:World):Calls Tryz.prog 222 #[hdrV ⟨a,b,c⟩] w fun e w'=>e=.returned (.tuple #[.int .u64 (hdrW a b c:Nat),.int .i64 0])/\Gr w w':=by
 have HC:=hid (fun W=>hdr_check ⟨a,b,c⟩ W)
 have HE:=hid (hdrE_of hs)
 have f1:=hdrL_bits hs
 have hn:=hdrL_lt hs
 have HW:Hid (hdrW a b c=(4294967295-hdrL a b c)*4294967296+hdrL a b c):=⟨rfl⟩
 obtain ⟨n,hnn⟩:∃ n,n=hdrL a b c:=⟨_,rfl⟩
 rw [<-hnn] at f1 hn HW
 have f2:=u32_not n hn
 have f3:=hdrW_bits hn
 have f4:IntKind.u64.wrap (((4294967295-n:Nat):Int))=((4294967295-n:Nat):Int):=by rw [IntKind.wrap_u64];omega
 have f5:IntKind.u64.wrap (((4294967295-n:Nat):Int)*4294967296)=((4294967295-n:Nat):Int)*4294967296:=by rw [IntKind.wrap_u64];omega
 have f6:IntKind.u64.wrap (n:Int)=(n:Int):=by rw [IntKind.wrap_u64];omega
 generalize 4294967295-n=m at f2 f3 f4 f5 HW
 clear hnn hn
 unfold hdrV at HC ⊢
 go_enter Tryz.func222,Tryz.ntmps222
 go_wp2_with (go_at_call 128;refine (HC.out _).mono ?_;rintro e w1 ⟨rfl,hg1⟩;rw [HE.out];have hl:=(Gr.refl w).alloc (.cells #[.int .i64 a,.int .i64 b,.int .i64 c] 48);have k0:=(hg1.cell (b:=w.heap.size) (by simp) 0).trans (World.cell?_alloc_at _ _ _ 0 rfl);have k1:=(hg1.cell (b:=w.heap.size) (by simp) 1).trans (World.cell?_alloc_at _ _ _ 1 rfl);have k2:=(hg1.cell (b:=w.heap.size) (by simp) 2).trans (World.cell?_alloc_at _ _ _ 2 rfl);have HG1:=hid (hl.trans hg1);clear hg1 hl)
 go_ret2
 exact ⟨ret2 (by rw [HW.out];rfl) rfl,HG1.out⟩
def tkOk (x:Nat):Bool:=decide (x%4294967296/16777216=165)&&decide (x/4294967296=4294967295-x%4294967296)&&decide (x%256+x/256%256+x/65536%256<=255)
def tkH (x:Nat):Hdr:=if tkOk x then ⟨(x%256:Nat),(x/256%256:Nat),(x/65536%256:Nat)⟩ else ⟨0,0,0⟩
def tkE (x:Nat):Int:=if tkOk x then 0 else 16
theorem u32_low (n:Nat) (hn:n<4294967296):bits .and .u32 (n:Int) 255=((n%256:Nat):Int):=by
 rw [show (255:Int)=((255:Nat):Int) from rfl,u32_and_nat n 255 hn (by omega)]
 have:n &&& 255=n%256:=Nat.and_two_pow_sub_one_eq_mod n 8
 skip
 rw [this]
theorem load_hdr (W:World) (blk:Nat) (p q r:Value) (h0:W.cell? ⟨blk,0,none⟩=some p) (h1:W.cell? ⟨blk,1,none⟩=some q) (h2:W.cell? ⟨blk,2,none⟩=some r):(loadVar 48 ⟨blk,0,none⟩).run Tryz.prog W=.ok (.agg #[p,q,r]) W:=by
 have a1:(isAgg 48).run Tryz.prog W=.ok true W:=by kernel_rfl
 have a2:(sizeOf 48).run Tryz.prog W=.ok 3 W:=by kernel_rfl
 simp [loadVar,Sem.run_bind,a1,a2,Result.andThen,loadCells,go_sem,h0,h1,h2]
theorem tk_recs {w w1:World} {xs ys:List Value} (hg:Gr ((w.alloc (.cells xs.toArray 48)).alloc (.cells ys.toArray 48)) w1):Rec w1 w.heap.size 48 xs/\Rec w1 (w.heap.size+1) 48 ys:=by
 refine ⟨((Rec.new w _ xs).gr ((Gr.refl _).alloc _)).gr hg,?_⟩
 have:=(Rec.new (w.alloc (.cells xs.toArray 48)) 48 ys).gr hg
 rw [World.size_alloc] at this
 exact this
theorem tk_gr {w w1:World} {o o2:Obj} (hg:Gr ((w.alloc o).alloc o2) w1) {x y z:Value}:Gr w (((w1.setCell ⟨w.heap.size,0,none⟩ x).setCell ⟨w.heap.size,1,none⟩ y).setCell ⟨w.heap.size,2,none⟩ z):=by
 have h1:Touch (fun k=>w.heap.size<=k) w w1:=((((Gr.refl w).alloc o).alloc o2).trans hg).touch _
 have h2:=((h1.setCell (a:=⟨w.heap.size,0,none⟩) (fun _=>Nat.le_refl _) x).setCell (a:=⟨w.heap.size,1,none⟩) (fun _=>Nat.le_refl _) y).setCell (a:=⟨w.heap.size,2,none⟩) (fun _=>Nat.le_refl _) z
 exact (h2.mono (fun k hk h=>by omega)).gr
set_option maxRecDepth 100000 in
set_option maxHeartbeats 1600000 in
theorem hdr_take {x:Nat} (hx:x<18446744073709551616) (w:World):Calls Tryz.prog 213 #[.int .u64 x] w fun e w'=>e=.returned (.tuple #[hdrV (tkH x),.int .i64 (tkE x)])/\Gr w w':=by
 obtain ⟨n,hn⟩:∃ n,n=x%4294967296:=⟨_,rfl⟩
 obtain ⟨h,hh⟩:∃ h,h=x/4294967296:=⟨_,rfl⟩
 obtain ⟨a,ha⟩:∃ a,a=n%256:=⟨_,rfl⟩
 obtain ⟨b,hb⟩:∃ b,b=n/256%256:=⟨_,rfl⟩
 obtain ⟨c,hc⟩:∃ c,c=n/65536%256:=⟨_,rfl⟩
 obtain ⟨d,hd⟩:∃ d,d=n/16777216:=⟨_,rfl⟩
 obtain ⟨m,hm⟩:∃ m,m=4294967295-n:=⟨_,rfl⟩
 have hnl:n<4294967296:=by omega
 have HT:Hid (tkOk x=(decide (d=165)&&decide (h=m)&&decide (a+b+c<=255))/\tkH x=if tkOk x then ⟨(a:Nat),(b:Nat),(c:Nat)⟩ else ⟨0,0,0⟩):=⟨by
  have e1:x%256=a:=by omega
  have e2:x/256%256=b:=by omega
  have e3:x/65536%256=c:=by omega
  unfold tkH tkOk
  rw [e1,e2,e3,<-hn,<-hd,<-hh,<-hm]
  exact ⟨rfl,rfl⟩⟩
 have g0:(x:Int)%4294967296=(n:Int):=by omega
 have g5:(x:Int)/4294967296=(h:Int):=by omega
 have g1:bits .and .u32 (n:Int) 255=(a:Int):=by rw [u32_low n hnl,ha]
 have g2:bits .and .u32 ((n:Int)/256) 255=(b:Int):=by
  rw [show (n:Int)/256=((n/256:Nat):Int) by omega,u32_low _ (by omega),hb]
 have g3:bits .and .u32 ((n:Int)/65536) 255=(c:Int):=by
  rw [show (n:Int)/65536=((n/65536:Nat):Int) by omega,u32_low _ (by omega),hc]
 have g4:(n:Int)/16777216=(d:Int):=by omega
 have g6:bits .xor .u32 IntKind.u32.max (n:Int)=(m:Int):=by rw [u32_not n hnl,hm]
 have ba:a<=255:=by omega
 have bb:b<=255:=by omega
 have bc:c<=255:=by omega
 have HC:=hid (fun W=>hdr_check ⟨a,b,c⟩ W)
 have hEE:hdrE ⟨a,b,c⟩=if a+b+c<=255 then 0 else 15:=by
  unfold hdrE inS
  simp only []
  rw [decide_eq_true (by omega),decide_eq_true (by omega),decide_eq_true (by omega)]
  by_cases h:a+b+c<=255
  ·rw [if_pos h,decide_eq_true (by omega)];rfl
  ·rw [if_neg h,decide_eq_false (by omega)];rfl
 have HEE:=hid hEE
 clear hEE
 unfold hdrV at HC
 have KL:=hid (show ∀ (W:World) (blk:Nat) (p q r:Value),W.cell? ⟨blk,0,none⟩=some p->W.cell? ⟨blk,1,none⟩=some q->W.cell? ⟨blk,2,none⟩=some r->(loadVar 48 ⟨blk,0,none⟩).run Tryz.prog W=.ok (.agg #[p,q,r]) W by
  intro W blk p q r h0 h1 h2
  exact load_hdr W blk p q r h0 h1 h2)
 clear hn hh ha hb hc hd hm hnl
 by_cases t1:d=165
 ·have HT1:=hid t1
  have d1:((d:Int) !=165)=false:=by rw [t1];rfl
  by_cases t2:h=m
  ·have HT2:=hid t2
   have d2:((h:Int) !=(m:Int))=false:=by rw [t2];simp
   have d3:¬ ¬ ((h:Int)=bits .xor .u32 IntKind.u32.max (n:Int)):=by rw [g6,t2];simp
   by_cases t3:a+b+c<=255
   ·have HK:Hid (hdrE ⟨a,b,c⟩=0):=⟨by rw [HEE.out,if_pos t3]⟩
    have HE:Hid (tkH x=⟨(a:Nat),(b:Nat),(c:Nat)⟩/\tkE x=0):=⟨by
     have:tkOk x=true:=by rw [HT.out.1,decide_eq_true t1,decide_eq_true t2,decide_eq_true t3];rfl
     unfold tkE;rw [HT.out.2,this];exact ⟨rfl,rfl⟩⟩
    clear t1 t2 t3 HT
    go_enter Tryz.func213,Tryz.ntmps213
    go_wp2_with (go_at_call 128;refine (HC.out _).mono ?_;rintro e w1 ⟨rfl,hg1⟩;rw [HK.out];obtain ⟨r1,r2⟩:=tk_recs (xs:=[.int .i64 0,.int .i64 0,.int .i64 0]) (ys:=[.int .i64 a,.int .i64 b,.int .i64 c]) hg1;have k0:=r1.cell (j:=0) rfl;have k1:=r1.cell (j:=1) rfl;have k2:=r1.cell (j:=2) rfl;have kf:=r1.free;have k3:=r2.cell (j:=0) rfl;have k4:=r2.cell (j:=1) rfl;have k5:=r2.cell (j:=2) rfl;have HR1:=hid r1;have HG1:=hid hg1;clear hg1 r1 r2)
    have R3:=Rec.set (Rec.set (Rec.set HR1.out 0 (.int .i64 a)) 1 (.int .i64 b)) 2 (.int .i64 c)
    refine bodyPost_ret (v:=.tuple #[hdrV ⟨a,b,c⟩,.int .i64 0]) ?_ rfl ?_
    ·rw [results_cell_tmp rfl]
     have hl:=KL.out _ w.heap.size _ _ _ (R3.cell (j:=0) rfl) (R3.cell (j:=1) rfl) (R3.cell (j:=2) rfl)
     simp [asAddr,Result.andThen,hl,hdrV]
    ·exact ⟨by rw [HE.out.1,HE.out.2],tk_gr HG1.out⟩
   ·have HK:Hid (hdrE ⟨a,b,c⟩=15):=⟨by rw [HEE.out,if_neg t3]⟩
    have HE:Hid (tkH x=⟨0,0,0⟩/\tkE x=16):=⟨by
     have:tkOk x=false:=by rw [HT.out.1,decide_eq_false t3];simp
     unfold tkE;rw [HT.out.2,this];exact ⟨rfl,rfl⟩⟩
    clear t1 t2 t3 HT
    go_enter Tryz.func213,Tryz.ntmps213
    go_wp2_with (go_at_call 128;refine (HC.out _).mono ?_;rintro e w1 ⟨rfl,hg1⟩;rw [HK.out];obtain ⟨r1,r2⟩:=tk_recs (xs:=[.int .i64 0,.int .i64 0,.int .i64 0]) (ys:=[.int .i64 a,.int .i64 b,.int .i64 c]) hg1;have k0:=r1.cell (j:=0) rfl;have k1:=r1.cell (j:=1) rfl;have k2:=r1.cell (j:=2) rfl;have kf:=r1.free;have k3:=r2.cell (j:=0) rfl;have k4:=r2.cell (j:=1) rfl;have k5:=r2.cell (j:=2) rfl;have HR1:=hid r1;have HG1:=hid hg1;clear hg1 r1 r2)
    have R3:=Rec.set (Rec.set (Rec.set HR1.out 0 (.int .i64 0)) 1 (.int .i64 0)) 2 (.int .i64 0)
    refine bodyPost_ret (v:=.tuple #[hdrV ⟨0,0,0⟩,.int .i64 16]) ?_ rfl ?_
    ·rw [results_cell_tmp rfl]
     have hl:=KL.out _ w.heap.size _ _ _ (R3.cell (j:=0) rfl) (R3.cell (j:=1) rfl) (R3.cell (j:=2) rfl)
     simp [asAddr,Result.andThen,hl,hdrV]
    ·exact ⟨by rw [HE.out.1,HE.out.2],tk_gr HG1.out⟩
  ·have d2:((h:Int) !=(m:Int))=true:=by simp;omega
   have d3:¬ ((h:Int)=bits .xor .u32 IntKind.u32.max (n:Int)):=by rw [g6];omega
   have HE:Hid (tkH x=⟨0,0,0⟩/\tkE x=16):=⟨by
    have:tkOk x=false:=by rw [HT.out.1,decide_eq_false t2];simp
    unfold tkE;rw [HT.out.2,this];exact ⟨rfl,rfl⟩⟩
   clear t1 t2 HT
   go_enter Tryz.func213,Tryz.ntmps213
   go_wp2
   refine bodyPost_ret (v:=.tuple #[hdrV ⟨0,0,0⟩,.int .i64 16]) ?_ rfl ?_
   ·rw [results_cell_tmp rfl]
    simp [asAddr,Result.andThen,go_sem]
    rfl
   ·exact ⟨by rw [HE.out.1,HE.out.2],((Gr.refl w).alloc _).alloc _⟩
 ·have d1:((d:Int) !=165)=true:=by simp;omega
  have d3:¬ ((d:Int)=165):=by omega
  have d4:¬ ((n:Int)/16777216=165):=by omega
  have HE:Hid (tkH x=⟨0,0,0⟩/\tkE x=16):=⟨by
   have:tkOk x=false:=by rw [HT.out.1,decide_eq_false t1];simp
   unfold tkE;rw [HT.out.2,this];exact ⟨rfl,rfl⟩⟩
  clear t1 HT
  go_enter Tryz.func213,Tryz.ntmps213
  go_wp2
  refine bodyPost_ret (v:=.tuple #[hdrV ⟨0,0,0⟩,.int .i64 16]) ?_ rfl ?_
  ·rw [results_cell_tmp rfl]
   simp [asAddr,Result.andThen,go_sem]
   rfl
  ·exact ⟨by rw [HE.out.1,HE.out.2],((Gr.refl w).alloc _).alloc _⟩
set_option maxRecDepth 100000 in
set_option maxHeartbeats 1600000 in
theorem hdr_kind {a b c:Nat} (hs:a+b+c<=255) (i:Int) (w:World):Calls Tryz.prog 184 #[hdrV ⟨a,b,c⟩,.int .i64 i] w fun e w'=>e=.returned (.int .i64 (kindOf ⟨a,b,c⟩ i))/\Gr w w':=by
 have hN:hdrN ⟨a,b,c⟩=1+(a:Int)+b+c:=if_pos (hdrE_of hs)
 have HZ:=hid (fun W=>hdr_size ⟨a,b,c⟩ W)
 have HK:Hid (kindOf ⟨a,b,c⟩ i=if 0<=i/\i<(a:Int)+b+c then (if i<a then 1 else if i<(a:Int)+b then 2 else 3) else 0):=⟨by
  unfold kindOf
  rw [hN]
  simp only []
  by_cases h:0<=i/\i<(a:Int)+b+c
  ·rw [if_pos h,if_pos (by omega)]
  ·rw [if_neg h,if_neg (by omega)]⟩
 rw [hN] at HZ
 unfold hdrV at HZ ⊢
 clear hN
 by_cases h0:i<0
 ·have d0:decide (i<0)=true:=decide_eq_true h0
  have HE:Hid (kindOf ⟨a,b,c⟩ i=0):=⟨by rw [HK.out,if_neg (by omega)]⟩
  clear HK
  go_enter Tryz.func184,Tryz.ntmps184
  go_wp2
  go_ret
  exact ⟨ret_int (by rw [HE.out]),(Gr.refl w).alloc _⟩
 ·have d0:decide (i<0)=false:=decide_eq_false h0
  by_cases h1:(a:Int)+b+c<=i
  ·have HE:Hid (kindOf ⟨a,b,c⟩ i=0):=⟨by rw [HK.out,if_neg (by omega)]⟩
   have d1:decide (1+(a:Int)+b+c-1<=i)=true:=decide_eq_true (by omega)
   clear HK
   go_enter Tryz.func184,Tryz.ntmps184
   go_wp2_with (go_at_call 111;refine (HZ.out _).mono ?_;rintro e w1 ⟨rfl,hg1⟩;have HG1:=hid (((Gr.refl w).alloc _).trans hg1);clear hg1)
   go_ret
   exact ⟨ret_int (by rw [HE.out]),HG1.out⟩
  ·have d1:decide (1+(a:Int)+b+c-1<=i)=false:=decide_eq_false (by omega)
   have HE:Hid (kindOf ⟨a,b,c⟩ i=if i<a then 1 else if i<(a:Int)+b then 2 else 3):=⟨by rw [HK.out,if_pos (by omega)]⟩
   clear HK
   by_cases h2:i<a
   ·have d2:decide (i<(a:Int))=true:=decide_eq_true h2
    go_enter Tryz.func184,Tryz.ntmps184
    go_wp2_with (go_at_call 111;refine (HZ.out _).mono ?_;rintro e w1 ⟨rfl,hg1⟩;have k0:=(hg1.cell (b:=w.heap.size) (by simp) 0).trans (World.cell?_alloc_at _ _ _ 0 rfl);have k1:=(hg1.cell (b:=w.heap.size) (by simp) 1).trans (World.cell?_alloc_at _ _ _ 1 rfl);have HG1:=hid (((Gr.refl w).alloc _).trans hg1);clear hg1)
    go_ret
    exact ⟨ret_int (by rw [HE.out,if_pos h2]),HG1.out⟩
   ·have d2:decide (i<(a:Int))=false:=decide_eq_false h2
    by_cases h3:i<(a:Int)+b
    ·have d3:decide (i<(a:Int)+(b:Int))=true:=decide_eq_true h3
     go_enter Tryz.func184,Tryz.ntmps184
     go_wp2_with (go_at_call 111;refine (HZ.out _).mono ?_;rintro e w1 ⟨rfl,hg1⟩;have k0:=(hg1.cell (b:=w.heap.size) (by simp) 0).trans (World.cell?_alloc_at _ _ _ 0 rfl);have k1:=(hg1.cell (b:=w.heap.size) (by simp) 1).trans (World.cell?_alloc_at _ _ _ 1 rfl);have HG1:=hid (((Gr.refl w).alloc _).trans hg1);clear hg1)
     go_ret
     exact ⟨ret_int (by rw [HE.out,if_neg (by omega),if_pos h3]),HG1.out⟩
    ·have d3:decide (i<(a:Int)+(b:Int))=false:=decide_eq_false h3
     go_enter Tryz.func184,Tryz.ntmps184
     go_wp2_with (go_at_call 111;refine (HZ.out _).mono ?_;rintro e w1 ⟨rfl,hg1⟩;have k0:=(hg1.cell (b:=w.heap.size) (by simp) 0).trans (World.cell?_alloc_at _ _ _ 0 rfl);have k1:=(hg1.cell (b:=w.heap.size) (by simp) 1).trans (World.cell?_alloc_at _ _ _ 1 rfl);have HG1:=hid (((Gr.refl w).alloc _).trans hg1);clear hg1)
     go_ret
     exact ⟨ret_int (by rw [HE.out,if_neg (by omega),if_neg (by omega)]),HG1.out⟩
end Go.Proofs.YthgdadohijgleaaGreatDoor
end
section
namespace Go.Proofs.YthgdadohijgleaaGreatDoor
open Go.RowKit Word
def spV (q:Nat):Value:=.iface 107 (.pointer (some ⟨q,0,none⟩))
theorem nil_load (n:Nat) (a:Addr) (w:World):(nilAhead (n+1) 107 (.pointer (some a)) "Load").run Tryz.prog w=.ok (some false) w:=by kernel_rfl
theorem method_load (n:Nat) (a:Addr) (w:World):(method (n+1) 107 (.pointer (some a)) "Load").run Tryz.prog w=.ok (150,.pointer (some a)) w:=by kernel_rfl
def Vm.rdH (v:Vm) (a:Int):Hdr:=if 0<a/\v.ldE a=0 then tkH (v.ldV a) else ⟨0,0,0⟩
def Vm.rdE (v:Vm) (a:Int):Int:=if a=0 then 18 else if a<0 then 5 else if v.ldE a=0 then tkE (v.ldV a) else v.ldE a
theorem VmOk.ldV_lt {v:Vm} (h:VmOk v) (a:Int):v.ldV a<18446744073709551616:=by
 unfold Vm.ldV
 split
 ·rw [List.getD_eq_getElem?_getD]
  rcases Nat.lt_or_ge (v.at a) v.pl.wd.length with hl | hl
  ·rw [List.getElem?_eq_getElem hl];exact h.pl.w64 _ (List.getElem_mem hl)
  ·rw [List.getElem?_eq_none hl];decide
 ·decide
theorem rd_gr {w w1:World} (hg:Gr w w1) {x y z:Value}:Gr w (((w1.setCell ⟨w.heap.size,0,none⟩ x).setCell ⟨w.heap.size,1,none⟩ y).setCell ⟨w.heap.size,2,none⟩ z):=by
 have h1:Touch (fun k=>w.heap.size<=k) w w1:=hg.touch _
 have h2:=((h1.setCell (a:=⟨w.heap.size,0,none⟩) (fun _=>Nat.le_refl _) x).setCell (a:=⟨w.heap.size,1,none⟩) (fun _=>Nat.le_refl _) y).setCell (a:=⟨w.heap.size,2,none⟩) (fun _=>Nat.le_refl _) z
 exact (h2.mono (fun k hk h=>by omega)).gr
structure Sp where
 T:TypeId
 rv:Value
 FL:FuncId
 P:Int->Prop
 M:Prop
 D:Nat->Prop
 I:Vm->(Nat->Prop)->World->Prop
def Sp.v (z:Sp):Value:=.iface z.T z.rv
structure Sp.Ok (z:Sp):Prop where
 nl:∀ n w,(nilAhead (n+1) z.T z.rv "Load").run Tryz.prog w=.ok (some false) w
 ml:∀ n w,(method (n+1) z.T z.rv "Load").run Tryz.prog w=.ok (z.FL,z.rv) w
 cl:∀ args w,(callFunc z.FL args).run Tryz.prog w=.ok (.enter z.FL args) w
 nn:∀ w,(binOp BinOp.eql 180 (.iface z.T z.rv) .nilIface).run Tryz.prog w=.ok (.bool false) w
 ok:∀ {u S w},z.I u S w->VmOk u
 fr:∀ {u S S' T' w w'},z.I u S w->Touch T' w w'->(∀ k,k<w.heap.size->T' k->¬ S k/\¬ z.D k)->(∀ k,S k->S' k)->z.I u S' w'
 nw:∀ {u S w},z.I u S w->∀ k,z.D k->k<w.heap.size
 ct:∀ {u S w},z.I u S w->z.I u (cutS S w) w
 ld:∀ {u S w},z.I u S w->∀ a,z.P a->Calls Tryz.prog z.FL #[z.rv,.int .i64 a] w (fun e w'=>e=.returned (.tuple #[.int .u64 (u.ldV a:Nat),.int .i64 (u.ldE a)])/\Touch (fun k=>z.M/\S k) w w'/\z.I u (plus S w) w')
def Sp.E (z:Sp) (u:Vm) (S:Nat->Prop) (w w':World):Prop:=Touch (fun k=>z.M/\S k) w w'/\z.I u (plus S w) w'
section
variable {z:Sp} {u:Vm} {S:Nat->Prop} {w w1 w':World}
theorem Sp.Ok.gr (h:z.Ok) (hI:z.I u S w) (g:Gr w w'):z.I u S w':=h.fr hI (g.touch (fun _=>False)) (fun _ _ h=>h.elim) (fun _ h=>h)
theorem Sp.Ok.mono {S':Nat->Prop} (h:z.Ok) (hI:z.I u S w) (hs:∀ k,S k->S' k):z.I u S' w:=h.fr hI (Touch.refl (fun _=>False) w) (fun _ _ h=>h.elim) hs
theorem Sp.Ok.get (h:z.Ok) (hI:z.I u S w) (g:Gr w w'):z.E u S w w':=⟨g.touch _,h.mono (h.gr hI g) (fun _ h=>.inl h)⟩
theorem Sp.E.ro (h:z.E u S w w') (hM:¬ z.M):Gr w w':=(h.1.mono (fun _ _ hk=>hM hk.1)).gr
theorem Sp.E.trans (h:z.E u S w w1) (k:z.E u (plus S w) w1 w') (hS:z.Ok):z.E u S w w':=by
 have hz:=h.1.size
 refine ⟨h.1.trans' k.1 (fun _ hi hh=>⟨hh.1,hh.2.elim id (fun h=>by omega)⟩),hS.mono k.2 (fun i hi=>?_)⟩
 rcases hi with h1 | h1
 ·exact h1
 ·exact .inr (by omega)
theorem Sp.E.gr (h:z.E u S w w1) (g:Gr w1 w') (hS:z.Ok):z.E u S w w':=⟨h.1.trans (g.touch _),hS.gr h.2 g⟩
theorem Sp.E.rec {b t:Nat} {xs:List Value} (h:z.E u (cutS S w) w1 w') (hr:Rec w1 b t xs) (hb:w.heap.size<=b):Rec w' b t xs:=hr.touch h.1 (fun hh=>by have:=hh.2.2;omega)
theorem Sp.E.cells (h:z.E u (cutS S w) w1 w') (hS:z.Ok) (hI:z.I u S w) (g:Gr w w1) {b:Nat} (hb:w.heap.size<=b) (hb1:b<w1.heap.size) {w2:World} (t:Touch (fun k=>k=b) w' w2):z.E u S w w2:=by
 refine ⟨(((g.touch (fun k=>z.M/\S k)).trans' h.1 (fun _ _ hh=>⟨hh.1,hh.2.1⟩))).trans' t (fun i hi hh=>by omega),hS.fr h.2 t (fun i _ hh=>?_) (fun i hi=>?_)⟩
 ·subst hh
  refine ⟨fun hp=>?_,fun hd=>?_⟩
  ·rcases hp with hp | hp
   ·have:=hp.2;omega
   ·omega
  ·have:=hS.nw hI _ hd;omega
 ·rcases hi with h1 | h1
  ·exact .inl h1.1
  ·exact .inr (Nat.le_trans g.size h1)
theorem touch3 (W:World) (b:Nat) (x y z:Value):Touch (fun k=>k=b) W (((W.setCell ⟨b,0,none⟩ x).setCell ⟨b,1,none⟩ y).setCell ⟨b,2,none⟩ z):=
 (((Touch.refl (fun k=>k=b) W).setCell (a:=⟨b,0,none⟩) (fun _=>rfl) x).setCell (a:=⟨b,1,none⟩) (fun _=>rfl) y).setCell (a:=⟨b,2,none⟩) (fun _=>rfl) z
set_option maxRecDepth 100000 in
set_option maxHeartbeats 1600000 in
theorem sp_read (hS:z.Ok) (hI:z.I u S w) (a:Int) (hP:0<a->z.P a):Calls Tryz.prog 121 #[z.v,.int .i64 a] w fun e w'=>e=.returned (.tuple #[hdrV (u.rdH a),.int .i64 (u.rdE a)])/\z.E u S w w':=by
 have HS:=hid hS
 have HI:=hid hI
 have hok:=hS.ok hI
 have hx:=hok.ldV_lt a
 have n1:=hS.nl
 have n2:=hS.ml
 have n3:=hS.cl
 unfold Sp.v
 have KL:=hid (fun (W:World) (blk:Nat) (p q r:Value)=>load_hdr W blk p q r)
 rcases (by omega:a=0\/a<0\/0<a) with h0 | h0 | h0
 ·subst h0
  clear hS hI hP
  go_enter Tryz.func121,Tryz.ntmps121
  go_wp2
  refine bodyPost_ret (v:=.tuple #[hdrV ⟨0,0,0⟩,.int .i64 18]) ?_ rfl ?_
  ·rw [results_cell_tmp rfl]
   simp [asAddr,Result.andThen,go_sem]
   rfl
  ·exact ⟨rfl,HS.out.get HI.out ((Gr.refl w).alloc _)⟩
 ·have d0:(a==0)=false:=by simp;omega
  have d1:decide (a<0)=true:=decide_eq_true h0
  have HE:Hid (u.rdH a=⟨0,0,0⟩/\u.rdE a=5):=⟨⟨if_neg (by omega),by unfold Vm.rdE;rw [if_neg (by omega),if_pos h0]⟩⟩
  clear hS hI hP
  go_enter Tryz.func121,Tryz.ntmps121
  go_wp2
  refine bodyPost_ret (v:=.tuple #[hdrV ⟨0,0,0⟩,.int .i64 5]) ?_ rfl ?_
  ·rw [results_cell_tmp rfl]
   simp [asAddr,Result.andThen,go_sem]
   rfl
  ·exact ⟨by rw [HE.out.1,HE.out.2],HS.out.get HI.out ((Gr.refl w).alloc _)⟩
 ·have d0:(a==0)=false:=by simp;omega
  have d1:decide (a<0)=false:=decide_eq_false (by omega)
  have HLD:=hid (hS.ld (hS.gr (hS.ct hI) ((Gr.refl w).alloc (.cells #[.int .i64 0,.int .i64 0,.int .i64 0] 48))) a (hP h0))
  by_cases hE:u.ldE a=0
  ·have HE:Hid (u.rdH a=tkH (u.ldV a)/\u.rdE a=tkE (u.ldV a)):=⟨⟨if_pos ⟨h0,hE⟩,by unfold Vm.rdE;rw [if_neg (by omega),if_neg (by omega),if_pos hE]⟩⟩
   have HT:=hid (fun W=>hdr_take hx W)
   have hh:hdrV (tkH (u.ldV a))=.agg #[.int .i64 (tkH (u.ldV a)).p,.int .i64 (tkH (u.ldV a)).f,.int .i64 (tkH (u.ldV a)).k]:=rfl
   rw [hh] at HT
   rw [hE] at HLD
   generalize tkH (u.ldV a)=h at HT HE
   generalize tkE (u.ldV a)=er at HT HE
   obtain ⟨p,f,k⟩:=h
   clear hE hh hS hI hP hok
   go_enter Tryz.func121,Tryz.ntmps121
   go_wp2_with (first
    | (go_at_call 213;refine (HT.out _).mono ?_;rintro e w2 ⟨rfl,hg2⟩;have r2:=HR1.out.gr hg2;have k0:=r2.cell (j:=0) rfl;have k1:=r2.cell (j:=1) rfl;have k2:=r2.cell (j:=2) rfl;have kf:=r2.free;have HR2:=hid r2;have HG2:=hid (HG1.out.gr hg2 HS.out);clear hg2 r2)
    | (refine HLD.out.mono ?_;rintro e w1 ⟨rfl,hg1⟩;have HG1:Hid (z.E u (cutS S w) _ w1):=⟨hg1⟩;have HR1:=hid (Sp.E.rec (z:=z) hg1 (Rec.new w 48 [.int .i64 0,.int .i64 0,.int .i64 0]) (Nat.le_refl _));clear hg1))
   have R3:=Rec.set (Rec.set (Rec.set HR2.out 0 (.int .i64 p)) 1 (.int .i64 f)) 2 (.int .i64 k)
   refine bodyPost_ret (v:=.tuple #[hdrV ⟨p,f,k⟩,.int .i64 er]) ?_ rfl ?_
   ·rw [results_cell_tmp rfl]
    have hl:=KL.out _ w.heap.size _ _ _ (R3.cell (j:=0) rfl) (R3.cell (j:=1) rfl) (R3.cell (j:=2) rfl)
    simp [asAddr,Result.andThen,hl,hdrV]
   ·exact ⟨by rw [HE.out.1,HE.out.2],HG2.out.cells HS.out HI.out ((Gr.refl w).alloc _) (Nat.le_refl _) (by rw [World.size_alloc];omega) (touch3 _ _ _ _ _)⟩
  ·have HE:Hid (u.rdH a=⟨0,0,0⟩/\u.rdE a=u.ldE a):=⟨⟨if_neg (fun h=>hE h.2),by unfold Vm.rdE;rw [if_neg (by omega),if_neg (by omega),if_neg hE]⟩⟩
   obtain ⟨y,hy⟩:∃ y,y=u.ldE a:=⟨_,rfl⟩
   have d2:(y==0)=false:=by rw [hy];simpa using hE
   rw [<-hy] at HLD
   have HY:=hid hy
   clear hE hy hS hI hP hok
   go_enter Tryz.func121,Tryz.ntmps121
   go_wp2_with (refine HLD.out.mono ?_;rintro e w1 ⟨rfl,hg1⟩;have HG1:Hid (z.E u (cutS S w) _ w1):=⟨hg1⟩;have r2:=Sp.E.rec (z:=z) hg1 (Rec.new w 48 [.int .i64 0,.int .i64 0,.int .i64 0]) (Nat.le_refl _);have k0:=r2.cell (j:=0) rfl;have k1:=r2.cell (j:=1) rfl;have k2:=r2.cell (j:=2) rfl;have kf:=r2.free;have HR1:=hid r2;clear hg1 r2)
   have R3:=Rec.set (Rec.set (Rec.set HR1.out 0 (.int .i64 0)) 1 (.int .i64 0)) 2 (.int .i64 0)
   refine bodyPost_ret (v:=.tuple #[hdrV ⟨0,0,0⟩,.int .i64 y]) ?_ rfl ?_
   ·rw [results_cell_tmp rfl]
    have hl:=KL.out _ w.heap.size _ _ _ (R3.cell (j:=0) rfl) (R3.cell (j:=1) rfl) (R3.cell (j:=2) rfl)
    simp [asAddr,Result.andThen,hl,hdrV]
   ·exact ⟨by rw [HE.out.1,HE.out.2,HY.out],HG1.out.cells HS.out HI.out ((Gr.refl w).alloc _) (Nat.le_refl _) (by rw [World.size_alloc];omega) (touch3 _ _ _ _ _)⟩
end
def spM (q:Nat):Sp:=⟨107,.pointer (some ⟨q,0,none⟩),150,fun _=>True,False,fun _=>False,fun u S w=>VmAt w S q u⟩
theorem spM_ok (q:Nat):(spM q).Ok:=
 ⟨fun n w=>nil_load n _ w,fun n w=>method_load n _ w,fun args w=>by kernel_rfl,fun w=>by kernel_rfl,fun h=>VmAt.ok h,fun h t hT hs=>VmAt.mono (VmAt.touch h t (fun k hk hl=>fun ht=>(hT k hl ht).1 hk)) hs,fun _ _ h=>h.elim,fun h=>VmAt.cut h,
  fun {u S w} h a _=>(vm_load (S:=S) h a).mono fun _ _ hh=>⟨hh.1,hh.2.touch _,VmAt.mono (VmAt.gr h hh.2) (fun _ h=>.inl h)⟩⟩
section
variable {w:World} {S:Nat->Prop} {q:Nat} {v:Vm}
theorem obj_read (hV:VmAt w S q v) (a:Int):Calls Tryz.prog 121 #[spV q,.int .i64 a] w fun e w'=>e=.returned (.tuple #[hdrV (v.rdH a),.int .i64 (v.rdE a)])/\Gr w w':=
 (sp_read (z:=spM q) (spM_ok q) hV a (fun _=>trivial)).mono fun _ _ h=>⟨h.1,h.2.ro (fun h=>h)⟩
end
end Go.Proofs.YthgdadohijgleaaGreatDoor
end
section
namespace Go.Proofs.YthgdadohijgleaaGreatDoor
open Go.RowKit Word
def Vm.plE (v:Vm) (a i kd:Int):Int:=if v.rdE a≠0 then v.rdE a else if kindOf (v.rdH a) i=kd then 0 else if kindOf (v.rdH a) i=0 then 19 else 20
def Vm.plA (v:Vm) (a i kd:Int):Int:=if v.plE a i kd=0 then a+1+i else 0
def Vm.gtE (v:Vm) (a i kd:Int):Int:=if v.plE a i kd≠0 then v.plE a i kd else v.ldE (a+1+i)
def Vm.gtV (v:Vm) (a i kd:Int):Nat:=if v.plE a i kd≠0 then 0 else v.ldV (a+1+i)
def Vm.ptE (v:Vm) (a i:Int):Int:=if v.gtE a i 1≠0 then v.gtE a i 1 else if 2147483647<v.gtV a i 1 then 25 else 0
def Vm.ptV (v:Vm) (a i:Int):Nat:=if v.ptE a i=0 then v.gtV a i 1 else 0
theorem tkE_zero {x:Nat} (h:tkE x=0):∃ p f k:Nat,tkH x=⟨p,f,k⟩/\p+f+k<=255:=by
 unfold tkE at h
 split at h
 ·rename_i ho
  refine ⟨x%256,x/256%256,x/65536%256,if_pos ho,?_⟩
  unfold tkOk at ho
  simp only [Bool.and_eq_true,decide_eq_true_eq] at ho
  exact ho.2
 ·cases h
theorem rdE_zero {v:Vm} {a:Int} (h:v.rdE a=0):0<a/\v.ldE a=0/\∃ p f k:Nat,v.rdH a=⟨p,f,k⟩/\p+f+k<=255:=by
 unfold Vm.rdE at h
 split at h
 ·cases h
 ·split at h
  ·cases h
  ·split at h
   ·rename_i h0
    have ha:0<a:=by omega
    refine ⟨ha,h0,?_⟩
    obtain ⟨p,f,k,e1,e2⟩:=tkE_zero h
    exact ⟨p,f,k,by unfold Vm.rdH;rw [if_pos ⟨ha,h0⟩];exact e1,e2⟩
   ·rename_i h0
    exact absurd h h0
theorem ldE_in {v:Vm} {a:Int} (h:v.ldE a=0):0<=a/\a<v.n:=by
 obtain ⟨j,rfl,hj,-⟩:=VmOk.hit h
 omega
section
variable {z:Sp} {w:World} {S:Nat->Prop} {v:Vm}
set_option maxRecDepth 100000 in
set_option maxHeartbeats 1600000 in
theorem sp_place (hS:z.Ok) (hI:z.I v S w) (a i kd:Int) (hk:kd≠0) (hP:0<a->z.P a):Calls Tryz.prog 225 #[z.v,.int .i64 a,.int .i64 i,.int .i64 kd] w fun e w'=>e=.returned (.tuple #[.int .i64 (v.plA a i kd),.int .i64 (v.plE a i kd)])/\z.E v S w w':=by
 have HS:=hid hS
 have hn:=(hS.ok hI).n2
 have HRD:=hid (sp_read hS hI a hP)
 by_cases hE:v.rdE a=0
 ·obtain ⟨ha,hl,p,f,k,hh,hs⟩:=rdE_zero hE
  have hr:=ldE_in hl
  rw [hh] at HRD
  have HP:Hid (v.plE a i kd=if kindOf ⟨p,f,k⟩ i=kd then 0 else if kindOf ⟨p,f,k⟩ i=0 then 19 else 20):=⟨by unfold Vm.plE;rw [if_neg (fun h=>h hE),hh]⟩
  have HA:Hid (v.plA a i kd=if v.plE a i kd=0 then a+1+i else 0):=⟨rfl⟩
  have HK:=hid (fun W=>hdr_kind hs i W)
  have hN:hdrN ⟨p,f,k⟩=1+(p:Int)+f+k:=if_pos (hdrE_of hs)
  have hki:kindOf ⟨p,f,k⟩ i≠0->0<=i/\i<255:=fun h=>by
   unfold kindOf at h
   split at h
   ·rename_i h'
    rw [hN] at h'
    omega
   ·exact absurd rfl h
  generalize kindOf ⟨(p:Int),(f:Int),(k:Int)⟩ i=kk at HP HK hki
  have HE:=hid hE
  clear hE hl hh hs hN hS hI hP
  unfold hdrV at HRD HK
  by_cases h1:kk=kd
  ·have e0:v.plE a i kd=0:=by rw [HP.out,if_pos h1]
   have HE0:Hid (v.plE a i kd=0/\v.plA a i kd=a+1+i):=⟨⟨e0,by rw [HA.out,if_pos e0]⟩⟩
   have hii:=hki (by rw [h1];exact hk)
   have d0:(kk==kd)=true:=by simpa using h1
   clear h1 hki HP HA e0
   go_enter Tryz.func225,Tryz.ntmps225
   go_wp2_with (first
    | (go_at_call 121;refine (HRD.out).mono ?_;rintro e w1 ⟨rfl,hg1⟩;rw [HE.out];have HG1:=hid hg1;clear hg1)
    | (go_at_call 184;refine (HK.out _).mono ?_;rintro e w2 ⟨rfl,hg2⟩;have HG2:=hid hg2;clear hg2))
   go_ret2
   exact ⟨ret2 (vint (by rw [HE0.out.2])) (vint (by rw [HE0.out.1])),HG1.out.gr (((Gr.refl _).alloc _).trans HG2.out) HS.out⟩
  ·have d0:(kk==kd)=false:=by simpa using h1
   by_cases h2:kk=0
   ·have e0:v.plE a i kd=19:=by rw [HP.out,if_neg h1,if_pos h2]
    have HE0:Hid (v.plE a i kd=19/\v.plA a i kd=0):=⟨⟨e0,by rw [HA.out,if_neg (by rw [e0];decide)]⟩⟩
    have d1:(kk==0)=true:=by simpa using h2
    clear h1 h2 hki HP HA e0
    go_enter Tryz.func225,Tryz.ntmps225
    go_wp2_with (first
     | (go_at_call 121;refine (HRD.out).mono ?_;rintro e w1 ⟨rfl,hg1⟩;rw [HE.out];have HG1:=hid hg1;clear hg1)
     | (go_at_call 184;refine (HK.out _).mono ?_;rintro e w2 ⟨rfl,hg2⟩;have HG2:=hid hg2;clear hg2))
    go_ret2
    exact ⟨ret2 (vint (by rw [HE0.out.2])) (vint (by rw [HE0.out.1])),HG1.out.gr (((Gr.refl _).alloc _).trans HG2.out) HS.out⟩
   ·have e0:v.plE a i kd=20:=by rw [HP.out,if_neg h1,if_neg h2]
    have HE0:Hid (v.plE a i kd=20/\v.plA a i kd=0):=⟨⟨e0,by rw [HA.out,if_neg (by rw [e0];decide)]⟩⟩
    have d1:(kk==0)=false:=by simpa using h2
    clear h1 h2 hki HP HA e0
    go_enter Tryz.func225,Tryz.ntmps225
    go_wp2_with (first
     | (go_at_call 121;refine (HRD.out).mono ?_;rintro e w1 ⟨rfl,hg1⟩;rw [HE.out];have HG1:=hid hg1;clear hg1)
     | (go_at_call 184;refine (HK.out _).mono ?_;rintro e w2 ⟨rfl,hg2⟩;have HG2:=hid hg2;clear hg2))
    go_ret2
    exact ⟨ret2 (vint (by rw [HE0.out.2])) (vint (by rw [HE0.out.1])),HG1.out.gr (((Gr.refl _).alloc _).trans HG2.out) HS.out⟩
 ·have e1:v.plE a i kd=v.rdE a:=by unfold Vm.plE;rw [if_pos hE]
  have HE0:Hid (v.plE a i kd=v.rdE a/\v.plA a i kd=0):=⟨⟨e1,by unfold Vm.plA;rw [if_neg (by rw [e1];exact hE)]⟩⟩
  obtain ⟨y,hy⟩:∃ y,y=v.rdE a:=⟨_,rfl⟩
  have d2:(y==0)=false:=by rw [hy];simpa using hE
  rw [<-hy] at HE0 HRD
  clear hE hy e1 hS hI hP
  unfold hdrV at HRD
  go_enter Tryz.func225,Tryz.ntmps225
  go_wp2_with (go_at_call 121;refine (HRD.out).mono ?_;rintro e w1 ⟨rfl,hg1⟩;have HG1:=hid hg1;clear hg1)
  go_ret2
  exact ⟨ret2 (vint (by rw [HE0.out.2])) (vint (by rw [HE0.out.1])),HG1.out.gr ((Gr.refl _).alloc _) HS.out⟩
set_option maxRecDepth 100000 in
set_option maxHeartbeats 1600000 in
theorem sp_get (hS:z.Ok) (hI:z.I v S w) (a i kd:Int) (hk:kd≠0) (hP:0<a->z.P a) (hQ:v.plE a i kd=0->z.P (a+1+i)):Calls Tryz.prog 212 #[z.v,.int .i64 a,.int .i64 i,.int .i64 kd] w fun e w'=>e=.returned (.tuple #[.int .u64 (v.gtV a i kd:Nat),.int .i64 (v.gtE a i kd)])/\z.E v S w w':=by
 have HS:=hid hS
 have HRD:=hid (sp_place hS hI a i kd hk hP)
 have n1:=hS.nl
 have n2:=hS.ml
 have n3:=hS.cl
 unfold Sp.v at HRD ⊢
 by_cases hE:v.plE a i kd=0
 ·have HE:Hid (v.gtE a i kd=v.ldE (a+1+i)/\v.gtV a i kd=v.ldV (a+1+i)):=⟨⟨if_neg (fun h=>h hE),if_neg (fun h=>h hE)⟩⟩
  have HA:Hid (v.plA a i kd=a+1+i):=⟨if_pos hE⟩
  rw [hE,HA.out] at HRD
  have HPP:=hid (hQ hE)
  generalize a+1+i=at' at HE HRD HPP
  clear hE hS hI hP hQ HA
  go_enter Tryz.func212,Tryz.ntmps212
  go_wp2_with (first
   | (go_at_call 225;refine (HRD.out).mono ?_;rintro e w1 ⟨rfl,hg1⟩;have HG1:=hid hg1;clear hg1)
   | (refine (HS.out.ld HG1.out.2 at' HPP.out).mono ?_;rintro e w2 ⟨rfl,hg2⟩;have HG2:Hid (z.E v (plus S w) w1 w2):=⟨hg2⟩;clear hg2))
  go_ret2
  exact ⟨ret2 (congrArg (fun n:Nat=>Value.int .u64 (n:Int)) HE.out.2.symm) (vint HE.out.1.symm),HG1.out.trans HG2.out HS.out⟩
 ·have HE:Hid (v.gtE a i kd=v.plE a i kd/\v.gtV a i kd=0):=⟨⟨if_pos hE,if_pos hE⟩⟩
  obtain ⟨y,hy⟩:∃ y,y=v.plE a i kd:=⟨_,rfl⟩
  have d2:(y==0)=false:=by rw [hy];simpa using hE
  rw [<-hy] at HE HRD
  clear hE hy hS hI hP hQ
  go_enter Tryz.func212,Tryz.ntmps212
  go_wp2_with (go_at_call 225;refine (HRD.out).mono ?_;rintro e w1 ⟨rfl,hg1⟩;have HG1:=hid hg1;clear hg1)
  go_ret2
  exact ⟨ret2 (congrArg (fun n:Nat=>Value.int .u64 (n:Int)) HE.out.2.symm) (vint HE.out.1.symm),HG1.out⟩
theorem gtV_lt (hok:VmOk v) (a i kd:Int):v.gtV a i kd<18446744073709551616:=by
 unfold Vm.gtV
 split
 ·decide
 ·exact hok.ldV_lt _
set_option maxRecDepth 100000 in
set_option maxHeartbeats 1600000 in
theorem sp_pointer (hS:z.Ok) (hI:z.I v S w) (a i:Int) (hP:0<a->z.P a) (hQ:v.plE a i 1=0->z.P (a+1+i)):Calls Tryz.prog 132 #[z.v,.int .i64 a,.int .i64 i] w fun e w'=>e=.returned (.tuple #[.int .i64 (v.ptV a i:Nat),.int .i64 (v.ptE a i)])/\z.E v S w w':=by
 have HS:=hid hS
 have HRD:=hid (sp_get hS hI a i 1 (by decide) hP hQ)
 have hx:=gtV_lt (hS.ok hI) a i 1
 unfold Sp.v at HRD ⊢
 by_cases hE:v.gtE a i 1=0
 ·by_cases hb:2147483647<v.gtV a i 1
  ·have e1:v.ptE a i=25:=by unfold Vm.ptE;rw [if_neg (fun h=>h hE),if_pos hb]
   have HE:Hid (v.ptE a i=25/\v.ptV a i=0):=⟨⟨e1,by unfold Vm.ptV;rw [if_neg (by rw [e1];decide)]⟩⟩
   rw [hE] at HRD
   generalize v.gtV a i 1=x at HRD hb hx
   have d0:decide (2147483647<(x:Int))=true:=decide_eq_true (by omega)
   clear hE hS hI e1 hP hQ
   go_enter Tryz.func132,Tryz.ntmps132
   go_wp2_with (go_at_call 212;refine (HRD.out).mono ?_;rintro e w1 ⟨rfl,hg1⟩;have HG1:=hid hg1;clear hg1)
   go_ret2
   exact ⟨ret2 (congrArg (fun n:Nat=>Value.int .i64 (n:Int)) HE.out.2.symm) (vint HE.out.1.symm),HG1.out⟩
  ·have e1:v.ptE a i=0:=by unfold Vm.ptE;rw [if_neg (fun h=>h hE),if_neg hb]
   have HE:Hid (v.ptE a i=0/\v.ptV a i=v.gtV a i 1):=⟨⟨e1,by unfold Vm.ptV;rw [if_pos e1]⟩⟩
   rw [hE] at HRD
   generalize v.gtV a i 1=x at HRD hb hx HE
   have d0:decide (2147483647<(x:Int))=false:=decide_eq_false (by omega)
   clear hE hS hI e1 hP hQ
   go_enter Tryz.func132,Tryz.ntmps132
   go_wp2_with (go_at_call 212;refine (HRD.out).mono ?_;rintro e w1 ⟨rfl,hg1⟩;have HG1:=hid hg1;clear hg1)
   go_ret2
   exact ⟨ret2 (congrArg (fun n:Nat=>Value.int .i64 (n:Int)) HE.out.2.symm) (vint HE.out.1.symm),HG1.out⟩
 ·have e1:v.ptE a i=v.gtE a i 1:=by unfold Vm.ptE;rw [if_pos hE]
  have HE:Hid (v.ptE a i=v.gtE a i 1/\v.ptV a i=0):=⟨⟨e1,by unfold Vm.ptV;rw [if_neg (by rw [e1];exact hE)]⟩⟩
  obtain ⟨y,hy⟩:∃ y,y=v.gtE a i 1:=⟨_,rfl⟩
  have d2:(y==0)=false:=by rw [hy];simpa using hE
  rw [<-hy] at HE HRD
  clear hE hy hS hI e1 hP hQ
  go_enter Tryz.func132,Tryz.ntmps132
  go_wp2_with (go_at_call 212;refine (HRD.out).mono ?_;rintro e w1 ⟨rfl,hg1⟩;have HG1:=hid hg1;clear hg1)
  go_ret2
  exact ⟨ret2 (congrArg (fun n:Nat=>Value.int .i64 (n:Int)) HE.out.2.symm) (vint HE.out.1.symm),HG1.out⟩
end
section
variable {w:World} {S:Nat->Prop} {q:Nat} {v:Vm}
end
end Go.Proofs.YthgdadohijgleaaGreatDoor
end
end
