/- Part 10 of what SlideReads leans on: my own lemmas, merged by shake.py. -/
import Derived.Test.YthgdadohijgleaaGreatDoorSlideReadsI
section
namespace Go.Proofs.YthgdadohijgleaaGreatDoor
open Go.RowKit Word
def Sl.owes (s:Sl) (p:Nat):Prop:=∃ i,i<sizes s.L/\srcO s.L i/s.pg=p/\s.is i=false
def Sl.has (s:Sl) (p:Nat):Prop:=∃ i,i<sizes s.L/\(s.cf.to+i)/s.pg=p/\s.is i=true
theorem div_is {a p g:Nat} (hg:1<=g):a/g=p↔p*g<=a/\a<p*g+g:=by
 constructor
 ·rintro rfl
  have h1:=Nat.div_add_mod a g
  have h2:=Nat.mod_lt a (show 0<g by omega)
  rw [Nat.mul_comm] at h1
  omega
 ·rintro ⟨h1,h2⟩
  exact Nat.div_eq_of_lt_le h1 (by rw [Nat.succ_mul];exact h2)
section
variable {w w':World} {y:Nat} {a:RcAd} {s:Sl} {u:Vm}
def Sl.owesB (s:Sl) (p:Nat):Bool:=(List.range (sizes s.L)).any fun i=>(srcO s.L i/s.pg==p)&&!s.is i
def Sl.hasB (s:Sl) (p:Nat):Bool:=(List.range (sizes s.L)).any fun i=>((s.cf.to+i)/s.pg==p)&&s.is i
theorem owesB_iff {s:Sl} {p:Nat}:s.owesB p=true↔s.owes p:=by
 unfold Sl.owesB Sl.owes
 rw [List.any_eq_true]
 constructor
 ·rintro ⟨i,hi,h⟩
  rw [Bool.and_eq_true,beq_iff_eq,Bool.not_eq_true'] at h
  exact ⟨i,List.mem_range.1 hi,h⟩
 ·rintro ⟨i,hi,h⟩
  refine ⟨i,List.mem_range.2 hi,?_⟩
  rw [Bool.and_eq_true,beq_iff_eq,Bool.not_eq_true']
  exact h
theorem hasB_iff {s:Sl} {p:Nat}:s.hasB p=true↔s.has p:=by
 unfold Sl.hasB Sl.has
 rw [List.any_eq_true]
 constructor
 ·rintro ⟨i,hi,h⟩
  rw [Bool.and_eq_true,beq_iff_eq] at h
  exact ⟨i,List.mem_range.1 hi,h⟩
 ·rintro ⟨i,hi,h⟩
  refine ⟨i,List.mem_range.2 hi,?_⟩
  rw [Bool.and_eq_true,beq_iff_eq]
  exact h
end
end Go.Proofs.YthgdadohijgleaaGreatDoor
end
section
namespace Go.Proofs.YthgdadohijgleaaGreatDoor
open Go.RowKit Go.Shelf Word
section
variable {P:Program} {l:List Oper} {S:World->Prop} {Q:Exit->Act->World->Prop}
theorem mixT_fin {qs:List Nat} {a:Act} {w:World} (h:wpQuiet P l.toArray S (fun a'=>Q .normal a' w) (opsAt l qs) a):wpMixT P l S Q (.fin qs) a w:=h
theorem mixT_one {qs:List Nat} {k:Nat} {t:MixT} {a:Act} {w:World} (h:wpQuiet P l.toArray S (fun a'=>wpList P l.toArray (Exit.then (fun a2 w2=>S w2/\wpMixT P l S Q t a2 w2) Q) (opsAt l [k]) a' w) (opsAt l qs) a):wpMixT P l S Q (.one qs k t) a w:=h
theorem mixT_two {qs:List Nat} {k1 k2:Nat} {t1 t2:MixT} {a:Act} {w:World} (h:wpQuiet P l.toArray S (fun a'=>wpList P l.toArray (Exit.then (fun a2 w2=>S w2/\wpMixT P l S Q t1 a2 w2) Q) (opsAt l [k1]) a' w/\wpList P l.toArray (Exit.then (fun a2 w2=>S w2/\wpMixT P l S Q t2 a2 w2) Q) (opsAt l [k2]) a' w) (opsAt l qs) a):wpMixT P l S Q (.two qs k1 t1 k2 t2) a w:=h
end
theorem st3_self (W:World) (b:Nat) (z0 z1 z2:Value):Touch (fun i=>i=b) W (((W.setCell ⟨b,0,none⟩ z0).setCell ⟨b,1,none⟩ z1).setCell ⟨b,2,none⟩ z2):=
 (((Touch.refl (fun i=>i=b) W).setCell (a:=⟨b,0,none⟩) (fun _=>rfl) z0).setCell (a:=⟨b,1,none⟩) (fun _=>rfl) z1).setCell (a:=⟨b,2,none⟩) (fun _=>rfl) z2
theorem rec3 {W:World} {b T:Nat} {x0 x1 x2:Value} (h:Rec W b T [x0,x1,x2]) (z0 z1 z2:Value):Rec (((W.setCell ⟨b,0,none⟩ z0).setCell ⟨b,1,none⟩ z1).setCell ⟨b,2,none⟩ z2) b T [z0,z1,z2]:=((h.set 0 z0).set 1 z1).set 2 z2
section
variable {w w':World} {y:Nat} {a:RcAd} {s:Sl} {u:Vm}
set_option maxRecDepth 100000 in
set_option maxHeartbeats 6400000 in
theorem rc_word (hR:RCy w y a s u) (hst:SlSt s) (hu:FullN s.n u) {i:Nat} (hi:i<sizes s.L) (hhd:∀ j (hj:j<s.L.length),u.rdH (s.L[j].1:Nat)=s.hd s.L[j].1) (hptr:s.ptr i->u.ldV (srcO s.L i:Nat)<=2147483647):
  Gets Tryz.prog 62 #[.pointer (some ⟨y,0,none⟩),.int .i64 ((s.cf.to+i:Nat):Int)] w (.tuple #[.int .u64 (s.cv i (u.ldV (srcO s.L i:Nat)):Nat),.bool true]):=by
 have hnb:=hst.n2
 have hlm:=hst.cf.lm
 have hln:=hst.cf.ln
 have hib:i<=1048576:=by have:=hst.N_le;omega
 obtain ⟨j,hj,m,p0,f,k,e1,e2,e3,e4,e5,e6,e7,e8,e9⟩:=hst.obj hi
 have hsl:=(hst.srcs hi).2.2
 have HFM:=hid (fun (W:World) (g:Gr w W)=>ref22_from (c:=a.oc) (hR.gr g).ob hst.good (by omega) s.cf.to (by omega) ((s.cf.to+i:Nat):Int))
 have hfi:fromI s.L s.cf.to ((s.cf.to+i:Nat):Int)=(j:Int):=by
  unfold fromI
  rw [if_pos (inF_iff.2 (by omega)),show (((s.cf.to+i:Nat):Int)-(s.cf.to:Int)).toNat=i by omega,e1]
 rw [(src_from hi).1,(src_from hi).2,hfi] at HFM
 have HRD:=hid (fun (W:World) (g:Gr w W)=>ref15n_read hu (hR.gr g).wd (s.L[j].1:Nat))
 rw [hhd j hj,e7] at HRD
 obtain ⟨er,her⟩:∃ er,er=u.rdE (s.L[j].1:Nat):=⟨_,rfl⟩
 rw [<-her] at HRD
 have HKD:=hid (fun (W:World)=>ref14_kind e8 ((m:Int)-1) W)
 have HKI:=hid (kind_is (f:=f) (k:=k) e8 (m:=m))
 obtain ⟨kd,hkd⟩:∃ kd,kd=kindOf ⟨p0,f,k⟩ ((m:Int)-1):=⟨_,rfl⟩
 have HKE:=hid hkd
 rw [<-hkd] at HKD
 have hkb:0<=kd/\kd<=3:=by
  rw [hkd]
  unfold kindOf
  repeat' split
  all_goals omega
 obtain ⟨x,hx⟩:∃ x,x=u.ldV (srcO s.L i:Nat):=⟨_,rfl⟩
 have HXE:=hid hx
 have hx64:x<18446744073709551616:=by rw [hx];exact hu.ok.ldV_lt _
 have HPT:Hid (1<=m/\m<=p0->x<=2147483647):=⟨fun h=>by
  rw [hx]
  refine hptr ⟨by rw [e5];exact h.1,?_⟩
  rw [e6,e7,e5]
  show (m:Int)<=(p0:Int)
  omega⟩
 have hcv:s.cv i x=if (1<=m/\(m:Int)<=(p0:Int))/\x≠0 then (toV s.L s.cf.to (x:Nat)).toNat else x:=by
  unfold Sl.cv cvH
  rw [e6,e7,e5]
 have HCT:Hid (1<=m/\m<=p0->((s.cv i x:Nat):Int)=toV s.L s.cf.to (x:Nat)):=⟨fun h=>by
  rw [hcv]
  by_cases h0:x=0
  ·rw [if_neg (fun hh=>hh.2 h0),h0]
   exact hst.to_zero.symm
  ·rw [if_pos ⟨⟨h.1,by omega⟩,h0⟩]
   have:=to_nonneg s.L s.cf.to (x:Nat)
   omega⟩
 have HCF:Hid (¬ (1<=m/\m<=p0)->((s.cv i x:Nat):Int)=(x:Int)):=⟨fun h=>by
  rw [hcv,if_neg (fun hh=>h ⟨hh.1.1,by omega⟩)]⟩
 rw [<-hx]
 obtain ⟨st,hst0⟩:∃ st,st=s.L[j].1:=⟨_,rfl⟩
 have hobj:=hR.ob j hj
 obtain ⟨go,hgo,hgol,-,-⟩:=hobj
 have HOA:=hid hgo
 have HOB:Hid (∀ W,RCy W y a s u->W.cell? ⟨go,j*2,none⟩=some (.int .i64 st)):=⟨fun W h=>by
  obtain ⟨g',e,-,h1,-⟩:=h.ob j hj
  rw [hgo] at e
  cases e
  rw [hst0]
  exact h1⟩
 rw [<-hst0] at e4 HRD
 obtain ⟨cvv,hcvv⟩:∃ cvv,cvv=s.cv i x:=⟨_,rfl⟩
 rw [<-hcvv] at HCT HCF ⊢
 obtain ⟨sr,hsr⟩:∃ sr,sr=srcO s.L i:=⟨_,rfl⟩
 rw [<-hsr] at HFM e4 hsl HXE
 have HSL:=hid hsl
 have hN1:s.n≠0:=by omega
 obtain ⟨ga,ca,hga0,-,-,-,-⟩:=own_form hR.wd hN1
 have hga:a.A=some ⟨ga,0,none⟩:=by injection hga0
 clear hga0
 have HGA:=hid hga
 have HWD:Hid (∀ W,RCy W y a s u->W.ownsRow 0 49 1 (.slice (some ⟨ga,0,none⟩) s.n a.cp) s.n (wrds u s.n)):=⟨fun W h=>by rw [<-hga];exact h.wd⟩
 have hjI:(j:Int)<(s.L.length:Int):=by omega
 have hLb:s.L.length<=1048576:=by have:=hst.good.len;omega
 have hsn:(sr:Int)<(s.n:Int):=by omega
 have hsm:(sr:Int)-(st:Int)-1=(m:Int)-1:=by omega
 have hmb:m<=255:=by omega
 have hsb:sr<=1048576:=by omega
 have hpb:p0<=255:=by omega
 have hstb:st<=1048576:=by omega
 have hst1:st<=sr:=by omega
 obtain ⟨B,hB⟩:∃ B:Int,B=((s.cf.to+i:Nat):Int):=⟨_,rfl⟩
 rw [<-hB] at HFM ⊢
 have HR:=hid hR
 have HST:=hid hst
 clear hR hst hu hi hhd hptr e1 e2 e3 e4 e5 e6 e7 e9 hfi her hkd hx hcv hst0 hgo hgol hcvv hsr hsl hN1 hB hj hga
 unfold hdrV at HRD
 unfold Gets
 go_enter Tryz.func62,Tryz.ntmps62
 go_upto_region 1 with (fail)
 obtain ⟨Sx,hSx⟩:∃ Sx:World->Prop,Sx=fun W'=>RCy W' y a s u:=⟨_,rfl⟩
 have y7:∀ p:Held Sx,p.w.cell? ⟨y,7,none⟩=some (.slice a.OA s.L.length a.oc):=fun p=>by have h:=Held.get hSx p;exact h.rc.cell (j:=7) rfl
 have y2:∀ p:Held Sx,p.w.cell? ⟨y,2,none⟩=some (.int .i64 s.cf.to):=fun p=>by have h:=Held.get hSx p;exact h.rc.cell (j:=2) rfl
 have HS:Hid (∀ W',RCy W' y a s u->Sx W'):=⟨fun W' h=>by rw [hSx];exact h⟩
 have hS0:=HS.out _ (HR.out.gr (Gr.refl w).drew)
 have inst:Inhabited (Held Sx):=⟨⟨_,hS0⟩⟩
 clear hSx
 refine wp_region_mixS Sx 18 [([0,1,2,3,4,5,6,7,8,9],10)] [11,12,13,14,15,16,17] (by kernel_rfl) (by kernel_rfl) hS0 ?_
 refine segs_step ?_
 try simp only [opsAt,List.getElem?_cons_zero,List.getElem?_cons_succ]
 repeat (go_big_quiet_step (fail))
 refine wpQuiet_nil ?_
 go_wp2_with ((go_at_call 159;refine (HFM.out _ (Gr.refl w).drew).mono ?_;rintro e w1 ⟨rfl,rfl⟩))
 refine ⟨.inr (Held.of (HS.out _ (HR.out.gr (Gr.refl w).drew))),?_⟩
 refine segs_end ?_
 try simp only [opsAt,List.getElem?_cons_zero,List.getElem?_cons_succ]
 repeat (go_big_quiet_step (fail))
 refine wpQuiet_nil ?_
 refine NoPanic.normal ?_
 clear y7 y2 hS0 inst
 clear HS Sx
 go_upto_region 4 with (fail)
 obtain ⟨Sx,hSx⟩:∃ Sx:World->Prop,Sx=fun W'=>RCy W' y a s u:=⟨_,rfl⟩
 have y7:∀ p':Held Sx,p'.w.cell? ⟨y,7,none⟩=some (.slice (some ⟨go,0,none⟩) s.L.length a.oc):=fun p'=>by have e:=(Held.get hSx p').rc.cell (j:=7) rfl;rw [<-HOA.out];exact e
 have y8:∀ p':Held Sx,p'.w.cell? ⟨y,8,none⟩=some (.slice a.A s.n a.cp):=fun p'=>(Held.get hSx p').rc.cell (j:=8) rfl
 have yo:∀ p':Held Sx,p'.w.cell? ⟨go,j*2,none⟩=some (.int .i64 st):=fun p'=>HOB.out _ (Held.get hSx p')
 have HSX:Hid (∀ W',RCy W' y a s u->Sx W'):=⟨fun W' h=>by rw [hSx];exact h⟩
 have hS0:=HSX.out _ (HR.out.gr (Gr.refl w).drew.drew)
 have inst:Inhabited (Held Sx):=⟨⟨_,hS0⟩⟩
 clear hSx
 refine wp_region_mixT Sx (.two [0,1,2,3,4,5,6,7,8,9,10,11] 12 (.one [13,14,15] 16 (.one [] 17 (.fin [18]))) 16 (.one [] 12 (.one [13,14,15] 17 (.fin [18])))) (by kernel_rfl) (by kernel_rfl) hS0 ?_
 refine mixT_two ?_
 simp only [opsAt,List.getElem?_cons_zero,List.getElem?_cons_succ]
 repeat (go_big_quiet_step (fail))
 refine wpQuiet_nil ⟨?_,?_⟩
 ·go_wp2_with (go_at_call 160;refine (HRD.out _ (Gr.refl w).drew.drew).mono ?_;rintro e w4 ⟨rfl,hg4⟩;have HG4:=hid ((Gr.refl w).drew.drew.trans hg4);clear hg4)
  refine ⟨Held.of (HSX.out _ (HR.out.gr HG4.out)),?_⟩
  refine mixT_one ?_
  simp only [opsAt,List.getElem?_cons_zero,List.getElem?_cons_succ]
  repeat (go_big_quiet_step (fail))
  refine wpQuiet_nil ?_
  have x4:=HR.out.gr HG4.out
  have HRA:=hid (Rec.new w4 48 [.int .i64 0,.int .i64 0,.int .i64 0])
  have HGA4:=hid ((Gr.refl w4).alloc (.cells #[.int .i64 0,.int .i64 0,.int .i64 0] 48))
  go_wp2
  obtain ⟨HB,hHB⟩:∃ HB,HB=w4.heap.size:=⟨_,rfl⟩
  obtain ⟨WA,hWA⟩:∃ WA,WA=w4.alloc (.cells #[.int .i64 0,.int .i64 0,.int .i64 0] 48):=⟨_,rfl⟩
  rw [show w4.alloc (.cells ([.int .i64 0,.int .i64 0,.int .i64 0]:List Value).toArray 48)=WA from hWA.symm] at HRA
  have HHB:=hid hHB
  rw [<-hWA] at HGA4 ⊢
  rw [<-hHB] at HRA ⊢
  clear hHB hWA x4
  refine ⟨Held.of (HSX.out _ (HR.out.gr (HG4.out.trans HGA4.out))),?_⟩
  refine mixT_one ?_
  simp only [opsAt,List.getElem?_cons_zero,List.getElem?_cons_succ]
  refine wpQuiet_nil ?_
  have HRC:=HRA
  have HGC:=hid (HG4.out.trans HGA4.out)
  have HHB2:Hid (w.heap.size<=HB):=⟨by have:=HG4.out.size;have:=HHB.out;omega⟩
  clear HHB
  have HHB:=HHB2
  obtain ⟨WC,rfl⟩:∃ WC,WC=WA:=⟨_,rfl⟩
  have q0:=HRC.out.cell (j:=0) rfl
  have q1:=HRC.out.cell (j:=1) rfl
  have q2:=HRC.out.cell (j:=2) rfl
  have q3:=HRC.out.lt
  have q4:=HRC.out.free
  have hr3:=rec3 HRC.out (.int .i64 p0) (.int .i64 f) (.int .i64 k)
  have ht3:=st3_self WC HB (.int .i64 p0) (.int .i64 f) (.int .i64 k)
  go_wp2
  obtain ⟨WX,hWX⟩:∃ WX,WX=((WC.setCell ⟨HB,0,none⟩ (.int .i64 p0)).setCell ⟨HB,1,none⟩ (.int .i64 f)).setCell ⟨HB,2,none⟩ (.int .i64 k):=⟨_,rfl⟩
  rw [<-hWX] at hr3 ht3 ⊢
  have HBX:=hid hr3
  have HGX:Hid (Gr w WX):=⟨((HGC.out.touch (fun _=>False)).trans' ht3 (fun b hb h=>by have:=HHB.out;omega)).gr⟩
  clear hWX hr3 ht3 q0 q1 q2 q3 q4
  refine ⟨Held.of (HSX.out _ (HR.out.gr HGX.out)),?_⟩
  refine mixT_fin ?_
  simp only [opsAt,List.getElem?_cons_zero,List.getElem?_cons_succ]
  repeat (go_big_quiet_step (fail))
  refine wpQuiet_nil ?_
  refine NoPanic.normal ?_
  clear y7 y8 yo hS0 inst HSX
  have hx:=HR.out.gr HGX.out
  have q1:=own_cell (HWD.out _ hx) (wrds_at u HSL.out)
  have q2:=(own_lt (HWD.out _ hx) rfl).2
  have q3:=hx.rc.cell (j:=8) rfl
  rw [HGA.out] at q3
  have ql:=hx.rc.lt
  rw [<-HXE.out] at q1
  clear hx
  go_upto_region 6 with (fail)
  clear q1 q2 q3 ql
  obtain ⟨Sx,hSx⟩:∃ Sx:World->Prop,Sx=fun W'=>RCy W' y a s u/\Rec W' HB 48 [.int .i64 p0,.int .i64 f,.int .i64 k]:=⟨_,rfl⟩
  have y7:∀ p:Held Sx,p.w.cell? ⟨y,7,none⟩=some (.slice (some ⟨go,0,none⟩) s.L.length a.oc):=fun p=>by have h:=Held.get hSx p;exact (by have e:=h.1.rc.cell (j:=7) rfl;rw [<-HOA.out];exact e)
  have yb0:∀ p:Held Sx,p.w.cell? ⟨HB,0,none⟩=some (.int .i64 p0):=fun p=>by have h:=Held.get hSx p;exact h.2.cell (j:=0) rfl
  have yb1:∀ p:Held Sx,p.w.cell? ⟨HB,1,none⟩=some (.int .i64 f):=fun p=>by have h:=Held.get hSx p;exact h.2.cell (j:=1) rfl
  have yb2:∀ p:Held Sx,p.w.cell? ⟨HB,2,none⟩=some (.int .i64 k):=fun p=>by have h:=Held.get hSx p;exact h.2.cell (j:=2) rfl
  have yo:∀ p:Held Sx,p.w.cell? ⟨go,j*2,none⟩=some (.int .i64 st):=fun p=>by have h:=Held.get hSx p;exact (HOB.out _ h.1)
  have HS:Hid (∀ W',RCy W' y a s u/\Rec W' HB 48 [.int .i64 p0,.int .i64 f,.int .i64 k]->Sx W'):=⟨fun W' h=>by rw [hSx];exact h⟩
  have hS0:=HS.out _ (⟨HR.out.gr (HGX.out.trans (Gr.refl WX).drew),HBX.out.gr (Gr.refl WX).drew⟩)
  have inst:Inhabited (Held Sx):=⟨⟨_,hS0⟩⟩
  clear hSx
  refine wp_region_mixS Sx 14 [([0,1,2,3,4,5,6,7,8,9,10,11],12)] [13] (by kernel_rfl) (by kernel_rfl) hS0 ?_
  refine segs_step ?_
  try simp only [opsAt,List.getElem?_cons_zero,List.getElem?_cons_succ]
  repeat (go_big_quiet_step (fail))
  refine wpQuiet_nil ?_
  go_wp2_with ((go_at_call 161;refine (HKD.out _).mono ?_;rintro e w6 ⟨rfl,hg6⟩;have HG6:=hid ((Gr.refl WX).drew.trans hg6);clear hg6))
  refine ⟨.inr (Held.of (HS.out _ (⟨HR.out.gr (HGX.out.trans HG6.out),HBX.out.gr HG6.out⟩))),?_⟩
  refine segs_end ?_
  try simp only [opsAt,List.getElem?_cons_zero,List.getElem?_cons_succ]
  repeat (go_big_quiet_step (fail))
  refine wpQuiet_nil ?_
  refine NoPanic.normal ?_
  clear y7 yb0 yb1 yb2 yo hS0 inst
  clear HS Sx
  by_cases hpt:1<=m/\m<=p0
  ·have dk:(kd==1)=true:=by rw [HKE.out,HKI.out];exact decide_eq_true hpt
   have hxb:=HPT.out hpt
   have HCV:=hid (HCT.out hpt)
   have HTO2:=hid (rc_to (HR.out.gr (HGX.out.trans HG6.out)) HST.out (x:Nat))
   obtain ⟨t,ht⟩:∃ t,t=toV s.L s.cf.to (x:Nat):=⟨_,rfl⟩
   have htb:0<=t/\t<=4294967295:=by rw [ht];have h1:=to_nonneg s.L s.cf.to (x:Nat);have h2:=HST.out.to_lt (x:Nat);omega
   rw [<-ht] at HTO2 HCV
   have hwx:IntKind.i64.wrap (x:Int)=(x:Int):=IntWalk.i64_in _ (by omega)
   have hwt:IntKind.u64.wrap t=t:=IntWalk.u64_in _ (by omega)
   clear hpt ht
   go_wp2_with (go_at_call 154;refine (HTO2.out).mono ?_;rintro e w7 ⟨rfl,hg7⟩;have HG7:=hid hg7;clear hg7)
   go_ret2
   exact ⟨by rw [HCV.out];rfl,(HGX.out.trans HG6.out).trans HG7.out⟩
  ·have dk:(kd==1)=false:=by rw [HKE.out,HKI.out];exact decide_eq_false hpt
   have HCV:=hid (HCF.out hpt)
   clear hpt
   go_wp2
   go_ret2
   exact ⟨by rw [HCV.out];rfl,HGX.out.trans HG6.out⟩
 ·have x3:=HR.out.gr (Gr.refl w).drew.drew
  obtain ⟨HB,hHB⟩:∃ HB,HB=w.heap.size:=⟨_,rfl⟩
  have HRA:Hid (Rec (w.alloc (.cells #[.int .i64 0,.int .i64 0,.int .i64 0] 48)).drew.drew HB 48 [.int .i64 0,.int .i64 0,.int .i64 0]):=⟨by rw [hHB];exact (Rec.new w 48 [.int .i64 0,.int .i64 0,.int .i64 0]).gr (Gr.refl _).drew.drew⟩
  have HGW:Hid (Gr w (w.alloc (.cells #[.int .i64 0,.int .i64 0,.int .i64 0] 48)).drew.drew):=⟨((Gr.refl w).alloc _).drew.drew⟩
  go_wp2
  obtain ⟨WA,hWA⟩:∃ WA,WA=(w.alloc (.cells #[.int .i64 0,.int .i64 0,.int .i64 0] 48)).drew.drew:=⟨_,rfl⟩
  have HHB:Hid (w.heap.size<=HB):=⟨by omega⟩
  rw [<-hWA] at HGW HRA ⊢
  rw [<-hHB]
  clear hHB hWA x3
  refine ⟨Held.of (HSX.out _ (HR.out.gr HGW.out)),?_⟩
  refine mixT_one ?_
  simp only [opsAt,List.getElem?_cons_zero,List.getElem?_cons_succ]
  refine wpQuiet_nil ?_
  go_wp2_with (go_at_call 160;refine (HRD.out _ HGW.out).mono ?_;rintro e w4 ⟨rfl,hg4⟩;have HGC:=hid (HGW.out.trans hg4);have HRC:=hid (HRA.out.gr hg4);clear hg4)
  refine ⟨Held.of (HSX.out _ (HR.out.gr HGC.out)),?_⟩
  refine mixT_one ?_
  simp only [opsAt,List.getElem?_cons_zero,List.getElem?_cons_succ]
  repeat (go_big_quiet_step (fail))
  refine wpQuiet_nil ?_
  obtain ⟨WC,rfl⟩:∃ WC,WC=w4:=⟨_,rfl⟩
  have q0:=HRC.out.cell (j:=0) rfl
  have q1:=HRC.out.cell (j:=1) rfl
  have q2:=HRC.out.cell (j:=2) rfl
  have q3:=HRC.out.lt
  have q4:=HRC.out.free
  have hr3:=rec3 HRC.out (.int .i64 p0) (.int .i64 f) (.int .i64 k)
  have ht3:=st3_self WC HB (.int .i64 p0) (.int .i64 f) (.int .i64 k)
  go_wp2
  obtain ⟨WX,hWX⟩:∃ WX,WX=((WC.setCell ⟨HB,0,none⟩ (.int .i64 p0)).setCell ⟨HB,1,none⟩ (.int .i64 f)).setCell ⟨HB,2,none⟩ (.int .i64 k):=⟨_,rfl⟩
  rw [<-hWX] at hr3 ht3 ⊢
  have HBX:=hid hr3
  have HGX:Hid (Gr w WX):=⟨((HGC.out.touch (fun _=>False)).trans' ht3 (fun b hb h=>by have:=HHB.out;omega)).gr⟩
  clear hWX hr3 ht3 q0 q1 q2 q3 q4
  refine ⟨Held.of (HSX.out _ (HR.out.gr HGX.out)),?_⟩
  refine mixT_fin ?_
  simp only [opsAt,List.getElem?_cons_zero,List.getElem?_cons_succ]
  repeat (go_big_quiet_step (fail))
  refine wpQuiet_nil ?_
  refine NoPanic.normal ?_
  clear y7 y8 yo hS0 inst HSX
  have hx:=HR.out.gr HGX.out
  have q1:=own_cell (HWD.out _ hx) (wrds_at u HSL.out)
  have q2:=(own_lt (HWD.out _ hx) rfl).2
  have q3:=hx.rc.cell (j:=8) rfl
  rw [HGA.out] at q3
  have ql:=hx.rc.lt
  rw [<-HXE.out] at q1
  clear hx
  go_upto_region 6 with (fail)
  clear q1 q2 q3 ql
  obtain ⟨Sx,hSx⟩:∃ Sx:World->Prop,Sx=fun W'=>RCy W' y a s u/\Rec W' HB 48 [.int .i64 p0,.int .i64 f,.int .i64 k]:=⟨_,rfl⟩
  have y7:∀ p:Held Sx,p.w.cell? ⟨y,7,none⟩=some (.slice (some ⟨go,0,none⟩) s.L.length a.oc):=fun p=>by have h:=Held.get hSx p;exact (by have e:=h.1.rc.cell (j:=7) rfl;rw [<-HOA.out];exact e)
  have yb0:∀ p:Held Sx,p.w.cell? ⟨HB,0,none⟩=some (.int .i64 p0):=fun p=>by have h:=Held.get hSx p;exact h.2.cell (j:=0) rfl
  have yb1:∀ p:Held Sx,p.w.cell? ⟨HB,1,none⟩=some (.int .i64 f):=fun p=>by have h:=Held.get hSx p;exact h.2.cell (j:=1) rfl
  have yb2:∀ p:Held Sx,p.w.cell? ⟨HB,2,none⟩=some (.int .i64 k):=fun p=>by have h:=Held.get hSx p;exact h.2.cell (j:=2) rfl
  have yo:∀ p:Held Sx,p.w.cell? ⟨go,j*2,none⟩=some (.int .i64 st):=fun p=>by have h:=Held.get hSx p;exact (HOB.out _ h.1)
  have HS:Hid (∀ W',RCy W' y a s u/\Rec W' HB 48 [.int .i64 p0,.int .i64 f,.int .i64 k]->Sx W'):=⟨fun W' h=>by rw [hSx];exact h⟩
  have hS0:=HS.out _ (⟨HR.out.gr (HGX.out.trans (Gr.refl WX).drew),HBX.out.gr (Gr.refl WX).drew⟩)
  have inst:Inhabited (Held Sx):=⟨⟨_,hS0⟩⟩
  clear hSx
  refine wp_region_mixS Sx 14 [([0,1,2,3,4,5,6,7,8,9,10,11],12)] [13] (by kernel_rfl) (by kernel_rfl) hS0 ?_
  refine segs_step ?_
  try simp only [opsAt,List.getElem?_cons_zero,List.getElem?_cons_succ]
  repeat (go_big_quiet_step (fail))
  refine wpQuiet_nil ?_
  go_wp2_with ((go_at_call 161;refine (HKD.out _).mono ?_;rintro e w6 ⟨rfl,hg6⟩;have HG6:=hid ((Gr.refl WX).drew.trans hg6);clear hg6))
  refine ⟨.inr (Held.of (HS.out _ (⟨HR.out.gr (HGX.out.trans HG6.out),HBX.out.gr HG6.out⟩))),?_⟩
  refine segs_end ?_
  try simp only [opsAt,List.getElem?_cons_zero,List.getElem?_cons_succ]
  repeat (go_big_quiet_step (fail))
  refine wpQuiet_nil ?_
  refine NoPanic.normal ?_
  clear y7 yb0 yb1 yb2 yo hS0 inst
  clear HS Sx
  by_cases hpt:1<=m/\m<=p0
  ·have dk:(kd==1)=true:=by rw [HKE.out,HKI.out];exact decide_eq_true hpt
   have hxb:=HPT.out hpt
   have HCV:=hid (HCT.out hpt)
   have HTO2:=hid (rc_to (HR.out.gr (HGX.out.trans HG6.out)) HST.out (x:Nat))
   obtain ⟨t,ht⟩:∃ t,t=toV s.L s.cf.to (x:Nat):=⟨_,rfl⟩
   have htb:0<=t/\t<=4294967295:=by rw [ht];have h1:=to_nonneg s.L s.cf.to (x:Nat);have h2:=HST.out.to_lt (x:Nat);omega
   rw [<-ht] at HTO2 HCV
   have hwx:IntKind.i64.wrap (x:Int)=(x:Int):=IntWalk.i64_in _ (by omega)
   have hwt:IntKind.u64.wrap t=t:=IntWalk.u64_in _ (by omega)
   clear hpt ht
   go_wp2_with (go_at_call 154;refine (HTO2.out).mono ?_;rintro e w7 ⟨rfl,hg7⟩;have HG7:=hid hg7;clear hg7)
   go_ret2
   exact ⟨by rw [HCV.out];rfl,(HGX.out.trans HG6.out).trans HG7.out⟩
  ·have dk:(kd==1)=false:=by rw [HKE.out,HKI.out];exact decide_eq_false hpt
   have HCV:=hid (HCF.out hpt)
   clear hpt
   go_wp2
   go_ret2
   exact ⟨by rw [HCV.out];rfl,HGX.out.trans HG6.out⟩
end
end Go.Proofs.YthgdadohijgleaaGreatDoor
end
section
namespace Go.Proofs.YthgdadohijgleaaGreatDoor
open Go.RowKit Go.Shelf Word
attribute [local go_sem] Oper.semAt_some
structure SlrI (w wx:World) (S:Nat->Prop) (q m p1 b1 p2 b2:Nat) (v:Vm) (rs:List Int) (c:Cf) (why:Int):Prop where
 t:Touch S w wx
 vm:VmAt wx (cutS S w) q v
 rs:(why=0/\∃ L,Ext wx m p1 b1 p2 b2 v.n L/\Marks v rs v.n L)\/(why=25/\¬ Sound v rs v.n)
 bx:Rec wx w.heap.size 106 [.int .i64 c.fr,.int .i64 c.tp,.int .i64 c.to,.int .i64 c.lm,.int .i64 c.bk,.int .i64 c.st,.int .i64 c.ah]
 r6:Rec wx (w.heap.size+1) 155 [.pointer none]
 r7:Rec wx (w.heap.size+2) 29 [.int .i64 0]
 lm:w.heap.size+3<=m
 l1:w.heap.size+3<=p1
 l2:w.heap.size+3<=b1
 l3:w.heap.size+3<=p2
 l4:w.heap.size+3<=b2
section
variable {w:World} {S:Nat->Prop} {q r g:Nat} {v:Vm} {rs:List Int} {c:Cf}
set_option maxRecDepth 100000 in
set_option maxHeartbeats 3200000 in
theorem sl_reached (hV:VmAt w S q v) (hn1:1<=v.n) (hR:RtAt w r g rs) (hT:TabAt w) (htS:¬ S 1) (hst:1<=c.st/\c.st<=4096):
  Calls Tryz.prog 250 #[.pointer (some ⟨q,0,none⟩),.pointer (some ⟨r,0,none⟩),cfV c] w (PkReach w S q v rs c.fr c.tp):=by
 have HV:=hid hV.cut
 have HR:=hid hR
 have HT:=hid hT
 have HTS:=hid htS
 have htl:=hT.lt
 have hn2:=hV.ok.n2
 have hne:rs.length≠0:=fun e=>hR.ne (List.eq_nil_of_length_eq_zero e)
 have hle:=hR.le
 have HX:=hid (fun W=>ext_new v.n hn1 (by omega) W)
 have HST:=hid hst
 obtain ⟨n,hne0⟩:∃ n,n=rs.length:=⟨_,rfl⟩
 have HN:=hid hne0
 rw [<-hne0] at hne hle
 have g1:Gr w (((w.alloc (.cells #[.int .i64 c.fr,.int .i64 c.tp,.int .i64 c.to,.int .i64 c.lm,.int .i64 c.bk,.int .i64 c.st,.int .i64 c.ah] 106)).alloc (.cells #[.pointer none] 155)).alloc (.cells #[.int .i64 0] 29)):=(((Gr.refl w).alloc _).alloc _).alloc _
 have HG1:=hid g1
 clear hV hR hT htS hst hne0 g1
 refine (callsIn_wide (n:=5)).1 ?_
 refine callsIn_of_wp_marks Tryz.func250 rfl trivial ?_ rfl
 simp only [Tryz.ntmps250,List.size_toArray,List.length_cons,List.length_nil,Nat.reduceAdd,Nat.reduceSub,Array.replicate_succ,Array.replicate_zero,List.push_toArray,List.append_toArray,List.nil_append,List.cons_append]
 unfold cfV
 gi_upto_region 1 with (fail)
 obtain ⟨W0,hW0⟩:∃ W0,W0=(((w.alloc (.cells #[.int .i64 c.fr,.int .i64 c.tp,.int .i64 c.to,.int .i64 c.lm,.int .i64 c.bk,.int .i64 c.st,.int .i64 c.ah] 106)).alloc (.cells #[.pointer none] 155)).alloc (.cells #[.int .i64 0] 29)):=⟨_,rfl⟩
 have hsz0:W0.heap.size=w.heap.size+3:=by rw [hW0];simp only [World.size_alloc]
 have hg0:Gr w W0:=by rw [hW0];exact HG1.out
 have rb:Rec W0 w.heap.size 106 [.int .i64 c.fr,.int .i64 c.tp,.int .i64 c.to,.int .i64 c.lm,.int .i64 c.bk,.int .i64 c.st,.int .i64 c.ah]:=by rw [hW0];exact (Rec.new w _ [.int .i64 c.fr,.int .i64 c.tp,.int .i64 c.to,.int .i64 c.lm,.int .i64 c.bk,.int .i64 c.st,.int .i64 c.ah]).gr (((Gr.refl _).alloc _).alloc _)
 have r6:Rec W0 (w.heap.size+1) 155 [.pointer none]:=by rw [hW0];exact (new2 w _ 155 [.pointer none]).gr ((Gr.refl _).alloc _)
 have r7:Rec W0 (w.heap.size+2) 29 [.int .i64 0]:=by
  rw [hW0]
  have:=new2 (w.alloc (.cells #[.int .i64 c.fr,.int .i64 c.tp,.int .i64 c.to,.int .i64 c.lm,.int .i64 c.bk,.int .i64 c.st,.int .i64 c.ah] 106)) (.cells #[.pointer none] 155) 29 [.int .i64 0]
  rw [World.size_alloc] at this
  exact this
 rw [<-hW0]
 clear hW0 HG1
 have HG0:=hid hg0
 have HRB:=hid rb
 have HR6:=hid r6
 have HR7:=hid r7
 have HWD:=hid (fun (W:World) (g:Gr w W)=>vm_words (HV.out.gr g))
 clear rb r6 r7 hg0
 gi_upto_region 2 with (first
  | (refine ⟨trivial,?_⟩;gi_at_call 90;refine (callsIn_wide.2 (HWD.out _ HG0.out)).mono ?_;rintro e w2 ⟨rfl,rfl⟩)
  | (refine ⟨trivial,?_⟩;gi_at_call 89;refine (callsIn_wide.2 (HX.out _)).mono ?_;rintro e w3 ⟨m,p1,b1,p2,b2,rfl,hg3,he3,hb0,hb1,hb2,hb3,hb4⟩;have HG3:=hid hg3;have HG03:=hid (HG0.out.trans hg3);have HE3:=hid he3;have HB:=hid (And.intro hb0 (And.intro hb1 (And.intro hb2 (And.intro hb3 hb4))));clear hg3 he3 hb0 hb1 hb2 hb3 hb4))
 gi_cut [10,11] from 14 (fun s10 s11 wx=>∃ (b11:Nat) (why:Int),s10=.pointer (some ⟨b11,0,none⟩)/\s11=.int .i64 why/\Hid (SlrI w wx S q m p1 b1 p2 b2 v rs c why))
 case first=>
  have hBB:=HB.out
  obtain ⟨hb0,hb1,hb2,hb3,hb4⟩:=hBB
  rw [hsz0] at hb0 hb1 hb2 hb3 hb4
  have hml:=HE3.out.hm
  have hp1l:=HE3.out.v1.hp
  have hb1l:=HE3.out.v1.hb
  have hp2l:=HE3.out.v2.hp
  have hb2l:=HE3.out.v2.hb
  have hmi:∀ i,mine m b1 b2 i->w.heap.size+3<=i/\i<w3.heap.size:=fun i hi=>by
   rcases hi with rfl | rfl | rfl
   ·exact ⟨hb0,hml⟩
   ·exact ⟨hb2,hb1l⟩
   ·exact ⟨hb4,hb2l⟩
  have HMI:=hid hmi
  have HALL:=hid (fun (W:World) (g:Gr w3 W)=>rt_all (HR.out.gr ((HG03.out).trans g)))
  rw [<-HN.out] at HALL
  have HRUN:Hid (∀ (W:World) (g1 cp:Nat),Gr w3 W->w3.heap.size<=g1->W.ownsRow 0 3 1 (.slice (some ⟨g1,0,none⟩) n cp) n (zs rs)->Calls Tryz.prog 91 #[.iface 107 (.pointer (some ⟨q,0,none⟩)),.slice (some ⟨g1,0,none⟩) n cp,.pointer (some ⟨m,0,none⟩),.int .i64 c.st] W fun e w'=>
    ∃ (a1 a2 a3 a4 why:Int),e=.returned (.tuple #[.agg #[.int .i64 a1,.int .i64 a2,.int .i64 a3,.int .i64 a4],.int .i64 why])/\Touch (fun i=>mine m b1 b2 i\/cutS S w i) W w'/\VmAt w' (cutS S w) q v/\((why=0/\∃ L,Ext w' m p1 b1 p2 b2 v.n L/\Marks v rs v.n L)\/(why=25/\¬ Sound v rs v.n))):=⟨fun W g1 cp hg hg1 ho=>by
   rw [HN.out] at ho ⊢
   have hgw:=HG03.out.trans hg
   refine (mark_run (HV.out.gr hgw) (HE3.out.gr hg) (hgw.tab HT.out.lt HT.out) (fun i hi=>?_) (by unfold maxLen;have:=HN.out;omega) (fun i hi h=>by have:=(hmi i h).1;have:=hi.2;omega) (fun h=>by have:=h.2;omega) (fun h=>by have:=h.2;omega) (fun h=>HTS.out h.1) (fun h=>by have:=(hmi _ h).1;omega) (c.st:Int)).mono ?_
   ·exact ⟨g1,0,rfl,(own_lt ho rfl).2,fun h=>by have:=(hmi _ h).2;omega,by rw [Nat.zero_add];exact own_cell ho (zs_at hi)⟩
   ·rintro e w' (⟨h,-⟩ | ⟨-,-,ht,hv,(⟨L,r',vi,rfl,he,hm,-⟩ | ⟨rfl,-,hs⟩)⟩)
    ·have:=HST.out;omega
    ·exact ⟨_,_,r',vi,0,rfl,ht,hv,.inl ⟨rfl,L,he,hm⟩⟩
    ·exact ⟨0,0,0,0,25,rfl,ht,hv,.inr ⟨rfl,hs⟩⟩⟩
  have FIN:Hid (∀ (W1 W2 W3:World) (b11:Nat) (why:Int),Gr w3 W1->Touch (fun i=>mine m b1 b2 i\/cutS S w i) W1 W2->VmAt W2 (cutS S w) q v->((why=0/\∃ L,Ext W2 m p1 b1 p2 b2 v.n L/\Marks v rs v.n L)\/(why=25/\¬ Sound v rs v.n))->Touch (fun i=>i=b11) W2 W3->w3.heap.size<=b11 →
    SlrI w W3 S q m p1 b1 p2 b2 v rs c why):=⟨fun W1 W2 W3 b11 why hg ht hv hres ht3 hb=>by
   have hz3:=HG03.out.size
   have hz13:=HG3.out.size
   have hgw:=HG03.out.trans hg
   have hno:∀ i,i<w.heap.size+3->w.heap.size<=i->¬ (mine m b1 b2 i\/cutS S w i):=fun i h1 h2 h=>by
    rcases h with h | h
    ·have:=(hmi i h).1;omega
    ·have:=h.2;omega
   refine ⟨((hgw.touch _).trans (ht.mono (T:=fun i=>mine m b1 b2 i\/S i) (fun i _ h=>h.imp id (fun h=>h.1)))).trans' (T:=fun i=>i=b11) ht3 (fun i hi h=>by omega) |>.mono (fun i hi h=>h.elim (fun h=>by have:=(hmi i h).1;omega) id),hv.touch ht3 (fun i hi _ h=>by have:=hi.2;omega),?_,?_,?_,?_,hb0,hb1,hb2,hb3,hb4⟩
   ·rcases hres with ⟨h,L,he,hm⟩ | h
    ·exact .inl ⟨h,L,he.touch ht3 (by omega) (by omega) (by omega) (by omega) (by omega),hm⟩
    ·exact .inr h
   ·exact ((HRB.out.gr (HG3.out.trans hg)).touch ht (hno _ (by omega) (by omega))).touch ht3 (by omega)
   ·exact ((HR6.out.gr (HG3.out.trans hg)).touch ht (hno _ (by omega) (by omega))).touch ht3 (by omega)
   ·exact ((HR7.out.gr (HG3.out.trans hg)).touch ht (hno _ (by omega) (by omega))).touch ht3 (by omega)⟩
  have rb3:=HRB.out.gr HG3.out
  have x5:=rb3.cell (j:=5) rfl
  have x5l:=rb3.lt
  have KS:Hid (∀ W',Gr w3 W'->W'.cell? ⟨w.heap.size,5,none⟩=some (.int .i64 c.st)):=⟨fun W' h=>(h.cell x5l 5).trans x5⟩
  have KT:Hid (∀ W1 W',Gr w3 W1->Touch (fun i=>mine m b1 b2 i\/cutS S w i) W1 W'->W'.cell? ⟨w.heap.size,5,none⟩=some (.int .i64 c.st)):=⟨fun W1 W' h t=>(t.cell (Nat.lt_of_lt_of_le x5l h.size) (fun h=>by
   rcases h with h | h
   ·have:=(HMI.out _ h).1;omega
   ·have:=h.2;omega) 5).trans ((h.cell x5l 5).trans x5)⟩
  obtain ⟨Sx,hSx⟩:∃ Sx:World->Prop,Sx=fun W'=>W'.cell? ⟨w.heap.size,5,none⟩=some (.int .i64 c.st):=⟨_,rfl⟩
  have y1:∀ p':Held Sx,p'.w.cell? ⟨w.heap.size,5,none⟩=some (.int .i64 c.st):=fun p=>Held.get hSx p
  have hS0:Sx w3.drew:=by rw [hSx];exact x5
  have HSX:=hid hSx
  have inst:Inhabited (Held Sx):=⟨⟨_,hS0⟩⟩
  clear hSx x5 rb3 hmi hb0 hb1 hb2 hb3 hb4 hml hp1l hb1l hp2l hb2l
  refine wpIn_region_mixT Sx (.two [0,1,2,4,5,6] 3 (.two [] 7 (.one [8,9,10] 11 (.one [] 12 (.fin [13]))) 11 (.one [] 7 (.one [8,9,10] 12 (.fin [13])))) 11 (.one [] 3 (.one [] 7 (.one [8,9,10] 12 (.fin [13]))))) wide_fn (by kernel_rfl) (by kernel_rfl) hS0 ?_
  refine mixTIn_two ?_
  simp only [opsAt,List.getElem?_cons_zero,List.getElem?_cons_succ]
  repeat (go_big_quiet_step (fail))
  refine wpQuiet_nil ⟨?_,?_⟩
  ·gi_wp2_with (refine ⟨trivial,?_⟩;gi_at_call 84;refine (callsIn_wide.2 (HALL.out _ (Gr.refl w3).drew)).mono ?_;rintro e w4 ⟨g1,c1,rfl,hg4,hgl,ho4⟩;have HG4:=hid ((Gr.refl w3).drew.trans hg4);have HO4:=hid ho4;have HL4:=hid hgl;clear hg4 ho4 hgl)
   refine ⟨Held.of (by rw [HSX.out];exact KS.out _ HG4.out),?_⟩
   refine mixTIn_two ?_
   simp only [opsAt,List.getElem?_cons_zero,List.getElem?_cons_succ]
   refine wpQuiet_nil ⟨?_,?_⟩
   ·gi_wp2_with (refine ⟨trivial,?_⟩;gi_at_call 91;refine (callsIn_wide.2 (HRUN.out _ g1 c1 HG4.out HL4.out HO4.out)).mono ?_;rintro e w5 ⟨a1,a2,a3,a4,why,rfl,ht5,hv5,hs5⟩;have HT5:=hid ht5;have HV5:=hid hv5;have HS5:=hid hs5;clear ht5 hv5 hs5)
    refine ⟨Held.of (by rw [HSX.out];exact KT.out _ _ HG4.out HT5.out),?_⟩
    refine mixTIn_one ?_
    simp only [opsAt,List.getElem?_cons_zero,List.getElem?_cons_succ]
    repeat (go_big_quiet_step (fail))
    refine wpQuiet_nil ?_
    have u5:=KT.out _ _ HG4.out HT5.out
    have u5l:=lt_cell u5
    gi_wp2
    refine ⟨Held.of (by rw [HSX.out];exact (((Gr.refl w5).alloc _).cell u5l 5).trans u5),?_⟩
    refine mixTIn_one ?_
    simp only [opsAt,List.getElem?_cons_zero,List.getElem?_cons_succ]
    refine wpQuiet_nil ?_
    gi_wp2
    refine ⟨Held.of (by rw [HSX.out];exact (((Gr.refl w5).alloc _).cell u5l 5).trans u5),?_⟩
    refine mixTIn_fin ?_
    simp only [opsAt,List.getElem?_cons_zero,List.getElem?_cons_succ]
    repeat (go_big_quiet_step (fail))
    refine wpQuiet_nil ?_
    refine NoPanic.normal ?_
    gi_wp2
    gi_meet
    exact ⟨_,why,rfl,rfl,⟨FIN.out _ _ _ _ why HG4.out HT5.out HV5.out HS5.out (((Gr.refl w5).alloc _).touch _) (Nat.le_trans HG4.out.size HT5.out.size)⟩⟩
   ·have x4:=KS.out _ HG4.out
    have x4l:=lt_cell x4
    gi_wp2
    refine ⟨Held.of (by rw [HSX.out];exact (((Gr.refl w4).alloc _).cell x4l 5).trans x4),?_⟩
    refine mixTIn_one ?_
    simp only [opsAt,List.getElem?_cons_zero,List.getElem?_cons_succ]
    refine wpQuiet_nil ?_
    have HRA:=hid (Rec.new w4 159 [.int .i64 0,.int .i64 0,.int .i64 0,.int .i64 0])
    have HGA:=hid (HG4.out.alloc (.cells #[.int .i64 0,.int .i64 0,.int .i64 0,.int .i64 0] 159))
    have HNB:Hid (¬ (mine m b1 b2 w4.heap.size\/cutS S w w4.heap.size)):=⟨fun h=>by
     have:=HG4.out.size
     rcases h with h | h
     ·have:=(HMI.out _ h).2;omega
     ·have:=h.2;have:=(HG03.out).size;omega⟩
    have HNW:Hid (¬ w.heap.size=w4.heap.size):=⟨by have:=HG4.out.size;omega⟩
    have HOA:=hid (own_gr HO4.out ((Gr.refl w4).alloc (.cells #[.int .i64 0,.int .i64 0,.int .i64 0,.int .i64 0] 159)))
    have HBA:Hid (w3.heap.size<=w4.heap.size):=⟨HG4.out.size⟩
    obtain ⟨bA,hbA⟩:∃ bA,bA=w4.heap.size:=⟨_,rfl⟩
    obtain ⟨WA,hWA⟩:∃ WA,WA=w4.alloc (.cells #[.int .i64 0,.int .i64 0,.int .i64 0,.int .i64 0] 159):=⟨_,rfl⟩
    rw [show w4.alloc (.cells ([.int .i64 0,.int .i64 0,.int .i64 0,.int .i64 0]:List Value).toArray 159)=WA from hWA.symm] at HRA
    rw [<-hWA] at HGA HOA ⊢
    rw [<-hbA] at HRA HNB HNW HBA ⊢
    clear hbA hWA x4 x4l
    gi_wp2_with (refine ⟨trivial,?_⟩;gi_at_call 91;refine (callsIn_wide.2 (HRUN.out _ g1 c1 HGA.out HL4.out HOA.out)).mono ?_;rintro e w5 ⟨a1,a2,a3,a4,why,rfl,ht5,hv5,hs5⟩;have HT5:=hid ht5;have HV5:=hid hv5;have HS5:=hid hs5;have HR5:=hid (HRA.out.touch ht5 (HNB.out));have q0:=HR5.out.cell (j:=0) rfl;have q1:=HR5.out.cell (j:=1) rfl;have q2:=HR5.out.cell (j:=2) rfl;have q3:=HR5.out.cell (j:=3) rfl;have qf:=HR5.out.free;have ql:=HR5.out.lt;clear ht5 hv5 hs5)
    refine ⟨Held.of (by rw [HSX.out];exact KT.out _ _ HGA.out HT5.out),?_⟩
    refine mixTIn_one ?_
    simp only [opsAt,List.getElem?_cons_zero,List.getElem?_cons_succ]
    repeat (go_big_quiet_step (fail))
    refine wpQuiet_nil ?_
    gi_wp2
    have t5:=st4_self w5 bA (.int .i64 a1) (.int .i64 a2) (.int .i64 a3) (.int .i64 a4)
    have KF:=(t5.cell (lt_cell (KT.out _ _ HGA.out HT5.out)) HNW.out 5).trans (KT.out _ _ HGA.out HT5.out)
    refine ⟨Held.of (by rw [HSX.out];exact KF),?_⟩
    refine mixTIn_fin ?_
    simp only [opsAt,List.getElem?_cons_zero,List.getElem?_cons_succ]
    repeat (go_big_quiet_step (fail))
    refine wpQuiet_nil ?_
    refine NoPanic.normal ?_
    gi_wp2
    gi_meet
    exact ⟨_,why,rfl,rfl,⟨FIN.out _ _ _ _ why HGA.out HT5.out HV5.out HS5.out t5 HBA.out⟩⟩
  ·gi_wp2
   have x3:=KS.out _ (Gr.refl w3)
   have x3l:=lt_cell x3
   refine ⟨Held.of (by rw [HSX.out];exact KS.out _ ((Gr.refl w3).alloc _).drew),?_⟩
   refine mixTIn_one ?_
   simp only [opsAt,List.getElem?_cons_zero,List.getElem?_cons_succ]
   refine wpQuiet_nil ?_
   have HRA:=hid ((Rec.new w3 159 [.int .i64 0,.int .i64 0,.int .i64 0,.int .i64 0]).gr (Gr.refl _).drew)
   have HGA:=hid ((Gr.refl w3).alloc (.cells #[.int .i64 0,.int .i64 0,.int .i64 0,.int .i64 0] 159)).drew
   have HNB:Hid (¬ (mine m b1 b2 w3.heap.size\/cutS S w w3.heap.size)):=⟨fun h=>by
    rcases h with h | h
    ·have:=(HMI.out _ h).2;omega
    ·have:=h.2;have:=(HG03.out).size;omega⟩
   have HNW:Hid (¬ w.heap.size=w3.heap.size):=⟨by omega⟩
   have HBA:Hid (w3.heap.size<=w3.heap.size):=⟨Nat.le_refl _⟩
   obtain ⟨WA,hWA⟩:∃ WA,WA=(w3.alloc (.cells #[.int .i64 0,.int .i64 0,.int .i64 0,.int .i64 0] 159)).drew:=⟨_,rfl⟩
   rw [show (w3.alloc (.cells ([.int .i64 0,.int .i64 0,.int .i64 0,.int .i64 0]:List Value).toArray 159)).drew=WA from hWA.symm] at HRA
   rw [<-hWA] at HGA ⊢
   clear hWA
   obtain ⟨bA,hbA⟩:∃ bA,bA=w3.heap.size:=⟨_,rfl⟩
   rw [<-hbA] at HRA HNB HNW
   rw [show w3.heap.size<=w3.heap.size↔w3.heap.size<=bA by rw [hbA]] at HBA
   rw [show w3.heap.size=bA from hbA.symm]
   clear hbA x3 x3l
   gi_wp2_with (refine ⟨trivial,?_⟩;gi_at_call 84;refine (callsIn_wide.2 (HALL.out _ HGA.out)).mono ?_;rintro e w4 ⟨g1,c1,rfl,hg4,hgl,ho4⟩;have HG4:=hid (HGA.out.trans hg4);have HRA4:=hid (HRA.out.gr hg4);have HO4:=hid ho4;have HL4:=hid (Nat.le_trans HGA.out.size hgl);clear hg4 ho4 hgl)
   refine ⟨Held.of (by rw [HSX.out];exact KS.out _ HG4.out),?_⟩
   refine mixTIn_one ?_
   simp only [opsAt,List.getElem?_cons_zero,List.getElem?_cons_succ]
   refine wpQuiet_nil ?_
   gi_wp2_with (refine ⟨trivial,?_⟩;gi_at_call 91;refine (callsIn_wide.2 (HRUN.out _ g1 c1 HG4.out HL4.out HO4.out)).mono ?_;rintro e w5 ⟨a1,a2,a3,a4,why,rfl,ht5,hv5,hs5⟩;have HT5:=hid ht5;have HV5:=hid hv5;have HS5:=hid hs5;have HR5:=hid (HRA4.out.touch ht5 (HNB.out));have q0:=HR5.out.cell (j:=0) rfl;have q1:=HR5.out.cell (j:=1) rfl;have q2:=HR5.out.cell (j:=2) rfl;have q3:=HR5.out.cell (j:=3) rfl;have qf:=HR5.out.free;have ql:=HR5.out.lt;clear ht5 hv5 hs5)
   refine ⟨Held.of (by rw [HSX.out];exact KT.out _ _ HG4.out HT5.out),?_⟩
   refine mixTIn_one ?_
   simp only [opsAt,List.getElem?_cons_zero,List.getElem?_cons_succ]
   repeat (go_big_quiet_step (fail))
   refine wpQuiet_nil ?_
   gi_wp2
   have t5:=st4_self w5 bA (.int .i64 a1) (.int .i64 a2) (.int .i64 a3) (.int .i64 a4)
   have KF:=(t5.cell (lt_cell (KT.out _ _ HG4.out HT5.out)) HNW.out 5).trans (KT.out _ _ HG4.out HT5.out)
   refine ⟨Held.of (by rw [HSX.out];exact KF),?_⟩
   refine mixTIn_fin ?_
   simp only [opsAt,List.getElem?_cons_zero,List.getElem?_cons_succ]
   repeat (go_big_quiet_step (fail))
   refine wpQuiet_nil ?_
   refine NoPanic.normal ?_
   gi_wp2
   gi_meet
   exact ⟨_,why,rfl,rfl,⟨FIN.out _ _ _ _ why HG4.out HT5.out HV5.out HS5.out t5 HBA.out⟩⟩
 case rest=>
  obtain ⟨b11,why,rfl,rfl,HI⟩:=hcut
  have hr6:=HI.out.r6
  have hr7:=HI.out.r7
  have hbx:=HI.out.bx
  have hwz:=HI.out.t.size
  have hr7l:=hr7.lt
  rcases HI.out.rs with ⟨rfl,L,hex,hmk⟩ | ⟨rfl,hns⟩
  ·have HEX:=hid hex
   have HMK:=hid hmk
   clear hr6 hr7 hex hmk
   gi_wp2_with (refine ⟨trivial,?_⟩;gi_at_call 203;refine (callsIn_wide.2 (all_call (some ⟨m,0,none⟩))).mono ?_;rintro e w1 ⟨rfl,rfl⟩)
   obtain ⟨W1,hW1⟩:∃ W1,W1=wc.alloc (.cells #[.pointer (some ⟨m,0,none⟩)] 155):=⟨_,rfl⟩
   have hg1:Gr wc W1:=by rw [hW1];exact (Gr.refl wc).alloc _
   have hs1:W1.heap.size=wc.heap.size+1:=by rw [hW1,World.size_alloc]
   have k4:W1.cell? ⟨wc.heap.size,0,none⟩=some (.pointer (some ⟨m,0,none⟩)):=by
    rw [hW1];exact (Boxed.new wc 155 (.pointer (some ⟨m,0,none⟩))).cell
   rw [<-hW1]
   have hex:=HEX.out
   have hml:=hex.hm
   have hp1l:=hex.v1.hp
   have hb1l:=hex.v1.hb
   have hp2l:=hex.v2.hp
   have hb2l:=hex.v2.hb
   have HTC:Hid (TabAt wc):=⟨HI.out.t.tab htl HTS.out HT.out⟩
   have htl2:=HTC.out.lt
   have hrl:=hbx.lt
   have hgd:=hid hex.good
   clear hW1 hex
   have tI:∀ (j:Nat) A B,(Touch (fun i=>W1.heap.size<=i) W1 A/\j<=L.length/\∀ i (h:i<L.length),i<j->c.fr<=L[i].1/\L[i].1+L[i].2<=c.tp)->Touch (fun i=>W1.heap.size<=i/\i<W1.heap.size+2+4) A B->(Touch (fun i=>W1.heap.size<=i) W1 B/\j<=L.length/\∀ i (h:i<L.length),i<j->c.fr<=L[i].1/\L[i].1+L[i].2<=c.tp):=fun j A B h t=>⟨h.1.trans (t.mono (fun i _ h=>h.1)),h.2⟩
   refine range_lawU (K:=4) (s0:=0) rfl (by omega) (gf:=294) (lb:=#[.pointer (some ⟨wc.heap.size,0,none⟩)]) rfl trivial (enters_of Tryz.func294 (by kernel_rfl) rfl)
    (all_seqU _ wc.heap.size m p1 b1 p2 b2 v.n L _) (fun _=>rfl)
    (fun (j:Nat) A=>Touch (fun i=>W1.heap.size<=i) W1 A/\j<=L.length/\∀ i (h:i<L.length),i<j->c.fr<=L[i].1/\L[i].1+L[i].2<=c.tp)
    (fun cd A=>cd=.ret/\Touch (fun i=>(i=w.heap.size+1\/i=w.heap.size+2)\/W1.heap.size<=i) W1 A/\A.cell? ⟨w.heap.size+1,0,none⟩=some (.pointer none)/\A.cell? ⟨w.heap.size+2,0,none⟩=some (.int .i64 25)/\∃ o∈L,¬ (c.fr<=o.1/\o.1+o.2<=c.tp))
    tI
    (fun cd A B h t=>⟨h.1,h.2.1.trans (t.mono (fun i _ h=>.inr h.1)),(t.cell (lt_cell h.2.2.1) (by show ¬ (W1.heap.size<=w.heap.size+1/\_);omega) 0).trans h.2.2.1,(t.cell (lt_cell h.2.2.2.1) (by show ¬ (W1.heap.size<=w.heap.size+2/\_);omega) 0).trans h.2.2.2.1,h.2.2.2.2⟩)
    (fun j A h=>⟨(HEX.out.gr hg1).touch h.1 (by omega) (by omega) (by omega) (by omega) (by omega),(hg1.tab htl2 HTC.out).touch' h.1 (by omega),(h.1.cell (by omega) (by omega) 0).trans k4,h.2.1⟩)
    ⟨Touch.refl _ _,Nat.zero_le _,fun i _ h=>absurd h (Nat.not_lt_zero _)⟩ ?round ?done ?stop
   case round=>
    have HS1:=hid hs1
    clear hs1
    intro lp j x W3 hsz3 hI3 hgv
    dsimp only [encO]
    gi_wp2
    refine ⟨Gr.refl _,fun W4 ht4 hI4=>?_⟩
    have hjl:j<L.length:=by
     rcases Nat.lt_or_ge j L.length with h | h
     ·exact h
     ·unfold AllGives at hgv;rw [List.getElem?_eq_none h] at hgv;cases hgv
    obtain rfl:x=L[j]:=by unfold AllGives at hgv;rw [List.getElem?_eq_getElem hjl] at hgv;exact (Option.some.inj hgv).symm
    have hrb4:=(hbx.gr hg1).touch hI4.1 (by have:=HS1.out;omega)
    have c0:=hrb4.cell (j:=0) rfl
    have c1:=hrb4.cell (j:=1) rfl
    have cl:=hrb4.lt
    have hsb:=(hgd.out.sz _ (List.getElem_mem hjl)).2
    have HMEM:=hid (List.getElem_mem hjl)
    obtain ⟨sa,hsa⟩:∃ s,s=L[j].1:=⟨_,rfl⟩
    obtain ⟨sz,hsz⟩:∃ s,s=L[j].2:=⟨_,rfl⟩
    have HSA:=hid (And.intro hsa hsz)
    rw [<-hsa,<-hsz] at hsb ⊢
    have HI4:=hid hI4
    have ha6:=(HI.out.r6.gr hg1).touch hI4.1 (by have:=HS1.out;omega)
    have ha7:=(HI.out.r7.gr hg1).touch hI4.1 (by have:=HS1.out;omega)
    have HJL:=hid hjl
    by_cases hin:c.fr<=sa/\sa+sz<=c.tp
    ·have e0:decide ((sa:Int)<(c.fr:Int))=false:=decide_eq_false (by omega)
     have e1:decide ((c.tp:Int)<(sa:Int)+(sz:Int))=false:=decide_eq_false (by omega)
     have e2:decide (sa<c.fr)=false:=decide_eq_false (by omega)
     have HIN:=hid hin
     clear hI3 hI4 hgv ht4 hsa hsz hin ha6 ha7
     gi_wp2
     refine ⟨Touch.refl _ _,j+1,rfl,HI4.out.1,HJL.out,fun i h hij=>?_⟩
     rcases Nat.lt_or_ge i j with h' | h'
     ·exact HI4.out.2.2 i h h'
     ·obtain rfl:i=j:=by omega
      rw [<-HSA.out.1,<-HSA.out.2];exact HIN.out
    ·have HNI:Hid (∃ o∈L,¬ (c.fr<=o.1/\o.1+o.2<=c.tp)):=⟨L[j],HMEM.out,by rw [<-HSA.out.1,<-HSA.out.2];exact hin⟩
     have HA6:=hid ha6
     have HA7:=hid ha7
     have z6:=ha6.cell (j:=0) rfl
     have z7:=ha7.cell (j:=0) rfl
     have zf6:=ha6.free 0
     have zf7:=ha7.free 0
     have zl7:=ha7.lt
     have FIN:Hid (∀ W5,W5=(W4.setCell ⟨w.heap.size+1,0,none⟩ (.pointer none)).setCell ⟨w.heap.size+1+1,0,none⟩ (.int .i64 25)->Touch (fun k=>k<W1.heap.size\/W1.heap.size+(2+4)<=k) W4 W5/\(Touch (fun i=>(i=w.heap.size+1\/i=w.heap.size+2)\/W1.heap.size<=i) W1 W5/\W5.cell? ⟨w.heap.size+1,0,none⟩=some (.pointer none)/\W5.cell? ⟨w.heap.size+2,0,none⟩=some (.int .i64 25)/\∃ o∈L,¬ (c.fr<=o.1/\o.1+o.2<=c.tp))):=⟨fun W5 hW5=>by
      have tg:Touch (fun i=>i=w.heap.size+1\/i=w.heap.size+2) W4 W5:=by
       rw [hW5]
       exact ((Touch.refl _ W4).setCell (a:=⟨w.heap.size+1,0,none⟩) (fun _=>.inl rfl) _).setCell (a:=⟨w.heap.size+1+1,0,none⟩) (fun _=>.inr rfl) _
      have b6:Rec W5 (w.heap.size+1) 155 [.pointer none]:=by
       rw [hW5]
       exact (HA6.out.set 0 (.pointer none)).touch ((Touch.refl (fun i=>i=w.heap.size+1+1) _).setCell (a:=⟨w.heap.size+1+1,0,none⟩) (fun _=>rfl) _) (by omega)
      have b7:Rec W5 (w.heap.size+2) 29 [.int .i64 25]:=by
       rw [hW5]
       exact (HA7.out.touch ((Touch.refl (fun i=>i=w.heap.size+1) W4).setCell (a:=⟨w.heap.size+1,0,none⟩) (fun _=>rfl) (.pointer none)) (by omega)).set 0 (.int .i64 25)
      refine ⟨tg.mono (fun b _ h=>.inl (by have:=HS1.out;omega)),(HI4.out.1.mono (fun _ _ h=>.inr h)).trans (tg.mono (fun _ _ h=>.inl h)),b6.cell (j:=0) rfl,b7.cell (j:=0) rfl,HNI.out⟩⟩
     clear hI3 hI4 hgv ht4 ha6 ha7 hsa hsz
     by_cases hlo:sa<c.fr
     ·have e0:decide ((sa:Int)<(c.fr:Int))=true:=decide_eq_true (by omega)
      have e2:decide (sa<c.fr)=true:=decide_eq_true hlo
      clear hin hlo
      gi_wp2
      exact ⟨(FIN.out _ rfl).1,rfl,(FIN.out _ rfl).2⟩
     ·have e0:decide ((sa:Int)<(c.fr:Int))=false:=decide_eq_false (by omega)
      have e2:decide (sa<c.fr)=false:=decide_eq_false hlo
      have e1:decide ((c.tp:Int)<(sa:Int)+(sz:Int))=true:=decide_eq_true (by omega)
      clear hin hlo
      gi_wp2
      exact ⟨(FIN.out _ rfl).1,rfl,(FIN.out _ rfl).2⟩
   case done=>
    rintro D j W3 hD rfl hI3 hK
    have ra3:=(HI.out.r6.gr hg1).touch hI3.1 (by have:=HI.out.r6.lt;omega)
    have rz3:=(HI.out.r7.gr hg1).touch hI3.1 (by have:=HI.out.r7.lt;omega)
    have q0:=ra3.cell (j:=0) rfl
    have q1:=ra3.free 0
    have ql:=ra3.lt
    have p0:=rz3.cell (j:=0) rfl
    have p1':=rz3.free 0
    have pl:=rz3.lt
    have HK:=hid hK
    have HD:=hid hD
    have HI3:=hid hI3
    have HRA:=hid ra3
    have HRZ:=hid rz3
    have hs3:=hI3.1.size
    clear hK hD hI3 ra3 rz3
    gi_wp2
    have tg:Touch (fun i=>i=w.heap.size+1\/i=w.heap.size+2) W3 ((W3.setCell ⟨w.heap.size+1,0,none⟩ (.pointer (some ⟨m,0,none⟩))).setCell ⟨w.heap.size+1+1,0,none⟩ (.int .i64 0)):=
     ((Touch.refl _ W3).setCell (a:=⟨w.heap.size+1,0,none⟩) (fun _=>.inl rfl) _).setCell (a:=⟨w.heap.size+1+1,0,none⟩) (fun _=>.inr rfl) _
    have b6:Rec ((W3.setCell ⟨w.heap.size+1,0,none⟩ (.pointer (some ⟨m,0,none⟩))).setCell ⟨w.heap.size+1+1,0,none⟩ (.int .i64 0)) (w.heap.size+1) 155 [.pointer (some ⟨m,0,none⟩)]:=
     (HRA.out.set 0 (.pointer (some ⟨m,0,none⟩))).touch ((Touch.refl (fun i=>i=w.heap.size+1+1) _).setCell (a:=⟨w.heap.size+1+1,0,none⟩) (fun _=>rfl) _) (by omega)
    have b7:Rec ((W3.setCell ⟨w.heap.size+1,0,none⟩ (.pointer (some ⟨m,0,none⟩))).setCell ⟨w.heap.size+1+1,0,none⟩ (.int .i64 0)) (w.heap.size+2) 29 [.int .i64 0]:=
     (HRZ.out.touch ((Touch.refl (fun i=>i=w.heap.size+1) W3).setCell (a:=⟨w.heap.size+1,0,none⟩) (fun _=>rfl) (.pointer (some ⟨m,0,none⟩))) (by omega)).set 0 (.int .i64 0)
    have hD:=HD.out
    have hK':=(tg.block D (Array.getElem?_eq_some_iff.1 HK.out).1 (by omega)).trans HK.out
    generalize ((W3.setCell ⟨w.heap.size+1,0,none⟩ (.pointer (some ⟨m,0,none⟩))).setCell ⟨w.heap.size+1+1,0,none⟩ (.int .i64 0))=W5 at *
    have k6:=b6.cell (j:=0) rfl
    have k7:=b7.cell (j:=0) rfl
    rw [show w.heap.size+2=w.heap.size+1+1 from rfl] at k7
    refine ⟨by simp,.inl ⟨_,_,rfl,run_takeDeferred hK',?_⟩⟩
    have h1':=cell_kept k6 (grownBy_putObj' _ D (.deferred none)) (fun r e=>by cases e;exact ⟨_,hK',rfl⟩)
    have h2':=cell_kept k7 (grownBy_putObj' _ D (.deferred none)) (fun r e=>by cases e;exact ⟨_,hK',rfl⟩)
    have tD:Touch (fun i=>W1.heap.size<=i) W5 (W5.putObj D (.deferred none)):=touch_putObj _ D _ (by omega)
    refine ⟨.tuple #[.pointer (some ⟨m,0,none⟩),.int .i64 0],?_,?_,?_,.inl ⟨L,m,p1,b1,p2,b2,⟨HMK.out,fun o ho=>?_⟩,rfl,?_,?_⟩⟩
    ·simp [results,Tryz.f250,go_sem,h1',h2']
    ·exact (((HI.out.t.trans (hg1.touch _)).trans' HI3.out.1 (fun i hi h=>by omega)).trans' tg (fun i hi h=>by omega)).trans' tD (fun i hi h=>by omega)
    ·exact (((HI.out.vm.gr hg1).touch HI3.out.1 (fun i hi _ h=>by have:=hi.2;omega)).touch tg (fun i hi _ h=>by have:=hi.2;omega)).touch tD (fun i hi _ h=>by have:=hi.2;omega)
    ·obtain ⟨i,hi,rfl⟩:=List.getElem_of_mem ho
     have:=HI3.out.2.2 i hi hi
     omega
    ·have hl:=HI.out
     have l0:=hl.lm
     have l1:=hl.l1
     have l2:=hl.l2
     have l3:=hl.l3
     have l4:=hl.l4
     exact ((((HEX.out.gr hg1).touch HI3.out.1 (by omega) (by omega) (by omega) (by omega) (by omega))).touch tg (by omega) (by omega) (by omega) (by omega) (by omega)).touch tD (by omega) (by omega) (by omega) (by omega) (by omega)
    ·have hl:=HI.out
     have l0:=hl.lm
     have l1:=hl.l1
     have l2:=hl.l2
     have l3:=hl.l3
     have l4:=hl.l4
     omega
   case stop=>
    rintro D cd W3 hD ⟨rfl,ht3,h1,h2,hno⟩ hK
    have HNO:=hid hno
    have HK:=hid hK
    have HT3:=hid ht3
    have hz3:=ht3.size
    clear hno hK ht3
    gi_wp2
    refine ⟨by simp,.inl ⟨_,_,rfl,run_takeDeferred HK.out,?_⟩⟩
    have h1':=cell_kept h1 (grownBy_putObj' _ D (.deferred none)) (fun r e=>by cases e;exact ⟨_,HK.out,rfl⟩)
    have h2':=cell_kept h2 (grownBy_putObj' _ D (.deferred none)) (fun r e=>by cases e;exact ⟨_,HK.out,rfl⟩)
    rw [show w.heap.size+2=w.heap.size+1+1 from rfl] at h2'
    have tD:Touch (fun i=>W1.heap.size<=i) W3 (W3.putObj D (.deferred none)):=touch_putObj _ D _ (by omega)
    refine ⟨.tuple #[.pointer none,.int .i64 25],?_,?_,?_,.inr ⟨fun L' h=>?_,rfl⟩⟩
    ·simp [results,Tryz.f250,go_sem,h1',h2']
    ·exact (((HI.out.t.trans (hg1.touch _)).trans' HT3.out (fun i hi h=>by omega))).trans' tD (fun i hi h=>by omega)
    ·exact ((HI.out.vm.gr hg1).touch HT3.out (fun i hi _ h=>by have:=hi.2;omega)).touch tD (fun i hi _ h=>by have:=hi.2;omega)
    ·have e:=h.1.unique HMK.out
     subst e
     obtain ⟨o,ho,hno⟩:=HNO.out
     have:=h.2 o ho
     exact hno (by omega)
  ·have q0:=hr6.cell (j:=0) rfl
   have q1:=hr6.free 0
   have ql:=hr6.lt
   have p0:=hr7.cell (j:=0) rfl
   have p1':=hr7.free 0
   have pl:=hr7.lt
   have HNS:=hid hns
   have HR6:=hid hr6
   have HR7:=hid hr7
   clear hr6 hr7 hns hbx
   gi_wp2
   have tg:Touch (fun i=>i=w.heap.size+1\/i=w.heap.size+2) wc ((wc.setCell ⟨w.heap.size+1,0,none⟩ (.pointer none)).setCell ⟨w.heap.size+1+1,0,none⟩ (.int .i64 25)):=
    ((Touch.refl _ wc).setCell (a:=⟨w.heap.size+1,0,none⟩) (fun _=>.inl rfl) _).setCell (a:=⟨w.heap.size+1+1,0,none⟩) (fun _=>.inr rfl) _
   have b6:Rec ((wc.setCell ⟨w.heap.size+1,0,none⟩ (.pointer none)).setCell ⟨w.heap.size+1+1,0,none⟩ (.int .i64 25)) (w.heap.size+1) 155 [.pointer none]:=
    (HR6.out.set 0 (.pointer none)).touch ((Touch.refl (fun i=>i=w.heap.size+1+1) _).setCell (a:=⟨w.heap.size+1+1,0,none⟩) (fun _=>rfl) _) (by omega)
   have b7:Rec ((wc.setCell ⟨w.heap.size+1,0,none⟩ (.pointer none)).setCell ⟨w.heap.size+1+1,0,none⟩ (.int .i64 25)) (w.heap.size+2) 29 [.int .i64 25]:=
    (HR7.out.touch ((Touch.refl (fun i=>i=w.heap.size+1) wc).setCell (a:=⟨w.heap.size+1,0,none⟩) (fun _=>rfl) (.pointer none)) (by omega)).set 0 (.int .i64 25)
   generalize ((wc.setCell ⟨w.heap.size+1,0,none⟩ (.pointer none)).setCell ⟨w.heap.size+1+1,0,none⟩ (.int .i64 25))=W5 at *
   have k6:=b6.cell (j:=0) rfl
   have k7:=b7.cell (j:=0) rfl
   rw [show w.heap.size+2=w.heap.size+1+1 from rfl] at k7
   refine ⟨.tuple #[.pointer none,.int .i64 25],?_,?_,?_,.inr ⟨fun L' h=>HNS.out h.1.sound,rfl⟩⟩
   ·simp [results,Tryz.f250,go_sem,k6,k7]
   ·exact HI.out.t.trans' tg (fun i hi h=>by omega)
   ·exact HI.out.vm.touch tg (fun i hi _ h=>by have:=hi.2;omega)
end
end Go.Proofs.YthgdadohijgleaaGreatDoor
end
section
namespace Go.Proofs.YthgdadohijgleaaGreatDoor
open Go.RowKit Go.Shelf Word
attribute [local go_sem] Oper.semAt_some
theorem sl_plan {w:World} {m p1 b1 p2 b2 n:Nat} {L:List Ob} (hE:Ext w m p1 b1 p2 b2 n L) (hT:TabAt w) {B base:Nat} (hB:blockOk B=true) (hb:base<2147483648):
  Calls Tryz.prog 251 #[.pointer (some ⟨m,0,none⟩),.int .i64 B,.int .i64 base] w fun e w'=>∃ p,e=.returned (.tuple #[.pointer (some ⟨p,0,none⟩),.int .i64 0])/\Gr w w'/\Pln w' w.heap.size p n B base L:=by
 have hbp:=blockOk_pos hB
 refine (pln_new hE hT (B:Int) (base:Int) (by omega)).mono ?_
 have hbo:baseOk (base:Int)=true:=by unfold baseOk;rw [decide_eq_true (by omega),decide_eq_true (by omega)];rfl
 rintro e w' ⟨hg,(⟨h,-⟩ | ⟨-,p,B',base',e1,e2,rfl,hP⟩)⟩
 ·rw [hB,hbo] at h;cases h
 ·obtain rfl:B=B':=by omega
  obtain rfl:base=base':=by omega
  exact ⟨p,rfl,hg,hP⟩
def OpenEnd (w:World) (S:Nat->Prop) (q r g:Nat) (v:Vm) (rs:List Int) (c:Cf) (e:Ending) (w':World):Prop:=
 Touch (fun b=>b=g\/S b) w w' ∧
  (((∀ L,¬ PkIn v rs c.fr c.tp L)/\e=.returned (.tuple #[.pointer none,.int .i64 25])/\VmAt w' S q v/\RtAt w' r g rs) ∨
  ∃ L,PkIn v rs c.fr c.tp L ∧
   ((c.lm-c.to<sizes L/\e=.returned (.tuple #[.pointer none,.int .i64 21])/\VmAt w' S q v/\RtAt w' r g rs) ∨
   (sizes L<=c.lm-c.to/\∃ (y:Nat) (z:SlAd) (R S':Nat->Prop) (v':Vm) (j:Nat),e=.returned (.tuple #[.pointer (some ⟨y,0,none⟩),.int .i64 0])/\Cyc w' R y q z (slNew v c L)/\VmAt w' S' q v'/\(∀ b,S' b->S b\/w.heap.size<=b)/\(∀ b,R b->w.heap.size<=b/\¬ S' b) ∧
    OpUm (slNew v c L) v v' (c.fr/v.pl.pg) j/\c.tp<=(c.fr/v.pl.pg+j)*v.pl.pg/\(∀ i,i<j->(c.fr/v.pl.pg+i)*v.pl.pg<c.tp)/\RtAt w' r g (rs.map (toV L c.to)))))
theorem infoBool:(Tryz.prog.info? 4).map (fun i=>(i.zero,i.size,i.bytes))=some (some (.bool false),1,1):=by kernel_rfl
structure OpJ (wa w:World) (D:Nat->Bool) (q p m nb:Nat) (c:Cf) (v55 v56 v57 v58 v59 v60 v61 v62 v63 v64 v65 v66 v67 v13:Value):Prop where
 e55:v55=.pointer (some ⟨q,0,none⟩)
 e56:v56=.agg #[.int .i64 c.fr,.int .i64 c.tp,.int .i64 c.to,.int .i64 c.lm,.int .i64 c.bk,.int .i64 c.st,.int .i64 c.ah]
 e57:v57=.pointer (some ⟨p,0,none⟩)
 e58:v58=.pointer (some ⟨m,0,none⟩)
 e59:v59=.pointer (some ⟨p,0,none⟩)
 e62:v62=.pointer (some ⟨p,0,none⟩)
 e60:D 5=true->v60=.int .i64 nb
 e61:D 6=true->∃ b,v61=.slice (some ⟨b,0,none⟩) nb nb/\w.ownsRow 0 4 1 v61 nb (List.replicate nb (.bool false))/\wa.heap.size<=b
 e63:D 8=true->v63=.int .i64 nb
 e64:D 9=true->∃ b,v64=.map (some b)/\MapI Tryz.prog 3 w b 0 (fun _=>none)/\wa.heap.size<=b
 e65:D 10=true->∃ b,v65=.map (some b)/\MapI Tryz.prog 3 w b 0 (fun _=>none)/\wa.heap.size<=b
 ne:D 9=true->D 10=true->v64≠v65
 e66:D 11=true->D 6=true/\D 8=true/\D 9=true/\D 10=true/\v66=.agg #[v55,.int .i64 c.fr,.int .i64 c.tp,.int .i64 c.to,.int .i64 c.lm,.int .i64 c.bk,.int .i64 c.st,.int .i64 c.ah,v57,v58,v61,v63,.int .i64 0,.int .i64 0,v64,v65]
 e67:D 12=true->D 11=true/\∃ b,v67=.pointer (some ⟨b,0,none⟩)/\wa.heap.size<=b/\Rec w b 225 [v55,.int .i64 c.fr,.int .i64 c.tp,.int .i64 c.to,.int .i64 c.lm,.int .i64 c.bk,.int .i64 c.st,.int .i64 c.ah,v57,v58,v61,v63,.int .i64 0,.int .i64 0,v64,v65]
 e13:D 13=true->∃ b,v13=.pointer (some ⟨b,0,none⟩)/\wa.heap.size<=b/\Rec w b 99 [if D 14 then v67 else .pointer none]
 d14:D 14=true->D 12=true/\D 13=true
 t:Touch (fun i=>wa.heap.size<=i) wa w
theorem OpJ.gr {wa w w':World} {D:Nat->Bool} {q p m nb:Nat} {c:Cf} {v55 v56 v57 v58 v59 v60 v61 v62 v63 v64 v65 v66 v67 v13:Value} (h:OpJ wa w D q p m nb c v55 v56 v57 v58 v59 v60 v61 v62 v63 v64 v65 v66 v67 v13) (g:Gr w w'):OpJ wa w' D q p m nb c v55 v56 v57 v58 v59 v60 v61 v62 v63 v64 v65 v66 v67 v13:=
 ⟨h.e55,h.e56,h.e57,h.e58,h.e59,h.e62,h.e60,fun d=>by obtain ⟨b,h1,h2,h3⟩:=h.e61 d;exact ⟨b,h1,own_gr h2 g,h3⟩,h.e63,fun d=>by obtain ⟨b,h1,h2,h3⟩:=h.e64 d;exact ⟨b,h1,h2.gr g,h3⟩,fun d=>by obtain ⟨b,h1,h2,h3⟩:=h.e65 d;exact ⟨b,h1,h2.gr g,h3⟩,h.ne,h.e66,
  fun d=>by obtain ⟨h0,b,h1,h2,h3⟩:=h.e67 d;exact ⟨h0,b,h1,h2,h3.gr g⟩,fun d=>by obtain ⟨b,h1,h2,h3⟩:=h.e13 d;exact ⟨b,h1,h2,h3.gr g⟩,h.d14,h.t.trans (g.touch _)⟩
def OpI (wa:World) (q p m nb:Nat) (c:Cf) (a0:Act) (D:Nat->Bool) (a:Act) (w:World):Prop:=
 ∃ v55 v56 v57 v58 v59 v60 v61 v62 v63 v64 v65 v66 v67 v13:Value,a=(((((((((((((a0.put (some 55) v55).put (some 56) v56).put (some 57) v57).put (some 58) v58).put (some 59) v59).put (some 60) v60).put (some 61) v61).put (some 62) v62).put (some 63) v63).put (some 64) v64).put (some 65) v65).put (some 66) v66).put (some 67) v67).put (some 13) v13/\OpJ wa w D q p m nb c v55 v56 v57 v58 v59 v60 v61 v62 v63 v64 v65 v66 v67 v13
theorem Sl.on_next (s:Sl) {mm:Nat} (hm:mm<sizes s.L) (q:Nat):s.on (fun i=>decide (i<mm+1)) q=s.on (fun i=>decide (i<mm)) q+(if srcO s.L mm/s.pg=q then 1 else 0):=by
 have h:=Sl.on_but (s:=s) (U:=fun i=>decide (i<mm+1)) (i:=mm) (q:=q) hm (by simp)
 have e:s.on (but (fun i=>decide (i<mm+1)) mm) q=s.on (fun i=>decide (i<mm)) q:=Sl.on_congr fun j _=>by
  unfold but
  by_cases h1:j=mm
  ·subst h1;simp
  ·have e1:(j==mm)=false:=beq_eq_false_iff_ne.2 h1
   rw [e1,Bool.not_false,Bool.and_true]
   exact decide_eq_decide.2 (by omega)
 rw [e] at h
 exact h.symm
theorem len_sizes {n:Nat} {L:List Ob} (hg:Good n L):L.length<=sizes L:=by
 have:∀ l:List Ob,(∀ o∈l,1<=o.2)->l.length<=sizes l:=fun l=>by
  induction l with
  | nil=>intro _;exact Nat.le_refl _
  | cons o r ih=>
   intro h
   have h1:=ih (fun x hx=>h x (List.mem_cons_of_mem _ hx))
   have h2:=h o (List.mem_cons_self ..)
   simp only [List.length_cons,sizes];omega
 exact this L (fun o ho=>(hg.sz o ho).1)
structure OpA (W5 A:World) (b64 b65:Nat) (v:Vm) (s:Sl) (j mm:Nat):Prop where
 t:Touch (fun i=>(i=b64\/i=b65)\/W5.heap.size<=i) W5 A
 sh:∃ n f,MapI Tryz.prog 3 A b65 n f/\n<=j/\∀ i (h:i<s.L.length),i<j->f (s.L[i].1:Nat)=some (hdrV (v.rdH (s.L[i].1:Nat)))
 wd:∃ n f,MapI Tryz.prog 3 A b64 n f/\n<=mm/\∀ q:Nat,(f (q:Nat)).getD (.int .i64 0)=.int .i64 (s.on (fun i=>decide (i<mm)) q:Nat)
theorem OpA.win {W5 A B:World} {b64 b65:Nat} {v:Vm} {s:Sl} {j mm K:Nat} (h:OpA W5 A b64 b65 v s j mm) (h4:b64<W5.heap.size) (h5:b65<W5.heap.size) (t:Touch (fun k=>W5.heap.size<=k/\k<K) A B):OpA W5 B b64 b65 v s j mm:=by
 obtain ⟨n1,f1,a1,a2,a3⟩:=h.sh
 obtain ⟨n2,f2,c1,c2,c3⟩:=h.wd
 exact ⟨h.t.trans (t.mono (fun i _ h=>.inr h.1)),⟨n1,f1,a1.touch t (fun h=>by omega),a2,a3⟩,⟨n2,f2,c1.touch t (fun h=>by omega),c2,c3⟩⟩
theorem OpA.zero {W5:World} {b64 b65:Nat} {v:Vm} {s:Sl} (h4:MapI Tryz.prog 3 W5 b64 0 (fun _=>none)) (h5:MapI Tryz.prog 3 W5 b65 0 (fun _=>none)):OpA W5 W5 b64 b65 v s 0 0:=
 ⟨Touch.refl _ _,⟨0,_,h5,Nat.le_refl _,fun i _ h=>absurd h (Nat.not_lt_zero _)⟩,⟨0,_,h4,Nat.le_refl _,fun q=>by
  have:s.on (fun i=>decide (i<0)) q=0:=Sl.on_iff.2 (fun j _ h=>by simp at h)
  rw [this];rfl⟩⟩
theorem OpA.hdr {W5 A B:World} {b64 b65 n:Nat} {v:Vm} {s:Sl} {j mm:Nat} {f:Int->Option Value} (h:OpA W5 A b64 b65 v s j mm) (hj:j<s.L.length) (hne:b64≠b65) (hn:n<=j) (hf:∀ i (h:i<s.L.length),i<j->f (s.L[i].1:Nat)=some (hdrV (v.rdH (s.L[i].1:Nat)))) (hg:Good s.n s.L)
  (hm:MapI Tryz.prog 3 B b65 (n+1) (fun y=>if y=((s.L[j].1:Nat):Int) then some (hdrV (v.rdH (s.L[j].1:Nat))) else f y)) (t:Touch (fun i=>i=b65) A B):OpA W5 B b64 b65 v s (j+1) mm:=by
 obtain ⟨n2,f2,c1,c2,c3⟩:=h.wd
 refine ⟨h.t.trans (t.mono (fun i _ h=>.inl (.inr h))),⟨n+1,_,hm,by omega,fun i hi hij=>?_⟩,⟨n2,f2,c1.touch t hne,c2,c3⟩⟩
 by_cases e:i=j
 ·subst e
  exact if_pos rfl
 ·have h1:=hg.at hi hj (by omega)
  have h2:=(hg.sz _ (List.getElem_mem hi)).1
  rw [if_neg (by omega)]
  exact hf i hi (by omega)
theorem OpA.word {W5 A B:World} {b64 b65 n x:Nat} {v:Vm} {s:Sl} {j mm:Nat} {f:Int->Option Value} (h:OpA W5 A b64 b65 v s j mm) (hm:mm<sizes s.L) (hne:b64≠b65) (hn:n<=mm) (hf:∀ q:Nat,(f (q:Nat)).getD (.int .i64 0)=.int .i64 (s.on (fun i=>decide (i<mm)) q:Nat))
  (hx:x=s.on (fun i=>decide (i<mm)) (srcO s.L mm/s.pg)+1) (hM:MapI Tryz.prog 3 B b64 (n+1) (fun y=>if y=((srcO s.L mm/s.pg:Nat):Int) then some (.int .i64 x) else f y)) (t:Touch (fun i=>i=b64) A B):OpA W5 B b64 b65 v s j (mm+1):=by
 obtain ⟨n1,f1,a1,a2,a3⟩:=h.sh
 refine ⟨h.t.trans (t.mono (fun i _ h=>.inl (.inl h))),⟨n1,f1,a1.touch t (fun e=>hne e.symm),a2,a3⟩,⟨n+1,_,hM,by omega,fun q=>?_⟩⟩
 rw [s.on_next hm q]
 by_cases e:srcO s.L mm/s.pg=q
 ·subst e
  rw [if_pos rfl,if_pos rfl,hx];rfl
 ·rw [if_neg e,if_neg (by omega),hf q];rfl
theorem sl_cyc0 {w2 w3 W5 W7:World} {q m p1 b1 p2 b2 p y b61 b64 b65 nb lo:Nat} {v:Vm} {c:Cf} {L:List Ob} {T:Nat->Prop}
  (hE2:Ext w2 m p1 b1 p2 b2 v.n L) (hg:Gr w2 w3) (hP:Pln w3 w2.heap.size p v.n c.bk c.to L) (hlo:lo<=w2.heap.size/\lo<=m/\lo<=p1/\lo<=b1/\lo<=p2/\lo<=b2)
  (t3:Touch (fun i=>w3.heap.size<=i) w3 W5) (hge:w3.heap.size<=y/\w3.heap.size<=b61/\w3.heap.size<=b64/\w3.heap.size<=b65) (hnb:nb=nbl (sizes L) c.bk)
  (hY:Rec W5 y 225 [.pointer (some ⟨q,0,none⟩),.int .i64 c.fr,.int .i64 c.tp,.int .i64 c.to,.int .i64 c.lm,.int .i64 c.bk,.int .i64 c.st,.int .i64 c.ah,.pointer (some ⟨p,0,none⟩),.pointer (some ⟨m,0,none⟩),.slice (some ⟨b61,0,none⟩) nb nb,.int .i64 nb,.int .i64 0,.int .i64 0,.map (some b64),.map (some b65)])
  (hO:W5.ownsRow 0 4 1 (.slice (some ⟨b61,0,none⟩) nb nb) nb (List.replicate nb (.bool false))) (h4:MapI Tryz.prog 3 W5 b64 0 (fun _=>none)) (h5:MapI Tryz.prog 3 W5 b65 0 (fun _=>none)) (hne:b64≠b65)
  (hA:OpA W5 W7 b64 b65 v (slNew v c L) L.length (sizes L)) (hT:∀ i,i<W5.heap.size->i≠b64->i≠b65->¬ T i) (t7:Touch T W5 W7):
  Cyc W7 (fun b=>lo<=b/\b<W5.heap.size) y q ⟨w2.heap.size,w3.heap.size,p,m,p1,b1,p2,b2,b65,b61,nb,b64⟩ (slNew v c L):=by
 obtain ⟨l1,l2,l3,l4,l5,l6⟩:=hlo
 obtain ⟨g1,g2,g3,g4⟩:=hge
 have s23:=hg.size
 have s35:=t3.size
 have s57:=t7.size
 have hm:=hE2.hm
 have hp1:=hE2.v1.hp
 have hb1:=hE2.v1.hb
 have hp2:=hE2.v2.hp
 have hb2:=hE2.v2.hb
 have hyl:=hY.lt
 have h61l:=(own_lt hO rfl).2
 have h64l:=h4.lt
 have h65l:=h5.lt
 have n1:b61≠y:=own_ne hO hY (by decide) rfl rfl
 have n2:=h4.ne (rec_cells hY)
 have n3:=h5.ne (rec_cells hY)
 obtain ⟨cur,hcur⟩:=own_type hO rfl
 have n4:=h4.ne (q:=b61) ⟨cur,_,hcur⟩
 have n5:=h5.ne (q:=b61) ⟨cur,_,hcur⟩
 have g35:Gr w3 W5:=(t3.mono (T:=fun _=>False) (fun i hi h=>absurd hi (Nat.not_lt_of_le h))).gr
 obtain ⟨nh,fh,a1,a2,a3⟩:=hA.sh
 obtain ⟨nw,fw,d1,d2,d3⟩:=hA.wd
 refine ⟨⟨hm,hp1,hb1,hp2,hb2,s23,by show w3.heap.size<=_;omega,g1,g2,g3,g4,n1.symm,n2.symm,n3.symm,n4.symm,n5.symm,hne,⟨by omega,hyl⟩,⟨by show lo<=b61;omega,h61l⟩,⟨by show lo<=b64;omega,h64l⟩,⟨by show lo<=b65;omega,h65l⟩,⟨l2,by show m<_;omega⟩,⟨l3,by show p1<_;omega⟩,⟨l4,by show b1<_;omega⟩,⟨l5,by show p2<_;omega⟩,⟨l6,by show b2<_;omega⟩,fun k h1 h2=>⟨by have:w2.heap.size<=k:=h1;omega,by have:k<w3.heap.size:=h2;omega⟩,fun k hk=>by omega⟩,?_,fun W tW=>hP.touch ((t3.mono (fun i _ h=>.inr h)).trans ((t7.mono (fun i hi h=>?_)).trans tW)) (fun k h1 h2 h=>by rcases h with h | h;(have:k<w2.heap.size:=h;omega);(have:w3.heap.size<=k:=h;omega)),?_,⟨nh,fh,a1,fun j hj=>a3 j hj hj⟩,⟨nw,fw,d1,?_,fun qq=>?_⟩,?_⟩
 ·have h:=hY.touch t7 (hT _ hyl n2.symm n3.symm)
  show Rec W7 y _ (cycL q c _ (slNew v c L).mv.length (slNew v c L).lf (slNew v c L).ft ((slNew v c L).mvd-(slNew v c L).ft))
  rw [slNew_lf,slNew_ft,slNew_mvd]
  have hl:(slNew v c L).mv.length=nb:=by rw [hnb];exact List.length_replicate
  rw [hl,<-hnb]
  exact h
 ·right
  show w3.heap.size<=i
  refine Nat.le_of_not_lt fun h'=>?_
  exact hT i (by omega) (by omega) (by omega) h
 ·exact (((hE2.gr hg).gr g35).touch t7 (hT _ (by omega) (by omega) (by omega)) (hT _ (by omega) (by omega) (by omega)) (hT _ (by omega) (by omega) (by omega)) (hT _ (by omega) (by omega) (by omega)) (hT _ (by omega) (by omega) (by omega)))
 ·have h1:cnt (fun i=>!(slNew v c L).is i) (sizes (slNew v c L).L)<=sizes (slNew v c L).L:=cnt_le _ _
  have h2:nw<=sizes (slNew v c L).L:=d2
  omega
 ·rw [d3 qq]
  have:(slNew v c L).on (fun i=>decide (i<sizes L)) qq=(slNew v c L).on (fun i=>!(slNew v c L).is i) qq:=Sl.on_congr fun i hi=>by
   have hi':i<sizes L:=hi
   rw [slNew_is,decide_eq_true hi'];rfl
  rw [this]
 ·have h:=own_touch hO t7 (fun g hg=>by cases hg;exact hT _ h61l n4.symm n5.symm)
  have hl:(slNew v c L).mv.length=nb:=by rw [hnb];exact List.length_replicate
  have hb:bls (slNew v c L).mv=List.replicate nb (.bool false):=by
   show (List.replicate (nbl (sizes L) c.bk) false).map Value.bool=_
   rw [List.map_replicate,hnb]
  rw [hl,hb]
  exact h
structure UmO (w8 wx:World) (S5:Nat->Prop) (q:Nat) (s:Sl) (v:Vm) (q0 j pg tp:Nat):Prop where
 t:Touch S5 w8 wx
 vm:∃ Sj v',(∀ b,Sj b->plus S5 w8 b)/\VmAt wx Sj q v'/\OpUm s v v' q0 j
 q1:∀ i,i<j->(q0+i)*pg<tp
section
variable {w:World} {S:Nat->Prop} {q r g:Nat} {v:Vm} {rs:List Int} {c:Cf}
set_option maxRecDepth 100000 in
set_option maxHeartbeats 12800000 in
theorem sl_open (hV:VmAt w S q v) (hR:RtAt w r g rs) (hT:TabAt w) (htS:¬ S 1) (hrS:¬ S r) (hgS:¬ S g) (hcf:CfOk v.pl.pg v.n c) (htr:1≠g):
  Calls Tryz.prog 151 #[.pointer (some ⟨q,0,none⟩),.pointer (some ⟨r,0,none⟩),cfV c] w (OpenEnd w S q r g v rs c):=by
 have HV:=hid hV.cut
 have HR:=hid hR
 have HT:=hid hT
 have HNO:=hid (And.intro htS (And.intro hrS (And.intro hgS htr)))
 have htl:=hT.lt
 have hrl:=hR.lt
 have hn2:=hV.ok.n2
 have hpg:=hV.ok.page
 have HOK:=hid hV.ok
 have HCF:=hid hcf
 have hn1:1<=v.n:=by have:=hcf.fr;have:=hcf.tp;have:=hcf.tn;omega
 have hne:rs.length≠0:=fun e=>hR.ne (List.eq_nil_of_length_eq_zero e)
 have hle:=hR.le
 have hcb:c.lm<=v.n/\c.to<=c.lm/\c.fr<=c.tp/\c.tp<=v.n:=⟨hcf.ln,hcf.lm,hcf.tp,hcf.tn⟩
 have HLEN:=hid (fun (W:World) (gW:Gr w W)=>rt_len (hR.gr gW))
 have HCK:=hid (fun (W:World) (gW:Gr w W)=>slide_check (hV.gr gW) hcf)
 have HRC:=hid (fun (W:World) (gW:Gr w W)=>sl_reached (c:=c) (hV.cut.gr gW) hn1 (hR.gr gW) (gW.tab htl hT) (fun h=>htS h.1) hcf.st)
 unfold cfV at HCK HRC ⊢
 obtain ⟨n,hnq⟩:∃ n,n=rs.length:=⟨_,rfl⟩
 have HN:=hid hnq
 rw [<-hnq] at hne hle HLEN
 have d0:((n:Int)==0)=false:=by simp;omega
 have HG1:=hid (((Gr.refl w).alloc (.cells #[.pointer (some ⟨q,0,none⟩)] 107)).alloc (.cells #[.int .i64 c.fr,.int .i64 c.tp,.int .i64 c.to,.int .i64 c.lm,.int .i64 c.bk,.int .i64 c.st,.int .i64 c.ah] 106))
 have rb3:=(Rec.new w 107 [.pointer (some ⟨q,0,none⟩)]).gr ((Gr.refl _).alloc (.cells #[.int .i64 c.fr,.int .i64 c.tp,.int .i64 c.to,.int .i64 c.lm,.int .i64 c.bk,.int .i64 c.st,.int .i64 c.ah] 106))
 have rb5:=new2 w (.cells #[.pointer (some ⟨q,0,none⟩)] 107) 106 [.int .i64 c.fr,.int .i64 c.tp,.int .i64 c.to,.int .i64 c.lm,.int .i64 c.bk,.int .i64 c.st,.int .i64 c.ah]
 obtain ⟨W0,hW0⟩:∃ W0,W0=(w.alloc (.cells #[.pointer (some ⟨q,0,none⟩)] 107)).alloc (.cells #[.int .i64 c.fr,.int .i64 c.tp,.int .i64 c.to,.int .i64 c.lm,.int .i64 c.bk,.int .i64 c.st,.int .i64 c.ah] 106):=⟨_,rfl⟩
 have hsz0:W0.heap.size=w.heap.size+2:=by rw [hW0];simp only [World.size_alloc]
 have HB3:Hid (Rec W0 w.heap.size 107 [.pointer (some ⟨q,0,none⟩)]):=⟨by rw [hW0];exact rb3⟩
 have HB5:Hid (Rec W0 (w.heap.size+1) 106 [.int .i64 c.fr,.int .i64 c.tp,.int .i64 c.to,.int .i64 c.lm,.int .i64 c.bk,.int .i64 c.st,.int .i64 c.ah]):=⟨by rw [hW0];exact rb5⟩
 have HG0:Hid (Gr w W0):=⟨by rw [hW0];exact HG1.out⟩
 have HS0:=hid hsz0
 clear hV hR hT htS hrS hgS htr hcf hnq rb3 rb5 HG1 hsz0
 refine (callsIn_wide (n:=5)).1 ?_
 refine callsIn_of_wp_marks Tryz.func151 rfl trivial ?_ rfl
 simp only [Tryz.ntmps151,List.size_toArray,List.length_cons,List.length_nil,Nat.reduceAdd,Nat.reduceSub,Array.replicate_succ,Array.replicate_zero,List.push_toArray,List.append_toArray,List.nil_append,List.cons_append]
 gi_upto_region 1 with (fail)
 rw [<-hW0]
 clear hW0
 have z3:=HB3.out.cell (j:=0) rfl
 have z50:=HB5.out.cell (j:=0) rfl
 have z51:=HB5.out.cell (j:=1) rfl
 have z52:=HB5.out.cell (j:=2) rfl
 have z53:=HB5.out.cell (j:=3) rfl
 have z54:=HB5.out.cell (j:=4) rfl
 have z55:=HB5.out.cell (j:=5) rfl
 have z56:=HB5.out.cell (j:=6) rfl
 have zl3:=HB3.out.lt
 have zl5:=HB5.out.lt
 gi_upto_region 6 with (first
  | (refine ⟨trivial,?_⟩;gi_at_call 149;refine (callsIn_wide.2 (HLEN.out _ HG0.out)).mono ?_;rintro e w1 ⟨rfl,rfl⟩)
  | (refine ⟨trivial,?_⟩;gi_at_call 249;refine (callsIn_wide.2 (HCK.out _ HG0.out)).mono ?_;rintro e w1 ⟨rfl,hg1⟩;have HG01:=hid (HG0.out.trans hg1);have HB31:=hid (HB3.out.gr hg1);have HB51:=hid (HB5.out.gr hg1);clear hg1))
 clear z3 z50 z51 z52 z53 z54 z55 z56 zl3 zl5
 have z3:=HB31.out.cell (j:=0) rfl
 have z50:=HB51.out.cell (j:=0) rfl
 have z51:=HB51.out.cell (j:=1) rfl
 have z52:=HB51.out.cell (j:=2) rfl
 have z53:=HB51.out.cell (j:=3) rfl
 have z54:=HB51.out.cell (j:=4) rfl
 have z55:=HB51.out.cell (j:=5) rfl
 have z56:=HB51.out.cell (j:=6) rfl
 have zl3:=HB31.out.lt
 have zl5:=HB51.out.lt
 have hz1:=HG01.out.size
 gi_upto_region 7 with (refine ⟨trivial,?_⟩;gi_at_call 250;refine (callsIn_wide.2 (HRC.out _ HG01.out)).mono ?_;rintro e w2 ⟨ht2,hv2,(⟨L,m,p1,b1,p2,b2,hI,rfl,hE,hm1,hm2,hm3,hm4,hm5⟩ | ⟨hno,rfl⟩)⟩ <;> (have HT2:=hid ht2;have HV2:=hid hv2;clear ht2 hv2))
 ·clear z3 z50 z51 z52 z53 z54 z55 z56 zl3 zl5
  have HI:=hid hI
  have HX:=hid hE
  have HMX:=hid (And.intro hm1 (And.intro hm2 (And.intro hm3 (And.intro hm4 hm5))))
  clear hI hE hm1 hm2 hm3 hm4 hm5
  have HB32:=hid (HB31.out.touch HT2.out (fun h=>by have:=h.2;omega))
  have HB52:=hid (HB51.out.touch HT2.out (fun h=>by have:=h.2;omega))
  have HTB2:Hid (TabAt w2):=⟨(HG01.out.tab htl HT.out).touch' HT2.out (fun h=>HNO.out.1 h.1)⟩
  have HPN:=hid (sl_plan HX.out HTB2.out HCF.out.bk (base:=c.to) (by omega))
  have z3:=HB32.out.cell (j:=0) rfl
  have z52:=HB52.out.cell (j:=2) rfl
  have z54:=HB52.out.cell (j:=4) rfl
  have zl5:=HB52.out.lt
  have hz2:=HT2.out.size
  gi_upto_region 10 with (refine ⟨trivial,?_⟩;gi_at_call 251;refine (callsIn_wide.2 (HPN.out)).mono ?_;rintro e w3 ⟨p,rfl,hg3,hP⟩;have HG3:=hid hg3;have HPL:=hid hP;clear hg3 hP)
  clear z3 z52 z54 zl5
  have HB33:=hid (HB32.out.gr HG3.out)
  have HB53:=hid (HB52.out.gr HG3.out)
  obtain ⟨hp1,hp2,hp3,f,c0,c1,hF⟩:=HPL.out
  have HFW:=hid (fun (W:World) (gW:Gr w3 W)=>pln_forward ((gW.cell hp1 0).trans c0))
  have HWS:=hid (fun (W:World) (gW:Gr w3 W)=>fwd_words (hF.gr gW))
  obtain ⟨N,hN⟩:∃ N,N=sizes L:=⟨_,rfl⟩
  have HSN:=hid hN
  have hNb:N<=1048576:=by rw [hN];have:=sizes_le HX.out.good;omega
  rw [<-hN] at HWS
  have x3:=HB53.out.cell (j:=3) rfl
  have x2:=HB53.out.cell (j:=2) rfl
  have xl:=HB53.out.lt
  have hpl:=hp1
  clear hp1 hp2 hp3 c0 c1 hF hN
  by_cases hbig:c.lm-c.to<N
  ·have d9:decide ((c.lm:Int)-(c.to:Int)<(N:Int))=true:=decide_eq_true (by omega)
   have HBIG:=hid hbig
   clear hbig
   obtain ⟨Sx,hSx⟩:∃ Sx:World->Prop,Sx=fun W'=>W'.cell? ⟨w.heap.size+1,3,none⟩=some (.int .i64 c.lm)/\W'.cell? ⟨w.heap.size+1,2,none⟩=some (.int .i64 c.to):=⟨_,rfl⟩
   have y1:∀ p:Held Sx,p.w.cell? ⟨w.heap.size+1,3,none⟩=some (.int .i64 c.lm):=fun p=>by have h:=Held.get hSx p;exact h.1
   have y2:∀ p:Held Sx,p.w.cell? ⟨w.heap.size+1,2,none⟩=some (.int .i64 c.to):=fun p=>by have h:=Held.get hSx p;exact h.2
   have HS:Hid (∀ W',W'.cell? ⟨w.heap.size+1,3,none⟩=some (.int .i64 c.lm)/\W'.cell? ⟨w.heap.size+1,2,none⟩=some (.int .i64 c.to)->Sx W'):=⟨fun W' h=>by rw [hSx];exact h⟩
   have hS0:=HS.out (w3.drew) (⟨x3,x2⟩)
   have inst:Inhabited (Held Sx):=⟨⟨_,hS0⟩⟩
   clear hSx
   refine wpIn_region_mixS Sx 9 [([0,3,4,5,6,7],1),([],2)] [8] wide_fn (by kernel_rfl) (by kernel_rfl) hS0 ?_
   refine segsIn_step ?_
   try simp only [opsAt,List.getElem?_cons_zero,List.getElem?_cons_succ]
   repeat (go_big_quiet_step (fail))
   refine wpQuiet_nil ?_
   gi_wp2_with ((refine ⟨trivial,?_⟩;gi_at_call 157;refine (callsIn_wide.2 (HFW.out _ (Gr.refl w3).drew)).mono ?_;rintro e w4 ⟨rfl,rfl⟩))
   refine ⟨.inr (Held.of (HS.out _ (⟨x3,x2⟩))),?_⟩
   refine segsIn_step ?_
   try simp only [opsAt,List.getElem?_cons_zero,List.getElem?_cons_succ]
   repeat (go_big_quiet_step (fail))
   refine wpQuiet_nil ?_
   gi_wp2_with ((refine ⟨trivial,?_⟩;gi_at_call 252;refine (callsIn_wide.2 (HWS.out _ (Gr.refl w3).drew)).mono ?_;rintro e w4 ⟨rfl,rfl⟩))
   refine ⟨.inr (Held.of (HS.out _ (⟨x3,x2⟩))),?_⟩
   refine segsIn_end ?_
   try simp only [opsAt,List.getElem?_cons_zero,List.getElem?_cons_succ]
   repeat (go_big_quiet_step (fail))
   refine wpQuiet_nil ?_
   refine NoPanic.normal ?_
   clear y1 y2 hS0 inst
   clear HS Sx
   clear x3 x2 xl
   gi_wp2
   have hr3:=((HR.out.gr HG01.out).touch HT2.out (fun h=>HNO.out.2.1 h.1) (fun h=>HNO.out.2.2.1 h.1)).gr HG3.out
   refine ⟨.tuple #[.pointer none,.int .i64 21],?_,?_,.inr ⟨L,HI.out,.inl ⟨by rw [<-HSN.out];exact HBIG.out,rfl,((HV2.out.gr HG3.out).gr (Gr.refl w3).drew).mono (fun b hb=>hb.1.1),hr3.gr (Gr.refl w3).drew⟩⟩⟩
   ·simp [results,Tryz.f151,go_sem]
   ·have a1:Touch (fun b=>b=g\/S b) w w1:=HG01.out.touch _
    have a2:=a1.trans (HT2.out.mono (fun i _ h=>.inr h.1))
    exact a2.trans ((HG3.out.trans (Gr.refl w3).drew).touch _)
  ·have d9:decide ((c.lm:Int)-(c.to:Int)<(N:Int))=false:=decide_eq_false (by omega)
   have HBIG:=hid hbig
   clear hbig
   obtain ⟨Sx,hSx⟩:∃ Sx:World->Prop,Sx=fun W'=>W'.cell? ⟨w.heap.size+1,3,none⟩=some (.int .i64 c.lm)/\W'.cell? ⟨w.heap.size+1,2,none⟩=some (.int .i64 c.to):=⟨_,rfl⟩
   have y1:∀ p:Held Sx,p.w.cell? ⟨w.heap.size+1,3,none⟩=some (.int .i64 c.lm):=fun p=>by have h:=Held.get hSx p;exact h.1
   have y2:∀ p:Held Sx,p.w.cell? ⟨w.heap.size+1,2,none⟩=some (.int .i64 c.to):=fun p=>by have h:=Held.get hSx p;exact h.2
   have HS:Hid (∀ W',W'.cell? ⟨w.heap.size+1,3,none⟩=some (.int .i64 c.lm)/\W'.cell? ⟨w.heap.size+1,2,none⟩=some (.int .i64 c.to)->Sx W'):=⟨fun W' h=>by rw [hSx];exact h⟩
   have hS0:=HS.out (w3.drew) (⟨x3,x2⟩)
   have inst:Inhabited (Held Sx):=⟨⟨_,hS0⟩⟩
   clear hSx
   refine wpIn_region_mixS Sx 9 [([0,3,4,5,6,7],1),([],2)] [8] wide_fn (by kernel_rfl) (by kernel_rfl) hS0 ?_
   refine segsIn_step ?_
   try simp only [opsAt,List.getElem?_cons_zero,List.getElem?_cons_succ]
   repeat (go_big_quiet_step (fail))
   refine wpQuiet_nil ?_
   gi_wp2_with ((refine ⟨trivial,?_⟩;gi_at_call 157;refine (callsIn_wide.2 (HFW.out _ (Gr.refl w3).drew)).mono ?_;rintro e w4 ⟨rfl,rfl⟩))
   refine ⟨.inr (Held.of (HS.out _ (⟨x3,x2⟩))),?_⟩
   refine segsIn_step ?_
   try simp only [opsAt,List.getElem?_cons_zero,List.getElem?_cons_succ]
   repeat (go_big_quiet_step (fail))
   refine wpQuiet_nil ?_
   gi_wp2_with ((refine ⟨trivial,?_⟩;gi_at_call 252;refine (callsIn_wide.2 (HWS.out _ (Gr.refl w3).drew)).mono ?_;rintro e w4 ⟨rfl,rfl⟩))
   refine ⟨.inr (Held.of (HS.out _ (⟨x3,x2⟩))),?_⟩
   refine segsIn_end ?_
   try simp only [opsAt,List.getElem?_cons_zero,List.getElem?_cons_succ]
   repeat (go_big_quiet_step (fail))
   refine wpQuiet_nil ?_
   refine NoPanic.normal ?_
   clear y1 y2 hS0 inst
   clear HS Sx
   clear x3 x2 xl
   gi_upto_region 12 with (fail)
   obtain ⟨nb,hnb⟩:∃ nb,nb=nbl (sizes L) c.bk:=⟨_,rfl⟩
   have HNB:=hid hnb
   have hnbb:nb<=1048576:=by
    have:=HCF.out.bk
    have h1:=blockOk_pos this
    have h2:=nbl_le (n:=sizes L) (B:=c.bk) (by omega)
    have h3:=HSN.out
    omega
   have HBKS:=hid (fun (W:World) (gW:Gr w3 W)=>pln_blocks (HPL.out.gr gW))
   rw [<-hnb] at HBKS
   clear hnb
   have HTW:Hid (∀ (W:World),Touch (fun i=>w3.drew.heap.size<=i) w3.drew W->Gr w3 W):=⟨fun W t=>(Gr.refl w3).drew.trans (t.mono (T:=fun _=>False) (fun i hi h=>absurd hi (Nat.not_lt_of_le h))).gr⟩
   have x3:=HB33.out.cell (j:=0) rfl
   have x50:=HB53.out.cell (j:=0) rfl
   have x51:=HB53.out.cell (j:=1) rfl
   have x52:=HB53.out.cell (j:=2) rfl
   have x53:=HB53.out.cell (j:=3) rfl
   have x54:=HB53.out.cell (j:=4) rfl
   have x55:=HB53.out.cell (j:=5) rfl
   have x56:=HB53.out.cell (j:=6) rfl
   obtain ⟨Sx,hSx⟩:∃ Sx:World->Prop,Sx=fun W'=>(W'.cell? ⟨w.heap.size,0,none⟩=some (.pointer (some ⟨q,0,none⟩))/\W'.cell? ⟨w.heap.size+1,0,none⟩=some (.int .i64 c.fr))/\(W'.cell? ⟨w.heap.size+1,1,none⟩=some (.int .i64 c.tp)/\W'.cell? ⟨w.heap.size+1,2,none⟩=some (.int .i64 c.to))/\(W'.cell? ⟨w.heap.size+1,3,none⟩=some (.int .i64 c.lm)/\W'.cell? ⟨w.heap.size+1,4,none⟩=some (.int .i64 c.bk))/\W'.cell? ⟨w.heap.size+1,5,none⟩=some (.int .i64 c.st)/\W'.cell? ⟨w.heap.size+1,6,none⟩=some (.int .i64 c.ah):=⟨_,rfl⟩
   have y3:∀ p':Held Sx,p'.w.cell? ⟨w.heap.size,0,none⟩=some (.pointer (some ⟨q,0,none⟩)):=fun p=>(Held.get hSx p).1.1
   have y50:∀ p':Held Sx,p'.w.cell? ⟨w.heap.size+1,0,none⟩=some (.int .i64 c.fr):=fun p=>(Held.get hSx p).1.2
   have y51:∀ p':Held Sx,p'.w.cell? ⟨w.heap.size+1,1,none⟩=some (.int .i64 c.tp):=fun p=>(Held.get hSx p).2.1.1
   have y52:∀ p':Held Sx,p'.w.cell? ⟨w.heap.size+1,2,none⟩=some (.int .i64 c.to):=fun p=>(Held.get hSx p).2.1.2
   have y53:∀ p':Held Sx,p'.w.cell? ⟨w.heap.size+1,3,none⟩=some (.int .i64 c.lm):=fun p=>(Held.get hSx p).2.2.1.1
   have y54:∀ p':Held Sx,p'.w.cell? ⟨w.heap.size+1,4,none⟩=some (.int .i64 c.bk):=fun p=>(Held.get hSx p).2.2.1.2
   have y55:∀ p':Held Sx,p'.w.cell? ⟨w.heap.size+1,5,none⟩=some (.int .i64 c.st):=fun p=>(Held.get hSx p).2.2.2.1
   have y56:∀ p':Held Sx,p'.w.cell? ⟨w.heap.size+1,6,none⟩=some (.int .i64 c.ah):=fun p=>(Held.get hSx p).2.2.2.2
   have HSX:=hid hSx
   have HKS:Hid (∀ W,Gr w3 W->∃ p:Held Sx,W=p.w):=⟨fun W gW=>by
    have l3:=HB33.out.lt
    have l5:=HB53.out.lt
    refine Held.of ?_
    rw [HSX.out]
    exact ⟨⟨(gW.cell l3 0).trans x3,(gW.cell l5 0).trans x50⟩,⟨(gW.cell l5 1).trans x51,(gW.cell l5 2).trans x52⟩,⟨(gW.cell l5 3).trans x53,(gW.cell l5 4).trans x54⟩,(gW.cell l5 5).trans x55,(gW.cell l5 6).trans x56⟩⟩
   have HKT:Hid (∀ W,Touch (fun i=>w3.heap.size<=i) w3 W->∃ p:Held Sx,W=p.w):=⟨fun W tW=>HKS.out W ((tW.mono (T:=fun _=>False) (fun i hi h=>absurd hi (Nat.not_lt_of_le h))).gr)⟩
   have HTX:Hid (∀ W,Touch (fun i=>w3.heap.size<=i) w3 W->Gr w3 W):=⟨fun W tW=>(tW.mono (T:=fun _=>False) (fun i hi h=>absurd hi (Nat.not_lt_of_le h))).gr⟩
   obtain ⟨i0,hi0,hz0,hz1,hz2'⟩:=info_parts infoBool
   have HB8:Hid (i0.bytes*nb<=281474976710656):=⟨by rw [hz2'];omega⟩
   have HML:Hid (nb<=maxLen):=⟨by unfold maxLen;omega⟩
   have HNBB:Hid (nb*1<=16777216):=⟨by omega⟩
   have hS0:Sx w3.drew:=by obtain ⟨p,hp⟩:=HKS.out _ (Gr.refl w3).drew;rw [hp];exact p.h
   have inst:Inhabited (Held Sx):=⟨⟨_,hS0⟩⟩
   have hS1:Sx w3.drew.drew:=by obtain ⟨p,hp⟩:=HKS.out _ ((Gr.refl w3).drew.drew);rw [hp];exact p.h
   clear hSx x3 x50 x51 x52 x53 x54 x55 x56
   refine wpIn_region_freeA Sx [0,1,2,3,4,7] #[true,true,true,true,true,false,false,true,false,false,false,false,false,false,false] [(5,[]),(6,[5]),(8,[5]),(9,[]),(10,[]),(11,[6,8,9,10]),(12,[11]),(13,[]),(14,[12,13])] (OpI w3 q p m nb c) wide_fn (by kernel_rfl) (by kernel_rfl) hS1 ?_ ⟨?_,?_,?_,?_,?_,?_,?_,?_,?_,trivial⟩ ?_
   ·simp only [opsAt,List.getElem?_cons_zero,List.getElem?_cons_succ]
    repeat (go_big_quiet_step (fail))
    refine wpQuiet_nil ?_
    refine ⟨.pointer (some ⟨q,0,none⟩),.agg #[.int .i64 c.fr,.int .i64 c.tp,.int .i64 c.to,.int .i64 c.lm,.int .i64 c.bk,.int .i64 c.st,.int .i64 c.ah],.pointer (some ⟨p,0,none⟩),.pointer (some ⟨m,0,none⟩),.pointer (some ⟨p,0,none⟩),undef,undef,.pointer (some ⟨p,0,none⟩),undef,undef,undef,undef,undef,undef,by simp only [Act.put,List.setIfInBounds_toArray,List.set_cons_zero,List.set_cons_succ],?_⟩
    refine ⟨rfl,rfl,rfl,rfl,rfl,rfl,(fun h=>by cases h),(fun h=>by cases h),(fun h=>by cases h),(fun h=>by cases h),(fun h=>by cases h),(fun h=>by cases h),(fun h=>by cases h),(fun h=>by cases h),(fun h=>by cases h),(fun h=>by cases h),?_⟩
    exact ((Gr.refl w3).drew.drew).touch _
   ·rintro D a W ⟨v55,v56,v57,v58,v59,v60,v61,v62,v63,v64,v65,v66,v67,v13,rfl,hJ⟩ hSW hk hd
    clear hSW
    simp only [opsAt,List.getElem?_cons_zero,List.getElem?_cons_succ,Act.put,List.setIfInBounds_toArray,List.set_cons_zero,List.set_cons_succ]
    have HJ:=hid hJ
    have HK:=hid hk
    have HD:=hid hd
    have HGW:=hid (HTX.out W hJ.t)
    obtain rfl:=hJ.e59
    clear hJ hk hd
    gi_wp2_with (refine ⟨trivial,?_⟩;gi_at_call 253;refine (callsIn_wide.2 (HBKS.out W HGW.out)).mono ?_;rintro e w4 ⟨rfl,hg4⟩)
    refine ⟨HKT.out _ ?_,v55,v56,v57,v58,.pointer (some ⟨p,0,none⟩),.int .i64 nb,v61,v62,v63,v64,v65,v66,v67,v13,by simp only [Act.put,List.setIfInBounds_toArray,List.set_cons_zero,List.set_cons_succ],?_⟩
    ·exact HJ.out.t.trans (hg4.touch _)
    ·have hJ2:=HJ.out.gr hg4
     have hk:=HK.out
     have hd:=HD.out
     exact ⟨hJ2.e55,hJ2.e56,hJ2.e57,hJ2.e58,hJ2.e59,hJ2.e62,(fun _=>rfl),hJ2.e61,hJ2.e63,hJ2.e64,hJ2.e65,hJ2.ne,hJ2.e66,hJ2.e67,hJ2.e13,hJ2.d14,hJ2.t⟩
   ·rintro D a W ⟨v55,v56,v57,v58,v59,v60,v61,v62,v63,v64,v65,v66,v67,v13,rfl,hJ⟩ hSW hk hd
    clear hSW
    simp only [opsAt,List.getElem?_cons_zero,List.getElem?_cons_succ,Act.put,List.setIfInBounds_toArray,List.set_cons_zero,List.set_cons_succ]
    have HJ:=hid hJ
    have HK:=hid hk
    have HD:=hid hd
    have HGW:=hid (HTX.out W hJ.t)
    obtain rfl:=hJ.e60 (hd 5 (by simp))
    clear hJ hk hd
    gi_wp2_with (gi_at_make;refine wpListIn_make_full _ rfl _ _ 219 rfl 0 4 i0 (.bool false) 1 Tryz.underlying219 hi0 hz0 hz1 .i64 .i64 nb rfl rfl HNBB.out HB8.out HML.out (Nat.zero_le _) ?_;intro w4 hown hgrow)
    have hg4:Gr W w4:=(grownBy_touch hgrow (fun _=>False) (fun k e _=>by cases e)).gr
    rw [show (Value.bool false).cells=#[.bool false] from rfl,madeCells_one,Nat.mul_one] at hown
    have HOW:=hid hown
    clear hown hgrow
    gi_wp2
    refine ⟨HKT.out _ ?_,v55,v56,v57,v58,v59,.int .i64 nb,.slice (some ⟨W.heap.size,0,none⟩) nb nb,v62,v63,v64,v65,v66,v67,v13,by simp only [Act.put,List.setIfInBounds_toArray,List.set_cons_zero,List.set_cons_succ],?_⟩
    ·exact HJ.out.t.trans (hg4.touch _)
    ·have hJ2:=HJ.out.gr hg4
     have hk:=HK.out
     have hd:=HD.out
     exact ⟨hJ2.e55,hJ2.e56,hJ2.e57,hJ2.e58,hJ2.e59,hJ2.e62,hJ2.e60,(fun _=>⟨W.heap.size,rfl,HOW.out,HGW.out.size⟩),hJ2.e63,hJ2.e64,hJ2.e65,hJ2.ne,(fun d=>by have h:=(HJ.out.e66 d).1;rw [hk] at h;cases h),(fun d=>by have h:=(HJ.out.e66 (HJ.out.e67 d).1).1;rw [hk] at h;cases h),hJ2.e13,hJ2.d14,hJ2.t⟩
   ·rintro D a W ⟨v55,v56,v57,v58,v59,v60,v61,v62,v63,v64,v65,v66,v67,v13,rfl,hJ⟩ hSW hk hd
    clear hSW
    simp only [opsAt,List.getElem?_cons_zero,List.getElem?_cons_succ,Act.put,List.setIfInBounds_toArray,List.set_cons_zero,List.set_cons_succ]
    have HJ:=hid hJ
    have HK:=hid hk
    have HD:=hid hd
    have HGW:=hid (HTX.out W hJ.t)
    obtain rfl:=hJ.e62
    clear hJ hk hd
    gi_wp2_with (refine ⟨trivial,?_⟩;gi_at_call 253;refine (callsIn_wide.2 (HBKS.out W HGW.out)).mono ?_;rintro e w4 ⟨rfl,hg4⟩)
    refine ⟨HKT.out _ ?_,v55,v56,v57,v58,v59,v60,v61,.pointer (some ⟨p,0,none⟩),.int .i64 nb,v64,v65,v66,v67,v13,by simp only [Act.put,List.setIfInBounds_toArray,List.set_cons_zero,List.set_cons_succ],?_⟩
    ·exact HJ.out.t.trans (hg4.touch _)
    ·have hJ2:=HJ.out.gr hg4
     have hk:=HK.out
     have hd:=HD.out
     exact ⟨hJ2.e55,hJ2.e56,hJ2.e57,hJ2.e58,hJ2.e59,hJ2.e62,hJ2.e60,hJ2.e61,(fun _=>rfl),hJ2.e64,hJ2.e65,hJ2.ne,(fun d=>by have h:=(HJ.out.e66 d).2.1;rw [hk] at h;cases h),(fun d=>by have h:=(HJ.out.e66 (HJ.out.e67 d).1).2.1;rw [hk] at h;cases h),hJ2.e13,hJ2.d14,hJ2.t⟩
   ·rintro D a W ⟨v55,v56,v57,v58,v59,v60,v61,v62,v63,v64,v65,v66,v67,v13,rfl,hJ⟩ hSW hk hd
    clear hSW
    simp only [opsAt,List.getElem?_cons_zero,List.getElem?_cons_succ,Act.put,List.setIfInBounds_toArray,List.set_cons_zero,List.set_cons_succ]
    have HJ:=hid hJ
    have HK:=hid hk
    have HD:=hid hd
    have HGW:=hid (HTX.out W hJ.t)
    clear hJ hk hd
    refine wpListIn_makeMap W rfl _ rfl ?_
    gi_wp2
    have hg4:Gr W (W.alloc (.map #[] 0)):=(Gr.refl W).alloc _
    refine ⟨HKT.out _ ?_,v55,v56,v57,v58,v59,v60,v61,v62,v63,.map (some W.heap.size),v65,v66,v67,v13,by simp only [Act.put,List.setIfInBounds_toArray,List.set_cons_zero,List.set_cons_succ],?_⟩
    ·exact HJ.out.t.trans (hg4.touch _)
    ·have hJ2:=HJ.out.gr hg4
     have hk:=HK.out
     have hd:=HD.out
     exact ⟨hJ2.e55,hJ2.e56,hJ2.e57,hJ2.e58,hJ2.e59,hJ2.e62,hJ2.e60,hJ2.e61,hJ2.e63,(fun _=>⟨W.heap.size,rfl,MapI.made W,HGW.out.size⟩),hJ2.e65,(fun _ d e=>by obtain ⟨b,h1,h2,-⟩:=HJ.out.e65 d;rw [h1] at e;have:=h2.lt;simp only [Value.map.injEq,Option.some.injEq] at e;omega),(fun d=>by have h:=(HJ.out.e66 d).2.2.1;rw [hk] at h;cases h),(fun d=>by have h:=(HJ.out.e66 (HJ.out.e67 d).1).2.2.1;rw [hk] at h;cases h),hJ2.e13,hJ2.d14,hJ2.t⟩
   ·rintro D a W ⟨v55,v56,v57,v58,v59,v60,v61,v62,v63,v64,v65,v66,v67,v13,rfl,hJ⟩ hSW hk hd
    clear hSW
    simp only [opsAt,List.getElem?_cons_zero,List.getElem?_cons_succ,Act.put,List.setIfInBounds_toArray,List.set_cons_zero,List.set_cons_succ]
    have HJ:=hid hJ
    have HK:=hid hk
    have HD:=hid hd
    have HGW:=hid (HTX.out W hJ.t)
    clear hJ hk hd
    refine wpListIn_makeMap W rfl _ rfl ?_
    gi_wp2
    have hg4:Gr W (W.alloc (.map #[] 0)):=(Gr.refl W).alloc _
    refine ⟨HKT.out _ ?_,v55,v56,v57,v58,v59,v60,v61,v62,v63,v64,.map (some W.heap.size),v66,v67,v13,by simp only [Act.put,List.setIfInBounds_toArray,List.set_cons_zero,List.set_cons_succ],?_⟩
    ·exact HJ.out.t.trans (hg4.touch _)
    ·have hJ2:=HJ.out.gr hg4
     have hk:=HK.out
     have hd:=HD.out
     exact ⟨hJ2.e55,hJ2.e56,hJ2.e57,hJ2.e58,hJ2.e59,hJ2.e62,hJ2.e60,hJ2.e61,hJ2.e63,hJ2.e64,(fun _=>⟨W.heap.size,rfl,MapI.made W,HGW.out.size⟩),(fun d _ e=>by obtain ⟨b,h1,h2,-⟩:=HJ.out.e64 d;rw [h1] at e;have:=h2.lt;simp only [Value.map.injEq,Option.some.injEq] at e;omega),(fun d=>by have h:=(HJ.out.e66 d).2.2.2.1;rw [hk] at h;cases h),(fun d=>by have h:=(HJ.out.e66 (HJ.out.e67 d).1).2.2.2.1;rw [hk] at h;cases h),hJ2.e13,hJ2.d14,hJ2.t⟩
   ·rintro D a W ⟨v55,v56,v57,v58,v59,v60,v61,v62,v63,v64,v65,v66,v67,v13,rfl,hJ⟩ hSW hk hd
    clear hSW
    simp only [opsAt,List.getElem?_cons_zero,List.getElem?_cons_succ,Act.put,List.setIfInBounds_toArray,List.set_cons_zero,List.set_cons_succ]
    have HJ:=hid hJ
    have HK:=hid hk
    have HD:=hid hd
    have HGW:=hid (HTX.out W hJ.t)
    obtain rfl:=hJ.e56
    obtain rfl:=hJ.e55
    obtain rfl:=hJ.e57
    obtain rfl:=hJ.e58
    obtain rfl:=hJ.e63 (hd 8 (by simp))
    obtain ⟨b61,rfl,-,-⟩:=hJ.e61 (hd 6 (by simp))
    obtain ⟨b64,rfl,-,-⟩:=hJ.e64 (hd 9 (by simp))
    obtain ⟨b65,rfl,-,-⟩:=hJ.e65 (hd 10 (by simp))
    clear hJ hk hd
    gi_wp2
    have hg4:Gr W W:=Gr.refl W
    refine ⟨HKT.out _ ?_,.pointer (some ⟨q,0,none⟩),.agg #[.int .i64 c.fr,.int .i64 c.tp,.int .i64 c.to,.int .i64 c.lm,.int .i64 c.bk,.int .i64 c.st,.int .i64 c.ah],.pointer (some ⟨p,0,none⟩),.pointer (some ⟨m,0,none⟩),v59,v60,.slice (some ⟨b61,0,none⟩) nb nb,v62,.int .i64 nb,.map (some b64),.map (some b65),.agg #[.pointer (some ⟨q,0,none⟩),.int .i64 c.fr,.int .i64 c.tp,.int .i64 c.to,.int .i64 c.lm,.int .i64 c.bk,.int .i64 c.st,.int .i64 c.ah,.pointer (some ⟨p,0,none⟩),.pointer (some ⟨m,0,none⟩),.slice (some ⟨b61,0,none⟩) nb nb,.int .i64 nb,.int .i64 0,.int .i64 0,.map (some b64),.map (some b65)],v67,v13,by simp only [Act.put,List.setIfInBounds_toArray,List.set_cons_zero,List.set_cons_succ],?_⟩
    ·exact HJ.out.t.trans (hg4.touch _)
    ·have hJ2:=HJ.out.gr hg4
     have hk:=HK.out
     have hd:=HD.out
     exact ⟨hJ2.e55,hJ2.e56,hJ2.e57,hJ2.e58,hJ2.e59,hJ2.e62,hJ2.e60,hJ2.e61,hJ2.e63,hJ2.e64,hJ2.e65,hJ2.ne,(fun _=>⟨hd 6 (by simp),hd 8 (by simp),hd 9 (by simp),hd 10 (by simp),rfl⟩),(fun d=>by have h:=(HJ.out.e67 d).1;rw [hk] at h;cases h),hJ2.e13,hJ2.d14,hJ2.t⟩
   ·rintro D a W ⟨v55,v56,v57,v58,v59,v60,v61,v62,v63,v64,v65,v66,v67,v13,rfl,hJ⟩ hSW hk hd
    clear hSW
    simp only [opsAt,List.getElem?_cons_zero,List.getElem?_cons_succ,Act.put,List.setIfInBounds_toArray,List.set_cons_zero,List.set_cons_succ]
    have HJ:=hid hJ
    have HK:=hid hk
    have HD:=hid hd
    have HGW:=hid (HTX.out W hJ.t)
    obtain ⟨d6,d8,d9',d10,rfl⟩:=hJ.e66 (hd 11 (by simp))
    obtain rfl:=hJ.e56
    obtain rfl:=hJ.e55
    obtain rfl:=hJ.e57
    obtain rfl:=hJ.e58
    obtain rfl:=hJ.e63 d8
    obtain ⟨b61,rfl,-,-⟩:=hJ.e61 d6
    obtain ⟨b64,rfl,-,-⟩:=hJ.e64 d9'
    obtain ⟨b65,rfl,-,-⟩:=hJ.e65 d10
    have HRN:=hid (Rec.new W 225 [.pointer (some ⟨q,0,none⟩),.int .i64 c.fr,.int .i64 c.tp,.int .i64 c.to,.int .i64 c.lm,.int .i64 c.bk,.int .i64 c.st,.int .i64 c.ah,.pointer (some ⟨p,0,none⟩),.pointer (some ⟨m,0,none⟩),.slice (some ⟨b61,0,none⟩) nb nb,.int .i64 nb,.int .i64 0,.int .i64 0,.map (some b64),.map (some b65)])
    have HGA:=hid ((Gr.refl W).alloc (.cells #[.pointer (some ⟨q,0,none⟩),.int .i64 c.fr,.int .i64 c.tp,.int .i64 c.to,.int .i64 c.lm,.int .i64 c.bk,.int .i64 c.st,.int .i64 c.ah,.pointer (some ⟨p,0,none⟩),.pointer (some ⟨m,0,none⟩),.slice (some ⟨b61,0,none⟩) nb nb,.int .i64 nb,.int .i64 0,.int .i64 0,.map (some b64),.map (some b65)] 225))
    clear d6 d8 d9' d10
    clear hJ hk hd
    gi_wp2
    refine ⟨HKT.out _ ?_,.pointer (some ⟨q,0,none⟩),.agg #[.int .i64 c.fr,.int .i64 c.tp,.int .i64 c.to,.int .i64 c.lm,.int .i64 c.bk,.int .i64 c.st,.int .i64 c.ah],.pointer (some ⟨p,0,none⟩),.pointer (some ⟨m,0,none⟩),v59,v60,.slice (some ⟨b61,0,none⟩) nb nb,v62,.int .i64 nb,.map (some b64),.map (some b65),.agg #[.pointer (some ⟨q,0,none⟩),.int .i64 c.fr,.int .i64 c.tp,.int .i64 c.to,.int .i64 c.lm,.int .i64 c.bk,.int .i64 c.st,.int .i64 c.ah,.pointer (some ⟨p,0,none⟩),.pointer (some ⟨m,0,none⟩),.slice (some ⟨b61,0,none⟩) nb nb,.int .i64 nb,.int .i64 0,.int .i64 0,.map (some b64),.map (some b65)],.pointer (some ⟨W.heap.size,0,none⟩),v13,by simp only [Act.put,List.setIfInBounds_toArray,List.set_cons_zero,List.set_cons_succ],?_⟩
    ·exact HJ.out.t.trans (HGA.out.touch _)
    ·have hJ2:=HJ.out.gr HGA.out
     have hk:=HK.out
     have hd:=HD.out
     exact ⟨hJ2.e55,hJ2.e56,hJ2.e57,hJ2.e58,hJ2.e59,hJ2.e62,hJ2.e60,hJ2.e61,hJ2.e63,hJ2.e64,hJ2.e65,hJ2.ne,hJ2.e66,(fun _=>⟨hd 11 (by simp),W.heap.size,rfl,HGW.out.size,HRN.out⟩),(fun d=>by obtain ⟨b,h1,h2,h3⟩:=hJ2.e13 d;refine ⟨b,h1,h2,?_⟩;cases h14:D 14 with | true=>(have:=(HJ.out.d14 h14).1;rw [hk] at this;cases this) | false=>(have e:upD D 12 14=false:=h14;rw [h14] at h3;rw [e];exact h3)),(fun d=>⟨rfl,(hJ2.d14 d).2⟩),hJ2.t⟩
   ·rintro D a W ⟨v55,v56,v57,v58,v59,v60,v61,v62,v63,v64,v65,v66,v67,v13,rfl,hJ⟩ hSW hk hd
    clear hSW
    simp only [opsAt,List.getElem?_cons_zero,List.getElem?_cons_succ,Act.put,List.setIfInBounds_toArray,List.set_cons_zero,List.set_cons_succ]
    have HJ:=hid hJ
    have HK:=hid hk
    have HD:=hid hd
    have HGW:=hid (HTX.out W hJ.t)
    have HRN:=hid (Rec.new W 99 [.pointer none])
    have HGA:=hid ((Gr.refl W).alloc (.cells #[.pointer none] 99))
    clear hJ hk hd
    gi_wp2
    refine ⟨HKT.out _ ?_,v55,v56,v57,v58,v59,v60,v61,v62,v63,v64,v65,v66,v67,.pointer (some ⟨W.heap.size,0,none⟩),by simp only [Act.put,List.setIfInBounds_toArray,List.set_cons_zero,List.set_cons_succ],?_⟩
    ·exact HJ.out.t.trans (HGA.out.touch _)
    ·have hJ2:=HJ.out.gr HGA.out
     have hk:=HK.out
     have hd:=HD.out
     exact ⟨hJ2.e55,hJ2.e56,hJ2.e57,hJ2.e58,hJ2.e59,hJ2.e62,hJ2.e60,hJ2.e61,hJ2.e63,hJ2.e64,hJ2.e65,hJ2.ne,hJ2.e66,hJ2.e67,(fun _=>⟨W.heap.size,rfl,HGW.out.size,by cases h14:D 14 with | true=>(have:=(HJ.out.d14 h14).2;rw [hk] at this;cases this) | false=>(have e:upD D 13 14=false:=h14;rw [e];exact HRN.out)⟩),(fun d=>⟨(hJ2.d14 d).1,rfl⟩),hJ2.t⟩
   ·rintro D a W ⟨v55,v56,v57,v58,v59,v60,v61,v62,v63,v64,v65,v66,v67,v13,rfl,hJ⟩ hSW hk hd
    clear hSW
    simp only [opsAt,List.getElem?_cons_zero,List.getElem?_cons_succ,Act.put,List.setIfInBounds_toArray,List.set_cons_zero,List.set_cons_succ]
    have HJ:=hid hJ
    have HK:=hid hk
    have HD:=hid hd
    obtain ⟨b13,rfl,hb13,hr13⟩:=hJ.e13 (hd 13 (by simp))
    obtain ⟨d11,b67,rfl,hb67,hr67⟩:=hJ.e67 (hd 12 (by simp))
    have HR13:=hid hr13
    rw [hk] at hr13
    have q0:=hr13.cell (j:=0) rfl
    have qf:=hr13.free 0
    have ql:=hr13.lt
    have HB13:=hid hb13
    clear hJ hk hd hr13 hr67 d11 hb67 hb13
    gi_wp2
    have tS:Touch (fun i=>i=b13) W (W.setCell ⟨b13,0,none⟩ (.pointer (some ⟨b67,0,none⟩))):=(Touch.refl (fun i=>i=b13) W).setCell (a:=⟨b13,0,none⟩) (fun _=>rfl) _
    have hrs:=HR13.out.set 0 (.pointer (some ⟨b67,0,none⟩))
    have tT:Touch (fun i=>w3.heap.size<=i) w3 (W.setCell ⟨b13,0,none⟩ (.pointer (some ⟨b67,0,none⟩))):=HJ.out.t.trans (tS.mono (fun i _ h=>by rw [h];exact HB13.out))
    have hJ:=HJ.out
    refine ⟨HKT.out _ tT,v55,v56,v57,v58,v59,v60,v61,v62,v63,v64,v65,v66,.pointer (some ⟨b67,0,none⟩),.pointer (some ⟨b13,0,none⟩),by simp only [Act.put,List.setIfInBounds_toArray,List.set_cons_zero,List.set_cons_succ],?_⟩
    exact ⟨hJ.e55,hJ.e56,hJ.e57,hJ.e58,hJ.e59,hJ.e62,hJ.e60,(fun d=>by obtain ⟨b,h1,h2,h3⟩:=hJ.e61 d;exact ⟨b,h1,own_touch h2 tS (fun g' hg=>by rw [h1] at hg;cases hg;exact own_ne (by rw [h1] at h2;exact h2) HR13.out (by decide) rfl rfl),h3⟩),hJ.e63,(fun d=>by obtain ⟨b,h1,h2,h3⟩:=hJ.e64 d;exact ⟨b,h1,h2.touch tS (h2.ne (rec_cells HR13.out)),h3⟩),(fun d=>by obtain ⟨b,h1,h2,h3⟩:=hJ.e65 d;exact ⟨b,h1,h2.touch tS (h2.ne (rec_cells HR13.out)),h3⟩),hJ.ne,hJ.e66,(fun d=>by obtain ⟨h0,b,h1,h2,h3⟩:=hJ.e67 d;exact ⟨h0,b,h1,h2,h3.touch tS (own_ne h3 HR13.out (by decide) rfl rfl)⟩),(fun _=>⟨b13,rfl,HB13.out,hrs⟩),(fun _=>⟨HD.out 12 (by simp),HD.out 13 (by simp)⟩),tT⟩
   ·rintro D a W ⟨v55,v56,v57,v58,v59,v60,v61,v62,v63,v64,v65,v66,v67,v13,rfl,hJ⟩ hSW hall
    clear hSW
    have hall':∀ j,j<15->D j=true:=hall
    obtain ⟨b61,rfl,ho61,hg61⟩:=hJ.e61 (hall' 6 (by omega))
    obtain rfl:=hJ.e60 (hall' 5 (by omega))
    obtain rfl:=hJ.e63 (hall' 8 (by omega))
    obtain ⟨b64,rfl,hm64,hg64⟩:=hJ.e64 (hall' 9 (by omega))
    obtain ⟨b65,rfl,hm65,hg65⟩:=hJ.e65 (hall' 10 (by omega))
    obtain ⟨-,-,-,-,rfl⟩:=hJ.e66 (hall' 11 (by omega))
    obtain ⟨-,y,rfl,hgy,hry⟩:=hJ.e67 (hall' 12 (by omega))
    obtain ⟨bx,rfl,hgx,hrx⟩:=hJ.e13 (hall' 13 (by omega))
    rw [hall' 14 (by omega)] at hrx
    obtain rfl:=hJ.e55
    obtain rfl:=hJ.e56
    obtain rfl:=hJ.e57
    obtain rfl:=hJ.e58
    obtain rfl:=hJ.e59
    obtain rfl:=hJ.e62
    have hn45:b64≠b65:=fun e=>hJ.ne (hall' 9 (by omega)) (hall' 10 (by omega)) (by rw [e])
    have HT3:=hid hJ.t
    have HO61:=hid ho61
    have HM64:=hid hm64
    have HM65:=hid hm65
    have HRY:=hid hry
    have HRX:=hid hrx
    have HGE:=hid (And.intro hg61 (And.intro hg64 (And.intro hg65 (And.intro hgy (And.intro hgx hn45)))))
    clear hJ hall hall' ho61 hg61 hm64 hg64 hm65 hg65 hgy hry hgx hrx hn45
    refine NoPanic.normal ?_
    simp only [Act.put,List.setIfInBounds_toArray,List.set_cons_zero,List.set_cons_succ]
    clear y3 y50 y51 y52 y53 y54 y55 y56 hS0 inst hS1
    have hzW:=HT3.out.size
    have HG3W:Hid (Gr w3 W):=⟨HTX.out W HT3.out⟩
    have c13:=HRX.out.cell (j:=0) rfl
    have clx:=HRX.out.lt
    gi_wp2_with (refine ⟨trivial,?_⟩;gi_at_call 203;refine (callsIn_wide.2 (all_call (some ⟨m,0,none⟩))).mono ?_;rintro e w5 ⟨rfl,rfl⟩)
    obtain ⟨W5,hW5⟩:∃ W5,W5=W.alloc (.cells #[.pointer (some ⟨m,0,none⟩)] 155):=⟨_,rfl⟩
    have hg5:Gr W W5:=by rw [hW5];exact (Gr.refl W).alloc _
    have hs5:W5.heap.size=W.heap.size+1:=by rw [hW5,World.size_alloc]
    have k5:W5.cell? ⟨W.heap.size,0,none⟩=some (.pointer (some ⟨m,0,none⟩)):=by rw [hW5];exact (Boxed.new W 155 (.pointer (some ⟨m,0,none⟩))).cell
    rw [<-hW5]
    clear hW5 c13 clx
    obtain ⟨g61,g64,g65,gy,gx,hne⟩:=HGE.out
    have l64:=HM64.out.lt
    have l65:=HM65.out.lt
    have ly:=HRY.out.lt
    have lx:=HRX.out.lt
    have n64y:=HM64.out.ne (rec_cells HRY.out)
    have n65y:=HM65.out.ne (rec_cells HRY.out)
    have n64x:=HM64.out.ne (rec_cells HRX.out)
    have n65x:=HM65.out.ne (rec_cells HRX.out)
    have hml:=HX.out.hm
    have hp1l:=HX.out.v1.hp
    have hb1l:=HX.out.v1.hb
    have hp2l:=HX.out.v2.hp
    have hb2l:=HX.out.v2.hb
    have hz3:=HG3.out.size
    obtain ⟨s,hsl⟩:∃ s,s=slNew v c L:=⟨_,rfl⟩
    have esL:s.L=L:=by rw [hsl];rfl
    have espg:s.pg=v.pl.pg:=by rw [hsl];rfl
    have esn:s.n=v.n:=by rw [hsl];rfl
    have HES:=hid (And.intro esL (And.intro espg (And.intro esn hsl)))
    have HGD:Hid (Good s.n s.L):=⟨by rw [esn,esL];exact HX.out.good⟩
    have HV3:=hid (HV2.out.gr HG3.out)
    have HT5:Hid (∀ A,Touch (fun i=>(i=b64\/i=b65)\/W5.heap.size<=i) W5 A->Touch (fun i=>w3.heap.size<=i) w3 A):=⟨fun A t=>(HT3.out.trans (hg5.touch _)).trans (t.mono (fun i _ h=>by omega))⟩
    have HK:Hid (∀ A,Touch (fun i=>(i=b64\/i=b65)\/W5.heap.size<=i) W5 A->((A.cell? ⟨bx,0,none⟩=some (.pointer (some ⟨y,0,none⟩))/\A.cell? ⟨y,14,none⟩=some (.map (some b64)))/\A.cell? ⟨y,15,none⟩=some (.map (some b65))/\A.cell? ⟨w.heap.size,0,none⟩=some (.pointer (some ⟨q,0,none⟩)))):=⟨fun A t=>by
     have r1:=(HRX.out.gr hg5).touch t (by omega)
     have r2:=(HRY.out.gr hg5).touch t (by omega)
     have g3:=HTX.out A (HT5.out A t)
     exact ⟨⟨r1.cell (j:=0) rfl,r2.cell (j:=14) rfl⟩,r2.cell (j:=15) rfl,(g3.cell HB33.out.lt 0).trans (HB33.out.cell (j:=0) rfl)⟩⟩
    have HVA:Hid (∀ A,Touch (fun i=>(i=b64\/i=b65)\/W5.heap.size<=i) W5 A->VmAt A (cutS (cutS S w) w1) q v):=⟨fun A t=>HV3.out.gr (HTX.out A (HT5.out A t))⟩
    have HXA:Hid (∀ A,Touch (fun i=>(i=b64\/i=b65)\/W5.heap.size<=i) W5 A->Ext A m p1 b1 p2 b2 v.n L/\TabAt A):=⟨fun A t=>by
     have g3:=HTX.out A (HT5.out A t)
     exact ⟨(HX.out.gr HG3.out).gr g3,g3.tab (HG3.out.tab HTB2.out.lt HTB2.out).lt (HG3.out.tab HTB2.out.lt HTB2.out)⟩⟩
    have HA0:Hid (OpA W5 W5 b64 b65 v s 0 0):=⟨OpA.zero (HM64.out.gr hg5) (HM65.out.gr hg5)⟩
    have HL64:Hid (b64<W5.heap.size/\b65<W5.heap.size/\b64≠b65):=⟨by omega⟩
    have HZ0:Hid (sizes (L.take 0)=0):=⟨rfl⟩
    have HK5:=hid k5
    have hwl:w.heap.size<w3.heap.size:=HB33.out.lt
    clear hsl esL espg esn k5
    refine range_lawU (K:=4) (s0:=0) rfl (by omega) (gf:=294) (lb:=#[.pointer (some ⟨W.heap.size,0,none⟩)]) rfl trivial (enters_of Tryz.func294 (by kernel_rfl) rfl)
     (all_seqU _ W.heap.size m p1 b1 p2 b2 v.n L _) (fun _=>rfl)
     (fun (j:Nat) A=>j<=L.length/\OpA W5 A b64 b65 v s j (sizes (L.take j))) (fun _ _=>False) (fun j A B h t=>⟨h.1,h.2.win HL64.out.1 HL64.out.2.1 t⟩) (fun _ _ _ h _=>h)
     (fun j A h=>⟨(HXA.out A h.2.t).1,(HXA.out A h.2.t).2,(h.2.t.cell (by omega) (by omega) 0).trans HK5.out,h.1⟩)
     ⟨Nat.zero_le _,HA0.out⟩ ?round ?done (fun _ _ _ _ h _=>h.elim)
    case round=>
     intro lp j x W6 hsz6 hI6 hgv
     dsimp only [encO]
     gi_wp2
     refine ⟨Gr.refl _,fun W7 ht7 hI7=>?_⟩
     have hjl:j<L.length:=by
      rcases Nat.lt_or_ge j L.length with h | h
      ·exact h
      ·unfold AllGives at hgv;rw [List.getElem?_eq_none h] at hgv;cases hgv
     obtain rfl:x=L[j]:=by unfold AllGives at hgv;rw [List.getElem?_eq_getElem hjl] at hgv;exact (Option.some.inj hgv).symm
     obtain ⟨hrch,hrd0,-⟩:=HI.out.1.mkd.ats _ (List.getElem_mem hjl)
     obtain ⟨-,-,hp',hf',hk',hrh,hhs⟩:=rdE_zero hrd0
     have HA7:=hid hI7.2
     have hsb:=(HX.out.good.sz _ (List.getElem_mem hjl)).2
     have HSJ:=hid (sizes_take hjl)
     have hjs:j<s.L.length:=by rw [HES.out.1];exact hjl
     have HJS:=hid hjs
     have hel:s.L[j]=L[j]:=by simp only [HES.out.1]
     have HSRC:Hid (∀ t,t<L[j].2->srcO s.L (sizes (L.take j)+t)=L[j].1+t/\sizes (L.take j)+t<sizes s.L):=⟨fun t ht=>by
      have h1:=sizes_mid hjl
      rw [HES.out.1]
      exact ⟨src_at hjl ht,by omega⟩⟩
     obtain ⟨n5,f5,hm5,hn5,hf5⟩:=hI7.2.sh
     have HM5:=hid hm5
     have HN5:=hid (And.intro hn5 hf5)
     have hHDR:∀ B,MapI Tryz.prog 3 B b65 (n5+1) (fun y=>if y=((L[j].1:Nat):Int) then some (hdrV (v.rdH (L[j].1:Nat))) else f5 y)->Touch (fun i=>i=b65) W7 B->OpA W5 B b64 b65 v s (j+1) (sizes (L.take j)):=fun B hm t=>HA7.out.hdr HJS.out HL64.out.2.2 HN5.out.1 HN5.out.2 HGD.out (by rw [hel];exact hm) t
     rw [hrh] at hHDR
     have HHDR:=hid hHDR
     have HRD:=hid (fun (W:World) (gW:Gr W7 W)=>obj_read ((HVA.out W7 HA7.out.t).gr gW) ((L[j].1:Nat):Int))
     rw [hrd0,hrh] at HRD
     unfold hdrV at HRD
     unfold spV at HRD
     have hn5b:n5<=1048576:=by
      have h2:=sizes_le HX.out.good
      have h4:=len_sizes HX.out.good
      omega
     have HLL5:Hid (n5<maxLen):=⟨by unfold maxLen;omega⟩
     have HLL6:Hid (sizes (L.take j)+L[j].2<=1048576):=⟨by have h1:=sizes_mid hjl;have h2:=sizes_le HX.out.good;omega⟩
     obtain ⟨sa,hsa⟩:∃ sa,sa=L[j].1:=⟨_,rfl⟩
     obtain ⟨sz,hsz⟩:∃ sz,sz=L[j].2:=⟨_,rfl⟩
     obtain ⟨mm,hmm⟩:∃ mm,mm=sizes (L.take j):=⟨_,rfl⟩
     have HSA:=hid (And.intro hsa (And.intro hsz hmm))
     rw [<-hsa] at HRD HSRC HHDR hsb ⊢
     rw [<-hsz] at HSRC hsb HSJ HLL6 ⊢
     rw [<-hmm] at HSRC HHDR HSJ HLL6 HA7
     have HWF5:Hid ((Lit.int .i64 (sa:Int)).wf=true):=⟨WalkArith.wf_i64 (by omega)⟩
     have HSZ7:=hid (And.intro hsz6 ht7.size)
     have HJL:=hid hjl
     have hsab:sa+sz<=524288:=by omega
     clear hI6 hI7 hgv ht7 hsa hsz hmm hjs hel hrch hrd0 hrh hhs hm5 hn5 hf5 hHDR hsb
     have kk:=HK.out _ HA7.out.t
     have k1:=kk.1.1
     have k3:=kk.2.1
     have k4:=kk.2.2
     clear kk
     have HKC:Hid (∀ W',Gr W7 W'->W'.cell? ⟨bx,0,none⟩=some (.pointer (some ⟨y,0,none⟩))/\W'.cell? ⟨y,15,none⟩=some (.map (some b65))/\W'.cell? ⟨w.heap.size,0,none⟩=some (.pointer (some ⟨q,0,none⟩))):=⟨fun W' gW=>by
      have h:=HK.out W' (HA7.out.t.trans (gW.touch _))
      exact ⟨h.1.1,h.2⟩⟩
     gi_upto_region 16 with (fail)
     obtain ⟨Sx,hSx⟩:∃ Sx:World->Prop,Sx=fun W'=>W'.cell? ⟨bx,0,none⟩=some (.pointer (some ⟨y,0,none⟩))/\W'.cell? ⟨y,15,none⟩=some (.map (some b65))/\W'.cell? ⟨w.heap.size,0,none⟩=some (.pointer (some ⟨q,0,none⟩)):=⟨_,rfl⟩
     have y1:∀ p:Held Sx,p.w.cell? ⟨bx,0,none⟩=some (.pointer (some ⟨y,0,none⟩)):=fun p=>by have h:=Held.get hSx p;exact h.1
     have y2:∀ p:Held Sx,p.w.cell? ⟨y,15,none⟩=some (.map (some b65)):=fun p=>by have h:=Held.get hSx p;exact h.2.1
     have y3:∀ p:Held Sx,p.w.cell? ⟨w.heap.size,0,none⟩=some (.pointer (some ⟨q,0,none⟩)):=fun p=>by have h:=Held.get hSx p;exact h.2.2
     have HS:Hid (∀ W',W'.cell? ⟨bx,0,none⟩=some (.pointer (some ⟨y,0,none⟩))/\W'.cell? ⟨y,15,none⟩=some (.map (some b65))/\W'.cell? ⟨w.heap.size,0,none⟩=some (.pointer (some ⟨q,0,none⟩))->Sx W'):=⟨fun W' h=>by rw [hSx];exact h⟩
     have hS0:=HS.out (W7.drew) (HKC.out _ (Gr.refl W7).drew)
     have inst:Inhabited (Held Sx):=⟨⟨_,hS0⟩⟩
     clear hSx
     refine wpIn_region_mixS Sx 13 [([0,1,2,3,4,5,6,7],8),([9,10,11],12)] [] (fun _=>trivial) (by kernel_rfl) (by kernel_rfl) hS0 ?_
     refine segsIn_step ?_
     try simp only [opsAt,List.getElem?_cons_zero,List.getElem?_cons_succ]
     repeat (go_big_quiet_step (fail))
     refine wpQuiet_nil ?_
     gi_wp2_with ((refine ⟨trivial,?_⟩;gi_at_call 121;refine (CallsIn.inRound lp (callsIn_wide.2 (HRD.out _ (Gr.refl W7).drew))).mono ?_;rintro e w8 ⟨rfl,hg8⟩;have HG8:=hid ((Gr.refl W7).drew.trans hg8);clear hg8))
     refine ⟨.inr (Held.of (HS.out _ (HKC.out _ HG8.out))),?_⟩
     refine segsIn_step ?_
     try simp only [opsAt,List.getElem?_cons_zero,List.getElem?_cons_succ]
     repeat (go_big_quiet_step (fail))
     refine wpQuiet_nil ?_
     gi_wp2_with ((gi_at_mapUpdate;refine wpListIn_mapI _ rfl _ _ _ 223 rfl 3 48 keyed_int Tryz.underlying223 Tryz.underlying3 b65 n5 f5 rfl (HM5.out.gr HG8.out) HLL5.out (sa:Int) (.agg #[.int .i64 hp',.int .i64 hf',.int .i64 hk']) rfl rfl HWF5.out ?_;intro w9 hm9 ht9;have HM9:=hid hm9;have HT9:=hid ht9;clear hm9 ht9))
     refine ⟨.inr (Held.of (HS.out _ ((by have h:=HK.out w9 (HA7.out.t.trans ((HG8.out.touch _).trans (HT9.out.mono (fun i _ h=>.inl (.inr h)))));exact ⟨h.1.1,h.2⟩)))),?_⟩
     refine segsIn_end ?_
     try simp only [opsAt]
     repeat (go_big_quiet_step (fail))
     refine wpQuiet_nil ?_
     refine NoPanic.normal ?_
     clear y1 y2 y3 hS0 inst
     clear HS Sx
     clear k1 k3 k4
     have HA9:Hid (OpA W5 w9 b64 b65 v s (j+1) (mm+0)):=⟨HHDR.out w9 HM9.out ((HG8.out.touch _).trans HT9.out)⟩
     have HT79:Hid (Touch (fun i=>i=b64\/i=b65) W7 w9):=⟨(HG8.out.touch _).trans (HT9.out.mono (fun i _ h=>.inr h))⟩
     gi_wp2
     gi_loopw [16] (fun s16 wr=>∃ t A:Nat,t<=sz/\Hid (A=sa+t)/\Hid (OpA W5 wr b64 b65 v s (j+1) (mm+t))/\Hid (Touch (fun i=>i=b64\/i=b65) W7 wr)/\s16=.int .i64 A) (fun s16 _=>sa+sz-(intOf s16).toNat)
     case atStart=>exact ⟨0,sa,Nat.zero_le _,⟨rfl⟩,HA9,HT79,rfl⟩
     case round=>
      obtain ⟨t,A,ht,HAt,HA,HTA,rfl⟩:=hrel
      by_cases hlt:t<sz
      ·have HLT:=hid hlt
       have hAI:(A:Int)<(sa:Int)+(sz:Int):=by have:=HAt.out;omega
       have hAb:A<=1048576:=by have:=HAt.out;omega
       obtain ⟨e1,e2⟩:=HSRC.out t hlt
       obtain ⟨n4,f4,hm4,hn4,hf4⟩:=HA.out.wd
       have HPG:=hid (fun (W:World) (gW:Gr wr W)=>vm_page ((HVA.out wr HA.out.t).gr gW))
       obtain ⟨pg,hpge⟩:∃ pg,pg=v.pl.pg:=⟨_,rfl⟩
       rw [<-hpge] at HPG hpg
       obtain ⟨Q,hQ⟩:∃ Q,Q=A/pg:=⟨_,rfl⟩
       have g1:((A:Int).tdiv (pg:Int))=(Q:Int):=by rw [hQ];rfl
       have g2:((A:Int)/(pg:Int))=(Q:Int):=by rw [hQ];rfl
       have hpg0:(pg:Int)≠0:=by omega
       have hQb:Q<=1048576:=by rw [hQ];exact Nat.le_trans (Nat.div_le_self _ _) hAb
       have hsq:srcO s.L (mm+t)/s.pg=Q:=by rw [e1,hQ,HAt.out,hpge,HES.out.2.1]
       obtain ⟨N1,hN1⟩:∃ N1,N1=s.on (fun i=>decide (i<mm+t)) Q:=⟨_,rfl⟩
       have hN1b:N1<=1048576:=by
        rw [hN1]
        have h1:=s.on_le (fun i=>decide (i<mm+t)) Q
        have h2:=sizes_le HGD.out
        have h3:=HES.out.2.2.1
        omega
       have HLK:Hid (∀ W',Gr wr W'->(Instr.lookup 142 (.map (some b64)) (.int .i64 Q) false).run Tryz.prog W'=.ok (.int .i64 N1) W'):=⟨fun W' gW=>by
        rw [(hm4.gr gW).look keyed_int Tryz.underlying142 Tryz.underlying3 (zero_int W') (WalkArith.wf_i64 (by omega)),hf4 Q,hN1]⟩
       have HWD:Hid (∀ B,MapI Tryz.prog 3 B b64 (n4+1) (fun y=>if y=(Q:Int) then some (.int .i64 ((N1+1:Nat):Int)) else f4 y)->Touch (fun i=>i=b64) wr B->OpA W5 B b64 b65 v s (j+1) (mm+(t+1))):=⟨fun B hmB tB=>by
        have:=HA.out.word e2 HL64.out.2.2 hn4 hf4 (x:=N1+1) (B:=B) (by rw [hsq,hN1]) (by rw [hsq];exact hmB) tB
        rw [<-Nat.add_assoc];exact this⟩
       have HM4:=hid hm4
       have HLL4:Hid (n4<maxLen):=⟨by have:=HLL6.out;unfold maxLen;omega⟩
       have HWF4:Hid ((Lit.int .i64 (Q:Int)).wf=true):=⟨WalkArith.wf_i64 (by omega)⟩
       have hN2:(N1:Int)+1=((N1+1:Nat):Int):=by push_cast;rfl
       obtain ⟨N2,hN2'⟩:∃ N2,N2=N1+1:=⟨_,rfl⟩
       rw [<-hN2'] at hN2 HWD
       have HKD:Hid (∀ W',Gr wr W'->(W'.cell? ⟨bx,0,none⟩=some (.pointer (some ⟨y,0,none⟩))/\W'.cell? ⟨y,14,none⟩=some (.map (some b64)))/\W'.cell? ⟨w.heap.size,0,none⟩=some (.pointer (some ⟨q,0,none⟩))/\(Instr.lookup 142 (.map (some b64)) (.int .i64 Q) false).run Tryz.prog W'=.ok (.int .i64 N1) W'):=⟨fun W' gW=>by
        have h:=HK.out W' (HA.out.t.trans (gW.touch _))
        exact ⟨h.1,h.2.2,HLK.out W' gW⟩⟩
       clear e1 e2 hm4 hn4 hf4 hpge hQ hsq hN1 hN2' hlt
       gi_upto_region 20 with (fail)
       obtain ⟨Sx,hSx⟩:∃ Sx:World->Prop,Sx=fun W'=>(W'.cell? ⟨bx,0,none⟩=some (.pointer (some ⟨y,0,none⟩))/\W'.cell? ⟨y,14,none⟩=some (.map (some b64)))/\W'.cell? ⟨w.heap.size,0,none⟩=some (.pointer (some ⟨q,0,none⟩))/\(Instr.lookup 142 (.map (some b64)) (.int .i64 Q) false).run Tryz.prog W'=.ok (.int .i64 N1) W':=⟨_,rfl⟩
       have y1:∀ p:Held Sx,p.w.cell? ⟨bx,0,none⟩=some (.pointer (some ⟨y,0,none⟩)):=fun p=>by have h:=Held.get hSx p;exact h.1.1
       have y2:∀ p:Held Sx,p.w.cell? ⟨y,14,none⟩=some (.map (some b64)):=fun p=>by have h:=Held.get hSx p;exact h.1.2
       have y3:∀ p:Held Sx,p.w.cell? ⟨w.heap.size,0,none⟩=some (.pointer (some ⟨q,0,none⟩)):=fun p=>by have h:=Held.get hSx p;exact h.2.1
       have y4:∀ p:Held Sx,(Instr.lookup 142 (.map (some b64)) (.int .i64 Q) false).run Tryz.prog p.w=.ok (.int .i64 N1) p.w:=fun p=>by have h:=Held.get hSx p;exact h.2.2
       have HS:Hid (∀ W',(W'.cell? ⟨bx,0,none⟩=some (.pointer (some ⟨y,0,none⟩))/\W'.cell? ⟨y,14,none⟩=some (.map (some b64)))/\W'.cell? ⟨w.heap.size,0,none⟩=some (.pointer (some ⟨q,0,none⟩))/\(Instr.lookup 142 (.map (some b64)) (.int .i64 Q) false).run Tryz.prog W'=.ok (.int .i64 N1) W'->Sx W'):=⟨fun W' h=>by rw [hSx];exact h⟩
       have hS0:=HS.out (wr.drew) (HKD.out _ (Gr.refl wr).drew)
       have inst:Inhabited (Held Sx):=⟨⟨_,hS0⟩⟩
       clear hSx
       refine wpIn_region_mixS Sx 10 [([0,1,2,3,4,5],6),([7,8,9],10)] [] (fun _=>trivial) (by kernel_rfl) (by kernel_rfl) hS0 ?_
       refine segsIn_step ?_
       try simp only [opsAt,List.getElem?_cons_zero,List.getElem?_cons_succ]
       repeat (go_big_quiet_step (fail))
       refine wpQuiet_nil ?_
       gi_wp2_with ((refine ⟨trivial,?_⟩;gi_at_call 198;refine (CallsIn.inRound lp (callsIn_wide.2 (HPG.out _ (Gr.refl wr).drew))).mono ?_;rintro e w8 ⟨rfl,rfl⟩))
       refine ⟨.inr (Held.of (HS.out _ (HKD.out _ (Gr.refl wr).drew))),?_⟩
       refine segsIn_step ?_
       try simp only [opsAt,List.getElem?_cons_zero,List.getElem?_cons_succ]
       repeat (go_big_quiet_step (fail))
       refine wpQuiet_nil ?_
       gi_wp2_with ((gi_at_mapUpdate;refine wpListIn_mapI _ rfl _ _ _ 142 rfl 3 3 keyed_int Tryz.underlying142 Tryz.underlying3 b64 n4 f4 rfl (HM4.out.gr (Gr.refl wr).drew) HLL4.out (Q:Int) (.int .i64 N2) rfl rfl HWF4.out ?_;intro w10 hm10 ht10;have HM10:=hid hm10;have HT10:=hid ht10;clear hm10 ht10))
       refine ⟨.inl trivial,?_⟩
       refine segsIn_end ?_
       try simp only [opsAt]
       repeat (go_big_quiet_step (fail))
       refine wpQuiet_nil ?_
       refine NoPanic.normal ?_
       clear y1 y2 y3 y4 hS0 inst
       clear HS Sx
       have HT11:Hid (Touch (fun i=>i=b64) wr w10):=⟨((Gr.refl wr).drew.touch _).trans HT10.out⟩
       gi_wp2
       go_roundw
       case rel=>exact ⟨t+1,A+1,HLT.out,⟨by have:=HAt.out;omega⟩,⟨HWD.out w10 HM10.out HT11.out⟩,⟨HTA.out.trans (HT11.out.mono (fun i _ h=>.inl h))⟩,by go_num⟩
       case measure=>have:=HAt.out;have:=HLT.out;simp [intOf];omega
      ·obtain rfl:t=sz:=by omega
       have hAI:¬ (A:Int)<(sa:Int)+(t:Int):=by have:=HAt.out;omega
       clear hlt
       gi_wp2
       have hsz:=HSZ7.out
       have l4:=HL64.out
       refine ⟨HTA.out.mono (fun i _ h=>.inl (by rcases h with rfl | rfl <;> omega)),j+1,rfl,hjl,?_⟩
       rw [HSJ.out]
       exact HA.out
    case done=>
     rintro D j W7 hD rfl hI7 hK
     have hA7:=hI7.2
     rw [List.take_length] at hA7
     have HA7:=hid hA7
     have HKK:=hid (HK.out W7 hA7.t)
     have hz7:=hA7.t.size
     have HSL:=hid HES.out.2.2.2
     have HCY:Hid (Cyc W7 (fun b=>w1.heap.size<=b/\b<W5.heap.size) y q ⟨w2.heap.size,w3.heap.size,p,m,p1,b1,p2,b2,b65,b61,nb,b64⟩ (slNew v c L)):=⟨by
      have hA:=hA7
      rw [HSL.out] at hA
      exact sl_cyc0 HX.out HG3.out HPL.out ⟨hz2,HMX.out.1,HMX.out.2.1,HMX.out.2.2.1,HMX.out.2.2.2.1,HMX.out.2.2.2.2⟩ (HT3.out.trans (hg5.touch _)) ⟨gy,g61,g64,g65⟩ HNB.out (HRY.out.gr hg5) (own_gr HO61.out hg5) (HM64.out.gr hg5) (HM65.out.gr hg5) hne hA (fun i h1 h2 h3 h=>by omega) hA.t⟩
     have HR7:Hid (RtAt W7 r g rs):=⟨by
      have h1:=(HR.out.gr HG01.out).touch HT2.out (fun h=>HNO.out.2.1 h.1) (fun h=>HNO.out.2.2.1 h.1)
      exact (h1.gr HG3.out).gr (HTX.out W7 (HT5.out W7 hA7.t))⟩
     have HST:=hid (slNew_st HOK.out HCF.out HI.out (by rw [<-HSN.out];exact Nat.le_of_not_lt HBIG.out))
     have hgl:g<w1.heap.size:=by omega
     have HTU:=hid (sl_turns (fun W tW=>HCY.out.touch tW (fun k hk e=>by have:=hk.1;omega)) HST.out HR7.out)
     have hmf:∀ (fn:Fn) (first cap:Array Value) (w:World),(Instr.makeFunc fn first cap).run Tryz.prog w=.ok (.func fn first cap) w:=fun _ _ _ _=>rfl
     have hHV7:=HVA.out W7 hA7.t
     have HV7:=hid hHV7
     have hHB3:=(HB33.out.gr (HTX.out W7 (HT5.out W7 hA7.t)))
     have hHB5:=(HB53.out.gr (HTX.out W7 (HT5.out W7 hA7.t)))
     have hHX7:=(HRX.out.gr hg5).touch hA7.t (by omega)
     have HBX:=hid (And.intro hHB3 (And.intro hHB5 hHX7))
     have c13:=hHX7.cell (j:=0) rfl
     have clx:=hHX7.lt
     have HK0:=hid hK
     have HD0:Hid (D=W5.heap.size):=⟨hD⟩
     clear hA7 hI7 hHV7 hHB3 hHB5 hHX7 hK hD
     gi_upto_region 22 with (refine ⟨trivial,?_⟩;gi_at_call 108;refine (callsIn_wide.2 (HTU.out)).mono ?_;rintro e w8 ⟨rfl,ht8,hr8⟩;have HT8:=hid ht8;have HR8:=hid hr8;clear ht8 hr8)
     clear c13 clx
     obtain ⟨hB3,hB5,hXb⟩:=HBX.out
     have HB38:=hid (hB3.touch HT8.out (fun h=>by omega))
     have HB58:=hid (hB5.touch HT8.out (fun h=>by omega))
     have HX8:=hid (hXb.touch HT8.out (fun h=>by omega))
     have HCY8:=hid (HCY.out.touch HT8.out (fun k hk e=>by have:=hk.1;omega))
     have hz8:=HT8.out.size
     obtain ⟨S5,hS5⟩:∃ S5,S5=cutS (cutS S w) w1:=⟨_,rfl⟩
     have HS5:Hid (∀ b,S5 b->S b/\b<w.heap.size):=⟨fun b hb=>by rw [hS5] at hb;exact hb.1⟩
     have hV8:VmAt w8 S5 q v:=by rw [hS5];exact HV7.out.touch HT8.out (fun b hb _ h=>HNO.out.2.2.1 (h ▸ hb.1.1))
     have HV8:=hid hV8
     have HK8:Hid (w8.heap[D]?=some (.deferred (some []))/\D<w8.heap.size/\W5.heap.size<=D):=⟨by
      have h1:=(Array.getElem?_eq_some_iff.1 HK0.out).1
      have h2:=HD0.out
      exact ⟨(HT8.out.block D h1 (by omega)).trans HK0.out,by omega,by omega⟩⟩
     have HVP:=hid (fun (W:World) (g':Gr w8 W)=>vm_page (HV8.out.gr g'))
     obtain ⟨pg,hpge⟩:∃ pg,pg=v.pl.pg:=⟨_,rfl⟩
     have HPGE:=hid hpge
     rw [<-hpge] at HVP hpg
     obtain ⟨q0,hq0⟩:∃ q0,q0=c.fr/pg:=⟨_,rfl⟩
     have hq0m:q0*pg<=c.fr:=by rw [hq0];exact Nat.div_mul_le_self c.fr pg
     have HQ0:=hid hq0
     have HQM:=hid hq0m
     have g1:((c.fr:Int).tdiv (pg:Int))=(q0:Int):=by rw [hq0];rfl
     have g2:((c.fr:Int)/(pg:Int))=(q0:Int):=by rw [hq0];rfl
     have hpg0:(pg:Int)≠0:=by omega
     have hq0n:q0<=524288:=by have:=Nat.div_le_self c.fr pg;omega
     have HUM:Hid (UmO w8 w8.drew S5 q (slNew v c L) v q0 0 pg c.tp):=⟨(Gr.refl w8).drew.touch _,⟨S5,v,fun b h=>.inl h,HV8.out.gr (Gr.refl w8).drew,OpUm.zero HOK.out q0⟩,fun i hi=>absurd hi (Nat.not_lt_zero _)⟩
     have u1:=HB38.out.cell (j:=0) rfl
     have u2:=HB58.out.cell (j:=0) rfl
     clear hB3 hB5 hXb hV8 hpge hq0 hq0m hS5
     obtain ⟨Sx,hSx⟩:∃ Sx:World->Prop,Sx=fun W'=>W'.cell? ⟨w.heap.size,0,none⟩=some (.pointer (some ⟨q,0,none⟩))/\W'.cell? ⟨w.heap.size+1,0,none⟩=some (.int .i64 c.fr):=⟨_,rfl⟩
     have x1:∀ p:Held Sx,p.w.cell? ⟨w.heap.size,0,none⟩=some (.pointer (some ⟨q,0,none⟩)):=fun p=>by have h:=Held.get hSx p;exact h.1
     have x2:∀ p:Held Sx,p.w.cell? ⟨w.heap.size+1,0,none⟩=some (.int .i64 c.fr):=fun p=>by have h:=Held.get hSx p;exact h.2
     have HS:Hid (∀ W',W'.cell? ⟨w.heap.size,0,none⟩=some (.pointer (some ⟨q,0,none⟩))/\W'.cell? ⟨w.heap.size+1,0,none⟩=some (.int .i64 c.fr)->Sx W'):=⟨fun W' h=>by rw [hSx];exact h⟩
     have hS0:=HS.out (w8.drew) (⟨u1,u2⟩)
     have inst:Inhabited (Held Sx):=⟨⟨_,hS0⟩⟩
     clear hSx
     refine wpIn_region_mixS Sx 6 [([0,1,2],3)] [4,5] wide_fn (by kernel_rfl) (by kernel_rfl) hS0 ?_
     refine segsIn_step ?_
     try simp only [opsAt,List.getElem?_cons_zero,List.getElem?_cons_succ]
     repeat (go_big_quiet_step (fail))
     refine wpQuiet_nil ?_
     gi_wp2_with ((refine ⟨trivial,?_⟩;gi_at_call 198;refine (callsIn_wide.2 (HVP.out _ (Gr.refl w8).drew)).mono ?_;rintro e w9 ⟨rfl,rfl⟩))
     refine ⟨.inr (Held.of (HS.out _ (⟨u1,u2⟩))),?_⟩
     refine segsIn_end ?_
     try simp only [opsAt,List.getElem?_cons_zero,List.getElem?_cons_succ]
     repeat (go_big_quiet_step (fail))
     refine wpQuiet_nil ?_
     refine NoPanic.normal ?_
     clear x1 x2 hS0 inst
     clear HS Sx
     clear u1 u2
     gi_wp2
     gi_loopw [17] (fun s17 wx=>∃ j:Nat,Hid (UmO w8 wx S5 q (slNew v c L) v q0 j pg c.tp)/\s17=.int .i64 ((q0+j:Nat):Int)) (fun s17 _=>c.tp-(intOf s17).toNat*pg)
     case atStart=>exact ⟨0,HUM,rfl⟩
     case round=>
      clear HUM
      obtain ⟨j,HU,rfl⟩:=hrel
      obtain ⟨Sj,v',hsj,hvj,hum⟩:=HU.out.vm
      have hVP:=fun (W:World) (g':Gr wr W)=>vm_page (hvj.gr g')
      rw [hum.pg,<-HPGE.out] at hVP
      have HVP2:=hid hVP
      have HVJ:=hid hvj
      have HSJ:=hid hsj
      have HOU:=hid hum
      have HBX3:=hid (HB38.out.touch HU.out.t (fun h=>by have:=(HS5.out _ h).2;omega))
      have HBX5:=hid (HB58.out.touch HU.out.t (fun h=>by have:=(HS5.out _ h).2;omega))
      have HBXX:=hid (HX8.out.touch HU.out.t (fun h=>by have:=(HS5.out _ h).2;omega))
      have HCYX:=hid (HCY8.out.touch HU.out.t (fun k hk h=>by have:=hk.1;have:=(HS5.out _ h).2;omega))
      obtain ⟨qq,hqq⟩:∃ qq,qq=q0+j:=⟨_,rfl⟩
      obtain ⟨pp,hpp⟩:∃ pp,pp=qq*pg:=⟨_,rfl⟩
      have hppb:pp<=1048576:=by
       rcases Nat.eq_zero_or_pos j with h0 | h0
       ·rw [hpp,hqq,h0,Nat.add_zero];have:=HQM.out;omega
       ·have:=HU.out.q1 (j-1) (by omega)
        have e:pp=(q0+(j-1))*pg+pg:=by rw [hpp,hqq,show q0+j=(q0+(j-1))+1 by omega,Nat.add_mul,Nat.one_mul]
        omega
      have hqb:qq<=pp:=by rw [hpp];exact Nat.le_mul_of_pos_right _ (by omega)
      have hmul:((qq:Int)*(pg:Int))=(pp:Int):=by rw [hpp];push_cast;rfl
      have HQQ:=hid (And.intro hqq hpp)
      rw [<-hqq]
      have u1:=HBX3.out.cell (j:=0) rfl
      have u2:=HBX5.out.cell (j:=1) rfl
      clear hVP hvj hsj hqq hpp hum
      by_cases hlt:pp<c.tp
      ·have e1:decide ((pp:Int)<(c.tp:Int))=true:=decide_eq_true (by omega)
       have e2:decide (pp<c.tp)=true:=decide_eq_true hlt
       have HLT:=hid hlt
       have hlk:=wds_look (HCYX.out.gr (Gr.refl wr).drew).wd (q:=qq) (by omega)
       have hon:(slNew v c L).on (fun i=>!(slNew v c L).is i) qq=(slNew v c L).on (fun _=>true) qq:=Sl.on_congr fun i _=>by rw [slNew_is];rfl
       rw [hon] at hlk
       obtain ⟨N1,hN1⟩:∃ N1,N1=(slNew v c L).on (fun _=>true) qq:=⟨_,rfl⟩
       have HN1:=hid hN1
       rw [<-hN1] at hlk
       have HLK:=hid hlk
       clear hlt hN1 hon hlk
       gi_upto_region 23 with (fail)
       obtain ⟨Sx,hSx⟩:∃ Sx:World->Prop,Sx=fun W'=>W'.cell? ⟨w.heap.size,0,none⟩=some (.pointer (some ⟨q,0,none⟩))/\W'.cell? ⟨w.heap.size+1,1,none⟩=some (.int .i64 c.tp):=⟨_,rfl⟩
       have x1:∀ p:Held Sx,p.w.cell? ⟨w.heap.size,0,none⟩=some (.pointer (some ⟨q,0,none⟩)):=fun p=>by have h:=Held.get hSx p;exact h.1
       have x2:∀ p:Held Sx,p.w.cell? ⟨w.heap.size+1,1,none⟩=some (.int .i64 c.tp):=fun p=>by have h:=Held.get hSx p;exact h.2
       have HS:Hid (∀ W',W'.cell? ⟨w.heap.size,0,none⟩=some (.pointer (some ⟨q,0,none⟩))/\W'.cell? ⟨w.heap.size+1,1,none⟩=some (.int .i64 c.tp)->Sx W'):=⟨fun W' h=>by rw [hSx];exact h⟩
       have hS0:=HS.out (wr.drew) (⟨u1,u2⟩)
       have inst:Inhabited (Held Sx):=⟨⟨_,hS0⟩⟩
       clear hSx
       refine wpIn_region_mixS Sx 7 [([0,1,4,5],2)] [3,6] wide_fn (by kernel_rfl) (by kernel_rfl) hS0 ?_
       refine segsIn_step ?_
       try simp only [opsAt,List.getElem?_cons_zero,List.getElem?_cons_succ]
       repeat (go_big_quiet_step (fail))
       refine wpQuiet_nil ?_
       gi_wp2_with ((refine ⟨trivial,?_⟩;gi_at_call 198;refine (callsIn_wide.2 (HVP2.out _ (Gr.refl wr).drew)).mono ?_;rintro e w10 ⟨rfl,rfl⟩))
       refine ⟨.inr (Held.of (HS.out _ (⟨u1,u2⟩))),?_⟩
       refine segsIn_end ?_
       try simp only [opsAt,List.getElem?_cons_zero,List.getElem?_cons_succ]
       repeat (go_big_quiet_step (fail))
       refine wpQuiet_nil ?_
       refine NoPanic.normal ?_
       clear x1 x2 hS0 inst
       clear HS Sx
       have z1:=(HBXX.out.gr (Gr.refl wr).drew).cell (j:=0) rfl
       have zl:=(HBXX.out.gr (Gr.refl wr).drew).lt
       have z2:=(HCYX.out.gr (Gr.refl wr).drew).rc.cell (j:=14) rfl
       have zl2:=(HCYX.out.gr (Gr.refl wr).drew).rc.lt
       have hlk:=HLK.out
       have u3:=HBX3.out.lt
       have hzw:=(Gr.refl wr).drew.size
       have hzt:=HU.out.t.size
       by_cases hz:N1=0
       ·have d0:((N1:Int)==0)=true:=by simp [hz]
        have HZ:=hid hz
        clear hz
        gi_wp2_with (refine ⟨trivial,?_⟩;gi_at_call 199;refine (callsIn_wide.2 (vm_unmap (HVJ.out.gr (Gr.refl wr).drew) (qq:Int))).mono ?_;rintro e w11 ⟨rfl,ht11,hv11⟩;have HT11:=hid ht11;have HV11:=hid hv11;clear ht11 hv11)
        go_roundw
        case rel=>
         refine ⟨j+1,⟨⟨?_,⟨plus Sj wr.drew,_,fun b hb=>?_,HV11.out,?_⟩,fun i hi=>?_⟩⟩,?_⟩
         ·exact (HU.out.t.trans ((Gr.refl wr).drew.touch _)).trans' HT11.out (fun b hb h=>(HSJ.out b h).elim id (fun h=>by omega))
         ·rcases hb with h | h
          ·exact HSJ.out b h
          ·right;omega
         ·have:=HOU.out.drop (j:=j) (by rw [<-HQQ.out.1,<-HN1.out];exact HZ.out)
          rw [<-HQQ.out.1] at this
          exact this
         ·rcases Nat.lt_or_ge i j with h | h
          ·exact HU.out.q1 i h
          ·obtain rfl:i=j:=by omega
           rw [<-HQQ.out.1,<-HQQ.out.2];exact HLT.out
         ·rw [show q0+(j+1)=qq+1 by rw [HQQ.out.1];omega]
          go_num
        case measure=>
         have h1:=HLT.out
         have h2:=HQQ.out.2
         simp only [intOf]
         rw [show ((qq:Int)+1).toNat=qq+1 by omega,Int.toNat_natCast,Nat.add_mul,Nat.one_mul,<-h2]
         omega
       ·have d0:((N1:Int)==0)=false:=by simp;exact hz
        have HZ:=hid hz
        clear hz
        gi_wp2
        go_roundw
        case rel=>
         refine ⟨j+1,⟨⟨HU.out.t.trans ((Gr.refl wr).drew.touch _),⟨Sj,_,HSJ.out,HVJ.out.gr (Gr.refl wr).drew,?_⟩,fun i hi=>?_⟩⟩,?_⟩
         ·exact HOU.out.keep (j:=j) (by rw [<-HQQ.out.1,<-HN1.out];exact HZ.out)
         ·rcases Nat.lt_or_ge i j with h | h
          ·exact HU.out.q1 i h
          ·obtain rfl:i=j:=by omega
           rw [<-HQQ.out.1,<-HQQ.out.2];exact HLT.out
         ·rw [show q0+(j+1)=qq+1 by rw [HQQ.out.1];omega]
          go_num
        case measure=>
         have h1:=HLT.out
         have h2:=HQQ.out.2
         simp only [intOf]
         rw [show ((qq:Int)+1).toNat=qq+1 by omega,Int.toNat_natCast,Nat.add_mul,Nat.one_mul,<-h2]
         omega
      ·have e1:decide ((pp:Int)<(c.tp:Int))=false:=decide_eq_false (by omega)
       have e2:decide (pp<c.tp)=false:=decide_eq_false hlt
       have HLT:=hid hlt
       clear hlt
       gi_upto_region 23 with (fail)
       obtain ⟨Sx,hSx⟩:∃ Sx:World->Prop,Sx=fun W'=>W'.cell? ⟨w.heap.size,0,none⟩=some (.pointer (some ⟨q,0,none⟩))/\W'.cell? ⟨w.heap.size+1,1,none⟩=some (.int .i64 c.tp):=⟨_,rfl⟩
       have x1:∀ p:Held Sx,p.w.cell? ⟨w.heap.size,0,none⟩=some (.pointer (some ⟨q,0,none⟩)):=fun p=>by have h:=Held.get hSx p;exact h.1
       have x2:∀ p:Held Sx,p.w.cell? ⟨w.heap.size+1,1,none⟩=some (.int .i64 c.tp):=fun p=>by have h:=Held.get hSx p;exact h.2
       have HS:Hid (∀ W',W'.cell? ⟨w.heap.size,0,none⟩=some (.pointer (some ⟨q,0,none⟩))/\W'.cell? ⟨w.heap.size+1,1,none⟩=some (.int .i64 c.tp)->Sx W'):=⟨fun W' h=>by rw [hSx];exact h⟩
       have hS0:=HS.out (wr.drew) (⟨u1,u2⟩)
       have inst:Inhabited (Held Sx):=⟨⟨_,hS0⟩⟩
       clear hSx
       refine wpIn_region_mixS Sx 7 [([0,1,4,5],2)] [3,6] wide_fn (by kernel_rfl) (by kernel_rfl) hS0 ?_
       refine segsIn_step ?_
       try simp only [opsAt,List.getElem?_cons_zero,List.getElem?_cons_succ]
       repeat (go_big_quiet_step (fail))
       refine wpQuiet_nil ?_
       gi_wp2_with ((refine ⟨trivial,?_⟩;gi_at_call 198;refine (callsIn_wide.2 (HVP2.out _ (Gr.refl wr).drew)).mono ?_;rintro e w10 ⟨rfl,rfl⟩))
       refine ⟨.inr (Held.of (HS.out _ (⟨u1,u2⟩))),?_⟩
       refine segsIn_end ?_
       try simp only [opsAt,List.getElem?_cons_zero,List.getElem?_cons_succ]
       repeat (go_big_quiet_step (fail))
       refine wpQuiet_nil ?_
       refine NoPanic.normal ?_
       clear x1 x2 hS0 inst
       clear HS Sx
       clear u1 u2
       have z1:=(HBXX.out.gr (Gr.refl wr).drew).cell (j:=0) rfl
       have zl:=(HBXX.out.gr (Gr.refl wr).drew).lt
       gi_wp2
       have hzt:=HU.out.t.size
       have hzw:=(Gr.refl wr).drew.size
       have hS5D:¬ S5 D:=fun h=>by have:=(HS5.out _ h).2;have:=HK8.out.2.2;omega
       have hD5:wr.drew.heap[D]?=some (.deferred (some [])):=by
        have h2:=HK8.out.2.1
        rw [(Gr.refl wr).drew.block (by omega),HU.out.t.block D h2 hS5D]
        exact HK8.out.1
       refine ⟨by simp,.inl ⟨_,_,rfl,run_takeDeferred hD5,?_⟩⟩
       have tt:=touch_put1 wr.drew D (.deferred none)
       have hD0:=HD0.out
       refine ⟨.tuple #[.pointer (some ⟨y,0,none⟩),.int .i64 0],?_,?_,.inr ⟨L,HI.out,.inr ⟨by have h1:=HBIG.out;have h2:=HSN.out;omega,y,_,_,Sj,v',j,rfl,(HCYX.out.gr (Gr.refl wr).drew).touch tt (fun k hk e=>by have:=hk.2;omega),(HVJ.out.gr (Gr.refl wr).drew).touch tt (fun b hb _ h=>?_),fun b hb=>?_,fun b hb=>⟨?_,fun h=>?_⟩,?_,?_,?_,?_⟩⟩⟩
       ·simp [results,Tryz.f151,go_sem]
       ·have a1:Touch (fun b=>b=g\/S b) w w1:=HG01.out.touch _
        have a2:=a1.trans (HT2.out.mono (fun i _ h=>.inr h.1))
        have a3:=a2.trans ((HG3.out.trans (HTX.out W7 (HT5.out W7 HA7.out.t))).touch _)
        have a4:=a3.trans (HT8.out.mono (fun i _ h=>.inl h))
        have a5:=a4.trans (HU.out.t.mono (fun i _ h=>.inr (HS5.out i h).1))
        exact (a5.trans ((Gr.refl wr).drew.touch _)).trans' tt (fun b hb h=>by omega)
       ·rcases HSJ.out b hb with h' | h'
        ·exact hS5D (h ▸ h')
        ·have:=HK8.out.2.1;omega
       ·rcases HSJ.out b hb with h' | h'
        ·exact .inl (HS5.out b h').1
        ·right;omega
       ·have:=hb.1;omega
       ·rcases HSJ.out b h with h' | h'
        ·have:=(HS5.out b h').2;have:=hb.1;omega
        ·have:=hb.2;omega
       ·rw [<-HPGE.out,<-HQ0.out];exact HOU.out
       ·rw [<-HPGE.out,<-HQ0.out,<-HQQ.out.1,<-HQQ.out.2];have:=HLT.out;omega
       ·intro i hi
        rw [<-HPGE.out,<-HQ0.out];exact HU.out.q1 i hi
       ·exact ((HR8.out.touch HU.out.t (fun h=>HNO.out.2.1 (HS5.out r h).1) (fun h=>HNO.out.2.2.1 (HS5.out g h).1)).gr (Gr.refl wr).drew).touch tt (fun h=>by omega) (fun h=>by omega)
 ·clear z3 z50 z51 z52 z53 z54 z55 z56 zl3 zl5
  have HNOL:=hid hno
  clear hno
  gi_wp2
  refine ⟨.tuple #[.pointer none,.int .i64 25],?_,?_,.inl ⟨HNOL.out,rfl,HV2.out.mono (fun b hb=>hb.1.1),(HR.out.gr HG01.out).touch HT2.out (fun h=>HNO.out.2.1 h.1) (fun h=>HNO.out.2.2.1 h.1)⟩⟩
  ·simp [results,Tryz.f151,go_sem]
  ·have a1:Touch (fun b=>b=g\/S b) w w1:=HG01.out.touch _
   exact a1.trans (HT2.out.mono (fun i _ h=>.inr h.1))
end
end Go.Proofs.YthgdadohijgleaaGreatDoor
end
section
namespace Go.Proofs.YthgdadohijgleaaGreatDoor
open Go.RowKit Go.Shelf Word
def RcOpen (w:World) (s:Sl) (A0:Option Addr) (cp:Nat) (u:Vm) (e:Ending) (w':World):Prop:=
 ∃ (y:Nat) (a:RcAd),e=.returned (.tuple #[.pointer (some ⟨y,0,none⟩),.int .i64 0])/\Gr w w'/\RCy w' y a s u/\a.A=A0/\a.cp=cp/\w.heap.size<=y/\w.heap.size<=a.bm/\∀ b,a.OA=some b->w.heap.size<=b.block
section
variable {w:World} {A0 A:Option Addr} {cp cr:Nat} {u:Vm} {rs:List Int} {s:Sl}
set_option maxRecDepth 100000 in
set_option maxHeartbeats 6400000 in
theorem rc_open (hf:FullN s.n u) (hW:Wrds w A0 cp s.n u) (hA:IntsAt w A rs) (hlen:rs.length<=64) (hM:Marks u rs s.n s.L) (hM2:s.n<=1100) (hst:SlSt s) (hmv:s.mv=List.replicate (nbl (sizes s.L) s.cf.bk) false):
  Calls Tryz.prog 153 #[.slice A0 s.n cp,.int .i64 s.pg,.slice A rs.length cr,cfV s.cf] w (RcOpen w s A0 cp u):=by
 have HMK:=hid hM
 have HW:=hid hW
 have HST:=hid hst
 have HMV:=hid hmv
 have HMY:=hid (fun W=>ref24_may hst.cf hst.pg.1 (by omega) W)
 have HRC:=hid (fun (W:World) (g:Gr w W)=>ref20n_reachedN (cr:=cr) hf (hW.gr g) (fun i hi=>by
  obtain ⟨b,o,e,hb,h0⟩:=hA i hi
  exact ⟨b,o,e,Nat.lt_of_lt_of_le hb g.size,(g.cell hb _).trans h0⟩) hlen hM2)
 unfold ReachEndN at HRC
 have hlm:=hst.cf.ln
 have htn:=hst.cf.tn
 have hfit:=hst.fit
 have hbk:=hst.bk
 have HGD:=hid hst.good
 have hL1:=hst.good.len
 have hsN:=hst.N_le
 have HNG:Hid (∀ b,(Value.slice A0 s.n cp).ownBlock=some b->b<w.heap.size):=⟨fun b hb=>(own_lt hW hb).2⟩
 obtain ⟨M,hMn⟩:∃ M,M=s.n:=⟨_,rfl⟩
 have HMN:=hid hMn
 rw [<-hMn] at HMY HRC hM2 hlm htn hL1 hsN
 rw [<-hMn]
 obtain ⟨pg,hpg⟩:∃ pg,pg=s.pg:=⟨_,rfl⟩
 have HPG:=hid hpg
 rw [<-hpg] at HMY ⊢
 have HIN:=hid hst.inn
 obtain ⟨fr,hfr⟩:∃ x,x=s.cf.fr:=⟨_,rfl⟩
 obtain ⟨tp,htp⟩:∃ x,x=s.cf.tp:=⟨_,rfl⟩
 obtain ⟨tt,htt⟩:∃ x,x=s.cf.to:=⟨_,rfl⟩
 obtain ⟨lm,hlmm⟩:∃ x,x=s.cf.lm:=⟨_,rfl⟩
 obtain ⟨bk,hbkk⟩:∃ x,x=s.cf.bk:=⟨_,rfl⟩
 obtain ⟨st,hstt⟩:∃ x,x=s.cf.st:=⟨_,rfl⟩
 obtain ⟨ah,hahh⟩:∃ x,x=s.cf.ah:=⟨_,rfl⟩
 have HCF:=hid (And.intro hfr (And.intro htp (And.intro htt (And.intro hlmm (And.intro hbkk (And.intro hstt hahh))))))
 unfold cfV at HMY ⊢
 rw [<-hfr,<-htp,<-htt,<-hlmm,<-hbkk,<-hstt,<-hahh] at HMY ⊢
 rw [<-hfr,<-htp] at HIN
 rw [<-htp] at htn
 rw [<-hlmm] at hlm hfit
 rw [<-htt] at hfit
 rw [<-hbkk] at hbk
 have rb:=Rec.new w 216 [.int .i64 fr,.int .i64 tp,.int .i64 tt,.int .i64 lm,.int .i64 bk,.int .i64 st,.int .i64 ah]
 have HG0:=hid ((Gr.refl w).alloc (.cells #[.int .i64 fr,.int .i64 tp,.int .i64 tt,.int .i64 lm,.int .i64 bk,.int .i64 st,.int .i64 ah] 216))
 obtain ⟨i0,hi0,hz0,hz1,hz2'⟩:=info_parts infoBool
 clear hf hW hA hM hst hmv hMn hpg hfr htp htt hlmm hbkk hstt hahh
 go_enter Tryz.func153,Tryz.ntmps153
 go_upto_region 1 with (fail)
 obtain ⟨W0,hW0⟩:∃ W0,W0=w.alloc (.cells #[.int .i64 fr,.int .i64 tp,.int .i64 tt,.int .i64 lm,.int .i64 bk,.int .i64 st,.int .i64 ah] 216):=⟨_,rfl⟩
 rw [show w.alloc (.cells ([.int .i64 fr,.int .i64 tp,.int .i64 tt,.int .i64 lm,.int .i64 bk,.int .i64 st,.int .i64 ah]:List Value).toArray 216)=W0 from hW0.symm] at rb
 rw [<-hW0] at HG0 ⊢
 clear hW0
 have HRB:=hid rb
 have z0:=rb.cell (j:=0) rfl
 have z1:=rb.cell (j:=1) rfl
 have z2:=rb.cell (j:=2) rfl
 have z3:=rb.cell (j:=3) rfl
 have z4:=rb.cell (j:=4) rfl
 have z5:=rb.cell (j:=5) rfl
 have z6:=rb.cell (j:=6) rfl
 have zl:=rb.lt
 clear rb
 go_upto_region 6 with (first
  | (go_at_call 256;refine (HMY.out _).mono ?_;rintro e w1 ⟨rfl,hg1⟩;have HG1:=hid (HG0.out.trans hg1);have HB1:=hid (HRB.out.gr hg1);clear hg1)
  | (go_at_call 257;refine (HRC.out _ HG1.out).mono ?_;rintro e w2 ⟨OA,oc,L',ok,rfl,hg2,hok1,hok2,hok3⟩;have HOK:Hid ((ok=true->ObjsAt w2 OA L'/\Marks u rs M L')/\(ok=false->¬ Sound u rs M)):=⟨⟨hok1,hok2⟩⟩;have HNEW:Hid (∀ a,OA=some a->w1.heap.size<=a.block):=⟨hok3⟩;have HG12:=hid hg2;have HG2:=hid (HG1.out.trans hg2);have HB2:=hid (HB1.out.gr hg2);clear hg2 hok1 hok2 hok3;have hokt:ok=true:=by {cases ok with | true=>rfl | false=>exact absurd HMK.out.sound (by rw [<-HMN.out];exact HOK.out.2 rfl)};subst hokt))
 obtain ⟨hO,hM'⟩:=HOK.out.1 (by first | rfl | trivial)
 have hu':=hM'.unique (by rw [HMN.out];exact HMK.out)
 subst hu'
 have HO:=hid hO
 obtain ⟨N,hN⟩:∃ N,N=s.L.length:=⟨_,rfl⟩
 have HN:=hid hN
 rw [<-hN] at hL1 ⊢
 have HSZ:=hid (fun W (g:Gr w2 W)=>sizes13 (c:=oc) (hO.gr g) HGD.out (by have:=HMN.out;omega))
 have HBK:=hid (fun W (g:Gr w2 W)=>ref23_blocks (c:=oc) (hO.gr g) HGD.out (by have:=HMN.out;omega) bk hbk.1 hbk.2)
 rw [<-hN] at HSZ HBK
 clear hO hM' hN z0 z1 z2 z3 z4 z5 z6 zl HOK
 go_wp2_with (fail)
 go_loopw [12] (fun s12 wr=>∃ i:Nat,i<=N/\Hid (Gr w2 wr)/\s12=.int .i64 i) (fun s12 _=>N-(intOf s12).toNat)
 case atStart=>exact ⟨0,Nat.zero_le _,⟨Gr.refl _⟩,rfl⟩
 case round=>
  obtain ⟨i,hi,HG,rfl⟩:=hrel
  have hbx:=HB2.out.gr HG.out
  have z0:=hbx.cell (j:=0) rfl
  have z1:=hbx.cell (j:=1) rfl
  have z2:=hbx.cell (j:=2) rfl
  have z3:=hbx.cell (j:=3) rfl
  have zl:=hbx.lt
  clear hbx
  by_cases hlt:i<N
  ·have hil:i<s.L.length:=by have:=HN.out;omega
   obtain ⟨go,rfl,hgl,q0,q1⟩:=(HO.out.gr HG.out) i hil
   obtain ⟨i1,i2⟩:=HIN.out _ (List.getElem_mem hil)
   obtain ⟨a,ha⟩:∃ a,a=s.L[i].1:=⟨_,rfl⟩
   obtain ⟨sz,hs⟩:∃ sz,sz=s.L[i].2:=⟨_,rfl⟩
   rw [<-ha] at i1 i2 q0
   rw [<-hs] at i2 q1
   have hltI:(i:Int)<(N:Int):=by omega
   have f1:decide ((a:Int)<(fr:Int))=false:=decide_eq_false (by omega)
   have f2:decide (a<fr)=false:=decide_eq_false (by omega)
   have f3:decide ((tp:Int)<(a:Int)+(sz:Int))=false:=decide_eq_false (by omega)
   have f4:decide (tp<a+sz)=false:=decide_eq_false (by omega)
   have hws:IntKind.i64.wrap ((a:Int)+(sz:Int))=(a:Int)+(sz:Int):=IntWalk.i64_in _ (by omega)
   have HLT:=hid hlt
   clear hil ha hs hlt
   go_upto_region 9 with (fail)
   obtain ⟨Sx,hSx⟩:∃ Sx:World->Prop,Sx=fun W'=>(W'.cell? ⟨w.heap.size,0,none⟩=some (.int .i64 fr)/\W'.cell? ⟨w.heap.size,1,none⟩=some (.int .i64 tp))/\W'.cell? ⟨go,i*2,none⟩=some (.int .i64 a)/\W'.cell? ⟨go,i*2+1,none⟩=some (.int .i64 sz):=⟨_,rfl⟩
   have x0:∀ p:Held Sx,p.w.cell? ⟨w.heap.size,0,none⟩=some (.int .i64 fr):=fun p=>by have h:=Held.get hSx p;exact h.1.1
   have x1:∀ p:Held Sx,p.w.cell? ⟨w.heap.size,1,none⟩=some (.int .i64 tp):=fun p=>by have h:=Held.get hSx p;exact h.1.2
   have x2:∀ p:Held Sx,p.w.cell? ⟨go,i*2,none⟩=some (.int .i64 a):=fun p=>by have h:=Held.get hSx p;exact h.2.1
   have x3:∀ p:Held Sx,p.w.cell? ⟨go,i*2+1,none⟩=some (.int .i64 sz):=fun p=>by have h:=Held.get hSx p;exact h.2.2
   have HS:Hid (∀ W',(W'.cell? ⟨w.heap.size,0,none⟩=some (.int .i64 fr)/\W'.cell? ⟨w.heap.size,1,none⟩=some (.int .i64 tp))/\W'.cell? ⟨go,i*2,none⟩=some (.int .i64 a)/\W'.cell? ⟨go,i*2+1,none⟩=some (.int .i64 sz)->Sx W'):=⟨fun W' h=>by rw [hSx];exact h⟩
   have hS0:=HS.out (wr.drew) (⟨⟨z0,z1⟩,q0,q1⟩)
   have inst:Inhabited (Held Sx):=⟨⟨_,hS0⟩⟩
   clear hSx
   refine wp_region_mixS Sx 24 [] [0,1,2,3,4,5,6,7,8,9,10,11,12,13,14,15,16,17,18,19,20,21,22,23] (by kernel_rfl) (by kernel_rfl) hS0 ?_
   refine segs_end ?_
   try simp only [opsAt,List.getElem?_cons_zero,List.getElem?_cons_succ]
   repeat (go_big_quiet_step (fail))
   refine wpQuiet_nil ?_
   refine NoPanic.normal ?_
   clear x0 x1 x2 x3 hS0 inst
   clear HS Sx
   go_wp2
   go_round
   case rel=>exact ⟨i+1,HLT.out,⟨HG.out.drew⟩,by go_num⟩
   case measure=>have:=HLT.out;simp [intOf];omega
  ·have hltI:¬ (i:Int)<(N:Int):=by omega
   obtain ⟨sz,hsz2⟩:∃ x,x=sizes s.L:=⟨_,rfl⟩
   have HSS:=hid hsz2
   rw [<-hsz2] at HSZ hfit hsN
   have f1:decide ((lm:Int)-(tt:Int)<(sz:Int))=false:=decide_eq_false (by omega)
   obtain ⟨nb,hnb⟩:∃ nb,nb=nbl (sizes s.L) bk:=⟨_,rfl⟩
   have HNB:=hid hnb
   rw [<-hnb] at HBK
   have hnbb:nb<=1048576:=by rw [hnb];have:=nbl_le (n:=sizes s.L) hbk.1;omega
   have HB8:Hid (i0.bytes*nb<=281474976710656):=⟨by rw [hz2'];omega⟩
   have HML:Hid (nb<=maxLen):=⟨by unfold maxLen;omega⟩
   clear hsz2 hlt hnb
   go_upto_region 11 with (fail)
   obtain ⟨Sx,hSx⟩:∃ Sx:World->Prop,Sx=fun W'=>W'.cell? ⟨w.heap.size,2,none⟩=some (.int .i64 tt)/\W'.cell? ⟨w.heap.size,3,none⟩=some (.int .i64 lm):=⟨_,rfl⟩
   have x2:∀ p:Held Sx,p.w.cell? ⟨w.heap.size,2,none⟩=some (.int .i64 tt):=fun p=>by have h:=Held.get hSx p;exact h.1
   have x3:∀ p:Held Sx,p.w.cell? ⟨w.heap.size,3,none⟩=some (.int .i64 lm):=fun p=>by have h:=Held.get hSx p;exact h.2
   have HS:Hid (∀ W',W'.cell? ⟨w.heap.size,2,none⟩=some (.int .i64 tt)/\W'.cell? ⟨w.heap.size,3,none⟩=some (.int .i64 lm)->Sx W'):=⟨fun W' h=>by rw [hSx];exact h⟩
   have hS0:=HS.out (wr.drew) (⟨z2,z3⟩)
   have inst:Inhabited (Held Sx):=⟨⟨_,hS0⟩⟩
   clear hSx
   refine wp_region_mixS Sx 8 [([0,2,3,4,5,6],1)] [7] (by kernel_rfl) (by kernel_rfl) hS0 ?_
   refine segs_step ?_
   try simp only [opsAt,List.getElem?_cons_zero,List.getElem?_cons_succ]
   repeat (go_big_quiet_step (fail))
   refine wpQuiet_nil ?_
   go_wp2_with ((go_at_call 258;refine (HSZ.out _ HG.out.drew).mono ?_;rintro e w5 ⟨rfl,rfl⟩))
   refine ⟨.inr (Held.of (HS.out _ (⟨z2,z3⟩))),?_⟩
   refine segs_end ?_
   try simp only [opsAt,List.getElem?_cons_zero,List.getElem?_cons_succ]
   repeat (go_big_quiet_step (fail))
   refine wpQuiet_nil ?_
   refine NoPanic.normal ?_
   clear x2 x3 hS0 inst
   clear HS Sx
   go_upto_region 13 with (fail)
   clear z0 z1 z2 z3 zl
   obtain ⟨Sx,hSx⟩:∃ Sx:World->Prop,Sx=fun W'=>Rec W' w.heap.size 216 [.int .i64 fr,.int .i64 tp,.int .i64 tt,.int .i64 lm,.int .i64 bk,.int .i64 st,.int .i64 ah]:=⟨_,rfl⟩
   have x0:∀ p:Held Sx,p.w.cell? ⟨w.heap.size,0,none⟩=some (.int .i64 fr):=fun p=>by have h:=Held.get hSx p;exact h.cell (j:=0) rfl
   have x1:∀ p:Held Sx,p.w.cell? ⟨w.heap.size,1,none⟩=some (.int .i64 tp):=fun p=>by have h:=Held.get hSx p;exact h.cell (j:=1) rfl
   have x2:∀ p:Held Sx,p.w.cell? ⟨w.heap.size,2,none⟩=some (.int .i64 tt):=fun p=>by have h:=Held.get hSx p;exact h.cell (j:=2) rfl
   have x3:∀ p:Held Sx,p.w.cell? ⟨w.heap.size,3,none⟩=some (.int .i64 lm):=fun p=>by have h:=Held.get hSx p;exact h.cell (j:=3) rfl
   have x4:∀ p:Held Sx,p.w.cell? ⟨w.heap.size,4,none⟩=some (.int .i64 bk):=fun p=>by have h:=Held.get hSx p;exact h.cell (j:=4) rfl
   have x5:∀ p:Held Sx,p.w.cell? ⟨w.heap.size,5,none⟩=some (.int .i64 st):=fun p=>by have h:=Held.get hSx p;exact h.cell (j:=5) rfl
   have x6:∀ p:Held Sx,p.w.cell? ⟨w.heap.size,6,none⟩=some (.int .i64 ah):=fun p=>by have h:=Held.get hSx p;exact h.cell (j:=6) rfl
   have HS:Hid (∀ W',Rec W' w.heap.size 216 [.int .i64 fr,.int .i64 tp,.int .i64 tt,.int .i64 lm,.int .i64 bk,.int .i64 st,.int .i64 ah]->Sx W'):=⟨fun W' h=>by rw [hSx];exact h⟩
   have hS0:=HS.out _ (HB2.out.gr (HG.out.trans (Gr.refl wr).drew.drew))
   have inst:Inhabited (Held Sx):=⟨⟨_,hS0⟩⟩
   clear hSx
   refine wp_region_mixS Sx 13 [([0,1,2,3,4,5,6],7),([],8),([],9),([],10)] [11,12] (by kernel_rfl) (by kernel_rfl) hS0 ?_
   refine segs_step ?_
   try simp only [opsAt,List.getElem?_cons_zero,List.getElem?_cons_succ]
   repeat (go_big_quiet_step (fail))
   refine wpQuiet_nil ?_
   go_wp2_with ((go_at_call 259;refine (HBK.out _ (HG.out.trans (Gr.refl wr).drew.drew)).mono ?_;rintro e w5 ⟨rfl,rfl⟩))
   refine ⟨.inr (Held.of (HS.out _ (HB2.out.gr (HG.out.trans (Gr.refl wr).drew.drew)))),?_⟩
   refine segs_step ?_
   try simp only [opsAt,List.getElem?_cons_zero,List.getElem?_cons_succ]
   repeat (go_big_quiet_step (fail))
   refine wpQuiet_nil ?_
   go_wp2_with ((at_make;refine wpList_make_full _ rfl _ _ 219 rfl 0 4 i0 (.bool false) 1 Tryz.underlying219 hi0 hz0 hz1 .i64 .i64 _ _ nb rfl rfl (by omega) (by omega) HB8.out HML.out (Nat.zero_le _) ?_;intro w6 hown hgrow;have HOW:=hid hown;have HG6:Hid (Gr wr.drew.drew w6):=⟨(grownBy_touch hgrow (fun _=>False) (fun k e _=>by cases e)).gr⟩;clear hown hgrow;go_wp2))
   refine ⟨.inr (Held.of (HS.out _ (HB2.out.gr ((HG.out.trans (Gr.refl wr).drew.drew).trans HG6.out)))),?_⟩
   have HRN:=hid (Rec.new w6 221 [.int .i64 fr,.int .i64 tp,.int .i64 tt,.int .i64 lm,.int .i64 bk,.int .i64 st,.int .i64 ah,.slice OA N oc,.slice A0 M cp,.int .i64 pg,.slice (some ⟨wr.drew.drew.heap.size,0,none⟩) nb nb])
   have HGN:=hid ((Gr.refl w6).alloc (.cells #[.int .i64 fr,.int .i64 tp,.int .i64 tt,.int .i64 lm,.int .i64 bk,.int .i64 st,.int .i64 ah,.slice OA N oc,.slice A0 M cp,.int .i64 pg,.slice (some ⟨wr.drew.drew.heap.size,0,none⟩) nb nb] 221))
   refine segs_step ?_
   try simp only [opsAt,List.getElem?_cons_zero,List.getElem?_cons_succ]
   repeat (go_big_quiet_step (fail))
   refine wpQuiet_nil ?_
   go_wp2_with ((fail))
   refine ⟨.inr (Held.of (HS.out _ (HB2.out.gr ((HG.out.trans (Gr.refl wr).drew.drew).trans HG6.out)))),?_⟩
   refine segs_step ?_
   try simp only [opsAt,List.getElem?_cons_zero,List.getElem?_cons_succ]
   repeat (go_big_quiet_step (fail))
   refine wpQuiet_nil ?_
   go_wp2_with ((fail))
   refine ⟨.inr (Held.of (HS.out _ (HB2.out.gr (((HG.out.trans (Gr.refl wr).drew.drew).trans HG6.out).trans HGN.out)))),?_⟩
   refine segs_end ?_
   try simp only [opsAt,List.getElem?_cons_zero,List.getElem?_cons_succ]
   repeat (go_big_quiet_step (fail))
   refine wpQuiet_nil ?_
   refine NoPanic.normal ?_
   clear x0 x1 x2 x3 x4 x5 x6 hS0 inst
   clear HS Sx
   go_wp2
   go_ret2
   have hz6:wr.heap.size<=w6.heap.size:=HG6.out.size
   have hb6:wr.heap.size<w6.heap.size:=(own_lt HOW.out rfl).2
   have hzG:=HG.out.size
   have hz2:=HG2.out.size
   have hz12:=HG12.out.size
   have hz1:=HG1.out.size
   obtain ⟨f1,f2,f3,f4,f5,f6,f7⟩:=HCF.out
   have hl:s.mv.length=nb:=by rw [HMV.out,List.length_replicate,HNB.out,f5]
   have hgW:=((HG.out.trans (Gr.refl wr).drew.drew).trans HG6.out).trans HGN.out
   refine ⟨w6.heap.size,⟨OA,oc,A0,cp,wr.drew.drew.heap.size,nb⟩,rfl,HG2.out.trans hgW,⟨?_,HO.out.gr hgW,(HW.out.gr (HG2.out.trans hgW)),?_,?_,fun b hb hne=>?_,fun b hb=>?_⟩,rfl,rfl,?_,?_,fun b hb=>?_⟩
   ·show Rec _ _ _ (rcL s _)
    unfold rcL
    dsimp only
    rw [hl,<-f1,<-f2,<-f3,<-f4,<-f5,<-f6,<-f7,<-HN.out,<-HMN.out,<-HPG.out]
    exact HRN.out
   ·have h:=own_gr HOW.out HGN.out
    rw [show (Value.bool false).cells=#[.bool false] from rfl,madeCells_one,Nat.mul_one] at h
    have hb:bls s.mv=List.replicate nb (.bool false):=by
     unfold bls
     rw [HMV.out,List.map_replicate,HNB.out,f5]
    rw [hl,hb]
    exact h
   ·show w6.heap.size≠wr.heap.size
    omega
   ·show b.block≠wr.heap.size
    have h0:0<s.L.length:=by omega
    obtain ⟨g,e,hgl,-⟩:=HO.out 0 h0
    have hb:OA=some b:=hb
    rw [hb] at e
    cases e
    show g≠_
    omega
   ·show b≠wr.heap.size
    have hlt:=HNG.out b hb
    omega
   ·show w.heap.size<=w6.heap.size
    omega
   ·show w.heap.size<=wr.heap.size
    omega
   ·have:=HNEW.out b hb
    omega
end
end Go.Proofs.YthgdadohijgleaaGreatDoor
end
section
namespace Go.Proofs.YthgdadohijgleaaGreatDoor
open Go.RowKit Go.Shelf Word
section
variable {w:World} {y:Nat} {a:RcAd} {s:Sl} {u:Vm}
set_option maxRecDepth 100000 in
set_option maxHeartbeats 1600000 in
theorem words24 (hR:RCy w y a s u) (hst:SlSt s):Gets Tryz.prog 155 #[.pointer (some ⟨y,0,none⟩)] w (.int .i64 (sizes s.L:Nat)):=by
 have hlen:=hst.good.len
 have hsN:=hst.N_le
 have hn2:=hst.n2
 have c7:=hR.rc.cell (j:=7) rfl
 have cl:=hR.rc.lt
 have HOB:=hid hR.ob
 have HM:=hid (fun k=>sizes13_take_le s.L k)
 have HT:=hid (fun (k:Nat) (hk:k<s.L.length)=>sizes_take hk)
 obtain ⟨N,hN⟩:∃ N,N=s.L.length:=⟨_,rfl⟩
 have HN:=hid hN
 rw [<-hN] at c7 hlen
 clear hR hst hN
 unfold Gets
 go_enter Tryz.func155,Tryz.ntmps155
 go_wp2_with (fail)
 clear c7 cl
 go_loopw [3,11] (fun s3 s11 wr=>∃ k t:Nat,k<=N/\Hid (t=sizes (s.L.take k))/\t<=1048576/\Hid (Gr w wr)/\s3=.int .i64 t/\s11=.int .i64 k) (fun _ s11 _=>N-(intOf s11).toNat)
 case atStart=>exact ⟨0,0,Nat.zero_le _,⟨rfl⟩,by omega,⟨Gr.refl _⟩,rfl,rfl⟩
 case round=>
  obtain ⟨k,t,hk,ht,htb,HG,rfl,rfl⟩:=hrel
  by_cases hlt:k<N
  ·have hkl:k<s.L.length:=by have:=HN.out;omega
   obtain ⟨g,hg,hgl,q0,q1⟩:=(HOB.out.gr HG.out) k hkl
   have h1:=HT.out k hkl
   have h2:=HM.out (k+1)
   rw [<-ht.out] at h1
   rw [h1] at h2
   have E:=hid h1
   obtain ⟨st,hst⟩:∃ st,st=s.L[k].1:=⟨_,rfl⟩
   obtain ⟨z,hz⟩:∃ z,z=s.L[k].2:=⟨_,rfl⟩
   rw [<-hst] at q0
   rw [<-hz] at q1 E h2
   have hkI:(k:Int)<(N:Int):=by omega
   rw [hg]
   have HLT:=hid hlt
   clear h1 hst hz hkl hg hlt
   go_upto_region 5 with (fail)
   have HRN:=hid (Rec.new wr 233 [.int .i64 st,.int .i64 z])
   have HGN:=hid (HG.out.alloc (.cells #[.int .i64 st,.int .i64 z] 233))
   obtain ⟨W1,hW1⟩:∃ W1,W1=wr.alloc (.cells #[.int .i64 st,.int .i64 z] 233):=⟨_,rfl⟩
   rw [show wr.alloc (.cells ([.int .i64 st,.int .i64 z]:List Value).toArray 233)=W1 from hW1.symm] at HRN
   rw [<-hW1] at HGN ⊢
   clear hW1 q0 q1
   have q1:=HRN.out.cell (j:=1) rfl
   have ql:=HRN.out.lt
   go_wp2
   go_round
   case rel=>exact ⟨k+1,t+z,HLT.out,⟨E.out.symm⟩,by omega,HGN,by go_num,by go_num⟩
   case measure=>have:=HLT.out;simp [intOf];omega
  ·obtain rfl:k=N:=by omega
   have E:=hid (show t=sizes s.L from by rw [ht.out,HN.out,List.take_length])
   clear ht hlt
   go_wp2
   go_ret
   exact ⟨ret_int (by rw [E.out]),HG.out⟩
end
end Go.Proofs.YthgdadohijgleaaGreatDoor
end
section
namespace Go.Proofs.YthgdadohijgleaaGreatDoor
open Go.RowKit Go.Shelf Word
def heapS (s:Sl) (q r:Nat) (vL:Value):List Value:=[.pointer (some ⟨q,0,none⟩),.pointer (some ⟨r,0,none⟩),.int .i64 s.cf.fr,.int .i64 s.cf.tp,.int .i64 s.cf.to,.int .i64 s.cf.lm,.int .i64 s.cf.bk,.int .i64 s.cf.st,.int .i64 s.cf.ah,vL,.int .i64 s.pg]
structure G24 (s:Sl) (u:Vm):Prop where
 n1:s.n<=1100
 hf:s.cf.tp<=s.cf.fr+512
 fu:FullN s.n u
 hd:∀ j (hj:j<s.L.length),u.rdH (s.L[j].1:Nat)=s.hd s.L[j].1
 pt:∀ i,i<sizes s.L->s.ptr i->u.ldV (srcO s.L i:Nat)<=2147483647
structure P24 (w W:World) (hp q r:Nat) (vL:Value) (y ry:Nat) (z:SlAd) (a:RcAd) (R S:Nat->Prop) (s:Sl) (ml:List Bool) (v u:Vm):Prop where
 g:Gr w W
 tb:TabAt w
 hb:Rec W hp 111 (heapS s q r vL)
 cy:Cyc W R y q z s
 vm:VmAt W S q v
 ok:SlOk s v
 fr:SlA s v
 rc:RCy W ry a { s with mv:=ml } u
 dj:∀ b,R b->¬ S b
 lo:∀ b,R b\/S b->w.heap.size<=b/\b<W.heap.size/\b≠hp/\b≠ry/\b≠a.bm/\(∀ o,a.OA=some o->s.L.length≠0->b≠o.block)/\∀ o,(Value.slice a.A s.n a.cp).ownBlock=some o->b≠o
 bm:w.heap.size<=a.bm/\hp≠a.bm
section
variable {w W W':World} {hp q r:Nat} {vL:Value} {y ry:Nat} {z:SlAd} {a:RcAd} {R S:Nat->Prop} {s s':Sl} {ml ml':List Bool} {v v' u:Vm}
theorem P24.tab (h:P24 w W hp q r vL y ry z a R S s ml v u):TabAt W:=h.g.tab h.tb.lt h.tb
theorem P24.tR (h:P24 w W hp q r vL y ry z a R S s ml v u):¬ R 1:=fun h'=>by have:=(h.lo _ (.inl h')).1;have:=h.tb.lt;omega
theorem P24.tS (h:P24 w W hp q r vL y ry z a R S s ml v u):¬ S 1:=fun h'=>by have:=(h.lo _ (.inr h')).1;have:=h.tb.lt;omega
theorem P24.aft (h:P24 w W hp q r vL y ry z a R S s ml v u) (t:Touch (fun b=>R b\/S b) W W') (hc:Cyc W' R y q z s') (hv:VmAt W' (plus S W) q v') (ho:SlOk s' v') (hA:SlA s' v')
  (e1:s'.n=s.n) (e2:s'.pg=s.pg) (e3:s'.cf=s.cf) (e4:s'.L=s.L):P24 w W' hp q r vL y ry z a R (cutS (plus S W) W') s' ml v' u:=by
 have hz:=t.size
 have hhp:=h.hb.lt
 have hry:=h.rc.rc.lt
 have hbm:a.bm<W.heap.size:=(own_lt h.rc.mv rfl).2
 have hAb:∀ o,(Value.slice a.A s.n a.cp).ownBlock=some o->o<W.heap.size:=fun o ho=>(own_lt h.rc.wd ho).2
 have hob:∀ o,a.OA=some o->s.L.length≠0->o.block<W.heap.size:=fun o ho hl=>h.rc.oa ho hl
 have hTR:∀ b,R b\/S b->w.heap.size<=b:=fun b hb=>(h.lo b hb).1
 refine ⟨((h.g.touch (fun _=>False)).trans' t (fun b hb hh=>by have:=hTR b hh;omega)).gr,h.tb,?_,hc,hv.cut,ho,hA,?_,fun b hb hS=>?_,fun b hb=>?_,h.bm⟩
 ·have e:heapS s' q r vL=heapS s q r vL:=by unfold heapS;rw [e2,e3]
  rw [e]
  exact h.hb.touch t (fun hh=>(h.lo _ hh).2.2.1 rfl)
 ·have hr:=h.rc.touch t (fun hh=>(h.lo _ hh).2.2.2.1 rfl) (fun o ho hl hh=>(h.lo _ hh).2.2.2.2.2.1 o ho hl rfl) (fun o ho hh=>(h.lo _ hh).2.2.2.2.2.2 o ho rfl) (fun hh=>(h.lo _ hh).2.2.2.2.1 rfl)
  refine ⟨?_,?_,?_,hr.mv,hr.n1,?_,?_⟩
  ·have:=hr.rc
   unfold rcL at this ⊢
   dsimp only at this ⊢
   rw [e1,e2,e3,e4]
   exact this
  ·show ObjsAt W' a.OA s'.L
   rw [e4];exact hr.ob
  ·show Wrds W' a.A a.cp s'.n u
   rw [e1];exact hr.wd
  ·intro b hb hl
   have hl:s'.L.length≠0:=hl
   rw [e4] at hl
   exact hr.n2 b hb hl
  ·intro b hb
   have hb:(Value.slice a.A s'.n a.cp).ownBlock=some b:=hb
   rw [e1] at hb
   exact hr.n3 b hb
 ·have h1:=h.cy.od.lt b hb
  rcases hS.1 with h2 | h2
  ·exact h.dj b hb h2
  ·omega
 ·have old:∀ b,R b\/S b->w.heap.size<=b/\b<W'.heap.size/\b≠hp/\b≠ry/\b≠a.bm/\(∀ o,a.OA=some o->s'.L.length≠0->b≠o.block)/\∀ o,(Value.slice a.A s'.n a.cp).ownBlock=some o->b≠o:=fun b hb=>by
   obtain ⟨a1,a2,a3,a4,a5,a6,a7⟩:=h.lo b hb
   exact ⟨a1,by omega,a3,a4,a5,by rw [e4];exact a6,by rw [e1];exact a7⟩
  rcases hb with hb | ⟨hb | hb,hl⟩
  ·exact old b (.inl hb)
  ·exact old b (.inr hb)
  ·have hgs:=h.g.size
   exact ⟨by omega,hl,by omega,by omega,by omega,fun o ho hl'=>by rw [e4] at hl';have:=hob o ho hl';omega,fun o ho=>by rw [e1] at ho;have:=hAb o ho;omega⟩
theorem P24.rset (h:P24 w W hp q r vL y ry z a R S s ml v u) (t:Touch (fun b=>b=a.bm) W W') (hr:RCy W' ry a { s with mv:=ml' } u):P24 w W' hp q r vL y ry z a R S s ml' v u:=by
 have hz:=t.size
 have hnR:∀ b,R b->¬ b=a.bm:=fun b hb=>(h.lo b (.inl hb)).2.2.2.2.1
 have hnS:∀ b,S b->¬ b=a.bm:=fun b hb=>(h.lo b (.inr hb)).2.2.2.2.1
 refine ⟨((h.g.touch (fun _=>False)).trans' t (fun b hb hh=>by have:=h.bm.1;omega)).gr,h.tb,h.hb.touch t h.bm.2,h.cy.touch t hnR,h.vm.touch t (fun b hb _ hh=>hnS b hb hh),h.ok,h.fr,hr,h.dj,fun b hb=>?_,h.bm⟩
 obtain ⟨a1,a2,a3⟩:=h.lo b hb
 exact ⟨a1,by omega,a3⟩
theorem P24.gr (h:P24 w W hp q r vL y ry z a R S s ml v u) (g:Gr W W'):P24 w W' hp q r vL y ry z a R S s ml v u:=by
 have hz:=g.size
 refine ⟨h.g.trans g,h.tb,h.hb.gr g,h.cy.gr g,h.vm.gr g,h.ok,h.fr,h.rc.gr g,h.dj,fun b hb=>?_,h.bm⟩
 obtain ⟨a1,a2,a3⟩:=h.lo b hb
 exact ⟨a1,by omega,a3⟩
theorem SlA.page {s:Sl} {v:Vm} (h:SlA s v) (ho:SlOk s v) {p:Nat} (hp:p<v.pt.length):(frE v.pt (p:Int)==0)=(decide (0<p)&&((decide (p*s.pg<s.cf.fr+512)&&s.owesB p)||s.hasB p))\/¬ s.cf.tp<=s.cf.fr+512:=by
 by_cases hf:s.cf.tp<=s.cf.fr+512
 ·left
  have h1:=h.1 p hp
  have hpg:=ho.st.pg.1
  rw [frE_of hp]
  by_cases h0:v.pt.getD p 0=0
  ·rw [if_pos h0]
   have h2:¬ _:=fun hx=>(h1.2 hx) h0
   have e1:s.owesB p=false:=Bool.eq_false_iff.2 fun hx=>h2 (.inl (owesB_iff.1 hx))
   have e2:s.hasB p=false:=Bool.eq_false_iff.2 fun hx=>h2 (.inr (hasB_iff.1 hx))
   rw [e1,e2]
   simp
  ·rw [if_neg h0]
   rcases h1.1 h0 with hx | hx
   ·obtain ⟨i,hi,he,hm⟩:=hx
    have h3:=ho.st.srcs hi
    have h4:=(div_is hpg).1 he
    have h5:=ho.st.cf.fr
    have e1:s.owesB p=true:=owesB_iff.2 ⟨i,hi,he,hm⟩
    have e2:0<p:=by
     rcases Nat.eq_zero_or_pos p with h | h
     ·subst h;omega
     ·exact h
    rw [e1,decide_eq_true e2,decide_eq_true (show p*s.pg<s.cf.fr+512 by omega)]
    rfl
   ·obtain ⟨i,hi,he,hm⟩:=hx
    have h4:=(div_is hpg).1 he
    have h5:=ho.st.cf.to
    have e1:s.hasB p=true:=hasB_iff.2 ⟨i,hi,he,hm⟩
    have e2:0<p:=by
     rcases Nat.eq_zero_or_pos p with h | h
     ·subst h;omega
     ·exact h
    rw [e1,decide_eq_true e2]
    simp
 ·exact .inr hf
end
end Go.Proofs.YthgdadohijgleaaGreatDoor
end
section
namespace Go.Proofs.YthgdadohijgleaaGreatDoor
open Go.RowKit Word
open Classical in
theorem LaidIn.ex {x:LaidC} {v0 v:Vm} (hl:∀ a:Nat,x.page<=a->a<x.top->v0.ldE a=0) (h:LaidIn x v0 v x.k):∃ L,Marks v x.rs x.n L:=by
 have hS:=h.sound hl
 have hmem:∀ j,j<x.k->Rch v x.rs ((x.at j:Nat):Int)->(x.at j,(v.osz ((x.at j:Nat):Int)).toNat)∈((List.range x.k).filter (fun j=>decide (Rch v x.rs ((x.at j:Nat):Int)))).map (fun j=>(x.at j,(v.osz ((x.at j:Nat):Int)).toNat)):=fun j hj hr=>
  List.mem_map.2 ⟨j,List.mem_filter.2 ⟨List.mem_range.2 hj,decide_eq_true hr⟩,rfl⟩
 have hout:∀ o∈((List.range x.k).filter (fun j=>decide (Rch v x.rs ((x.at j:Nat):Int)))).map (fun j=>(x.at j,(v.osz ((x.at j:Nat):Int)).toNat)),∃ j,j<x.k/\Rch v x.rs ((x.at j:Nat):Int)/\o=(x.at j,(v.osz ((x.at j:Nat):Int)).toNat):=fun o ho=>by
  obtain ⟨j,hj,rfl⟩:=List.mem_map.1 ho
  obtain ⟨h1,h2⟩:=List.mem_filter.1 hj
  exact ⟨j,List.mem_range.1 h1,of_decide_eq_true h2,rfl⟩
 have hhs:∀ a,Rch v x.rs a->Hs (((List.range x.k).filter (fun j=>decide (Rch v x.rs ((x.at j:Nat):Int)))).map (fun j=>(x.at j,(v.osz ((x.at j:Nat):Int)).toNat))) a:=fun a ha=>by
  obtain ⟨j,hj,rfl⟩:=h.rch hl ha
  exact ⟨_,hmem j hj ha,rfl⟩
 refine ⟨_,⟨⟨⟨?_,fun o ho=>?_⟩,fun o ho=>?_⟩,hhs,fun o ho=>?_⟩⟩
 ·rw [List.pairwise_map]
  refine List.Pairwise.imp_of_mem ?_ (List.Pairwise.filter _ List.pairwise_lt_range)
  intro i j hi hj hij
  have hjk:=List.mem_range.1 (List.mem_filter.1 hj).1
  obtain ⟨p,f,c,e,-,-,hz⟩:=h.ob hl (j:=i) (by omega)
  have h1:=at_next (x:=x) (by omega) e
  have h2:=at_mono (x:=x) (i:=i+1) (j:=j) (by omega)
  dsimp only
  rw [hz]
  omega
 ·obtain ⟨j,hj,hr,rfl⟩:=hout o ho
  have h1:=hS.rm _ hr
  have h2:=osz_pos (hS.rd _ hr)
  dsimp only
  omega
 ·obtain ⟨j,hj,hr,rfl⟩:=hout o ho
  have h2:=osz_pos (hS.rd _ hr)
  exact ⟨hr,hS.rd _ hr,by dsimp only;omega⟩
 ·obtain ⟨j,hj,hr,rfl⟩:=hout o ho
  intro i hi
  have hpt:=hS.pt _ hr i hi
  exact ⟨hpt,fun h0=>hhs _ (hr.step ⟨hS.rd _ hr,i,hi,hpt,h0,rfl⟩)⟩
end Go.Proofs.YthgdadohijgleaaGreatDoor
end
