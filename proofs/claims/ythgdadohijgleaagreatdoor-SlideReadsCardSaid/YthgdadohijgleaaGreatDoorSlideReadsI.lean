/- Part 9 of what SlideReads leans on: my own lemmas, merged by shake.py. -/
import Derived.Test.YthgdadohijgleaaGreatDoorSlideReadsH
section
namespace Go.Proofs.YthgdadohijgleaaGreatDoor
open Go.RowKit Go.Shelf Word
theorem zero_hdr (w:World):(zeroValue 48).run Tryz.prog w=.ok (.agg #[.int .i64 0,.int .i64 0,.int .i64 0]) w:=by kernel_rfl
theorem shp_look {w:World} {b:Nat} {s:Sl} (h:ShpAt w b s) {j:Nat} (hj:j<s.L.length) (hb:s.L[j].1<=4294967296):
  (Instr.lookup 223 (.map (some b)) (.int .i64 (s.L[j].1:Nat)) false).run Tryz.prog w=.ok (hdrV (s.hd s.L[j].1)) w:=by
 obtain ⟨n,f,h1,h2⟩:=h
 rw [h1.look keyed_int Tryz.underlying223 Tryz.underlying3 (zero_hdr w) (WalkArith.wf_i64 (by omega)),h2 j hj]
 rfl
theorem wds_look {w:World} {b:Nat} {s:Sl} {U:Nat->Bool} (h:WdsAt w b s U) {q:Nat} (hb:q<=4294967296):
  (Instr.lookup 142 (.map (some b)) (.int .i64 q) false).run Tryz.prog w=.ok (.int .i64 (s.on U q:Nat)) w:=by
 obtain ⟨n,f,h1,-,h2⟩:=h
 rw [h1.look keyed_int Tryz.underlying142 Tryz.underlying3 (zero_int w) (WalkArith.wf_i64 (by omega)),h2 q]
structure CpI (w wr:World) (S:Nat->Prop) (q:Nat) (s:Sl) (D U:Nat->Bool) (lo hi:Nat) (v1:Vm) (m hb:Nat) (p f k:Nat):Prop where
 t:Touch S w wr
 vm:∃ vx,VmAt wr (cutS S w) q vx/\SlCp s D U lo hi v1 vx m
 h:Rec wr hb 48 [.int .i64 p,.int .i64 f,.int .i64 k]
def CopyEnd (w:World) (S:Nat->Prop) (q:Nat) (s:Sl) (D U:Nat->Bool) (lo hi:Nat) (v1:Vm) (m:Nat) (e:Ending) (w':World):Prop:=
 e=.returned (.tuple #[])/\Touch S w w'/\∃ v'',VmAt w' (cutS S w) q v''/\SlCp s D U lo hi v1 v'' m
def Obj (s:Sl) (a st sz p f k:Nat):Prop:=∃ j,∃ hj:j<s.L.length,st=s.L[j].1/\sz=s.L[j].2/\s.hd s.L[j].1=⟨p,f,k⟩/\st<=a/\a<st+sz
theorem obj_cv {s:Sl} (hst:SlSt s) {i a st sz p f k:Nat} (hi:i<sizes s.L) (ha:srcO s.L i=a) (ho:Obj s a st sz p f k):s.off i=a-st/\s.hdr i=⟨p,f,k⟩/\p+f+k<=255:=by
 obtain ⟨j,hj,rfl,rfl,h3,h4,h5⟩:=ho
 obtain ⟨j',hj',m,p',f',k',e1,e2,e3,e4,e5,e6,e7,e8,e9⟩:=hst.obj hi
 have hjj:s.L[j]=s.L[j']:=by
  rcases hst.good.disj (List.getElem_mem hj) (List.getElem_mem hj') with e | e | e
  ·exact e
  ·omega
  ·omega
 rw [e5,e6,<-hjj,h3]
 rw [<-hjj,h3] at e7
 rw [<-hjj] at e4
 refine ⟨by omega,rfl,?_⟩
 cases e7
 exact e8
theorem obj_find {s:Sl} (hst:SlSt s) {i a:Nat} (hi:i<sizes s.L) (ha:srcO s.L i=a):∃ j,∃ hj:j<s.L.length,∃ p f k:Nat,findO s.L (a:Nat)=j/\s.hd s.L[j].1=⟨p,f,k⟩/\Obj s a s.L[j].1 s.L[j].2 p f k:=by
 obtain ⟨j',hj',m,p',f',k',e1,e2,e3,e4,e5,e6,e7,e8,e9⟩:=hst.obj hi
 have:=src_find hst.good hi
 rw [ha,e1] at this
 exact ⟨j',hj',p',f',k',this,e7,j',hj',rfl,rfl,e7,by omega,by omega⟩
section
variable {w:World} {R S:Nat->Prop} {y q:Nat} {z:SlAd} {s:Sl} {U D Uo:Nat->Bool} {ml:List Bool} {lf ft ah:Nat} {v1 v':Vm} {lo hi m n f:Nat}
set_option maxRecDepth 100000 in
set_option maxHeartbeats 3200000 in
theorem sl_copy (hC:CycAt w R y q z s U ml lf ft ah) (hst:SlSt s) (hT:TabAt w) (htS:¬ S 1) (hV:VmAt w S q v') (hdis:∀ k,R k->¬ S k) (hcp:SlCp s D Uo lo hi v1 v' m)
  (hn:lo+m+n<=hi) (hhi:hi<=sizes s.L) (hU:∀ i,lo<=i->i<hi->Uo i=true) (hl:∀ i,lo<=i->i<hi->v1.ldE ((s.cf.to+i:Nat):Int)=0) (hw:∀ i,i<n->srcO s.L (lo+m+i)=f+i):
  Calls Tryz.prog 267 #[.pointer (some ⟨y,0,none⟩),.agg #[.int .i64 f,.int .i64 ((s.cf.to+(lo+m):Nat):Int),.int .i64 n]] w (CopyEnd w S q s D Uo lo hi v1 (m+n)):=by
 have HC:=hid hC
 have HST:=hid hst
 have HT:=hid hT
 have HTS:=hid htS
 have HV:=hid hV.cut
 have HDIS:=hid hdis
 have HCP:=hid hcp
 have HU:=hid hU
 have HL:=hid hl
 have HW:=hid hw
 have HB:=hid (And.intro hn hhi)
 have hn2:=hst.n2
 have hNn:=hst.N_le
 have hfb:n=0\/f+n<=1048576:=by
  rcases Nat.eq_zero_or_pos n with h | h
  ·exact .inl h
  ·right
   have h1:=hw (n-1) (by omega)
   have h2:=(hst.srcs (i:=lo+m+(n-1)) (by omega)).2.2
   omega
 have htb:s.cf.to+(lo+m)<=1048576:=by have:=hst.fit;have:=hst.cf.ln;omega
 obtain ⟨t,ht⟩:∃ t,t=s.cf.to+(lo+m):=⟨_,rfl⟩
 have HTE:=hid ht
 have hnb:n<=1048576:=by omega
 rw [<-ht] at htb ⊢
 clear hC hst hT htS hV hdis hcp hU hl hw ht hn hhi
 have RP:=Rec.new w 343 [.int .i64 f,.int .i64 t,.int .i64 n]
 simp only [List.toArray] at RP
 go_enter Tryz.func267,Tryz.ntmps267
 go_upto_region 2 with (fail)
 obtain ⟨w1,hw1⟩:∃ w1,w1=w.alloc (.cells #[.int .i64 f,.int .i64 t,.int .i64 n] 343):=⟨_,rfl⟩
 have hg1:Gr w w1:=by rw [hw1];exact (Gr.refl w).alloc _
 have hs1:w1.heap.size=w.heap.size+1:=by rw [hw1,World.size_alloc]
 have RP1:Rec w1 w.heap.size 343 [.int .i64 f,.int .i64 t,.int .i64 n]:=by rw [hw1];exact RP
 rw [<-hw1]
 clear hw1 RP
 have RH:=Rec.new w1 48 [.int .i64 0,.int .i64 0,.int .i64 0]
 simp only [List.toArray] at RH
 obtain ⟨w2,hw2⟩:∃ w2,w2=w1.alloc (.cells #[.int .i64 0,.int .i64 0,.int .i64 0] 48):=⟨_,rfl⟩
 have hg2:Gr w1 w2:=by rw [hw2];exact (Gr.refl w1).alloc _
 rw [<-hw2] at RH ⊢
 rw [hs1] at RH
 have RP2:=RP1.gr hg2
 have HG2:=hid (hg1.trans hg2)
 have HS2:Hid (w.heap.size+2=w2.heap.size):=⟨by rw [hw2,World.size_alloc];omega⟩
 clear hw2 hg1 hg2 RP1
 have q2:=RP2.cell (j:=2) rfl
 have ql:=RP2.lt
 have HPC0:=hid RP2
 have HI0:Hid (CpI w w2 S q s D Uo lo hi v1 (m+0) (w.heap.size+1) 0 0 0):=⟨⟨HG2.out.touch _,⟨v',HV.out.gr HG2.out,HCP.out⟩,RH⟩⟩
 have HRL:=hid HC.out.od.lt
 clear RP2 RH
 go_upto_region 3 with (fail)
 clear q2 ql
 go_loopw [4,5,12] (fun s4 s5 s12 wr=>∃ (i st sz p f' k:Nat),i<=n/\Hid (CpI w wr S q s D Uo lo hi v1 (m+i) (w.heap.size+1) p f' k)/\Hid ((i=0/\st=0/\sz=0)\/Obj s (f+i-1) st sz p f' k)/\Hid (Rec wr w.heap.size 343 [.int .i64 f,.int .i64 t,.int .i64 n])/\s4=.int .i64 st/\s5=.int .i64 sz/\s12=.int .i64 i) (fun _ _ s12 _=>n-(intOf s12).toNat)
 case atStart=>exact ⟨0,0,0,0,0,0,Nat.zero_le _,HI0,⟨.inl ⟨rfl,rfl,rfl⟩⟩,HPC0,rfl,rfl,rfl⟩
 case round=>
  obtain ⟨i,st,sz,ph,fh,kh,hin,HI,HO,HPC,rfl,rfl,rfl⟩:=hrel
  clear HPC0 HI0
  have hpl:=HPC.out.lt
  by_cases hlt:i<n
  ·have HLT:=hid hlt
   have hiI:(i:Int)<(n:Int):=by omega
   have hfi:f+i<=1048576:=by omega
   have hwi:=HW.out i hlt
   have hiN:lo+m+i<sizes s.L:=by have:=HB.out;omega
   have hcy:CycAt wr R y q z s U ml lf ft ah:=HC.out.touch HI.out.t HDIS.out
   have htb:=HT.out.touch' HI.out.t HTS.out
   have HWD:Hid (∀ (W:World) (st sz p f' k:Nat),Touch (fun b=>b=w.heap.size+1) wr W->Obj s (f+i) st sz p f' k->Gets Tryz.prog 169 #[.pointer (some ⟨y,0,none⟩),.int .i64 ((f:Int)+(i:Int)),.int .i64 st,.agg #[.int .i64 p,.int .i64 f',.int .i64 k]] W (.int .u64 (s.c (lo+m+i):Nat))):=⟨fun W st sz p f' k tW ho=>by
    obtain ⟨vx,hvx,hpx⟩:=HI.out.vm
    obtain ⟨e1,e2,e3⟩:=obj_cv HST.out hiN hwi ho
    obtain ⟨j,hj,-,-,-,o4,o5⟩:=ho
    obtain ⟨-,m2,m3⟩:=hpx.mid.src (lo+m+i) hiN (HU.out _ (by omega) (by have:=HB.out;omega))
    rw [hwi] at m2 m3
    have:=sl_word (f:=f') (k:=k) (hcy.touch tW (fun b hb h=>by have:=HRL.out b hb;omega)) HST.out (hvx.touch tW (fun b hb _ h=>by have:=hb.2;omega)) (p:=p) e3 (a:=f+i) (st:=st) (m:=f+i-st) (by omega) (by omega) (fun h=>m3 ⟨by rw [e1];exact h.1,by rw [e1,e2];show ((f+i-st:Nat):Int)<=(p:Int);omega⟩)
    unfold Sl.cv at m2
    rw [e1,e2] at m2
    rw [m2] at this
    exact this⟩
   have HSTO:Hid (∀ (W:World),Touch (fun b=>b=w.heap.size+1) wr W->Calls Tryz.prog 147 #[.pointer (some ⟨q,0,none⟩),.int .i64 ((t:Int)+(i:Int)),.int .u64 (s.c (lo+m+i):Nat)] W fun e w'=>∃ er,e=.returned (.int .i64 er)/\Touch (cutS S w) W w'/\∃ vx,VmAt w' (cutS S w) q vx/\SlCp s D Uo lo hi v1 vx (m+i+1)):=⟨fun W tW=>by
    obtain ⟨vx,hvx,hpx⟩:=HI.out.vm
    obtain ⟨-,m2,-⟩:=hpx.mid.src (lo+m+i) hiN (HU.out _ (by omega) (by have:=HB.out;omega))
    have hcl:s.c (lo+m+i)<18446744073709551616:=by rw [<-m2];exact HST.out.cv_lt _ (hvx.ok.ldV_lt _)
    refine (vm_store (hvx.touch tW (fun b hb _ h=>by have:=hb.2;omega)) ((t:Int)+(i:Int)) hcl).mono ?_
    rintro e w' ⟨rfl,ht,hv⟩
    refine ⟨_,rfl,ht,_,hv,?_⟩
    have:=hpx.step HST.out (by have:=HB.out;omega) HB.out.2 (HL.out _ (by omega) (by have:=HB.out;omega)) (x:=s.c (lo+m+i)) (by rw [Nat.add_assoc lo m i]) hcl
    rw [show ((t:Int)+(i:Int))=((s.cf.to+(lo+(m+i)):Nat):Int) by rw [HTE.out];omega]
    exact this⟩
   have HK:Hid (∀ (W:World) (p' f'' k':Nat),Touch (fun b=>b=w.heap.size+1) wr W->Rec W (w.heap.size+1) 48 [.int .i64 p',.int .i64 f'',.int .i64 k']->(W.cell? ⟨y,0,none⟩=some (.pointer (some ⟨q,0,none⟩))/\W.cell? ⟨w.heap.size,1,none⟩=some (.int .i64 t))/\W.cell? ⟨w.heap.size+1,0,none⟩=some (.int .i64 p')/\W.cell? ⟨w.heap.size+1,1,none⟩=some (.int .i64 f'')/\W.cell? ⟨w.heap.size+1,2,none⟩=some (.int .i64 k')):=⟨fun W p' f'' k' tW hr=>by
    have h1:=(hcy.touch tW (fun b hb h=>by have:=HRL.out b hb;omega)).rc
    have h2:=HPC.out.touch tW (by omega)
    exact ⟨⟨h1.cell (j:=0) rfl,h2.cell (j:=1) rfl⟩,hr.cell (j:=0) rfl,hr.cell (j:=1) rfl,hr.cell (j:=2) rfl⟩⟩
   have hsb:st+sz<=1048576:=by
    rcases HO.out with h | ⟨j,hj,h1,h2,-⟩
    ·omega
    ·have:=(HST.out.good.sz _ (List.getElem_mem hj)).2
     omega
   have q0:=HPC.out.cell (j:=0) rfl
   have q1:=HPC.out.cell (j:=1) rfl
   obtain ⟨c,hc⟩:∃ c,c=s.c (lo+m+i):=⟨_,rfl⟩
   rw [<-hc] at HWD HSTO
   clear hc
   by_cases hge:st+sz<=f+i
   ·have d1:decide ((st:Int)+(sz:Int)<=(f:Int)+(i:Int))=true:=decide_eq_true (by omega)
    have d2:decide (st+sz<=f+i)=true:=decide_eq_true hge
    obtain ⟨j,hj,p',f'',k',g1,g2,g3⟩:=obj_find HST.out hiN hwi
    have HFD:=hid (ext_find hcy.ex htb ((f:Int)+(i:Int)))
    rw [show (f:Int)+(i:Int)=((f+i:Nat):Int) by omega,g1,tellO_in hj] at HFD
    have hlk:=shp_look hcy.sh hj (by have:=(HST.out.good.sz _ (List.getElem_mem hj)).2;omega)
    rw [g2] at hlk
    unfold hdrV at hlk
    have HOB:=hid g3
    obtain ⟨st',hst'⟩:∃ st',st'=s.L[j].1:=⟨_,rfl⟩
    obtain ⟨sz',hsz'⟩:∃ sz',sz'=s.L[j].2:=⟨_,rfl⟩
    rw [<-hst'] at HFD HOB hlk
    rw [<-hsz'] at HFD HOB
    rw [show ((f+i:Nat):Int)=(f:Int)+(i:Int) by omega] at HFD
    have x3:=hcy.rc.cell (j:=9) rfl
    have x9:=hcy.rc.cell (j:=15) rfl
    have xl:=hcy.rc.lt
    have hh0:=HI.out.h.cell (j:=0) rfl
    have hh1:=HI.out.h.cell (j:=1) rfl
    have hh2:=HI.out.h.cell (j:=2) rfl
    have hhf:=HI.out.h.free
    have hhl:=HI.out.h.lt
    have HHS:=hid (((HI.out.h.set 0 (.int .i64 p')).set 1 (.int .i64 f'')).set 2 (.int .i64 k'))
    clear hge hcy htb g1 g2 g3 hst' hsz' hwi hiN
    go_upto_region 9 with (go_at_call 168;refine (HFD.out).mono ?_;rintro e w3 ⟨rfl,rfl⟩)
    have tB:Touch (fun b=>b=w.heap.size+1) wr (((wr.setCell ⟨w.heap.size+1,0,none⟩ (.int .i64 p')).setCell ⟨w.heap.size+1,1,none⟩ (.int .i64 f'')).setCell ⟨w.heap.size+1,2,none⟩ (.int .i64 k')):=
     (((Touch.refl (fun b=>b=w.heap.size+1) wr).setCell (a:=⟨w.heap.size+1,0,none⟩) (fun _=>rfl) _).setCell (a:=⟨w.heap.size+1,1,none⟩) (fun _=>rfl) _).setCell (a:=⟨w.heap.size+1,2,none⟩) (fun _=>rfl) _
    obtain ⟨wB,hwB⟩:∃ wB,wB=((wr.setCell ⟨w.heap.size+1,0,none⟩ (.int .i64 p')).setCell ⟨w.heap.size+1,1,none⟩ (.int .i64 f'')).setCell ⟨w.heap.size+1,2,none⟩ (.int .i64 k'):=⟨_,rfl⟩
    rw [<-hwB] at tB ⊢
    have HHB:Hid (Rec wB (w.heap.size+1) 48 [.int .i64 p',.int .i64 f'',.int .i64 k']):=⟨by rw [hwB];exact HHS.out⟩
    have HTB:=hid tB
    have HKB:Hid (∀ W,Gr wB W->(W.cell? ⟨y,0,none⟩=some (.pointer (some ⟨q,0,none⟩))/\W.cell? ⟨w.heap.size,1,none⟩=some (.int .i64 t))/\W.cell? ⟨w.heap.size+1,0,none⟩=some (.int .i64 p')/\W.cell? ⟨w.heap.size+1,1,none⟩=some (.int .i64 f'')/\W.cell? ⟨w.heap.size+1,2,none⟩=some (.int .i64 k')):=⟨fun W g=>HK.out W p' f'' k' (HTB.out.trans (g.touch _)) (HHB.out.gr g)⟩
    clear hwB tB HHS hlk x3 x9 xl hh0 hh1 hh2 hhf hhl q0 q1
    obtain ⟨Sx,hSx⟩:∃ Sx:World->Prop,Sx=fun W'=>((W'.cell? ⟨y,0,none⟩=some (.pointer (some ⟨q,0,none⟩))/\W'.cell? ⟨w.heap.size,1,none⟩=some (.int .i64 t))/\W'.cell? ⟨w.heap.size+1,0,none⟩=some (.int .i64 p')/\W'.cell? ⟨w.heap.size+1,1,none⟩=some (.int .i64 f'')/\W'.cell? ⟨w.heap.size+1,2,none⟩=some (.int .i64 k')):=⟨_,rfl⟩
    have x1:∀ p:Held Sx,p.w.cell? ⟨y,0,none⟩=some (.pointer (some ⟨q,0,none⟩)):=fun p=>by have h:=Held.get hSx p;exact h.1.1
    have x2:∀ p:Held Sx,p.w.cell? ⟨w.heap.size,1,none⟩=some (.int .i64 t):=fun p=>by have h:=Held.get hSx p;exact h.1.2
    have x3:∀ p:Held Sx,p.w.cell? ⟨w.heap.size+1,0,none⟩=some (.int .i64 p'):=fun p=>by have h:=Held.get hSx p;exact h.2.1
    have x4:∀ p:Held Sx,p.w.cell? ⟨w.heap.size+1,1,none⟩=some (.int .i64 f''):=fun p=>by have h:=Held.get hSx p;exact h.2.2.1
    have x5:∀ p:Held Sx,p.w.cell? ⟨w.heap.size+1,2,none⟩=some (.int .i64 k'):=fun p=>by have h:=Held.get hSx p;exact h.2.2.2
    have HS:Hid (∀ W',((W'.cell? ⟨y,0,none⟩=some (.pointer (some ⟨q,0,none⟩))/\W'.cell? ⟨w.heap.size,1,none⟩=some (.int .i64 t))/\W'.cell? ⟨w.heap.size+1,0,none⟩=some (.int .i64 p')/\W'.cell? ⟨w.heap.size+1,1,none⟩=some (.int .i64 f'')/\W'.cell? ⟨w.heap.size+1,2,none⟩=some (.int .i64 k'))->Sx W'):=⟨fun W' h=>by rw [hSx];exact h⟩
    have hS0:=HS.out (wB.drew) (HKB.out _ (Gr.refl wB).drew)
    have inst:Inhabited (Held Sx):=⟨⟨_,hS0⟩⟩
    clear hSx
    refine wp_region_mixS Sx 13 [([0,1,2,3,4,5,6,7,8,9,10,11],12),([],13)] [] (by kernel_rfl) (by kernel_rfl) hS0 ?_
    refine segs_step ?_
    try simp only [opsAt,List.getElem?_cons_zero,List.getElem?_cons_succ]
    repeat (go_big_quiet_step (fail))
    refine wpQuiet_nil ?_
    go_wp2_with ((go_at_call 169;refine (HWD.out _ _ _ _ _ _ (HTB.out.trans ((Gr.refl wB).drew.touch _)) HOB.out).mono ?_;rintro e w4 ⟨rfl,hg4⟩;have HG4:=hid ((Gr.refl wB).drew.trans hg4);clear hg4))
    refine ⟨.inr (Held.of (HS.out _ (HKB.out _ HG4.out))),?_⟩
    refine segs_step ?_
    try simp only [opsAt,List.getElem?_cons_zero,List.getElem?_cons_succ]
    repeat (go_big_quiet_step (fail))
    refine wpQuiet_nil ?_
    go_wp2_with ((go_at_call 147;refine (HSTO.out _ (HTB.out.trans (HG4.out.touch _))).mono ?_;rintro e w5 ⟨er,rfl,ht5,vx5,hv5,hp5⟩;have HT5:=hid ht5;have HV5:=hid (And.intro hv5 hp5);clear ht5 hv5 hp5))
    refine ⟨.inl trivial,?_⟩
    refine segs_end ?_
    try simp only [opsAt]
    repeat (go_big_quiet_step (fail))
    refine wpQuiet_nil ?_
    refine NoPanic.normal ?_
    clear x1 x2 x3 x4 x5 hS0 inst
    clear HS Sx
    go_wp2
    go_roundw
    case rel=>
     have hz5:=HT5.out.size
     refine ⟨i+1,st',sz',p',f'',k',HLT.out,⟨⟨(HI.out.t.trans' ((HTB.out.trans (HG4.out.touch _)).mono (fun b _ h=>h)) (fun b hb h=>by omega)).trans' HT5.out (fun b _ h=>h.1),⟨vx5,HV5.out.1,by rw [<-Nat.add_assoc];exact HV5.out.2⟩,((HHB.out.gr HG4.out).touch HT5.out (fun h=>by have:=h.2;omega))⟩⟩,⟨.inr (by rw [show f+(i+1)-1=f+i by omega];exact HOB.out)⟩,⟨((HPC.out.touch HTB.out (by omega)).gr HG4.out).touch HT5.out (fun h=>by have:=h.2;omega)⟩,?_,?_,?_⟩
     ·go_num
     ·go_num
     ·go_num
    case measure=>have:=HLT.out;simp [intOf];omega
   ·have d1:decide ((st:Int)+(sz:Int)<=(f:Int)+(i:Int))=false:=decide_eq_false (by omega)
    have d2:decide (st+sz<=f+i)=false:=decide_eq_false hge
    have hob:Obj s (f+i) st sz ph fh kh:=by
     rcases HO.out with h | ⟨j,hj,h1,h2,h3,h4,h5⟩
     ·omega
     ·exact ⟨j,hj,h1,h2,h3,by omega,by omega⟩
    have HOB:=hid hob
    have HTB:Hid (Touch (fun b=>b=w.heap.size+1) wr wr):=⟨Touch.refl _ _⟩
    have HHB:=hid HI.out.h
    have HKB:Hid (∀ W,Gr wr W->(W.cell? ⟨y,0,none⟩=some (.pointer (some ⟨q,0,none⟩))/\W.cell? ⟨w.heap.size,1,none⟩=some (.int .i64 t))/\W.cell? ⟨w.heap.size+1,0,none⟩=some (.int .i64 ph)/\W.cell? ⟨w.heap.size+1,1,none⟩=some (.int .i64 fh)/\W.cell? ⟨w.heap.size+1,2,none⟩=some (.int .i64 kh)):=⟨fun W g=>HK.out W ph fh kh (HTB.out.trans (g.touch _)) (HHB.out.gr g)⟩
    clear hge hcy htb hwi hiN hob
    go_upto_region 9 with (fail)
    clear q0 q1
    obtain ⟨Sx,hSx⟩:∃ Sx:World->Prop,Sx=fun W'=>((W'.cell? ⟨y,0,none⟩=some (.pointer (some ⟨q,0,none⟩))/\W'.cell? ⟨w.heap.size,1,none⟩=some (.int .i64 t))/\W'.cell? ⟨w.heap.size+1,0,none⟩=some (.int .i64 ph)/\W'.cell? ⟨w.heap.size+1,1,none⟩=some (.int .i64 fh)/\W'.cell? ⟨w.heap.size+1,2,none⟩=some (.int .i64 kh)):=⟨_,rfl⟩
    have x1:∀ p:Held Sx,p.w.cell? ⟨y,0,none⟩=some (.pointer (some ⟨q,0,none⟩)):=fun p=>by have h:=Held.get hSx p;exact h.1.1
    have x2:∀ p:Held Sx,p.w.cell? ⟨w.heap.size,1,none⟩=some (.int .i64 t):=fun p=>by have h:=Held.get hSx p;exact h.1.2
    have x3:∀ p:Held Sx,p.w.cell? ⟨w.heap.size+1,0,none⟩=some (.int .i64 ph):=fun p=>by have h:=Held.get hSx p;exact h.2.1
    have x4:∀ p:Held Sx,p.w.cell? ⟨w.heap.size+1,1,none⟩=some (.int .i64 fh):=fun p=>by have h:=Held.get hSx p;exact h.2.2.1
    have x5:∀ p:Held Sx,p.w.cell? ⟨w.heap.size+1,2,none⟩=some (.int .i64 kh):=fun p=>by have h:=Held.get hSx p;exact h.2.2.2
    have HS:Hid (∀ W',((W'.cell? ⟨y,0,none⟩=some (.pointer (some ⟨q,0,none⟩))/\W'.cell? ⟨w.heap.size,1,none⟩=some (.int .i64 t))/\W'.cell? ⟨w.heap.size+1,0,none⟩=some (.int .i64 ph)/\W'.cell? ⟨w.heap.size+1,1,none⟩=some (.int .i64 fh)/\W'.cell? ⟨w.heap.size+1,2,none⟩=some (.int .i64 kh))->Sx W'):=⟨fun W' h=>by rw [hSx];exact h⟩
    have hS0:=HS.out (wr.drew) (HKB.out _ (Gr.refl wr).drew)
    have inst:Inhabited (Held Sx):=⟨⟨_,hS0⟩⟩
    clear hSx
    refine wp_region_mixS Sx 13 [([0,1,2,3,4,5,6,7,8,9,10,11],12),([],13)] [] (by kernel_rfl) (by kernel_rfl) hS0 ?_
    refine segs_step ?_
    try simp only [opsAt,List.getElem?_cons_zero,List.getElem?_cons_succ]
    repeat (go_big_quiet_step (fail))
    refine wpQuiet_nil ?_
    go_wp2_with ((go_at_call 169;refine (HWD.out _ _ _ _ _ _ (HTB.out.trans ((Gr.refl wr).drew.touch _)) HOB.out).mono ?_;rintro e w4 ⟨rfl,hg4⟩;have HG4:=hid ((Gr.refl wr).drew.trans hg4);clear hg4))
    refine ⟨.inr (Held.of (HS.out _ (HKB.out _ HG4.out))),?_⟩
    refine segs_step ?_
    try simp only [opsAt,List.getElem?_cons_zero,List.getElem?_cons_succ]
    repeat (go_big_quiet_step (fail))
    refine wpQuiet_nil ?_
    go_wp2_with ((go_at_call 147;refine (HSTO.out _ (HTB.out.trans (HG4.out.touch _))).mono ?_;rintro e w5 ⟨er,rfl,ht5,vx5,hv5,hp5⟩;have HT5:=hid ht5;have HV5:=hid (And.intro hv5 hp5);clear ht5 hv5 hp5))
    refine ⟨.inl trivial,?_⟩
    refine segs_end ?_
    try simp only [opsAt]
    repeat (go_big_quiet_step (fail))
    refine wpQuiet_nil ?_
    refine NoPanic.normal ?_
    clear x1 x2 x3 x4 x5 hS0 inst
    clear HS Sx
    go_wp2
    go_roundw
    case rel=>
     have hz5:=HT5.out.size
     refine ⟨i+1,st,sz,ph,fh,kh,HLT.out,⟨⟨(HI.out.t.trans' ((HTB.out.trans (HG4.out.touch _)).mono (fun b _ h=>h)) (fun b hb h=>by omega)).trans' HT5.out (fun b _ h=>h.1),⟨vx5,HV5.out.1,by rw [<-Nat.add_assoc];exact HV5.out.2⟩,((HHB.out.gr HG4.out).touch HT5.out (fun h=>by have:=h.2;omega))⟩⟩,⟨.inr (by rw [show f+(i+1)-1=f+i by omega];exact HOB.out)⟩,⟨((HPC.out.touch HTB.out (by omega)).gr HG4.out).touch HT5.out (fun h=>by have:=h.2;omega)⟩,?_,?_,?_⟩
     ·go_num
     ·go_num
     ·go_num
    case measure=>have:=HLT.out;simp [intOf];omega
  ·obtain rfl:i=n:=by omega
   have q2:=HPC.out.cell (j:=2) rfl
   clear hlt
   go_wp2
   refine bodyPost_end (results_none rfl _ _ _) rfl ?_
   obtain ⟨vx,hvx,hpx⟩:=HI.out.vm
   exact ⟨rfl,HI.out.t,vx,hvx,hpx⟩
end
end Go.Proofs.YthgdadohijgleaaGreatDoor
end
section
namespace Go.Proofs.YthgdadohijgleaaGreatDoor
open Go.RowKit Go.Shelf Word
def butN (U:Nat->Bool) (i n:Nat):Nat->Bool:=fun j=>U j&&!(decide (i<=j)&&decide (j<i+n))
theorem butN_zero (U:Nat->Bool) (i:Nat):butN U i 0=U:=by
 funext j
 unfold butN
 by_cases h:i<=j
 ·rw [decide_eq_false (show ¬ j<i+0 by omega),Bool.and_false,Bool.not_false,Bool.and_true]
 ·rw [decide_eq_false h,Bool.false_and,Bool.not_false,Bool.and_true]
theorem butN_succ (U:Nat->Bool) (i n:Nat):butN U i (n+1)=but (butN U i n) (i+n):=by
 funext j
 unfold but butN
 by_cases h:j=i+n
 ·subst h
  have h1:i<=i+n:=by omega
  have h2:i+n<i+(n+1):=by omega
  simp
 ·have:(j<i+(n+1))↔(j<i+n)\/j=i+n:=by omega
  by_cases h3:i<=j
  ·by_cases h4:j<i+n
   ·have:j<i+(n+1):=by omega
    simp [h3,h4,this]
   ·have:¬ j<i+(n+1):=by omega
    simp [h,h3,h4,this]
  ·simp [h,h3]
theorem butN_in {U:Nat->Bool} {i n j:Nat} (h:¬ (i<=j/\j<i+n)):butN U i n j=U j:=by
 unfold butN
 by_cases h3:i<=j
 ·have:¬ j<i+n:=fun h4=>h ⟨h3,h4⟩
  simp [this]
 ·simp [h3]
theorem wds_put {w:World} {b n:Nat} {s:Sl} {U:Nat->Bool} {f:Int->Option Value} {i x:Nat} (h1:n+cnt U (sizes s.L)<=2*sizes s.L) (h2:∀ q:Nat,(f (q:Nat)).getD (.int .i64 0)=.int .i64 (s.on U q:Nat)) (hi:i<sizes s.L) (hU:U i=true)
  (hx:x=s.on (but U i) (srcO s.L i/s.pg)) (hm:MapI Tryz.prog 3 w b (n+1) (fun y=>if y=((srcO s.L i/s.pg:Nat):Int) then some (.int .i64 x) else f y)):WdsAt w b s (but U i):=by
 refine ⟨n+1,_,hm,?_,fun q=>?_⟩
 ·have:=cnt_less (f:=U) hi hU
  unfold but
  omega
 ·have hon:=Sl.on_but (s:=s) (U:=U) (i:=i) (q:=q) hi hU
  by_cases e:srcO s.L i/s.pg=q
  ·subst e
   rw [if_pos rfl,hx];rfl
  ·rw [if_neg e] at hon
   rw [if_neg (by omega),h2 q,<-hon];rfl
def DrainEnd (w:World) (R S:Nat->Prop) (y q:Nat) (z:SlAd) (s:Sl) (D U0 U':Nat->Bool) (ml:List Bool) (lf ft ah:Nat) (v2:Vm) (e:Ending) (w':World):Prop:=
 e=.returned (.tuple #[])/\Touch (fun b=>b=z.bw\/S b) w w'/\CycAt w' R y q z s U' ml lf ft ah/\∃ v'',VmAt w' (plus S w) q v''/\SlDr s D U0 U' v2 v''
structure DrI (w wr:World) (R S:Nat->Prop) (y q:Nat) (z:SlAd) (s:Sl) (D U0 U':Nat->Bool) (ml:List Bool) (lf ft ah:Nat) (v2:Vm) (pb f tb n:Nat):Prop where
 t:Touch (fun b=>b=z.bw\/S b) w wr
 cy:CycAt wr R y q z s U' ml lf ft ah
 vm:∃ Sj v'',(∀ b,Sj b->(S b/\b<w.heap.size)\/pb<b)/\VmAt wr Sj q v''/\SlDr s D U0 U' v2 v''
 pc:Rec wr pb 343 [.int .i64 f,.int .i64 tb,.int .i64 n]
section
variable {w:World} {R S:Nat->Prop} {y q:Nat} {z:SlAd} {s:Sl} {U D U0:Nat->Bool} {ml:List Bool} {lf ft ah:Nat} {v2 v':Vm} {i0 n f t:Nat}
set_option maxRecDepth 100000 in
set_option maxHeartbeats 3200000 in
theorem sl_drain (hC:CycAt w R y q z s U ml lf ft ah) (hst:SlSt s) (hV:VmAt w S q v') (hdis:∀ k,R k->¬ S k) (hdr:SlDr s D U0 U v2 v') (hn1:1<=n) (hn:i0+n<=sizes s.L) (hU:∀ i,i<n->U (i0+i)=true) (hw:∀ i,i<n->srcO s.L (i0+i)=f+i):
  Calls Tryz.prog 268 #[.pointer (some ⟨y,0,none⟩),.agg #[.int .i64 f,.int .i64 t,.int .i64 n]] w (DrainEnd w R S y q z s D U0 (butN U i0 n) ml lf ft ah v2):=by
 have HST:=hid hst
 have HDIS:=hid hdis
 have HU:=hid hU
 have HW:=hid hw
 have HB:=hid hn
 have hn2:=hst.n2
 have hNn:=hst.N_le
 have hpg:=hst.pg
 have hfb:f+n<=1048576:=by
  have h1:=hw (n-1) (by omega)
  have h2:=(hst.srcs (i:=i0+(n-1)) (by omega)).2.2
  omega
 have RP:=Rec.new w 343 [.int .i64 f,.int .i64 t,.int .i64 n]
 simp only [List.toArray] at RP
 obtain ⟨w0,hw0⟩:∃ w0,w0=w.alloc (.cells #[.int .i64 f,.int .i64 t,.int .i64 n] 343):=⟨_,rfl⟩
 have hg0:Gr w w0:=by rw [hw0];exact (Gr.refl w).alloc _
 have hs0:w0.heap.size=w.heap.size+1:=by rw [hw0,World.size_alloc]
 have HI0:Hid (DrI w w0 R S y q z s D U0 (butN U i0 0) ml lf ft ah v2 w.heap.size f t n):=⟨by
  rw [butN_zero]
  exact ⟨hg0.touch _,hC.gr hg0,⟨cutS S w,v',fun b hb=>.inl hb,hV.cut.gr hg0,hdr⟩,by rw [hw0];exact RP⟩⟩
 have HRL:=hid hC.od.lt
 have HS0:=hid hs0
 have hfr:n≠0->True:=fun _=>trivial
 clear hC hst hV hdis hdr hU hw hn hg0 hfr
 obtain ⟨pb,hpb⟩:∃ pb,pb=w.heap.size:=⟨_,rfl⟩
 have HPB:=hid hpb
 have HI1:Hid (DrI w w0 R S y q z s D U0 (butN U i0 0) ml lf ft ah v2 pb f t n):=⟨by rw [hpb];exact HI0.out⟩
 go_enter Tryz.func268,Tryz.ntmps268
 go_upto_region 1 with (fail)
 rw [<-hw0,<-hpb]
 clear hw0 RP HI0 hs0 hpb
 have p0:=HI1.out.pc.cell (j:=0) rfl
 have pl:=HI1.out.pc.lt
 go_upto_region 2 with (fail)
 clear p0 pl
 go_loopw [4] (fun s4 wr=>∃ j A:Nat,j<=n/\Hid (A=f+j)/\Hid (DrI w wr R S y q z s D U0 (butN U i0 j) ml lf ft ah v2 pb f t n)/\s4=.int .i64 A) (fun s4 _=>f+n-(intOf s4).toNat)
 case atStart=>exact ⟨0,f,Nat.zero_le _,⟨rfl⟩,HI1,rfl⟩
 case round=>
  obtain ⟨j,A,hj,HA,HI,rfl⟩:=hrel
  clear HI1
  have p0:=HI.out.pc.cell (j:=0) rfl
  have p2:=HI.out.pc.cell (j:=2) rfl
  have pl:=HI.out.pc.lt
  by_cases hlt:j<n
  ·have HLT:=hid hlt
   have hAn:(A:Int)<(f:Int)+(n:Int):=by have:=HA.out;omega
   have hAb:A<=1048576:=by have:=HA.out;omega
   obtain ⟨Sj,vx,hsj,hvx,hdx⟩:=HI.out.vm
   have hcy:=HI.out.cy
   have hwi:=HW.out j hlt
   have hUi:=HU.out j hlt
   have hiN:i0+j<sizes s.L:=by have:=HB.out;omega
   have hUj:butN U i0 j (i0+j)=true:=by rw [butN_in (by omega)];exact hUi
   have hpgx:=hdx.mid.pg
   have HPG:=hid (fun (W:World) (g:Gr wr W)=>vm_page (hvx.gr g))
   rw [hpgx] at HPG
   obtain ⟨pg,hpge⟩:∃ pg,pg=s.pg:=⟨_,rfl⟩
   have HPGE:=hid hpge
   rw [<-hpge] at HPG hpg
   obtain ⟨Q,hQ⟩:∃ Q,Q=A/pg:=⟨_,rfl⟩
   have g1:((A:Int).tdiv (pg:Int))=(Q:Int):=by rw [hQ];rfl
   have g2:((A:Int)/(pg:Int))=(Q:Int):=by rw [hQ];rfl
   have hpg0:(pg:Int)≠0:=by omega
   have hQb:Q<=1048576:=by rw [hQ];exact Nat.le_trans (Nat.div_le_self _ _) hAb
   have hsq:srcO s.L (i0+j)/s.pg=Q:=by rw [hwi,hQ,HA.out,hpge]
   have HQ:=hid hsq
   obtain ⟨nw,fm,hm,hn1,hn2'⟩:=hcy.wd
   have hlk:=wds_look hcy.wd (q:=Q) (by omega)
   have hon:=Sl.on_but (s:=s) (U:=butN U i0 j) (i:=i0+j) (q:=Q) hiN hUj
   rw [if_pos hsq] at hon
   obtain ⟨N,hN⟩:∃ N,N=s.on (butN U i0 j) Q:=⟨_,rfl⟩
   obtain ⟨N',hN'⟩:∃ N',N'=s.on (but (butN U i0 j) (i0+j)) Q:=⟨_,rfl⟩
   have hNle:N<=1048576:=by rw [hN];have:=s.on_le (butN U i0 j) Q;omega
   rw [<-hN] at hlk
   rw [<-hN,<-hN'] at hon
   have hNN:(N:Int)-1=(N':Int):=by omega
   have HMI:=hid hm
   have HN1:=hid (And.intro hn1 hn2')
   have HLL:Hid (nw<maxLen):=⟨by have h1:=hn1;have h2:=hn2;have h3:=hNn;unfold maxLen;omega⟩
   have HWF:Hid ((Lit.int .i64 (Q:Int)).wf=true):=⟨WalkArith.wf_i64 (by omega)⟩
   have HX:=hid (And.intro hiN (And.intro hUj hN'))
   have HSJ:=hid hsj
   have HVX:=hid hvx
   have HDX:=hid hdx
   have x0:=hcy.rc.cell (j:=0) rfl
   have x8:=hcy.rc.cell (j:=14) rfl
   have xl:=hcy.rc.lt
   clear hcy hwi hUi hiN hUj hpgx hpge hQ hsq hm hn1 hn2' hon hN hN' hsj hvx hdx hlt
   go_upto_region 6 with (first
    | (go_at_call 198;refine (HPG.out _ (Gr.refl wr)).mono ?_;rintro e w3 ⟨rfl,rfl⟩)
    | (at_mapUpdate;refine wpList_mapI _ rfl _ _ _ 142 rfl 3 3 keyed_int Tryz.underlying142 Tryz.underlying3 z.bw nw fm rfl HMI.out HLL.out (Q:Int) (.int .i64 (N':Int)) rfl rfl HWF.out ?_;intro w3 hm3 ht3;have HM3:=hid hm3;have HT3:=hid ht3;clear hm3 ht3))
   have hcy3:CycAt w3 R y q z s (butN U i0 (j+1)) ml lf ft ah:=by
    rw [butN_succ]
    refine HI.out.cy.setW HT3.out (wds_put HN1.out.1 HN1.out.2 HX.out.1 HX.out.2.1 (x:=N') (by rw [HX.out.2.2,HQ.out]) ?_)
    rw [HQ.out]
    exact HM3.out
   have hnbw:¬ Sj z.bw:=fun h=>by
    have h1:=HRL.out _ HI.out.cy.od.r3
    rcases HSJ.out _ h with h | h
    ·exact HDIS.out _ HI.out.cy.od.r3 h.1
    ·have:=HPB.out;omega
   have hnR:∀ k,R k->¬ Sj k:=fun k hk h=>by
    have h1:=HRL.out _ hk
    rcases HSJ.out _ h with h | h
    ·exact HDIS.out _ hk h.1
    ·have:=HPB.out;omega
   have HV3:Hid (VmAt w3 Sj q vx):=⟨HVX.out.touch HT3.out (fun b hb _ h=>hnbw (h ▸ hb))⟩
   have HC3:=hid hcy3
   have HNR:=hid hnR
   have hpbw:pb≠z.bw:=fun h=>by have h1:=HRL.out _ HI.out.cy.od.r3;have:=HPB.out;omega
   have HP3:=hid (HI.out.pc.touch HT3.out hpbw)
   have y0:=hcy3.rc.cell (j:=0) rfl
   have y8:=hcy3.rc.cell (j:=14) rfl
   have yl:=hcy3.rc.lt
   have hlk3:=wds_look hcy3.wd (q:=Q) (by omega)
   rw [butN_succ,<-HX.out.2.2] at hlk3
   have HT03:Hid (Touch (fun b=>b=z.bw\/S b) w w3):=⟨HI.out.t.trans (HT3.out.mono (fun b _ h=>.inl h))⟩
   have HA1:Hid (A+1=f+(j+1)):=⟨by have:=HA.out;omega⟩
   clear hlk x0 x8 xl hcy3 hnbw hnR hpbw p0 p2 pl
   simp only [Act.put]
   by_cases hz:N'=0
   ·have d0:((N':Int)==0)=true:=by simp [hz]
    have HZ:=hid hz
    clear hz
    go_wp2_with (go_at_call 199;refine (vm_unmap HV3.out (Q:Int)).mono ?_;rintro e w5 ⟨rfl,ht5,hv5⟩;have HT5:=hid ht5;have HV5:=hid hv5;clear ht5 hv5)
    go_roundw
    case rel=>
     have hz3:=HT03.out.size
     have hw3:pb<w3.heap.size:=HP3.out.lt
     refine ⟨j+1,A+1,HLT.out,HA1,⟨⟨HT03.out.trans' HT5.out (fun b hb h=>?_),HC3.out.touch HT5.out HNR.out,⟨plus Sj w3,_,fun b hb=>?_,HV5.out,?_⟩,HP3.out.touch HT5.out (fun h=>?_)⟩⟩,by go_num⟩
     ·rcases HSJ.out b h with h | h
      ·exact .inr h.1
      ·have:=HPB.out;omega
     ·rcases hb with h | h
      ·exact HSJ.out b h
      ·right;omega
     ·have:=HDX.out.drop HST.out HX.out.1 HX.out.2.1 (by rw [HQ.out,<-HX.out.2.2];exact HZ.out)
      rw [HQ.out] at this
      rw [butN_succ]
      exact this
     ·rcases HSJ.out _ h with h | h
      ·have:=HPB.out;omega
      ·omega
    case measure=>have:=HA.out;have:=HLT.out;simp [intOf];omega
   ·have d0:((N':Int)==0)=false:=by simp;exact hz
    have HZ:=hid hz
    clear hz
    go_wp2
    go_roundw
    case rel=>
     refine ⟨j+1,A+1,HLT.out,HA1,⟨⟨HT03.out,HC3.out,⟨Sj,_,HSJ.out,HV3.out,?_⟩,HP3.out⟩⟩,by go_num⟩
     rw [butN_succ]
     exact HDX.out.keep HX.out.1 HX.out.2.1 (by rw [HQ.out,<-HX.out.2.2];exact HZ.out)
    case measure=>have:=HA.out;have:=HLT.out;simp [intOf];omega
  ·obtain rfl:j=n:=by omega
   have hAn:¬ (A:Int)<(f:Int)+(j:Int):=by have:=HA.out;omega
   clear hlt
   go_wp2
   refine bodyPost_end (results_none rfl _ _ _) rfl ?_
   obtain ⟨Sj,vx,hsj,hvx,hdx⟩:=HI.out.vm
   exact ⟨rfl,HI.out.t,HI.out.cy,vx,hvx.mono (fun b hb=>(hsj b hb).imp (fun h=>h.1) (fun h=>by have:=HPB.out;omega)),hdx⟩
end
end Go.Proofs.YthgdadohijgleaaGreatDoor
end
section
namespace Go.Proofs.YthgdadohijgleaaGreatDoor
open Go.RowKit Word
def SlPg (s:Sl) (v:Vm):Prop:=∀ p,p<v.pt.length->(v.pt.getD p 0≠0↔(∃ i,i<sizes s.L/\srcO s.L i/s.pg=p/\s.is i=false)\/(∃ i,i<sizes s.L/\(s.cf.to+i)/s.pg=p/\s.is i=true))
theorem cnt_imp {f g:Nat->Bool} {n:Nat} (h:∀ i,i<n->f i=true->g i=true):cnt f n<=cnt g n:=by
 induction n with
 | zero=>exact Nat.le_refl _
 | succ n ih=>
  rw [cnt_succ,cnt_succ]
  have h1:=ih (fun i hi=>h i (by omega))
  have h2:=h n (by omega)
  cases hf:f n <;> cases hg:g n <;> simp_all <;> omega
theorem cnt_or_le (f g:Nat->Bool) (n:Nat):cnt (fun i=>f i||g i) n<=cnt f n+cnt g n:=by
 induction n with
 | zero=>exact Nat.le_refl _
 | succ n ih=>
  rw [cnt_succ,cnt_succ,cnt_succ]
  cases f n <;> cases g n <;> simp <;> omega
theorem cnt_int (a b n:Nat):cnt (fun i=>decide (a<=i/\i<b)) n<=b-a:=by
 induction n with
 | zero=>exact Nat.zero_le _
 | succ n ih=>
  have key:cnt (fun i=>decide (a<=i/\i<b)) (n+1)<=min (n+1) b-a:=by
   clear ih
   induction n with
   | zero=>
    rw [cnt_succ,cnt_zero]
    by_cases h:a<=0/\0<b
    ·rw [decide_eq_true h];simp;omega
    ·rw [decide_eq_false h];simp
   | succ n ih=>
    rw [cnt_succ]
    by_cases h:a<=n+1/\n+1<b
    ·rw [decide_eq_true h];simp only [Bool.toNat_true];omega
    ·rw [decide_eq_false h];simp only [Bool.toNat_false];omega
  omega
theorem cnt_any (l:List Nat) (f:Nat->Nat->Bool) {m n:Nat} (h:∀ k∈l,cnt (f k) n<=m):cnt (fun i=>l.any fun k=>f k i) n<=l.length*m:=by
 induction l with
 | nil=>
  have:cnt (fun i=>([]:List Nat).any fun k=>f k i) n=0:=cnt_none (fun i _=>rfl)
  rw [this];exact Nat.zero_le _
 | cons k r ih=>
  have h1:=ih (fun j hj=>h j (List.mem_cons_of_mem _ hj))
  have h2:=h k (List.mem_cons_self ..)
  have h3:=cnt_or_le (f k) (fun i=>r.any fun k=>f k i) n
  rw [List.length_cons,Nat.succ_mul]
  have e:cnt (fun i=>(k :: r).any fun k=>f k i) n=cnt (fun i=>f k i||r.any fun k=>f k i) n:=rfl
  omega
theorem cnt_both {l:List Bool} {m:Nat} (hm:m<=l.length) (h:∀ i,i<m->at_ l i=true):cnt (fun k=>decide (m<=k)&&at_ l k) l.length+m=cnt (at_ l) l.length:=by
 have e:=cnt_or (f:=fun k=>decide (m<=k)&&at_ l k) (g:=fun k=>decide (0<=k/\k<m)) (fun i=>by
  by_cases hi:m<=i
  ·have:¬ i<m:=by omega
   simp [this]
  ·simp [hi]) l.length
 rw [cnt_run 0 m _ (Nat.zero_le _) hm] at e
 have e2:cnt (fun i=>(decide (m<=i)&&at_ l i)||decide (0<=i/\i<m)) l.length=cnt (at_ l) l.length:=cnt_congr fun i hi=>by
  by_cases him:i<m
  ·have h1:=h i him
   have:¬ m<=i:=by omega
   simp [him,h1]
  ·have:m<=i:=by omega
   simp [him,this]
 omega
theorem pow_of {n:Nat} (h:blockOk n=true):∃ k:Nat,n=2 ^ k:=by
 simp [blockOk] at h
 have:n=1\/n=2\/n=4\/n=8\/n=16\/n=32\/n=64\/n=128\/n=256\/n=512\/n=1024:=by omega
 rcases this with rfl | rfl | rfl | rfl | rfl | rfl | rfl | rfl | rfl | rfl | rfl
 all_goals first | exact ⟨0,rfl⟩ | exact ⟨1,rfl⟩ | exact ⟨2,rfl⟩ | exact ⟨3,rfl⟩ | exact ⟨4,rfl⟩ | exact ⟨5,rfl⟩ | exact ⟨6,rfl⟩ | exact ⟨7,rfl⟩ | exact ⟨8,rfl⟩ | exact ⟨9,rfl⟩ | exact ⟨10,rfl⟩
theorem blk_pages {B pg:Nat} (hB:blockOk B=true) (hp:blockOk pg=true) (j:Nat):∃ a,∀ i,i/B=j->a<=i/pg/\i/pg<a+max 1 (B/pg):=by
 obtain ⟨k,rfl⟩:=pow_of hB
 obtain ⟨l,rfl⟩:=pow_of hp
 have h1:0<2 ^ k:=Nat.two_pow_pos k
 have h2:0<2 ^ l:=Nat.two_pow_pos l
 rcases Nat.lt_or_ge k l with h | h
 ·obtain ⟨d,rfl⟩:∃ d,l=k+d:=⟨l-k,by omega⟩
  refine ⟨j/2 ^ d,fun i hi=>?_⟩
  have:i/2 ^ (k+d)=j/2 ^ d:=by rw [Nat.pow_add,<-Nat.div_div_eq_div_mul,hi]
  omega
 ·obtain ⟨d,rfl⟩:∃ d,k=l+d:=⟨k-l,by omega⟩
  have e:2 ^ (l+d)/2 ^ l=2 ^ d:=by rw [Nat.pow_add,Nat.mul_div_cancel_left _ h2]
  have h3:0<2 ^ d:=Nat.two_pow_pos d
  refine ⟨j*2 ^ d,fun i hi=>?_⟩
  have h4:i/2 ^ l/2 ^ d=j:=by rw [Nat.div_div_eq_div_mul,<-Nat.pow_add,hi]
  rw [e]
  have h5:=Nat.div_add_mod (i/2 ^ l) (2 ^ d)
  have h6:=Nat.mod_lt (i/2 ^ l) h3
  rw [h4,Nat.mul_comm] at h5
  omega
theorem used_more {v:Vm} (h:VmOk v) {p0 c:Nat} (hc:p0+c<=v.pt.length):cnt (fun p=>(v.pt.getD p 0 !=0)||decide (p0<=p/\p<p0+c)) v.pt.length=v.pl.used+(unmL v p0 c).length:=by
 induction c with
 | zero=>
  rw [h.us]
  show _=nz v.pt+0
  unfold nz
  refine cnt_congr fun p _=>?_
  rw [decide_eq_false (show ¬ (p0<=p/\p<p0+0) by omega),Bool.or_false]
 | succ c ih=>
  have ih:=ih (by omega)
  rw [unmL_succ]
  by_cases h0:v.pt.getD (p0+c) 0=0
  ·rw [if_pos h0,List.length_append,List.length_singleton,show v.pl.used+((unmL v p0 c).length+1)=(v.pl.used+(unmL v p0 c).length)+1 by omega,<-ih]
   have e:=cnt_more (f:=fun p=>(v.pt.getD p 0 !=0)||decide (p0<=p/\p<p0+c)) (i:=p0+c) (n:=v.pt.length) (by omega) (by show ((v.pt.getD (p0+c) 0 !=0)||decide (p0<=p0+c/\p0+c<p0+c))=false;rw [h0,decide_eq_false (by omega)];rfl)
   rw [<-e]
   refine cnt_congr fun p _=>?_
   by_cases hp:p=p0+c
   ·subst hp
    simp
   ·have:(p0<=p/\p<p0+(c+1))↔(p0<=p/\p<p0+c):=by omega
    have e2:decide (p0<=p/\p<p0+(c+1))=decide (p0<=p/\p<p0+c):=decide_eq_decide.2 this
    rw [e2,beq_eq_false_iff_ne.2 hp,Bool.or_false]
  ·rw [if_neg h0,<-ih]
   refine cnt_congr fun p _=>?_
   by_cases hp:p=p0+c
   ·subst hp
    rw [bne_iff_ne.2 h0,Bool.true_or,Bool.true_or]
   ·have:(p0<=p/\p<p0+(c+1))↔(p0<=p/\p<p0+c):=by omega
    rw [decide_eq_decide.2 this]
section
variable {s:Sl} {v v':Vm} {k:Nat}
theorem Sl.ft_le (s:Sl):s.ft<=s.mv.length:=first_le _ _
theorem Sl.ft_on (s:Sl) {i:Nat} (h:i<s.ft):at_ s.mv i=true:=by
 have:=first_not (fun k=>!at_ s.mv k) s.mv.length i h
 simpa using this
theorem Sl.ft_off (s:Sl) (h:s.ft<s.mv.length):at_ s.mv s.ft=false:=by
 have:(!at_ s.mv s.ft)=true:=first_at (fun k=>!at_ s.mv k) s.mv.length h
 simpa using this
theorem Sl.ft_min (s:Sl) {k:Nat} (_hk:k<s.mv.length) (hm:at_ s.mv k=false):s.ft<=k:=by
 rcases Nat.lt_or_ge k s.ft with h | h
 ·rw [s.ft_on h] at hm;cases hm
 ·exact h
theorem SlMv.pages (h0:SlOk s v) (hk:k<s.mv.length) (hP:SlPg s v) (h:SlMv s k v v'):SlPg { s with mv:=s.mv.set k true } v':=by
 have hs:=h0.st
 have hlen:v'.pt.length=v.pt.length:=by rw [h.ok.mid.ok.len,h0.mid.ok.len,h.ok.mid.n,h.ok.mid.pg,h0.mid.n,h0.mid.pg]
 have hlh:=hs.lohi hk
 have his:∀ i,({ s with mv:=s.mv.set k true }:Sl).is i=(s.is i||s.inB k i):=Sl.is_put hk
 intro p hp
 rw [hlen] at hp
 show v'.pt.getD p 0≠0↔(∃ i,i<sizes s.L/\srcO s.L i/s.pg=p/\({ s with mv:=s.mv.set k true }:Sl).is i=false)\/(∃ i,i<sizes s.L/\(s.cf.to+i)/s.pg=p/\({ s with mv:=s.mv.set k true }:Sl).is i=true)
 rw [h.map p hp,hP p hp]
 have hdr:∀ i,i<sizes s.L->∀ j,j<sizes s.L->srcO s.L i/s.pg≠(s.cf.to+j)/s.pg:=fun i hi j hj=>hs.apart ⟨(hs.srcs hi).1,(hs.srcs hi).2.1⟩ ⟨Nat.le_add_right _ j,(hs.dsts hj).1⟩
 constructor
 ·rintro ⟨h1,h2⟩
  rcases h1 with (⟨i,hi,e1,e2⟩ | ⟨i,hi,e1,e2⟩) | ⟨e1,e2⟩
  ·left
   by_cases hb:s.inB k i=true
   ·have:=fun hh=>h2 ⟨i,hi,hb,e1,hh⟩
    have h3:=Classical.not_forall.1 this
    obtain ⟨j,hj⟩:=h3
    have hj1:j<sizes s.L:=Classical.byContradiction fun g=>hj (fun g'=>absurd g' g)
    have hj2:srcO s.L j/s.pg=p:=Classical.byContradiction fun g=>hj (fun _ g'=>absurd g' g)
    refine ⟨j,hj1,hj2,?_⟩
    rw [his]
    have hj3:¬ (s.is j=true\/s.inB k j=true):=fun g=>hj (fun _ _=>g)
    cases ea:s.is j <;> cases eb:s.inB k j <;> simp_all
   ·exact ⟨i,hi,e1,by rw [his,e2];simpa using hb⟩
  ·exact .inr ⟨i,hi,e1,by rw [his,e2];rfl⟩
  ·right
   -- a word of the block on that page
   have hpg:=hs.pg.1
   obtain ⟨i,hi1,hi2,hi3⟩:∃ i,s.lo k<=i/\i<s.hi k/\(s.cf.to+i)/s.pg=p:=by
    rcases Nat.lt_or_ge (s.cf.to+s.lo k) (p*s.pg) with g | g
    ·refine ⟨p*s.pg-s.cf.to,by omega,?_,?_⟩
     ·have:=(Nat.le_div_iff_mul_le (by omega)).1 e2
      omega
     ·rw [show s.cf.to+(p*s.pg-s.cf.to)=p*s.pg by omega,Nat.mul_div_cancel _ (by omega)]
    ·refine ⟨s.lo k,Nat.le_refl _,hlh.1,?_⟩
     have:=(Nat.le_div_iff_mul_le (show 0<s.pg by omega)).2 g
     omega
   have hiN:i<sizes s.L:=by omega
   exact ⟨i,hiN,hi3,by rw [his,(hs.inB hiN).2 ⟨hi1,hi2⟩,Bool.or_true]⟩
 ·rintro (⟨i,hi,e1,e2⟩ | ⟨i,hi,e1,e2⟩)
  ·rw [his] at e2
   have e3:=Bool.or_eq_false_iff.1 e2
   refine ⟨.inl (.inl ⟨i,hi,e1,e3.1⟩),fun ⟨j,_,_,_,g⟩=>?_⟩
   rcases g i hi e1 with g | g
   ·rw [e3.1] at g;cases g
   ·rw [e3.2] at g;cases g
  ·rw [his] at e2
   refine ⟨?_,fun ⟨j,hj,_,g,_⟩=>hdr j hj i hi (g.trans e1.symm)⟩
   cases ea:s.is i with
   | true=>exact .inl (.inr ⟨i,hi,e1,ea⟩)
   | false=>
    rw [ea,Bool.false_or] at e2
    have:=(hs.inB hi).1 e2
    rw [<-e1]
    exact .inr ⟨Nat.div_le_div_right (by omega),Nat.div_le_div_right (by omega)⟩
theorem sizes_within {n:Nat} {L:List Ob} (hg:Good n L) {lo hi:Nat} (h:∀ o∈L,lo<=o.1/\o.1+o.2<=hi) (hlh:lo<=hi):sizes L+lo<=hi:=by
 rcases Nat.eq_zero_or_pos L.length with h0 | h0
 ·have:L=[]:=List.eq_nil_of_length_eq_zero h0
  subst this
  simp only [sizes];omega
 ·have hj:L.length-1<L.length:=by omega
  have e1:=pk_le hg (fun o ho=>(h o ho).1) hj
  have e2:=h _ (List.getElem_mem hj)
  have e3:=sizes_take hj
  rw [show L.length-1+1=L.length by omega,List.take_length] at e3
  omega
theorem sl_frames (h:SlOk s v) (hP:SlPg s v) (hk:k<s.mv.length) (hkm:at_ s.mv k=false) (hah:s.mvd-s.ft<=s.cf.ah)
  (hrm:(s.cf.tp-s.cf.fr+s.pg-1)/s.pg+(s.cf.ah+1)*max 1 (s.cf.bk/s.pg)+1<=v.pl.rm):needE v ((s.cf.to+s.lo k:Nat):Int) ((s.cf.to+s.hi k:Nat):Int)=0:=by
 have hs:=h.st
 have hok:=h.mid.ok
 have hpg:=hs.pg.1
 have hpgv:=h.mid.pg
 have hbk:=hs.bk.1
 have hlh:=hs.lohi hk
 have hto:s.cf.to+s.hi k<=v.n:=by have:=hs.fit;have:=hs.cf.ln;rw [h.mid.n];omega
 have hft:s.cf.to+s.lo k<s.cf.to+s.hi k:=by omega
 have hftk:=s.ft_min hk hkm
 have hpb:blockOk s.pg=true:=by rw [<-hpgv];exact hok.pl.pg
 have hfN:s.ft*s.cf.bk<sizes s.L:=by
  rw [<-nbl_lt hbk,<-hs.len];omega
 have hNs:sizes s.L+s.cf.fr<=s.cf.tp:=sizes_within hs.good hs.inn hs.cf.tp
 -- the window of pages that is asked for
 obtain ⟨p0,hp0⟩:∃ p0,p0=(s.cf.to+s.lo k)/s.pg:=⟨_,rfl⟩
 obtain ⟨p1,hp1⟩:∃ p1,p1=(s.cf.to+s.hi k-1)/s.pg:=⟨_,rfl⟩
 have hp01:p0<=p1:=by rw [hp0,hp1];exact Nat.div_le_div_right (by omega)
 have hp1l:p1<v.pt.length:=by rw [hp1,<-hpgv];exact (hok.split (a:=s.cf.to+s.hi k-1) (by omega)).1
 have eA:(((s.cf.to+s.lo k:Nat):Int)/(v.pl.pg:Int)).toNat=p0:=by
  rw [hpgv,show ((s.cf.to+s.lo k:Nat):Int)/(s.pg:Int)=(((s.cf.to+s.lo k)/s.pg:Nat):Int) from rfl,Int.toNat_natCast,hp0]
 have eB:pgsN v ((s.cf.to+s.lo k:Nat):Int) ((s.cf.to+s.hi k:Nat):Int)=p1+1-p0:=by
  unfold pgsN
  rw [hpgv,show ((s.cf.to+s.hi k:Nat):Int)-1=((s.cf.to+s.hi k-1:Nat):Int) by omega,show ((s.cf.to+s.hi k-1:Nat):Int)/(s.pg:Int)=(((s.cf.to+s.hi k-1)/s.pg:Nat):Int) from rfl,show ((s.cf.to+s.lo k:Nat):Int)/(s.pg:Int)=(((s.cf.to+s.lo k)/s.pg:Nat):Int) from rfl,<-hp0,<-hp1]
  omega
 unfold needE
 rw [if_neg (by omega),if_neg (by omega),eA,eB,if_pos]
 rw [<-used_more hok (by omega)]
 -- the bound
 obtain ⟨x,hx⟩:∃ x,x=s.ft*s.cf.bk/s.pg:=⟨_,rfl⟩
 obtain ⟨St,hSt⟩:∃ St,St=(s.cf.tp-s.cf.fr+s.pg-1)/s.pg:=⟨_,rfl⟩
 obtain ⟨M,hM⟩:∃ M,M=max 1 (s.cf.bk/s.pg):=⟨_,rfl⟩
 rw [<-hSt,<-hM] at hrm
 have hxS:x<=St:=by rw [hx,hSt];exact Nat.div_le_div_right (by omega)
 obtain ⟨a0,ha0⟩:s.pg ∣ s.cf.fr:=Nat.dvd_of_mod_eq_zero hs.cf.af
 obtain ⟨b0,hb0⟩:s.pg ∣ s.cf.to:=Nat.dvd_of_mod_eq_zero hs.cf.at_
 have hdst:∀ i,(s.cf.to+i)/s.pg=b0+i/s.pg:=fun i=>by
  rw [hb0,Nat.mul_comm,Nat.add_comm,Nat.add_mul_div_right _ _ (by omega)];omega
 obtain ⟨W,hWd⟩:∃ W:List Nat,W=(List.range s.mv.length).filter fun j=>decide (s.ft<=j)&&at_ s.mv j:=⟨_,rfl⟩
 have hWl:W.length+s.ft=s.mvd:=by
  have:=cnt_both (l:=s.mv) (m:=s.ft) s.ft_le (fun i hi=>s.ft_on hi)
  unfold Sl.mvd
  rw [<-this,hWd,<-List.countP_eq_length_filter]
  rfl
 let g:Nat->Nat->Bool:=fun j p=>(List.range (sizes s.L)).any fun i=>(i/s.cf.bk==j)&&((s.cf.to+i)/s.pg==p)
 have hg:∀ j,cnt (g j) v.pt.length<=M:=fun j=>by
  obtain ⟨a,ha⟩:=blk_pages hs.cf.bk hpb j
  refine Nat.le_trans (cnt_imp (g:=fun p=>decide (b0+a<=p/\p<b0+a+M)) fun p _ hp=>?_) (Nat.le_trans (cnt_int _ _ _) (by omega))
  obtain ⟨i,_,hi⟩:=List.any_eq_true.1 hp
  obtain ⟨e1,e2⟩:=Bool.and_eq_true_iff.1 hi
  have e1:i/s.cf.bk=j:=by simpa using e1
  have e2:(s.cf.to+i)/s.pg=p:=by simpa using e2
  have:=ha i e1
  rw [hdst] at e2
  rw [hM]
  exact decide_eq_true (by omega)
 have hany:=cnt_any (k :: W) g (m:=M) (n:=v.pt.length) (fun j _=>hg j)
 have h1:cnt (fun p=>(v.pt.getD p 0 !=0)||decide (p0<=p/\p<p0+(p1+1-p0))) v.pt.length<=cnt (fun p=>(decide (a0+x<=p/\p<a0+St)||decide (b0<=p/\p<b0+(x+1)))||(k :: W).any fun j=>g j p) v.pt.length:=cnt_imp fun p hp hh=>by
  have hgk:∀ i,i<sizes s.L->(s.cf.to+i)/s.pg=p->∀ j,j∈k :: W->i/s.cf.bk=j->((k :: W).any fun j=>g j p)=true:=fun i hi he j hj hb=>by
   refine List.any_eq_true.2 ⟨j,hj,List.any_eq_true.2 ⟨i,List.mem_range.2 hi,?_⟩⟩
   simp [hb,he]
  rcases Bool.or_eq_true_iff.1 hh with hm | hm
  ·have hm:v.pt.getD p 0≠0:=by simpa using hm
   rcases (hP p hp).1 hm with ⟨i,hi,e1,e2⟩ | ⟨i,hi,e1,e2⟩
   ·have h2:s.ft*s.cf.bk<=i:=by
     have h3:s.ft<=i/s.cf.bk:=s.ft_min (hs.blk hi) e2
     exact (Nat.le_div_iff_mul_le (by omega)).1 h3
    have h4:=src_ge hs.good (fun o ho=>(hs.inn o ho).1) hi
    have h5:=(hs.srcs hi).2.1
    have h6:a0+x<=p:=by
     rw [<-e1,Nat.le_div_iff_mul_le (by omega),Nat.add_mul]
     have:x*s.pg<=s.ft*s.cf.bk:=by rw [hx];exact Nat.div_mul_le_self _ _
     rw [Nat.mul_comm a0,<-ha0]
     omega
    have h7:p<a0+St:=by
     rw [<-e1,Nat.div_lt_iff_lt_mul (by omega),Nat.add_mul,Nat.mul_comm a0,<-ha0,hSt]
     have d1:=Nat.div_add_mod (s.cf.tp-s.cf.fr+s.pg-1) s.pg
     have d2:=Nat.mod_lt (s.cf.tp-s.cf.fr+s.pg-1) (show 0<s.pg by omega)
     rw [Nat.mul_comm] at d1
     omega
    rw [decide_eq_true ⟨h6,h7⟩];rfl
   ·rcases Nat.lt_or_ge (i/s.cf.bk) s.ft with h2 | h2
    ·have h3:i<s.ft*s.cf.bk:=(Nat.div_lt_iff_lt_mul (by omega)).1 h2
     have h4:i/s.pg<=x:=by rw [hx];exact Nat.div_le_div_right (by omega)
     rw [hdst] at e1
     have q1:b0<=p:=by rw [<-e1];exact Nat.le_add_right _ _
     have q2:p<b0+(x+1):=by rw [<-e1];exact Nat.add_lt_add_left (Nat.lt_succ_of_le h4) _
     rw [decide_eq_true (p:=b0<=p/\p<b0+(x+1)) ⟨q1,q2⟩]
     simp
    ·rw [hgk i hi e1 (i/s.cf.bk) (List.mem_cons_of_mem _ (hWd ▸ List.mem_filter.2 ⟨List.mem_range.2 (hs.blk hi),by rw [decide_eq_true h2];exact e2⟩)) rfl]
     simp
  ·have hm:p0<=p/\p<p0+(p1+1-p0):=of_decide_eq_true hm
   obtain ⟨i,hi1,hi2,hi3⟩:∃ i,s.lo k<=i/\i<s.hi k/\(s.cf.to+i)/s.pg=p:=by
    rcases Nat.lt_or_ge (s.cf.to+s.lo k) (p*s.pg) with q | q
    ·refine ⟨p*s.pg-s.cf.to,by omega,?_,?_⟩
     ·have:=(Nat.le_div_iff_mul_le (by omega)).1 (show p<=(s.cf.to+s.hi k-1)/s.pg by omega)
      omega
     ·rw [show s.cf.to+(p*s.pg-s.cf.to)=p*s.pg by omega,Nat.mul_div_cancel _ (by omega)]
    ·refine ⟨s.lo k,Nat.le_refl _,hlh.1,?_⟩
     have:=(Nat.le_div_iff_mul_le (show 0<s.pg by omega)).2 q
     omega
   have hiN:i<sizes s.L:=by omega
   have hb:i/s.cf.bk=k:=by simpa [Sl.inB] using (hs.inB hiN).2 ⟨hi1,hi2⟩
   rw [hgk i hiN hi3 k (List.mem_cons_self ..) hb]
   simp
 have h2:=cnt_or_le (fun p=>decide (a0+x<=p/\p<a0+St)||decide (b0<=p/\p<b0+(x+1))) (fun p=>(k :: W).any fun j=>g j p) v.pt.length
 have h3:=cnt_or_le (fun p=>decide (a0+x<=p/\p<a0+St)) (fun p=>decide (b0<=p/\p<b0+(x+1))) v.pt.length
 have h4:=cnt_int (a0+x) (a0+St) v.pt.length
 have h5:=cnt_int b0 (b0+(x+1)) v.pt.length
 have h6:(k :: W).length*M<=(s.cf.ah+1)*M:=Nat.mul_le_mul_right _ (by rw [List.length_cons];omega)
 omega
end
end Go.Proofs.YthgdadohijgleaaGreatDoor
end
section
namespace Go.Proofs.YthgdadohijgleaaGreatDoor
open Go.RowKit Go.Shelf Word
theorem pcs_nat {s:Sl} (hst:SlSt s) {k:Nat} (hk:k<s.mv.length):∃ (P:List Pc) (M:Nat->Nat),pcsOf s.L s.cf.bk s.cf.to k=P/\M 0=0/\M P.length=s.hi k-s.lo k/\∀ i (h:i<P.length),∃ f:Nat,1<=P[i].s/\P[i].f=f/\P[i].t=((s.cf.to+(s.lo k+M i):Nat):Int)/\M (i+1)=M i+P[i].s/\s.lo k+M i+P[i].s<=s.hi k/\∀ j,j<P[i].s->srcO s.L (s.lo k+M i+j)=f+j:=by
 have hlh:=hst.lohi hk
 have hin:rngIn s.L s.cf.bk (k:Int)=true:=by
  unfold rngIn
  rw [decide_eq_true (by omega),decide_eq_true (by rw [<-hst.len];omega)];rfl
 obtain ⟨e1,e2,-⟩:=rng_yes (base:=(s.cf.to:Int)) hin
 have ea:rngA s.L s.cf.bk s.cf.to k=((s.cf.to+s.lo k:Nat):Int):=by rw [e1];unfold Sl.lo;push_cast;rfl
 have ez:rngZ s.L s.cf.bk s.cf.to k=((s.cf.to+s.hi k:Nat):Int):=by
  rw [e2];unfold Sl.hi
  rw [show (k:Int)*(s.cf.bk:Int)=((k*s.cf.bk:Nat):Int) by push_cast;rfl]
  omega
 obtain ⟨P,hP⟩:∃ P,P=pcsOf s.L s.cf.bk s.cf.to k:=⟨_,rfl⟩
 have hP2:P=pcs (fromV s.L s.cf.to) ((s.cf.to+s.lo k:Nat):Int) (s.hi k-s.lo k):=by
  rw [hP];unfold pcsOf
  rw [ea,ez]
  congr 1
  omega
 have hr:Runs (fromV s.L s.cf.to) ((s.cf.to+s.lo k:Nat):Int) (s.hi k-s.lo k) P:=by rw [hP2];exact pcs_runs _ _ _
 have hends:=fun i hi=>hr.ends _ i hi rfl
 have h0:=toAt_zero hr (by omega)
 have hE:=toAt_end P (((s.cf.to+s.lo k:Nat):Int)+((s.hi k-s.lo k:Nat):Int))
 obtain ⟨T,hT⟩:∃ T:Nat->Int,T=toAt P (((s.cf.to+s.lo k:Nat):Int)+((s.hi k-s.lo k:Nat):Int)):=⟨_,rfl⟩
 rw [<-hT] at h0 hE
 refine ⟨P,fun i=>(T i-((s.cf.to+s.lo k:Nat):Int)).toNat,hP.symm,by dsimp only;rw [h0];omega,by dsimp only;rw [hE];omega,fun i hi=>?_⟩
 obtain ⟨g1,g2⟩:=hends i hi
 have h1:T i=P[i].t:=by rw [hT];exact toAt_in hi
 have h2:T (i+1)=P[i].t+P[i].s:=by rw [hT];exact toAt_next hr hi
 have hw:=hr.word _ (List.getElem_mem hi)
 have hp:=hr.pos _ (List.getElem_mem hi)
 obtain ⟨m,hm⟩:∃ m:Nat,P[i].t=((s.cf.to+(s.lo k+m):Nat):Int):=⟨(P[i].t-((s.cf.to+s.lo k:Nat):Int)).toNat,by omega⟩
 have hsr:∀ j,j<P[i].s->(srcO s.L (s.lo k+m+j):Int)=P[i].f+j:=fun j hj=>by
  rw [<-hw j hj,hm,show ((s.cf.to+(s.lo k+m):Nat):Int)+(j:Int)=((s.cf.to+(s.lo k+m+j):Nat):Int) by omega]
  exact (src_from (by omega)).1.symm
 have hf0:=hsr 0 (by omega)
 refine ⟨P[i].f.toNat,hp,by omega,?_,?_,?_,fun j hj=>?_⟩
 ·dsimp only;rw [h1];omega
 ·dsimp only;rw [h1,h2];omega
 ·dsimp only;rw [h1];omega
 ·have:=hsr j hj
  dsimp only
  rw [h1,show (P[i].t-((s.cf.to+s.lo k:Nat):Int)).toNat=m by omega]
  omega
theorem butN_add (U:Nat->Bool) (i n m:Nat):butN (butN U i n) (i+n) m=butN U i (n+m):=by
 induction m with
 | zero=>rw [butN_zero];rfl
 | succ m ih=>rw [butN_succ,ih,<-Nat.add_assoc,butN_succ,Nat.add_assoc i n m]
theorem PcsAt.touch {w w':World} {T:Nat->Prop} {A:Option Addr} {P:List Pc} (h:PcsAt w A P) (t:Touch T w w') (hT:∀ a,A=some a->¬ T a.block):PcsAt w' A P:=fun i hi=>by
 obtain ⟨g,rfl,h1,h2,h3,h4⟩:=h i hi
 have hg:=hT _ rfl
 exact ⟨g,rfl,Nat.lt_of_lt_of_le h1 t.size,(t.cell h1 hg _).trans h2,(t.cell h1 hg _).trans h3,(t.cell h1 hg _).trans h4⟩
theorem CycAt.cu {w:World} {R:Nat->Prop} {y q:Nat} {z:SlAd} {s:Sl} {U V:Nat->Bool} {ml:List Bool} {lf ft ah:Nat} (h:CycAt w R y q z s U ml lf ft ah) (hU:∀ j,j<sizes s.L->U j=V j):CycAt w R y q z s V ml lf ft ah:=by
 refine ⟨h.od,h.rc,h.pl,h.ex,h.sh,?_,h.mv⟩
 obtain ⟨n,f,h1,h2,h3⟩:=h.wd
 exact ⟨n,f,h1,by rw [<-cnt_congr hU];exact h2,fun q=>by rw [<-Sl.on_congr hU];exact h3 q⟩
def cellN (w:World) (b o:Nat):Nat:=match w.cell? ⟨b,o,none⟩ with | some v=>(intOf v).toNat | none=>0
def MvEnd (w:World) (R S:Nat->Prop) (y q:Nat) (z:SlAd) (s:Sl) (k:Nat) (v:Vm) (e:Ending) (w':World):Prop:=
 e=.returned (.int .i64 0)/\Touch (fun b=>R b\/S b) w w'/\Cyc w' R y q z { s with mv:=s.mv.set k true }/\∃ v',VmAt w' (plus S w) q v'/\SlMv s k v v'
structure MvC (w w2 wr:World) (R S S2:Nat->Prop) (y q:Nat) (z:SlAd) (s:Sl) (k m:Nat) (v1:Vm) (g:Nat) (P:List Pc):Prop where
 t:Touch (fun b=>R b\/S b) w wr
 t2:Touch S2 w2 wr
 cy:Cyc wr R y q z s
 vm:∃ vx,VmAt wr S2 q vx/\SlCp s s.is (fun i=>!s.is i) (s.lo k) (s.hi k) v1 vx m
 pc:PcsAt wr (some ⟨g,0,none⟩) P
structure MvD (w w4 wr:World) (R S S2:Nat->Prop) (y q:Nat) (z:SlAd) (s:Sl) (k m:Nat) (v2:Vm) (g:Nat) (P:List Pc):Prop where
 t:Touch (fun b=>R b\/S b) w wr
 sz:w4.heap.size<=wr.heap.size
 cy:CycAt wr R y q z s (butN (fun i=>!s.is i) (s.lo k) m) s.mv s.lf s.ft (s.mvd-s.ft)
 vm:∃ Sj vx,(∀ b,Sj b->S2 b\/w4.heap.size<=b)/\VmAt wr Sj q vx/\SlDr s (fun j=>s.is j||(decide (s.lo k<=j)&&decide (j<s.lo k+(s.hi k-s.lo k)))) (fun i=>!s.is i) (butN (fun i=>!s.is i) (s.lo k) m) v2 vx
 pc:PcsAt wr (some ⟨g,0,none⟩) P
structure MvF (w8 wr:World) (R:Nat->Prop) (y q:Nat) (z:SlAd) (s:Sl) (U:Nat->Bool) (ml:List Bool) (l1 sm fc ac:Nat):Prop where
 cy:CycAt wr R y q z s U ml l1 fc ac
 t:Touch (fun i=>i=y) w8 wr
 on:∀ i,i<fc->at_ ml i=true
 sum:ac+fc=sm
 le:fc<=ml.length
structure MvK (w w2:World) (R S S2:Nat->Prop) (s:Sl) (k:Nat) (v1:Vm) (P:List Pc) (M:Nat->Nat):Prop where
 st:SlSt s
 hk:k<s.mv.length
 hm:at_ s.mv k=false
 pc:∀ i (h:i<P.length),∃ f:Nat,1<=P[i].s/\P[i].f=f/\P[i].t=((s.cf.to+(s.lo k+M i):Nat):Int)/\M (i+1)=M i+P[i].s/\s.lo k+M i+P[i].s<=s.hi k/\∀ j,j<P[i].s->srcO s.L (s.lo k+M i+j)=f+j
 ld:∀ i,s.lo k<=i->i<s.hi k->v1.ldE ((s.cf.to+i:Nat):Int)=0
 tb:TabAt w
 tS:¬ S 1
 tR:¬ R 1
 s2:∀ b,S2 b->(S b/\b<w.heap.size\/w.heap.size<=b)/\b<w2.heap.size
 dis:∀ k,R k->¬ S k
 rl:∀ k,R k->k<w.heap.size
 ww:w.heap.size<=w2.heap.size
section
variable {w w2 w4 wr:World} {R S S2:Nat->Prop} {y q:Nat} {z:SlAd} {s:Sl} {v1 v2:Vm} {k g i:Nat} {P:List Pc} {M:Nat->Nat}
theorem MvK.un (h:MvK w w2 R S S2 s k v1 P M) {i:Nat} (h1:s.lo k<=i) (h2:i<s.hi k):s.is i=false:=by
 have hN:=(h.st.lohi h.hk).2.2
 have:i/s.cf.bk=k:=by simpa [Sl.inB] using (h.st.inB (k:=k) (i:=i) (by omega)).2 ⟨h1,h2⟩
 unfold Sl.is
 rw [this];exact h.hm
theorem MvK.r2 (h:MvK w w2 R S S2 s k v1 P M):∀ b,R b->¬ S2 b:=fun b hb h2=>by
 have:=h.rl b hb
 rcases (h.s2 b h2).1 with h' | h'
 ·exact h.dis b hb h'.1
 ·omega
theorem MvK.t2 (h:MvK w w2 R S S2 s k v1 P M):¬ S2 1:=fun h2=>by
 have:=h.tb.lt
 rcases (h.s2 _ h2).1 with h' | h'
 ·exact h.tS h'.1
 ·omega
theorem MvK.copy (h:MvK w w2 R S S2 s k v1 P M) (hg:w2.heap.size<=g) (hi:i<P.length) (hI:MvC w w2 wr R S S2 y q z s k (M i) v1 g P) {W:World} (gW:Gr wr W):
  ∃ f t:Nat,P[i].f=f/\P[i].t=t/\Calls Tryz.prog 267 #[.pointer (some ⟨y,0,none⟩),.agg #[.int .i64 f,.int .i64 t,.int .i64 (P[i].s:Nat)]] W fun e w'=>e=.returned (.tuple #[])/\MvC w w2 w' R S S2 y q z s k (M (i+1)) v1 g P:=by
 obtain ⟨f,h1,h2,h3,h4,h5,h6⟩:=h.pc i hi
 obtain ⟨vx,hvx,hpx⟩:=hI.vm
 have hN:=(h.st.lohi h.hk).2.2
 have htw:TabAt W:=(h.tb.touch' hI.t (fun h'=>h'.elim h.tR h.tS)).touch' (gW.touch (fun _=>False)) (fun h=>h)
 refine ⟨f,_,h2,h3,(sl_copy (hI.cy.gr gW) h.st htw h.t2 (hvx.gr gW) h.r2 hpx h5 hN (fun i a b=>by simp [h.un a b]) h.ld h6).mono ?_⟩
 rintro e w' ⟨rfl,ht,v'',hv,hp⟩
 have hws:∀ b,S2 b->R b\/S b\/w.heap.size<=b:=fun b hb=>by
  rcases (h.s2 b hb).1 with h' | h'
  ·exact .inr (.inl h'.1)
  ·exact .inr (.inr h')
 refine ⟨rfl,(hI.t.trans (gW.touch _)).trans' ht (fun b hb hs=>?_),(hI.t2.trans (gW.touch _)).trans ht,(hI.cy.gr gW).touch ht h.r2,⟨v'',hv.mono (fun b hb=>hb.1),by rw [h4];exact hp⟩,(hI.pc.gr gW).touch ht (fun a ha hs=>?_)⟩
 ·rcases (h.s2 b hs).1 with h' | h'
  ·exact .inr h'.1
  ·omega
 ·cases ha
  have:g<w2.heap.size:=(h.s2 _ hs).2
  omega
theorem MvK.drain (h:MvK w w2 R S S2 s k v1 P M) (hw:w2.heap.size<=w4.heap.size) (h0:w.heap.size<=w4.heap.size) (hg:w2.heap.size<=g/\g<w4.heap.size) (hi:i<P.length) (hI:MvD w w4 wr R S S2 y q z s k (M i) v2 g P) {W:World} (gW:Gr wr W):
  ∃ f t:Nat,P[i].f=f/\P[i].t=t/\Calls Tryz.prog 268 #[.pointer (some ⟨y,0,none⟩),.agg #[.int .i64 f,.int .i64 t,.int .i64 (P[i].s:Nat)]] W fun e w'=>e=.returned (.tuple #[])/\MvD w w4 w' R S S2 y q z s k (M (i+1)) v2 g P:=by
 obtain ⟨f,h1,h2,h3,h4,h5,h6⟩:=h.pc i hi
 obtain ⟨Sj,vx,hsj,hvx,hpx⟩:=hI.vm
 have hN:=(h.st.lohi h.hk).2.2
 have hz:=gW.size
 have hzr:=hI.sz
 have hRj:∀ b,R b->¬ Sj b:=fun b hb hs=>by
  have:=h.rl b hb
  rcases hsj b hs with h' | h'
  ·exact h.r2 b hb h'
  ·omega
 refine ⟨f,_,h2,h3,(sl_drain (hI.cy.gr gW) h.st (hvx.gr gW) hRj hpx h1 (by omega) (fun j hj=>?_) h6).mono ?_⟩
 ·rw [butN_in (by omega)]
  simp [h.un (i:=s.lo k+M i+j) (by omega) (by omega)]
 ·rintro e w' ⟨rfl,ht,hc,v'',hv,hp⟩
  rw [butN_add,<-h4] at hc hp
  refine ⟨rfl,(hI.t.trans (gW.touch _)).trans' ht (fun b hb hs=>?_),by have:=ht.size;omega,hc,⟨plus Sj W,v'',fun b hb=>?_,hv,hp⟩,(hI.pc.gr gW).touch ht (fun a ha hs=>?_)⟩
  ·rcases hs with hs | hs
   ·left;rw [hs];exact hI.cy.od.r3
   ·rcases hsj b hs with h' | h'
    ·rcases (h.s2 b h').1 with h'' | h''
     ·exact .inr h''.1
     ·omega
    ·omega
  ·rcases hb with hb | hb
   ·exact hsj b hb
   ·right;omega
  ·cases ha
   rcases hs with hs | hs
   ·have h1:=h.rl _ hI.cy.od.r3
    have hs:g=z.bw:=hs
    have:=h.ww
    omega
   ·rcases hsj _ hs with h' | h'
    ·have:g<w2.heap.size:=(h.s2 _ h').2
     omega
    ·have h':w4.heap.size<=g:=h'
     omega
end
section
variable {w:World} {R S:Nat->Prop} {y q:Nat} {z:SlAd} {s:Sl} {v:Vm} {k:Nat}
set_option maxRecDepth 100000 in
set_option maxHeartbeats 6400000 in
theorem sl_move (hC:Cyc w R y q z s) (hO:SlOk s v) (hT:TabAt w) (htS:¬ S 1) (htR:¬ R 1) (hV:VmAt w S q v) (hdis:∀ k,R k->¬ S k) (hk:k<s.mv.length) (hkm:at_ s.mv k=false)
  (hE:needE v ((s.cf.to+s.lo k:Nat):Int) ((s.cf.to+s.hi k:Nat):Int)=0):
  Calls Tryz.prog 162 #[.pointer (some ⟨y,0,none⟩),.int .i64 k] w (MvEnd w R S y q z s k v):=by
 have hst:=hO.st
 have hlh:=hst.lohi hk
 obtain ⟨P,M,eP,M0,M1,hM⟩:=pcs_nat hst hk
 have hP0:0<P.length:=by
  rcases Nat.eq_zero_or_pos P.length with h | h
  ·rw [h,M0] at M1;omega
  ·exact h
 have hn2:=hst.n2
 have hto:s.cf.to+s.hi k<=v.n:=by have:=hst.fit;have:=hst.cf.ln;rw [hO.mid.n];omega
 have hnv:v.n<=524288:=by rw [hO.mid.n];exact hn2
 have hin:rngIn s.L s.cf.bk (k:Int)=true:=by
  unfold rngIn
  rw [decide_eq_true (by omega),decide_eq_true (by rw [<-hst.len];omega)];rfl
 obtain ⟨r1,r2,r3⟩:=rng_yes (base:=(s.cf.to:Int)) hin
 have ea:rngA s.L s.cf.bk s.cf.to k=((s.cf.to+s.lo k:Nat):Int):=by rw [r1];unfold Sl.lo;push_cast;rfl
 have ez:rngZ s.L s.cf.bk s.cf.to k=((s.cf.to+s.hi k:Nat):Int):=by
  rw [r2];unfold Sl.hi
  rw [show (k:Int)*(s.cf.bk:Int)=((k*s.cf.bk:Nat):Int) by push_cast;rfl]
  omega
 have hPl:P.length<=1048576:=by
  have:=pcsOf_len hst.good (by omega) hst.bk.1 (base:=s.cf.to) (by have:=hst.cf.lm;have:=hst.cf.ln;omega) (k:Int)
  rw [eP] at this
  have:=hst.bk.2
  omega
 have hmi:s.mvd+s.lf=s.mv.length:=by
  unfold Sl.lf
  have:s.mvd<=s.mv.length:=cnt_le _ _
  omega
 have hml:s.mv.length<=1048576:=by rw [hst.len];have:=nbl_le (n:=sizes s.L) hst.bk.1;have:=hst.N_le;omega
 have hmv1:({ s with mv:=s.mv.set k true }:Sl).mvd=s.mvd+1:=by
  show cnt (at_ (s.mv.set k true)) (s.mv.set k true).length=_
  rw [List.length_set,cnt_set_true hk hkm];rfl
 have hHR:=hid (fun (W:World) (g:Gr w W)=>pln_range (hC.gr g).plan (k:Int))
 rw [ea,ez,r3] at hHR
 have HND:=hid (fun (W:World) (g:Gr w W)=>vm_need (hV.cut.gr g) (s.cf.to+s.lo k) (s.cf.to+s.hi k) hto (by omega))
 rw [hE] at HND
 have HC:=hid hC
 have HO:=hid hO
 have HT:=hid hT
 have HTN:=hid (And.intro htS htR)
 have HV:=hid hV
 have HDIS:=hid hdis
 have HK:=hid (And.intro hk (And.intro hkm hE))
 have HP:=hid (And.intro eP (And.intro M0 (And.intro M1 r3)))
 have HM:=hid hM
 have HMV:=hid (And.intro hmi hmv1)
 have HRL:=hid hC.od.lt
 obtain ⟨af,haf⟩:∃ af,af=s.cf.to+s.lo k:=⟨_,rfl⟩
 obtain ⟨az,haz⟩:∃ az,az=s.cf.to+s.hi k:=⟨_,rfl⟩
 have HAF:=hid (And.intro haf haz)
 rw [<-haf,<-haz] at HND hHR
 have x0:=hC.rc.cell (j:=0) rfl
 have x8:=hC.rc.cell (j:=8) rfl
 have xl:=hC.rc.lt
 clear hC hO hst hT htS htR hV hdis hk hkm hE eP M0 M1 hM hin r1 r2 r3 ea ez haf haz hto hnv hlh hmv1
 go_enter Tryz.func162,Tryz.ntmps162
 go_upto_region 5 with (first
  | (go_at_call 265;refine (hHR.out _ (Gr.refl w)).mono ?_;rintro e w1 ⟨rfl,hg1⟩;have HG1:=hid hg1;have y0:=(HC.out.gr hg1).rc.cell (j:=0) rfl;have yl:=(HC.out.gr hg1).rc.lt;clear hg1)
  | (go_at_call 146;refine (HND.out _ HG1.out).mono ?_;rintro e w2 ⟨rfl,ht2,v1,hgr,hv1⟩;have HT2:=hid ht2;have HGR:=hid hgr;have HV1:=hid hv1;clear ht2 hgr hv1))
 clear x0 x8 xl y0 yl
 obtain ⟨S2,hS2⟩:∃ S2,S2=cutS (plus (cutS S w) w1) w2:=⟨_,rfl⟩
 have hz1:=HG1.out.size
 have hz2:=HT2.out.size
 have HS2:Hid (∀ b,S2 b->(S b/\b<w.heap.size\/w.heap.size<=b)/\b<w2.heap.size):=⟨fun b hb=>by
  rw [hS2] at hb
  exact ⟨hb.1.imp id (fun h=>by omega),hb.2⟩⟩
 have HV2:Hid (VmAt w2 S2 q v1):=⟨by rw [hS2];exact HV1.out.cut⟩
 have HC2:Hid (Cyc w2 R y q z s):=⟨(HC.out.gr HG1.out).touch HT2.out (fun b hb h=>HDIS.out b hb h.1)⟩
 have HTW2:Hid (Touch (fun b=>R b\/S b) w w2):=⟨(HG1.out.touch _).trans (HT2.out.mono (fun b _ h=>.inr h.1))⟩
 have HTB2:Hid (TabAt w2):=⟨HT.out.touch' HTW2.out (fun h=>h.elim HTN.out.2 HTN.out.1)⟩
 have HMK:Hid (MvK w w2 R S S2 s k v1 P M):=⟨⟨HO.out.st,HK.out.1,HK.out.2.1,HM.out,fun i h1 h2=>by
  have e:=HGR.out
  rw [HAF.out.1,HAF.out.2] at e
  have h3:=HO.out.st.lohi HK.out.1
  have h4:=HO.out.st.dsts (i:=s.hi k-1) (by omega)
  have h5:=HO.out.mid.n
  exact need_map HO.out.mid.ok (by omega) HK.out.2.2 e (by omega) (by omega),HT.out,HTN.out.1,HTN.out.2,HS2.out,HDIS.out,HRL.out,by omega⟩⟩
 have HCP0:Hid (SlCp s s.is (fun i=>!s.is i) (s.lo k) (s.hi k) v1 v1 (M 0)):=⟨by rw [HP.out.2.1];exact SlCp.zero (HO.out.mid.grow HO.out.st HGR.out) _ _⟩
 have HPN:=hid (pln_piecesN HC2.out.plan HTB2.out (k:Int))
 rw [HP.out.1,HP.out.2.2.2] at HPN
 have HP0:=hid hP0
 have u8:=HC2.out.rc.cell (j:=8) rfl
 have ul:=HC2.out.rc.lt
 clear hS2 hP0
 go_upto_region 6 with (go_at_call 266;refine (HPN.out).mono ?_;rintro e w3 ⟨A,cp,rfl,hg3,hpc,hnew⟩;obtain ⟨g,rfl,hgl,-⟩:=hpc 0 HP0.out;have HG3:=hid hg3;have HPC:=hid hpc;have HNW:Hid (w2.heap.size<=g/\g<w3.heap.size):=⟨⟨hnew _ rfl,hgl⟩⟩;clear hg3 hpc hnew hgl)
 clear u8 ul
 have HMC:Hid (MvC w w2 w3 R S S2 y q z s k (M 0) v1 g P):=⟨⟨HTW2.out.trans (HG3.out.touch _),HG3.out.touch _,HC2.out.gr HG3.out,⟨v1,HV2.out.gr HG3.out,HCP0.out⟩,HPC.out⟩⟩
 go_upto_region 7 with (fail)
 go_loopw [46] (fun s46 wr=>∃ i:Nat,i<=P.length/\Hid (MvC w w2 wr R S S2 y q z s k (M i) v1 g P)/\s46=.int .i64 i) (fun s46 _=>P.length-(intOf s46).toNat)
 case atStart=>exact ⟨0,Nat.zero_le _,HMC,rfl⟩
 case round=>
  obtain ⟨i,hi,HI,rfl⟩:=hrel
  clear HMC
  by_cases hlt:i<P.length
  ·have HLT:=hid hlt
   have hiI:(i:Int)<(P.length:Int):=by omega
   obtain ⟨g',hg',hgl,k0,k1,k2⟩:=HI.out.pc i hlt
   cases hg'
   obtain ⟨f,t,ef,et,-⟩:=HMK.out.copy HNW.out.1 hlt HI.out (Gr.refl wr)
   have HCPY:Hid (∀ W,Gr wr W->Calls Tryz.prog 267 #[.pointer (some ⟨y,0,none⟩),.agg #[.int .i64 f,.int .i64 t,.int .i64 (P[i].s:Nat)]] W fun e w'=>e=.returned (.tuple #[])/\MvC w w2 w' R S S2 y q z s k (M (i+1)) v1 g P):=⟨fun W gW=>by
    obtain ⟨f',t',ef',et',h⟩:=HMK.out.copy HNW.out.1 hlt HI.out gW
    rw [ef] at ef'
    rw [et] at et'
    obtain rfl:f=f':=by omega
    obtain rfl:t=t':=by omega
    exact h⟩
   obtain ⟨n,hn⟩:∃ n,n=P[i].s:=⟨_,rfl⟩
   rw [ef] at k0
   rw [et] at k1
   rw [<-hn] at k2 HCPY
   clear hn ef et hlt
   have hRec:=hid (Rec.new wr 343 [.int .i64 f,.int .i64 t,.int .i64 n])
   simp only [List.toArray] at hRec
   go_upto_region 9 with (fail)
   obtain ⟨wA,hwA⟩:∃ wA,wA=wr.alloc (.cells #[.int .i64 f,.int .i64 t,.int .i64 n] 343):=⟨_,rfl⟩
   have hgA:Gr wr wA:=by rw [hwA];exact (Gr.refl wr).alloc _
   have hR:=hRec.out
   rw [show wr.alloc (.cells ([.int .i64 f,.int .i64 t,.int .i64 n]:List Value).toArray 343)=wA from hwA.symm] at hR
   rw [<-hwA]
   have HGA:=hid hgA
   have b0:=hR.cell (j:=0) rfl
   have b1:=hR.cell (j:=1) rfl
   have b2:=hR.cell (j:=2) rfl
   have bl:=hR.lt
   clear hwA hgA hRec hR k0 k1 k2 hgl
   go_wp2_with (go_at_call 267;refine (HCPY.out _ HGA.out).mono ?_;rintro e w5 ⟨rfl,hi5⟩;have HI5:=hid hi5;clear hi5)
   go_roundw
   case rel=>exact ⟨i+1,HLT.out,HI5,by go_num⟩
   case measure=>have:=HLT.out;simp [intOf];omega
  ·obtain rfl:i=P.length:=by omega
   clear hlt
   obtain ⟨w4,rfl⟩:∃ w4:World,w4=wr:=⟨_,rfl⟩
   obtain ⟨v2,hv2,hc2⟩:=HI.out.vm
   have HV4:=hid hv2
   have HC4:=hid hc2
   have hz4:=HI.out.t2.size
   have HMD:Hid (MvD w w4 w4 R S S2 y q z s k (M 0) v2 g P):=⟨⟨HI.out.t,Nat.le_refl _,by rw [HP.out.2.1,butN_zero];exact HI.out.cy,⟨S2,v2,fun b hb=>.inl hb,HV4.out,by
    rw [HP.out.2.1,butN_zero]
    have:=HC4.out.mid
    rw [HP.out.2.2.1] at this
    exact SlDr.zero this⟩,HI.out.pc⟩⟩
   have hgw:g<w4.heap.size:=by
    obtain ⟨g',hg',hgl,-⟩:=HI.out.pc 0 HP0.out
    cases hg'
    exact hgl
   have HGW:=hid hgw
   clear hv2 hc2 hgw
   go_upto_region 12 with (fail)
   go_loopw [56] (fun s56 wr=>∃ i:Nat,i<=P.length/\Hid (MvD w w4 wr R S S2 y q z s k (M i) v2 g P)/\s56=.int .i64 i) (fun s56 _=>P.length-(intOf s56).toNat)
   case atStart=>exact ⟨0,Nat.zero_le _,HMD,rfl⟩
   case round=>
    obtain ⟨i,hi,HD,rfl⟩:=hrel
    clear HMD
    by_cases hlt:i<P.length
    ·have HLT:=hid hlt
     have hiI:(i:Int)<(P.length:Int):=by omega
     obtain ⟨g',hg',hgl,k0,k1,k2⟩:=HD.out.pc i hlt
     cases hg'
     obtain ⟨f,t,ef,et,-⟩:=HMK.out.drain hz4 (by omega) ⟨HNW.out.1,HGW.out⟩ hlt HD.out (Gr.refl wr)
     have HCPY:Hid (∀ W,Gr wr W->Calls Tryz.prog 268 #[.pointer (some ⟨y,0,none⟩),.agg #[.int .i64 f,.int .i64 t,.int .i64 (P[i].s:Nat)]] W fun e w'=>e=.returned (.tuple #[])/\MvD w w4 w' R S S2 y q z s k (M (i+1)) v2 g P):=⟨fun W gW=>by
      obtain ⟨f',t',ef',et',h⟩:=HMK.out.drain hz4 (by omega) ⟨HNW.out.1,HGW.out⟩ hlt HD.out gW
      rw [ef] at ef'
      rw [et] at et'
      obtain rfl:f=f':=by omega
      obtain rfl:t=t':=by omega
      exact h⟩
     obtain ⟨n,hn⟩:∃ n,n=P[i].s:=⟨_,rfl⟩
     rw [ef] at k0
     rw [et] at k1
     rw [<-hn] at k2 HCPY
     clear hn ef et hlt
     have hRec:=hid (Rec.new wr 343 [.int .i64 f,.int .i64 t,.int .i64 n])
     simp only [List.toArray] at hRec
     go_upto_region 14 with (fail)
     obtain ⟨wA,hwA⟩:∃ wA,wA=wr.alloc (.cells #[.int .i64 f,.int .i64 t,.int .i64 n] 343):=⟨_,rfl⟩
     have hgA:Gr wr wA:=by rw [hwA];exact (Gr.refl wr).alloc _
     have hR:=hRec.out
     rw [show wr.alloc (.cells ([.int .i64 f,.int .i64 t,.int .i64 n]:List Value).toArray 343)=wA from hwA.symm] at hR
     rw [<-hwA]
     have HGA:=hid hgA
     have b0:=hR.cell (j:=0) rfl
     have b1:=hR.cell (j:=1) rfl
     have b2:=hR.cell (j:=2) rfl
     have bl:=hR.lt
     clear hwA hgA hRec hR k0 k1 k2 hgl
     go_wp2_with (go_at_call 268;refine (HCPY.out _ HGA.out).mono ?_;rintro e w5 ⟨rfl,hi5⟩;have HI5:=hid hi5;clear hi5)
     go_roundw
     case rel=>exact ⟨i+1,HLT.out,HI5,by go_num⟩
     case measure=>have:=HLT.out;simp [intOf];omega
    ·obtain rfl:i=P.length:=by omega
     clear hlt
     obtain ⟨w6,rfl⟩:∃ w6:World,w6=wr:=⟨_,rfl⟩
     obtain ⟨Sj,vx,hsj,hvx,hdx⟩:=HD.out.vm
     have hcy:=HD.out.cy
     have hz6:=HD.out.sz
     rw [HP.out.2.2.1] at hcy hdx
     have hkI:(k:Int)<(s.mv.length:Int):=by have:=HK.out.1;omega
     have c4:=hcy.rc.cell (j:=10) rfl
     have cl:=hcy.rc.lt
     have m0:=own_cell hcy.mv (bls_at HK.out.1)
     have mf:=own_free hcy.mv
     have ml':=(own_lt hcy.mv rfl).2
     have HCY6:=hid hcy
     have HVX:=hid hvx
     have HDX:=hid hdx
     have HSJ:=hid hsj
     have hRj:∀ b,R b->¬ Sj b:=fun b hb h=>by
      have:=HRL.out b hb
      rcases HSJ.out b h with h | h
      ·exact HMK.out.r2 b hb h
      ·omega
     have HRJ:=hid hRj
     clear hcy hvx hdx hsj hRj
     go_upto_region 17 with (fail)
     have hm7:=(World.ownsRow.stored HCY6.out.mv k (.bool true)).1
     rw [bls_set] at hm7
     obtain ⟨w7,hw7⟩:∃ w7,w7=w6.setCell ⟨z.bm,k,none⟩ (.bool true):=⟨_,rfl⟩
     have ht7:Touch (fun i=>i=z.bm) w6 w7:=by rw [hw7];exact (Touch.refl (fun i=>i=z.bm) w6).setCell (a:=⟨z.bm,k,none⟩) (fun _=>rfl) _
     rw [<-hw7] at hm7 ⊢
     have hcy7:CycAt w7 R y q z s (butN (fun i=>!s.is i) (s.lo k) (s.hi k-s.lo k)) (s.mv.set k true) s.lf s.ft (s.mvd-s.ft):=HCY6.out.setM (List.length_set ..) ht7 (by rw [List.length_set];exact hm7)
     have HT7:=hid ht7
     have HCY7:=hid hcy7
     have e5:=hcy7.rc.cell (j:=11) rfl
     have ef:=hcy7.rc.free
     have el:=hcy7.rc.lt
     clear hw7 hm7 ht7 hcy7 c4 cl m0 mf ml'
     have hmd:s.mvd<s.mv.length:=by
      have:=HMV.out.2
      have h2:({ s with mv:=s.mv.set k true }:Sl).mvd<=(s.mv.set k true).length:=cnt_le _ _
      rw [List.length_set] at h2
      omega
     have hfm:s.ft<=s.mvd:=by
      have:=cnt_both (l:=s.mv) (m:=s.ft) s.ft_le (fun i hi=>s.ft_on hi)
      show s.ft<=cnt (at_ s.mv) s.mv.length
      omega
     obtain ⟨l1,hl1⟩:∃ l1,s.lf=l1+1:=⟨s.lf-1,by omega⟩
     have hs1:(s.lf:Int)-1=(l1:Int):=by omega
     have HL1:=hid hl1
     have HFM:=hid (And.intro hmd hfm)
     have hLB:s.lf<=1048576:=by omega
     clear hl1 hmd hfm
     go_upto_region 18 with (fail)
     obtain ⟨w8,hw8⟩:∃ w8,w8=w7.setCell ⟨y,11,none⟩ (.int .i64 l1):=⟨_,rfl⟩
     have ht8:Touch (fun i=>i=y) w7 w8:=by rw [hw8];exact (Touch.refl (fun i=>i=y) w7).setCell (a:=⟨y,11,none⟩) (fun _=>rfl) _
     have hr8:=HCY7.out.rc.set 11 (.int .i64 l1)
     rw [<-hw8] at hr8 ⊢
     have hcy8:CycAt w8 R y q z s (butN (fun i=>!s.is i) (s.lo k) (s.hi k-s.lo k)) (s.mv.set k true) l1 s.ft (s.mvd-s.ft):=HCY7.out.setR ht8 hr8
     have HT8:=hid ht8
     have HCY8:=hid hcy8
     have g7:=hcy8.rc.cell (j:=13) rfl
     have gf:=hcy8.rc.free
     have gl:=hcy8.rc.lt
     obtain ⟨a0,ha0⟩:∃ a0,a0=s.mvd-s.ft:=⟨_,rfl⟩
     rw [<-ha0] at g7
     have ha0b:a0<=1048576:=by omega
     have HA0:=hid ha0
     clear hw8 hr8 ht8 hcy8 e5 ef el hs1 hLB ha0
     go_upto_region 19 with (fail)
     obtain ⟨w9,hw9⟩:∃ w9,w9=w8.setCell ⟨y,13,none⟩ (.int .i64 ((a0:Int)+1)):=⟨_,rfl⟩
     have ht9:Touch (fun i=>i=y) w8 w9:=by rw [hw9];exact (Touch.refl (fun i=>i=y) w8).setCell (a:=⟨y,13,none⟩) (fun _=>rfl) _
     have hr9:=HCY8.out.rc.set 13 (.int .i64 ((a0:Int)+1))
     rw [<-hw9] at hr9 ⊢
     have HCY9:Hid (CycAt w9 R y q z s (butN (fun i=>!s.is i) (s.lo k) (s.hi k-s.lo k)) (s.mv.set k true) l1 s.ft (a0+1)):=⟨HCY8.out.setR ht9 hr9⟩
     have HT9:=hid ht9
     have hlen2:(s.mv.set k true).length=s.mv.length:=List.length_set ..
     obtain ⟨ml,hml2⟩:∃ ml,ml=s.mv.set k true:=⟨_,rfl⟩
     have HML:=hid hml2
     obtain ⟨Ux,hUx⟩:∃ Ux,Ux=butN (fun i=>!s.is i) (s.lo k) (s.hi k-s.lo k):=⟨_,rfl⟩
     have HUX:=hid hUx
     have HMF:Hid (MvF w9 w9 R y q z s Ux ml l1 (s.mvd+1) s.ft (a0+1)):=⟨by rw [hUx,hml2];exact HCY9.out,Touch.refl _ _,fun i hi=>by
      have h1:=s.ft_on hi
      rw [hml2,at_set2 HK.out.1,h1];split <;> rfl,by have h1:=HA0.out;have h2:=HFM.out;omega,by rw [hml2,hlen2];exact s.ft_le⟩
     rw [<-hml2] at hlen2
     have hmlb:ml.length<=1048576:=by omega
     have HFT:=hid s.ft_le
     have HL2:=hid hlen2
     have hsm:s.mvd<=1048576:=by have:=HFM.out;omega
     have FIN:Hid (∀ (wr:World) (fc ac nq:Nat),MvF w9 wr R y q z s Ux ml l1 (s.mvd+1) fc ac->first (fun k=>!at_ ml k) ml.length=fc->MvEnd w R S y q z s k v (.returned (.int .i64 0)) (wr.drewN nq)):=⟨fun wr fc ac nq hf hx=>by
      have hy:=HCY6.out.od.r1
      have hbm:=HCY6.out.od.r2
      have hst:=HO.out.st
      have hlh:=hst.lohi HK.out.1
      have tw:Touch (fun i=>i=y\/i=z.bm) w6 (wr.drewN nq):=((((HT7.out.mono (fun b _ h=>.inr h)).trans (HT8.out.mono (fun b _ h=>.inl h))).trans (HT9.out.mono (fun b _ h=>.inl h))).trans (hf.t.mono (fun b _ h=>.inl h))).trans (((Gr.refl wr).drewN nq).touch _)
      have hRj:∀ b,b=y\/b=z.bm->¬ Sj b:=fun b hb h=>by
       rcases hb with rfl | rfl
       ·exact HRJ.out _ hy h
       ·exact HRJ.out _ hbm h
      have hwn:=HMK.out.ww
      have hgr:=HGR.out
      rw [HAF.out.1,HAF.out.2] at hgr
      have hcp:=HC4.out
      rw [HP.out.2.2.1] at hcp
      have hUe:∀ j,j<sizes s.L->butN (fun i=>!s.is i) (s.lo k) (s.hi k-s.lo k) j=!(s.is j||s.inB k j):=fun j hj=>by
       have h1:=hst.inB (k:=k) hj
       unfold butN
       cases hb:s.inB k j with
       | true=>
        obtain ⟨h2,h3⟩:=h1.1 hb
        rw [decide_eq_true h2,decide_eq_true (by omega)]
        simp
       | false=>
        have h4:¬ (s.lo k<=j/\j<s.hi k):=fun h=>by rw [h1.2 h] at hb;cases hb
        by_cases h5:s.lo k<=j
        ·rw [decide_eq_false (show ¬ j<s.lo k+(s.hi k-s.lo k) by omega)]
         simp
        ·rw [decide_eq_false h5]
         simp
      have hmv:=SlMv.of HO.out HK.out.1 HK.out.2.1 HK.out.2.2 hgr hcp (D:=fun j=>s.is j||(decide (s.lo k<=j)&&decide (j<s.lo k+(s.hi k-s.lo k)))) (fun j hj=>by
       have h1:=hst.inB (k:=k) hj
       cases hb:s.inB k j with
       | true=>
        obtain ⟨h2,h3⟩:=h1.1 hb
        rw [decide_eq_true h2,decide_eq_true (by omega)]
        rfl
       | false=>
        have h4:¬ (s.lo k<=j/\j<s.hi k):=fun h=>by rw [h1.2 h] at hb;cases hb
        by_cases h5:s.lo k<=j
        ·rw [decide_eq_false (show ¬ j<s.lo k+(s.hi k-s.lo k) by omega),Bool.and_false]
        ·rw [decide_eq_false h5,Bool.false_and]) hUe HDX.out
      refine ⟨rfl,?_,?_,vx,?_,hmv⟩
      ·exact HD.out.t.trans (tw.mono (fun b _ h=>by
        rcases h with rfl | rfl
        ·exact .inl hy
        ·exact .inl hbm))
      ·have h1:CycAt (wr.drewN nq) R y q z s (fun i=>!({ s with mv:=s.mv.set k true }:Sl).is i) ml l1 fc ac:=(hf.cy.gr ((Gr.refl wr).drewN nq)).cu (fun j hj=>by rw [HUX.out,hUe j hj,Sl.is_put HK.out.1])
       have e1:({ s with mv:=s.mv.set k true }:Sl).ft=fc:=by rw [<-hx,HML.out];rfl
       have e2:({ s with mv:=s.mv.set k true }:Sl).mvd=s.mvd+1:=HMV.out.2
       have e3:({ s with mv:=s.mv.set k true }:Sl).lf=l1:=by
        show (s.mv.set k true).length-({ s with mv:=s.mv.set k true }:Sl).mvd=l1
        rw [e2,List.length_set]
        have:=HMV.out.1
        have:=HL1.out
        omega
       have e4:s.mvd+1-fc=ac:=by have:=hf.sum;omega
       show CycAt _ R y q z { s with mv:=s.mv.set k true } _ (s.mv.set k true) _ _ _
       rw [e1,e2,e3,e4]
       rw [HML.out] at h1
       exact h1.same rfl rfl rfl rfl rfl
      ·refine (HVX.out.touch tw (fun b hb _ h=>hRj b h hb)).mono (fun b hb=>?_)
       rcases HSJ.out b hb with h | h
       ·rcases (HMK.out.s2 b h).1 with h | h
        ·exact .inl h.1
        ·exact .inr h
       ·right;omega⟩
     clear hw9 hr9 ht9 g7 gf gl hml2 hUx hlen2
     go_loopw [] (fun wr=>∃ fc ac:Nat,Hid (MvF w9 wr R y q z s Ux ml l1 (s.mvd+1) fc ac)) (fun wr=>ml.length-cellN wr y 12)
     case atStart=>exact ⟨s.ft,a0+1,HMF⟩
     case round=>
      obtain ⟨fc,ac,HF⟩:=hrel
      clear HMF
      have q4:=HF.out.cy.rc.cell (j:=10) rfl
      have q6:=HF.out.cy.rc.cell (j:=12) rfl
      have q7:=HF.out.cy.rc.cell (j:=13) rfl
      have qf:=HF.out.cy.rc.free
      have ql:=HF.out.cy.rc.lt
      by_cases hlt:fc<ml.length
      ·have hfI:(fc:Int)<(ml.length:Int):=by omega
       have d0:decide ((fc:Int)<(ml.length:Int))=true:=decide_eq_true hfI
       have n0:=own_cell HF.out.cy.mv (bls_at hlt)
       have nl:=(own_lt HF.out.cy.mv rfl).2
       have HLT:=hid hlt
       clear hlt
       by_cases hb:at_ ml fc=true
       ·rw [hb] at n0
        have HB:=hid hb
        have hac:1<=ac:=by
         have h1:=cnt_both (l:=ml) (m:=fc+1) HLT.out (fun j hj=>by
          rcases Nat.lt_or_ge j fc with h | h
          ·exact HF.out.on j h
          ·obtain rfl:j=fc:=by omega
           exact HB.out)
         have h2:cnt (at_ ml) ml.length=s.mvd+1:=by
          have:=HMV.out.2
          rw [HML.out];exact this
         have h3:=HF.out.sum
         omega
        have hsum:ac<=1048577:=by have:=HF.out.sum;omega
        obtain ⟨a1,rfl⟩:∃ a1,ac=a1+1:=⟨ac-1,by omega⟩
        have ha1:((a1+1:Nat):Int)-1=(a1:Int):=by omega
        have hf1:(fc:Int)+1=((fc+1:Nat):Int):=by omega
        have HF1:=hid hf1
        clear hb hf1 hac
        go_upto_region 19 with (fail)
        go_quiet (fail)
        have HFn:=hid (HF.out.cy.gr ((Gr.refl wr).drewN nq))
        have HTn:Hid (Touch (fun i=>i=y) w9 (wr.drewN nq)):=⟨HF.out.t.trans (((Gr.refl wr).drewN nq).touch _)⟩
        obtain ⟨wq,hwq⟩:∃ wq,wq=wr.drewN nq:=⟨_,rfl⟩
        rw [<-hwq] at HFn HTn ⊢
        have g6:=HFn.out.rc.cell (j:=12) rfl
        have gf:=HFn.out.rc.free
        have gl:=HFn.out.rc.lt
        clear hwq q4 q6 q7 qf ql n0 nl d0
        go_upto_region 21 with (fail)
        obtain ⟨wp,hwp⟩:∃ wp,wp=wq.setCell ⟨y,12,none⟩ (.int .i64 ((fc:Int)+1)):=⟨_,rfl⟩
        have tp:Touch (fun i=>i=y) wq wp:=by rw [hwp];exact (Touch.refl (fun i=>i=y) wq).setCell (a:=⟨y,12,none⟩) (fun _=>rfl) _
        have hrp:=HFn.out.rc.set 12 (.int .i64 ((fc:Int)+1))
        rw [<-hwp] at hrp ⊢
        rw [HF1.out] at hrp
        have HFp:Hid (CycAt wp R y q z s Ux ml l1 (fc+1) (a1+1)):=⟨HFn.out.setR tp hrp⟩
        have HTp:=hid tp
        have g7:=HFp.out.rc.cell (j:=13) rfl
        have gf2:=HFp.out.rc.free
        have gl2:=HFp.out.rc.lt
        clear hwp tp hrp g6 gf gl
        go_wp2
        go_roundw
        case rel=>
         have tz:Touch (fun i=>i=y) wp (wp.setCell ⟨y,13,none⟩ (.int .i64 a1)):=(Touch.refl (fun i=>i=y) wp).setCell (a:=⟨y,13,none⟩) (fun _=>rfl) _
         have hro:=HFp.out.rc.set 13 (.int .i64 a1)
         refine ⟨fc+1,a1,⟨⟨HFp.out.setR tz hro,(HTn.out.trans HTp.out).trans tz,fun j hj=>?_,by have:=HF.out.sum;omega,HLT.out⟩⟩⟩
         rcases Nat.lt_or_ge j fc with h | h
         ·exact HF.out.on j h
         ·obtain rfl:j=fc:=by omega
          exact HB.out
        case measure=>
         have c1:=HF.out.cy.rc.cell (j:=12) rfl
         have c2:=(HFp.out.rc.set 13 (.int .i64 a1)).cell (j:=12) rfl
         unfold cellN
         rw [c1,c2]
         have:=HLT.out
         simp [intOf]
         omega
       ·have hb':at_ ml fc=false:=by simpa using hb
        rw [hb'] at n0
        have HB:=hid hb'
        have HX:Hid (first (fun k=>!at_ ml k) ml.length=fc):=⟨first_eq HF.out.le (fun i hi=>by rw [HF.out.on i hi];rfl) (fun _=>by rw [HB.out];rfl)⟩
        clear hb hb'
        go_wp2
        go_quiet (fail)
        go_wp2
        go_ret
        exact FIN.out _ _ _ _ HF.out HX.out
      ·have hfI:¬ (fc:Int)<(ml.length:Int):=by omega
       have d0:decide ((fc:Int)<(ml.length:Int))=false:=decide_eq_false hfI
       have d1:decide (fc<ml.length)=false:=decide_eq_false hlt
       have HX:Hid (first (fun k=>!at_ ml k) ml.length=fc):=⟨first_eq HF.out.le (fun i hi=>by rw [HF.out.on i hi];rfl) (fun h=>absurd h hlt)⟩
       clear hlt hfI
       go_wp2
       go_quiet (fail)
       go_wp2
       go_ret
       exact FIN.out _ _ _ _ HF.out HX.out
end
end Go.Proofs.YthgdadohijgleaaGreatDoor
end
section
namespace Go.Proofs.YthgdadohijgleaaGreatDoor
open Go.RowKit Go.Shelf Word
section
variable {w:World} {R:Nat->Prop} {y q:Nat} {z:SlAd} {s:Sl} {U:Nat->Bool} {ml:List Bool} {lf ft ah:Nat}
theorem sl_blocks (hC:CycAt w R y q z s U ml lf ft ah):Calls Tryz.prog 60 #[.pointer (some ⟨y,0,none⟩)] w fun e w'=>e=.returned (.int .i64 ml.length)/\w=w':=by
 have c0:=hC.rc.cell (j:=10) rfl
 have cl:=hC.rc.lt
 clear hC
 go_enter Tryz.func60,Tryz.ntmps60
 go_wp2
 go_ret
 exact ⟨rfl,rfl⟩
theorem sl_left (hC:CycAt w R y q z s U ml lf ft ah):Calls Tryz.prog 65 #[.pointer (some ⟨y,0,none⟩)] w fun e w'=>e=.returned (.int .i64 lf)/\w=w':=by
 have c0:=hC.rc.cell (j:=11) rfl
 have cl:=hC.rc.lt
 clear hC
 go_enter Tryz.func65,Tryz.ntmps65
 go_wp2
 go_ret
 exact ⟨rfl,rfl⟩
theorem sl_done (hC:CycAt w R y q z s U ml lf ft ah):Calls Tryz.prog 69 #[.pointer (some ⟨y,0,none⟩)] w fun e w'=>e=.returned (.bool (decide (lf=0)))/\w=w':=by
 have HL:=hid (sl_left hC)
 have hd:((lf:Int)==0)=decide (lf=0):=by by_cases h:lf=0 <;> simp [h]
 have HD:=hid hd
 clear hC hd
 go_enter Tryz.func69,Tryz.ntmps69
 go_wp2_with (go_at_call 65;refine (HL.out).mono ?_;rintro e w1 ⟨rfl,rfl⟩)
 go_ret
 exact ⟨by rw [<-HD.out];rfl,rfl⟩
theorem sl_objects (hC:CycAt w R y q z s U ml lf ft ah):Calls Tryz.prog 156 #[.pointer (some ⟨y,0,none⟩)] w fun e w'=>e=.returned (.int .i64 s.L.length)/\w=w':=by
 have c0:=hC.rc.cell (j:=9) rfl
 have cl:=hC.rc.lt
 have HO:=hid (ext_objects hC.ex)
 clear hC
 go_enter Tryz.func156,Tryz.ntmps156
 go_wp2_with (go_at_call 261;refine (HO.out).mono ?_;rintro e w1 ⟨rfl,rfl⟩)
 go_ret
 exact ⟨rfl,rfl⟩
theorem sl_top (hC:CycAt w R y q z s U ml lf ft ah):Gets Tryz.prog 61 #[.pointer (some ⟨y,0,none⟩)] w (.int .i64 ((s.cf.to:Int)+(sizes s.L:Nat))):=by
 obtain ⟨h1,h2,h3,f,c0,c1,hF⟩:=hC.plan
 have x8:=hC.rc.cell (j:=8) rfl
 have xl:=hC.rc.lt
 have HFW:=hid (pln_forward c0)
 have HTP:=hid (fwd_top hF)
 clear hC hF h1 h2 h3 c0 c1
 unfold Gets
 go_enter Tryz.func61,Tryz.ntmps61
 go_wp2_with (first
  | (go_at_call 157;refine (HFW.out).mono ?_;rintro e w1 ⟨rfl,rfl⟩)
  | (go_at_call 158;refine (HTP.out).mono ?_;rintro e w2 ⟨rfl,hg2⟩;have HG2:=hid hg2;clear hg2))
 go_ret
 exact ⟨rfl,HG2.out⟩
end
end Go.Proofs.YthgdadohijgleaaGreatDoor
end
section
namespace Go.Proofs.YthgdadohijgleaaGreatDoor
open Go.RowKit Go.Shelf Word
def ftL (l:List Bool):Nat:=first (fun k=>!at_ l k) l.length
def mvdL (l:List Bool):Nat:=cnt (at_ l) l.length
def stepL (l:List Bool):List Bool:=if ftL l<l.length then l.set (ftL l) true else l
def runL (A k:Nat):Nat->List Bool->List Bool
 | 0,l=>l
 | n+1,l=>if ftL l<k/\A<=mvdL l-ftL l then runL A k n (stepL l) else l
def touchL (A k:Nat) (l:List Bool):List Bool:=if at_ l k then l else (runL A k k l).set k true
theorem stepL_len (l:List Bool):(stepL l).length=l.length:=by unfold stepL;split <;> simp
theorem runL_len (A k n:Nat) (l:List Bool):(runL A k n l).length=l.length:=by
 induction n generalizing l with
 | zero=>rfl
 | succ n ih=>unfold runL;split;rw [ih,stepL_len];rfl
theorem ftL_on {l:List Bool} {i:Nat} (h:i<ftL l):at_ l i=true:=by
 have:=first_not (fun k=>!at_ l k) l.length i h
 simpa using this
theorem ftL_le {l:List Bool} {k:Nat} (h:at_ l k=false):ftL l<=k:=by
 rcases Nat.lt_or_ge k (ftL l) with g | g
 ·rw [ftL_on g] at h;cases h
 ·exact g
theorem ftL_step {l:List Bool} (h:ftL l<l.length):ftL l<ftL (stepL l):=by
 unfold stepL
 rw [if_pos h]
 rcases Nat.lt_or_ge (ftL l) (ftL (l.set (ftL l) true)) with g | g
 ·exact g
 ·exfalso
  have h1:(!at_ (l.set (ftL l) true) (ftL (l.set (ftL l) true)))=true:=first_at (fun k=>!at_ (l.set (ftL l) true) k) _ (show ftL (l.set (ftL l) true)<_ by rw [List.length_set];omega)
  rw [at_set2 h] at h1
  split at h1
  ·cases h1
  ·rename_i hne
   rw [ftL_on (by omega)] at h1
   cases h1
theorem stepL_other {l:List Bool} {k:Nat} (h:at_ l k=false) (hk:ftL l<k):at_ (stepL l) k=false:=by
 unfold stepL
 split
 ·rename_i g
  rw [at_set2 g,if_neg (by omega)];exact h
 ·exact h
structure SlJ (A:Sl->Vm->Prop):Prop where
 need:∀ s v k,SlOk s v->A s v->k<s.mv.length->at_ s.mv k=false->(k=s.ft\/s.mvd-s.ft<s.cf.ah)->needE v ((s.cf.to+s.lo k:Nat):Int) ((s.cf.to+s.hi k:Nat):Int)=0
 step:∀ s v k v',SlOk s v->A s v->k<s.mv.length->at_ s.mv k=false->(k=s.ft\/s.mvd-s.ft<s.cf.ah)->SlMv s k v v'->A { s with mv:=s.mv.set k true } v'
structure SlAft (w w':World) (R S:Nat->Prop) (y q:Nat) (z:SlAd) (A:Sl->Vm->Prop) (s':Sl) (v':Vm):Prop where
 t:Touch (fun b=>R b\/S b) w w'
 cy:Cyc w' R y q z s'
 vm:VmAt w' (plus S w) q v'
 ok:SlOk s' v'
 j:A s' v'
def Sl.step (s:Sl):Sl:={ s with mv:=stepL s.mv }
def Sl.tch (s:Sl) (a:Int):Sl:={ s with mv:=if inF s.L s.cf.to a then touchL s.cf.ah ((a-s.cf.to).toNat/s.cf.bk) s.mv else s.mv }
theorem Sl.lf_zero (s:Sl):s.lf=0↔¬ s.ft<s.mv.length:=by
 have h1:=cnt_both (l:=s.mv) (m:=s.ft) s.ft_le (fun i hi=>s.ft_on hi)
 have h2:s.mvd<=s.mv.length:=cnt_le _ _
 have h3:s.mvd=cnt (at_ s.mv) s.mv.length:=rfl
 constructor
 ·intro h hf
  have h4:=s.ft_off hf
  have h5:=cnt_set_true hf h4
  have h6:cnt (at_ (s.mv.set s.ft true)) s.mv.length<=s.mv.length:=cnt_le _ _
  unfold Sl.lf at h
  omega
 ·intro h
  have:=s.ft_le
  unfold Sl.lf
  omega
section
variable {w:World} {R S:Nat->Prop} {y q:Nat} {z:SlAd} {s:Sl} {v:Vm} {A:Sl->Vm->Prop}
def StepEnd (w:World) (R S:Nat->Prop) (y q:Nat) (z:SlAd) (A:Sl->Vm->Prop) (s:Sl) (e:Ending) (w':World):Prop:=
 ∃ v',e=.returned (.tuple #[.bool (decide (s.ft<s.mv.length)),.int .i64 0])/\SlAft w w' R S y q z A s.step v'
set_option maxRecDepth 100000 in
set_option maxHeartbeats 1600000 in
theorem sl_step (hJ:SlJ A) (hC:Cyc w R y q z s) (hO:SlOk s v) (hA:A s v) (hT:TabAt w) (htS:¬ S 1) (htR:¬ R 1) (hV:VmAt w S q v) (hdis:∀ k,R k->¬ S k):
  Calls Tryz.prog 63 #[.pointer (some ⟨y,0,none⟩)] w (StepEnd w R S y q z A s):=by
 have hlz:=s.lf_zero
 have c5:=hC.rc.cell (j:=11) rfl
 have c6:=hC.rc.cell (j:=12) rfl
 have cl:=hC.rc.lt
 by_cases hf:s.ft<s.mv.length
 ·have hk:=s.ft_off hf
  have HM:=hid (sl_move hC hO hT htS htR hV hdis hf hk (hJ.need s v s.ft hO hA hf hk (.inl rfl)))
  have HR:Hid (∀ w',MvEnd w R S y q z s s.ft v (.returned (.int .i64 0)) w'->StepEnd w R S y q z A s (.returned (.tuple #[.bool true,.int .i64 0])) w'):=⟨fun w' ⟨_,ht,hc,v',hv,hm⟩=>by
   have e:s.step={ s with mv:=s.mv.set s.ft true }:=by
    unfold Sl.step stepL
    rw [if_pos (show ftL s.mv<s.mv.length from hf)];rfl
   refine ⟨v',by rw [decide_eq_true hf],ht,?_,hv,?_,?_⟩
   ·rw [e];exact hc
   ·rw [e];exact hm.ok
   ·rw [e];exact hJ.step s v s.ft v' hO hA hf hk (.inl rfl) hm⟩
  have hl0:s.lf≠0:=fun h=>hlz.1 h hf
  have d0:((s.lf:Int)==0)=false:=by simp;omega
  clear hC hO hA hT htS htR hV hdis hJ hlz hf hk hl0
  go_enter Tryz.func63,Tryz.ntmps63
  go_wp2_with (go_at_call 162;refine (HM.out).mono ?_;rintro e w1 ⟨rfl,hm⟩;have HMV:=hid hm;clear hm)
  go_ret2
  exact HR.out _ ⟨rfl,HMV.out⟩
 ·have hl0:s.lf=0:=hlz.2 hf
  have HR:Hid (StepEnd w R S y q z A s (.returned (.tuple #[.bool false,.int .i64 0])) w):=⟨by
   have e:s.step=s:=by
    unfold Sl.step stepL
    rw [if_neg (show ¬ ftL s.mv<s.mv.length from hf)]
   refine ⟨v,by rw [decide_eq_false hf],Touch.refl _ _,?_,hV.mono (fun _ h=>.inl h),?_,?_⟩
   ·rw [e];exact hC
   ·rw [e];exact hO
   ·rw [e];exact hA⟩
  have d0:((s.lf:Int)==0)=true:=by simp [hl0]
  clear hC hO hA hT htS htR hV hdis hJ hlz hf hl0
  go_enter Tryz.func63,Tryz.ntmps63
  go_wp2
  go_ret2
  exact HR.out
def TchEnd (w:World) (R S:Nat->Prop) (y q:Nat) (z:SlAd) (A:Sl->Vm->Prop) (s:Sl) (a:Int) (e:Ending) (w':World):Prop:=
 ∃ v',e=.returned (.int .i64 0)/\SlAft w w' R S y q z A (s.tch a) v'
structure TchI (w wr:World) (R S:Nat->Prop) (y q:Nat) (z:SlAd) (A:Sl->Vm->Prop) (s:Sl) (k n:Nat) (l:List Bool):Prop where
 t:Touch (fun b=>R b\/S b) w wr
 cy:Cyc wr R y q z { s with mv:=l }
 vm:∃ Sj v',(∀ b,Sj b->(S b/\b<w.heap.size)\/w.heap.size<=b)/\VmAt wr Sj q v'/\SlOk { s with mv:=l } v'/\A { s with mv:=l } v'
 len:l.length=s.mv.length
 un:at_ l k=false
 run:runL s.cf.ah k n l=runL s.cf.ah k k s.mv
 n:k-ftL l<=n
theorem TchI.step {wr W:World} {k n:Nat} {l:List Bool} (h:TchI w wr R S y q z A s k n l) (hJ:SlJ A) (g:Gr wr W) (hT:TabAt w) (htS:¬ S 1) (htR:¬ R 1) (hdis:∀ k,R k->¬ S k) (hlt:∀ k,R k->k<w.heap.size) (hk:k<s.mv.length) (h1:ftL l<k) (h2:s.cf.ah<=mvdL l-ftL l):
  Calls Tryz.prog 63 #[.pointer (some ⟨y,0,none⟩)] W fun e w'=>e=.returned (.tuple #[.bool true,.int .i64 0])/\∃ n',TchI w w' R S y q z A s k n' (stepL l)/\ftL l<ftL (stepL l):=by
 obtain ⟨Sj,v',hsj,hv,ho,ha⟩:=h.vm
 have hz:=h.t.size
 have hf:ftL l<l.length:=by rw [h.len];omega
 have htw:TabAt W:=(hT.touch' h.t (fun h'=>h'.elim htR htS)).touch' (g.touch (fun _=>False)) (fun h=>h)
 have htl:=hT.lt
 refine (sl_step hJ (h.cy.gr g) ho ha htw (fun h'=>?_) htR (hv.gr g) (fun b hb h'=>?_)).mono ?_
 ·rcases hsj _ h' with h | h
  ·exact htS h.1
  ·omega
 ·have:=hlt b hb
  rcases hsj b h' with h | h
  ·exact hdis b hb h.1
  ·omega
 ·rintro e w' ⟨v'',rfl,hf'⟩
  have hgz:=g.size
  have hst:=ftL_step hf
  obtain ⟨n',rfl⟩:∃ n',n=n' + 1:=⟨n-1,by have:=h.n;omega⟩
  refine ⟨by rw [show decide (({ s with mv:=l }:Sl).ft<({ s with mv:=l }:Sl).mv.length)=true from decide_eq_true hf],n',⟨?_,hf'.cy,⟨plus Sj W,v'',fun b hb=>?_,hf'.vm,hf'.ok,hf'.j⟩,by rw [stepL_len];exact h.len,stepL_other h.un h1,?_,by have:=h.n;omega⟩,hst⟩
  ·refine (h.t.trans (g.touch _)).trans' hf'.t (fun b hb hs=>?_)
   rcases hs with hs | hs
   ·exact .inl hs
   ·rcases hsj b hs with h | h
    ·exact .inr h.1
    ·omega
  ·rcases hb with h | h
   ·exact hsj b h
   ·right;omega
  ·rw [<-h.run]
   show _=(if ftL l<k/\s.cf.ah<=mvdL l-ftL l then runL s.cf.ah k n' (stepL l) else l)
   rw [if_pos ⟨h1,h2⟩]
theorem TchI.fin {wr W:World} {k n:Nat} {l:List Bool} {a:Int} (h:TchI w wr R S y q z A s k n l) (hJ:SlJ A) (g:Gr wr W) (hT:TabAt w) (htS:¬ S 1) (htR:¬ R 1) (hdis:∀ k,R k->¬ S k) (hlt:∀ k,R k->k<w.heap.size) (hk:k<s.mv.length) (hm:at_ s.mv k=false) (hc:¬ (ftL l<k/\s.cf.ah<=mvdL l-ftL l)) (he:s.tch a={ s with mv:=touchL s.cf.ah k s.mv }):
  Calls Tryz.prog 162 #[.pointer (some ⟨y,0,none⟩),.int .i64 k] W fun e w'=>e=.returned (.int .i64 0)/\TchEnd w R S y q z A s a (.returned (.int .i64 0)) w':=by
 obtain ⟨Sj,v',hsj,hv,ho,ha⟩:=h.vm
 have hz:=h.t.size
 have hgz:=g.size
 have htw:TabAt W:=(hT.touch' h.t (fun h'=>h'.elim htR htS)).touch' (g.touch (fun _=>False)) (fun h=>h)
 have htl:=hT.lt
 have hkl:k<({ s with mv:=l }:Sl).mv.length:=by show k<l.length;rw [h.len];exact hk
 have hfk:=ftL_le h.un
 have hor:k=({ s with mv:=l }:Sl).ft\/({ s with mv:=l }:Sl).mvd-({ s with mv:=l }:Sl).ft<({ s with mv:=l }:Sl).cf.ah:=by
  rcases Nat.lt_or_ge (ftL l) k with h' | h'
  ·right
   have:¬ s.cf.ah<=mvdL l-ftL l:=fun h''=>hc ⟨h',h''⟩
   show mvdL l-ftL l<s.cf.ah
   omega
  ·left
   show k=ftL l
   omega
 refine (sl_move (h.cy.gr g) ho htw (fun h'=>?_) htR (hv.gr g) (fun b hb h'=>?_) hkl h.un (hJ.need _ _ k ho ha hkl h.un hor)).mono ?_
 ·rcases hsj _ h' with h | h
  ·exact htS h.1
  ·omega
 ·have:=hlt b hb
  rcases hsj b h' with h | h
  ·exact hdis b hb h.1
  ·omega
 ·rintro e w' ⟨rfl,ht,hcy,v'',hv',hmv⟩
  have er:runL s.cf.ah k n l=l:=by
   cases n with
   | zero=>rfl
   | succ n=>unfold runL;rw [if_neg hc]
  have et:s.tch a={ s with mv:=l.set k true }:=by
   rw [he]
   unfold touchL
   rw [if_neg (by rw [hm];decide),<-h.run,er]
  refine ⟨rfl,v'',rfl,?_,by rw [et];exact hcy,hv'.mono (fun b hb=>?_),by rw [et];exact hmv.ok,by rw [et];exact hJ.step _ _ k v'' ho ha hkl h.un hor hmv⟩
  ·refine (h.t.trans (g.touch _)).trans' ht (fun b hb hs=>?_)
   rcases hs with hs | hs
   ·exact .inl hs
   ·rcases hsj b hs with h | h
    ·exact .inr h.1
    ·omega
  ·rcases hb with h | h
   ·rcases hsj b h with h | h
    ·exact .inl h.1
    ·exact .inr h
   ·right;omega
set_option maxRecDepth 100000 in
set_option maxHeartbeats 3200000 in
theorem sl_touch (hJ:SlJ A) (hC:Cyc w R y q z s) (hO:SlOk s v) (hA:A s v) (hT:TabAt w) (htS:¬ S 1) (htR:¬ R 1) (hV:VmAt w S q v) (hdis:∀ k,R k->¬ S k) (a:Int) (ha:a<=9223372036854775807):
  Calls Tryz.prog 163 #[.pointer (some ⟨y,0,none⟩),.int .i64 a] w (TchEnd w R S y q z A s a):=by
 have HBK:=hid (pln_block hC.plan hT a ha)
 have c8:=hC.rc.cell (j:=8) rfl
 have cl:=hC.rc.lt
 have HSM:Hid (s.tch a=s->TchEnd w R S y q z A s a (.returned (.int .i64 0)) w):=⟨fun e=>⟨v,rfl,Touch.refl _ _,by rw [e];exact hC,hV.mono (fun _ h=>.inl h),by rw [e];exact hO,by rw [e];exact hA⟩⟩
 cases hin:inF s.L s.cf.to a with
 | false=>
  have e:s.tch a=s:=by unfold Sl.tch;rw [hin];rfl
  have HE:=hid (HSM.out e)
  obtain ⟨-,-,e3⟩:=from_no hin
  rw [e3] at HBK
  obtain ⟨bv,hbv⟩:∃ bv,bv=blkV s.L s.cf.to s.cf.bk a:=⟨_,rfl⟩
  rw [<-hbv] at HBK
  clear hC hO hA hT htS htR hV hdis hJ hin e e3 hbv HSM
  go_enter Tryz.func163,Tryz.ntmps163
  go_wp2_with (go_at_call 166;refine (HBK.out).mono ?_;rintro e w1 ⟨rfl,hg1⟩;have HG1:=hid hg1;clear hg1)
  go_ret
  obtain ⟨v',e1,h⟩:=HE.out
  exact ⟨v',rfl,h.t.trans (HG1.out.touch _),h.cy.gr HG1.out,h.vm.gr HG1.out,h.ok,h.j⟩
 | true=>
  have hst:=hO.st
  obtain ⟨i,rfl⟩:∃ i:Nat,a=((s.cf.to+i:Nat):Int):=⟨(a-s.cf.to).toNat,by have:=(inF_iff.1 hin).1;omega⟩
  have hiN:i<sizes s.L:=by have:=(inF_iff.1 hin).2;omega
  obtain ⟨k,hk⟩:∃ k,k=i/s.cf.bk:=⟨_,rfl⟩
  have hkl:k<s.mv.length:=by rw [hk];exact hst.blk hiN
  have ebv:blkV s.L s.cf.to s.cf.bk ((s.cf.to+i:Nat):Int)=(k:Int):=by
   unfold blkV
   rw [hin,if_pos rfl,show ((s.cf.to+i:Nat):Int)-(s.cf.to:Int)=(i:Int) by omega,hk];rfl
  rw [ebv,(src_from hiN).2] at HBK
  have etch:s.tch ((s.cf.to+i:Nat):Int)={ s with mv:=touchL s.cf.ah k s.mv }:=by
   unfold Sl.tch
   rw [hin,if_pos rfl,show (((s.cf.to+i:Nat):Int)-(s.cf.to:Int)).toNat=i by omega,<-hk]
  have hkI:(k:Int)<(s.mv.length:Int):=by omega
  have hml:s.mv.length<=1048576:=by rw [hst.len];have:=nbl_le (n:=sizes s.L) hst.bk.1;have:=hst.N_le;have:=hst.n2;omega
  have HAI:=hid (inF_iff.1 hin)
  have HETC:=hid etch
  obtain ⟨a,hab⟩:∃ a:Int,a=((s.cf.to+i:Nat):Int):=⟨_,rfl⟩
  rw [<-hab] at HBK HSM etch HETC ⊢
  clear hin hk ebv HAI
  by_cases hm:at_ s.mv k=true
  ·have e:s.tch a=s:=by
    rw [etch]
    unfold touchL
    rw [if_pos hm]
   have HE:=hid (HSM.out e)
   have HX:=hid (fun (W:World) (g:Gr w W)=>(hC.gr g).rc.cell (j:=10) rfl)
   have HXL:=hid (fun (W:World) (g:Gr w W)=>(hC.gr g).rc.lt)
   have HX2:=hid (fun (W:World) (g:Gr w W)=>own_cell (hC.gr g).mv (bls_at hkl))
   have HX3:=hid (fun (W:World) (g:Gr w W)=>(own_lt (hC.gr g).mv rfl).2)
   rw [hm] at HX2
   clear hC hO hA hT htS htR hV hdis hJ hst hiN hab etch HETC e HSM hm hkl
   go_enter Tryz.func163,Tryz.ntmps163
   go_wp2_with (go_at_call 166;refine (HBK.out).mono ?_;rintro e w1 ⟨rfl,hg1⟩;have HG1:=hid hg1;have y4:=HX.out _ hg1;have yl:=HXL.out _ hg1;have y5:=HX2.out _ hg1;have y6:=HX3.out _ hg1;clear hg1)
   go_ret
   obtain ⟨v',e1,h⟩:=HE.out
   exact ⟨v',rfl,h.t.trans (HG1.out.touch _),h.cy.gr HG1.out,h.vm.gr HG1.out,h.ok,h.j⟩
  ·have hm:at_ s.mv k=false:=by simpa using hm
   have HX:=hid (fun (W:World) (g:Gr w W)=>(hC.gr g).rc.cell (j:=10) rfl)
   have HXL:=hid (fun (W:World) (g:Gr w W)=>(hC.gr g).rc.lt)
   have HX2:=hid (fun (W:World) (g:Gr w W)=>own_cell (hC.gr g).mv (bls_at hkl))
   have HX3:=hid (fun (W:World) (g:Gr w W)=>(own_lt (hC.gr g).mv rfl).2)
   rw [hm] at HX2
   have HI0:Hid (∀ W,Gr w W->TchI w W R S y q z A s k k s.mv):=⟨fun W g=>⟨g.touch _,hC.gr g,⟨cutS S w,v,fun b hb=>.inl hb,hV.cut.gr g,hO,hA⟩,rfl,hm,rfl,by omega⟩⟩
   have HS:=hid (And.intro hT (And.intro htS (And.intro htR (And.intro hdis (And.intro hC.od.lt hkl)))))
   have HJ:=hid hJ
   have hahb:s.cf.ah<=16:=hst.cf.ah
   have HM:=hid hm
   clear hC hO hA hT htS htR hV hdis hJ hst hiN hab etch HSM hm hkl
   go_enter Tryz.func163,Tryz.ntmps163
   go_upto_region 6 with (go_at_call 166;refine (HBK.out).mono ?_;rintro e w1 ⟨rfl,hg1⟩;have HG1:=hid hg1;have y4:=HX.out _ hg1;have yl:=HXL.out _ hg1;have y5:=HX2.out _ hg1;have y6:=HX3.out _ hg1;clear hg1)
   clear y4 yl y5 y6 c8 cl
   go_loopw [] (fun wr=>∃ (n:Nat) (l:List Bool),Hid (TchI w wr R S y q z A s k n l)) (fun wr=>k-cellN wr y 12)
   case atStart=>exact ⟨k,s.mv,⟨HI0.out _ HG1.out⟩⟩
   case round=>
    obtain ⟨n,l,HI⟩:=hrel
    have q6:wr.cell? ⟨y,12,none⟩=some (.int .i64 (ftL l:Nat)):=HI.out.cy.rc.cell (j:=12) rfl
    have q7:wr.cell? ⟨y,13,none⟩=some (.int .i64 (mvdL l-ftL l:Nat)):=HI.out.cy.rc.cell (j:=13) rfl
    have qa:=HI.out.cy.rc.cell (j:=7) rfl
    have ql:=HI.out.cy.rc.lt
    obtain ⟨fc,hfc⟩:∃ fc,fc=ftL l:=⟨_,rfl⟩
    obtain ⟨ac,hac⟩:∃ ac,ac=mvdL l-fc:=⟨_,rfl⟩
    have HFC:=hid hfc
    rw [<-hfc] at q6 q7
    rw [<-hac] at q7
    have HAC:Hid (ac=mvdL l-ftL l):=⟨by rw [hac,hfc]⟩
    clear hfc hac
    by_cases hlt:fc<k
    ·have hltI:(fc:Int)<(k:Int):=by omega
     have d0:decide ((fc:Int)<(k:Int))=true:=decide_eq_true hltI
     have d0':decide (fc<k)=true:=decide_eq_true hlt
     by_cases hge:s.cf.ah<=ac
     ·have d1:decide ((s.cf.ah:Int)<=(ac:Int))=true:=decide_eq_true (by omega)
      have d1':decide (s.cf.ah<=ac)=true:=decide_eq_true hge
      have HC2:Hid (ftL l<k/\s.cf.ah<=mvdL l-ftL l):=⟨by rw [<-HFC.out];exact hlt,by rw [<-HAC.out];exact hge⟩
      clear hlt hge
      go_wp2
      go_quiet (fail)
      have HST:=hid (HI.out.step HJ.out ((Gr.refl wr).drewN nq) HS.out.1 HS.out.2.1 HS.out.2.2.1 HS.out.2.2.2.1 HS.out.2.2.2.2.1 HS.out.2.2.2.2.2 HC2.out.1 HC2.out.2)
      go_wp2_with (go_at_call 63;refine (HST.out).mono ?_;rintro e w5 ⟨rfl,n',hi5,hf5⟩;have HI5:=hid hi5;have HF5:=hid hf5;clear hi5 hf5)
      go_roundw
      case rel=>exact ⟨n',stepL l,HI5⟩
      case measure=>
       have c1:wr.cell? ⟨y,12,none⟩=some (.int .i64 (ftL l:Nat)):=HI.out.cy.rc.cell (j:=12) rfl
       have c2:w5.cell? ⟨y,12,none⟩=some (.int .i64 (ftL (stepL l):Nat)):=HI5.out.cy.rc.cell (j:=12) rfl
       have:=HF5.out
       have:=HC2.out.1
       unfold cellN
       rw [c1,c2]
       simp [intOf]
       omega
     ·have d1:decide ((s.cf.ah:Int)<=(ac:Int))=false:=decide_eq_false (by omega)
      have d1':decide (s.cf.ah<=ac)=false:=decide_eq_false hge
      have HCC:Hid (¬ (ftL l<k/\s.cf.ah<=mvdL l-ftL l)):=⟨fun h=>hge (by rw [HAC.out];exact h.2)⟩
      clear hlt hge
      go_wp2
      have n0:=own_cell HI.out.cy.mv (bls_at (show k<l.length by rw [HI.out.len];exact HS.out.2.2.2.2.2))
      rw [HI.out.un] at n0
      have n4:=HI.out.cy.rc.cell (j:=10) rfl
      have nl:=(own_lt HI.out.cy.mv rfl).2
      have hkl2:(k:Int)<(({ s with mv:=l }:Sl).mv.length:Int):=by show (k:Int)<(l.length:Int);rw [HI.out.len];exact hkI
      go_quiet (fail)
      have HFN:=hid (HI.out.fin HJ.out ((Gr.refl wr).drewN nq) HS.out.1 HS.out.2.1 HS.out.2.2.1 HS.out.2.2.2.1 HS.out.2.2.2.2.1 HS.out.2.2.2.2.2 HM.out HCC.out HETC.out)
      go_wp2_with (go_at_call 162;refine (HFN.out).mono ?_;rintro e w5 ⟨rfl,he5⟩;have HE5:=hid he5;clear he5)
      go_ret
      exact HE5.out
    ·have d0:decide ((fc:Int)<(k:Int))=false:=decide_eq_false (by omega)
     have d0':decide (fc<k)=false:=decide_eq_false hlt
     have HCC:Hid (¬ (ftL l<k/\s.cf.ah<=mvdL l-ftL l)):=⟨fun h=>hlt (by rw [HFC.out];exact h.1)⟩
     clear hlt
     go_wp2
     have n0:=own_cell HI.out.cy.mv (bls_at (show k<l.length by rw [HI.out.len];exact HS.out.2.2.2.2.2))
     rw [HI.out.un] at n0
     have n4:=HI.out.cy.rc.cell (j:=10) rfl
     have nl:=(own_lt HI.out.cy.mv rfl).2
     have hkl2:(k:Int)<(({ s with mv:=l }:Sl).mv.length:Int):=by show (k:Int)<(l.length:Int);rw [HI.out.len];exact hkI
     go_quiet (fail)
     have HFN:=hid (HI.out.fin HJ.out ((Gr.refl wr).drewN nq) HS.out.1 HS.out.2.1 HS.out.2.2.1 HS.out.2.2.2.1 HS.out.2.2.2.2.1 HS.out.2.2.2.2.2 HM.out HCC.out HETC.out)
     go_wp2_with (go_at_call 162;refine (HFN.out).mono ?_;rintro e w5 ⟨rfl,he5⟩;have HE5:=hid he5;clear he5)
     go_ret
     exact HE5.out
end
end Go.Proofs.YthgdadohijgleaaGreatDoor
end
section
namespace Go.Proofs.YthgdadohijgleaaGreatDoor
open Go.RowKit Go.Shelf Word
section
variable {w:World} {R S:Nat->Prop} {y q:Nat} {z:SlAd} {s:Sl} {v:Vm} {A:Sl->Vm->Prop}
def LdEnd (w:World) (R S:Nat->Prop) (y q:Nat) (z:SlAd) (A:Sl->Vm->Prop) (s:Sl) (a:Int) (e:Ending) (w':World):Prop:=
 ∃ v',e=.returned (.tuple #[.int .u64 (v'.ldV a:Nat),.int .i64 (v'.ldE a)])/\SlAft w w' R S y q z A (s.tch a) v'
theorem SlAft.gr {w w1 w':World} {s':Sl} {v':Vm} (h:SlAft w w1 R S y q z A s' v') (g:Gr w1 w'):SlAft w w' R S y q z A s' v':=
 ⟨h.t.trans (g.touch _),h.cy.gr g,h.vm.gr g,h.ok,h.j⟩
set_option maxRecDepth 100000 in
set_option maxHeartbeats 1600000 in
theorem sl_load (hJ:SlJ A) (hC:Cyc w R y q z s) (hO:SlOk s v) (hA:A s v) (hT:TabAt w) (htS:¬ S 1) (htR:¬ R 1) (hV:VmAt w S q v) (hdis:∀ k,R k->¬ S k) (a:Int) (ha:a<=9223372036854775807):
  Calls Tryz.prog 68 #[.pointer (some ⟨y,0,none⟩),.int .i64 a] w (LdEnd w R S y q z A s a):=by
 have HT:=hid (sl_touch hJ hC hO hA hT htS htR hV hdis a ha)
 clear hJ hC hO hA hT htS htR hV hdis ha
 go_enter Tryz.func68,Tryz.ntmps68
 go_upto_region 4 with (go_at_call 163;refine (HT.out).mono ?_;rintro e w1 ⟨v',rfl,hf⟩;have HF:=hid hf;have c0:=hf.cy.rc.cell (j:=0) rfl;have cl:=hf.cy.rc.lt;clear hf)
 have HLD:=hid (vm_load HF.out.vm a)
 obtain ⟨x,hx⟩:∃ x,x=v'.ldV a:=⟨_,rfl⟩
 obtain ⟨er,her⟩:∃ er,er=v'.ldE a:=⟨_,rfl⟩
 rw [<-hx,<-her] at HLD
 have HX:=hid (And.intro hx her)
 clear hx her
 go_wp2_with (go_at_call 150;refine (HLD.out).mono ?_;rintro e w2 ⟨rfl,hg2⟩;have HG2:=hid hg2;clear hg2)
 go_ret2
 exact ⟨v',by rw [<-HX.out.1,<-HX.out.2];rfl,HF.out.gr HG2.out⟩
def SoEnd (w:World) (R S:Nat->Prop) (y q:Nat) (z:SlAd) (A:Sl->Vm->Prop) (s:Sl) (a:Int) (x:Nat) (e:Ending) (w':World):Prop:=
 ∃ v',e=.returned (.int .i64 (v'.ldE a))/\Touch (fun b=>R b\/S b) w w'/\Cyc w' R y q z (s.tch a)/\VmAt w' (plus S w) q (v'.st a x)/\SlOk (s.tch a) v'/\A (s.tch a) v'
set_option maxRecDepth 100000 in
set_option maxHeartbeats 1600000 in
theorem sl_store (hJ:SlJ A) (hC:Cyc w R y q z s) (hO:SlOk s v) (hA:A s v) (hT:TabAt w) (htS:¬ S 1) (htR:¬ R 1) (hV:VmAt w S q v) (hdis:∀ k,R k->¬ S k) (a:Int) (ha:a<=9223372036854775807) {x:Nat} (hx:x<18446744073709551616):
  Calls Tryz.prog 64 #[.pointer (some ⟨y,0,none⟩),.int .i64 a,.int .u64 x] w (SoEnd w R S y q z A s a x):=by
 have HT:=hid (sl_touch (S:=cutS S w) hJ hC hO hA hT (fun h=>htS h.1) htR hV.cut (fun k h h'=>hdis k h h'.1) a ha)
 have HX:=hid hx
 have HR:=hid (And.intro hC.od.lt hdis)
 clear hJ hC hO hA hT htS htR hV hdis ha
 go_enter Tryz.func64,Tryz.ntmps64
 clear hx
 go_upto_region 4 with (go_at_call 163;refine (HT.out).mono ?_;rintro e w1 ⟨v',rfl,hf⟩;have HF:=hid hf;have c0:=hf.cy.rc.cell (j:=0) rfl;have cl:=hf.cy.rc.lt;clear hf)
 have HLD:=hid (vm_store HF.out.vm.cut a HX.out)
 obtain ⟨er,her⟩:∃ er,er=v'.ldE a:=⟨_,rfl⟩
 rw [<-her] at HLD
 have HER:=hid her
 clear her
 go_wp2_with (go_at_call 147;refine (HLD.out).mono ?_;rintro e w2 ⟨rfl,ht2,hv2⟩;have HT2:=hid ht2;have HV2:=hid hv2;clear ht2 hv2)
 go_ret
 have hz:=HF.out.t.size
 refine ⟨v',by rw [HER.out];rfl,(HF.out.t.mono (fun b _ h=>h.imp id (fun h=>h.1))).trans' HT2.out (fun b hb h=>?_),HF.out.cy.touch HT2.out (fun b hb h=>?_),HV2.out.mono (fun b hb=>?_),HF.out.ok,HF.out.j⟩
 ·rcases h.1 with h | h
  ·exact .inr h.1
  ·omega
 ·have:=HR.out.1 b hb
  rcases h.1 with h | h
  ·exact HR.out.2 b hb h.1
  ·omega
 ·rcases hb.1 with h | h
  ·exact .inl h.1
  ·exact .inr h
def Sl.pkV (s:Sl) (v:Vm) (a:Int):Nat:=if inF s.L s.cf.to a then s.c (a-s.cf.to).toNat else v.ldV a
def Sl.pkE (s:Sl) (v:Vm) (a:Int):Int:=if inF s.L s.cf.to a then 0 else v.ldE a
set_option maxRecDepth 100000 in
set_option maxHeartbeats 3200000 in
theorem sl_peek (hC:Cyc w R y q z s) (hO:SlOk s v) (hT:TabAt w) (hV:VmAt w S q v) (a:Int) (ha:a<=9223372036854775807):
  Gets Tryz.prog 67 #[.pointer (some ⟨y,0,none⟩),.int .i64 a] w (.tuple #[.int .u64 (s.pkV v a:Nat),.int .i64 (s.pkE v a)]):=by
 have HBK:=hid (pln_block hC.plan hT a ha)
 have HLD:=hid (fun (W:World) (g:Gr w W)=>vm_load (hV.gr g) a)
 have c8:=hC.rc.cell (j:=8) rfl
 have cl:=hC.rc.lt
 have HX0:=hid (fun (W:World) (g:Gr w W)=>(hC.gr g).rc.cell (j:=0) rfl)
 have HXL:=hid (fun (W:World) (g:Gr w W)=>(hC.gr g).rc.lt)
 obtain ⟨pv,hpv⟩:∃ pv,pv=s.pkV v a:=⟨_,rfl⟩
 obtain ⟨pe,hpe⟩:∃ pe,pe=s.pkE v a:=⟨_,rfl⟩
 rw [<-hpv,<-hpe]
 cases hin:inF s.L s.cf.to a with
 | false=>
  have e1:v.ldV a=pv:=by rw [hpv];unfold Sl.pkV;rw [hin];rfl
  have e2:v.ldE a=pe:=by rw [hpe];unfold Sl.pkE;rw [hin];rfl
  rw [e1,e2] at HLD
  rw [(from_no hin).2.2] at HBK
  obtain ⟨bv,hbv⟩:∃ bv,bv=blkV s.L s.cf.to s.cf.bk a:=⟨_,rfl⟩
  rw [<-hbv] at HBK
  clear hC hO hT hV hin hpv hpe e1 e2 hbv
  unfold Gets
  go_enter Tryz.func67,Tryz.ntmps67
  go_wp2_with (first
   | (go_at_call 166;refine (HBK.out).mono ?_;rintro e w1 ⟨rfl,hg1⟩;have HG1:=hid hg1;have y0:=HX0.out _ hg1;have yl:=HXL.out _ hg1;clear hg1)
   | (go_at_call 150;refine (HLD.out _ HG1.out).mono ?_;rintro e w2 ⟨rfl,hg2⟩;have HG2:=hid (HG1.out.trans hg2);clear hg2))
  go_ret2
  exact ⟨rfl,HG2.out⟩
 | true=>
  have hst:=hO.st
  obtain ⟨i,rfl⟩:∃ i:Nat,a=((s.cf.to+i:Nat):Int):=⟨(a-s.cf.to).toNat,by have:=(inF_iff.1 hin).1;omega⟩
  have hiN:i<sizes s.L:=by have:=(inF_iff.1 hin).2;omega
  have e1:s.c i=pv:=by rw [hpv];unfold Sl.pkV;rw [hin,if_pos rfl,show (((s.cf.to+i:Nat):Int)-(s.cf.to:Int)).toNat=i by omega]
  have e2:(0:Int)=pe:=by rw [hpe];unfold Sl.pkE;rw [hin];rfl
  obtain ⟨k,hk⟩:∃ k,k=i/s.cf.bk:=⟨_,rfl⟩
  have hkl:k<s.mv.length:=by rw [hk];exact hst.blk hiN
  have ebv:blkV s.L s.cf.to s.cf.bk ((s.cf.to+i:Nat):Int)=(k:Int):=by
   unfold blkV
   rw [hin,if_pos rfl,show ((s.cf.to+i:Nat):Int)-(s.cf.to:Int)=(i:Int) by omega,hk];rfl
  rw [ebv,(src_from hiN).2] at HBK
  have his:s.is i=at_ s.mv k:=by unfold Sl.is;rw [hk]
  have hkI:(k:Int)<(s.mv.length:Int):=by omega
  have HX:=hid (fun (W:World) (g:Gr w W)=>(hC.gr g).rc.cell (j:=10) rfl)
  have HX2:=hid (fun (W:World) (g:Gr w W)=>own_cell (hC.gr g).mv (bls_at hkl))
  have HX3:=hid (fun (W:World) (g:Gr w W)=>(own_lt (hC.gr g).mv rfl).2)
  cases hm:at_ s.mv k with
  | true=>
   rw [hm] at HX2 his
   obtain ⟨d1,d2⟩:=hO.mid.dst i hiN his
   rw [d1,d2,e1] at HLD
   obtain ⟨a,hab⟩:∃ a:Int,a=((s.cf.to+i:Nat):Int):=⟨_,rfl⟩
   rw [<-hab] at HBK HLD ⊢
   subst e2
   clear hC hO hT hV hin hpv hpe e1 hk hkl ebv his hm d1 d2 hab hst hiN
   unfold Gets
   go_enter Tryz.func67,Tryz.ntmps67
   go_wp2_with (first
    | (go_at_call 166;refine (HBK.out).mono ?_;rintro e w1 ⟨rfl,hg1⟩;have HG1:=hid hg1;have y0:=HX0.out _ hg1;have yl:=HXL.out _ hg1;have y4:=HX.out _ hg1;have y5:=HX2.out _ hg1;have y6:=HX3.out _ hg1;clear hg1)
    | (go_at_call 150;refine (HLD.out _ HG1.out).mono ?_;rintro e w2 ⟨rfl,hg2⟩;have HG2:=hid (HG1.out.trans hg2);clear hg2))
   go_ret2
   exact ⟨rfl,HG2.out⟩
  | false=>
   rw [hm] at HX2 his
   obtain ⟨m1,m2,m3⟩:=hO.mid.src i hiN (by show (!s.is i)=true;rw [his];rfl)
   obtain ⟨j,hj,p',f',k',g1,g2,g3⟩:=obj_find hst hiN rfl
   obtain ⟨o1,o2,o3⟩:=obj_cv hst hiN rfl g3
   obtain ⟨sa,hsa⟩:∃ sa,sa=srcO s.L i:=⟨_,rfl⟩
   rw [<-hsa] at m1 m2 m3 g1 g3 o1
   have hsl:sa<=1048576:=by have:=(hst.srcs hiN).2.2;have:=hst.n2;omega
   obtain ⟨st,hstq⟩:∃ st,st=s.L[j].1:=⟨_,rfl⟩
   have hsts:st<=sa:=by
    obtain ⟨j',hj',q1,q2,q3,q4,q5⟩:=g3
    rw [hstq];omega
   have HWD:=hid (fun (W:World) (g:Gr w W)=>sl_word (f:=f') (k:=k') (hC.gr g) hst (hV.gr g) (p:=p') o3 (a:=sa) (st:=st) (m:=sa-st) (by omega) (by omega) (fun h=>m3 ⟨by rw [o1,<-hstq];exact h.1,by rw [o1,o2,<-hstq];show ((sa-st:Nat):Int)<=(p':Int);omega⟩))
   have hres:cvH s.L s.cf.to ⟨p',f',k'⟩ (sa-st) (v.ldV (sa:Nat))=pv:=by
    rw [<-e1,<-m2]
    unfold Sl.cv
    rw [o1,o2,hstq]
   rw [hres] at HWD
   have HFD:=hid (fun (W:World) (g:Gr w W)=>ext_find (hC.gr g).ex (g.tab hT.lt hT) (sa:Int))
   rw [g1,tellO_in hj] at HFD
   have HFR:=hid (fun (W:World) (g:Gr w W)=>by
    obtain ⟨h1,h2,h3,f,c0,c1,hF⟩:=(hC.gr g).plan
    exact Exists.intro f (And.intro (pln_forward c0) (fun (W':World) (g':Gr W W')=>fwd_from (hF.gr g') ((g.trans g').tab hT.lt hT) ((s.cf.to+i:Nat):Int) ha)))
   rw [(src_from hiN).1,(src_from hiN).2,<-hsa] at HFR
   have HLK:=hid (fun (W:World) (g:Gr w W)=>shp_look (hC.gr g).sh hj (by have:=(hst.good.sz _ (List.getElem_mem hj)).2;have:=hst.n2;omega))
   rw [g2] at HLK
   rw [<-hstq] at HLK HFD
   obtain ⟨sz,hsz⟩:∃ sz,sz=s.L[j].2:=⟨_,rfl⟩
   rw [<-hsz] at HFD
   unfold hdrV at HLK HWD
   have HX9:=hid (fun (W:World) (g:Gr w W)=>(hC.gr g).rc.cell (j:=9) rfl)
   have HX8:=hid (fun (W:World) (g:Gr w W)=>(hC.gr g).rc.cell (j:=8) rfl)
   have HX15:=hid (fun (W:World) (g:Gr w W)=>(hC.gr g).rc.cell (j:=15) rfl)
   obtain ⟨a,hab⟩:∃ a:Int,a=((s.cf.to+i:Nat):Int):=⟨_,rfl⟩
   rw [<-hab] at HBK HFR ⊢
   subst e2
   clear hC hO hT hV hin hpv hpe e1 hk hkl ebv his hm m1 m2 m3 g1 g2 g3 o1 o2 o3 hsa hstq hres hsz hab hst hiN hj
   unfold Gets
   go_enter Tryz.func67,Tryz.ntmps67
   go_upto_region 6 with (go_at_call 166;refine (HBK.out).mono ?_;rintro e w1 ⟨rfl,hg1⟩;have HG1:=hid hg1;have y4:=HX.out _ hg1;have y5:=HX2.out _ hg1;have y6:=HX3.out _ hg1;have y8:=HX8.out _ hg1;have yl:=HXL.out _ hg1;clear hg1)
   obtain ⟨fp,hfw,hfr⟩:=HFR.out _ HG1.out
   have HFW:=hid hfw
   have HFRM:=hid hfr
   clear hfw hfr y4 y5 y6
   go_upto_region 7 with (first
    | (go_at_call 157;refine (HFW.out).mono ?_;rintro e w2 ⟨rfl,rfl⟩)
    | (go_at_call 167;refine (HFRM.out _ (Gr.refl w1)).mono ?_;rintro e w3 ⟨rfl,hg3⟩;have HG3:=hid (HG1.out.trans hg3);clear hg3))
   have q9:=HX9.out _ HG3.out
   have q15:=HX15.out _ HG3.out
   have ql:=HXL.out _ HG3.out
   have hlk:=HLK.out _ HG3.out
   clear y8 yl c8 cl
   go_wp2_with (first
    | (go_at_call 168;refine (HFD.out _ HG3.out).mono ?_;rintro e w4 ⟨rfl,rfl⟩)
    | (go_at_call 169;refine (HWD.out _ HG3.out).mono ?_;rintro e w5 ⟨rfl,hg5⟩;have HG5:=hid (HG3.out.trans hg5);clear hg5))
   go_ret2
   exact ⟨rfl,HG5.out⟩
end
theorem SlOk.store {s:Sl} {v:Vm} (h:SlOk s v) {i x:Nat} (hi:i<sizes s.L) (hm:s.is i=true) (hx:x<18446744073709551616):SlOk { s with c:=fun j=>if j=i then x else s.c j } (v.st ((s.cf.to+i:Nat):Int) x):=by
 obtain ⟨d1,d2⟩:=h.mid.dst i hi hm
 have hst:=h.mid.ok.st_ldV x d1
 have hs:=h.st
 refine ⟨⟨hs.pg,hs.n2,hs.cf,hs.good,hs.inn,hs.fit,hs.hd,hs.len⟩,⟨h.mid.ok.st _ hx,(SamePg.st v _ x).n.trans h.mid.n,(SamePg.st v _ x).pg.trans h.mid.pg,fun j hj hu=>?_,fun j hj hd=>?_⟩⟩
 ·have hu2:(!s.is j)=true:=hu
  have hj:j<sizes s.L:=hj
  obtain ⟨h1,h2,h3⟩:=h.mid.src j hj hu2
  have hji:j≠i:=fun e=>by rw [e,hm] at hu2;cases hu2
  have ha:(((s.cf.to+i:Nat):Int)≠(srcO s.L j:Nat)):=fun e=>hs.apart ⟨(hs.srcs hj).1,(hs.srcs hj).2.1⟩ ⟨Nat.le_add_right _ i,(hs.dsts hi).1⟩ (by rw [show srcO s.L j=s.cf.to+i by omega])
  show (v.st _ x).ldE _=0/\s.cv j _=(if j=i then x else s.c j)/\_
  rw [st_ldE,hst,if_neg ha,if_neg hji]
  exact ⟨h1,h2,h3⟩
 ·have hj:j<sizes s.L:=hj
  show (v.st _ x).ldE _=0/\(v.st _ x).ldV _=(if j=i then x else s.c j)
  rw [st_ldE,hst]
  by_cases e:j=i
  ·subst e
   rw [if_pos rfl,if_pos rfl]
   exact ⟨d1,rfl⟩
  ·show v.ldE ((s.cf.to+j:Nat):Int)=0/\(if ((s.cf.to+i:Nat):Int)=((s.cf.to+j:Nat):Int) then x else v.ldV ((s.cf.to+j:Nat):Int))=_
   rw [if_neg (by omega),if_neg e]
   exact h.mid.dst j hj hd
end Go.Proofs.YthgdadohijgleaaGreatDoor
end
section
namespace Go.Proofs.YthgdadohijgleaaGreatDoor
open Go.RowKit Word
def slNew (v:Vm) (c:Cf) (L:List Ob):Sl:=
 { n:=v.n,pg:=v.pl.pg,cf:=c,L:=L,hd:=fun a=>v.rdH (a:Nat),c:=fun i=>cvH L c.to (v.rdH ((L.getD (placeO L i) (0,0)).1:Nat)) (i-sizes (L.take (placeO L i))) (v.ldV (srcO L i:Nat)),mv:=List.replicate (nbl (sizes L) c.bk) false }
structure OpUm (s:Sl) (v v':Vm) (q0 j:Nat):Prop where
 ok:VmOk v'
 n:v'.n=v.n
 pg:v'.pl.pg=v.pl.pg
 rm:v'.pl.rm=v.pl.rm
 map:∀ p,p<v.pt.length->(v'.pt.getD p 0≠0↔v.pt.getD p 0≠0/\¬ ((q0<=p/\p<q0+j)/\s.on (fun _=>true) p=0))
 val:∀ a:Nat,a<v.n->¬ ((q0<=a/v.pl.pg/\a/v.pl.pg<q0+j)/\s.on (fun _=>true) (a/v.pl.pg)=0)->v'.ldE a=v.ldE a/\v'.ldV a=v.ldV a
theorem Pln.touch {T:Nat->Prop} {w w':World} {F p n B base:Nat} {L:List Ob} (h:Pln w F p n B base L) (t:Touch T w w') (hT:∀ k,F<=k->k<w.heap.size->¬ T k):Pln w' F p n B base L:=by
 obtain ⟨h1,h2,h3,f,c0,c1,hF⟩:=h
 exact ⟨Nat.lt_of_lt_of_le h1 t.size,h2,h3,f,(t.cell h1 (hT _ h2 h1) 0).trans c0,(t.cell h1 (hT _ h2 h1) 1).trans c1,hF.touch t hT⟩
section
variable {s:Sl} {v v':Vm} {q0 j:Nat}
theorem OpUm.zero (h:VmOk v) (q0:Nat):OpUm s v v q0 0:=
 ⟨h,rfl,rfl,rfl,fun p _=>⟨fun h=>⟨h,fun h'=>by omega⟩,fun h=>h.1⟩,fun _ _ _=>⟨rfl,rfl⟩⟩
theorem OpUm.keep (h:OpUm s v v' q0 j) (hz:s.on (fun _=>true) (q0+j)≠0):OpUm s v v' q0 (j+1):=by
 refine ⟨h.ok,h.n,h.pg,h.rm,fun p hp=>(h.map p hp).trans (and_congr_right fun _=>not_congr ⟨fun ⟨⟨a,b⟩,c⟩=>⟨⟨a,by omega⟩,c⟩,fun ⟨⟨a,b⟩,c⟩=>⟨⟨a,?_⟩,c⟩⟩),fun a ha hn=>h.val a ha (fun ⟨⟨x,y⟩,c⟩=>hn ⟨⟨x,by omega⟩,c⟩)⟩
 rcases Nat.lt_or_ge p (q0+j) with h1 | h1
 ·exact h1
 ·obtain rfl:p=q0+j:=by omega
  exact absurd c hz
theorem OpUm.drop (h:OpUm s v v' q0 j) (hz:s.on (fun _=>true) (q0+j)=0):OpUm s v (v'.um ((q0+j:Nat):Int)) q0 (j+1):=by
 obtain ⟨s1,s2,s3,s4⟩:=um_same v' ((q0+j:Nat):Int)
 by_cases hf:frE v'.pt ((q0+j:Nat):Int)=0
 ·refine ⟨h.ok.um _,s1.trans h.n,s2.trans h.pg,s3.trans h.rm,fun p hp=>?_,fun a ha hn=>?_⟩
  ·rw [um_pt hf,h.map p hp,and_assoc]
   refine and_congr_right fun _=>?_
   constructor
   ·rintro ⟨g1,g2⟩ ⟨⟨a,b⟩,c⟩
    exact g1 ⟨⟨a,by omega⟩,c⟩
   ·intro g
    exact ⟨fun ⟨⟨a,b⟩,c⟩=>g ⟨⟨a,by omega⟩,c⟩,fun e=>g ⟨by omega,by rw [e];exact hz⟩⟩
  ·have hne:a/v.pl.pg≠q0+j:=fun e=>hn ⟨by omega,by rw [e];exact hz⟩
   have ha':a<v'.n:=by rw [h.n];exact ha
   have hne':a/v'.pl.pg≠q0+j:=by rw [h.pg];exact hne
   rw [h.ok.um_ldE hf ha',if_neg hne',h.ok.um_ldV hf ha' hne']
   exact h.val a ha (fun ⟨⟨x,y⟩,c⟩=>hn ⟨⟨x,by omega⟩,c⟩)
 ·rw [um_none hf]
  refine ⟨h.ok,h.n,h.pg,h.rm,fun p hp=>?_,fun a ha hn=>h.val a ha (fun ⟨⟨x,y⟩,c⟩=>hn ⟨⟨x,by omega⟩,c⟩)⟩
  rw [h.map p hp]
  refine and_congr_right fun hv=>not_congr ⟨fun ⟨⟨a,b⟩,c⟩=>⟨⟨a,by omega⟩,c⟩,fun ⟨⟨a,b⟩,c⟩=>⟨⟨a,?_⟩,c⟩⟩
  rcases Nat.lt_or_ge p (q0+j) with h1 | h1
  ·exact h1
  ·exfalso
   obtain rfl:p=q0+j:=by omega
   have h2:=(h.map _ hp).2 ⟨hv,fun ⟨⟨_,y⟩,_⟩=>by omega⟩
   have h3:q0+j<v'.pt.length:=by
    rcases Nat.lt_or_ge (q0+j) v'.pt.length with h | h
    ·exact h
    ·rw [List.getD_eq_getElem?_getD,List.getElem?_eq_none h] at h2;exact absurd rfl h2
   rw [frE_of h3,if_neg h2] at hf
   exact hf rfl
end
theorem at_rep (n k:Nat):at_ (List.replicate n false) k=false:=by
 unfold at_
 rw [List.getD_eq_getElem?_getD,List.getElem?_replicate]
 split <;> rfl
section
variable {v v':Vm} {c:Cf} {L:List Ob} {rs:List Int}
theorem slNew_is (v:Vm) (c:Cf) (L:List Ob) (i:Nat):(slNew v c L).is i=false:=at_rep _ _
theorem slNew_mvd (v:Vm) (c:Cf) (L:List Ob):(slNew v c L).mvd=0:=cnt_none fun _ _=>at_rep _ _
theorem slNew_ft (v:Vm) (c:Cf) (L:List Ob):(slNew v c L).ft=0:=first_eq (Nat.zero_le _) (fun _ h=>absurd h (Nat.not_lt_zero _)) (fun _=>by show (!at_ (List.replicate _ false) 0)=true;rw [at_rep];rfl)
theorem slNew_lf (v:Vm) (c:Cf) (L:List Ob):(slNew v c L).lf=nbl (sizes L) c.bk:=by
 unfold Sl.lf
 rw [slNew_mvd]
 exact List.length_replicate
theorem slNew_st (hok:VmOk v) (hcf:CfOk v.pl.pg v.n c) (hI:PkIn v rs c.fr c.tp L) (hfit:sizes L<=c.lm-c.to):SlSt (slNew v c L):=by
 refine ⟨hok.page,hok.n2,hcf,hI.1.mkd.good,fun o ho=>?_,?_,fun j hj=>?_,List.length_replicate⟩
 ·have:=hI.2 o ho
  show c.fr<=o.1/\o.1+o.2<=c.tp
  omega
 ·show c.to+sizes L<=c.lm
  have:=hcf.lm
  omega
 ·have hj':j<L.length:=hj
  obtain ⟨h1,h2,h3⟩:=hI.1.mkd.ats _ (List.getElem_mem hj')
  obtain ⟨b,p,f,k,he,-,hh,hs,-,-,hz,-⟩:=rch_obj hI.1.sound h1
  have h4:(L[j].2:Int)=1+(p:Int)+f+k:=h3.trans hz
  exact ⟨p,f,k,hh,hs,by show L[j].2=1+p+f+k;omega⟩
theorem slNew_on {i:Nat} (hi:i<sizes L):(slNew v c L).on (fun _=>true) (srcO L i/v.pl.pg)≠0:=by
 have:1<=(slNew v c L).on (fun _=>true) (srcO L i/v.pl.pg):=Sl.on_pos (s:=slNew v c L) (i:=i) hi rfl rfl
 omega
theorem slNew_ok (hok:VmOk v) (hcf:CfOk v.pl.pg v.n c) (hI:PkIn v rs c.fr c.tp L) (hfit:sizes L<=c.lm-c.to) (hfull:FullOb v L) {q0 j:Nat} (hU:OpUm (slNew v c L) v v' q0 j):SlOk (slNew v c L) v':=by
 have hst:=slNew_st hok hcf hI hfit
 refine ⟨hst,hU.ok,hU.n,hU.pg,fun i hi _=>?_,fun i hi hd=>?_⟩
 ·have hi':i<sizes L:=hi
  obtain ⟨h1,h2,h3⟩:=hst.srcs hi
  obtain ⟨jo,hj,m,p,f,k,e1,e2,e3,e4,e5,e6,e7,e8,e9⟩:=hst.obj hi
  have hj':jo<L.length:=hj
  have hv:=hU.val (srcO L i) h3 (fun h=>slNew_on hi' h.2)
  have e4':srcO L i=L[jo].1+m:=e4
  have e2':m<L[jo].2:=e2
  have hl:=hfull _ (List.getElem_mem hj') m e2'
  rw [show ((L[jo].1:Nat):Int)+(m:Int)=(srcO L i:Nat) by omega] at hl
  refine ⟨hv.1.trans hl,?_,fun hp=>?_⟩
  ·show (slNew v c L).cv i (v'.ldV (srcO L i:Nat))=_
   rw [hv.2];rfl
  ·show v'.ldV (srcO L i:Nat)<=_
   rw [hv.2]
   obtain ⟨hp1,hp2⟩:=hp
   rw [e5] at hp1 hp2
   rw [e6,e7] at hp2
   obtain ⟨hr,-,-⟩:=hI.1.mkd.ats _ (List.getElem_mem hj')
   obtain ⟨b,p',f',k',he,-,hh,hs,-,-,hz,hpp⟩:=rch_obj hI.1.sound hr
   have e7':v.rdH (L[jo].1:Nat)=⟨p,f,k⟩:=e7
   rw [hh] at e7'
   have hpe:(p':Int)=p:=by injection e7'
   have hp2':(m:Int)<=(p:Int):=hp2
   have:=hpp (m-1) (by omega)
   rw [show ((L[jo].1:Nat):Int)+1+((m-1:Nat):Int)=(srcO L i:Nat) by omega] at this
   exact this.2.1
 ·have:(slNew v c L).is i=true:=hd
  rw [slNew_is] at this
  cases this
theorem slNew_pages (hok:VmOk v) (hcf:CfOk v.pl.pg v.n c) (hI:PkIn v rs c.fr c.tp L) (hfit:sizes L<=c.lm-c.to) (hfull:FullOb v L) {j:Nat} (hU:OpUm (slNew v c L) v v' (c.fr/v.pl.pg) j) (hj:c.tp<=(c.fr/v.pl.pg+j)*v.pl.pg)
  (hm:∀ p,p<v.pt.length->v.pt.getD p 0≠0->c.fr/v.pl.pg<=p/\p*v.pl.pg<c.tp):SlPg (slNew v c L) v':=by
 have hst:=slNew_st hok hcf hI hfit
 have hS:=slNew_ok hok hcf hI hfit hfull hU
 have hlen:v'.pt.length=v.pt.length:=by
  have a1:=hok.np
  have a2:=hU.ok.np
  rw [hU.n,hU.pg,a1] at a2
  exact (Nat.mul_right_cancel (by have:=hok.page;omega) a2).symm
 intro p hp
 have hp':p<v.pt.length:=by omega
 rw [hU.map p hp']
 constructor
 ·rintro ⟨h1,h2⟩
  obtain ⟨g1,g2⟩:=hm p hp' h1
  left
  have hpl:p<c.fr/v.pl.pg+j:=by
   refine Nat.lt_of_not_le fun h=>?_
   have:=Nat.mul_le_mul_right v.pl.pg h
   omega
  have hon:(slNew v c L).on (fun _=>true) p≠0:=fun h=>h2 ⟨⟨g1,hpl⟩,h⟩
  refine Classical.byContradiction fun hno=>hon (Sl.on_iff.2 fun i hi _ e=>hno ⟨i,hi,e,slNew_is v c L i⟩)
 ·rintro (⟨i,hi,rfl,-⟩ | ⟨i,-,-,h⟩)
  ·have hi':i<sizes L:=hi
   have hld:=(hS.mid.src i hi (by show (!(slNew v c L).is i)=true;rw [slNew_is];rfl)).1
   have hv:=hU.val (srcO L i) (hst.srcs hi).2.2 (fun h=>slNew_on hi' h.2)
   have hld':v.ldE (srcO L i:Nat)=0:=hv.1.symm.trans hld
   obtain ⟨a,e,h1,h2⟩:=VmOk.hit hld'
   obtain rfl:srcO L i=a:=by omega
   exact ⟨h2,fun h=>slNew_on hi' h.2⟩
  ·rw [slNew_is] at h;cases h
end
section
variable {w:World} {R:Nat->Prop} {y q r g:Nat} {z:SlAd} {s:Sl} {U:Nat->Bool} {ml:List Bool} {lf ft ah:Nat} {rs:List Int}
theorem sl_turns (hC:∀ W,Touch (fun b=>b=g) w W->CycAt W R y q z s U ml lf ft ah) (hst:SlSt s) (hR:RtAt w r g rs):
  Calls Tryz.prog 108 #[.pointer (some ⟨r,0,none⟩),.func (.func 254) #[.pointer (some ⟨y,0,none⟩)] #[]] w fun e w'=>e=.returned (.tuple #[])/\Touch (fun b=>b=g) w w'/\RtAt w' r g (rs.map (toV s.L s.cf.to)):=by
 have h0:toV s.L s.cf.to 0=0:=by
  have h:¬ findO s.L 0<s.L.length:=fun h=>by
   have h1:=findO_yes h
   have h2:=(hst.inn _ (List.getElem_mem h)).1
   have:=hst.cf.fr
   have:=hst.pg
   omega
  exact (toV_no h).1
 refine (rt_turn (F:=254) (pre:=#[.pointer (some ⟨y,0,none⟩)]) (caps:=#[]) (fun i W out=>Touch (fun b=>b=g) w W/\out=(rs.take i).map (toV s.L s.cf.to)) (fun _ _=>by kernel_rfl) hR ⟨Touch.refl _ _,rfl⟩ ?_ ?_).mono ?_
 ·rintro i hi W out ho ⟨t,e⟩ hz
  refine ⟨t,?_⟩
  rw [take_snoc hi,List.map_append,<-e,hz]
  show out++[0]=out++[toV s.L s.cf.to 0]
  rw [h0]
 ·rintro i hi W out ho ⟨t,e⟩ hrt hne W0 hg0
  refine (sl_to (hC W0 (t.trans (hg0.touch _))) rs[i]).mono ?_
  rintro e' W' ⟨rfl,hg'⟩
  have hb:=to_nonneg s.L s.cf.to rs[i]
  refine ⟨_,rfl,(hrt.gr hg0).gr hg',fun W'' t''=>⟨((t.trans (hg0.touch _)).trans (hg'.touch _)).trans t'',?_⟩⟩
  rw [take_snoc hi,List.map_append,<-e,Int.max_eq_left hb]
  rfl
 ·rintro e w' ⟨rfl,out,-,⟨t,e⟩,hrt⟩
  rw [List.take_length] at e
  subst e
  exact ⟨rfl,t,hrt⟩
end
end Go.Proofs.YthgdadohijgleaaGreatDoor
end
section
namespace Go.Proofs.YthgdadohijgleaaGreatDoor
open Go.RowKit Word
def SlA (s:Sl) (v:Vm):Prop:=SlPg s v/\s.mvd-s.ft<=s.cf.ah/\(s.cf.tp-s.cf.fr+s.pg-1)/s.pg+(s.cf.ah+1)*max 1 (s.cf.bk/s.pg)+1<=v.pl.rm
theorem slA_j:SlJ SlA:=by
 refine ⟨fun s v k hO hA hk hm _=>sl_frames hO hA.1 hk hm hA.2.1 hA.2.2,fun s v k v' hO hA hk hm hc hM=>⟨SlMv.pages hO hk hA.1 hM,?_,by rw [hM.rm];exact hA.2.2⟩⟩
 have h1:({ s with mv:=s.mv.set k true }:Sl).mvd=s.mvd+1:=by
  unfold Sl.mvd
  rw [List.length_set]
  exact cnt_set_true hk hm
 have hah:=hA.2.1
 show ({ s with mv:=s.mv.set k true }:Sl).mvd-({ s with mv:=s.mv.set k true }:Sl).ft<=s.cf.ah
 rw [h1]
 rcases hc with rfl | hc
 ·have h2:=ftL_step (l:=s.mv) hk
  unfold stepL at h2
  rw [if_pos (show ftL s.mv<s.mv.length from hk)] at h2
  have h3:s.ft<({ s with mv:=s.mv.set s.ft true }:Sl).ft:=h2
  omega
 ·have h2:s.ft<=({ s with mv:=s.mv.set k true }:Sl).ft:=by
   refine Nat.le_of_not_lt fun h=>?_
   have h3:({ s with mv:=s.mv.set k true }:Sl).ft<(s.mv.set k true).length:=by
    rw [List.length_set]
    have:=s.ft_le
    omega
   have h4:=({ s with mv:=s.mv.set k true }:Sl).ft_off h3
   have h5:=s.ft_on h
   have h6:at_ (s.mv.set k true) ({ s with mv:=s.mv.set k true }:Sl).ft=true:=by
    rw [at_set2 hk]
    split
    ·rfl
    ·exact h5
   rw [h6] at h4
   cases h4
  omega
theorem SlA.store {s:Sl} {v:Vm} (h:SlA s v) (a:Int) (x:Nat) (c:Nat->Nat):SlA { s with c:=c } (v.st a x):=by
 have hs:=SamePg.st v a x
 refine ⟨fun p hp=>?_,h.2.1,by rw [hs.rm];exact h.2.2⟩
 rw [hs.pt] at hp ⊢
 exact h.1 p hp
theorem slNew_A {v v':Vm} {c:Cf} {L:List Ob} (hP:SlPg (slNew v c L) v') (hrm:(c.tp-c.fr+v.pl.pg-1)/v.pl.pg+(c.ah+1)*max 1 (c.bk/v.pl.pg)+1<=v'.pl.rm):SlA (slNew v c L) v':=
 ⟨hP,by rw [slNew_mvd,Nat.zero_sub];exact Nat.zero_le _,hrm⟩
end Go.Proofs.YthgdadohijgleaaGreatDoor
end
section
namespace Go.Proofs.YthgdadohijgleaaGreatDoor
open Go.RowKit Word
section
variable {w:World} {A0 A:Option Addr} {cp cr M:Nat} {v:Vm} {rs O:List Int} {L:List Ob}
end
def us (l:List Nat):List Value:=l.map fun x=>.int .u64 (x:Nat)
section
variable {w:World} {A0 A:Option Addr} {cp cr M:Nat} {v:Vm} {rs O:List Int} {L:List Ob}
end
end Go.Proofs.YthgdadohijgleaaGreatDoor
end
section
namespace Go.Proofs.YthgdadohijgleaaGreatDoor
open Go.RowKit Word
def ReachEndN (w:World) (v:Vm) (rs:List Int) (n:Nat) (e:Ending) (w':World):Prop:=
 ∃ A c L ok,e=.returned (.tuple #[.slice A (List.length L) c,.bool ok])/\Gr w w'/\(ok=true->ObjsAt w' A L/\Marks v rs n L)/\(ok=false->¬ Sound v rs n)/\∀ a,A=some a->w.heap.size<=a.block
section
variable {w:World} {A0 A:Option Addr} {cp cr n M:Nat} {v:Vm} {rs:List Int}
set_option maxRecDepth 100000 in
set_option maxHeartbeats 6400000 in
theorem ref20n_reachedN (hf:FullN M v) (hW:Wrds w A0 cp M v) (hA:IntsAt w A rs) (hlen:rs.length<=64) (hn1:n<=1100):Calls Tryz.prog 257 #[.slice A0 M cp,.slice A rs.length cr,.int .i64 n] w (ReachEndN w v rs n):=by
 have HW:=hid hW
 have HA:=hid hA
 have HF:=hid hf
 obtain ⟨ii,hii,hi0,hi1,hi2⟩:=info_parts infoIntV
 obtain ⟨R,hR⟩:∃ R,R=rs.length:=⟨_,rfl⟩
 have HRL:=hid hR
 rw [<-hR] at hlen ⊢
 clear hW hA hf hR
 go_enter Tryz.func257,Tryz.ntmps257
 go_wp2_with (fail)
 go_loopw [8,9] (fun s8 s9 wr=>∃ (j N:Nat) (T:List Int) (vL:Value),j<=R/\N<=j/\Hid (Todo w wr vL N T)/\Hid (RowT v rs T/\∀ r∈rs.take j,r≠0->r∈T)/\Hid (Touch (fun i=>w.heap.size<=i) w wr)/\s8=vL/\s9=.int .i64 j) (fun _ s9 _=>R-(intOf s9).toNat)
 case atStart=>exact ⟨0,0,[],_,Nat.zero_le _,Nat.le_refl _,⟨⟨own_nil _ _ _ _,rfl⟩⟩,⟨RowT.nil _ _,fun r h=>(by simp at h)⟩,⟨Touch.refl _ _⟩,rfl,rfl⟩
 case round=>
  obtain ⟨j,N,T,vL,hj,hNj,HO,HP,HT,rfl,rfl⟩:=hrel
  obtain ⟨TA,tc,rfl,hc1,hc2⟩:=own_shape HO.out.own
  unfold maxLen at hc2
  by_cases hlast:j<R
  ·have hjl:j<rs.length:=by have:=HRL.out;omega
   obtain ⟨b,o,rfl,hb,e0⟩:=HA.out j hjl
   have e0:=(HT.out.cell hb (by omega) _).trans e0
   have HTK:Hid (rs.take (j+1)=rs.take j++[rs[j]]/\rs[j]∈rs):=⟨List.take_succ_eq_append_getElem hjl,List.getElem_mem hjl⟩
   obtain ⟨y,hy⟩:∃ y,y=rs[j]:=⟨_,rfl⟩
   rw [<-hy] at e0 HTK
   have HJ:=hid hlast
   have hjI:(j:Int)<(R:Int):=by omega
   have hNb:N<=64:=by omega
   have HNJ:=hid hNj
   clear hb hy hlast hj hNj
   by_cases hy0:y=0
   ·subst hy0
    go_wp2
    go_round
    case rel=>
     refine ⟨j+1,N,T,_,HJ.out,by have:=HNJ.out;omega,HO,⟨HP.out.1,fun r h h0=>?_⟩,HT,rfl,by go_num⟩
     rw [HTK.out.1] at h
     rcases List.mem_append.1 h with h | h
     ·exact HP.out.2 r h h0
     ·exact absurd (List.mem_singleton.1 h) h0
    case measure=>have:=HJ.out;simp [intOf];omega
   ·have d0:(y !=0)=true:=by simpa using hy0
    have HY:=hid hy0
    have HI:=hid (fun W (g:Gr wr W)=>ref20_in (cp:=tc) (HO.out.gr g).at HO.out.len (by unfold maxLen;omega) y)
    by_cases hm:y∈T
    ·rw [decide_eq_true hm] at HI
     have HM:=hid hm
     clear hm
     go_wp2_with (go_at_call 322;refine (HI.out _ (Gr.refl _)).mono ?_;rintro e w1 ⟨rfl,rfl⟩)
     go_round
     case rel=>
      refine ⟨j+1,N,T,_,HJ.out,by have:=HNJ.out;omega,HO,⟨HP.out.1,fun r h h0=>?_⟩,HT,rfl,by go_num⟩
      rw [HTK.out.1] at h
      rcases List.mem_append.1 h with h | h
      ·exact HP.out.2 r h h0
      ·rw [List.mem_singleton.1 h];exact HM.out
     case measure=>have:=HJ.out;simp [intOf];omega
    ·rw [decide_eq_false hm] at HI
     have HM:=hid hm
     clear hm
     go_wp2_with (first
      | (go_at_call 322;refine (HI.out _ (Gr.refl _)).mono ?_;rintro e w1 ⟨rfl,rfl⟩)
      | (at_builtin;refine wpList_append_lies _ rfl _ _ 40 rfl w.heap.size 3 ii _ 1 8 Tryz.underlying40 hii hi0 hi1 hi2 rfl (by decide) (.slice TA N tc) N (zs T) rfl (HO.out.own.alloc _) ⟨wr.heap.size,0,none⟩ 1 1 [.int .i64 y] rfl rfl (World.news_of_block (cs:=#[.int .i64 y]) (t:=3) (fr:=(0,0)) (heap_alloc_new wr (.cells #[.int .i64 y] 3))) (by simp [Value.oneCell']) (by omega) (by unfold maxLen;omega) (by omega) (by have:=HT.out.size;rw [World.size_alloc];omega) (wr.heap.size+1) (by simp) ?_;intro g3 c3 w3 hown3 hgrow3 hat3 hlt3;have t3:Touch (fun k=>(Value.slice TA N tc).ownBlock=some k) wr w3:=(((Gr.refl _).alloc _).touch _).trans (grown_touch hgrow3 _ (fun k e _=>e));have HT3:=hid t3;have HO3:=hid hown3;clear hown3 hgrow3 hat3 hlt3 t3))
     go_round
     case rel=>
      refine ⟨j+1,N+1,T++[y],.slice (some ⟨g3,0,none⟩) (N+1) c3,HJ.out,by have:=HNJ.out;omega,⟨⟨?_,by rw [List.length_append,HO.out.len];rfl⟩⟩,⟨HP.out.1.push HY.out (Rch.root HTK.out.2 HY.out) HM.out,fun r h h0=>?_⟩,⟨HT.out.trans (HT3.out.mono (fun i _ h=>(own_lt HO.out.own h).1))⟩,rfl,by go_num⟩
      ·unfold zs;rw [List.map_append];exact HO3.out
      ·rw [HTK.out.1] at h
       rcases List.mem_append.1 h with h | h
       ·exact List.mem_append.2 (.inl (HP.out.2 r h h0))
       ·exact List.mem_append.2 (.inr h)
     case measure=>have:=HJ.out;simp [intOf];omega
  ·obtain rfl:R=j:=by omega
   have HS:=hid (RefI.start (n:=n) HP.out.1 (by have:=HP.out.2;rwa [HRL.out,List.take_length] at this))
   clear hlast hj HP hc1 hc2
   go_wp2_with (fail)
   clear HRL
   go_loopw [8,10,11] (fun s8 s10 s11 wr=>∃ (i N:Nat) (T:List Int) (vL:Value) (OA:Option Addr) (oc:Nat) (L:List Ob),i<=n/\N<=64+255*i/\Hid (Todo w wr vL N T)/\Hid (RefI v rs n i T L)/\Hid (ObjsAt wr OA L)/\Hid (∀ a,OA=some a->vL.ownBlock≠some a.block/\w.heap.size<=a.block)/\Hid (Touch (fun i=>w.heap.size<=i) w wr)/\s8=vL/\s10=.slice OA L.length oc/\s11=.int .i64 i) (fun _ _ s11 _=>n+1-(intOf s11).toNat)
   case atStart=>exact ⟨0,N,T,_,none,0,[],Nat.zero_le _,by omega,HO,HS,⟨fun i h=>absurd h (Nat.not_lt_zero _)⟩,⟨fun a h=>by cases h⟩,HT,rfl,rfl,rfl⟩
   case round=>
    clear HS HO HT
    obtain ⟨i,N,T,vL,OA,oc,L,hin,hNi,HO,HR,HB,HD,HT,rfl,rfl,rfl⟩:=hrel
    have hNT:=HO.out.len
    obtain ⟨TA,tc,rfl,hc1,hc2⟩:=own_shape HO.out.own
    unfold maxLen at hc2
    have HWr:Hid (Wrds wr A0 cp M v):=⟨own_touch HW.out HT.out (fun g hg h=>by have:=(own_lt HW.out hg).2;omega)⟩
    by_cases hi:i<N
    ·have hiT:i<T.length:=by omega
     obtain ⟨b,tc',ea,hbw,-,-,hbl⟩:=own_form HO.out.own (by omega)
     simp only [Value.slice.injEq] at ea
     obtain ⟨rfl,-,rfl⟩:=ea
     have k0:=own_cell HO.out.own (zs_at hiT)
     have HIT:=hid hiT
     obtain ⟨a,ha⟩:∃ a,a=T[i]:=⟨_,rfl⟩
     have HA1:Hid (Rch v rs a):=⟨by rw [ha];exact (HR.out.row.rc _ (List.getElem_mem hiT)).2⟩
     rw [<-ha] at k0
     have HAE:Hid (∃ h:i<T.length,T[i]=a):=⟨⟨hiT,ha.symm⟩⟩
     have HII:=hid hi
     have hiI:(i:Int)<(N:Int):=by omega
     have HNT:=hid hNT
     have HBL:=hid hbl
     have HRD:=hid (ref15n_read HF.out HWr.out a)
     clear hi hNT hiT ha hbw hbl
     by_cases hE:v.rdE a=0
     ·obtain ⟨hap,hl,p,f,k,hh,hs⟩:=rdE_zero hE
      have hr:=ldE_in hl
      rw [hh,hE] at HRD
      have HE:=hid (And.intro hE hh)
      have hn4:=HF.out.n
      have ha4:a<M:=by omega
      have HSZ:=hid (fun W=>ref14_size hs W)
      have hN:hdrN ⟨p,f,k⟩=1+(p:Int)+f+k:=if_pos (hdrE_of hs)
      have HOZ:Hid (v.osz a=1+(p:Int)+f+k):=⟨by unfold Vm.osz;rw [hh,hN]⟩
      rw [hN] at HSZ
      have hRec:=hid (fun W=>Rec.new W 48 [.int .i64 p,.int .i64 f,.int .i64 k])
      clear hE hl hh hN hn4 hr
      unfold hdrV at HRD
      go_upto_region 14 with (go_at_call 160;refine HRD.out.mono ?_;rintro e w1 ⟨rfl,hg1⟩;have HG1:=hid hg1;clear hg1)
      obtain ⟨w2,hw2⟩:∃ w2,w2=w1.alloc (.cells #[.int .i64 p,.int .i64 f,.int .i64 k] 48):=⟨_,rfl⟩
      have R2:=hRec.out w1
      obtain ⟨hq,hhq⟩:∃ hq,hq=w1.heap.size:=⟨_,rfl⟩
      rw [<-hhq] at R2 ⊢
      have hg2:Gr wr w2:=by rw [hw2];exact HG1.out.alloc _
      have HHQ:Hid (wr.heap.size<=hq):=⟨by rw [hhq];exact HG1.out.size⟩
      simp only [List.toArray] at R2
      rw [<-hw2] at R2 ⊢
      have HG2:=hid hg2
      have HZ2:=hid hg2.size
      have HR2:=hid R2
      have k2:=own_gr HO.out.own hg2
      have k2:=own_cell k2 (zs_at HIT.out)
      rw [HAE.out.2] at k2
      have HK2:=hid k2
      clear hw2 hhq HG1 R2 hg2 k2 hRec
      obtain ⟨Sx,hSx⟩:∃ Sx:World->Prop,Sx=fun W'=>Gr w2 W':=⟨_,rfl⟩
      have z0:∀ p':Held Sx,p'.w.cell? ⟨b,i,none⟩=some (.int .i64 a):=fun p'=>((Held.get hSx p').cell (Nat.lt_of_lt_of_le HBL.out HG2.out.size) i).trans HK2.out
      have z1:∀ p':Held Sx,p'.w.cell? ⟨hq,0,none⟩=some (.int .i64 p):=fun p'=>(HR2.out.gr (Held.get hSx p')).cell (j:=0) rfl
      have z2:∀ p':Held Sx,p'.w.cell? ⟨hq,1,none⟩=some (.int .i64 f):=fun p'=>(HR2.out.gr (Held.get hSx p')).cell (j:=1) rfl
      have z3:∀ p':Held Sx,p'.w.cell? ⟨hq,2,none⟩=some (.int .i64 k):=fun p'=>(HR2.out.gr (Held.get hSx p')).cell (j:=2) rfl
      have hS0:Sx w2.drew:=by rw [hSx];exact (Gr.refl w2).drew
      have HSX:=hid hSx
      have inst:Inhabited (Held Sx):=⟨⟨_,hS0⟩⟩
      clear hSx
      have HADD:=hid (fun W (g:Gr wr W)=>ref13_add (c:=oc) (HB.out.gr g) HR.out.mkd.good (by omega) a (1+(p:Int)+f+k))
      unfold AddBack at HADD
      refine wp_region_mixS Sx 14 [([0,1,2,3,4,5,6],7),([],8)] [9,10,11,12,13] (by kernel_rfl) (by kernel_rfl) hS0 ?_
      refine segs_step ?_
      simp only [opsAt,List.getElem?_cons_zero,List.getElem?_cons_succ]
      repeat (go_big_quiet_step (fail))
      refine wpQuiet_nil ?_
      go_wp2_with (go_at_call 28;refine (HSZ.out _).mono ?_;rintro e w3 ⟨rfl,hg3⟩;have HG3:=hid ((Gr.refl w2).drew.trans hg3);clear hg3)
      refine ⟨.inr (Held.of (by rw [HSX.out];exact HG3.out)),?_⟩
      refine segs_step ?_
      simp only [opsAt,List.getElem?_cons_zero,List.getElem?_cons_succ]
      refine wpQuiet_nil ?_
      go_wp2_with (go_at_call 323;refine (HADD.out _ (HG2.out.trans HG3.out)).mono ?_;rintro e w4 ⟨vb,rfl,hb4⟩;have HB4:=hid hb4;clear hb4)
      refine ⟨.inr (Held.of (by rw [HSX.out];exact HG3.out.trans HB4.out.1)),?_⟩
      refine segs_end ?_
      simp only [opsAt,List.getElem?_cons_zero,List.getElem?_cons_succ]
      repeat (go_big_quiet_step (fail))
      refine wpQuiet_nil ?_
      refine NoPanic.normal ?_
      have HG4:=hid (HG2.out.trans (HG3.out.trans HB4.out.1))
      have HR4:=hid (HR2.out.gr (HG3.out.trans HB4.out.1))
      obtain ⟨y,hy⟩:∃ y,y=addE L n a (1+(p:Int)+f+k):=⟨_,rfl⟩
      rw [<-hy]
      clear z0 z1 z2 z3 hS0 inst HADD HSX HK2 HG2
      clear Sx
      by_cases hE0:y=0
      ·subst hE0
       have HAD:=hid hy
       obtain ⟨hg4,OB,ob,rfl,hob,hbn⟩:=HB4.out
       have HLN:Hid (addL L n a (1+(p:Int)+f+k)≠[]):=⟨fun h=>by have:=add_len (L:=L) (n:=n) hy.symm;rw [h] at this;simp at this⟩
       obtain ⟨L2,hM⟩:∃ L2,L2=addL L n a (1+(p:Int)+f+k):=⟨_,rfl⟩
       rw [<-hM] at hob HLN ⊢
       have HMM:=hid hM
       obtain ⟨go,rfl,hgl,-,-⟩:=hob 0 (List.length_pos_iff.2 HLN.out)
       have HGO:Hid (b≠go):=⟨fun e=>by
        subst e
        rcases hbn _ rfl with h | h
        ·exact (HD.out _ h).1 rfl
        ·have:=HG3.out.size;have:=HBL.out;have:=HZ2.out
         have h:w3.heap.size<=b:=h
         omega⟩
       have HGF:Hid (w.heap.size<=go):=⟨by
        rcases hbn _ rfl with h | h
        ·exact (HD.out _ h).2
        ·have h1:=HG3.out.size
         have h2:=HT.out.size
         have h3:=HZ2.out
         have h:w3.heap.size<=go:=h
         omega⟩
       have HOB:=hid hob
       have HTD:=hid (HO.out.gr HG4.out)
       have HT4:=hid (HT.out.trans (HG4.out.touch (fun i=>w.heap.size<=i)))
       have HGL:=hid hgl
       clear hy hob hbn hM HB4 HG3 HR2 hg4 hgl hc1 hc2
       go_wp2_with (fail)
       have HRW:=hid (HR.out.row)
       have HCL:Hid (RowT v rs T/\(∃ W,T=T++W)/\ClT v T a 0):=⟨⟨HR.out.row,⟨[],(List.append_nil _).symm⟩,fun i h=>absurd h (Nat.not_lt_zero _)⟩⟩
       go_loopw [8,16] (fun s8 s16 wx=>∃ (q N':Nat) (U:List Int) (vL:Value),q<=p/\N'<=N+q/\Hid (Todo w wx vL N' U)/\Hid (RowT v rs U/\(∃ W,U=T++W)/\ClT v U a q)/\Hid (ObjsAt wx (some ⟨go,0,none⟩) L2)/\Hid (vL.ownBlock≠some go/\go<wx.heap.size)/\Hid (Rec wx hq 48 [.int .i64 p,.int .i64 f,.int .i64 k])/\Hid (Touch (fun i=>w.heap.size<=i) w wx)/\s8=vL/\s16=.int .i64 q) (fun _ s16 _=>p-(intOf s16).toNat)
       case atStart=>exact ⟨0,N,T,_,Nat.zero_le _,by omega,HTD,HCL,HOB,⟨⟨fun e=>HGO.out (Option.some.inj e),HGL.out⟩⟩,HR4,HT4,rfl,rfl⟩
       case round=>
        clear HTD HCL HOB HR4 HT4 HGL
        obtain ⟨q,N',U,vL,hqp,hNq,HO',HP',HB',HD',HR',HT',rfl,rfl⟩:=hrel
        obtain ⟨W,hW⟩:=HP'.out.2.1
        have HU:=hid hW
        have hiU:i<U.length:=by rw [hW,List.length_append];have:=HIT.out;omega
        have hUa:U[i]=a:=by
         have e:U[i]?=some a:=by rw [hW,List.getElem?_append_left HIT.out,List.getElem?_eq_getElem HIT.out,HAE.out.2]
         exact Option.some.inj ((List.getElem?_eq_getElem hiU).symm.trans e)
        have hNU:=HO'.out.len
        have hiN:i<N':=by omega
        have hiN2:(i:Int)<(N':Int):=by omega
        obtain ⟨b',tc',ea,-,-,-,hbl'⟩:=own_form HO'.out.own (by omega)
        obtain ⟨TA',tcc,eb,hd1,hd2⟩:=own_shape HO'.out.own
        unfold maxLen at hd2
        subst ea
        simp only [Value.slice.injEq] at eb
        obtain ⟨rfl,-,rfl⟩:=eb
        have k0:=own_cell HO'.out.own (zs_at hiU)
        rw [hUa] at k0
        have y0:=HR'.out.cell (j:=0) rfl
        have HWx:Hid (Wrds wr A0 cp M v):=⟨own_touch HW.out HT'.out (fun g hg h=>by have:=(own_lt HW.out hg).2;omega)⟩
        clear hW hUa hNU hbl'
        by_cases hq2:q<p
        ·have HQ2:=hid hq2
         have hqI:(q:Int)<(p:Int):=by omega
         have HNQ:=hid hNq
         have HGT:=hid (ref15n_get HF.out HWx.out a q)
         have HPT:Hid ((q:Int)<(v.rdH a).p):=⟨by rw [HE.out.2];exact Int.ofNat_lt.2 hq2⟩
         have hb6:N'<=300000:=by omega
         clear hq2 hqp hNq
         by_cases hpe:v.ptE a q=0
         ·have hx:=ptV_le hpe
          have HPE:=hid hpe
          rw [hpe] at HGT
          obtain ⟨x,hxv⟩:∃ x,x=v.ptV a q:=⟨_,rfl⟩
          rw [<-hxv] at HGT hx
          have HXV:=hid hxv
          clear hpe hxv
          by_cases hx0:x=0
          ·subst hx0
           have HXV:Hid (v.ptV a q=0):=⟨HXV.out.symm⟩
           go_wp2_with (go_at_call 324;refine HGT.out.mono ?_;rintro e w1 ⟨rfl,hg1⟩;have HG1:=hid hg1;clear hg1)
           go_round
           case rel=>exact ⟨q+1,N',U,_,HQ2.out,by have:=HNQ.out;omega,⟨HO'.out.gr HG1.out⟩,⟨⟨HP'.out.1,HP'.out.2.1,HP'.out.2.2.succ HPE.out (fun h=>absurd HXV.out h)⟩⟩,⟨HB'.out.gr HG1.out⟩,⟨⟨HD'.out.1,Nat.lt_of_lt_of_le HD'.out.2 HG1.out.size⟩⟩,⟨HR'.out.gr HG1.out⟩,⟨HT'.out.trans (HG1.out.touch _)⟩,rfl,by go_num⟩
           case measure=>have:=HQ2.out;simp [intOf];omega
          ·have d1:(x !=0)=true:=by simpa using hx0
           have d2:((x:Int) !=0)=true:=by simp;exact hx0
           have hw0:(x:Int)%18446744073709551616=(x:Int):=by omega
           have hx1:¬ (x:Int)=0:=by omega
           have HX0:=hid hx0
           have HI:=hid (fun W (g:Gr wr W)=>ref20_in (cp:=tc') (HO'.out.gr g).at HO'.out.len (by unfold maxLen;omega) (x:Int))
           by_cases hm:(x:Int)∈U
           ·rw [decide_eq_true hm] at HI
            have HM:=hid hm
            clear hm
            go_wp2_with (first
             | (go_at_call 324;refine HGT.out.mono ?_;rintro e w1 ⟨rfl,hg1⟩;have HG1:=hid hg1;clear hg1)
             | (go_at_call 322;refine (HI.out _ HG1.out).mono ?_;rintro e w2 ⟨rfl,rfl⟩))
            go_round
            case rel=>exact ⟨q+1,N',U,_,HQ2.out,by have:=HNQ.out;omega,⟨HO'.out.gr HG1.out⟩,⟨⟨HP'.out.1,HP'.out.2.1,HP'.out.2.2.succ HPE.out (fun _=>by rw [<-HXV.out];exact HM.out)⟩⟩,⟨HB'.out.gr HG1.out⟩,⟨⟨HD'.out.1,Nat.lt_of_lt_of_le HD'.out.2 HG1.out.size⟩⟩,⟨HR'.out.gr HG1.out⟩,⟨HT'.out.trans (HG1.out.touch _)⟩,rfl,by go_num⟩
            case measure=>have:=HQ2.out;simp [intOf];omega
           ·rw [decide_eq_false hm] at HI
            have HM:=hid hm
            clear hm
            go_wp2_with (first
             | (go_at_call 324;refine HGT.out.mono ?_;rintro e w1 ⟨rfl,hg1⟩;have HG1:=hid hg1;have HO1:=hid (HO'.out.gr hg1);clear hg1)
             | (go_at_call 322;refine (HI.out _ HG1.out).mono ?_;rintro e w2 ⟨rfl,rfl⟩)
             | (at_builtin;refine wpList_append_lies _ rfl _ _ 40 rfl w.heap.size 3 ii _ 1 8 Tryz.underlying40 hii hi0 hi1 hi2 rfl (by decide) (.slice (some ⟨b',0,none⟩) N' tc') N' (zs U) rfl (HO1.out.own.alloc _) ⟨w1.heap.size,0,none⟩ 1 1 [.int .i64 x] rfl rfl (World.news_of_block (cs:=#[.int .i64 x]) (t:=3) (fr:=(0,0)) (heap_alloc_new w1 (.cells #[.int .i64 x] 3))) (by simp [Value.oneCell']) (by omega) (by unfold maxLen;omega) (by omega) (by have:=HT'.out.size;have:=HG1.out.size;rw [World.size_alloc];omega) (w1.heap.size+1) (by simp) ?_;intro g3 c3 w3 hown3 hgrow3 hat3 hlt3;have t3:Touch (fun k=>(Value.slice (some ⟨b',0,none⟩) N' tc').ownBlock=some k) w1 w3:=(((Gr.refl _).alloc _).touch _).trans (grown_touch hgrow3 _ (fun k e _=>e));have HT3:=hid t3;have HO3:=hid hown3;have HA3:=hid hat3;clear hown3 hgrow3 hat3 hlt3 t3))
            go_round
            case rel=>
             have t1:=(HG1.out.touch (fun k=>(Value.slice (some ⟨b',0,none⟩) N' tc').ownBlock=some k)).trans HT3.out
             obtain ⟨V,hV⟩:=HP'.out.2.1
             have hpt:Points v a (x:Int):=⟨HE.out.1,q,HPT.out,HPE.out,by rw [<-HXV.out];exact HX0.out,by rw [<-HXV.out]⟩
             refine ⟨q+1,N' + 1,U++[(x:Int)],.slice (some ⟨g3,0,none⟩) (N' + 1) c3,HQ2.out,by have:=HNQ.out;omega,⟨⟨?_,by rw [List.length_append,HO'.out.len];rfl⟩⟩,⟨HP'.out.1.push (by have:=HX0.out;omega) (HA1.out.step hpt) HM.out,⟨V++[(x:Int)],by rw [hV,List.append_assoc]⟩,(HP'.out.2.2.mono (fun y hy=>List.mem_append.2 (.inl hy))).succ HPE.out (fun _=>by rw [<-HXV.out];exact List.mem_append.2 (.inr (List.mem_singleton.2 rfl)))⟩,⟨HB'.out.touch t1 (fun a e h=>by cases e;exact HD'.out.1 h)⟩,⟨fun e=>?_,Nat.lt_of_lt_of_le HD'.out.2 t1.size⟩,⟨HR'.out.touch t1 (fun e=>own_ne HO'.out.own HR'.out (by decide) e rfl rfl)⟩,⟨HT'.out.trans (t1.mono (fun i _ h=>(own_lt HO'.out.own h).1))⟩,rfl,by go_num⟩
             ·unfold zs;rw [List.map_append];exact HO3.out
             ·have e:g3=go:=Option.some.inj e
              subst e
              rcases HA3.out with h | h
              ·exact HD'.out.1 h
              ·have:=HD'.out.2;have:=HG1.out.size;omega
            case measure=>have:=HQ2.out;simp [intOf];omega
         ·obtain ⟨y,hy⟩:∃ y,y=v.ptE a q:=⟨_,rfl⟩
          have hyn:¬ y=0:=by rw [hy];exact hpe
          have d2:(y !=0)=true:=by simpa using hyn
          have d3:(y==0)=false:=by simpa using hyn
          rw [<-hy] at HGT
          have HPE:=hid hpe
          clear hpe hy
          go_wp2_with (go_at_call 324;refine HGT.out.mono ?_;rintro e w1 ⟨rfl,hg1⟩;have HG1:=hid hg1;clear hg1)
          go_ret2
          exact ⟨none,0,[],false,rfl,(touch_old HT'.out).trans HG1.out,fun h=>(by cases h),fun _ hS=>HPE.out (hS.pt a HA1.out q HPT.out),fun _ h=>by cases h⟩
        ·obtain rfl:p=q:=by omega
         have HNX:Hid (RefI v rs n (i+1) U L2):=⟨by
          have hA:=HAE.out.2
          have e1:=HOZ.out
          have:=HR.out.next (U:=U) HIT.out (by rw [hA];exact HE.out.1) (by rw [hA,e1];exact HAD.out.symm) HP'.out.1 HP'.out.2.1 (by
           rw [hA]
           intro kk i' _ hi'
           refine HP'.out.2.2 i' ?_ hi'
           rw [HE.out.2] at hi'
           exact Int.ofNat_lt.1 hi')
          rwa [hA,e1,<-HMM.out] at this⟩
         have HIN:Hid (i+1<=n):=⟨by rw [<-HNX.out.len];exact HNX.out.mkd.good.len⟩
         clear hq2 hqp
         go_wp2
         go_round
         case rel=>
          exact ⟨i+1,N',U,_,some ⟨go,0,none⟩,ob,L2,HIN.out,by omega,HO',HNX,HB',⟨fun a e=>by cases e;exact ⟨HD'.out.1,HGF.out⟩⟩,HT',rfl,rfl,by go_num⟩
         case measure=>have:=HIN.out;simp [intOf];omega
      ·have d2:(y !=0)=true:=by simpa using hE0
       have d3:(y==0)=false:=by simpa using hE0
       have HEY:Hid (addE L n (T[i]'HIT.out) (v.osz (T[i]'HIT.out))≠0):=⟨by rw [HAE.out.2,HOZ.out,<-hy];exact hE0⟩
       clear hy
       go_wp2
       go_ret2
       exact ⟨none,0,[],false,rfl,(touch_old HT.out).trans HG4.out,fun h=>(by cases h),fun _ hS=>HR.out.fail_add HIT.out HEY.out hS,fun _ h=>by cases h⟩
     ·obtain ⟨y,hy⟩:∃ y,y=v.rdE a:=⟨_,rfl⟩
      have hyn:¬ y=0:=by rw [hy];exact hE
      have d2:(y !=0)=true:=by simpa using hyn
      have d3:(y==0)=false:=by simpa using hyn
      rw [<-hy] at HRD
      have HE:=hid hE
      clear hE hy
      unfold hdrV at HRD
      go_wp2_with (go_at_call 160;refine HRD.out.mono ?_;rintro e w1 ⟨rfl,hg1⟩;have HG1:=hid hg1;clear hg1)
      go_ret2
      exact ⟨none,0,[],false,rfl,(touch_old HT.out).trans (HG1.out.alloc _),fun h=>(by cases h),fun _ hS=>HE.out (hS.rd a HA1.out),fun _ h=>by cases h⟩
    ·obtain rfl:i=N:=by have:=HR.out.le;omega
     have HM:=hid (HR.out.done (by rw [<-HO.out.len]))
     clear hi HR HWr
     go_wp2
     go_ret2
     exact ⟨_,_,L,true,rfl,touch_old HT.out,fun _=>⟨HB.out,HM.out⟩,(fun h=>by cases h),fun a h=>(HD.out a h).2⟩
end
end Go.Proofs.YthgdadohijgleaaGreatDoor
end
section
section
namespace Go.Proofs.YthgdadohijgleaaGreatDoor
open Go.RowKit Word
theorem sizes13_take_le (L:List Ob) (j:Nat):sizes (L.take j)<=sizes L:=by
 induction L generalizing j with
 | nil=>simp [sizes]
 | cons o r ih=>
  cases j with
  | zero=>simp [sizes]
  | succ j=>have:=ih j;simp only [List.take_succ_cons,sizes];omega
set_option maxRecDepth 100000 in
set_option maxHeartbeats 800000 in
theorem sizes13 {w:World} {A:Option Addr} {c:Nat} {L:List Ob} (hA:ObjsAt w A L) {n:Nat} (hg:Good n L) (hn:n<=1048576):
  Calls Tryz.prog 258 #[.slice A L.length c] w fun e w'=>e=.returned (.int .i64 (sizes L:Nat))/\w=w':=by
 have hlen:=hg.len
 have hs:=sizes_le hg
 have HA:=hid hA
 have HM:=hid (fun k=>sizes13_take_le L k)
 have HT:=hid (fun (k:Nat) (hk:k<L.length)=>sizes_take hk)
 clear hA hg
 go_enter Tryz.func258,Tryz.ntmps258
 go_wp2
 go_loop [3,4] (fun s i=>∃ k t:Nat,k<=L.length/\Hid (t=sizes (L.take k))/\t<=1048576/\s=.int .i64 t/\i=.int .i64 k) (fun _ i=>L.length-(intOf i).toNat)
 case atStart=>exact ⟨0,0,Nat.zero_le _,⟨rfl⟩,by omega,rfl,rfl⟩
 case round=>
  obtain ⟨k,t,hk,ht,htb,rfl,rfl⟩:=hrel
  by_cases hlt:k<L.length
  ·obtain ⟨g,rfl,hgl,q0,q1⟩:=HA.out k hlt
   have h1:=HT.out k hlt
   have h2:=HM.out (k+1)
   rw [<-ht.out] at h1
   rw [h1] at h2
   have E:=hid h1
   generalize L[k].2=z at *
   clear h1 q0 ht
   go_wp2
   go_round
   case rel=>exact ⟨k+1,t+z,by omega,⟨E.out.symm⟩,by omega,by go_num,by go_num⟩
   case measure=>simp [intOf];omega
  ·obtain rfl:k=L.length:=by omega
   have E:=hid (show t=sizes L from by rw [ht.out,List.take_length])
   clear ht
   go_wp2
   go_ret
   exact ⟨ret_int (by rw [E.out]),rfl⟩
end Go.Proofs.YthgdadohijgleaaGreatDoor
end
section
namespace Go.Proofs.YthgdadohijgleaaGreatDoor
open Go.RowKit Go.Shelf Word
attribute [local go_sem] Oper.semAt_some
end Go.Proofs.YthgdadohijgleaaGreatDoor
end
end
section
namespace Go.Proofs.YthgdadohijgleaaGreatDoor
open Go.RowKit Word
set_option maxRecDepth 100000 in
set_option maxHeartbeats 3200000 in
theorem ref24_may {pg n:Nat} {c:Cf} (hc:CfOk pg n c) (hpg:1<=pg) (hn:n<=524288) (w:World):
  Calls Tryz.prog 256 #[cfV c,.int .i64 n,.int .i64 pg] w fun e w'=>e=.returned (.bool true)/\Gr w w':=by
 obtain ⟨h1,h2,h3,h4,h5,h6,h7,h8,h9,h10,h11,h12,h13⟩:=hc
 obtain ⟨fr,tp,tt,lm,bk,st,ah⟩:=c
 dsimp only at h1 h2 h3 h4 h5 h6 h7 h8 h9 h10 h11 h12 h13
 unfold cfV
 dsimp only
 have HB:=hid h1
 have HAP:=hid h13
 have HF:=hid h10
 have g1:(fr:Int).tmod (pg:Int)=0:=by show ((fr%pg:Nat):Int)=0;rw [h10];rfl
 have g2:(tt:Int).tmod (pg:Int)=0:=by show ((tt%pg:Nat):Int)=0;rw [h11];rfl
 have g3:(lm:Int).tmod (pg:Int)=0:=by show ((lm%pg:Nat):Int)=0;rw [h12];rfl
 have g1':(fr:Int)%(pg:Int)=0:=by show ((fr%pg:Nat):Int)=0;rw [h10];rfl
 have g2':(tt:Int)%(pg:Int)=0:=by show ((tt%pg:Nat):Int)=0;rw [h11];rfl
 have g3':(lm:Int)%(pg:Int)=0:=by show ((lm%pg:Nat):Int)=0;rw [h12];rfl
 have hpz:(pg:Int)≠0:=by omega
 have d1:decide ((st:Int)<1)=false:=decide_eq_false (by omega)
 have d2:decide ((4096:Int)<(st:Int))=false:=decide_eq_false (by omega)
 have d3:decide ((ah:Int)<0)=false:=decide_eq_false (by omega)
 have d4:decide ((16:Int)<(ah:Int))=false:=decide_eq_false (by omega)
 have d5:decide ((fr:Int)<(pg:Int))=false:=decide_eq_false (by omega)
 have d6:decide ((tp:Int)<(fr:Int))=false:=decide_eq_false (by omega)
 have d7:decide ((n:Int)<(tp:Int))=false:=decide_eq_false (by omega)
 have d8:decide ((tt:Int)<(pg:Int))=false:=decide_eq_false (by omega)
 have d9:decide ((lm:Int)<(tt:Int))=false:=decide_eq_false (by omega)
 have da:decide ((n:Int)<(lm:Int))=false:=decide_eq_false (by omega)
 have e5:decide (fr<pg)=false:=decide_eq_false (by omega)
 have e6:decide (tp<fr)=false:=decide_eq_false (by omega)
 have e7:decide (n<tp)=false:=decide_eq_false (by omega)
 have e8:decide (tt<pg)=false:=decide_eq_false (by omega)
 have e9:decide (lm<tt)=false:=decide_eq_false (by omega)
 have ea:decide (n<lm)=false:=decide_eq_false (by omega)
 have rb:=Rec.new w 216 [.int .i64 fr,.int .i64 tp,.int .i64 tt,.int .i64 lm,.int .i64 bk,.int .i64 st,.int .i64 ah]
 have HG0:=hid ((Gr.refl w).alloc (.cells #[.int .i64 fr,.int .i64 tp,.int .i64 tt,.int .i64 lm,.int .i64 bk,.int .i64 st,.int .i64 ah] 216))
 have z0:=rb.cell (j:=0) rfl
 have z1:=rb.cell (j:=1) rfl
 have z2:=rb.cell (j:=2) rfl
 have z3:=rb.cell (j:=3) rfl
 have z4:=rb.cell (j:=4) rfl
 have z5:=rb.cell (j:=5) rfl
 have z6:=rb.cell (j:=6) rfl
 have zl:=rb.lt
 have HTPB:=hid h5
 clear h1 h10 h11 h12 h13 rb
 go_enter Tryz.func256,Tryz.ntmps256
 go_upto_region 1 with (fail)
 obtain ⟨W0,hW0⟩:∃ W0,W0=w.alloc (.cells #[.int .i64 fr,.int .i64 tp,.int .i64 tt,.int .i64 lm,.int .i64 bk,.int .i64 st,.int .i64 ah] 216):=⟨_,rfl⟩
 rw [show w.alloc (.cells ([.int .i64 fr,.int .i64 tp,.int .i64 tt,.int .i64 lm,.int .i64 bk,.int .i64 st,.int .i64 ah]:List Value).toArray 216)=W0 from hW0.symm] at z0 z1 z2 z3 z4 z5 z6 zl
 rw [<-hW0] at HG0 ⊢
 clear hW0
 go_wp2_with (go_at_call 76;refine (ref_may12 bk _).mono ?_;rintro e w1 ⟨rfl,rfl⟩;rw [HB.out])
 go_loopw [7] (fun s7 wr=>∃ a:Nat,fr<=a/\a<=tp/\wr=W0/\s7=.int .i64 a) (fun s7 _=>tp-(intOf s7).toNat)
 case atStart=>exact ⟨fr,Nat.le_refl _,HTPB.out,rfl,rfl⟩
 case round=>
  obtain ⟨a,ha1,ha2,rfl,rfl⟩:=hrel
  by_cases hlt:a<tp
  ·have hltI:(a:Int)<(tp:Int):=by omega
   have q1:(a:Int).tdiv (pg:Int)=((a/pg:Nat):Int):=rfl
   have q1':(a:Int)/(pg:Int)=((a/pg:Nat):Int):=rfl
   obtain ⟨dd,hd⟩:∃ d,d=a/pg:=⟨_,rfl⟩
   rw [<-hd] at q1 q1'
   have hda:dd<=a:=by rw [hd];exact Nat.div_le_self _ _
   obtain ⟨qq,hq⟩:∃ q,q=dd*pg:=⟨_,rfl⟩
   have q2:(dd:Int)*(pg:Int)=(qq:Int):=by rw [hq];push_cast;rfl
   have hqa:qq<=a:=by rw [hq,hd];exact Nat.div_mul_le_self _ _
   have hfq:fr<=qq:=by
    obtain ⟨m,hm⟩:=Nat.dvd_of_mod_eq_zero HF.out
    rw [hq,hd,hm,Nat.mul_comm pg m]
    refine Nat.mul_le_mul_right _ ?_
    rw [Nat.le_div_iff_mul_le (by omega),Nat.mul_comm,<-hm];exact ha1
   have HLT:=hid hlt
   have HA1:=hid ha1
   clear hd hq
   by_cases hx:tt<=qq
   ·have f1:decide ((tt:Int)<=(qq:Int))=true:=decide_eq_true (by omega)
    have f2:decide (tt<=qq)=true:=decide_eq_true hx
    have hlq:¬ qq<lm:=fun h=>HAP.out ⟨by
     have:tp<=upN tp pg:=by
      unfold upN
      have h1:=Nat.div_add_mod (tp+pg-1) pg
      have h2:=Nat.mod_lt (tp+pg-1) (show 0<pg by omega)
      rw [Nat.mul_comm] at h1
      omega
     omega,by omega,by omega,by
     have:tp<=upN tp pg:=by
      unfold upN
      have h1:=Nat.div_add_mod (tp+pg-1) pg
      have h2:=Nat.mod_lt (tp+pg-1) (show 0<pg by omega)
      rw [Nat.mul_comm] at h1
      omega
     omega⟩
    have f3:decide ((qq:Int)<(lm:Int))=false:=decide_eq_false (by omega)
    have f4:decide (qq<lm)=false:=decide_eq_false hlq
    clear hlt ha1 hfq
    go_wp2
    go_round
    case rel=>exact ⟨a+1,by have:=HA1.out;omega,HLT.out,trivial,by go_num⟩
    case measure=>have:=HLT.out;simp [intOf];omega
   ·have f1:decide ((tt:Int)<=(qq:Int))=false:=decide_eq_false (by omega)
    have f2:decide (tt<=qq)=false:=decide_eq_false hx
    clear hlt ha1 hfq
    go_wp2
    go_round
    case rel=>exact ⟨a+1,by have:=HA1.out;omega,HLT.out,trivial,by go_num⟩
    case measure=>have:=HLT.out;simp [intOf];omega
  ·have hltI:¬ (a:Int)<(tp:Int):=by omega
   go_wp2
   go_ret
   exact ⟨rfl,HG0.out⟩
section
variable {w:World} {A0 A:Option Addr} {cp cr M:Nat} {v:Vm} {rs:List Int} {L:List Ob}
end
end Go.Proofs.YthgdadohijgleaaGreatDoor
end
section
namespace Go.Proofs.YthgdadohijgleaaGreatDoor
open Go.RowKit Word
structure RcAd where
 OA:Option Addr
 oc:Nat
 A:Option Addr
 cp:Nat
 bm:Nat
 cm:Nat
def rcL (s:Sl) (a:RcAd):List Value:=
 [.int .i64 s.cf.fr,.int .i64 s.cf.tp,.int .i64 s.cf.to,.int .i64 s.cf.lm,.int .i64 s.cf.bk,.int .i64 s.cf.st,.int .i64 s.cf.ah,
  .slice a.OA s.L.length a.oc,.slice a.A s.n a.cp,.int .i64 s.pg,.slice (some ⟨a.bm,0,none⟩) s.mv.length a.cm]
theorem ObjsAt.touchL {S:Nat->Prop} {w w':World} {A:Option Addr} {L:List Ob} (h:ObjsAt w A L) (t:Touch S w w') (hS:∀ a,A=some a->L.length≠0->a.block<w.heap.size->¬ S a.block):ObjsAt w' A L:=fun i hi=>by
 obtain ⟨g,rfl,h1,h2,h3⟩:=h i hi
 have hn:=hS _ rfl (by omega) h1
 exact ⟨g,rfl,Nat.lt_of_lt_of_le h1 t.size,(t.cell h1 hn _).trans h2,(t.cell h1 hn _).trans h3⟩
structure RCy (w:World) (y:Nat) (a:RcAd) (s:Sl) (u:Vm):Prop where
 rc:Rec w y 221 (rcL s a)
 ob:ObjsAt w a.OA s.L
 wd:Wrds w a.A a.cp s.n u
 mv:w.ownsRow 0 4 1 (.slice (some ⟨a.bm,0,none⟩) s.mv.length a.cm) s.mv.length (bls s.mv)
 n1:y≠a.bm
 n2:∀ b,a.OA=some b->s.L.length≠0->b.block≠a.bm
 n3:∀ b,(Value.slice a.A s.n a.cp).ownBlock=some b->b≠a.bm
section
variable {w w':World} {y:Nat} {a:RcAd} {s:Sl} {u:Vm}
theorem RCy.gr (h:RCy w y a s u) (g:Gr w w'):RCy w' y a s u:=⟨h.rc.gr g,h.ob.gr g,h.wd.gr g,own_gr h.mv g,h.n1,h.n2,h.n3⟩
theorem RCy.touch {T:Nat->Prop} (h:RCy w y a s u) (t:Touch T w w') (h1:¬ T y) (h2:∀ b,a.OA=some b->s.L.length≠0->¬ T b.block) (h3:∀ b,(Value.slice a.A s.n a.cp).ownBlock=some b->¬ T b) (h4:¬ T a.bm):RCy w' y a s u:=
 ⟨h.rc.touch t h1,h.ob.touchL t (fun b hb hl _=>h2 b hb hl),own_touch h.wd t h3,own_touch h.mv t (fun g hg=>by cases hg;exact h4),h.n1,h.n2,h.n3⟩
theorem RCy.oa (h:RCy w y a s u) {o:Addr} (ho:a.OA=some o) (hl:s.L.length≠0):o.block<w.heap.size:=by
 obtain ⟨g,e,h1,-⟩:=h.ob 0 (by omega)
 rw [ho] at e
 cases e
 exact h1
theorem SlSt.to_zero (hst:SlSt s):toV s.L s.cf.to 0=0:=by
 have h:¬ findO s.L 0<s.L.length:=fun h=>by
  have h1:=findO_yes h
  have h2:=(hst.inn _ (List.getElem_mem h)).1
  have:=hst.cf.fr
  have:=hst.pg
  omega
 exact (toV_no h).1
set_option maxRecDepth 100000 in
set_option maxHeartbeats 800000 in
theorem rc_to (hR:RCy w y a s u) (hst:SlSt s) (x:Int):Gets Tryz.prog 154 #[.pointer (some ⟨y,0,none⟩),.int .i64 x] w (.int .i64 (toV s.L s.cf.to x)):=by
 have hz:=hst.to_zero
 have hnb:=hst.n2
 have hlm:=hst.cf.lm
 have hln:=hst.cf.ln
 have HTO:=hid (fun (W:World) (g:Gr w W)=>ref22_to (c:=a.oc) (hR.gr g).ob hst.good (by omega) s.cf.to (by omega) x)
 have HR:=hid hR
 by_cases hx:x=0
 ·subst hx
  rw [hz]
  clear hR hst HTO hz
  unfold Gets
  go_enter Tryz.func154,Tryz.ntmps154
  go_wp2
  go_ret
  exact ⟨rfl,Gr.refl _⟩
 ·have d0:(x==0)=false:=by simpa using hx
  obtain ⟨t,ht⟩:∃ t,t=toV s.L s.cf.to x:=⟨_,rfl⟩
  obtain ⟨te,hte⟩:∃ te,te=toE s.L x:=⟨_,rfl⟩
  rw [<-ht,<-hte] at HTO
  rw [<-ht]
  clear hR hst hz ht hte
  unfold Gets
  go_enter Tryz.func154,Tryz.ntmps154
  go_upto_region 3 with (fail)
  obtain ⟨Sx,hSx⟩:∃ Sx:World->Prop,Sx=fun W'=>RCy W' y a s u:=⟨_,rfl⟩
  have y7:∀ p:Held Sx,p.w.cell? ⟨y,7,none⟩=some (.slice a.OA s.L.length a.oc):=fun p=>by have h:=Held.get hSx p;exact h.rc.cell (j:=7) rfl
  have y2:∀ p:Held Sx,p.w.cell? ⟨y,2,none⟩=some (.int .i64 s.cf.to):=fun p=>by have h:=Held.get hSx p;exact h.rc.cell (j:=2) rfl
  have HS:Hid (∀ W',RCy W' y a s u->Sx W'):=⟨fun W' h=>by rw [hSx];exact h⟩
  have hS0:=HS.out _ (HR.out.gr (Gr.refl w).drew)
  have inst:Inhabited (Held Sx):=⟨⟨_,hS0⟩⟩
  clear hSx
  refine wp_region_mixS Sx 16 [([0,1,2,3,4,5,6,7,8,9],10)] [11,12,13,14,15] (by kernel_rfl) (by kernel_rfl) hS0 ?_
  refine segs_step ?_
  try simp only [opsAt,List.getElem?_cons_zero,List.getElem?_cons_succ]
  repeat (go_big_quiet_step (fail))
  refine wpQuiet_nil ?_
  go_wp2_with ((go_at_call 260;refine (HTO.out _ (Gr.refl w).drew).mono ?_;rintro e w1 ⟨rfl,hg1⟩;have HG1:=hid ((Gr.refl w).drew.trans hg1);clear hg1))
  refine ⟨.inr (Held.of (HS.out _ (HR.out.gr HG1.out))),?_⟩
  refine segs_end ?_
  try simp only [opsAt,List.getElem?_cons_zero,List.getElem?_cons_succ]
  repeat (go_big_quiet_step (fail))
  refine wpQuiet_nil ?_
  refine NoPanic.normal ?_
  clear y7 y2 hS0 inst
  clear HS Sx
  go_wp2
  go_ret
  exact ⟨rfl,HG1.out⟩
end
end Go.Proofs.YthgdadohijgleaaGreatDoor
end
