/- Part 8 of what SlideNobody leans on: my own lemmas, merged by shake.py. -/
import Derived.Test.YtbmidhlilafgeaaGreatDoorSlideNobodyG
section
namespace Go.Proofs.YtbmidhlilafgeaaGreatDoor
open Go.RowKit Go.Shelf Word
theorem pcs_nat {s:Sl} (hst:SlSt s) {k:Nat} (hk:k<s.mv.length):∃ (P:List Pc) (M:Nat->Nat),pcsOf s.L s.cf.bk s.cf.to k=P/\M 0=0/\M P.length=s.hi k-s.lo k/\∀ i (h:i<P.length),∃ f:Nat,1<=P[i].s/\P[i].f=f/\P[i].t=((s.cf.to+(s.lo k+M i):Nat):Int)/\M (i+1)=M i+P[i].s/\s.lo k+M i+P[i].s<=s.hi k/\∀ j,j<P[i].s->srcO s.L (s.lo k+M i+j)=f+j:=by
 have hlh:=hst.lohi hk
 have hin:rngIn s.L s.cf.bk (k:Int)=true:=by
  unfold rngIn
  rw [decide_eq_true (by omega),decide_eq_true (by rw [<-hst.len];omega)];rfl
 obtain ⟨e1,e2,-⟩:=rng_yes (base:=(s.cf.to:Int)) hin
 have ea:rngA s.L s.cf.bk s.cf.to k=((s.cf.to+s.lo k:Nat):Int):=by rw [e1];unfold Sl.lo;push_cast;rfl
 have ez:rngZ s.L s.cf.bk s.cf.to k=((s.cf.to+s.hi k:Nat):Int):=by
  rw [e2];unfold Sl.hi
  rw [show (k:Int)*(s.cf.bk:Int)=((k*s.cf.bk:Nat):Int) by push_cast;rfl]
  omega
 obtain ⟨P,hP⟩:∃ P,P=pcsOf s.L s.cf.bk s.cf.to k:=⟨_,rfl⟩
 have hP2:P=pcs (fromV s.L s.cf.to) ((s.cf.to+s.lo k:Nat):Int) (s.hi k-s.lo k):=by
  rw [hP];unfold pcsOf
  rw [ea,ez]
  congr 1
  omega
 have hr:Runs (fromV s.L s.cf.to) ((s.cf.to+s.lo k:Nat):Int) (s.hi k-s.lo k) P:=by rw [hP2];exact pcs_runs _ _ _
 have hends:=fun i hi=>hr.ends _ i hi rfl
 have h0:=toAt_zero hr (by omega)
 have hE:=toAt_end P (((s.cf.to+s.lo k:Nat):Int)+((s.hi k-s.lo k:Nat):Int))
 obtain ⟨T,hT⟩:∃ T:Nat->Int,T=toAt P (((s.cf.to+s.lo k:Nat):Int)+((s.hi k-s.lo k:Nat):Int)):=⟨_,rfl⟩
 rw [<-hT] at h0 hE
 refine ⟨P,fun i=>(T i-((s.cf.to+s.lo k:Nat):Int)).toNat,hP.symm,by dsimp only;rw [h0];omega,by dsimp only;rw [hE];omega,fun i hi=>?_⟩
 obtain ⟨g1,g2⟩:=hends i hi
 have h1:T i=P[i].t:=by rw [hT];exact toAt_in hi
 have h2:T (i+1)=P[i].t+P[i].s:=by rw [hT];exact toAt_next hr hi
 have hw:=hr.word _ (List.getElem_mem hi)
 have hp:=hr.pos _ (List.getElem_mem hi)
 obtain ⟨m,hm⟩:∃ m:Nat,P[i].t=((s.cf.to+(s.lo k+m):Nat):Int):=⟨(P[i].t-((s.cf.to+s.lo k:Nat):Int)).toNat,by omega⟩
 have hsr:∀ j,j<P[i].s->(srcO s.L (s.lo k+m+j):Int)=P[i].f+j:=fun j hj=>by
  rw [<-hw j hj,hm,show ((s.cf.to+(s.lo k+m):Nat):Int)+(j:Int)=((s.cf.to+(s.lo k+m+j):Nat):Int) by omega]
  exact (src_from (by omega)).1.symm
 have hf0:=hsr 0 (by omega)
 refine ⟨P[i].f.toNat,hp,by omega,?_,?_,?_,fun j hj=>?_⟩
 ·dsimp only;rw [h1];omega
 ·dsimp only;rw [h1,h2];omega
 ·dsimp only;rw [h1];omega
 ·have:=hsr j hj
  dsimp only
  rw [h1,show (P[i].t-((s.cf.to+s.lo k:Nat):Int)).toNat=m by omega]
  omega
theorem butN_add (U:Nat->Bool) (i n m:Nat):butN (butN U i n) (i+n) m=butN U i (n+m):=by
 induction m with
 | zero=>rw [butN_zero];rfl
 | succ m ih=>rw [butN_succ,ih,<-Nat.add_assoc,butN_succ,Nat.add_assoc i n m]
theorem PcsAt.touch {w w':World} {T:Nat->Prop} {A:Option Addr} {P:List Pc} (h:PcsAt w A P) (t:Touch T w w') (hT:∀ a,A=some a->¬ T a.block):PcsAt w' A P:=fun i hi=>by
 obtain ⟨g,rfl,h1,h2,h3,h4⟩:=h i hi
 have hg:=hT _ rfl
 exact ⟨g,rfl,Nat.lt_of_lt_of_le h1 t.size,(t.cell h1 hg _).trans h2,(t.cell h1 hg _).trans h3,(t.cell h1 hg _).trans h4⟩
theorem CycAt.cu {w:World} {R:Nat->Prop} {y q:Nat} {z:SlAd} {s:Sl} {U V:Nat->Bool} {ml:List Bool} {lf ft ah:Nat} (h:CycAt w R y q z s U ml lf ft ah) (hU:∀ j,j<sizes s.L->U j=V j):CycAt w R y q z s V ml lf ft ah:=by
 refine ⟨h.od,h.rc,h.pl,h.ex,h.sh,?_,h.mv⟩
 obtain ⟨n,f,h1,h2,h3⟩:=h.wd
 exact ⟨n,f,h1,by rw [<-cnt_congr hU];exact h2,fun q=>by rw [<-Sl.on_congr hU];exact h3 q⟩
def cellN (w:World) (b o:Nat):Nat:=match w.cell? ⟨b,o,none⟩ with | some v=>(intOf v).toNat | none=>0
def MvEnd (w:World) (R S:Nat->Prop) (y q:Nat) (z:SlAd) (s:Sl) (k:Nat) (v:Vm) (e:Ending) (w':World):Prop:=
 e=.returned (.int .i64 0)/\Touch (fun b=>R b\/S b) w w'/\Cyc w' R y q z { s with mv:=s.mv.set k true }/\∃ v',VmAt w' (plus S w) q v'/\SlMv s k v v'
structure MvC (w w2 wr:World) (R S S2:Nat->Prop) (y q:Nat) (z:SlAd) (s:Sl) (k m:Nat) (v1:Vm) (g:Nat) (P:List Pc):Prop where
 t:Touch (fun b=>R b\/S b) w wr
 t2:Touch S2 w2 wr
 cy:Cyc wr R y q z s
 vm:∃ vx,VmAt wr S2 q vx/\SlCp s s.is (fun i=>!s.is i) (s.lo k) (s.hi k) v1 vx m
 pc:PcsAt wr (some ⟨g,0,none⟩) P
structure MvD (w w4 wr:World) (R S S2:Nat->Prop) (y q:Nat) (z:SlAd) (s:Sl) (k m:Nat) (v2:Vm) (g:Nat) (P:List Pc):Prop where
 t:Touch (fun b=>R b\/S b) w wr
 sz:w4.heap.size<=wr.heap.size
 cy:CycAt wr R y q z s (butN (fun i=>!s.is i) (s.lo k) m) s.mv s.lf s.ft (s.mvd-s.ft)
 vm:∃ Sj vx,(∀ b,Sj b->S2 b\/w4.heap.size<=b)/\VmAt wr Sj q vx/\SlDr s (fun j=>s.is j||(decide (s.lo k<=j)&&decide (j<s.lo k+(s.hi k-s.lo k)))) (fun i=>!s.is i) (butN (fun i=>!s.is i) (s.lo k) m) v2 vx
 pc:PcsAt wr (some ⟨g,0,none⟩) P
structure MvF (w8 wr:World) (R:Nat->Prop) (y q:Nat) (z:SlAd) (s:Sl) (U:Nat->Bool) (ml:List Bool) (l1 sm fc ac:Nat):Prop where
 cy:CycAt wr R y q z s U ml l1 fc ac
 t:Touch (fun i=>i=y) w8 wr
 on:∀ i,i<fc->at_ ml i=true
 sum:ac+fc=sm
 le:fc<=ml.length
structure MvK (w w2:World) (R S S2:Nat->Prop) (s:Sl) (k:Nat) (v1:Vm) (P:List Pc) (M:Nat->Nat):Prop where
 st:SlSt s
 hk:k<s.mv.length
 hm:at_ s.mv k=false
 pc:∀ i (h:i<P.length),∃ f:Nat,1<=P[i].s/\P[i].f=f/\P[i].t=((s.cf.to+(s.lo k+M i):Nat):Int)/\M (i+1)=M i+P[i].s/\s.lo k+M i+P[i].s<=s.hi k/\∀ j,j<P[i].s->srcO s.L (s.lo k+M i+j)=f+j
 ld:∀ i,s.lo k<=i->i<s.hi k->v1.ldE ((s.cf.to+i:Nat):Int)=0
 tb:TabAt w
 tS:¬ S 0
 tR:¬ R 0
 s2:∀ b,S2 b->(S b/\b<w.heap.size\/w.heap.size<=b)/\b<w2.heap.size
 dis:∀ k,R k->¬ S k
 rl:∀ k,R k->k<w.heap.size
 ww:w.heap.size<=w2.heap.size
section
variable {w w2 w4 wr:World} {R S S2:Nat->Prop} {y q:Nat} {z:SlAd} {s:Sl} {v1 v2:Vm} {k g i:Nat} {P:List Pc} {M:Nat->Nat}
theorem MvK.un (h:MvK w w2 R S S2 s k v1 P M) {i:Nat} (h1:s.lo k<=i) (h2:i<s.hi k):s.is i=false:=by
 have hN:=(h.st.lohi h.hk).2.2
 have:i/s.cf.bk=k:=by simpa [Sl.inB] using (h.st.inB (k:=k) (i:=i) (by omega)).2 ⟨h1,h2⟩
 unfold Sl.is
 rw [this];exact h.hm
theorem MvK.r2 (h:MvK w w2 R S S2 s k v1 P M):∀ b,R b->¬ S2 b:=fun b hb h2=>by
 have:=h.rl b hb
 rcases (h.s2 b h2).1 with h' | h'
 ·exact h.dis b hb h'.1
 ·omega
theorem MvK.t2 (h:MvK w w2 R S S2 s k v1 P M):¬ S2 0:=fun h2=>by
 have:=h.tb.lt
 rcases (h.s2 _ h2).1 with h' | h'
 ·exact h.tS h'.1
 ·omega
theorem MvK.copy (h:MvK w w2 R S S2 s k v1 P M) (hg:w2.heap.size<=g) (hi:i<P.length) (hI:MvC w w2 wr R S S2 y q z s k (M i) v1 g P) {W:World} (gW:Gr wr W):
  ∃ f t:Nat,P[i].f=f/\P[i].t=t/\Calls Tryz.prog 162 #[.pointer (some ⟨y,0,none⟩),.agg #[.int .i64 f,.int .i64 t,.int .i64 (P[i].s:Nat)]] W fun e w'=>e=.returned (.tuple #[])/\MvC w w2 w' R S S2 y q z s k (M (i+1)) v1 g P:=by
 obtain ⟨f,h1,h2,h3,h4,h5,h6⟩:=h.pc i hi
 obtain ⟨vx,hvx,hpx⟩:=hI.vm
 have hN:=(h.st.lohi h.hk).2.2
 have htw:TabAt W:=(h.tb.touch' hI.t (fun h'=>h'.elim h.tR h.tS)).touch' (gW.touch (fun _=>False)) (fun h=>h)
 refine ⟨f,_,h2,h3,(sl_copy (hI.cy.gr gW) h.st htw h.t2 (hvx.gr gW) h.r2 hpx h5 hN (fun i a b=>by simp [h.un a b]) h.ld h6).mono ?_⟩
 rintro e w' ⟨rfl,ht,v'',hv,hp⟩
 have hws:∀ b,S2 b->R b\/S b\/w.heap.size<=b:=fun b hb=>by
  rcases (h.s2 b hb).1 with h' | h'
  ·exact .inr (.inl h'.1)
  ·exact .inr (.inr h')
 refine ⟨rfl,(hI.t.trans (gW.touch _)).trans' ht (fun b hb hs=>?_),(hI.t2.trans (gW.touch _)).trans ht,(hI.cy.gr gW).touch ht h.r2,⟨v'',hv.mono (fun b hb=>hb.1),by rw [h4];exact hp⟩,(hI.pc.gr gW).touch ht (fun a ha hs=>?_)⟩
 ·rcases (h.s2 b hs).1 with h' | h'
  ·exact .inr h'.1
  ·omega
 ·cases ha
  have:g<w2.heap.size:=(h.s2 _ hs).2
  omega
theorem MvK.drain (h:MvK w w2 R S S2 s k v1 P M) (hw:w2.heap.size<=w4.heap.size) (h0:w.heap.size<=w4.heap.size) (hg:w2.heap.size<=g/\g<w4.heap.size) (hi:i<P.length) (hI:MvD w w4 wr R S S2 y q z s k (M i) v2 g P) {W:World} (gW:Gr wr W):
  ∃ f t:Nat,P[i].f=f/\P[i].t=t/\Calls Tryz.prog 163 #[.pointer (some ⟨y,0,none⟩),.agg #[.int .i64 f,.int .i64 t,.int .i64 (P[i].s:Nat)]] W fun e w'=>e=.returned (.tuple #[])/\MvD w w4 w' R S S2 y q z s k (M (i+1)) v2 g P:=by
 obtain ⟨f,h1,h2,h3,h4,h5,h6⟩:=h.pc i hi
 obtain ⟨Sj,vx,hsj,hvx,hpx⟩:=hI.vm
 have hN:=(h.st.lohi h.hk).2.2
 have hz:=gW.size
 have hzr:=hI.sz
 have hRj:∀ b,R b->¬ Sj b:=fun b hb hs=>by
  have:=h.rl b hb
  rcases hsj b hs with h' | h'
  ·exact h.r2 b hb h'
  ·omega
 refine ⟨f,_,h2,h3,(sl_drain (hI.cy.gr gW) h.st (hvx.gr gW) hRj hpx h1 (by omega) (fun j hj=>?_) h6).mono ?_⟩
 ·rw [butN_in (by omega)]
  simp [h.un (i:=s.lo k+M i+j) (by omega) (by omega)]
 ·rintro e w' ⟨rfl,ht,hc,v'',hv,hp⟩
  rw [butN_add,<-h4] at hc hp
  refine ⟨rfl,(hI.t.trans (gW.touch _)).trans' ht (fun b hb hs=>?_),by have:=ht.size;omega,hc,⟨plus Sj W,v'',fun b hb=>?_,hv,hp⟩,(hI.pc.gr gW).touch ht (fun a ha hs=>?_)⟩
  ·rcases hs with hs | hs
   ·left;rw [hs];exact hI.cy.od.r3
   ·rcases hsj b hs with h' | h'
    ·rcases (h.s2 b h').1 with h'' | h''
     ·exact .inr h''.1
     ·omega
    ·omega
  ·rcases hb with hb | hb
   ·exact hsj b hb
   ·right;omega
  ·cases ha
   rcases hs with hs | hs
   ·have h1:=h.rl _ hI.cy.od.r3
    have hs:g=z.bw:=hs
    have:=h.ww
    omega
   ·rcases hsj _ hs with h' | h'
    ·have:g<w2.heap.size:=(h.s2 _ h').2
     omega
    ·have h':w4.heap.size<=g:=h'
     omega
end
section
variable {w:World} {R S:Nat->Prop} {y q:Nat} {z:SlAd} {s:Sl} {v:Vm} {k:Nat}
set_option maxRecDepth 100000 in
set_option maxHeartbeats 6400000 in
theorem sl_move (hC:Cyc w R y q z s) (hO:SlOk s v) (hT:TabAt w) (htS:¬ S 0) (htR:¬ R 0) (hV:VmAt w S q v) (hdis:∀ k,R k->¬ S k) (hk:k<s.mv.length) (hkm:at_ s.mv k=false)
  (hE:needE v ((s.cf.to+s.lo k:Nat):Int) ((s.cf.to+s.hi k:Nat):Int)=0):
  Calls Tryz.prog 99 #[.pointer (some ⟨y,0,none⟩),.int .i64 k] w (MvEnd w R S y q z s k v):=by
 have hst:=hO.st
 have hlh:=hst.lohi hk
 obtain ⟨P,M,eP,M0,M1,hM⟩:=pcs_nat hst hk
 have hP0:0<P.length:=by
  rcases Nat.eq_zero_or_pos P.length with h | h
  ·rw [h,M0] at M1;omega
  ·exact h
 have hn2:=hst.n2
 have hto:s.cf.to+s.hi k<=v.n:=by have:=hst.fit;have:=hst.cf.ln;rw [hO.mid.n];omega
 have hnv:v.n<=524288:=by rw [hO.mid.n];exact hn2
 have hin:rngIn s.L s.cf.bk (k:Int)=true:=by
  unfold rngIn
  rw [decide_eq_true (by omega),decide_eq_true (by rw [<-hst.len];omega)];rfl
 obtain ⟨r1,r2,r3⟩:=rng_yes (base:=(s.cf.to:Int)) hin
 have ea:rngA s.L s.cf.bk s.cf.to k=((s.cf.to+s.lo k:Nat):Int):=by rw [r1];unfold Sl.lo;push_cast;rfl
 have ez:rngZ s.L s.cf.bk s.cf.to k=((s.cf.to+s.hi k:Nat):Int):=by
  rw [r2];unfold Sl.hi
  rw [show (k:Int)*(s.cf.bk:Int)=((k*s.cf.bk:Nat):Int) by push_cast;rfl]
  omega
 have hPl:P.length<=1048576:=by
  have:=pcsOf_len hst.good (by omega) hst.bk.1 (base:=s.cf.to) (by have:=hst.cf.lm;have:=hst.cf.ln;omega) (k:Int)
  rw [eP] at this
  have:=hst.bk.2
  omega
 have hmi:s.mvd+s.lf=s.mv.length:=by
  unfold Sl.lf
  have:s.mvd<=s.mv.length:=cnt_le _ _
  omega
 have hml:s.mv.length<=1048576:=by rw [hst.len];have:=nbl_le (n:=sizes s.L) hst.bk.1;have:=hst.N_le;omega
 have hmv1:({ s with mv:=s.mv.set k true }:Sl).mvd=s.mvd+1:=by
  show cnt (at_ (s.mv.set k true)) (s.mv.set k true).length=_
  rw [List.length_set,cnt_set_true hk hkm];rfl
 have hHR:=hid (fun (W:World) (g:Gr w W)=>pln_range (hC.gr g).plan (k:Int))
 rw [ea,ez,r3] at hHR
 have HND:=hid (fun (W:World) (g:Gr w W)=>vm_need (hV.cut.gr g) (s.cf.to+s.lo k) (s.cf.to+s.hi k) hto (by omega))
 rw [hE] at HND
 have HC:=hid hC
 have HO:=hid hO
 have HT:=hid hT
 have HTN:=hid (And.intro htS htR)
 have HV:=hid hV
 have HDIS:=hid hdis
 have HK:=hid (And.intro hk (And.intro hkm hE))
 have HP:=hid (And.intro eP (And.intro M0 (And.intro M1 r3)))
 have HM:=hid hM
 have HMV:=hid (And.intro hmi hmv1)
 have HRL:=hid hC.od.lt
 obtain ⟨af,haf⟩:∃ af,af=s.cf.to+s.lo k:=⟨_,rfl⟩
 obtain ⟨az,haz⟩:∃ az,az=s.cf.to+s.hi k:=⟨_,rfl⟩
 have HAF:=hid (And.intro haf haz)
 rw [<-haf,<-haz] at HND hHR
 have x0:=hC.rc.cell (j:=0) rfl
 have x8:=hC.rc.cell (j:=8) rfl
 have xl:=hC.rc.lt
 clear hC hO hst hT htS htR hV hdis hk hkm hE eP M0 M1 hM hin r1 r2 r3 ea ez haf haz hto hnv hlh hmv1
 go_enter Tryz.func99,Tryz.ntmps99
 go_upto_region 5 with (first
  | (go_at_call 160;refine (hHR.out _ (Gr.refl w)).mono ?_;rintro e w1 ⟨rfl,hg1⟩;have HG1:=hid hg1;have y0:=(HC.out.gr hg1).rc.cell (j:=0) rfl;have yl:=(HC.out.gr hg1).rc.lt;clear hg1)
  | (go_at_call 59;refine (HND.out _ HG1.out).mono ?_;rintro e w2 ⟨rfl,ht2,v1,hgr,hv1⟩;have HT2:=hid ht2;have HGR:=hid hgr;have HV1:=hid hv1;clear ht2 hgr hv1))
 clear x0 x8 xl y0 yl
 obtain ⟨S2,hS2⟩:∃ S2,S2=cutS (plus (cutS S w) w1) w2:=⟨_,rfl⟩
 have hz1:=HG1.out.size
 have hz2:=HT2.out.size
 have HS2:Hid (∀ b,S2 b->(S b/\b<w.heap.size\/w.heap.size<=b)/\b<w2.heap.size):=⟨fun b hb=>by
  rw [hS2] at hb
  exact ⟨hb.1.imp id (fun h=>by omega),hb.2⟩⟩
 have HV2:Hid (VmAt w2 S2 q v1):=⟨by rw [hS2];exact HV1.out.cut⟩
 have HC2:Hid (Cyc w2 R y q z s):=⟨(HC.out.gr HG1.out).touch HT2.out (fun b hb h=>HDIS.out b hb h.1)⟩
 have HTW2:Hid (Touch (fun b=>R b\/S b) w w2):=⟨(HG1.out.touch _).trans (HT2.out.mono (fun b _ h=>.inr h.1))⟩
 have HTB2:Hid (TabAt w2):=⟨HT.out.touch' HTW2.out (fun h=>h.elim HTN.out.2 HTN.out.1)⟩
 have HMK:Hid (MvK w w2 R S S2 s k v1 P M):=⟨⟨HO.out.st,HK.out.1,HK.out.2.1,HM.out,fun i h1 h2=>by
  have e:=HGR.out
  rw [HAF.out.1,HAF.out.2] at e
  have h3:=HO.out.st.lohi HK.out.1
  have h4:=HO.out.st.dsts (i:=s.hi k-1) (by omega)
  have h5:=HO.out.mid.n
  exact need_map HO.out.mid.ok (by omega) HK.out.2.2 e (by omega) (by omega),HT.out,HTN.out.1,HTN.out.2,HS2.out,HDIS.out,HRL.out,by omega⟩⟩
 have HCP0:Hid (SlCp s s.is (fun i=>!s.is i) (s.lo k) (s.hi k) v1 v1 (M 0)):=⟨by rw [HP.out.2.1];exact SlCp.zero (HO.out.mid.grow HO.out.st HGR.out) _ _⟩
 have HPN:=hid (pln_piecesN HC2.out.plan HTB2.out (k:Int))
 rw [HP.out.1,HP.out.2.2.2] at HPN
 have HP0:=hid hP0
 have u8:=HC2.out.rc.cell (j:=8) rfl
 have ul:=HC2.out.rc.lt
 clear hS2 hP0
 go_upto_region 6 with (go_at_call 161;refine (HPN.out).mono ?_;rintro e w3 ⟨A,cp,rfl,hg3,hpc,hnew⟩;obtain ⟨g,rfl,hgl,-⟩:=hpc 0 HP0.out;have HG3:=hid hg3;have HPC:=hid hpc;have HNW:Hid (w2.heap.size<=g/\g<w3.heap.size):=⟨⟨hnew _ rfl,hgl⟩⟩;clear hg3 hpc hnew hgl)
 clear u8 ul
 have HMC:Hid (MvC w w2 w3 R S S2 y q z s k (M 0) v1 g P):=⟨⟨HTW2.out.trans (HG3.out.touch _),HG3.out.touch _,HC2.out.gr HG3.out,⟨v1,HV2.out.gr HG3.out,HCP0.out⟩,HPC.out⟩⟩
 go_upto_region 7 with (fail)
 go_loopw [46] (fun s46 wr=>∃ i:Nat,i<=P.length/\Hid (MvC w w2 wr R S S2 y q z s k (M i) v1 g P)/\s46=.int .i64 i) (fun s46 _=>P.length-(intOf s46).toNat)
 case atStart=>exact ⟨0,Nat.zero_le _,HMC,rfl⟩
 case round=>
  obtain ⟨i,hi,HI,rfl⟩:=hrel
  clear HMC
  by_cases hlt:i<P.length
  ·have HLT:=hid hlt
   have hiI:(i:Int)<(P.length:Int):=by omega
   obtain ⟨g',hg',hgl,k0,k1,k2⟩:=HI.out.pc i hlt
   cases hg'
   obtain ⟨f,t,ef,et,-⟩:=HMK.out.copy HNW.out.1 hlt HI.out (Gr.refl wr)
   have HCPY:Hid (∀ W,Gr wr W->Calls Tryz.prog 162 #[.pointer (some ⟨y,0,none⟩),.agg #[.int .i64 f,.int .i64 t,.int .i64 (P[i].s:Nat)]] W fun e w'=>e=.returned (.tuple #[])/\MvC w w2 w' R S S2 y q z s k (M (i+1)) v1 g P):=⟨fun W gW=>by
    obtain ⟨f',t',ef',et',h⟩:=HMK.out.copy HNW.out.1 hlt HI.out gW
    rw [ef] at ef'
    rw [et] at et'
    obtain rfl:f=f':=by omega
    obtain rfl:t=t':=by omega
    exact h⟩
   obtain ⟨n,hn⟩:∃ n,n=P[i].s:=⟨_,rfl⟩
   rw [ef] at k0
   rw [et] at k1
   rw [<-hn] at k2 HCPY
   clear hn ef et hlt
   have hRec:=hid (Rec.new wr 209 [.int .i64 f,.int .i64 t,.int .i64 n])
   simp only [List.toArray] at hRec
   go_upto_region 9 with (fail)
   obtain ⟨wA,hwA⟩:∃ wA,wA=wr.alloc (.cells #[.int .i64 f,.int .i64 t,.int .i64 n] 209):=⟨_,rfl⟩
   have hgA:Gr wr wA:=by rw [hwA];exact (Gr.refl wr).alloc _
   have hR:=hRec.out
   rw [show wr.alloc (.cells ([.int .i64 f,.int .i64 t,.int .i64 n]:List Value).toArray 209)=wA from hwA.symm] at hR
   rw [<-hwA]
   have HGA:=hid hgA
   have b0:=hR.cell (j:=0) rfl
   have b1:=hR.cell (j:=1) rfl
   have b2:=hR.cell (j:=2) rfl
   have bl:=hR.lt
   clear hwA hgA hRec hR k0 k1 k2 hgl
   go_wp2_with (go_at_call 162;refine (HCPY.out _ HGA.out).mono ?_;rintro e w5 ⟨rfl,hi5⟩;have HI5:=hid hi5;clear hi5)
   go_roundw
   case rel=>exact ⟨i+1,HLT.out,HI5,by go_num⟩
   case measure=>have:=HLT.out;simp [intOf];omega
  ·obtain rfl:i=P.length:=by omega
   clear hlt
   obtain ⟨w4,rfl⟩:∃ w4:World,w4=wr:=⟨_,rfl⟩
   obtain ⟨v2,hv2,hc2⟩:=HI.out.vm
   have HV4:=hid hv2
   have HC4:=hid hc2
   have hz4:=HI.out.t2.size
   have HMD:Hid (MvD w w4 w4 R S S2 y q z s k (M 0) v2 g P):=⟨⟨HI.out.t,Nat.le_refl _,by rw [HP.out.2.1,butN_zero];exact HI.out.cy,⟨S2,v2,fun b hb=>.inl hb,HV4.out,by
    rw [HP.out.2.1,butN_zero]
    have:=HC4.out.mid
    rw [HP.out.2.2.1] at this
    exact SlDr.zero this⟩,HI.out.pc⟩⟩
   have hgw:g<w4.heap.size:=by
    obtain ⟨g',hg',hgl,-⟩:=HI.out.pc 0 HP0.out
    cases hg'
    exact hgl
   have HGW:=hid hgw
   clear hv2 hc2 hgw
   go_upto_region 12 with (fail)
   go_loopw [56] (fun s56 wr=>∃ i:Nat,i<=P.length/\Hid (MvD w w4 wr R S S2 y q z s k (M i) v2 g P)/\s56=.int .i64 i) (fun s56 _=>P.length-(intOf s56).toNat)
   case atStart=>exact ⟨0,Nat.zero_le _,HMD,rfl⟩
   case round=>
    obtain ⟨i,hi,HD,rfl⟩:=hrel
    clear HMD
    by_cases hlt:i<P.length
    ·have HLT:=hid hlt
     have hiI:(i:Int)<(P.length:Int):=by omega
     obtain ⟨g',hg',hgl,k0,k1,k2⟩:=HD.out.pc i hlt
     cases hg'
     obtain ⟨f,t,ef,et,-⟩:=HMK.out.drain hz4 (by omega) ⟨HNW.out.1,HGW.out⟩ hlt HD.out (Gr.refl wr)
     have HCPY:Hid (∀ W,Gr wr W->Calls Tryz.prog 163 #[.pointer (some ⟨y,0,none⟩),.agg #[.int .i64 f,.int .i64 t,.int .i64 (P[i].s:Nat)]] W fun e w'=>e=.returned (.tuple #[])/\MvD w w4 w' R S S2 y q z s k (M (i+1)) v2 g P):=⟨fun W gW=>by
      obtain ⟨f',t',ef',et',h⟩:=HMK.out.drain hz4 (by omega) ⟨HNW.out.1,HGW.out⟩ hlt HD.out gW
      rw [ef] at ef'
      rw [et] at et'
      obtain rfl:f=f':=by omega
      obtain rfl:t=t':=by omega
      exact h⟩
     obtain ⟨n,hn⟩:∃ n,n=P[i].s:=⟨_,rfl⟩
     rw [ef] at k0
     rw [et] at k1
     rw [<-hn] at k2 HCPY
     clear hn ef et hlt
     have hRec:=hid (Rec.new wr 209 [.int .i64 f,.int .i64 t,.int .i64 n])
     simp only [List.toArray] at hRec
     go_upto_region 14 with (fail)
     obtain ⟨wA,hwA⟩:∃ wA,wA=wr.alloc (.cells #[.int .i64 f,.int .i64 t,.int .i64 n] 209):=⟨_,rfl⟩
     have hgA:Gr wr wA:=by rw [hwA];exact (Gr.refl wr).alloc _
     have hR:=hRec.out
     rw [show wr.alloc (.cells ([.int .i64 f,.int .i64 t,.int .i64 n]:List Value).toArray 209)=wA from hwA.symm] at hR
     rw [<-hwA]
     have HGA:=hid hgA
     have b0:=hR.cell (j:=0) rfl
     have b1:=hR.cell (j:=1) rfl
     have b2:=hR.cell (j:=2) rfl
     have bl:=hR.lt
     clear hwA hgA hRec hR k0 k1 k2 hgl
     go_wp2_with (go_at_call 163;refine (HCPY.out _ HGA.out).mono ?_;rintro e w5 ⟨rfl,hi5⟩;have HI5:=hid hi5;clear hi5)
     go_roundw
     case rel=>exact ⟨i+1,HLT.out,HI5,by go_num⟩
     case measure=>have:=HLT.out;simp [intOf];omega
    ·obtain rfl:i=P.length:=by omega
     clear hlt
     obtain ⟨w6,rfl⟩:∃ w6:World,w6=wr:=⟨_,rfl⟩
     obtain ⟨Sj,vx,hsj,hvx,hdx⟩:=HD.out.vm
     have hcy:=HD.out.cy
     have hz6:=HD.out.sz
     rw [HP.out.2.2.1] at hcy hdx
     have hkI:(k:Int)<(s.mv.length:Int):=by have:=HK.out.1;omega
     have c4:=hcy.rc.cell (j:=10) rfl
     have cl:=hcy.rc.lt
     have m0:=own_cell hcy.mv (bls_at HK.out.1)
     have mf:=own_free hcy.mv
     have ml':=(own_lt hcy.mv rfl).2
     have HCY6:=hid hcy
     have HVX:=hid hvx
     have HDX:=hid hdx
     have HSJ:=hid hsj
     have hRj:∀ b,R b->¬ Sj b:=fun b hb h=>by
      have:=HRL.out b hb
      rcases HSJ.out b h with h | h
      ·exact HMK.out.r2 b hb h
      ·omega
     have HRJ:=hid hRj
     clear hcy hvx hdx hsj hRj
     go_upto_region 17 with (fail)
     have hm7:=(World.ownsRow.stored HCY6.out.mv k (.bool true)).1
     rw [bls_set] at hm7
     obtain ⟨w7,hw7⟩:∃ w7,w7=w6.setCell ⟨z.bm,k,none⟩ (.bool true):=⟨_,rfl⟩
     have ht7:Touch (fun i=>i=z.bm) w6 w7:=by rw [hw7];exact (Touch.refl (fun i=>i=z.bm) w6).setCell (a:=⟨z.bm,k,none⟩) (fun _=>rfl) _
     rw [<-hw7] at hm7 ⊢
     have hcy7:CycAt w7 R y q z s (butN (fun i=>!s.is i) (s.lo k) (s.hi k-s.lo k)) (s.mv.set k true) s.lf s.ft (s.mvd-s.ft):=HCY6.out.setM (List.length_set ..) ht7 (by rw [List.length_set];exact hm7)
     have HT7:=hid ht7
     have HCY7:=hid hcy7
     have e5:=hcy7.rc.cell (j:=11) rfl
     have ef:=hcy7.rc.free
     have el:=hcy7.rc.lt
     clear hw7 hm7 ht7 hcy7 c4 cl m0 mf ml'
     have hmd:s.mvd<s.mv.length:=by
      have:=HMV.out.2
      have h2:({ s with mv:=s.mv.set k true }:Sl).mvd<=(s.mv.set k true).length:=cnt_le _ _
      rw [List.length_set] at h2
      omega
     have hfm:s.ft<=s.mvd:=by
      have:=cnt_both (l:=s.mv) (m:=s.ft) s.ft_le (fun i hi=>s.ft_on hi)
      show s.ft<=cnt (at_ s.mv) s.mv.length
      omega
     obtain ⟨l1,hl1⟩:∃ l1,s.lf=l1+1:=⟨s.lf-1,by omega⟩
     have hs1:(s.lf:Int)-1=(l1:Int):=by omega
     have HL1:=hid hl1
     have HFM:=hid (And.intro hmd hfm)
     have hLB:s.lf<=1048576:=by omega
     clear hl1 hmd hfm
     go_upto_region 18 with (fail)
     obtain ⟨w8,hw8⟩:∃ w8,w8=w7.setCell ⟨y,11,none⟩ (.int .i64 l1):=⟨_,rfl⟩
     have ht8:Touch (fun i=>i=y) w7 w8:=by rw [hw8];exact (Touch.refl (fun i=>i=y) w7).setCell (a:=⟨y,11,none⟩) (fun _=>rfl) _
     have hr8:=HCY7.out.rc.set 11 (.int .i64 l1)
     rw [<-hw8] at hr8 ⊢
     have hcy8:CycAt w8 R y q z s (butN (fun i=>!s.is i) (s.lo k) (s.hi k-s.lo k)) (s.mv.set k true) l1 s.ft (s.mvd-s.ft):=HCY7.out.setR ht8 hr8
     have HT8:=hid ht8
     have HCY8:=hid hcy8
     have g7:=hcy8.rc.cell (j:=13) rfl
     have gf:=hcy8.rc.free
     have gl:=hcy8.rc.lt
     obtain ⟨a0,ha0⟩:∃ a0,a0=s.mvd-s.ft:=⟨_,rfl⟩
     rw [<-ha0] at g7
     have ha0b:a0<=1048576:=by omega
     have HA0:=hid ha0
     clear hw8 hr8 ht8 hcy8 e5 ef el hs1 hLB ha0
     go_upto_region 19 with (fail)
     obtain ⟨w9,hw9⟩:∃ w9,w9=w8.setCell ⟨y,13,none⟩ (.int .i64 ((a0:Int)+1)):=⟨_,rfl⟩
     have ht9:Touch (fun i=>i=y) w8 w9:=by rw [hw9];exact (Touch.refl (fun i=>i=y) w8).setCell (a:=⟨y,13,none⟩) (fun _=>rfl) _
     have hr9:=HCY8.out.rc.set 13 (.int .i64 ((a0:Int)+1))
     rw [<-hw9] at hr9 ⊢
     have HCY9:Hid (CycAt w9 R y q z s (butN (fun i=>!s.is i) (s.lo k) (s.hi k-s.lo k)) (s.mv.set k true) l1 s.ft (a0+1)):=⟨HCY8.out.setR ht9 hr9⟩
     have HT9:=hid ht9
     have hlen2:(s.mv.set k true).length=s.mv.length:=List.length_set ..
     obtain ⟨ml,hml2⟩:∃ ml,ml=s.mv.set k true:=⟨_,rfl⟩
     have HML:=hid hml2
     obtain ⟨Ux,hUx⟩:∃ Ux,Ux=butN (fun i=>!s.is i) (s.lo k) (s.hi k-s.lo k):=⟨_,rfl⟩
     have HUX:=hid hUx
     have HMF:Hid (MvF w9 w9 R y q z s Ux ml l1 (s.mvd+1) s.ft (a0+1)):=⟨by rw [hUx,hml2];exact HCY9.out,Touch.refl _ _,fun i hi=>by
      have h1:=s.ft_on hi
      rw [hml2,at_set2 HK.out.1,h1];split <;> rfl,by have h1:=HA0.out;have h2:=HFM.out;omega,by rw [hml2,hlen2];exact s.ft_le⟩
     rw [<-hml2] at hlen2
     have hmlb:ml.length<=1048576:=by omega
     have HFT:=hid s.ft_le
     have HL2:=hid hlen2
     have hsm:s.mvd<=1048576:=by have:=HFM.out;omega
     have FIN:Hid (∀ (wr:World) (fc ac nq:Nat),MvF w9 wr R y q z s Ux ml l1 (s.mvd+1) fc ac->first (fun k=>!at_ ml k) ml.length=fc->MvEnd w R S y q z s k v (.returned (.int .i64 0)) (wr.drewN nq)):=⟨fun wr fc ac nq hf hx=>by
      have hy:=HCY6.out.od.r1
      have hbm:=HCY6.out.od.r2
      have hst:=HO.out.st
      have hlh:=hst.lohi HK.out.1
      have tw:Touch (fun i=>i=y\/i=z.bm) w6 (wr.drewN nq):=((((HT7.out.mono (fun b _ h=>.inr h)).trans (HT8.out.mono (fun b _ h=>.inl h))).trans (HT9.out.mono (fun b _ h=>.inl h))).trans (hf.t.mono (fun b _ h=>.inl h))).trans (((Gr.refl wr).drewN nq).touch _)
      have hRj:∀ b,b=y\/b=z.bm->¬ Sj b:=fun b hb h=>by
       rcases hb with rfl | rfl
       ·exact HRJ.out _ hy h
       ·exact HRJ.out _ hbm h
      have hwn:=HMK.out.ww
      have hgr:=HGR.out
      rw [HAF.out.1,HAF.out.2] at hgr
      have hcp:=HC4.out
      rw [HP.out.2.2.1] at hcp
      have hUe:∀ j,j<sizes s.L->butN (fun i=>!s.is i) (s.lo k) (s.hi k-s.lo k) j=!(s.is j||s.inB k j):=fun j hj=>by
       have h1:=hst.inB (k:=k) hj
       unfold butN
       cases hb:s.inB k j with
       | true=>
        obtain ⟨h2,h3⟩:=h1.1 hb
        rw [decide_eq_true h2,decide_eq_true (by omega)]
        simp
       | false=>
        have h4:¬ (s.lo k<=j/\j<s.hi k):=fun h=>by rw [h1.2 h] at hb;cases hb
        by_cases h5:s.lo k<=j
        ·rw [decide_eq_false (show ¬ j<s.lo k+(s.hi k-s.lo k) by omega)]
         simp
        ·rw [decide_eq_false h5]
         simp
      have hmv:=SlMv.of HO.out HK.out.1 HK.out.2.1 HK.out.2.2 hgr hcp (D:=fun j=>s.is j||(decide (s.lo k<=j)&&decide (j<s.lo k+(s.hi k-s.lo k)))) (fun j hj=>by
       have h1:=hst.inB (k:=k) hj
       cases hb:s.inB k j with
       | true=>
        obtain ⟨h2,h3⟩:=h1.1 hb
        rw [decide_eq_true h2,decide_eq_true (by omega)]
        rfl
       | false=>
        have h4:¬ (s.lo k<=j/\j<s.hi k):=fun h=>by rw [h1.2 h] at hb;cases hb
        by_cases h5:s.lo k<=j
        ·rw [decide_eq_false (show ¬ j<s.lo k+(s.hi k-s.lo k) by omega),Bool.and_false]
        ·rw [decide_eq_false h5,Bool.false_and]) hUe HDX.out
      refine ⟨rfl,?_,?_,vx,?_,hmv⟩
      ·exact HD.out.t.trans (tw.mono (fun b _ h=>by
        rcases h with rfl | rfl
        ·exact .inl hy
        ·exact .inl hbm))
      ·have h1:CycAt (wr.drewN nq) R y q z s (fun i=>!({ s with mv:=s.mv.set k true }:Sl).is i) ml l1 fc ac:=(hf.cy.gr ((Gr.refl wr).drewN nq)).cu (fun j hj=>by rw [HUX.out,hUe j hj,Sl.is_put HK.out.1])
       have e1:({ s with mv:=s.mv.set k true }:Sl).ft=fc:=by rw [<-hx,HML.out];rfl
       have e2:({ s with mv:=s.mv.set k true }:Sl).mvd=s.mvd+1:=HMV.out.2
       have e3:({ s with mv:=s.mv.set k true }:Sl).lf=l1:=by
        show (s.mv.set k true).length-({ s with mv:=s.mv.set k true }:Sl).mvd=l1
        rw [e2,List.length_set]
        have:=HMV.out.1
        have:=HL1.out
        omega
       have e4:s.mvd+1-fc=ac:=by have:=hf.sum;omega
       show CycAt _ R y q z { s with mv:=s.mv.set k true } _ (s.mv.set k true) _ _ _
       rw [e1,e2,e3,e4]
       rw [HML.out] at h1
       exact h1.same rfl rfl rfl rfl rfl
      ·refine (HVX.out.touch tw (fun b hb _ h=>hRj b h hb)).mono (fun b hb=>?_)
       rcases HSJ.out b hb with h | h
       ·rcases (HMK.out.s2 b h).1 with h | h
        ·exact .inl h.1
        ·exact .inr h
       ·right;omega⟩
     clear hw9 hr9 ht9 g7 gf gl hml2 hUx hlen2
     go_loopw [] (fun wr=>∃ fc ac:Nat,Hid (MvF w9 wr R y q z s Ux ml l1 (s.mvd+1) fc ac)) (fun wr=>ml.length-cellN wr y 12)
     case atStart=>exact ⟨s.ft,a0+1,HMF⟩
     case round=>
      obtain ⟨fc,ac,HF⟩:=hrel
      clear HMF
      have q4:=HF.out.cy.rc.cell (j:=10) rfl
      have q6:=HF.out.cy.rc.cell (j:=12) rfl
      have q7:=HF.out.cy.rc.cell (j:=13) rfl
      have qf:=HF.out.cy.rc.free
      have ql:=HF.out.cy.rc.lt
      by_cases hlt:fc<ml.length
      ·have hfI:(fc:Int)<(ml.length:Int):=by omega
       have d0:decide ((fc:Int)<(ml.length:Int))=true:=decide_eq_true hfI
       have n0:=own_cell HF.out.cy.mv (bls_at hlt)
       have nl:=(own_lt HF.out.cy.mv rfl).2
       have HLT:=hid hlt
       clear hlt
       by_cases hb:at_ ml fc=true
       ·rw [hb] at n0
        have HB:=hid hb
        have hac:1<=ac:=by
         have h1:=cnt_both (l:=ml) (m:=fc+1) HLT.out (fun j hj=>by
          rcases Nat.lt_or_ge j fc with h | h
          ·exact HF.out.on j h
          ·obtain rfl:j=fc:=by omega
           exact HB.out)
         have h2:cnt (at_ ml) ml.length=s.mvd+1:=by
          have:=HMV.out.2
          rw [HML.out];exact this
         have h3:=HF.out.sum
         omega
        have hsum:ac<=1048577:=by have:=HF.out.sum;omega
        obtain ⟨a1,rfl⟩:∃ a1,ac=a1+1:=⟨ac-1,by omega⟩
        have ha1:((a1+1:Nat):Int)-1=(a1:Int):=by omega
        have hf1:(fc:Int)+1=((fc+1:Nat):Int):=by omega
        have HF1:=hid hf1
        clear hb hf1 hac
        go_upto_region 19 with (fail)
        go_quiet (fail)
        have HFn:=hid (HF.out.cy.gr ((Gr.refl wr).drewN nq))
        have HTn:Hid (Touch (fun i=>i=y) w9 (wr.drewN nq)):=⟨HF.out.t.trans (((Gr.refl wr).drewN nq).touch _)⟩
        obtain ⟨wq,hwq⟩:∃ wq,wq=wr.drewN nq:=⟨_,rfl⟩
        rw [<-hwq] at HFn HTn ⊢
        have g6:=HFn.out.rc.cell (j:=12) rfl
        have gf:=HFn.out.rc.free
        have gl:=HFn.out.rc.lt
        clear hwq q4 q6 q7 qf ql n0 nl d0
        go_upto_region 21 with (fail)
        obtain ⟨wp,hwp⟩:∃ wp,wp=wq.setCell ⟨y,12,none⟩ (.int .i64 ((fc:Int)+1)):=⟨_,rfl⟩
        have tp:Touch (fun i=>i=y) wq wp:=by rw [hwp];exact (Touch.refl (fun i=>i=y) wq).setCell (a:=⟨y,12,none⟩) (fun _=>rfl) _
        have hrp:=HFn.out.rc.set 12 (.int .i64 ((fc:Int)+1))
        rw [<-hwp] at hrp ⊢
        rw [HF1.out] at hrp
        have HFp:Hid (CycAt wp R y q z s Ux ml l1 (fc+1) (a1+1)):=⟨HFn.out.setR tp hrp⟩
        have HTp:=hid tp
        have g7:=HFp.out.rc.cell (j:=13) rfl
        have gf2:=HFp.out.rc.free
        have gl2:=HFp.out.rc.lt
        clear hwp tp hrp g6 gf gl
        go_wp2
        go_roundw
        case rel=>
         have tz:Touch (fun i=>i=y) wp (wp.setCell ⟨y,13,none⟩ (.int .i64 a1)):=(Touch.refl (fun i=>i=y) wp).setCell (a:=⟨y,13,none⟩) (fun _=>rfl) _
         have hro:=HFp.out.rc.set 13 (.int .i64 a1)
         refine ⟨fc+1,a1,⟨⟨HFp.out.setR tz hro,(HTn.out.trans HTp.out).trans tz,fun j hj=>?_,by have:=HF.out.sum;omega,HLT.out⟩⟩⟩
         rcases Nat.lt_or_ge j fc with h | h
         ·exact HF.out.on j h
         ·obtain rfl:j=fc:=by omega
          exact HB.out
        case measure=>
         have c1:=HF.out.cy.rc.cell (j:=12) rfl
         have c2:=(HFp.out.rc.set 13 (.int .i64 a1)).cell (j:=12) rfl
         unfold cellN
         rw [c1,c2]
         have:=HLT.out
         simp [intOf]
         omega
       ·have hb':at_ ml fc=false:=by simpa using hb
        rw [hb'] at n0
        have HB:=hid hb'
        have HX:Hid (first (fun k=>!at_ ml k) ml.length=fc):=⟨first_eq HF.out.le (fun i hi=>by rw [HF.out.on i hi];rfl) (fun _=>by rw [HB.out];rfl)⟩
        clear hb hb'
        go_wp2
        go_quiet (fail)
        go_wp2
        go_ret
        exact FIN.out _ _ _ _ HF.out HX.out
      ·have hfI:¬ (fc:Int)<(ml.length:Int):=by omega
       have d0:decide ((fc:Int)<(ml.length:Int))=false:=decide_eq_false hfI
       have d1:decide (fc<ml.length)=false:=decide_eq_false hlt
       have HX:Hid (first (fun k=>!at_ ml k) ml.length=fc):=⟨first_eq HF.out.le (fun i hi=>by rw [HF.out.on i hi];rfl) (fun h=>absurd h hlt)⟩
       clear hlt hfI
       go_wp2
       go_quiet (fail)
       go_wp2
       go_ret
       exact FIN.out _ _ _ _ HF.out HX.out
end
end Go.Proofs.YtbmidhlilafgeaaGreatDoor
end
section
namespace Go.Proofs.YtbmidhlilafgeaaGreatDoor
open Go.RowKit Go.Shelf Word
theorem sl_blocks_nil (w:World):Calls Tryz.prog 42 #[.pointer none] w fun e w'=>e=.returned (.int .i64 0)/\w=w':=by
 go_enter Tryz.func42,Tryz.ntmps42
 go_wp2
 go_ret
 exact ⟨rfl,rfl⟩
theorem sl_left_nil (w:World):Calls Tryz.prog 43 #[.pointer none] w fun e w'=>e=.returned (.int .i64 0)/\w=w':=by
 go_enter Tryz.func43,Tryz.ntmps43
 go_wp2
 go_ret
 exact ⟨rfl,rfl⟩
theorem sl_frontier_nil (w:World):Calls Tryz.prog 45 #[.pointer none] w fun e w'=>e=.returned (.int .i64 0)/\w=w':=by
 go_enter Tryz.func45,Tryz.ntmps45
 go_wp2
 go_ret
 exact ⟨rfl,rfl⟩
theorem sl_top_nil (w:World):Calls Tryz.prog 46 #[.pointer none] w fun e w'=>e=.returned (.int .i64 0)/\w=w':=by
 go_enter Tryz.func46,Tryz.ntmps46
 go_wp2
 go_ret
 exact ⟨rfl,rfl⟩
theorem sl_objects_nil (w:World):Calls Tryz.prog 51 #[.pointer none] w fun e w'=>e=.returned (.int .i64 0)/\w=w':=by
 go_enter Tryz.func51,Tryz.ntmps51
 go_wp2
 go_ret
 exact ⟨rfl,rfl⟩
theorem sl_done_nil (w:World):Calls Tryz.prog 44 #[.pointer none] w fun e w'=>e=.returned (.bool true)/\w=w':=by
 go_enter Tryz.func44,Tryz.ntmps44
 go_wp2_with (go_at_call 43;refine (sl_left_nil _).mono ?_;rintro e w1 ⟨rfl,rfl⟩)
 go_ret
 exact ⟨rfl,rfl⟩
theorem sl_step_nil (w:World):Calls Tryz.prog 38 #[.pointer none] w fun e w'=>e=.returned (.tuple #[.bool false,.int .i64 9])/\w=w':=by
 go_enter Tryz.func38,Tryz.ntmps38
 go_wp2
 go_ret2
 exact ⟨rfl,rfl⟩
theorem sl_touch_nil (a:Int) (w:World):Calls Tryz.prog 40 #[.pointer none,.int .i64 a] w fun e w'=>e=.returned (.int .i64 9)/\w=w':=by
 go_enter Tryz.func40,Tryz.ntmps40
 go_wp2
 go_ret
 exact ⟨rfl,rfl⟩
theorem sl_peek_nil (a:Int) (w:World):Calls Tryz.prog 49 #[.pointer none,.int .i64 a] w fun e w'=>e=.returned (.tuple #[.int .u64 0,.int .i64 9])/\w=w':=by
 go_enter Tryz.func49,Tryz.ntmps49
 go_wp2
 go_ret2
 exact ⟨rfl,rfl⟩
theorem sl_load_nil (a:Int) (w:World):Calls Tryz.prog 48 #[.pointer none,.int .i64 a] w fun e w'=>e=.returned (.tuple #[.int .u64 0,.int .i64 9])/\w=w':=by
 go_enter Tryz.func48,Tryz.ntmps48
 go_wp2_with (go_at_call 40;refine (sl_touch_nil a _).mono ?_;rintro e w1 ⟨rfl,rfl⟩)
 go_ret2
 exact ⟨rfl,rfl⟩
theorem sl_store_nil (a:Int) (x:Int) (w:World):Calls Tryz.prog 50 #[.pointer none,.int .i64 a,.int .u64 x] w fun e w'=>e=.returned (.int .i64 9)/\w=w':=by
 go_enter Tryz.func50,Tryz.ntmps50
 go_wp2_with (go_at_call 40;refine (sl_touch_nil a _).mono ?_;rintro e w1 ⟨rfl,rfl⟩)
 go_ret
 exact ⟨rfl,rfl⟩
theorem sl_moved_nil (a:Int) (w:World):Calls Tryz.prog 52 #[.pointer none,.int .i64 a] w fun e w'=>e=.returned (.bool false)/\w=w':=by
 by_cases h:0<=a
 ·have d0:decide (0<=a)=true:=decide_eq_true h
  have d1:decide (a<0)=false:=decide_eq_false (by omega)
  clear h
  go_enter Tryz.func52,Tryz.ntmps52
  go_wp2_with (go_at_call 42;refine (sl_blocks_nil _).mono ?_;rintro e w1 ⟨rfl,rfl⟩)
  go_ret
  exact ⟨rfl,rfl⟩
 ·have d0:decide (0<=a)=false:=decide_eq_false h
  clear h
  go_enter Tryz.func52,Tryz.ntmps52
  go_wp2
  go_ret
  exact ⟨rfl,rfl⟩
section
variable {w:World} {R:Nat->Prop} {y q:Nat} {z:SlAd} {s:Sl} {U:Nat->Bool} {ml:List Bool} {lf ft ah:Nat}
theorem sl_blocks (hC:CycAt w R y q z s U ml lf ft ah):Calls Tryz.prog 42 #[.pointer (some ⟨y,0,none⟩)] w fun e w'=>e=.returned (.int .i64 ml.length)/\w=w':=by
 have c0:=hC.rc.cell (j:=10) rfl
 have cl:=hC.rc.lt
 clear hC
 go_enter Tryz.func42,Tryz.ntmps42
 go_wp2
 go_ret
 exact ⟨rfl,rfl⟩
theorem sl_left (hC:CycAt w R y q z s U ml lf ft ah):Calls Tryz.prog 43 #[.pointer (some ⟨y,0,none⟩)] w fun e w'=>e=.returned (.int .i64 lf)/\w=w':=by
 have c0:=hC.rc.cell (j:=11) rfl
 have cl:=hC.rc.lt
 clear hC
 go_enter Tryz.func43,Tryz.ntmps43
 go_wp2
 go_ret
 exact ⟨rfl,rfl⟩
theorem sl_done (hC:CycAt w R y q z s U ml lf ft ah):Calls Tryz.prog 44 #[.pointer (some ⟨y,0,none⟩)] w fun e w'=>e=.returned (.bool (decide (lf=0)))/\w=w':=by
 have HL:=hid (sl_left hC)
 have hd:((lf:Int)==0)=decide (lf=0):=by by_cases h:lf=0 <;> simp [h]
 have HD:=hid hd
 clear hC hd
 go_enter Tryz.func44,Tryz.ntmps44
 go_wp2_with (go_at_call 43;refine (HL.out).mono ?_;rintro e w1 ⟨rfl,rfl⟩)
 go_ret
 exact ⟨by rw [<-HD.out];rfl,rfl⟩
end
end Go.Proofs.YtbmidhlilafgeaaGreatDoor
end
section
namespace Go.Proofs.YtbmidhlilafgeaaGreatDoor
open Go.RowKit Go.Shelf Word
def ftL (l:List Bool):Nat:=first (fun k=>!at_ l k) l.length
def mvdL (l:List Bool):Nat:=cnt (at_ l) l.length
def stepL (l:List Bool):List Bool:=if ftL l<l.length then l.set (ftL l) true else l
theorem ftL_on {l:List Bool} {i:Nat} (h:i<ftL l):at_ l i=true:=by
 have:=first_not (fun k=>!at_ l k) l.length i h
 simpa using this
theorem ftL_step {l:List Bool} (h:ftL l<l.length):ftL l<ftL (stepL l):=by
 unfold stepL
 rw [if_pos h]
 rcases Nat.lt_or_ge (ftL l) (ftL (l.set (ftL l) true)) with g | g
 ·exact g
 ·exfalso
  have h1:(!at_ (l.set (ftL l) true) (ftL (l.set (ftL l) true)))=true:=first_at (fun k=>!at_ (l.set (ftL l) true) k) _ (show ftL (l.set (ftL l) true)<_ by rw [List.length_set];omega)
  rw [at_set2 h] at h1
  split at h1
  ·cases h1
  ·rename_i hne
   rw [ftL_on (by omega)] at h1
   cases h1
structure SlJ (A:Sl->Vm->Prop):Prop where
 need:∀ s v k,SlOk s v->A s v->k<s.mv.length->at_ s.mv k=false->(k=s.ft\/s.mvd-s.ft<s.cf.ah)->needE v ((s.cf.to+s.lo k:Nat):Int) ((s.cf.to+s.hi k:Nat):Int)=0
 step:∀ s v k v',SlOk s v->A s v->k<s.mv.length->at_ s.mv k=false->(k=s.ft\/s.mvd-s.ft<s.cf.ah)->SlMv s k v v'->A { s with mv:=s.mv.set k true } v'
structure SlAft (w w':World) (R S:Nat->Prop) (y q:Nat) (z:SlAd) (A:Sl->Vm->Prop) (s':Sl) (v':Vm):Prop where
 t:Touch (fun b=>R b\/S b) w w'
 cy:Cyc w' R y q z s'
 vm:VmAt w' (plus S w) q v'
 ok:SlOk s' v'
 j:A s' v'
def Sl.step (s:Sl):Sl:={ s with mv:=stepL s.mv }
theorem Sl.lf_zero (s:Sl):s.lf=0↔¬ s.ft<s.mv.length:=by
 have h1:=cnt_both (l:=s.mv) (m:=s.ft) s.ft_le (fun i hi=>s.ft_on hi)
 have h2:s.mvd<=s.mv.length:=cnt_le _ _
 have h3:s.mvd=cnt (at_ s.mv) s.mv.length:=rfl
 constructor
 ·intro h hf
  have h4:=s.ft_off hf
  have h5:=cnt_set_true hf h4
  have h6:cnt (at_ (s.mv.set s.ft true)) s.mv.length<=s.mv.length:=cnt_le _ _
  unfold Sl.lf at h
  omega
 ·intro h
  have:=s.ft_le
  unfold Sl.lf
  omega
section
variable {w:World} {R S:Nat->Prop} {y q:Nat} {z:SlAd} {s:Sl} {v:Vm} {A:Sl->Vm->Prop}
def StepEnd (w:World) (R S:Nat->Prop) (y q:Nat) (z:SlAd) (A:Sl->Vm->Prop) (s:Sl) (e:Ending) (w':World):Prop:=
 ∃ v',e=.returned (.tuple #[.bool (decide (s.ft<s.mv.length)),.int .i64 0])/\SlAft w w' R S y q z A s.step v'
set_option maxRecDepth 100000 in
set_option maxHeartbeats 1600000 in
theorem sl_step (hJ:SlJ A) (hC:Cyc w R y q z s) (hO:SlOk s v) (hA:A s v) (hT:TabAt w) (htS:¬ S 0) (htR:¬ R 0) (hV:VmAt w S q v) (hdis:∀ k,R k->¬ S k):
  Calls Tryz.prog 38 #[.pointer (some ⟨y,0,none⟩)] w (StepEnd w R S y q z A s):=by
 have hlz:=s.lf_zero
 have c5:=hC.rc.cell (j:=11) rfl
 have c6:=hC.rc.cell (j:=12) rfl
 have cl:=hC.rc.lt
 by_cases hf:s.ft<s.mv.length
 ·have hk:=s.ft_off hf
  have HM:=hid (sl_move hC hO hT htS htR hV hdis hf hk (hJ.need s v s.ft hO hA hf hk (.inl rfl)))
  have HR:Hid (∀ w',MvEnd w R S y q z s s.ft v (.returned (.int .i64 0)) w'->StepEnd w R S y q z A s (.returned (.tuple #[.bool true,.int .i64 0])) w'):=⟨fun w' ⟨_,ht,hc,v',hv,hm⟩=>by
   have e:s.step={ s with mv:=s.mv.set s.ft true }:=by
    unfold Sl.step stepL
    rw [if_pos (show ftL s.mv<s.mv.length from hf)];rfl
   refine ⟨v',by rw [decide_eq_true hf],ht,?_,hv,?_,?_⟩
   ·rw [e];exact hc
   ·rw [e];exact hm.ok
   ·rw [e];exact hJ.step s v s.ft v' hO hA hf hk (.inl rfl) hm⟩
  have hl0:s.lf≠0:=fun h=>hlz.1 h hf
  have d0:((s.lf:Int)==0)=false:=by simp;omega
  clear hC hO hA hT htS htR hV hdis hJ hlz hf hk hl0
  go_enter Tryz.func38,Tryz.ntmps38
  go_wp2_with (go_at_call 99;refine (HM.out).mono ?_;rintro e w1 ⟨rfl,hm⟩;have HMV:=hid hm;clear hm)
  go_ret2
  exact HR.out _ ⟨rfl,HMV.out⟩
 ·have hl0:s.lf=0:=hlz.2 hf
  have HR:Hid (StepEnd w R S y q z A s (.returned (.tuple #[.bool false,.int .i64 0])) w):=⟨by
   have e:s.step=s:=by
    unfold Sl.step stepL
    rw [if_neg (show ¬ ftL s.mv<s.mv.length from hf)]
   refine ⟨v,by rw [decide_eq_false hf],Touch.refl _ _,?_,hV.mono (fun _ h=>.inl h),?_,?_⟩
   ·rw [e];exact hC
   ·rw [e];exact hO
   ·rw [e];exact hA⟩
  have d0:((s.lf:Int)==0)=true:=by simp [hl0]
  clear hC hO hA hT htS htR hV hdis hJ hlz hf hl0
  go_enter Tryz.func38,Tryz.ntmps38
  go_wp2
  go_ret2
  exact HR.out
end
end Go.Proofs.YtbmidhlilafgeaaGreatDoor
end
section
namespace Go.Proofs.YtbmidhlilafgeaaGreatDoor
open Go.RowKit Word
def slNew (v:Vm) (c:Cf) (L:List Ob):Sl:=
 { n:=v.n,pg:=v.pl.pg,cf:=c,L:=L,hd:=fun a=>v.rdH (a:Nat),c:=fun i=>cvH L c.to (v.rdH ((L.getD (placeO L i) (0,0)).1:Nat)) (i-sizes (L.take (placeO L i))) (v.ldV (srcO L i:Nat)),mv:=List.replicate (nbl (sizes L) c.bk) false }
structure OpUm (s:Sl) (v v':Vm) (q0 j:Nat):Prop where
 ok:VmOk v'
 n:v'.n=v.n
 pg:v'.pl.pg=v.pl.pg
 rm:v'.pl.rm=v.pl.rm
 map:∀ p,p<v.pt.length->(v'.pt.getD p 0≠0↔v.pt.getD p 0≠0/\¬ ((q0<=p/\p<q0+j)/\s.on (fun _=>true) p=0))
 val:∀ a:Nat,a<v.n->¬ ((q0<=a/v.pl.pg/\a/v.pl.pg<q0+j)/\s.on (fun _=>true) (a/v.pl.pg)=0)->v'.ldE a=v.ldE a/\v'.ldV a=v.ldV a
theorem Pln.touch {T:Nat->Prop} {w w':World} {F p n B base:Nat} {L:List Ob} (h:Pln w F p n B base L) (t:Touch T w w') (hT:∀ k,F<=k->k<w.heap.size->¬ T k):Pln w' F p n B base L:=by
 obtain ⟨h1,h2,h3,f,c0,c1,hF⟩:=h
 exact ⟨Nat.lt_of_lt_of_le h1 t.size,h2,h3,f,(t.cell h1 (hT _ h2 h1) 0).trans c0,(t.cell h1 (hT _ h2 h1) 1).trans c1,hF.touch t hT⟩
section
variable {s:Sl} {v v':Vm} {q0 j:Nat}
theorem OpUm.zero (h:VmOk v) (q0:Nat):OpUm s v v q0 0:=
 ⟨h,rfl,rfl,rfl,fun p _=>⟨fun h=>⟨h,fun h'=>by omega⟩,fun h=>h.1⟩,fun _ _ _=>⟨rfl,rfl⟩⟩
theorem OpUm.keep (h:OpUm s v v' q0 j) (hz:s.on (fun _=>true) (q0+j)≠0):OpUm s v v' q0 (j+1):=by
 refine ⟨h.ok,h.n,h.pg,h.rm,fun p hp=>(h.map p hp).trans (and_congr_right fun _=>not_congr ⟨fun ⟨⟨a,b⟩,c⟩=>⟨⟨a,by omega⟩,c⟩,fun ⟨⟨a,b⟩,c⟩=>⟨⟨a,?_⟩,c⟩⟩),fun a ha hn=>h.val a ha (fun ⟨⟨x,y⟩,c⟩=>hn ⟨⟨x,by omega⟩,c⟩)⟩
 rcases Nat.lt_or_ge p (q0+j) with h1 | h1
 ·exact h1
 ·obtain rfl:p=q0+j:=by omega
  exact absurd c hz
theorem OpUm.drop (h:OpUm s v v' q0 j) (hz:s.on (fun _=>true) (q0+j)=0):OpUm s v (v'.um ((q0+j:Nat):Int)) q0 (j+1):=by
 obtain ⟨s1,s2,s3,s4⟩:=um_same v' ((q0+j:Nat):Int)
 by_cases hf:frE v'.pt ((q0+j:Nat):Int)=0
 ·refine ⟨h.ok.um _,s1.trans h.n,s2.trans h.pg,s3.trans h.rm,fun p hp=>?_,fun a ha hn=>?_⟩
  ·rw [um_pt hf,h.map p hp,and_assoc]
   refine and_congr_right fun _=>?_
   constructor
   ·rintro ⟨g1,g2⟩ ⟨⟨a,b⟩,c⟩
    exact g1 ⟨⟨a,by omega⟩,c⟩
   ·intro g
    exact ⟨fun ⟨⟨a,b⟩,c⟩=>g ⟨⟨a,by omega⟩,c⟩,fun e=>g ⟨by omega,by rw [e];exact hz⟩⟩
  ·have hne:a/v.pl.pg≠q0+j:=fun e=>hn ⟨by omega,by rw [e];exact hz⟩
   have ha':a<v'.n:=by rw [h.n];exact ha
   have hne':a/v'.pl.pg≠q0+j:=by rw [h.pg];exact hne
   rw [h.ok.um_ldE hf ha',if_neg hne',h.ok.um_ldV hf ha' hne']
   exact h.val a ha (fun ⟨⟨x,y⟩,c⟩=>hn ⟨⟨x,by omega⟩,c⟩)
 ·rw [um_none hf]
  refine ⟨h.ok,h.n,h.pg,h.rm,fun p hp=>?_,fun a ha hn=>h.val a ha (fun ⟨⟨x,y⟩,c⟩=>hn ⟨⟨x,by omega⟩,c⟩)⟩
  rw [h.map p hp]
  refine and_congr_right fun hv=>not_congr ⟨fun ⟨⟨a,b⟩,c⟩=>⟨⟨a,by omega⟩,c⟩,fun ⟨⟨a,b⟩,c⟩=>⟨⟨a,?_⟩,c⟩⟩
  rcases Nat.lt_or_ge p (q0+j) with h1 | h1
  ·exact h1
  ·exfalso
   obtain rfl:p=q0+j:=by omega
   have h2:=(h.map _ hp).2 ⟨hv,fun ⟨⟨_,y⟩,_⟩=>by omega⟩
   have h3:q0+j<v'.pt.length:=by
    rcases Nat.lt_or_ge (q0+j) v'.pt.length with h | h
    ·exact h
    ·rw [List.getD_eq_getElem?_getD,List.getElem?_eq_none h] at h2;exact absurd rfl h2
   rw [frE_of h3,if_neg h2] at hf
   exact hf rfl
end
theorem at_rep (n k:Nat):at_ (List.replicate n false) k=false:=by
 unfold at_
 rw [List.getD_eq_getElem?_getD,List.getElem?_replicate]
 split <;> rfl
section
variable {v v':Vm} {c:Cf} {L:List Ob} {rs:List Int}
theorem slNew_is (v:Vm) (c:Cf) (L:List Ob) (i:Nat):(slNew v c L).is i=false:=at_rep _ _
theorem slNew_mvd (v:Vm) (c:Cf) (L:List Ob):(slNew v c L).mvd=0:=cnt_none fun _ _=>at_rep _ _
theorem slNew_ft (v:Vm) (c:Cf) (L:List Ob):(slNew v c L).ft=0:=first_eq (Nat.zero_le _) (fun _ h=>absurd h (Nat.not_lt_zero _)) (fun _=>by show (!at_ (List.replicate _ false) 0)=true;rw [at_rep];rfl)
theorem slNew_lf (v:Vm) (c:Cf) (L:List Ob):(slNew v c L).lf=nbl (sizes L) c.bk:=by
 unfold Sl.lf
 rw [slNew_mvd]
 exact List.length_replicate
theorem slNew_st (hok:VmOk v) (hcf:CfOk v.pl.pg v.n c) (hI:PkIn v rs c.fr c.tp L) (hfit:sizes L<=c.lm-c.to):SlSt (slNew v c L):=by
 refine ⟨hok.page,hok.n2,hcf,hI.1.mkd.good,fun o ho=>?_,?_,fun j hj=>?_,List.length_replicate⟩
 ·have:=hI.2 o ho
  show c.fr<=o.1/\o.1+o.2<=c.tp
  omega
 ·show c.to+sizes L<=c.lm
  have:=hcf.lm
  omega
 ·have hj':j<L.length:=hj
  obtain ⟨h1,h2,h3⟩:=hI.1.mkd.ats _ (List.getElem_mem hj')
  obtain ⟨b,p,f,k,he,-,hh,hs,-,-,hz,-⟩:=rch_obj hI.1.sound h1
  have h4:(L[j].2:Int)=1+(p:Int)+f+k:=h3.trans hz
  exact ⟨p,f,k,hh,hs,by show L[j].2=1+p+f+k;omega⟩
theorem slNew_on {i:Nat} (hi:i<sizes L):(slNew v c L).on (fun _=>true) (srcO L i/v.pl.pg)≠0:=by
 have:1<=(slNew v c L).on (fun _=>true) (srcO L i/v.pl.pg):=Sl.on_pos (s:=slNew v c L) (i:=i) hi rfl rfl
 omega
theorem slNew_ok (hok:VmOk v) (hcf:CfOk v.pl.pg v.n c) (hI:PkIn v rs c.fr c.tp L) (hfit:sizes L<=c.lm-c.to) (hfull:FullOb v L) {q0 j:Nat} (hU:OpUm (slNew v c L) v v' q0 j):SlOk (slNew v c L) v':=by
 have hst:=slNew_st hok hcf hI hfit
 refine ⟨hst,hU.ok,hU.n,hU.pg,fun i hi _=>?_,fun i hi hd=>?_⟩
 ·have hi':i<sizes L:=hi
  obtain ⟨h1,h2,h3⟩:=hst.srcs hi
  obtain ⟨jo,hj,m,p,f,k,e1,e2,e3,e4,e5,e6,e7,e8,e9⟩:=hst.obj hi
  have hj':jo<L.length:=hj
  have hv:=hU.val (srcO L i) h3 (fun h=>slNew_on hi' h.2)
  have e4':srcO L i=L[jo].1+m:=e4
  have e2':m<L[jo].2:=e2
  have hl:=hfull _ (List.getElem_mem hj') m e2'
  rw [show ((L[jo].1:Nat):Int)+(m:Int)=(srcO L i:Nat) by omega] at hl
  refine ⟨hv.1.trans hl,?_,fun hp=>?_⟩
  ·show (slNew v c L).cv i (v'.ldV (srcO L i:Nat))=_
   rw [hv.2];rfl
  ·show v'.ldV (srcO L i:Nat)<=_
   rw [hv.2]
   obtain ⟨hp1,hp2⟩:=hp
   rw [e5] at hp1 hp2
   rw [e6,e7] at hp2
   obtain ⟨hr,-,-⟩:=hI.1.mkd.ats _ (List.getElem_mem hj')
   obtain ⟨b,p',f',k',he,-,hh,hs,-,-,hz,hpp⟩:=rch_obj hI.1.sound hr
   have e7':v.rdH (L[jo].1:Nat)=⟨p,f,k⟩:=e7
   rw [hh] at e7'
   have hpe:(p':Int)=p:=by injection e7'
   have hp2':(m:Int)<=(p:Int):=hp2
   have:=hpp (m-1) (by omega)
   rw [show ((L[jo].1:Nat):Int)+1+((m-1:Nat):Int)=(srcO L i:Nat) by omega] at this
   exact this.2.1
 ·have:(slNew v c L).is i=true:=hd
  rw [slNew_is] at this
  cases this
theorem slNew_pages (hok:VmOk v) (hcf:CfOk v.pl.pg v.n c) (hI:PkIn v rs c.fr c.tp L) (hfit:sizes L<=c.lm-c.to) (hfull:FullOb v L) {j:Nat} (hU:OpUm (slNew v c L) v v' (c.fr/v.pl.pg) j) (hj:c.tp<=(c.fr/v.pl.pg+j)*v.pl.pg)
  (hm:∀ p,p<v.pt.length->v.pt.getD p 0≠0->c.fr/v.pl.pg<=p/\p*v.pl.pg<c.tp):SlPg (slNew v c L) v':=by
 have hst:=slNew_st hok hcf hI hfit
 have hS:=slNew_ok hok hcf hI hfit hfull hU
 have hlen:v'.pt.length=v.pt.length:=by
  have a1:=hok.np
  have a2:=hU.ok.np
  rw [hU.n,hU.pg,a1] at a2
  exact (Nat.mul_right_cancel (by have:=hok.page;omega) a2).symm
 intro p hp
 have hp':p<v.pt.length:=by omega
 rw [hU.map p hp']
 constructor
 ·rintro ⟨h1,h2⟩
  obtain ⟨g1,g2⟩:=hm p hp' h1
  left
  have hpl:p<c.fr/v.pl.pg+j:=by
   refine Nat.lt_of_not_le fun h=>?_
   have:=Nat.mul_le_mul_right v.pl.pg h
   omega
  have hon:(slNew v c L).on (fun _=>true) p≠0:=fun h=>h2 ⟨⟨g1,hpl⟩,h⟩
  refine Classical.byContradiction fun hno=>hon (Sl.on_iff.2 fun i hi _ e=>hno ⟨i,hi,e,slNew_is v c L i⟩)
 ·rintro (⟨i,hi,rfl,-⟩ | ⟨i,-,-,h⟩)
  ·have hi':i<sizes L:=hi
   have hld:=(hS.mid.src i hi (by show (!(slNew v c L).is i)=true;rw [slNew_is];rfl)).1
   have hv:=hU.val (srcO L i) (hst.srcs hi).2.2 (fun h=>slNew_on hi' h.2)
   have hld':v.ldE (srcO L i:Nat)=0:=hv.1.symm.trans hld
   obtain ⟨a,e,h1,h2⟩:=VmOk.hit hld'
   obtain rfl:srcO L i=a:=by omega
   exact ⟨h2,fun h=>slNew_on hi' h.2⟩
  ·rw [slNew_is] at h;cases h
end
section
variable {w:World} {R:Nat->Prop} {y q r g:Nat} {z:SlAd} {s:Sl} {U:Nat->Bool} {ml:List Bool} {lf ft ah:Nat} {rs:List Int}
theorem sl_turns (hC:∀ W,Touch (fun b=>b=g) w W->CycAt W R y q z s U ml lf ft ah) (hst:SlSt s) (hR:RtAt w r g rs):
  Calls Tryz.prog 68 #[.pointer (some ⟨r,0,none⟩),.func (.func 109) #[.pointer (some ⟨y,0,none⟩)] #[]] w fun e w'=>e=.returned (.tuple #[])/\Touch (fun b=>b=g) w w'/\RtAt w' r g (rs.map (toV s.L s.cf.to)):=by
 have h0:toV s.L s.cf.to 0=0:=by
  have h:¬ findO s.L 0<s.L.length:=fun h=>by
   have h1:=findO_yes h
   have h2:=(hst.inn _ (List.getElem_mem h)).1
   have:=hst.cf.fr
   have:=hst.pg
   omega
  exact (toV_no h).1
 refine (rt_turn (F:=109) (pre:=#[.pointer (some ⟨y,0,none⟩)]) (caps:=#[]) (fun i W out=>Touch (fun b=>b=g) w W/\out=(rs.take i).map (toV s.L s.cf.to)) (fun _ _=>by kernel_rfl) hR ⟨Touch.refl _ _,rfl⟩ ?_ ?_).mono ?_
 ·rintro i hi W out ho ⟨t,e⟩ hz
  refine ⟨t,?_⟩
  rw [take_snoc hi,List.map_append,<-e,hz]
  show out++[0]=out++[toV s.L s.cf.to 0]
  rw [h0]
 ·rintro i hi W out ho ⟨t,e⟩ hrt hne W0 hg0
  refine (sl_to (hC W0 (t.trans (hg0.touch _))) rs[i]).mono ?_
  rintro e' W' ⟨rfl,hg'⟩
  have hb:=to_nonneg s.L s.cf.to rs[i]
  refine ⟨_,rfl,(hrt.gr hg0).gr hg',fun W'' t''=>⟨((t.trans (hg0.touch _)).trans (hg'.touch _)).trans t'',?_⟩⟩
  rw [take_snoc hi,List.map_append,<-e,Int.max_eq_left hb]
  rfl
 ·rintro e w' ⟨rfl,out,-,⟨t,e⟩,hrt⟩
  rw [List.take_length] at e
  subst e
  exact ⟨rfl,t,hrt⟩
end
end Go.Proofs.YtbmidhlilafgeaaGreatDoor
end
section
namespace Go.Proofs.YtbmidhlilafgeaaGreatDoor
open Go.RowKit Word
def SlA (s:Sl) (v:Vm):Prop:=SlPg s v/\s.mvd-s.ft<=s.cf.ah/\(s.cf.tp-s.cf.fr+s.pg-1)/s.pg+(s.cf.ah+1)*max 1 (s.cf.bk/s.pg)+1<=v.pl.rm
theorem slA_j:SlJ SlA:=by
 refine ⟨fun s v k hO hA hk hm _=>sl_frames hO hA.1 hk hm hA.2.1 hA.2.2,fun s v k v' hO hA hk hm hc hM=>⟨SlMv.pages hO hk hA.1 hM,?_,by rw [hM.rm];exact hA.2.2⟩⟩
 have h1:({ s with mv:=s.mv.set k true }:Sl).mvd=s.mvd+1:=by
  unfold Sl.mvd
  rw [List.length_set]
  exact cnt_set_true hk hm
 have hah:=hA.2.1
 show ({ s with mv:=s.mv.set k true }:Sl).mvd-({ s with mv:=s.mv.set k true }:Sl).ft<=s.cf.ah
 rw [h1]
 rcases hc with rfl | hc
 ·have h2:=ftL_step (l:=s.mv) hk
  unfold stepL at h2
  rw [if_pos (show ftL s.mv<s.mv.length from hk)] at h2
  have h3:s.ft<({ s with mv:=s.mv.set s.ft true }:Sl).ft:=h2
  omega
 ·have h2:s.ft<=({ s with mv:=s.mv.set k true }:Sl).ft:=by
   refine Nat.le_of_not_lt fun h=>?_
   have h3:({ s with mv:=s.mv.set k true }:Sl).ft<(s.mv.set k true).length:=by
    rw [List.length_set]
    have:=s.ft_le
    omega
   have h4:=({ s with mv:=s.mv.set k true }:Sl).ft_off h3
   have h5:=s.ft_on h
   have h6:at_ (s.mv.set k true) ({ s with mv:=s.mv.set k true }:Sl).ft=true:=by
    rw [at_set2 hk]
    split
    ·rfl
    ·exact h5
   rw [h6] at h4
   cases h4
  omega
theorem slNew_A {v v':Vm} {c:Cf} {L:List Ob} (hP:SlPg (slNew v c L) v') (hrm:(c.tp-c.fr+v.pl.pg-1)/v.pl.pg+(c.ah+1)*max 1 (c.bk/v.pl.pg)+1<=v'.pl.rm):SlA (slNew v c L) v':=
 ⟨hP,by rw [slNew_mvd,Nat.zero_sub];exact Nat.zero_le _,hrm⟩
end Go.Proofs.YtbmidhlilafgeaaGreatDoor
end
section
namespace Go.Proofs.YtbmidhlilafgeaaGreatDoor
open Go.RowKit Word
section
variable {w:World} {A0 A:Option Addr} {cp cr M:Nat} {v:Vm} {rs O:List Int} {L:List Ob}
end
def us (l:List Nat):List Value:=l.map fun x=>.int .u64 (x:Nat)
section
variable {w:World} {A0 A:Option Addr} {cp cr M:Nat} {v:Vm} {rs O:List Int} {L:List Ob}
end
end Go.Proofs.YtbmidhlilafgeaaGreatDoor
end
section
namespace Go.Proofs.YtbmidhlilafgeaaGreatDoor
open Go.RowKit Word
structure RcAd where
 OA:Option Addr
 oc:Nat
 A:Option Addr
 cp:Nat
 bm:Nat
 cm:Nat
section
variable {w w':World} {y:Nat} {a:RcAd} {s:Sl} {u:Vm}
end
end Go.Proofs.YtbmidhlilafgeaaGreatDoor
end
section
namespace Go.Proofs.YtbmidhlilafgeaaGreatDoor
open Go.RowKit Word
def Sl.owes (s:Sl) (p:Nat):Prop:=∃ i,i<sizes s.L/\srcO s.L i/s.pg=p/\s.is i=false
def Sl.has (s:Sl) (p:Nat):Prop:=∃ i,i<sizes s.L/\(s.cf.to+i)/s.pg=p/\s.is i=true
theorem div_is {a p g:Nat} (hg:1<=g):a/g=p↔p*g<=a/\a<p*g+g:=by
 constructor
 ·rintro rfl
  have h1:=Nat.div_add_mod a g
  have h2:=Nat.mod_lt a (show 0<g by omega)
  rw [Nat.mul_comm] at h1
  omega
 ·rintro ⟨h1,h2⟩
  exact Nat.div_eq_of_lt_le h1 (by rw [Nat.succ_mul];exact h2)
section
variable {w w':World} {y:Nat} {a:RcAd} {s:Sl} {u:Vm}
def Sl.owesB (s:Sl) (p:Nat):Bool:=(List.range (sizes s.L)).any fun i=>(srcO s.L i/s.pg==p)&&!s.is i
def Sl.hasB (s:Sl) (p:Nat):Bool:=(List.range (sizes s.L)).any fun i=>((s.cf.to+i)/s.pg==p)&&s.is i
theorem owesB_iff {s:Sl} {p:Nat}:s.owesB p=true↔s.owes p:=by
 unfold Sl.owesB Sl.owes
 rw [List.any_eq_true]
 constructor
 ·rintro ⟨i,hi,h⟩
  rw [Bool.and_eq_true,beq_iff_eq,Bool.not_eq_true'] at h
  exact ⟨i,List.mem_range.1 hi,h⟩
 ·rintro ⟨i,hi,h⟩
  refine ⟨i,List.mem_range.2 hi,?_⟩
  rw [Bool.and_eq_true,beq_iff_eq,Bool.not_eq_true']
  exact h
theorem hasB_iff {s:Sl} {p:Nat}:s.hasB p=true↔s.has p:=by
 unfold Sl.hasB Sl.has
 rw [List.any_eq_true]
 constructor
 ·rintro ⟨i,hi,h⟩
  rw [Bool.and_eq_true,beq_iff_eq] at h
  exact ⟨i,List.mem_range.1 hi,h⟩
 ·rintro ⟨i,hi,h⟩
  refine ⟨i,List.mem_range.2 hi,?_⟩
  rw [Bool.and_eq_true,beq_iff_eq]
  exact h
end
end Go.Proofs.YtbmidhlilafgeaaGreatDoor
end
section
namespace Go.Proofs.YtbmidhlilafgeaaGreatDoor
open Go.RowKit Go.Shelf Word
attribute [local go_sem] Oper.semAt_some
structure SlrI (w wx:World) (S:Nat->Prop) (q m p1 b1 p2 b2:Nat) (v:Vm) (rs:List Int) (c:Cf) (why:Int):Prop where
 t:Touch S w wx
 vm:VmAt wx (cutS S w) q v
 rs:(why=0/\∃ L,Ext wx m p1 b1 p2 b2 v.n L/\Marks v rs v.n L)\/(why=25/\¬ Sound v rs v.n)
 bx:Rec wx w.heap.size 34 [.int .i64 c.fr,.int .i64 c.tp,.int .i64 c.to,.int .i64 c.lm,.int .i64 c.bk,.int .i64 c.st,.int .i64 c.ah]
 r6:Rec wx (w.heap.size+1) 124 [.pointer none]
 r7:Rec wx (w.heap.size+2) 39 [.int .i64 0]
 lm:w.heap.size+3<=m
 l1:w.heap.size+3<=p1
 l2:w.heap.size+3<=b1
 l3:w.heap.size+3<=p2
 l4:w.heap.size+3<=b2
section
variable {w:World} {S:Nat->Prop} {q r g:Nat} {v:Vm} {rs:List Int} {c:Cf}
set_option maxRecDepth 100000 in
set_option maxHeartbeats 3200000 in
theorem sl_reached (hV:VmAt w S q v) (hn1:1<=v.n) (hR:RtAt w r g rs) (hT:TabAt w) (htS:¬ S 0) (hst:1<=c.st/\c.st<=4096):
  Calls Tryz.prog 104 #[.pointer (some ⟨q,0,none⟩),.pointer (some ⟨r,0,none⟩),cfV c] w (PkReach w S q v rs c.fr c.tp):=by
 have HV:=hid hV.cut
 have HR:=hid hR
 have HT:=hid hT
 have HTS:=hid htS
 have htl:=hT.lt
 have hn2:=hV.ok.n2
 have hne:rs.length≠0:=fun e=>hR.ne (List.eq_nil_of_length_eq_zero e)
 have hle:=hR.le
 have HX:=hid (fun W=>ext_new v.n hn1 (by omega) W)
 have HST:=hid hst
 obtain ⟨n,hne0⟩:∃ n,n=rs.length:=⟨_,rfl⟩
 have HN:=hid hne0
 rw [<-hne0] at hne hle
 have g1:Gr w (((w.alloc (.cells #[.int .i64 c.fr,.int .i64 c.tp,.int .i64 c.to,.int .i64 c.lm,.int .i64 c.bk,.int .i64 c.st,.int .i64 c.ah] 34)).alloc (.cells #[.pointer none] 124)).alloc (.cells #[.int .i64 0] 39)):=(((Gr.refl w).alloc _).alloc _).alloc _
 have HG1:=hid g1
 clear hV hR hT htS hst hne0 g1
 refine (callsIn_wide (n:=5)).1 ?_
 refine callsIn_of_wp_marks Tryz.func104 rfl trivial ?_ rfl
 simp only [Tryz.ntmps104,List.size_toArray,List.length_cons,List.length_nil,Nat.reduceAdd,Nat.reduceSub,Array.replicate_succ,Array.replicate_zero,List.push_toArray,List.append_toArray,List.nil_append,List.cons_append]
 unfold cfV
 gi_upto_region 1 with (fail)
 obtain ⟨W0,hW0⟩:∃ W0,W0=(((w.alloc (.cells #[.int .i64 c.fr,.int .i64 c.tp,.int .i64 c.to,.int .i64 c.lm,.int .i64 c.bk,.int .i64 c.st,.int .i64 c.ah] 34)).alloc (.cells #[.pointer none] 124)).alloc (.cells #[.int .i64 0] 39)):=⟨_,rfl⟩
 have hsz0:W0.heap.size=w.heap.size+3:=by rw [hW0];simp only [World.size_alloc]
 have hg0:Gr w W0:=by rw [hW0];exact HG1.out
 have rb:Rec W0 w.heap.size 34 [.int .i64 c.fr,.int .i64 c.tp,.int .i64 c.to,.int .i64 c.lm,.int .i64 c.bk,.int .i64 c.st,.int .i64 c.ah]:=by rw [hW0];exact (Rec.new w _ [.int .i64 c.fr,.int .i64 c.tp,.int .i64 c.to,.int .i64 c.lm,.int .i64 c.bk,.int .i64 c.st,.int .i64 c.ah]).gr (((Gr.refl _).alloc _).alloc _)
 have r6:Rec W0 (w.heap.size+1) 124 [.pointer none]:=by rw [hW0];exact (new2 w _ 124 [.pointer none]).gr ((Gr.refl _).alloc _)
 have r7:Rec W0 (w.heap.size+2) 39 [.int .i64 0]:=by
  rw [hW0]
  have:=new2 (w.alloc (.cells #[.int .i64 c.fr,.int .i64 c.tp,.int .i64 c.to,.int .i64 c.lm,.int .i64 c.bk,.int .i64 c.st,.int .i64 c.ah] 34)) (.cells #[.pointer none] 124) 39 [.int .i64 0]
  rw [World.size_alloc] at this
  exact this
 rw [<-hW0]
 clear hW0 HG1
 have HG0:=hid hg0
 have HRB:=hid rb
 have HR6:=hid r6
 have HR7:=hid r7
 have HWD:=hid (fun (W:World) (g:Gr w W)=>vm_words (HV.out.gr g))
 clear rb r6 r7 hg0
 gi_upto_region 2 with (first
  | (refine ⟨trivial,?_⟩;gi_at_call 33;refine (callsIn_wide.2 (HWD.out _ HG0.out)).mono ?_;rintro e w2 ⟨rfl,rfl⟩)
  | (refine ⟨trivial,?_⟩;gi_at_call 131;refine (callsIn_wide.2 (HX.out _)).mono ?_;rintro e w3 ⟨m,p1,b1,p2,b2,rfl,hg3,he3,hb0,hb1,hb2,hb3,hb4⟩;have HG3:=hid hg3;have HG03:=hid (HG0.out.trans hg3);have HE3:=hid he3;have HB:=hid (And.intro hb0 (And.intro hb1 (And.intro hb2 (And.intro hb3 hb4))));clear hg3 he3 hb0 hb1 hb2 hb3 hb4))
 gi_cut [10,11] from 14 (fun s10 s11 wx=>∃ (b11:Nat) (why:Int),s10=.pointer (some ⟨b11,0,none⟩)/\s11=.int .i64 why/\Hid (SlrI w wx S q m p1 b1 p2 b2 v rs c why))
 case first=>
  have hBB:=HB.out
  obtain ⟨hb0,hb1,hb2,hb3,hb4⟩:=hBB
  rw [hsz0] at hb0 hb1 hb2 hb3 hb4
  have hml:=HE3.out.hm
  have hp1l:=HE3.out.v1.hp
  have hb1l:=HE3.out.v1.hb
  have hp2l:=HE3.out.v2.hp
  have hb2l:=HE3.out.v2.hb
  have hmi:∀ i,mine m b1 b2 i->w.heap.size+3<=i/\i<w3.heap.size:=fun i hi=>by
   rcases hi with rfl | rfl | rfl
   ·exact ⟨hb0,hml⟩
   ·exact ⟨hb2,hb1l⟩
   ·exact ⟨hb4,hb2l⟩
  have HMI:=hid hmi
  have HALL:=hid (fun (W:World) (g:Gr w3 W)=>rt_all (HR.out.gr ((HG03.out).trans g)))
  rw [<-HN.out] at HALL
  have HRUN:Hid (∀ (W:World) (g1 cp:Nat),Gr w3 W->w3.heap.size<=g1->W.ownsRow 0 3 1 (.slice (some ⟨g1,0,none⟩) n cp) n (zs rs)->Calls Tryz.prog 132 #[.iface 31 (.pointer (some ⟨q,0,none⟩)),.slice (some ⟨g1,0,none⟩) n cp,.pointer (some ⟨m,0,none⟩),.int .i64 c.st] W fun e w'=>
    ∃ (a1 a2 a3 a4 why:Int),e=.returned (.tuple #[.agg #[.int .i64 a1,.int .i64 a2,.int .i64 a3,.int .i64 a4],.int .i64 why])/\Touch (fun i=>mine m b1 b2 i\/cutS S w i) W w'/\VmAt w' (cutS S w) q v/\((why=0/\∃ L,Ext w' m p1 b1 p2 b2 v.n L/\Marks v rs v.n L)\/(why=25/\¬ Sound v rs v.n))):=⟨fun W g1 cp hg hg1 ho=>by
   rw [HN.out] at ho ⊢
   have hgw:=HG03.out.trans hg
   refine (mark_run (HV.out.gr hgw) (HE3.out.gr hg) (hgw.tab HT.out.lt HT.out) (fun i hi=>?_) (by unfold maxLen;have:=HN.out;omega) (fun i hi h=>by have:=(hmi i h).1;have:=hi.2;omega) (fun h=>by have:=h.2;omega) (fun h=>by have:=h.2;omega) (fun h=>HTS.out h.1) (fun h=>by have:=(hmi _ h).1;omega) (c.st:Int)).mono ?_
   ·exact ⟨g1,0,rfl,(own_lt ho rfl).2,fun h=>by have:=(hmi _ h).2;omega,by rw [Nat.zero_add];exact own_cell ho (zs_at hi)⟩
   ·rintro e w' (⟨h,-⟩ | ⟨-,-,ht,hv,(⟨L,r',vi,rfl,he,hm,-⟩ | ⟨rfl,-,hs⟩)⟩)
    ·have:=HST.out;omega
    ·exact ⟨_,_,r',vi,0,rfl,ht,hv,.inl ⟨rfl,L,he,hm⟩⟩
    ·exact ⟨0,0,0,0,25,rfl,ht,hv,.inr ⟨rfl,hs⟩⟩⟩
  have FIN:Hid (∀ (W1 W2 W3:World) (b11:Nat) (why:Int),Gr w3 W1->Touch (fun i=>mine m b1 b2 i\/cutS S w i) W1 W2->VmAt W2 (cutS S w) q v->((why=0/\∃ L,Ext W2 m p1 b1 p2 b2 v.n L/\Marks v rs v.n L)\/(why=25/\¬ Sound v rs v.n))->Touch (fun i=>i=b11) W2 W3->w3.heap.size<=b11 →
    SlrI w W3 S q m p1 b1 p2 b2 v rs c why):=⟨fun W1 W2 W3 b11 why hg ht hv hres ht3 hb=>by
   have hz3:=HG03.out.size
   have hz13:=HG3.out.size
   have hgw:=HG03.out.trans hg
   have hno:∀ i,i<w.heap.size+3->w.heap.size<=i->¬ (mine m b1 b2 i\/cutS S w i):=fun i h1 h2 h=>by
    rcases h with h | h
    ·have:=(hmi i h).1;omega
    ·have:=h.2;omega
   refine ⟨((hgw.touch _).trans (ht.mono (T:=fun i=>mine m b1 b2 i\/S i) (fun i _ h=>h.imp id (fun h=>h.1)))).trans' (T:=fun i=>i=b11) ht3 (fun i hi h=>by omega) |>.mono (fun i hi h=>h.elim (fun h=>by have:=(hmi i h).1;omega) id),hv.touch ht3 (fun i hi _ h=>by have:=hi.2;omega),?_,?_,?_,?_,hb0,hb1,hb2,hb3,hb4⟩
   ·rcases hres with ⟨h,L,he,hm⟩ | h
    ·exact .inl ⟨h,L,he.touch ht3 (by omega) (by omega) (by omega) (by omega) (by omega),hm⟩
    ·exact .inr h
   ·exact ((HRB.out.gr (HG3.out.trans hg)).touch ht (hno _ (by omega) (by omega))).touch ht3 (by omega)
   ·exact ((HR6.out.gr (HG3.out.trans hg)).touch ht (hno _ (by omega) (by omega))).touch ht3 (by omega)
   ·exact ((HR7.out.gr (HG3.out.trans hg)).touch ht (hno _ (by omega) (by omega))).touch ht3 (by omega)⟩
  have rb3:=HRB.out.gr HG3.out
  have x5:=rb3.cell (j:=5) rfl
  have x5l:=rb3.lt
  have KS:Hid (∀ W',Gr w3 W'->W'.cell? ⟨w.heap.size,5,none⟩=some (.int .i64 c.st)):=⟨fun W' h=>(h.cell x5l 5).trans x5⟩
  have KT:Hid (∀ W1 W',Gr w3 W1->Touch (fun i=>mine m b1 b2 i\/cutS S w i) W1 W'->W'.cell? ⟨w.heap.size,5,none⟩=some (.int .i64 c.st)):=⟨fun W1 W' h t=>(t.cell (Nat.lt_of_lt_of_le x5l h.size) (fun h=>by
   rcases h with h | h
   ·have:=(HMI.out _ h).1;omega
   ·have:=h.2;omega) 5).trans ((h.cell x5l 5).trans x5)⟩
  obtain ⟨Sx,hSx⟩:∃ Sx:World->Prop,Sx=fun W'=>W'.cell? ⟨w.heap.size,5,none⟩=some (.int .i64 c.st):=⟨_,rfl⟩
  have y1:∀ p':Held Sx,p'.w.cell? ⟨w.heap.size,5,none⟩=some (.int .i64 c.st):=fun p=>Held.get hSx p
  have hS0:Sx w3.drew:=by rw [hSx];exact x5
  have HSX:=hid hSx
  have inst:Inhabited (Held Sx):=⟨⟨_,hS0⟩⟩
  clear hSx x5 rb3 hmi hb0 hb1 hb2 hb3 hb4 hml hp1l hb1l hp2l hb2l
  refine wpIn_region_mixT Sx (.two [0,1,2,4,5,6] 3 (.two [] 7 (.one [8,9,10] 11 (.one [] 12 (.fin [13]))) 11 (.one [] 7 (.one [8,9,10] 12 (.fin [13])))) 11 (.one [] 3 (.one [] 7 (.one [8,9,10] 12 (.fin [13]))))) wide_fn (by kernel_rfl) (by kernel_rfl) hS0 ?_
  refine mixTIn_two ?_
  simp only [opsAt,List.getElem?_cons_zero,List.getElem?_cons_succ]
  repeat (go_big_quiet_step (fail))
  refine wpQuiet_nil ⟨?_,?_⟩
  ·gi_wp2_with (refine ⟨trivial,?_⟩;gi_at_call 16;refine (callsIn_wide.2 (HALL.out _ (Gr.refl w3).drew)).mono ?_;rintro e w4 ⟨g1,c1,rfl,hg4,hgl,ho4⟩;have HG4:=hid ((Gr.refl w3).drew.trans hg4);have HO4:=hid ho4;have HL4:=hid hgl;clear hg4 ho4 hgl)
   refine ⟨Held.of (by rw [HSX.out];exact KS.out _ HG4.out),?_⟩
   refine mixTIn_two ?_
   simp only [opsAt,List.getElem?_cons_zero,List.getElem?_cons_succ]
   refine wpQuiet_nil ⟨?_,?_⟩
   ·gi_wp2_with (refine ⟨trivial,?_⟩;gi_at_call 132;refine (callsIn_wide.2 (HRUN.out _ g1 c1 HG4.out HL4.out HO4.out)).mono ?_;rintro e w5 ⟨a1,a2,a3,a4,why,rfl,ht5,hv5,hs5⟩;have HT5:=hid ht5;have HV5:=hid hv5;have HS5:=hid hs5;clear ht5 hv5 hs5)
    refine ⟨Held.of (by rw [HSX.out];exact KT.out _ _ HG4.out HT5.out),?_⟩
    refine mixTIn_one ?_
    simp only [opsAt,List.getElem?_cons_zero,List.getElem?_cons_succ]
    repeat (go_big_quiet_step (fail))
    refine wpQuiet_nil ?_
    have u5:=KT.out _ _ HG4.out HT5.out
    have u5l:=lt_cell u5
    gi_wp2
    refine ⟨Held.of (by rw [HSX.out];exact (((Gr.refl w5).alloc _).cell u5l 5).trans u5),?_⟩
    refine mixTIn_one ?_
    simp only [opsAt,List.getElem?_cons_zero,List.getElem?_cons_succ]
    refine wpQuiet_nil ?_
    gi_wp2
    refine ⟨Held.of (by rw [HSX.out];exact (((Gr.refl w5).alloc _).cell u5l 5).trans u5),?_⟩
    refine mixTIn_fin ?_
    simp only [opsAt,List.getElem?_cons_zero,List.getElem?_cons_succ]
    repeat (go_big_quiet_step (fail))
    refine wpQuiet_nil ?_
    refine NoPanic.normal ?_
    gi_wp2
    gi_meet
    exact ⟨_,why,rfl,rfl,⟨FIN.out _ _ _ _ why HG4.out HT5.out HV5.out HS5.out (((Gr.refl w5).alloc _).touch _) (Nat.le_trans HG4.out.size HT5.out.size)⟩⟩
   ·have x4:=KS.out _ HG4.out
    have x4l:=lt_cell x4
    gi_wp2
    refine ⟨Held.of (by rw [HSX.out];exact (((Gr.refl w4).alloc _).cell x4l 5).trans x4),?_⟩
    refine mixTIn_one ?_
    simp only [opsAt,List.getElem?_cons_zero,List.getElem?_cons_succ]
    refine wpQuiet_nil ?_
    have HRA:=hid (Rec.new w4 179 [.int .i64 0,.int .i64 0,.int .i64 0,.int .i64 0])
    have HGA:=hid (HG4.out.alloc (.cells #[.int .i64 0,.int .i64 0,.int .i64 0,.int .i64 0] 179))
    have HNB:Hid (¬ (mine m b1 b2 w4.heap.size\/cutS S w w4.heap.size)):=⟨fun h=>by
     have:=HG4.out.size
     rcases h with h | h
     ·have:=(HMI.out _ h).2;omega
     ·have:=h.2;have:=(HG03.out).size;omega⟩
    have HNW:Hid (¬ w.heap.size=w4.heap.size):=⟨by have:=HG4.out.size;omega⟩
    have HOA:=hid (own_gr HO4.out ((Gr.refl w4).alloc (.cells #[.int .i64 0,.int .i64 0,.int .i64 0,.int .i64 0] 179)))
    have HBA:Hid (w3.heap.size<=w4.heap.size):=⟨HG4.out.size⟩
    obtain ⟨bA,hbA⟩:∃ bA,bA=w4.heap.size:=⟨_,rfl⟩
    obtain ⟨WA,hWA⟩:∃ WA,WA=w4.alloc (.cells #[.int .i64 0,.int .i64 0,.int .i64 0,.int .i64 0] 179):=⟨_,rfl⟩
    rw [show w4.alloc (.cells ([.int .i64 0,.int .i64 0,.int .i64 0,.int .i64 0]:List Value).toArray 179)=WA from hWA.symm] at HRA
    rw [<-hWA] at HGA HOA ⊢
    rw [<-hbA] at HRA HNB HNW HBA ⊢
    clear hbA hWA x4 x4l
    gi_wp2_with (refine ⟨trivial,?_⟩;gi_at_call 132;refine (callsIn_wide.2 (HRUN.out _ g1 c1 HGA.out HL4.out HOA.out)).mono ?_;rintro e w5 ⟨a1,a2,a3,a4,why,rfl,ht5,hv5,hs5⟩;have HT5:=hid ht5;have HV5:=hid hv5;have HS5:=hid hs5;have HR5:=hid (HRA.out.touch ht5 (HNB.out));have q0:=HR5.out.cell (j:=0) rfl;have q1:=HR5.out.cell (j:=1) rfl;have q2:=HR5.out.cell (j:=2) rfl;have q3:=HR5.out.cell (j:=3) rfl;have qf:=HR5.out.free;have ql:=HR5.out.lt;clear ht5 hv5 hs5)
    refine ⟨Held.of (by rw [HSX.out];exact KT.out _ _ HGA.out HT5.out),?_⟩
    refine mixTIn_one ?_
    simp only [opsAt,List.getElem?_cons_zero,List.getElem?_cons_succ]
    repeat (go_big_quiet_step (fail))
    refine wpQuiet_nil ?_
    gi_wp2
    have t5:=st4_self w5 bA (.int .i64 a1) (.int .i64 a2) (.int .i64 a3) (.int .i64 a4)
    have KF:=(t5.cell (lt_cell (KT.out _ _ HGA.out HT5.out)) HNW.out 5).trans (KT.out _ _ HGA.out HT5.out)
    refine ⟨Held.of (by rw [HSX.out];exact KF),?_⟩
    refine mixTIn_fin ?_
    simp only [opsAt,List.getElem?_cons_zero,List.getElem?_cons_succ]
    repeat (go_big_quiet_step (fail))
    refine wpQuiet_nil ?_
    refine NoPanic.normal ?_
    gi_wp2
    gi_meet
    exact ⟨_,why,rfl,rfl,⟨FIN.out _ _ _ _ why HGA.out HT5.out HV5.out HS5.out t5 HBA.out⟩⟩
  ·gi_wp2
   have x3:=KS.out _ (Gr.refl w3)
   have x3l:=lt_cell x3
   refine ⟨Held.of (by rw [HSX.out];exact KS.out _ ((Gr.refl w3).alloc _).drew),?_⟩
   refine mixTIn_one ?_
   simp only [opsAt,List.getElem?_cons_zero,List.getElem?_cons_succ]
   refine wpQuiet_nil ?_
   have HRA:=hid ((Rec.new w3 179 [.int .i64 0,.int .i64 0,.int .i64 0,.int .i64 0]).gr (Gr.refl _).drew)
   have HGA:=hid ((Gr.refl w3).alloc (.cells #[.int .i64 0,.int .i64 0,.int .i64 0,.int .i64 0] 179)).drew
   have HNB:Hid (¬ (mine m b1 b2 w3.heap.size\/cutS S w w3.heap.size)):=⟨fun h=>by
    rcases h with h | h
    ·have:=(HMI.out _ h).2;omega
    ·have:=h.2;have:=(HG03.out).size;omega⟩
   have HNW:Hid (¬ w.heap.size=w3.heap.size):=⟨by omega⟩
   have HBA:Hid (w3.heap.size<=w3.heap.size):=⟨Nat.le_refl _⟩
   obtain ⟨WA,hWA⟩:∃ WA,WA=(w3.alloc (.cells #[.int .i64 0,.int .i64 0,.int .i64 0,.int .i64 0] 179)).drew:=⟨_,rfl⟩
   rw [show (w3.alloc (.cells ([.int .i64 0,.int .i64 0,.int .i64 0,.int .i64 0]:List Value).toArray 179)).drew=WA from hWA.symm] at HRA
   rw [<-hWA] at HGA ⊢
   clear hWA
   obtain ⟨bA,hbA⟩:∃ bA,bA=w3.heap.size:=⟨_,rfl⟩
   rw [<-hbA] at HRA HNB HNW
   rw [show w3.heap.size<=w3.heap.size↔w3.heap.size<=bA by rw [hbA]] at HBA
   rw [show w3.heap.size=bA from hbA.symm]
   clear hbA x3 x3l
   gi_wp2_with (refine ⟨trivial,?_⟩;gi_at_call 16;refine (callsIn_wide.2 (HALL.out _ HGA.out)).mono ?_;rintro e w4 ⟨g1,c1,rfl,hg4,hgl,ho4⟩;have HG4:=hid (HGA.out.trans hg4);have HRA4:=hid (HRA.out.gr hg4);have HO4:=hid ho4;have HL4:=hid (Nat.le_trans HGA.out.size hgl);clear hg4 ho4 hgl)
   refine ⟨Held.of (by rw [HSX.out];exact KS.out _ HG4.out),?_⟩
   refine mixTIn_one ?_
   simp only [opsAt,List.getElem?_cons_zero,List.getElem?_cons_succ]
   refine wpQuiet_nil ?_
   gi_wp2_with (refine ⟨trivial,?_⟩;gi_at_call 132;refine (callsIn_wide.2 (HRUN.out _ g1 c1 HG4.out HL4.out HO4.out)).mono ?_;rintro e w5 ⟨a1,a2,a3,a4,why,rfl,ht5,hv5,hs5⟩;have HT5:=hid ht5;have HV5:=hid hv5;have HS5:=hid hs5;have HR5:=hid (HRA4.out.touch ht5 (HNB.out));have q0:=HR5.out.cell (j:=0) rfl;have q1:=HR5.out.cell (j:=1) rfl;have q2:=HR5.out.cell (j:=2) rfl;have q3:=HR5.out.cell (j:=3) rfl;have qf:=HR5.out.free;have ql:=HR5.out.lt;clear ht5 hv5 hs5)
   refine ⟨Held.of (by rw [HSX.out];exact KT.out _ _ HG4.out HT5.out),?_⟩
   refine mixTIn_one ?_
   simp only [opsAt,List.getElem?_cons_zero,List.getElem?_cons_succ]
   repeat (go_big_quiet_step (fail))
   refine wpQuiet_nil ?_
   gi_wp2
   have t5:=st4_self w5 bA (.int .i64 a1) (.int .i64 a2) (.int .i64 a3) (.int .i64 a4)
   have KF:=(t5.cell (lt_cell (KT.out _ _ HG4.out HT5.out)) HNW.out 5).trans (KT.out _ _ HG4.out HT5.out)
   refine ⟨Held.of (by rw [HSX.out];exact KF),?_⟩
   refine mixTIn_fin ?_
   simp only [opsAt,List.getElem?_cons_zero,List.getElem?_cons_succ]
   repeat (go_big_quiet_step (fail))
   refine wpQuiet_nil ?_
   refine NoPanic.normal ?_
   gi_wp2
   gi_meet
   exact ⟨_,why,rfl,rfl,⟨FIN.out _ _ _ _ why HG4.out HT5.out HV5.out HS5.out t5 HBA.out⟩⟩
 case rest=>
  obtain ⟨b11,why,rfl,rfl,HI⟩:=hcut
  have hr6:=HI.out.r6
  have hr7:=HI.out.r7
  have hbx:=HI.out.bx
  have hwz:=HI.out.t.size
  have hr7l:=hr7.lt
  rcases HI.out.rs with ⟨rfl,L,hex,hmk⟩ | ⟨rfl,hns⟩
  ·have HEX:=hid hex
   have HMK:=hid hmk
   clear hr6 hr7 hex hmk
   gi_wp2_with (refine ⟨trivial,?_⟩;gi_at_call 86;refine (callsIn_wide.2 (all_call (some ⟨m,0,none⟩))).mono ?_;rintro e w1 ⟨rfl,rfl⟩)
   obtain ⟨W1,hW1⟩:∃ W1,W1=wc.alloc (.cells #[.pointer (some ⟨m,0,none⟩)] 124):=⟨_,rfl⟩
   have hg1:Gr wc W1:=by rw [hW1];exact (Gr.refl wc).alloc _
   have hs1:W1.heap.size=wc.heap.size+1:=by rw [hW1,World.size_alloc]
   have k4:W1.cell? ⟨wc.heap.size,0,none⟩=some (.pointer (some ⟨m,0,none⟩)):=by
    rw [hW1];exact (Boxed.new wc 124 (.pointer (some ⟨m,0,none⟩))).cell
   rw [<-hW1]
   have hex:=HEX.out
   have hml:=hex.hm
   have hp1l:=hex.v1.hp
   have hb1l:=hex.v1.hb
   have hp2l:=hex.v2.hp
   have hb2l:=hex.v2.hb
   have HTC:Hid (TabAt wc):=⟨HI.out.t.tab htl HTS.out HT.out⟩
   have htl2:=HTC.out.lt
   have hrl:=hbx.lt
   have hgd:=hid hex.good
   clear hW1 hex
   have tI:∀ (j:Nat) A B,(Touch (fun i=>W1.heap.size<=i) W1 A/\j<=L.length/\∀ i (h:i<L.length),i<j->c.fr<=L[i].1/\L[i].1+L[i].2<=c.tp)->Touch (fun i=>W1.heap.size<=i/\i<W1.heap.size+2+4) A B->(Touch (fun i=>W1.heap.size<=i) W1 B/\j<=L.length/\∀ i (h:i<L.length),i<j->c.fr<=L[i].1/\L[i].1+L[i].2<=c.tp):=fun j A B h t=>⟨h.1.trans (t.mono (fun i _ h=>h.1)),h.2⟩
   refine range_lawU (K:=4) (s0:=0) rfl (by omega) (gf:=150) (lb:=#[.pointer (some ⟨wc.heap.size,0,none⟩)]) rfl trivial (enters_of Tryz.func150 (by kernel_rfl) rfl)
    (all_seqU _ wc.heap.size m p1 b1 p2 b2 v.n L _) (fun _=>rfl)
    (fun (j:Nat) A=>Touch (fun i=>W1.heap.size<=i) W1 A/\j<=L.length/\∀ i (h:i<L.length),i<j->c.fr<=L[i].1/\L[i].1+L[i].2<=c.tp)
    (fun cd A=>cd=.ret/\Touch (fun i=>(i=w.heap.size+1\/i=w.heap.size+2)\/W1.heap.size<=i) W1 A/\A.cell? ⟨w.heap.size+1,0,none⟩=some (.pointer none)/\A.cell? ⟨w.heap.size+2,0,none⟩=some (.int .i64 25)/\∃ o∈L,¬ (c.fr<=o.1/\o.1+o.2<=c.tp))
    tI
    (fun cd A B h t=>⟨h.1,h.2.1.trans (t.mono (fun i _ h=>.inr h.1)),(t.cell (lt_cell h.2.2.1) (by show ¬ (W1.heap.size<=w.heap.size+1/\_);omega) 0).trans h.2.2.1,(t.cell (lt_cell h.2.2.2.1) (by show ¬ (W1.heap.size<=w.heap.size+2/\_);omega) 0).trans h.2.2.2.1,h.2.2.2.2⟩)
    (fun j A h=>⟨(HEX.out.gr hg1).touch h.1 (by omega) (by omega) (by omega) (by omega) (by omega),(hg1.tab htl2 HTC.out).touch' h.1 (by omega),(h.1.cell (by omega) (by omega) 0).trans k4,h.2.1⟩)
    ⟨Touch.refl _ _,Nat.zero_le _,fun i _ h=>absurd h (Nat.not_lt_zero _)⟩ ?round ?done ?stop
   case round=>
    have HS1:=hid hs1
    clear hs1
    intro lp j x W3 hsz3 hI3 hgv
    dsimp only [encO]
    gi_wp2
    refine ⟨Gr.refl _,fun W4 ht4 hI4=>?_⟩
    have hjl:j<L.length:=by
     rcases Nat.lt_or_ge j L.length with h | h
     ·exact h
     ·unfold AllGives at hgv;rw [List.getElem?_eq_none h] at hgv;cases hgv
    obtain rfl:x=L[j]:=by unfold AllGives at hgv;rw [List.getElem?_eq_getElem hjl] at hgv;exact (Option.some.inj hgv).symm
    have hrb4:=(hbx.gr hg1).touch hI4.1 (by have:=HS1.out;omega)
    have c0:=hrb4.cell (j:=0) rfl
    have c1:=hrb4.cell (j:=1) rfl
    have cl:=hrb4.lt
    have hsb:=(hgd.out.sz _ (List.getElem_mem hjl)).2
    have HMEM:=hid (List.getElem_mem hjl)
    obtain ⟨sa,hsa⟩:∃ s,s=L[j].1:=⟨_,rfl⟩
    obtain ⟨sz,hsz⟩:∃ s,s=L[j].2:=⟨_,rfl⟩
    have HSA:=hid (And.intro hsa hsz)
    rw [<-hsa,<-hsz] at hsb ⊢
    have HI4:=hid hI4
    have ha6:=(HI.out.r6.gr hg1).touch hI4.1 (by have:=HS1.out;omega)
    have ha7:=(HI.out.r7.gr hg1).touch hI4.1 (by have:=HS1.out;omega)
    have HJL:=hid hjl
    by_cases hin:c.fr<=sa/\sa+sz<=c.tp
    ·have e0:decide ((sa:Int)<(c.fr:Int))=false:=decide_eq_false (by omega)
     have e1:decide ((c.tp:Int)<(sa:Int)+(sz:Int))=false:=decide_eq_false (by omega)
     have e2:decide (sa<c.fr)=false:=decide_eq_false (by omega)
     have HIN:=hid hin
     clear hI3 hI4 hgv ht4 hsa hsz hin ha6 ha7
     gi_wp2
     refine ⟨Touch.refl _ _,j+1,rfl,HI4.out.1,HJL.out,fun i h hij=>?_⟩
     rcases Nat.lt_or_ge i j with h' | h'
     ·exact HI4.out.2.2 i h h'
     ·obtain rfl:i=j:=by omega
      rw [<-HSA.out.1,<-HSA.out.2];exact HIN.out
    ·have HNI:Hid (∃ o∈L,¬ (c.fr<=o.1/\o.1+o.2<=c.tp)):=⟨L[j],HMEM.out,by rw [<-HSA.out.1,<-HSA.out.2];exact hin⟩
     have HA6:=hid ha6
     have HA7:=hid ha7
     have z6:=ha6.cell (j:=0) rfl
     have z7:=ha7.cell (j:=0) rfl
     have zf6:=ha6.free 0
     have zf7:=ha7.free 0
     have zl7:=ha7.lt
     have FIN:Hid (∀ W5,W5=(W4.setCell ⟨w.heap.size+1,0,none⟩ (.pointer none)).setCell ⟨w.heap.size+1+1,0,none⟩ (.int .i64 25)->Touch (fun k=>k<W1.heap.size\/W1.heap.size+(2+4)<=k) W4 W5/\(Touch (fun i=>(i=w.heap.size+1\/i=w.heap.size+2)\/W1.heap.size<=i) W1 W5/\W5.cell? ⟨w.heap.size+1,0,none⟩=some (.pointer none)/\W5.cell? ⟨w.heap.size+2,0,none⟩=some (.int .i64 25)/\∃ o∈L,¬ (c.fr<=o.1/\o.1+o.2<=c.tp))):=⟨fun W5 hW5=>by
      have tg:Touch (fun i=>i=w.heap.size+1\/i=w.heap.size+2) W4 W5:=by
       rw [hW5]
       exact ((Touch.refl _ W4).setCell (a:=⟨w.heap.size+1,0,none⟩) (fun _=>.inl rfl) _).setCell (a:=⟨w.heap.size+1+1,0,none⟩) (fun _=>.inr rfl) _
      have b6:Rec W5 (w.heap.size+1) 124 [.pointer none]:=by
       rw [hW5]
       exact (HA6.out.set 0 (.pointer none)).touch ((Touch.refl (fun i=>i=w.heap.size+1+1) _).setCell (a:=⟨w.heap.size+1+1,0,none⟩) (fun _=>rfl) _) (by omega)
      have b7:Rec W5 (w.heap.size+2) 39 [.int .i64 25]:=by
       rw [hW5]
       exact (HA7.out.touch ((Touch.refl (fun i=>i=w.heap.size+1) W4).setCell (a:=⟨w.heap.size+1,0,none⟩) (fun _=>rfl) (.pointer none)) (by omega)).set 0 (.int .i64 25)
      refine ⟨tg.mono (fun b _ h=>.inl (by have:=HS1.out;omega)),(HI4.out.1.mono (fun _ _ h=>.inr h)).trans (tg.mono (fun _ _ h=>.inl h)),b6.cell (j:=0) rfl,b7.cell (j:=0) rfl,HNI.out⟩⟩
     clear hI3 hI4 hgv ht4 ha6 ha7 hsa hsz
     by_cases hlo:sa<c.fr
     ·have e0:decide ((sa:Int)<(c.fr:Int))=true:=decide_eq_true (by omega)
      have e2:decide (sa<c.fr)=true:=decide_eq_true hlo
      clear hin hlo
      gi_wp2
      exact ⟨(FIN.out _ rfl).1,rfl,(FIN.out _ rfl).2⟩
     ·have e0:decide ((sa:Int)<(c.fr:Int))=false:=decide_eq_false (by omega)
      have e2:decide (sa<c.fr)=false:=decide_eq_false hlo
      have e1:decide ((c.tp:Int)<(sa:Int)+(sz:Int))=true:=decide_eq_true (by omega)
      clear hin hlo
      gi_wp2
      exact ⟨(FIN.out _ rfl).1,rfl,(FIN.out _ rfl).2⟩
   case done=>
    rintro D j W3 hD rfl hI3 hK
    have ra3:=(HI.out.r6.gr hg1).touch hI3.1 (by have:=HI.out.r6.lt;omega)
    have rz3:=(HI.out.r7.gr hg1).touch hI3.1 (by have:=HI.out.r7.lt;omega)
    have q0:=ra3.cell (j:=0) rfl
    have q1:=ra3.free 0
    have ql:=ra3.lt
    have p0:=rz3.cell (j:=0) rfl
    have p1':=rz3.free 0
    have pl:=rz3.lt
    have HK:=hid hK
    have HD:=hid hD
    have HI3:=hid hI3
    have HRA:=hid ra3
    have HRZ:=hid rz3
    have hs3:=hI3.1.size
    clear hK hD hI3 ra3 rz3
    gi_wp2
    have tg:Touch (fun i=>i=w.heap.size+1\/i=w.heap.size+2) W3 ((W3.setCell ⟨w.heap.size+1,0,none⟩ (.pointer (some ⟨m,0,none⟩))).setCell ⟨w.heap.size+1+1,0,none⟩ (.int .i64 0)):=
     ((Touch.refl _ W3).setCell (a:=⟨w.heap.size+1,0,none⟩) (fun _=>.inl rfl) _).setCell (a:=⟨w.heap.size+1+1,0,none⟩) (fun _=>.inr rfl) _
    have b6:Rec ((W3.setCell ⟨w.heap.size+1,0,none⟩ (.pointer (some ⟨m,0,none⟩))).setCell ⟨w.heap.size+1+1,0,none⟩ (.int .i64 0)) (w.heap.size+1) 124 [.pointer (some ⟨m,0,none⟩)]:=
     (HRA.out.set 0 (.pointer (some ⟨m,0,none⟩))).touch ((Touch.refl (fun i=>i=w.heap.size+1+1) _).setCell (a:=⟨w.heap.size+1+1,0,none⟩) (fun _=>rfl) _) (by omega)
    have b7:Rec ((W3.setCell ⟨w.heap.size+1,0,none⟩ (.pointer (some ⟨m,0,none⟩))).setCell ⟨w.heap.size+1+1,0,none⟩ (.int .i64 0)) (w.heap.size+2) 39 [.int .i64 0]:=
     (HRZ.out.touch ((Touch.refl (fun i=>i=w.heap.size+1) W3).setCell (a:=⟨w.heap.size+1,0,none⟩) (fun _=>rfl) (.pointer (some ⟨m,0,none⟩))) (by omega)).set 0 (.int .i64 0)
    have hD:=HD.out
    have hK':=(tg.block D (Array.getElem?_eq_some_iff.1 HK.out).1 (by omega)).trans HK.out
    generalize ((W3.setCell ⟨w.heap.size+1,0,none⟩ (.pointer (some ⟨m,0,none⟩))).setCell ⟨w.heap.size+1+1,0,none⟩ (.int .i64 0))=W5 at *
    have k6:=b6.cell (j:=0) rfl
    have k7:=b7.cell (j:=0) rfl
    rw [show w.heap.size+2=w.heap.size+1+1 from rfl] at k7
    refine ⟨by simp,.inl ⟨_,_,rfl,run_takeDeferred hK',?_⟩⟩
    have h1':=cell_kept k6 (grownBy_putObj' _ D (.deferred none)) (fun r e=>by cases e;exact ⟨_,hK',rfl⟩)
    have h2':=cell_kept k7 (grownBy_putObj' _ D (.deferred none)) (fun r e=>by cases e;exact ⟨_,hK',rfl⟩)
    have tD:Touch (fun i=>W1.heap.size<=i) W5 (W5.putObj D (.deferred none)):=touch_putObj _ D _ (by omega)
    refine ⟨.tuple #[.pointer (some ⟨m,0,none⟩),.int .i64 0],?_,?_,?_,.inl ⟨L,m,p1,b1,p2,b2,⟨HMK.out,fun o ho=>?_⟩,rfl,?_,?_⟩⟩
    ·simp [results,Tryz.f104,go_sem,h1',h2']
    ·exact (((HI.out.t.trans (hg1.touch _)).trans' HI3.out.1 (fun i hi h=>by omega)).trans' tg (fun i hi h=>by omega)).trans' tD (fun i hi h=>by omega)
    ·exact (((HI.out.vm.gr hg1).touch HI3.out.1 (fun i hi _ h=>by have:=hi.2;omega)).touch tg (fun i hi _ h=>by have:=hi.2;omega)).touch tD (fun i hi _ h=>by have:=hi.2;omega)
    ·obtain ⟨i,hi,rfl⟩:=List.getElem_of_mem ho
     have:=HI3.out.2.2 i hi hi
     omega
    ·have hl:=HI.out
     have l0:=hl.lm
     have l1:=hl.l1
     have l2:=hl.l2
     have l3:=hl.l3
     have l4:=hl.l4
     exact ((((HEX.out.gr hg1).touch HI3.out.1 (by omega) (by omega) (by omega) (by omega) (by omega))).touch tg (by omega) (by omega) (by omega) (by omega) (by omega)).touch tD (by omega) (by omega) (by omega) (by omega) (by omega)
    ·have hl:=HI.out
     have l0:=hl.lm
     have l1:=hl.l1
     have l2:=hl.l2
     have l3:=hl.l3
     have l4:=hl.l4
     omega
   case stop=>
    rintro D cd W3 hD ⟨rfl,ht3,h1,h2,hno⟩ hK
    have HNO:=hid hno
    have HK:=hid hK
    have HT3:=hid ht3
    have hz3:=ht3.size
    clear hno hK ht3
    gi_wp2
    refine ⟨by simp,.inl ⟨_,_,rfl,run_takeDeferred HK.out,?_⟩⟩
    have h1':=cell_kept h1 (grownBy_putObj' _ D (.deferred none)) (fun r e=>by cases e;exact ⟨_,HK.out,rfl⟩)
    have h2':=cell_kept h2 (grownBy_putObj' _ D (.deferred none)) (fun r e=>by cases e;exact ⟨_,HK.out,rfl⟩)
    rw [show w.heap.size+2=w.heap.size+1+1 from rfl] at h2'
    have tD:Touch (fun i=>W1.heap.size<=i) W3 (W3.putObj D (.deferred none)):=touch_putObj _ D _ (by omega)
    refine ⟨.tuple #[.pointer none,.int .i64 25],?_,?_,?_,.inr ⟨fun L' h=>?_,rfl⟩⟩
    ·simp [results,Tryz.f104,go_sem,h1',h2']
    ·exact (((HI.out.t.trans (hg1.touch _)).trans' HT3.out (fun i hi h=>by omega))).trans' tD (fun i hi h=>by omega)
    ·exact ((HI.out.vm.gr hg1).touch HT3.out (fun i hi _ h=>by have:=hi.2;omega)).touch tD (fun i hi _ h=>by have:=hi.2;omega)
    ·have e:=h.1.unique HMK.out
     subst e
     obtain ⟨o,ho,hno⟩:=HNO.out
     have:=h.2 o ho
     exact hno (by omega)
  ·have q0:=hr6.cell (j:=0) rfl
   have q1:=hr6.free 0
   have ql:=hr6.lt
   have p0:=hr7.cell (j:=0) rfl
   have p1':=hr7.free 0
   have pl:=hr7.lt
   have HNS:=hid hns
   have HR6:=hid hr6
   have HR7:=hid hr7
   clear hr6 hr7 hns hbx
   gi_wp2
   have tg:Touch (fun i=>i=w.heap.size+1\/i=w.heap.size+2) wc ((wc.setCell ⟨w.heap.size+1,0,none⟩ (.pointer none)).setCell ⟨w.heap.size+1+1,0,none⟩ (.int .i64 25)):=
    ((Touch.refl _ wc).setCell (a:=⟨w.heap.size+1,0,none⟩) (fun _=>.inl rfl) _).setCell (a:=⟨w.heap.size+1+1,0,none⟩) (fun _=>.inr rfl) _
   have b6:Rec ((wc.setCell ⟨w.heap.size+1,0,none⟩ (.pointer none)).setCell ⟨w.heap.size+1+1,0,none⟩ (.int .i64 25)) (w.heap.size+1) 124 [.pointer none]:=
    (HR6.out.set 0 (.pointer none)).touch ((Touch.refl (fun i=>i=w.heap.size+1+1) _).setCell (a:=⟨w.heap.size+1+1,0,none⟩) (fun _=>rfl) _) (by omega)
   have b7:Rec ((wc.setCell ⟨w.heap.size+1,0,none⟩ (.pointer none)).setCell ⟨w.heap.size+1+1,0,none⟩ (.int .i64 25)) (w.heap.size+2) 39 [.int .i64 25]:=
    (HR7.out.touch ((Touch.refl (fun i=>i=w.heap.size+1) wc).setCell (a:=⟨w.heap.size+1,0,none⟩) (fun _=>rfl) (.pointer none)) (by omega)).set 0 (.int .i64 25)
   generalize ((wc.setCell ⟨w.heap.size+1,0,none⟩ (.pointer none)).setCell ⟨w.heap.size+1+1,0,none⟩ (.int .i64 25))=W5 at *
   have k6:=b6.cell (j:=0) rfl
   have k7:=b7.cell (j:=0) rfl
   rw [show w.heap.size+2=w.heap.size+1+1 from rfl] at k7
   refine ⟨.tuple #[.pointer none,.int .i64 25],?_,?_,?_,.inr ⟨fun L' h=>HNS.out h.1.sound,rfl⟩⟩
   ·simp [results,Tryz.f104,go_sem,k6,k7]
   ·exact HI.out.t.trans' tg (fun i hi h=>by omega)
   ·exact HI.out.vm.touch tg (fun i hi _ h=>by have:=hi.2;omega)
end
end Go.Proofs.YtbmidhlilafgeaaGreatDoor
end
