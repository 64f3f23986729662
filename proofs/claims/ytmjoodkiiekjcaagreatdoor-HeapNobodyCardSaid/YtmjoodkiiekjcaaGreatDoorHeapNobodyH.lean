/- Part 8 of what HeapNobody leans on: my own lemmas, merged by shake.py. -/
import Derived.Test.YtmjoodkiiekjcaaGreatDoorHeapNobodyG
import Derived.Maps.OwnIn
namespace Go.Proofs.YtmjoodkiiekjcaaGreatDoor
set_option maxRecDepth 100000
section
section
open Go.RowKit Word
def CpJ (w3:World) (S3:Nat->Prop) (K M q g:Nat) (v:Vm) (rs:List Int) (L:List Ob) (to:Nat) (i:Nat) (W:World) (out:List Int):Prop:=
 ∃ O v' Si,(∀ b,Si b->plus S3 w3 b)/\Ynt W Si K M q v to O v'/\CpS v rs L to O 0 0 v'/\O=X4e [] (rs.take i)/\out=(rs.take i).map (fun a=>YQE v O to a)/\XF4 (fun b=>b=g\/(b=K\/b=M)\/S3 b) w3 W
structure CpL (w3 wr:World) (S3 Si:Nat->Prop) (K M q r g:Nat) (v:Vm) (rs out:List Int) (L:List Ob) (to k:Nat) (v':Vm):Prop where
 sub:∀ b,Si b->plus S3 w3 b
 cat:Ynt wr Si K M q v to (QnE v rs k) v'
 st:CpS v rs L to (QnE v rs k) k 0 v'
 oe:out=rs.map (fun a=>YQE v (QnE v rs k) to a)
 t:XF4 (fun b=>b=g\/(b=K\/b=M)\/S3 b) w3 wr
 rt:V5d wr r g out
def YZS (w:World) (S:Nat->Prop) (q r g:Nat) (v:Vm) (rs:List Int) (c:Cf) (e:Ending) (w':World):Prop:=
 ∃ L,Zx6 v rs v.n L/\XF4 (fun b=>b=g\/S b) w w' ∧
  ((Jsl v c.to ((c.to+Qd4 L:Nat):Int)≠0/\e=.returned (.tuple #[.int .i64 0,.int .i64 (Jsl v c.to ((c.to+Qd4 L:Nat):Int))])/\Y1U w' (plus S w) q v []/\V5d w' r g rs) ∨
   (Jsl v c.to ((c.to+Qd4 L:Nat):Int)=0/\e=.returned (.tuple #[.int .i64 ((c.to+Qd4 L:Nat):Int),.int .i64 0]) ∧
   ∃ v1 v2 k kq,Qgx v rs c L v1 v2 k kq/\QXZ w' (plus S w) q (umN v2 (c.fr/v.pl.pg) kq)/\V5d w' r g (rs.map (fun a=>YQE v1 (QnE v1 rs k) c.to a))))
theorem Ynt.touch {S T:Nat->Prop} {w w':World} {K M q:Nat} {v v':Vm} {to:Nat} {O:List Int} (h:Ynt w S K M q v to O v') (t:XF4 T w w') (hK:¬ T K) (hM:¬ T M) (hS:∀ b,S b->b<w.heap.size->¬ T b):Ynt w' S K M q v to O v':=
 ⟨h.rc.touch t hK,h.mp.touch t hM,h.vm.touch t hS,h.nK,h.nM⟩
structure JFi (w3:World) (S3:Nat->Prop) (K M r g:Nat):Prop where
 r3:r<w3.heap.size
 g3:g<w3.heap.size
 rK:r≠K
 rM:r≠M
 gK:g≠K
 gM:g≠M
 rS:¬ S3 r
 gS:¬ S3 g
structure UmI (w3 wx:World) (S3:Nat->Prop) (K M q r g:Nat) (v:Vm) (out:List Int) (tt q0 j pg tp:Nat):Prop where
 t:XF4 (fun b=>b=g\/(b=K\/b=M)\/S3 b) w3 wx
 vm:∃ Sj,(∀ b,Sj b->plus S3 w3 b)/\QXZ wx Sj q (umN v q0 j)/\¬ Sj K
 rc:Rec wx K 205 [.pointer (some ⟨q,0,none⟩),.map (some M),.int .i64 tt]
 rt:V5d wx r g out
 q1:∀ i,i<j->(q0+i)*pg<tp
theorem UmI.gr {w3 wx w':World} {S3:Nat->Prop} {K M q r g:Nat} {v:Vm} {out:List Int} {tt q0 j pg tp:Nat} (h:UmI w3 wx S3 K M q r g v out tt q0 j pg tp) (g':Gr wx w'):UmI w3 w' S3 K M q r g v out tt q0 j pg tp:=by
 obtain ⟨h1,⟨Sj,h2,h3,h4⟩,h5,h6,h7⟩:=h;exact ⟨h1.trans (g'.touch _),⟨Sj,h2,h3.gr g',h4⟩,h5.gr g',h6.gr g',h7⟩
section
variable {w3:World} {S3:Nat->Prop} {K M q r g to:Nat} {v1:Vm} {rs:List Int} {L:List Ob}
theorem Q0I (hcat:Ynt w3 S3 K M q v1 to [] v1) (cx:ZrG v1 rs L to) (fo:XKC v1 L) (hR:V5d w3 r g rs) (hrs:∀ a∈rs,0<=a/\a<=2147483647) (sp:JFi w3 S3 K M r g):
  Calls Tryz.prog 87 #[.pointer (some ⟨r,0,none⟩),.func (.func 134) #[.pointer (some ⟨K,0,none⟩)] #[]] w3 fun e w'=>e=.returned (.tuple #[])/\∃ out v' Si,CpL w3 w' S3 Si K M q r g v1 rs out L to 0 v':=by
 have h0:CpJ w3 S3 K M q g v1 rs L to 0 w3 []:=⟨[],v1,S3,fun b h=>.inl h,hcat,⟨List.nodup_nil,(fun _ h=>by cases h),Cpd.nil cx.ok to,(fun j hj=>absurd hj (Nat.not_lt_zero _)),.inr ⟨rfl,rfl⟩⟩,rfl,rfl,XF4.refl _ _⟩;refine (ZOv (F:=134) (pre:=#[.pointer (some ⟨K,0,none⟩)]) (caps:=#[]) (CpJ w3 S3 K M q g v1 rs L to) (fun _ _=>by kernel_rfl) hR h0 ?_ ?_).mono ?_
 ·rintro i hi W out ho ⟨O,v',Si,h1,h2,h3,h4,h5,h6⟩ hz;refine ⟨O,v',Si,h1,h2,h3,?_,?_,h6⟩
  ·rw [V37 hi,QwE,<-h4,hz];exact (if_pos (.inl rfl)).symm
  ·rw [V37 hi,List.map_append,<-h5,hz]
   show out++[0]=out++[YQE v1 O to 0]
   rw [YPv v1 _ (h3.zero cx)]
 ·rintro i hi W out ho ⟨O,v',Si,h1,h2,h3,h4,h5,h6⟩ hrt hne W0 hg0;obtain ⟨q1,q2⟩:=hrs _ (List.getElem_mem hi);obtain ⟨a,ha⟩:∃ a:Nat,(a:Int)=rs[i]:=⟨rs[i].toNat,by omega⟩;have hr:Rch v1 rs a:=by rw [ha];exact Rch.root (List.getElem_mem hi) hne
  have hcall:=Zz2 (h2.gr hg0) cx fo h3 (a:=a) (.inr hr) (by omega);rw [ha] at hcall;refine hcall.mono ?_;rintro e W' ⟨v'',rfl,ht,hc',hs'⟩;have hzW:=h6.size;have hz0:=hg0.size;have hz':=ht.size;have hno:∀ b,b<w3.heap.size->¬ S3 b->¬ Si b:=fun b hb hn h=>(h1 b h).elim hn (fun h=>by omega);have ham:(a:Int)∈Yfl O a:=Q9S.2 (.inr ⟨rfl,by omega⟩);have hb0:0<=YQE v1 (Yfl O (a:Int)) to a:=by have:=(VEW v1 (to:Int) ham).1;omega
  rw [<-ha] at hs' hc' ⊢;refine ⟨_,rfl,(hrt.gr hg0).touch ht (fun h=>?_) (fun h=>?_),fun W'' t''=>⟨Yfl O a,v'',plus Si W0,fun b hb=>?_,hc'.touch t'' (Ne.symm sp.gK) (Ne.symm sp.gM) (fun b hb _ e=>?_),hs',?_,?_,?_⟩⟩
  ·rcases h with (h | h) | h
   ·exact sp.rK h
   ·exact sp.rM h
   ·exact hno _ sp.r3 sp.rS h
  ·rcases h with (h | h) | h
   ·exact sp.gK h
   ·exact sp.gM h
   ·exact hno _ sp.g3 sp.gS h
  ·rcases hb with h | h
   ·exact h1 b h
   ·right;omega
  ·subst e;rcases hb with h | h
   ·exact hno _ sp.g3 sp.gS h
   ·have:=sp.g3;omega
  ·rw [V37 hi,QwE,<-h4,<-ha]
  ·obtain ⟨X,hX⟩:=XTn O (a:Int);rw [V37 hi,List.map_append,<-ha,Int.max_eq_left hb0]
   show out++[_]=_++[_]
   congr 1;rw [h5]
   have hl:∀ b∈rs.take i,b=0\/b∈O:=fun b hb=>by
    by_cases h0:b=0
    ·exact .inl h0
    ·right;rw [h4];exact Z9b.2 (.inr ⟨hb,h0⟩)
   rw [hX];exact (XeB cx (by rw [<-hX];exact hs'.rch) hl).symm
  ·refine ((h6.trans (hg0.touch _)).trans' ht (fun b hb h=>?_)).trans (t''.mono (fun b _ h=>.inl h));rcases h with h | h
   ·exact .inr (.inl h)
   ·exact (h1 b h).elim (fun h=>.inr (.inr h)) (fun h=>by omega)
 ·rintro e w' ⟨rfl,out,-,⟨O,v',Si,h1,h2,h3,h4,h5,h6⟩,hrt⟩;rw [List.take_length] at h4 h5;have hO:O=QnE v1 rs 0:=h4;subst hO;exact ⟨rfl,out,v',Si,h1,h2,h3,h5,h6,hrt⟩
end
section
variable {w:World} {S:Nat->Prop} {q r g:Nat} {v:Vm} {rs:List Int} {c:Cf}
set_option maxHeartbeats 6400000 in
theorem Qj5 (hV:QXZ w S q v) (hR:V5d w r g rs) (hT:VRW w) (htS:¬ S 1) (hrS:¬ S r) (hgS:¬ S g) (hc:JQF v rs c) (hm:∀ a:Nat,c.fr<=a->a<c.tp->v.ldE a=0) (hrs:∀ a∈rs,0<=a/\a<=2147483647):
  Calls Tryz.prog 61 #[.pointer (some ⟨q,0,none⟩),.pointer (some ⟨r,0,none⟩),cfV c] w (YZS w S q r g v rs c):=by
 have HV:=hid hV.cut;have HR:=hid hR;have HT:=hid hT;have HNO:=hid (And.intro htS (And.intro hrS hgS));have HC:=hid hc;have HM:=hid hm;have HRS:=hid hrs;have hcf:=hc.cf;have hpg:=hV.ok.page;have hok:=hV.ok;have hn2:=hV.ok.n2;have htl:=hT.lt;have hrl:=hR.lt;have hto:=hcf.to;have hlm:=hcf.ln;have hfr:=hcf.fr;have HG1:=hid ((Gr.refl w).alloc (.cells #[.int .i64 c.fr,.int .i64 c.tp,.int .i64 c.to,.int .i64 c.lm,.int .i64 c.bk,.int .i64 c.st,.int .i64 c.ah] 116));have rb:=Rec.new w 116 [.int .i64 c.fr,.int .i64 c.tp,.int .i64 c.to,.int .i64 c.lm,.int .i64 c.bk,.int .i64 c.st,.int .i64 c.ah];obtain ⟨W0,hW0⟩:∃ W0,W0=w.alloc (.cells #[.int .i64 c.fr,.int .i64 c.tp,.int .i64 c.to,.int .i64 c.lm,.int .i64 c.bk,.int .i64 c.st,.int .i64 c.ah] 116):=⟨_,rfl⟩;have hsz0:W0.heap.size=w.heap.size+1:=by rw [hW0,World.size_alloc]
 rw [<-hW0] at HG1;rw [show w.alloc (.cells ([.int .i64 c.fr,.int .i64 c.tp,.int .i64 c.to,.int .i64 c.lm,.int .i64 c.bk,.int .i64 c.st,.int .i64 c.ah]:List Value).toArray 116)=W0 from hW0.symm] at rb;have HRB:=hid rb;have HSD:=hid (Qwc (HV.o.gr HG1.o) (HR.o.gr HG1.o) (HG1.o.tab htl HT.o) (fun h=>htS h.1) hc);have z0:=rb.cell (j:=0) rfl;have z1:=rb.cell (j:=1) rfl;have z2:=rb.cell (j:=2) rfl;have z3:=rb.cell (j:=3) rfl;have z4:=rb.cell (j:=4) rfl;have z5:=rb.cell (j:=5) rfl;have z6:=rb.cell (j:=6) rfl;have zl:=rb.lt;have HCF:=hid hcf;have HOK:=hid hok;unfold cfV at HSD ⊢;clear hV hR hT htS hrS hgS hc hm hrs rb hcf hok;go_enter Tryz.func61,Tryz.ntmps61;go_upto_region 1 with (fail);rw [<-hW0];clear hW0;go_upto_region 4 with (go_at_call 132;refine HSD.o.mono ?_;rintro e w1 ⟨L,hM,rfl,ht1,hv1⟩;have HMK:=hid hM;have HT1:=hid ht1;have HV1:=hid hv1;have HB1:=hid (HRB.o.touch ht1 (fun h=>by have:=h.2;omega));have HR1:=hid ((HR.o.gr HG1.o).touch ht1 (fun h=>HNO.o.2.1 h.1) (fun h=>HNO.o.2.2 h.1));have y0:=HB1.o.cell (j:=0) rfl;have y1:=HB1.o.cell (j:=1) rfl;have y2:=HB1.o.cell (j:=2) rfl;have yl:=HB1.o.lt;clear hM ht1 hv1);obtain ⟨hin,htot⟩:=HC.o.inn L HMK.o;obtain ⟨nn,hnn⟩:∃ nn,nn=Qd4 L:=⟨_,rfl⟩;have HNN:=hid hnn;rw [<-hnn] at htot ⊢;have hcast:(c.to:Int)+(nn:Int)=((c.to+nn:Nat):Int):=by push_cast;rfl
 have HND:Hid (Calls Tryz.prog 133 #[.pointer (some ⟨q,0,none⟩),.int .i64 c.to,.int .i64 ((c.to:Int)+(nn:Int))] w1 fun e w'=>e=.returned (.int .i64 (Jsl v c.to ((c.to+nn:Nat):Int)))/\XF4 (ZOk S w) w1 w'/\Y1U w' (plus (ZOk S w) w1) q v (J5L v c.to ((c.to+nn:Nat):Int))):=⟨by
  rw [hcast];by_cases h0:nn=0
  ·subst h0;have hq:=VGS (v:=v) (f:=c.to) (by omega);rw [Nat.add_zero,hq.1,hq.2];refine (Q7x HV1.o c.to c.to (by omega) (Nat.le_refl _)).mono ?_;rintro e w' ⟨rfl,hg⟩;exact ⟨rfl,hg.touch _,v,Ji4.refl HOK.o,(HV1.o.gr hg).mono (fun b hb=>.inl hb.1)⟩
  ·refine (VfQ HV1.o c.to (c.to+nn) (by omega) (by omega)).mono ?_;rintro e w' ⟨rfl,ht,v',hg,hv⟩
   exact ⟨rfl,ht.mono (fun b _ hb=>hb.1),v',hg,hv.mono (fun b hb=>hb.imp (fun h=>h.1) id)⟩⟩
 clear z0 z1 z2 z3 z4 z5 z6 zl hnn hcast;obtain ⟨E,hE⟩:∃ E,E=Jsl v c.to ((c.to+nn:Nat):Int):=⟨_,rfl⟩;have HE:=hid hE;rw [<-hE] at HND;clear hE;by_cases hE0:E=0
 ·subst hE0;have hmk:=@run_makeMap Tryz.prog;have hmf:∀ (fn:Fn) (first cap:Array Value) (w:World),(Instr.makeFunc fn first cap).run Tryz.prog w=.ok (.func fn first cap) w:=fun _ _ _ _=>rfl;go_upto_region 8 with (go_at_call 133;refine HND.o.mono ?_;rintro e w2 ⟨rfl,ht2,hg2⟩;have HT2:=hid ht2;have HG2:=hid hg2;have HB2:=hid (HB1.o.touch ht2 (fun h=>by have:=h.2;omega));have HR2:=hid (HR1.o.touch ht2 (fun h=>HNO.o.2.1 h.1) (fun h=>HNO.o.2.2 h.1));have x2:=HB2.o.cell (j:=2) rfl;have xl:=HB2.o.lt;clear ht2 hg2);obtain ⟨v1,hg1,hv1⟩:=HG2.o;rw [HNN.o] at hg1;have hE:=HE.o;rw [HNN.o] at hE;obtain ⟨cx,fo⟩:=Z25 HOK.o HC.o HMK.o hE.symm hg1 HM.o;have hz1:=HT1.o.size;have hz2:=HT2.o.size;have hS3:∀ b,ZOk (plus (ZOk S w) w1) w2 b->plus S w b/\b<w2.heap.size:=fun b hb=>⟨hb.1.elim (fun h=>.inl h.1) (fun h=>.inr (by omega)),hb.2⟩
  have hrec:=VOf w2 (.map #[] 0) 205 [.pointer (some ⟨q,0,none⟩),.map (some w2.heap.size),.int .i64 c.to];have hg3:Gr w2 ((w2.alloc (.map #[] 0)).alloc (.cells #[.pointer (some ⟨q,0,none⟩),.map (some w2.heap.size),.int .i64 c.to] 205)):=((Gr.refl w2).alloc _).alloc _;have hmap:=(YER.made (P:=Tryz.prog) (K:=3) w2).gr ((Gr.refl _).alloc (.cells #[.pointer (some ⟨q,0,none⟩),.map (some w2.heap.size),.int .i64 c.to] 205));obtain ⟨M,hM⟩:∃ M,M=w2.heap.size:=⟨_,rfl⟩;obtain ⟨W3,hW3⟩:∃ W3,W3=((w2.alloc (.map #[] 0)).alloc (.cells #[.pointer (some ⟨q,0,none⟩),.map (some w2.heap.size),.int .i64 c.to] 205)):=⟨_,rfl⟩;have hsz3:W3.heap.size=M+2:=by rw [hW3,World.size_alloc,World.size_alloc,hM]
  have hMw:w.heap.size<M:=by rw [hM];exact HB2.o.lt
  have hMw2:M<=w2.heap.size/\w2.heap.size<=M:=by omega
  rw [show (w2.alloc (.map #[] 0)).alloc (.cells ([.pointer (some ⟨q,0,none⟩),.map (some w2.heap.size),.int .i64 c.to]:List Value).toArray 205)=W3 from hW3.symm] at hrec;rw [<-hW3] at hg3 hmap ⊢;rw [<-hM] at hrec hmap hS3 ⊢;have hr1:=HR1.o.lt;have hr2:=HR2.o.lt;have hcat:Ynt W3 (ZOk (plus (ZOk S w) w1) w2) (M+1) M q v1 c.to [] v1:=⟨by simpa [Xmc] using hrec,hmap.congr (fun y=>by simp [VZL]),hv1.cut.gr hg3,fun h=>by have:=(hS3 _ h).2;omega,fun h=>by have:=(hS3 _ h).2;omega⟩;have hsp:JFi W3 (ZOk (plus (ZOk S w) w1) w2) (M+1) M r g:=⟨by omega,by omega,by omega,by omega,by omega,by omega,fun h=>(hS3 _ h).1.elim HNO.o.2.1 (fun h=>by omega),fun h=>(hS3 _ h).1.elim HNO.o.2.2 (fun h=>by omega)⟩;have HTU:=hid (Q0I hcat cx fo (HR2.o.gr hg3) HRS.o hsp);have HCX:=hid (And.intro cx fo);have HG3:=hid hg3;have HGR:=hid hg1;have HS3:=hid hS3;have HSP:=hid hsp;have x0':=(HB2.o.gr hg3).cell (j:=2) rfl;have xl':=(HB2.o.gr hg3).lt;clear hg1 hv1 cx fo hW3 hM hg3 hmap hrec hcat hsp hS3 x2 xl y0 y1 y2 yl hE;go_upto_region 9 with (go_at_call 87;refine HTU.o.mono ?_;rintro e w4 ⟨rfl,out,v',Si,hL⟩;have HL:=hid hL;clear hL)
  have HBX:Hid (∀ W' S',XF4 (fun b=>b=g\/(b=M+1\/b=M)\/ZOk (plus (ZOk S w) w1) w2 b) W3 W'->Gr W' S'->Rec S' w.heap.size 116 [.int .i64 c.fr,.int .i64 c.tp,.int .i64 c.to,.int .i64 c.lm,.int .i64 c.bk,.int .i64 c.st,.int .i64 c.ah]):=⟨fun W' S' t g'=>((HB2.o.gr HG3.o).touch t (fun h=>by
   have h2:=HB2.o.lt;have h3:=HG3.o.size;rcases h with h | h | h
   ·omega
   ·omega
   ·rcases h.1 with h | h
    ·have:=h.2;omega
    ·omega)).gr g'⟩
  have hbx:=HBX.o _ _ HL.o.t (Gr.refl _);have u2:=hbx.cell (j:=2) rfl;have ul:=hbx.lt;clear hbx x0' xl' hmk;go_wp2
  go_loopw [12] (fun s12 wr=>∃ (k:Nat) (v':Vm) (Si:Nat->Prop),Hid (CpL W3 wr (ZOk (plus (ZOk S w) w1) w2) Si (M+1) M q r g v1 rs out L c.to k v')/\s12=.int .i64 ((c.to:Int)+Xmc v1 ((QnE v1 rs k).take k))) (fun s12 _=>((c.to:Int)+Qd4 L+1-intOf s12).toNat)
  case atStart=>exact ⟨0,v',Si,HL,by simp [Xmc]⟩
  case round=>
   obtain ⟨k,v'',Si',HLk,rfl⟩:=hrel;obtain ⟨cx,fo⟩:=HCX.o;have hlt:=HLk.o.st.lt;have c2:=HLk.o.cat.rc.cell (j:=2) rfl;have hsum:=cx.sum HLk.o.st.nd HLk.o.st.rch;have hs0:=YB0 v1 ((QnE v1 rs k).take k);have hs1:=ZWV v1 (QnE v1 rs k) k;have hctop:=cx.top;have hvn:v1.n=v.n:=HGR.o.n;clear u2 ul;by_cases hk:k<(QnE v1 rs k).length
   ·have hosz:=(QXB (cx.mks.sound.rd _ (HLk.o.st.rch _ (List.getElem_mem hk)))).2.1;have htk:=VZm v1 hk;have hs2:=ZWV v1 (QnE v1 rs k) (k+1);have HTN:=hid (ZQS HLk.o.cat cx fo HLk.o.st hk);have HK:=hid hk;have HTK:Hid (Xmc v1 ((QnE v1 rs k).take k)+1<=Xmc v1 ((QnE v1 rs k).take (k+1))):=⟨by omega⟩;obtain ⟨aa,haa⟩:∃ aa:Nat,(aa:Int)=c.to+Xmc v1 ((QnE v1 rs k).take k):=⟨((c.to:Int)+Xmc v1 ((QnE v1 rs k).take k)).toNat,by omega⟩;obtain ⟨tt,htt⟩:∃ tt:Nat,(tt:Int)=c.to+Xmc v1 (QnE v1 rs k):=⟨((c.to:Int)+Xmc v1 (QnE v1 rs k)).toNat,by omega⟩;have HAA:=hid haa;rw [<-haa] at HTN ⊢;rw [<-htt] at c2;have e0:decide ((aa:Int)<(tt:Int))=true:=decide_eq_true (by omega);have e1:decide (aa<tt)=true:=decide_eq_true (by omega);have HB:=hid (And.intro hs2 hsum);clear hk hosz htk hs2 haa htt cx fo hlt hsum hs0 hs1 hctop hvn;go_wp2_with (go_at_call 135;refine HTN.o.mono ?_;rintro e w5 ⟨v3,rfl,ht5,hc5,hs5⟩;have HT5:=hid ht5;have HC5:=hid hc5;have HS5:=hid hs5;clear ht5 hc5 hs5);go_round
    case rel=>
     have hnx:=YnT HK.o;refine ⟨k+1,v3,plus Si' wr,⟨⟨fun b hb=>?_,by rw [hnx];exact HC5.o,by rw [hnx];exact HS5.o,?_,?_,?_⟩⟩,?_⟩
     ·have:=HLk.o.t.size;rcases hb with h | h
      ·exact HLk.o.sub b h
      ·right;omega
     ·rw [HLk.o.oe];obtain ⟨X,hX⟩:=VRh v1 rs k;have hrch:∀ a∈QnE v1 rs k++X,Rch v1 rs a:=fun a ha=>V16 HCX.o.1 (k+1) a (by rw [hX];exact ha);rw [hX]
      exact (XeB HCX.o.1 hrch (fun a ha=>by
       by_cases h0:a=0
       ·exact .inl h0
       ·exact .inr (Zqu v1 rs k a ha h0))).symm
     ·refine HLk.o.t.trans' HT5.o (fun b hb h=>?_);rcases h with h | h
      ·exact .inr (.inl h)
      ·exact (HLk.o.sub b h).elim (fun h=>.inr (.inr h)) (fun h=>by omega)
     ·refine HLk.o.rt.touch HT5.o (fun h=>?_) (fun h=>?_)
      ·rcases h with (h | h) | h
       ·exact HSP.o.rK h
       ·exact HSP.o.rM h
       ·exact (HLk.o.sub _ h).elim HSP.o.rS (fun h=>by have:=HSP.o.r3;omega)
      ·rcases h with (h | h) | h
       ·exact HSP.o.gK h
       ·exact HSP.o.gM h
       ·exact (HLk.o.sub _ h).elim HSP.o.gS (fun h=>by have:=HSP.o.g3;omega)
     ·rw [VQN v1 rs k (by have:=HK.o;omega)]
    case measure=>
     have h1:=HTK.o;have h2:=HB.o;have h3:=HAA.o;simp only [intOf];omega
   ·have hke:k=(QnE v1 rs k).length:=by
     rcases hlt with h | h
     ·exact absurd h hk
     ·exact h.1
    have hdn:=(cx.done hke).2;rw [List.take_of_length_le (Nat.le_of_eq hke.symm)];obtain ⟨tt,htt⟩:∃ tt:Nat,(tt:Int)=c.to+Xmc v1 (QnE v1 rs k):=⟨((c.to:Int)+Xmc v1 (QnE v1 rs k)).toNat,by omega⟩;have htn:tt=c.to+Qd4 L:=by omega
    rw [<-htt] at c2 ⊢;have e0:decide ((tt:Int)<(tt:Int))=false:=decide_eq_false (by omega);have hpgv:v''.pl.pg=v.pl.pg:=HLk.o.st.cp.sm.pg.trans HGR.o.pg;have HVP:=hid (fun (W:World) (g':Gr wr W)=>VML (HLk.o.cat.vm.gr g'));rw [hpgv] at HVP;have HDN:=hid (And.intro hke (And.intro hdn htn));have HRC:Hid (Rec wr (M+1) 205 [.pointer (some ⟨q,0,none⟩),.map (some M),.int .i64 tt]):=⟨by have:=HLk.o.cat.rc;rw [<-htt] at this;exact this⟩;obtain ⟨pg,hpge⟩:∃ pg,pg=v.pl.pg:=⟨_,rfl⟩;have HPGE:=hid hpge;have haf:=HCF.o.af;have htp:=HCF.o.tp;have htpn:=HCF.o.tn;rw [<-hpge] at HVP hpg haf hfr;obtain ⟨q0,hq0⟩:∃ q0,q0=c.fr/pg:=⟨_,rfl⟩
    have hq0m:q0*pg=c.fr:=by
     have:=Nat.div_add_mod c.fr pg;rw [haf,Nat.mul_comm] at this;rw [hq0];omega
    have HQ0:=hid hq0;have g1:((c.fr:Int).tdiv (pg:Int))=(q0:Int):=by rw [hq0];rfl
    have g2:((c.fr:Int)/(pg:Int))=(q0:Int):=by rw [hq0];rfl
    have hpg0:(pg:Int)≠0:=by omega
    have hq0n:q0<=524288:=by have:=Nat.div_le_self c.fr pg;omega
    have HQM:=hid hq0m;have hbx:=HBX.o _ _ HLk.o.t (Gr.refl _);have u0:=hbx.cell (j:=0) rfl;have u1:=hbx.cell (j:=1) rfl;have ul:=hbx.lt;have HUM:Hid (UmI W3 wr (ZOk (plus (ZOk S w) w1) w2) (M+1) M q r g v'' out tt q0 0 pg c.tp):=⟨HLk.o.t,⟨Si',HLk.o.sub,HLk.o.cat.vm,HLk.o.cat.nK⟩,HRC.o,HLk.o.rt,fun i hi=>absurd hi (Nat.not_lt_zero _)⟩;have HHK:=hid hk;have HPV:Hid (v''.pl.pg=pg):=⟨by rw [hpgv,hpge]⟩;clear hbx cx fo hlt hsum hs0 hs1 hctop hvn hk hke hdn htt htn hpge hq0 hpgv hq0m hin htot;go_upto_region 12 with (fail);obtain ⟨Sx,hSx⟩:∃ Sx:World->Prop,Sx=fun W'=>W'.cell? ⟨w.heap.size,0,none⟩=some (.int .i64 c.fr):=⟨_,rfl⟩;have x1:∀ p':ZJV Sx,p'.w.cell? ⟨w.heap.size,0,none⟩=some (.int .i64 c.fr):=fun p=>ZJV.get hSx p;have hS0:Sx wr.drew:=by rw [hSx];exact u0
    have HSX:=hid hSx;have inst:Inhabited (ZJV Sx):=⟨⟨_,hS0⟩⟩;clear hSx;refine Vv2 Sx 6 [([0,1,2],3)] [4,5] (by kernel_rfl) (by kernel_rfl) hS0 ?_;refine XGW ?_;simp only [XZy,List.getElem?_cons_zero,List.getElem?_cons_succ]
    repeat (go_big_quiet_step (fail))
    refine wpQuiet_nil ?_;go_wp2_with (go_at_call 136;refine (HVP.o _ (Gr.refl wr).drew).mono ?_;rintro e w5 ⟨rfl,rfl⟩);refine ⟨.inr (ZJV.of hS0),?_⟩;refine Z9U ?_;simp only [XZy,List.getElem?_cons_zero,List.getElem?_cons_succ]
    repeat (go_big_quiet_step (fail))
    refine wpQuiet_nil ?_;refine NoPanic.normal ?_;clear x1 hS0 inst;clear HSX Sx;go_wp2
    go_loopw [13] (fun s13 wx=>∃ j:Nat,Hid (UmI W3 wx (ZOk (plus (ZOk S w) w1) w2) (M+1) M q r g v'' out tt q0 j pg c.tp)/\s13=.int .i64 ((q0+j:Nat):Int)) (fun s13 _=>c.tp-(intOf s13).toNat*pg)
    case atStart=>exact ⟨0,⟨HUM.o.gr (Gr.refl wr).drew⟩,rfl⟩
    case round=>
     obtain ⟨j,HU,rfl⟩:=hrel;clear u0 u1 ul c2;obtain ⟨Sj,hsj,hvj,hnk⟩:=HU.o.vm;have hbx:=HBX.o _ _ HU.o.t (Gr.refl _);have u1:=hbx.cell (j:=1) rfl;have hVP:=VML (hvj.gr (Gr.refl wr).drew);rw [(Jow v'' q0 j).2.1,HPV.o] at hVP;have HVP2:=hid hVP;have HVJ:=hid hvj;have HSJ:=hid (And.intro hsj hnk);obtain ⟨qq,hqq⟩:∃ qq,qq=q0+j:=⟨_,rfl⟩;obtain ⟨pp,hpp⟩:∃ pp,pp=qq*pg:=⟨_,rfl⟩
     have hppb:pp<=1048576:=by
      rcases Nat.eq_zero_or_pos j with h0 | h0
      ·rw [hpp,hqq,h0,Nat.add_zero,HQM.o];omega
      ·have:=HU.o.q1 (j-1) (by omega);have e:pp=(q0+(j-1))*pg+pg:=by rw [hpp,hqq,show q0+j=(q0+(j-1))+1 by omega,Nat.add_mul,Nat.one_mul]
       omega
     have hqb:qq<=pp:=by rw [hpp];exact Nat.le_mul_of_pos_right _ (by omega)
     have hmul:((qq:Int)*(pg:Int))=(pp:Int):=by rw [hpp];push_cast;rfl
     have HQQ:=hid (And.intro hqq hpp);rw [<-hqq];clear hbx hVP hvj hsj hnk hqq hpp;by_cases hlt:pp<c.tp
     ·have e1:decide ((pp:Int)<(c.tp:Int))=true:=decide_eq_true (by omega);have e2:decide (pp<c.tp)=true:=decide_eq_true hlt;have HLT:=hid hlt;have HUN:=hid (fun (W:World) (g':Gr wr W)=>JYA (HVJ.o.gr g') (qq:Int));clear hlt;go_upto_region 13 with (fail);obtain ⟨Sx,hSx⟩:∃ Sx:World->Prop,Sx=fun W'=>W'.cell? ⟨w.heap.size,1,none⟩=some (.int .i64 c.tp):=⟨_,rfl⟩;have x1:∀ p':ZJV Sx,p'.w.cell? ⟨w.heap.size,1,none⟩=some (.int .i64 c.tp):=fun p=>ZJV.get hSx p;have hS0:Sx wr.drew:=by rw [hSx];exact u1
      have inst:Inhabited (ZJV Sx):=⟨⟨_,hS0⟩⟩;clear hSx;refine Vv2 Sx 7 [([0,1,4,5],2)] [3,6] (by kernel_rfl) (by kernel_rfl) hS0 ?_;refine XGW ?_;simp only [XZy,List.getElem?_cons_zero,List.getElem?_cons_succ]
      repeat (go_big_quiet_step (fail))
      refine wpQuiet_nil ?_;go_wp2_with (go_at_call 136;refine HVP2.o.mono ?_;rintro e w5 ⟨rfl,rfl⟩);refine ⟨.inr (ZJV.of hS0),?_⟩;refine Z9U ?_;simp only [XZy,List.getElem?_cons_zero,List.getElem?_cons_succ]
      repeat (go_big_quiet_step (fail))
      refine wpQuiet_nil ?_;refine NoPanic.normal ?_;clear x1 hS0 inst;clear Sx;go_wp2_with (go_at_call 137;refine (HUN.o _ (Gr.refl wr).drew).mono ?_;rintro e w5 ⟨rfl,ht5,hv5⟩;have HT5:=hid ht5;have HV5:=hid hv5;clear ht5 hv5);go_round
      case rel=>
       have hzx:=HU.o.t.size;refine ⟨j+1,⟨⟨?_,⟨plus Sj wr.drew,fun b hb=>?_,?_,fun h=>?_⟩,?_,?_,fun i hi=>?_⟩⟩,?_⟩
       ·refine (HU.o.t.trans ((Gr.refl wr).drew.touch _)).trans' HT5.o (fun b hb h=>?_);exact (HSJ.o.1 b h).elim (fun h=>.inr (.inr h)) (fun h=>by omega)
       ·rcases hb with h | h
        ·exact HSJ.o.1 b h
        ·right;exact Nat.le_trans hzx h
       ·have:=HV5.o;rw [HQQ.o.1] at this;exact this
       ·rcases h with h | h
        ·exact HSJ.o.2 h
        ·have:=HU.o.rc.lt;exact absurd this (Nat.not_lt_of_le h)
       ·exact (HU.o.rc.gr (Gr.refl wr).drew).touch HT5.o HSJ.o.2
       ·refine (HU.o.rt.gr (Gr.refl wr).drew).touch HT5.o (fun h=>?_) (fun h=>?_)
        ·exact (HSJ.o.1 _ h).elim HSP.o.rS (fun h=>by have:=HSP.o.r3;omega)
        ·exact (HSJ.o.1 _ h).elim HSP.o.gS (fun h=>by have:=HSP.o.g3;omega)
       ·rcases Nat.lt_or_ge i j with h | h
        ·exact HU.o.q1 i h
        ·obtain rfl:i=j:=by omega
         rw [<-HQQ.o.1,<-HQQ.o.2];exact HLT.o
       ·rw [show q0+(j+1)=qq+1 by rw [HQQ.o.1];omega]
        go_num
      case measure=>
       have h1:=HLT.o;have h2:=HQQ.o.2;simp only [intOf];rw [show ((qq:Int)+1).toNat=qq+1 by omega,Int.toNat_natCast,Nat.add_mul,Nat.one_mul,<-h2];omega
     ·have e1:decide ((pp:Int)<(c.tp:Int))=false:=decide_eq_false (by omega);have e2:decide (pp<c.tp)=false:=decide_eq_false hlt;have HLT:=hid hlt;have c2:=HU.o.rc.cell (j:=2) rfl;have c2l:=HU.o.rc.lt;clear hlt;go_upto_region 13 with (fail);obtain ⟨Sx,hSx⟩:∃ Sx:World->Prop,Sx=fun W'=>W'.cell? ⟨w.heap.size,1,none⟩=some (.int .i64 c.tp):=⟨_,rfl⟩;have x1:∀ p':ZJV Sx,p'.w.cell? ⟨w.heap.size,1,none⟩=some (.int .i64 c.tp):=fun p=>ZJV.get hSx p;have hS0:Sx wr.drew:=by rw [hSx];exact u1
      have inst:Inhabited (ZJV Sx):=⟨⟨_,hS0⟩⟩;clear hSx;refine Vv2 Sx 7 [([0,1,4,5],2)] [3,6] (by kernel_rfl) (by kernel_rfl) hS0 ?_;refine XGW ?_;simp only [XZy,List.getElem?_cons_zero,List.getElem?_cons_succ]
      repeat (go_big_quiet_step (fail))
      refine wpQuiet_nil ?_;go_wp2_with (go_at_call 136;refine HVP2.o.mono ?_;rintro e w5 ⟨rfl,rfl⟩);refine ⟨.inr (ZJV.of hS0),?_⟩;refine Z9U ?_;simp only [XZy,List.getElem?_cons_zero,List.getElem?_cons_succ]
      repeat (go_big_quiet_step (fail))
      refine wpQuiet_nil ?_;refine NoPanic.normal ?_;clear x1 hS0 inst;clear Sx;go_wp2;go_ret2;have hz3:=HG3.o.size;have hw3:XF4 (fun b=>b=g\/S b) w W3:=(((HG1.o.touch _).trans (HT1.o.mono (fun i _ h=>.inr h.1))).trans (HT2.o.mono (fun i _ h=>.inr h.1))).trans (HG3.o.touch _);have hE:=HE.o;rw [HNN.o] at hE;refine ⟨L,HMK.o,?_,.inr ⟨hE.symm,?_,v1,v'',k,j,⟨HGR.o,HCX.o.1,HCX.o.2,HDN.o.1,HLk.o.st,?_,?_⟩,?_,?_⟩⟩
      ·refine (hw3.trans' HU.o.t (fun b hb h=>?_)).trans ((Gr.refl wr).drew.touch _);rcases h with h | h | h
       ·exact .inl h
       ·omega
       ·exact (HS3.o b h).1.elim .inr (fun h=>by omega)
      ·rw [<-HDN.o.2.2];exact Qh8 rfl rfl
      ·intro i hi;rw [<-HPGE.o,<-HQ0.o];exact HU.o.q1 i hi
      ·rw [<-HPGE.o,<-HQ0.o,<-HQQ.o.1,<-HQQ.o.2];have:=HLT.o;omega
      ·rw [<-HPGE.o,<-HQ0.o];refine (HVJ.o.gr (Gr.refl wr).drew).mono (fun b hb=>?_);exact (HSJ.o.1 b hb).elim (fun h=>(HS3.o b h).1) (fun h=>.inr (by omega))
      ·rw [<-HLk.o.oe];exact HU.o.rt.gr (Gr.refl wr).drew
 ·have d0:(E !=0)=true:=by simpa using hE0
  go_wp2_with (go_at_call 133;refine HND.o.mono ?_;rintro e w2 ⟨rfl,ht2,hg2⟩;have HT2:=hid ht2;have HG2:=hid hg2;clear ht2 hg2);go_ret2;refine ⟨L,HMK.o,?_,.inl ⟨?_,?_,?_,?_⟩⟩
  ·exact (((HG1.o.touch _).trans (HT1.o.mono (fun i _ h=>.inr h.1))).trans (HT2.o.mono (fun i _ h=>.inr h.1)))
  ·rw [<-HNN.o,<-HE.o];exact hE0
  ·rw [<-HNN.o,<-HE.o];exact Qh8 rfl rfl
  ·have hF:J5L v c.to ((c.to+nn:Nat):Int)=[]:=by unfold J5L;rw [if_neg (fun h=>hE0 (HE.o.trans h.1))]
   obtain ⟨v',hg,hv⟩:=HG2.o;rw [hF] at hg;have:=HT1.o.size;exact ⟨v',hg,hv.mono (fun b hb=>hb.elim (fun h=>.inl h.1) (fun h=>.inr (by omega)))⟩
  ·exact HR1.o.touch HT2.o (fun h=>HNO.o.2.1 h.1) (fun h=>HNO.o.2.2 h.1)
end
end
end
section
section
open Go.RowKit Word
def Pln (w:World) (F p n B:Nat) (base:Nat) (L:List Ob):Prop:=
 p<w.heap.size/\F<=p/\Y1d B=true/\∃ f,w.cell? ⟨p,0,none⟩=some (.pointer (some ⟨f,0,none⟩))/\w.cell? ⟨p,1,none⟩=some (.int .i64 B)/\Fwd w F f n B base L
theorem Pln.gr {w w':World} {F p n B base:Nat} {L:List Ob} (h:Pln w F p n B base L) (g:Gr w w'):Pln w' F p n B base L:=by
 obtain ⟨h1,h2,h3,f,c0,c1,hF⟩:=h;exact ⟨Nat.lt_of_lt_of_le h1 g.size,h2,h3,f,(g.cell h1 0).trans c0,(g.cell h1 1).trans c1,hF.gr g⟩
def Vkw (w:World) (n:Nat) (L:List Ob) (k b:Int) (e:Ending) (w':World):Prop:=
 Gr w w'/\(((Y1d k&&ZZx b)=false/\e=.returned (.tuple #[.pointer none,.int .i64 5]))\/((Y1d k&&ZZx b)=true/\∃ p B base:Nat,k=B/\b=base/\e=.returned (.tuple #[.pointer (some ⟨p,0,none⟩),.int .i64 0])/\Pln w' w.heap.size p n B base L))
set_option maxHeartbeats 800000 in
theorem YGs {w:World} {m p1 b1 p2 b2 n:Nat} {L:List Ob} (hE:Ext w m p1 b1 p2 b2 n L) (hT:VRW w) (k b:Int) (hk:k<=9223372036854775807):
  Calls Tryz.prog 194 #[.pointer (some ⟨m,0,none⟩),.int .i64 k,.int .i64 b] w (Vkw w n L k b):=by
 have HE:=hid hE;have HT:=hid hT;clear hE hT;cases hgo:(Y1d k&&ZZx b) with
 | false=>
  have HG:=hid hgo;clear hgo;go_enter Tryz.func194,Tryz.ntmps194;go_wp2_with (go_at_call 140;refine (XRP HE.o HT.o k b hk).mono ?_;rintro e w2 ⟨hg2,⟨-,rfl⟩ | ⟨hb,-⟩⟩;rotate_left;(rw [HG.o] at hb;cases hb);have HG2:=hid hg2;clear hg2);go_ret2;exact ⟨HG2.o,.inl ⟨HG.o,rfl⟩⟩
 | true=>
  have HG:=hid hgo;have HK:=hid (Bool.and_eq_true_iff.1 hgo).1;clear hgo;go_enter Tryz.func194,Tryz.ntmps194;go_wp2_with (go_at_call 140;refine (XRP HE.o HT.o k b hk).mono ?_;rintro e w2 ⟨hg2,⟨hb,-⟩ | ⟨-,f,B,base,hB,hbs,rfl,hO⟩⟩;(rw [HG.o] at hb;cases hb);have HG2:=hid hg2;have HO:=hid hO;have HB:=hid hB;have HBS:=hid hbs;clear hg2 hO hB hbs);go_ret2;have hs:=HG2.o.size;refine ⟨HG2.o.alloc _,.inr ⟨HG.o,_,B,base,HB.o,HBS.o,rfl,by simp,by omega,by rw [<-HB.o];exact HK.o,f,World.cell?_alloc_new ..,?_,HO.o.gr ((Gr.refl _).alloc _)⟩⟩;rw [<-HB.o];exact World.cell?_alloc_new ..
section
variable {w:World} {F p n B base:Nat} {L:List Ob}
theorem YY0 {f:Nat} (c0:w.cell? ⟨p,0,none⟩=some (.pointer (some ⟨f,0,none⟩))):Calls Tryz.prog 195 #[.pointer (some ⟨p,0,none⟩)] w fun e w'=>e=.returned (.pointer (some ⟨f,0,none⟩))/\w=w':=by
 go_enter Tryz.func195,Tryz.ntmps195;go_wp2;go_ret;exact ⟨rfl,rfl⟩
set_option maxHeartbeats 800000 in
theorem Ynh (hP:Pln w F p n B base L):V4y Tryz.prog 197 #[.pointer (some ⟨p,0,none⟩)] w (.int .i64 (nbl (Qd4 L) B:Nat)):=by
 obtain ⟨h1,h2,h3,f,c0,c1,hF⟩:=hP;obtain ⟨hg,hn⟩:=hF.good;have hs:=XY5 hg;have hbp:=Quq h3;have HF:=hid hF;have HB:=hid h3;obtain ⟨s,hs'⟩:∃ s,s=Qd4 L:=⟨_,rfl⟩;have HS:=hid hs'.symm;rw [<-hs'] at hs ⊢;obtain ⟨u,hu⟩:∃ u,u=(s+B-1)/B*B:=⟨_,rfl⟩;obtain ⟨N,hN⟩:∃ N,N=nbl s B:=⟨_,rfl⟩
 have hq:(u:Int)/(B:Int)=(N:Int):=by
  rw [hu,hN];unfold nbl;rw [Int.natCast_mul];exact Int.mul_ediv_cancel _ (by omega)
 have hul:(u:Int)<=1049600:=by
  have:=Nat.div_mul_le_self (s+B-1) B;omega
 have HU:=hid hu.symm;have hNl:N<=s:=by rw [hN];exact J5D (by omega)
 rw [<-hN];have z0:∀ xs m,(grow w xs m).cell? ⟨p,0,none⟩=some (.pointer (some ⟨f,0,none⟩)):=fun xs m=>((grown w xs m).cell h1 0).trans c0;have z1:∀ xs m,(grow w xs m).cell? ⟨p,1,none⟩=some (.int .i64 B):=fun xs m=>((grown w xs m).cell h1 1).trans c1;have hb1:(1:Int)<=(B:Int):=hbp.1;have hB0:((B:Int)==0)=false:=beq_eq_false_iff_ne.2 (by omega);clear hF h3 hg hs' hu hN hbp;unfold V4y;go_enter Tryz.func197,Tryz.ntmps197;go_wp2;refine XAX (by kernel_rfl) (by kernel_rfl) ?_
 repeat (go_big_quiet_step (first
  | (go_at_call 196;have hc:=fun xs m=>Q14 (HF.o.gr (grown w xs m));simp only [HS.o] at hc;exact V4y.grown_same (hc _ _))
  | (go_at_call 245;have hc:=fun xs m=>Xnz s B (Nat.le_trans hs (Nat.le_trans hn (by decide))) HB.o (grow w xs m);simp only [HU.o] at hc;exact V4y.grown_same (hc _ _))))
 refine wpQuiet_nil ?_;intro _ hw';obtain ⟨⟨xs,nq⟩,hw''⟩:=hw';subst hw'';go_wp2;go_ret;exact ⟨rfl,grown w _ _⟩
def XV5 (L:List Ob) (B:Nat) (k:Int):Bool:=decide (0<=k)&&decide (k<(nbl (Qd4 L) B:Nat))
def YmL (L:List Ob) (B:Nat) (base k:Int):Int:=if XV5 L B k then base+k*B else 0
def YBR (L:List Ob) (B:Nat) (base k:Int):Int:=if XV5 L B k then base+min (k*B+B) (Qd4 L:Nat) else 0
def Q5o (L:List Ob) (B:Nat) (k:Int):Int:=if XV5 L B k then 0 else 11
theorem Q5d {L:List Ob} {B:Nat} {base k:Int} (h:XV5 L B k=false):YmL L B base k=0/\YBR L B base k=0/\Q5o L B k=11:=by unfold YmL YBR Q5o;rw [h];exact ⟨rfl,rfl,rfl⟩
theorem Jfd {L:List Ob} {B:Nat} {base k:Int} (h:XV5 L B k=true):YmL L B base k=base+k*B/\YBR L B base k=base+min (k*B+B) (Qd4 L:Nat)/\Q5o L B k=0:=by unfold YmL YBR Q5o;rw [h];exact ⟨rfl,rfl,rfl⟩
theorem XyY {L:List Ob} {B:Nat} {k:Int} (h:k<0\/((nbl (Qd4 L) B:Nat):Int)<=k):XV5 L B k=false:=by
 unfold XV5;rcases h with h | h
 ·rw [decide_eq_false (by omega)];rfl
 ·rw [decide_eq_false (show ¬ k<((nbl (Qd4 L) B:Nat):Int) by omega),Bool.and_false]
theorem QC8 {L:List Ob} {B j:Nat} (hB:1<=B) (h:XV5 L B j=true):j*B<Qd4 L:=by
 unfold XV5 at h;simp at h;exact (VjL hB).1 h
set_option maxHeartbeats 1600000 in
theorem Qy3 (hP:Pln w F p n B base L) (k:Int):V4y Tryz.prog 217 #[.pointer (some ⟨p,0,none⟩),.int .i64 k] w (.tuple #[.int .i64 (YmL L B base k),.int .i64 (YBR L B base k),.int .i64 (Q5o L B k)]):=by
 have HP:=hid hP;obtain ⟨h1,h2,h3,f,c0,c1,hF⟩:=hP;obtain ⟨hg,hn⟩:=hF.good;have hs:=XY5 hg;have hbp:=Quq h3;have HF:=hid hF;have hbs:=hF.2.2.1;clear hF h3 hg;obtain ⟨N,hN⟩:∃ N,N=nbl (Qd4 L) B:=⟨_,rfl⟩;have HN:=hid hN.symm;unfold V4y;by_cases hk0:k<0
 ·have E:=hid (Q5d (base:=base) (XyY (L:=L) (B:=B) (.inl hk0)));rw [E.o.1,E.o.2.1,E.o.2.2];have d0:decide (k<0)=true:=decide_eq_true hk0;clear hN;go_enter Tryz.func217,Tryz.ntmps217;go_wp2
  go_ret3
  exact ⟨rfl,Gr.refl _⟩
 ·obtain ⟨j,rfl⟩:∃ j:Nat,k=j:=⟨k.toNat,by omega⟩;have d0:decide ((j:Int)<0)=false:=decide_eq_false hk0;by_cases hk1:N<=j
  ·have E:=hid (Q5d (base:=base) (XyY (L:=L) (B:=B) (k:=j) (.inr (by omega))));rw [E.o.1,E.o.2.1,E.o.2.2];have d1:decide (N<=j)=true:=decide_eq_true hk1;clear hN;go_enter Tryz.func217,Tryz.ntmps217;go_wp2_with (go_at_call 197;refine (Ynh HP.o).mono ?_;rintro e w1 ⟨rfl,hg1⟩;rw [HN.o])
   go_ret3
   exact ⟨rfl,hg1⟩
  ·have hin:XV5 L B j=true:=by unfold XV5;rw [<-hN];simp;omega
   have hlt:=QC8 (by omega) hin;have E:=hid (Jfd (base:=base) hin);rw [E.o.1,E.o.2.1,E.o.2.2];obtain ⟨t,ht⟩:∃ t,t=j*B:=⟨_,rfl⟩;have hmul:(j:Int)*(B:Int)=(t:Int):=by rw [ht];push_cast;rfl
   rw [<-ht] at hlt;rw [hmul];obtain ⟨s,hs'⟩:∃ s,s=Qd4 L:=⟨_,rfl⟩;have HS:=hid hs'.symm;rw [<-hs'] at hs hlt ⊢;have d1:decide (N<=j)=false:=decide_eq_false hk1;have w1:IntKind.i64.wrap ((j:Int)*(B:Int))=(t:Int):=by rw [hmul];exact IntWalk.i64_in _ (by omega)
   have w2:IntKind.i64.wrap ((base:Int)+(t:Int))=(base:Int)+(t:Int):=IntWalk.i64_in _ (by omega);have w3:IntKind.i64.wrap ((base:Int)+(t:Int)+(B:Int))=(base:Int)+(t:Int)+(B:Int):=IntWalk.i64_in _ (by omega)
   have hmin:∀ w',(Builtin.min_ #[3,3] 3 #[.int .i64 ((base:Int)+(t:Int)+(B:Int)),.int .i64 ((base:Int)+(s:Int))]).run Tryz.prog w'=.ok (.int .i64 ((base:Int)+min ((t:Int)+(B:Int)) (s:Int))) w':=fun w'=>by
    rw [Xjn];rw [show min ((base:Int)+(t:Int)+(B:Int)) ((base:Int)+(s:Int))=(base:Int)+min ((t:Int)+(B:Int)) (s:Int) by omega]
   clear hN hs' ht hin hbp hmul;go_enter Tryz.func217,Tryz.ntmps217;go_wp2_with (go_at_call 197;refine (Ynh HP.o).mono ?_;rintro e w1 ⟨rfl,hg1⟩;rw [HN.o]);have HG1:=hid hg1;clear hg1
   rename World=>wz
   have z0:∀ xs m,(grow wz xs m).cell? ⟨p,0,none⟩=some (.pointer (some ⟨f,0,none⟩)):=fun xs m=>((HG1.o.trans (grown wz xs m)).cell h1 0).trans c0;have z1:∀ xs m,(grow wz xs m).cell? ⟨p,1,none⟩=some (.int .i64 B):=fun xs m=>((HG1.o.trans (grown wz xs m)).cell h1 1).trans c1;refine XAX (by kernel_rfl) (by kernel_rfl) ?_
   repeat (go_big_quiet_step ((go_at_call 263;have hc:=fun xs m=>JwE (HF.o.gr (HG1.o.trans (grown wz xs m)));exact V4y.grown_same (hc _ _))))
   refine wpQuiet_nil ?_;intro _ hw';obtain ⟨⟨xs,nq⟩,hw''⟩:=hw';subst hw'';obtain ⟨wy,hwy⟩:∃ wy,wy=grow wz xs nq:=⟨_,rfl⟩;have HG2:=hid (show Gr w wy from by rw [hwy];exact HG1.o.trans (grown _ _ _));have y0:∀ xs m,(grow wy xs m).cell? ⟨p,0,none⟩=some (.pointer (some ⟨f,0,none⟩)):=fun xs m=>((HG2.o.trans (grown wy xs m)).cell h1 0).trans c0;have y1:∀ xs m,(grow wy xs m).cell? ⟨p,1,none⟩=some (.int .i64 B):=fun xs m=>((HG2.o.trans (grown wy xs m)).cell h1 1).trans c1;rw [<-hwy];clear hwy z0 z1;go_wp2;refine XAX (by kernel_rfl) (by kernel_rfl) ?_
   repeat (go_big_quiet_step ((go_at_call 141;have hc:=fun xs m=>ZMu (HF.o.gr (HG2.o.trans (grown wy xs m)));simp only [HS.o] at hc;exact V4y.grown (hc _ _))))
   refine wpQuiet_nil ?_;intro _ hw';obtain ⟨⟨ys,mq⟩,hw''⟩:=hw';subst hw'';go_wp2
   go_ret3
   exact ⟨rfl,HG2.o.trans (grown wy _ _)⟩
end
end
end
section
section
structure Pc where
 f:Int
 t:Int
 s:Nat
 deriving DecidableEq,Inhabited
def Jiq:List Pc->Int->Int->List Pc
 | [],x,y=>[⟨x,y,1⟩]
 | [p],x,y=>if p.f+p.s=x then [⟨p.f,p.t,p.s+1⟩] else [p,⟨x,y,1⟩]
 | p :: q :: r,x,y=>p :: Jiq (q :: r) x y
theorem YQf {P:List Pc} {x y:Int} (h:∀ p,P.getLast?=some p->p.f+p.s≠x):Jiq P x y=P++[⟨x,y,1⟩]:=by
 induction P with
 | nil=>rfl
 | cons p r ih=>
  cases r with
  | nil=>unfold Jiq;rw [if_neg (h p rfl)];rfl
  | cons q r=>unfold Jiq;rw [ih (fun p hp=>h p (by rw [<-hp];rfl))];rfl
theorem V1n {P:List Pc} {p:Pc} {x y:Int} (h:p.f+p.s=x):Jiq (P++[p]) x y=P++[⟨p.f,p.t,p.s+1⟩]:=by
 induction P with
 | nil=>simp [Jiq,h]
 | cons q r ih=>
  cases r with
  | nil=>simp only [List.cons_append,List.nil_append,Jiq] at ih ⊢;rw [if_pos h]
  | cons s r=>simp only [List.cons_append,Jiq] at ih ⊢;rw [ih]
def pcs (g:Int->Int) (at_:Int):Nat->List Pc
 | 0=>[]
 | k+1=>Jiq (pcs g at_ k) (g (at_+k)) (at_+k)
structure VWD (g:Int->Int) (a:Int) (k:Nat) (P:List Pc):Prop where
 pos:∀ p∈P,1<=p.s
 word:∀ p∈P,∀ i:Nat,i<p.s->g (p.t+i)=p.f+i
 first:∀ h:0<P.length,P[0].t=a
 next:∀ i (h:i+1<P.length),P[i+1].t=P[i].t+P[i].s/\P[i].f+P[i].s≠P[i+1].f
 last:∀ p,P.getLast?=some p->p.t+p.s=a+k
 none:P=[]->k=0
theorem Z8N {α:Type} {P:List α} (h:P≠[]):∃ Q p,P=Q++[p]:=⟨P.dropLast,P.getLast h,(List.dropLast_concat_getLast h).symm⟩
theorem QBb (g:Int->Int) (a:Int) (k:Nat):VWD g a k (pcs g a k):=by
 induction k with
 | zero=>exact ⟨fun p h=>(by cases h),fun p h=>(by cases h),fun h=>absurd h (by simp [pcs]),fun i h=>absurd h (by simp [pcs]),fun p h=>(by simp [pcs] at h),fun _=>rfl⟩
 | succ k ih=>
  unfold pcs;generalize pcs g a k=P at ih;by_cases hP:P=[]
  ·subst hP;obtain rfl:=ih.none rfl;refine ⟨fun p h=>?_,fun p h i hi=>?_,fun h=>by simp [Jiq],fun i h=>absurd h (by simp [Jiq]),fun p h=>?_,fun h=>by simp [Jiq] at h⟩
   ·simp [Jiq] at h;subst h;exact Nat.le_refl 1
   ·simp [Jiq] at h;subst h;have hi:i<1:=hi;obtain rfl:i=0:=by omega
    simp
   ·simp [Jiq] at h;subst h;simp
  ·obtain ⟨Q,p,rfl⟩:=Z8N hP;have hl:=ih.last p (by simp);have hps:=ih.pos p (by simp);by_cases hx:p.f+p.s=g (a+k)
   ·rw [V1n hx];refine ⟨fun q h=>?_,fun q h i hi=>?_,fun h=>?_,fun i h=>?_,fun q h=>?_,fun h=>by simp at h⟩
    ·rcases List.mem_append.1 h with h | h
     ·exact ih.pos q (List.mem_append_left _ h)
     ·rw [List.mem_singleton.1 h];exact Nat.le_add_left ..
    ·rcases List.mem_append.1 h with h | h
     ·exact ih.word q (List.mem_append_left _ h) i hi
     ·rw [List.mem_singleton.1 h] at hi ⊢;have hi:i<p.s+1:=hi
      show g (p.t+i)=p.f+i
      rcases Nat.lt_or_ge i p.s with h1 | h1
      ·exact ih.word p (by simp) i h1
      ·obtain rfl:i=p.s:=by omega
       rw [hl,hx]
    ·have:=ih.first (by simp)
     cases Q with
     | nil=>simpa using this
     | cons q r=>simpa using this
    ·have hlen:i+1<(Q++[p]).length:=by simpa using h
     have:=ih.next i hlen
     have h':i+1<Q.length+1:=by simpa using h
     rcases Nat.lt_or_ge (i+1) Q.length with h1 | h1
     ·rw [List.getElem_append_left h1,List.getElem_append_left (by omega)] at this ⊢;exact this
     ·obtain h2:i+1=Q.length:=by omega
      rw [List.getElem_append_right (by omega),List.getElem_append_left (by omega)] at this ⊢;simpa [h2] using this
    ·simp at h;subst h;show p.t+((p.s+1:Nat):Int)=_;push_cast;omega
   ·rw [YQf (fun q h=>by simp at h;subst h;exact hx)];refine ⟨fun q h=>?_,fun q h i hi=>?_,fun h=>?_,fun i h=>?_,fun q h=>?_,fun h=>by simp at h⟩
    ·rcases List.mem_append.1 h with h | h
     ·exact ih.pos q h
     ·rw [List.mem_singleton.1 h];exact Nat.le_refl 1
    ·rcases List.mem_append.1 h with h | h
     ·exact ih.word q h i hi
     ·rw [List.mem_singleton.1 h] at hi ⊢;have hi:i<1:=hi;obtain rfl:i=0:=by omega
      simp
    ·have:=ih.first (by simp)
     rw [List.getElem_append_left (by simp)];exact this
    ·have h':i+1<(Q++[p]).length+1:=by simpa using h
     rcases Nat.lt_or_ge (i+1) (Q++[p]).length with h1 | h1
     ·have:=ih.next i h1
      have h4:i<(Q++[p]).length:=Nat.lt_of_succ_lt h1;rw [List.getElem_append_left h1,List.getElem_append_left h4];exact this
     ·have h2:i+1=(Q++[p]).length:=by omega
      have h3:i=Q.length:=by simp at h2;omega
      rw [List.getElem_append_right (by omega),List.getElem_append_left (by omega)];subst h3;simp only [h2,Nat.sub_self,List.getElem_singleton,List.getElem_append_right (Nat.le_refl _)];exact ⟨hl.symm,hx⟩
    ·simp at h;subst h;push_cast;omega
theorem QTh (g:Int->Int) (a:Int) (k:Nat):(pcs g a k).length<=k:=by
 induction k with
 | zero=>exact Nat.le_refl _
 | succ k ih=>
  unfold pcs;generalize pcs g a k=P at ih;by_cases hP:P=[]
  ·subst hP;simp [Jiq]
  ·obtain ⟨Q,p,rfl⟩:=Z8N hP;by_cases hx:p.f+p.s=g (a+k)
   ·rw [V1n hx];simp at ih ⊢;omega
   ·rw [YQf (fun q h=>by simp at h;subst h;exact hx)];simp at ih ⊢;omega
theorem Qox {g:Int->Int} {a:Int} {k:Nat} {P:List Pc} (hP:pcs g a k=P) (hn:∀ p,P.getLast?=some p->p.f+p.s≠g (a+k)) {n:Nat} (h1:1<=n) (hw:∀ i,i<n->g (a+k+i)=g (a+k)+i):
  pcs g a (k+n)=P++[⟨g (a+k),a+k,n⟩]:=by
 induction n with
 | zero=>omega
 | succ n ih=>
  by_cases h0:n=0
  ·subst h0
   show Jiq (pcs g a k) (g (a+k)) (a+k)=_
   rw [hP,YQf hn]
  ·have:=ih (by omega) (fun i hi=>hw i (by omega))
   show Jiq (pcs g a (k+n)) (g (a+(k+n:Nat))) (a+(k+n:Nat))=_
   have e:a+((k+n:Nat):Int)=a+k+n:=by push_cast;omega
   rw [this,e,hw n (by omega),V1n (p:=⟨g (a+k),a+k,n⟩) rfl]
theorem VWD.ends {g:Int->Int} {a:Int} {k:Nat} {P:List Pc} (h:VWD g a k P):∀ (d i:Nat) (hi:i<P.length),P.length-i=d->P[i].t+P[i].s<=a+k/\a<=P[i].t:=by
 have lo:∀ i (hi:i<P.length),a<=P[i].t:=by
  intro i
  induction i with
  | zero=>intro hi;rw [h.first hi];exact Int.le_refl _
  | succ i ih=>
   intro hi;have:=(h.next i hi).1;have:=ih (by omega);omega
 intro d
 induction d with
 | zero=>intro i hi hd;omega
 | succ d ih=>
  intro i hi hd;refine ⟨?_,lo i hi⟩;by_cases hl:i+1<P.length
  ·have h1:=(h.next i hl).1;have h2:=(ih (i+1) hl (by omega)).1;omega
  ·have hne:P≠[]:=fun e=>by subst e;simp at hi
   have:=h.last (P[i]) (by rw [List.getLast?_eq_getElem?];rw [show P.length-1=i by omega,List.getElem?_eq_getElem hi]);omega
def YU8 (P:List Pc) (z:Int) (i:Nat):Int:=if h:i<P.length then P[i].t else z
theorem ZXR {P:List Pc} {z:Int} {i:Nat} (h:i<P.length):YU8 P z i=P[i].t:=by unfold YU8;rw [dif_pos h]
theorem VID (P:List Pc) (z:Int):YU8 P z P.length=z:=by unfold YU8;rw [dif_neg (Nat.lt_irrefl _)]
theorem XLy {g:Int->Int} {a:Int} {k:Nat} {P:List Pc} (h:VWD g a k P) (hk:1<=k):YU8 P (a+k) 0=a:=by
 by_cases hP:P=[]
 ·have:=h.none hP;omega
 ·have hl:0<P.length:=List.length_pos_iff.2 hP;rw [ZXR hl,h.first hl]
theorem Xv7 {g:Int->Int} {a:Int} {k:Nat} {P:List Pc} (h:VWD g a k P) {i:Nat} (hi:i<P.length):YU8 P (a+k) (i+1)=P[i].t+P[i].s:=by
 by_cases hl:i+1<P.length
 ·rw [ZXR hl,(h.next i hl).1]
 ·have hx:=h.last (P[i]) (by rw [List.getLast?_eq_getElem?];rw [show P.length-1=i by omega,List.getElem?_eq_getElem hi]);unfold YU8;rw [dif_neg hl,hx]
end
end
section
section
open Go.RowKit Word
theorem ZSj {n:Nat} {L:List Ob} (h:Q4l n L) (hn:n<=1048576) (base:Nat) (b:Int):0<=Xbb L base b/\Xbb L base b<=1048576:=by
 cases hin:inF L base b with
 | false=>rw [(Vtd hin).1];omega
 | true=>
  obtain ⟨j,hj,_,e2,e3,_,_⟩:=Zeb h hin;have:=h.sz _ (List.getElem_mem hj);omega
section
variable {w:World} {F p n B base:Nat} {L:List Ob}
def ZZZ (L:List Ob) (base B:Nat) (b:Int):Int:=if inF L base b then (b-base)/B else 0
set_option maxHeartbeats 1600000 in
theorem ZAe (hP:Pln w F p n B base L) (hT:VRW w) (b:Int) (hb:b<=9223372036854775807):V4y Tryz.prog 324 #[.pointer (some ⟨p,0,none⟩),.int .i64 b] w (.tuple #[.int .i64 (ZZZ L base B b),.int .i64 (Zdp L base b)]):=by
 obtain ⟨h1,h2,h3,f,c0,c1,hF⟩:=hP;have hbp:=Quq h3;have hbs:=hF.2.2.1;have HF:=hid hF;have HT:=hid hT;obtain ⟨hg,hn⟩:=hF.good;have hs:=XY5 hg;clear hF h3 hT hg;unfold V4y;cases hin:inF L base b with
 | false=>
  have E:=hid (Vtd hin);have E2:Hid (ZZZ L base B b=0):=⟨by unfold ZZZ;rw [hin];rfl⟩;rw [E.o.2.2,E2.o];clear hin;go_enter Tryz.func324,Tryz.ntmps324;go_wp2_with (go_at_call 289;refine (ZNk HF.o HT.o b hb).mono ?_;rintro e w1 ⟨rfl,hg1⟩;rw [E.o.1,E.o.2.2]);go_ret2;exact ⟨rfl,hg1⟩
 | true=>
  obtain ⟨i1,i2⟩:=Qy1.1 hin;have E2:Hid (ZZZ L base B b=(b-base)/B):=⟨by unfold ZZZ;rw [hin];rfl⟩;have E:Hid (Zdp L base b=0):=⟨by unfold Zdp;rw [hin];rfl⟩;rw [E.o,E2.o];have w1:IntKind.i64.wrap (b-(base:Int))=b-(base:Int):=IntWalk.i64_in _ (by omega);have hb1:(1:Int)<=(B:Int):=hbp.1;have hq0:(0:Int)<=b-(base:Int):=by omega
  have hB0:((B:Int)==0)=false:=beq_eq_false_iff_ne.2 (by omega);have hdiv:(b-(base:Int)).tdiv (B:Int)=(b-(base:Int))/(B:Int):=Int.tdiv_eq_ediv_of_nonneg hq0;have hdl:(b-(base:Int))/(B:Int)<=b-(base:Int):=Int.ediv_le_self _ hq0;have hd0:0<=(b-(base:Int))/(B:Int):=Int.ediv_nonneg hq0 (by omega);have w2:IntKind.i64.wrap ((b-(base:Int))/(B:Int))=(b-(base:Int))/(B:Int):=IntWalk.i64_in _ (by omega);clear hin;go_enter Tryz.func324,Tryz.ntmps324;go_wp2_with (go_at_call 289;refine (ZNk HF.o HT.o b hb).mono ?_;rintro e w1 ⟨rfl,hg1⟩;rw [E.o]);have HG1:=hid hg1;clear hg1
  rename World=>wz
  have z0:∀ xs m,(grow wz xs m).cell? ⟨p,0,none⟩=some (.pointer (some ⟨f,0,none⟩)):=fun xs m=>((HG1.o.trans (grown wz xs m)).cell h1 0).trans c0;have z1:∀ xs m,(grow wz xs m).cell? ⟨p,1,none⟩=some (.int .i64 B):=fun xs m=>((HG1.o.trans (grown wz xs m)).cell h1 1).trans c1;refine XAX (by kernel_rfl) (by kernel_rfl) ?_
  repeat (go_big_quiet_step ((go_at_call 263;have hc:=fun xs m=>JwE (HF.o.gr (HG1.o.trans (grown wz xs m)));exact V4y.grown_same (hc _ _))))
  refine wpQuiet_nil ?_;intro _ hw';obtain ⟨⟨xs,nq⟩,hw''⟩:=hw';subst hw'';go_wp2;go_ret2;exact ⟨rfl,HG1.o.trans (grown wz _ _)⟩
def VWm (w:World) (L:List Ob) (base at_ to:Nat) (e:Ending) (w':World):Prop:=
 ∃ r:Nat,e=.returned (.tuple #[.int .i64 (Xbb L base at_),.int .i64 r])/\Gr w w'/\1<=r/\at_+r<=to/\(∀ i,i<r->Xbb L base ((at_:Int)+i)=Xbb L base at_+i)/\(at_+r<to->Xbb L base at_+r≠Xbb L base ((at_:Int)+r))
set_option maxHeartbeats 1600000 in
theorem Zkm (hP:Pln w F p n B base L) (hT:VRW w) (at_ to:Nat) (ha:at_<to) (hto:(to:Int)<=4294967296):
  Calls Tryz.prog 264 #[.pointer (some ⟨p,0,none⟩),.int .i64 at_,.int .i64 to] w (VWm w L base at_ to):=by
 obtain ⟨h1,h2,h3,f,c0,c1,hF⟩:=hP;have HF:=hid hF;have HT:=hid hT;obtain ⟨hg,hn⟩:=hF.good;have HBD:=hid (fun b=>ZSj hg hn base b);obtain ⟨v,hv⟩:∃ v,v=Xbb L base at_:=⟨_,rfl⟩;have HV:=hid hv.symm;have hvb:=HBD.o at_;rw [<-hv] at hvb;clear hF h3 hT hg hv;go_enter Tryz.func264,Tryz.ntmps264;go_wp2_with (go_at_call 289;refine (ZNk HF.o HT.o at_ (by omega)).mono ?_;rintro e w1 ⟨rfl,hg1⟩;rw [HV.o];have HG1:=hid hg1;clear hg1)
 go_loopw [10] (fun s wr=>∃ r:Nat,Hid (1<=r/\at_+r<=to/\∀ i,i<r->Xbb L base ((at_:Int)+i)=v+i)/\Hid (Gr w wr)/\s=.int .i64 r) (fun s _=>to-(intOf s).toNat)
 case atStart=>exact ⟨1,⟨Nat.le_refl _,by omega,fun i hi=>by obtain rfl:i=0:=(by omega);simpa using HV.o⟩,HG1,rfl⟩
 case round=>
  rename World=>wr
  obtain ⟨r,hr,hgr,rfl⟩:=hrel;obtain ⟨hr1,hr2,-⟩:=hr.o;have k0:=(hgr.o.cell h1 0).trans c0;by_cases hlt:at_+r<to
  ·obtain ⟨x,hx⟩:∃ x,x=Xbb L base ((at_:Int)+(r:Int)):=⟨_,rfl⟩;have HX:=hid hx.symm;clear hx;by_cases hxe:x=v+r
   ·have hne:(x !=v+(r:Int))=false:=by simp [hxe]
    have HXE:=hid hxe;clear hxe;go_wp2_with (go_at_call 289;refine (ZNk (HF.o.gr hgr.o) (hgr.o.tab HT.o.lt HT.o) _ (by omega)).mono ?_;rintro e w1 ⟨rfl,hg2⟩;rw [HX.o];have HG2:=hid (hgr.o.trans hg2);clear hg2);go_roundw
    case rel=>exact ⟨r+1,⟨by omega,by omega,fun i hi=>by rcases Nat.lt_or_ge i r with h | h;exact hr.o.2.2 i h;(obtain rfl:i=r:=(by omega));rw [HX.o,HXE.o]⟩,HG2,by go_num⟩
    case measure=>simp [intOf];omega
   ·have hne:(x !=v+(r:Int))=true:=by simp [hxe]
    have HXE:=hid hxe;clear hxe;go_wp2_with (go_at_call 289;refine (ZNk (HF.o.gr hgr.o) (hgr.o.tab HT.o.lt HT.o) _ (by omega)).mono ?_;rintro e w1 ⟨rfl,hg2⟩;rw [HX.o];have HG2:=hid (hgr.o.trans hg2);clear hg2);go_ret2;exact ⟨r,by rw [HV.o];rfl,HG2.o,hr1,hr2,fun i hi=>by rw [HV.o];exact hr.o.2.2 i hi,fun _ h=>HXE.o (by rw [<-HX.o,<-h,HV.o])⟩
  ·go_wp2;go_ret2;exact ⟨r,by rw [HV.o];rfl,hgr.o,hr1,hr2,fun i hi=>by rw [HV.o];exact hr.o.2.2 i hi,fun h=>by omega⟩
end
def X7n (P:List Pc):List Value:=P.flatMap fun q=>[.int .i64 q.f,.int .i64 q.t,.int .i64 (q.s:Nat)]
theorem YGE (P Q:List Pc):X7n (P++Q)=X7n P++X7n Q:=by simp [X7n]
theorem Zcu {P:List Pc} {i:Nat} (h:i<P.length):(X7n P)[i*3]?=some (.int .i64 P[i].f)/\(X7n P)[i*3+1]?=some (.int .i64 P[i].t)/\(X7n P)[i*3+2]?=some (.int .i64 (P[i].s:Nat)):=by
 induction P generalizing i with
 | nil=>exact absurd h (Nat.not_lt_zero _)
 | cons o r ih=>
  have e:X7n (o :: r)=.int .i64 o.f :: .int .i64 o.t :: .int .i64 (o.s:Nat) :: X7n r:=rfl;rw [e];cases i with
  | zero=>exact ⟨rfl,rfl,rfl⟩
  | succ i=>
   have:=ih (i:=i) (by simpa using h);rw [show (i+1)*3=i*3+1+1+1 by omega];simpa using this
def VpR (w:World) (A:Option Addr) (P:List Pc):Prop:=∀ i (h:i<P.length),∃ g,A=some ⟨g,0,none⟩/\g<w.heap.size ∧
 w.cell? ⟨g,i*3,none⟩=some (.int .i64 P[i].f)/\w.cell? ⟨g,i*3+1,none⟩=some (.int .i64 P[i].t)/\w.cell? ⟨g,i*3+2,none⟩=some (.int .i64 (P[i].s:Nat))
theorem VpR.gr {w w':World} {A:Option Addr} {P:List Pc} (h:VpR w A P) (t:Gr w w'):VpR w' A P:=fun i hi=>by
 obtain ⟨g,rfl,h1,h2,h3,h4⟩:=h i hi;exact ⟨g,rfl,Nat.lt_of_lt_of_le h1 t.size,(t.cell h1 _).trans h2,(t.cell h1 _).trans h3,(t.cell h1 _).trans h4⟩
theorem XfI {w:World} {base T:Nat} {v:Value} {P:List Pc} (h:w.ownsRow base T 3 v P.length (X7n P)):∃ A c,v=.slice A P.length c/\VpR w A P/\∀ a,A=some a->base<=a.block:=by
 by_cases hn:P.length=0
 ·obtain ⟨_,⟨rfl,_⟩ | ⟨g,c,cur,rfl,e2,_⟩⟩:=h
  ·exact ⟨none,0,by rw [hn],fun i hi=>by omega,fun a e=>by cases e⟩
  ·exact ⟨some ⟨g,0,none⟩,c,rfl,fun i hi=>by omega,fun a e=>by cases e;exact e2⟩
 ·obtain ⟨g,c,rfl,hb,_,_,hg⟩:=YTP h hn;refine ⟨some ⟨g,0,none⟩,c,rfl,fun i hi=>?_,fun a e=>by cases e;exact hb⟩;obtain ⟨f1,f2,f3⟩:=Zcu hi;exact ⟨g,rfl,hg,ZBn h f1,ZBn h f2,ZBn h f3⟩
theorem ZkK {w:World} {base T:Nat} {v:Value} {P:List Pc} {q:Pc} (h:w.ownsRow base T 3 v (P.length+1) (X7n P++[.int .i64 q.f,.int .i64 q.t,.int .i64 (q.s:Nat)])):w.ownsRow base T 3 v (P++[q]).length (X7n (P++[q])):=by
 rw [YGE,List.length_append];exact h
theorem Vdu:(Tryz.prog.info? 289).map (fun i=>(i.zero,i.size,i.bytes))=some (some (.agg #[.int .i64 0,.int .i64 0,.int .i64 0]),3,24):=by kernel_rfl
def ZLj (L:List Ob) (B base:Nat) (k:Int):List Pc:=pcs (Xbb L base) (YmL L B base k) (YBR L B base k-YmL L B base k).toNat
theorem JYH {L:List Ob} {B base:Nat} {k:Int} (h:XV5 L B k=false):ZLj L B base k=[]:=by
 unfold ZLj;rw [(Q5d h).1,(Q5d h).2.1];rfl
theorem VYq {n:Nat} {L:List Ob} (hg:Q4l n L) (hn:n<=1048576) {B base:Nat} (hB:1<=B) (hb:base<2147483648) {k:Int} (h:XV5 L B k=true):
  ∃ a z:Nat,YmL L B base k=a/\YBR L B base k=z/\a<z/\z<=2148532224/\z<=a+B/\base<=a/\z<=base+Qd4 L:=by
 have hk0:0<=k:=by unfold XV5 at h;simp at h;exact h.1
 obtain ⟨j,rfl⟩:∃ j:Nat,k=j:=⟨k.toNat,by omega⟩;have hlt:=QC8 hB h;have hs:=XY5 hg;obtain ⟨e1,e2,-⟩:=Jfd (base:=base) h;refine ⟨base+j*B,base+min (j*B+B) (Qd4 L),by rw [e1];push_cast;rfl,by rw [e2,show (j:Int)*(B:Int)=((j*B:Nat):Int) by push_cast;rfl];omega,by omega,by omega,by omega,by omega,by omega⟩
theorem ZbI {n:Nat} {L:List Ob} (hg:Q4l n L) (hn:n<=1048576) {B base:Nat} (hB:1<=B) (hb:base<2147483648) (k:Int):(ZLj L B base k).length<=B:=by
 cases hin:XV5 L B k with
 | false=>rw [JYH hin];simp
 | true=>
  obtain ⟨a,z,ea,ez,_,_,hz,_,_⟩:=VYq hg hn hB hb hin;unfold ZLj;have:=QTh (Xbb L base) (YmL L B base k) (YBR L B base k-YmL L B base k).toNat;omega
section
variable {w:World} {F p n B base:Nat} {L:List Ob}
def Jzj (w:World) (P:List Pc) (c:Int) (e:Ending) (w':World):Prop:=
 ∃ A cap,e=.returned (.tuple #[.slice A P.length cap,.int .i64 c])/\Gr w w'/\VpR w' A P/\∀ a,A=some a->w.heap.size<=a.block
set_option maxHeartbeats 1600000 in
theorem Y4j (hP:Pln w F p n B base L) (hT:VRW w) (k:Int):
  Calls Tryz.prog 218 #[.pointer (some ⟨p,0,none⟩),.int .i64 k] w (Jzj w (ZLj L B base k) (Q5o L B k)):=by
 have HP:=hid hP;have HT:=hid hT;obtain ⟨h1,h2,h3,f,c0,c1,hF⟩:=hP;obtain ⟨hg,hn⟩:=hF.good;have hbp:=Quq h3;have hbs:=hF.2.2.1;cases hin:XV5 L B k with
 | false=>
  have E:=hid (Q5d (base:=base) hin);have E2:=hid (JYH (base:=base) hin);rw [E2.o,E.o.2.2];clear hF h3 hg hin hT;go_enter Tryz.func218,Tryz.ntmps218;go_wp2_with (go_at_call 217;refine (Qy3 HP.o k).mono ?_;rintro e w1 ⟨rfl,hg1⟩;rw [E.o.1,E.o.2.1,E.o.2.2]);go_ret2;exact ⟨none,0,rfl,hg1,fun i hi=>absurd hi (by simp),fun a e=>by cases e⟩
 | true=>
  obtain ⟨a0,z,ea,ez,hlt,hz,hzB,-,-⟩:=VYq hg hn (by omega) hbs hin;have E:=hid (And.intro ea (And.intro ez (Jfd (base:=base) hin).2.2));have E2:Hid (ZLj L B base k=pcs (Xbb L base) a0 (z-a0)):=⟨by unfold ZLj;rw [ea,ez];congr 1;omega⟩;rw [E2.o,E.o.2.2];obtain ⟨i0,hi,hi0,hi1,hi2⟩:=info_parts Vdu;obtain ⟨g,hgf⟩:∃ g,g=Xbb L base:=⟨_,rfl⟩;rw [<-hgf];have HGF:=hid hgf;clear hF h3 hg hin hT ea ez hgf;go_enter Tryz.func218,Tryz.ntmps218;go_wp2_with (go_at_call 217;refine (Qy3 HP.o k).mono ?_;rintro e w1 ⟨rfl,hg1⟩;rw [E.o.1,E.o.2.1,E.o.2.2];have HG1:=hid hg1;clear hg1)
  go_loopw [6,9] (fun s6 s9 wr=>∃ (at' m:Nat) (P:List Pc),Hid (at'=a0+m)/\at'<=z/\a0<=at'/\Hid (pcs g a0 m=P)/\P.length<=at'/\Hid (at' < z->∀ q,P.getLast?=some q->q.f+q.s≠g at')/\Hid (wr.ownsRow w1.heap.size 289 3 s9 P.length (X7n P))/\Hid (XF4 (fun i=>w1.heap.size<=i) w1 wr)/\s6=.int .i64 at') (fun s6 _ _=>z-(intOf s6).toNat)
  case atStart=>exact ⟨a0,0,[],⟨rfl⟩,by omega,Nat.le_refl _,⟨rfl⟩,by simp,⟨fun _ q h=>by simp at h⟩,⟨Vm9 _ _ _ _⟩,⟨XF4.refl _ _⟩,rfl⟩
  case round=>
   obtain ⟨at',m,P,hat,hle,hge,hp,hpl,hlast,hown,ht,rfl⟩:=hrel;have HG:=hid ((HG1.o.touch (fun _=>False)).trans' ht.o (fun i hi h=>by have:=HG1.o.size;omega)).gr;have hwl:=ht.o.size;by_cases hz':at' < z
   ·go_wp2_with (first
     | (go_at_call 264;refine (Zkm (HP.o.gr HG.o) (HG.o.tab HT.o.lt HT.o) at' z hz' (by omega)).mono ?_;rintro e w3 ⟨r,rfl,hg3,hr1,hr2,hr3,hr4⟩;rw [<-HGF.o] at hr3 hr4 ⊢;have HR:=hid (And.intro hr3 hr4);have HG3:=hid hg3;have HO3:=hid (Y9I hown.o hg3);have hz3:=hg3.size;(obtain ⟨fv,hfv⟩:∃ fv,fv=g at':=⟨_,rfl⟩);have HFV:=hid hfv.symm;rw [<-hfv];clear hr3 hr4 hg3 hfv)
     | (at_builtin;refine wpList_append_own _ rfl _ _ 285 rfl w1.heap.size 289 i0 _ 3 24 Tryz.underlying285 hi hi0 hi1 hi2 rfl (by decide) u9 P.length (X7n P) rfl (Y9I HO3.o ((Gr.refl _).alloc _)) ⟨w3.heap.size,0,none⟩ 1 1 [.int .i64 fv,.int .i64 at',.int .i64 r] rfl rfl (World.news_of_block (cs:=#[.int .i64 fv,.int .i64 at',.int .i64 r]) (t:=289) (fr:=(0,0)) (heap_alloc_new w3 _)) (by simp [Value.oneCell']) (by unfold maxLen;omega) (by omega) (by simp only [World.size_alloc];omega) ?_;intro v4 w4 hown4 hgrow4 _;have HO4:=hid (ZkK (q:=⟨fv,at',r⟩) hown4);have HT4:=hid ((((Gr.refl w3).alloc (.cells #[.int .i64 fv,.int .i64 at',.int .i64 r] 289)).touch (fun k=>w1.heap.size<=k)).trans (VxQ hgrow4 _ (fun _ e _=>(Vvr HO3.o e).1)));clear hown4 hgrow4))
    go_roundw
    case rel=>
     refine ⟨at' + r,m+r,P++[⟨fv,at',r⟩],⟨by rw [hat.o];omega⟩,by omega,by omega,⟨?_⟩,by simp;omega,⟨fun hzz q hq=>?_⟩,HO4,⟨(ht.o.trans (HG3.o.touch _)).trans HT4.o⟩,by go_num⟩
     ·have e1:=hat.o;have ee:(a0:Int)+(m:Int)=(at':Int):=by omega
      have hh:=Qox (g:=g) (a:=a0) (k:=m) hp.o (by rw [ee];exact hlast.o hz') hr1 (by rw [ee];exact HR.o.1);rw [hh,ee,HFV.o]
     ·simp at hq;subst hq;have:=HR.o.2 hzz;rw [HFV.o] at this;push_cast;exact this
    case measure=>simp [intOf];omega
   ·obtain rfl:at'=z:=by omega
    go_wp2;go_ret2;obtain ⟨A,c,hA,hA2,hA3⟩:=XfI hown.o;have e1:=hp.o;have e2:m=at' - a0:=by have:=hat.o;omega
    subst e2;rw [e1];exact ⟨A,c,by rw [<-hA];rfl,HG.o,hA2,fun a h=>Nat.le_trans HG1.o.size (hA3 a h)⟩
end
end
end
section
section
open Go.RowKit Word
structure ZxU where
 pg:Nat
 H:List Hdr
 P:List Nat
 R:List Nat
 bk:Nat
 st:Nat
 ah:Nat
section
variable (x:ZxU)
end
structure Z1d (v v':Vm):Prop where
 ok:ZAR v'
 sm:VqE v v'
theorem Z1d.refl {v:Vm} (h:ZAR v):Z1d v v:=⟨h,VqE.refl v⟩
theorem Z1d.st {v v':Vm} (h:Z1d v v') (a:Int) {x:Nat} (hx:x<18446744073709551616):Z1d v (v'.st a x):=⟨h.ok.st a hx,h.sm.trans (VqE.st _ _ _)⟩
theorem Z1d.mkV {v v':Vm} (h:Z1d v v') (a:Int) {x:Nat} (hx:x<18446744073709551616) (m:Nat):Z1d v (mkV v' a x m):=by
 induction m with
 | zero=>exact h.st a hx
 | succ m ih=>exact ih.st _ (by decide)
theorem Z1d.mkVm {v v':Vm} (h:Z1d v v') (a:Int) (hd:Hdr):Z1d v (mkVm v' a hd):=by
 unfold Go.Proofs.YtmjoodkiiekjcaaGreatDoor.mkVm
 split
 ·rename_i h0;unfold Y3I at h0
  split at h0
  ·cases h0
  ·split at h0
   ·cases h0
   ·rename_i h1;obtain ⟨p,f,c,rfl,hs⟩:=XZe (Decidable.not_not.1 h1);exact h.mkV a (ZXc (by simpa using hs)) _
 ·exact h
end
end
section
section
open Go.RowKit Word
theorem XS7 {p f c:Nat} (hs:p+f+c<=255):tkE (YsO p f c)=0/\tkH (YsO p f c)=⟨p,f,c⟩:=by
 have e:YsO p f c=(4294967295-(p+256*f+65536*c+2768240640))*4294967296+(p+256*f+65536*c+2768240640):=rfl;have a1:YsO p f c%4294967296=p+256*f+65536*c+2768240640:=by rw [e];omega
 have a2:YsO p f c/4294967296=4294967295-(p+256*f+65536*c+2768240640):=by rw [e];omega
 have a3:YsO p f c%256=p:=by rw [e];omega
 have a4:YsO p f c/256%256=f:=by rw [e];omega
 have a5:YsO p f c/65536%256=c:=by rw [e];omega
 have hok:Q3b (YsO p f c)=true:=by
  unfold Q3b;rw [a1,a2,a3,a4,a5];simp only [Bool.and_eq_true,decide_eq_true_eq];exact ⟨⟨by omega,by first | trivial | rfl⟩,hs⟩
 unfold tkE tkH;rw [if_pos hok,if_pos hok,a3,a4,a5];exact ⟨rfl,rfl⟩
theorem XUd {v:Vm} (h:ZAR v) (a:Int) {x:Nat} (hx:x<18446744073709551616) (m:Nat) (hm:∀ j:Nat,j<=m->v.ldE (a+j)=0) (b:Int):(mkV v a x m).ldV b=if b=a then x else if a<b/\b<=a+m then 0 else v.ldV b:=by
 induction m with
 | zero=>
  have h0:=hm 0 (Nat.le_refl _);rw [show a+((0:Nat):Int)=a by omega] at h0
  show (v.st a x).ldV b=_
  rw [h.st_ldV x h0];by_cases e:a=b
  ·rw [if_pos e,if_pos e.symm]
  ·rw [if_neg e,if_neg (fun h=>e h.symm),if_neg (by omega)]
 | succ m ih=>
  have ih:=ih (fun j hj=>hm j (by omega));have hok:=((Z1d.refl h).mkV a hx m).ok
  have hl:(mkV v a x m).ldE (a+1+m)=0:=by
   rw [QBF,show a+1+(m:Int)=a+((m+1:Nat):Int) by omega];exact hm (m+1) (Nat.le_refl _)
  show ((mkV v a x m).st (a+1+m) 0).ldV b=_
  rw [hok.st_ldV 0 hl,ih];by_cases e:a+1+(m:Int)=b
  ·rw [if_pos e,if_neg (by omega),if_pos (by omega)]
  ·rw [if_neg e];by_cases e2:b=a
   ·rw [if_pos e2,if_pos e2]
   ·rw [if_neg e2,if_neg e2];by_cases e3:a<b/\b<=a+m
    ·rw [if_pos e3,if_pos (by omega)]
    ·rw [if_neg e3,if_neg (by omega)]
theorem VzI {v:Vm} {a:Int} {n:Nat} (h:∀ j:Nat,j<=n->v.ldE (a+j)=0):mkE v a n=0:=by
 induction n with
 | zero=>
  have:=h 0 (Nat.le_refl _)
  rwa [show a+((0:Nat):Int)=a by omega] at this
 | succ n ih=>
  show (if mkE v a n≠0 then mkE v a n else v.ldE (a+1+n))=0
  rw [if_neg (fun hn=>hn (ih (fun j hj=>h j (by omega)))),show a+1+(n:Int)=a+((n+1:Nat):Int) by omega];exact h (n+1) (Nat.le_refl _)
theorem JER {v:Vm} (h:ZAR v) {t p f c:Nat} (ht:0<t) (hs:p+f+c<=255) (hl:∀ j:Nat,j<=p+f+c->v.ldE ((t:Int)+j)=0):
  Y3I v t ⟨p,f,c⟩=0/\∀ b:Int,(mkVm v t ⟨p,f,c⟩).ldV b=if b=t then YsO p f c else if (t:Int)<b/\b<=t+((p+f+c:Nat):Int) then 0 else v.ldV b:=by
 have e:((p:Int)+f+c).toNat=p+f+c:=by omega
 have h0:Y3I v t ⟨p,f,c⟩=0:=by
  unfold Y3I;rw [if_neg (by omega),if_neg (by rw [JJj hs];decide)]
  show mkE v t ((p:Int)+f+c).toNat=0
  rw [e];exact VzI hl
 refine ⟨h0,fun b=>?_⟩;unfold mkVm;rw [if_pos h0]
 show (mkV v t (YsO p f c) ((p:Int)+f+c).toNat).ldV b=_
 rw [e];exact XUd h t (ZXc hs) _ hl b
section
variable {x:ZxU} {v0:Vm}
end
end
end
section
section
def Jt4 (l xs:List Nat):List Nat:=xs.foldl (fun l x=>if x≠0/\¬ x∈l then l++[x] else l) l
def YtH (p:Nat->List Nat):Nat->List Nat->Nat->List Nat
 | 0,l,_=>l
 | f+1,l,i=>if i<l.length then YtH p f (Jt4 l (p (l.getD i 0))) (i+1) else l
theorem Xja (l:List Nat):Jt4 l []=l:=rfl
theorem ZSK (l:List Nat) (x:Nat) (xs:List Nat):Jt4 l (x :: xs)=Jt4 (if x≠0/\¬ x∈l then l++[x] else l) xs:=rfl
theorem QBl:∀ (xs l:List Nat) (y:Nat),y∈Jt4 l xs↔y∈l\/(y∈xs/\y≠0)
 | [],l,y=>by simp [Xja]
 | x :: xs,l,y=>by
  rw [ZSK,QBl xs];by_cases h:x≠0/\¬ x∈l
  ·rw [if_pos h,List.mem_append,List.mem_singleton,List.mem_cons];constructor
   ·rintro ((h1 | rfl) | ⟨h1,h2⟩)
    ·exact .inl h1
    ·exact .inr ⟨.inl rfl,h.1⟩
    ·exact .inr ⟨.inr h1,h2⟩
   ·rintro (h1 | ⟨rfl | h1,h2⟩)
    ·exact .inl (.inl h1)
    ·exact .inl (.inr rfl)
    ·exact .inr ⟨h1,h2⟩
  ·rw [if_neg h,List.mem_cons];constructor
   ·rintro (h1 | ⟨h1,h2⟩)
    ·exact .inl h1
    ·exact .inr ⟨.inr h1,h2⟩
   ·rintro (h1 | ⟨rfl | h1,h2⟩)
    ·exact .inl h1
    ·exact .inl (Classical.byContradiction fun hh=>h ⟨h2,hh⟩)
    ·exact .inr ⟨h1,h2⟩
theorem Qxl:∀ (xs l:List Nat),∃ t,Jt4 l xs=l++t
 | [],l=>⟨[],by simp [Xja]⟩
 | x :: xs,l=>by
  rw [ZSK];by_cases h:x≠0/\¬ x∈l
  ·obtain ⟨t,ht⟩:=Qxl xs (l++[x]);exact ⟨x :: t,by rw [if_pos h,ht,List.append_assoc];rfl⟩
  ·obtain ⟨t,ht⟩:=Qxl xs l;exact ⟨t,by rw [if_neg h,ht]⟩
def OkL (l:List Nat):Prop:=l.Nodup/\¬ 0∈l
theorem Y3O:∀ (xs:List Nat) {l:List Nat},OkL l->OkL (Jt4 l xs)
 | [],_,h=>h
 | x :: xs,l,h=>by
  rw [ZSK];refine Y3O xs ?_;by_cases hx:x≠0/\¬ x∈l
  ·rw [if_pos hx];refine ⟨?_,?_⟩
   ·rw [List.nodup_append];exact ⟨h.1,by simp,fun a ha b hb e=>by rw [List.mem_singleton] at hb;subst hb;subst e;exact hx.2 ha⟩
   ·rw [List.mem_append,List.mem_singleton];rintro (h1 | h1)
    ·exact h.2 h1
    ·exact hx.1 h1.symm
  ·rw [if_neg hx];exact h
theorem QmW {l:List Nat} {i:Nat} (h:i<l.length):l.getD i 0∈l:=by
 rw [List.getD_eq_getElem?_getD,List.getElem?_eq_getElem h];exact List.getElem_mem h
theorem Jyy (p:Nat->List Nat):∀ (f:Nat) (l:List Nat) (i:Nat),∃ t,YtH p f l i=l++t
 | 0,l,_=>⟨[],by simp [YtH]⟩
 | f+1,l,i=>by
  unfold YtH
  split
  ·obtain ⟨t,ht⟩:=Qxl (p (l.getD i 0)) l;obtain ⟨t2,ht2⟩:=Jyy p f (Jt4 l (p (l.getD i 0))) (i+1);exact ⟨t++t2,by rw [ht2,ht,List.append_assoc]⟩
  ·exact ⟨[],by simp⟩
theorem ZRH (p:Nat->List Nat):∀ (f:Nat) (l:List Nat) (i:Nat),OkL l->OkL (YtH p f l i)
 | 0,_,_,h=>h
 | f+1,l,i,h=>by
  unfold YtH
  split
  ·exact ZRH p f _ _ (Y3O _ h)
  ·exact h
end
end
section
section
def InL (N:Nat) (l:List Nat):Prop:=∀ x∈l,1<=x/\x<=N
theorem InL.len {N:Nat} {l:List Nat} (h:InL N l) (hn:OkL l):l.length<=N:=by
 have h1:l ⊆ (List.range (N+1)).tail:=fun x hx=>by
  have:=h x hx;rw [show (List.range (N+1)).tail=(List.range N).map (· + 1) by rw [List.range_succ_eq_map];rfl,List.mem_map];exact ⟨x-1,List.mem_range.2 (by omega),by omega⟩
 have h2:=hn.1.length_le_of_subset h1;rw [List.length_tail,List.length_range] at h2;omega
theorem Qg6 {N:Nat} {l xs:List Nat} (h:InL N l) (hx:∀ x∈xs,x<=N):InL N (Jt4 l xs):=fun y hy=>by
 rcases (QBl _ _ _).1 hy with h1 | ⟨h1,h2⟩
 ·exact h y h1
 ·exact ⟨by omega,hx y h1⟩
def YkB (p:Nat->List Nat) (l:List Nat) (i:Nat):Prop:=∀ j,j<i->∀ y∈p (l.getD j 0),y≠0->y∈l
theorem Vsy {l t:List Nat} {j:Nat} (h:j<l.length):(l++t).getD j 0=l.getD j 0:=by
 rw [List.getD_eq_getElem?_getD,List.getD_eq_getElem?_getD,List.getElem?_append_left h]
theorem Ybq {p:Nat->List Nat} {N:Nat} (hp:∀ x,1<=x->x<=N->∀ y∈p x,y<=N):∀ (f:Nat) (l:List Nat) (i:Nat),OkL l->InL N l->YkB p l i->i<=l.length->N+1<=f+i->YkB p (YtH p f l i) (YtH p f l i).length/\InL N (YtH p f l i)
 | 0,l,i,ho,hi,_,hil,hf=>by have:=hi.len ho;omega
 | f+1,l,i,ho,hi,hs,hil,hf=>by
  unfold YtH
  split
  ·rename_i h;have hx:=hi _ (QmW h);obtain ⟨t,ht⟩:=Qxl (p (l.getD i 0)) l;refine Ybq hp f _ (i+1) (Y3O _ ho) (Qg6 hi (hp _ hx.1 hx.2)) (fun j hj y hy h0=>?_) ?_ (by omega)
   ·rw [ht,Vsy (by omega)] at hy;rcases Nat.lt_or_ge j i with hji | hji
    ·exact (QBl _ _ _).2 (.inl (hs j hji y hy h0))
    ·obtain rfl:j=i:=by omega
     exact (QBl _ _ _).2 (.inr ⟨hy,h0⟩)
   ·rw [ht,List.length_append];omega
  ·rename_i h;obtain rfl:i=l.length:=by omega
   exact ⟨hs,hi⟩
theorem Z7P {p:Nat->List Nat} {Q:Nat->Prop} (hp:∀ x,Q x->∀ y∈p x,y≠0->Q y):∀ (f:Nat) (l:List Nat) (i:Nat),(∀ x∈l,Q x)->∀ x∈YtH p f l i,Q x
 | 0,_,_,h=>h
 | f+1,l,i,h=>by
  unfold YtH
  split
  ·rename_i hi;refine Z7P hp f _ (i+1) (fun y hy=>?_);rcases (QBl _ _ _).1 hy with h1 | ⟨h1,h2⟩
   ·exact h y h1
   ·exact hp _ (h _ (QmW hi)) y h1 h2
  ·exact h
def Quy (p:Nat->List Nat) (N:Nat) (rs:List Nat):List Nat:=YtH p (N+1) (Jt4 [] rs) 0
theorem YVO:OkL []:=⟨List.nodup_nil,by simp⟩
theorem Zeq (p:Nat->List Nat) (N:Nat) (rs:List Nat):OkL (Quy p N rs):=ZRH _ _ _ _ (Y3O _ YVO)
theorem JOE {p:Nat->List Nat} {N:Nat} {rs:List Nat} (hp:∀ x,1<=x->x<=N->∀ y∈p x,y<=N) (hr:∀ x∈rs,x<=N):InL N (Quy p N rs)/\(∀ x∈rs,x≠0->x∈Quy p N rs)/\∀ x∈Quy p N rs,∀ y∈p x,y≠0->y∈Quy p N rs:=by
 have hin:InL N (Jt4 [] rs):=Qg6 (fun x hx=>absurd hx (by simp)) hr;obtain ⟨h1,h2⟩:=Ybq hp (N+1) (Jt4 [] rs) 0 (Y3O _ YVO) hin (fun j hj=>absurd hj (Nat.not_lt_zero _)) (Nat.zero_le _) (by omega);refine ⟨h2,fun x hx h0=>?_,fun x hx y hy h0=>?_⟩
 ·obtain ⟨t,ht⟩:=Jyy p (N+1) (Jt4 [] rs) 0;unfold Quy;rw [ht];exact List.mem_append_left _ ((QBl _ _ _).2 (.inr ⟨hx,h0⟩))
 ·obtain ⟨j,hj,e⟩:=List.mem_iff_getElem.1 hx;refine h1 j hj y ?_ h0;have e2:(Quy p N rs).getD j 0=x:=by rw [List.getD_eq_getElem?_getD,List.getElem?_eq_getElem hj,Option.getD_some,e]
  unfold Quy at e2;rw [e2];exact hy
theorem VPa {p:Nat->List Nat} {N:Nat} {rs:List Nat} {Q:Nat->Prop} (hp:∀ x,Q x->∀ y∈p x,y≠0->Q y) (hr:∀ x∈rs,x≠0->Q x):∀ x∈Quy p N rs,Q x:=by
 refine Z7P hp _ _ _ (fun x hx=>?_);rcases (QBl _ _ _).1 hx with h1 | ⟨h1,h2⟩
 ·exact absurd h1 (by simp)
 ·exact hr x h1 h2
end
end
section
section
structure GOb where
 p:Nat
 f:Nat
 k:Nat
 w:List Nat
structure Gph where
 L:List GOb
 S:List Nat
def GOb.hdr (o:GOb):Hdr:=⟨o.p,o.f,o.k⟩
def GOb.size (o:GOb):Nat:=1+o.p+o.f+o.k
def Gph.ob (g:Gph) (x:Nat):GOb:=if x=0 then ⟨0,0,0,[]⟩ else g.L.getD (x-1) ⟨0,0,0,[]⟩
def Gph.pts (g:Gph) (x:Nat):List Nat:=(g.ob x).w.take (g.ob x).p
structure Gph.Ok (g:Gph):Prop where
 len:∀ o∈g.L,o.w.length=o.p+o.f+o.k/\o.p+o.f+o.k<=255
 pt:∀ o∈g.L,∀ y∈o.w.take o.p,y<=g.L.length
 st:∀ y∈g.S,y<=g.L.length
def Gph.Rd (g:Gph) (x:Nat):Prop:=∀ P:Nat->Prop,(∀ r∈g.S,r≠0->P r)->(∀ a,P a->∀ b∈g.pts a,b≠0->P b)->P x
theorem Gph.Rd.root {g:Gph} {r:Nat} (h:r∈g.S) (h0:r≠0):g.Rd r:=fun _ h1 _=>h1 r h h0
theorem Gph.Rd.step {g:Gph} {a b:Nat} (h:g.Rd a) (hb:b∈g.pts a) (h0:b≠0):g.Rd b:=fun P h1 h2=>h2 a (h P h1 h2) b hb h0
theorem Gph.ob_mem {g:Gph} {x:Nat} (h1:1<=x) (h2:x<=g.L.length):g.ob x∈g.L:=by
 unfold Gph.ob;rw [if_neg (by omega),List.getD_eq_getElem?_getD,List.getElem?_eq_getElem (by omega)];exact List.getElem_mem _
theorem Gph.Ok.pts_le {g:Gph} (h:g.Ok) {x y:Nat} (hy:y∈g.pts x):y<=g.L.length:=by
 unfold Gph.pts at hy;rcases Nat.lt_or_ge 0 x with hx | hx
 ·rcases Nat.lt_or_ge g.L.length x with hl | hl
  ·have e:g.ob x=⟨0,0,0,[]⟩:=by
    unfold Gph.ob;rw [if_neg (by omega),List.getD_eq_getElem?_getD,List.getElem?_eq_none (by omega)];rfl
   rw [e] at hy;simp at hy
  ·exact h.pt _ (Gph.ob_mem hx hl) y hy
 ·have e:g.ob x=⟨0,0,0,[]⟩:=by unfold Gph.ob;rw [if_pos (by omega)]
  rw [e] at hy;simp at hy
theorem Gph.Ok.rd {g:Gph} (h:g.Ok) {x:Nat} (hx:g.Rd x):1<=x/\x<=g.L.length:=
 hx (fun x=>1<=x/\x<=g.L.length) (fun r hr h0=>⟨by omega,h.st r hr⟩) (fun _ _ b hb h0=>⟨by omega,h.pts_le hb⟩)
def Gph.all (g:Gph):List Nat:=Quy g.pts g.L.length g.S
theorem Gph.Ok.mem_all {g:Gph} (h:g.Ok) {x:Nat}:x∈g.all↔g.Rd x:=by
 obtain ⟨h1,h2,h3⟩:=JOE (p:=g.pts) (N:=g.L.length) (rs:=g.S) (fun x _ _ y hy=>h.pts_le hy) h.st;constructor
 ·intro hx;exact VPa (Q:=g.Rd) (fun a ha b hb h0=>ha.step hb h0) (fun r hr h0=>Gph.Rd.root hr h0) x hx
 ·intro hx;exact hx (fun x=>x∈g.all) h2 h3
structure Img (v:Vm) (g:Gph) (F:Nat->Nat) (lo hi:Nat):Prop where
 z:F 0=0
 rd:∀ x,g.Rd x->v.rdE (F x)=0
 hd:∀ x,g.Rd x->v.rdH (F x)=(g.ob x).hdr
 pt:∀ x,g.Rd x->∀ i,i<(g.ob x).p->v.ptE (F x) i=0/\v.ptV (F x) i=F ((g.ob x).w.getD i 0)
 wd:∀ x,g.Rd x->∀ i,(g.ob x).p<=i->i<(g.ob x).p+(g.ob x).f+(g.ob x).k->v.ldE (F x+1+i:Nat)=0/\v.ldV (F x+1+i:Nat)=(g.ob x).w.getD i 0
 lo:∀ x,g.Rd x->lo<=F x/\F x+(g.ob x).size<=hi
 dj:∀ x y,g.Rd x->g.Rd y->x=y\/F x+(g.ob x).size<=F y\/F y+(g.ob y).size<=F x
section
variable {v:Vm} {g:Gph} {F:Nat->Nat} {lo hi:Nat}
theorem Img.pos (h:Img v g F lo hi) {x:Nat} (hx:g.Rd x):0<F x:=by
 have:=(QXB (h.rd x hx)).1;omega
theorem Img.inj (h:Img v g F lo hi) {x y:Nat} (hx:g.Rd x) (hy:g.Rd y) (e:F x=F y):x=y:=by
 have h1:=h.dj x y hx hy;have h2:1<=(g.ob x).size:=by unfold GOb.size;omega
 have h3:1<=(g.ob y).size:=by unfold GOb.size;omega
 omega
theorem Jat {g:Gph} (ho:g.Ok) {x i:Nat} (hx:g.Rd x) (hi:i<(g.ob x).p):(g.ob x).w.getD i 0∈g.pts x:=by
 obtain ⟨h1,h2⟩:=ho.rd hx;have hl:=(ho.len _ (Gph.ob_mem h1 h2)).1;unfold Gph.pts;rw [List.getD_eq_getElem?_getD,List.getElem?_eq_getElem (by omega),Option.getD_some];exact List.mem_take_iff_getElem.2 ⟨i,by omega,rfl⟩
theorem Img.rch (h:Img v g F lo hi) (ho:g.Ok) {a:Int} (ha:Rch v (g.S.map fun x=>(F x:Int)) a):∃ x,g.Rd x/\a=(F x:Nat):=by
 refine ha (fun a=>∃ x,g.Rd x/\a=(F x:Nat)) (fun r hr h0=>?_) ?_
 ·obtain ⟨x,hx,rfl⟩:=List.mem_map.1 hr;refine ⟨x,Gph.Rd.root hx (fun e=>h0 ?_),rfl⟩;rw [e,h.z];rfl
 ·rintro a b ⟨x,hx,rfl⟩ ⟨-,i,hi,-,h1,rfl⟩;rw [h.hd x hx] at hi;have hi:(i:Int)<((g.ob x).p:Int):=hi;have hi:i<(g.ob x).p:=by omega
  have hp:=h.pt x hx i hi;rw [hp.2] at h1 ⊢;exact ⟨_,hx.step (Jat ho hx hi) (fun e=>h1 (by rw [e,h.z])),rfl⟩
theorem Img.rch_of (h:Img v g F lo hi) {x:Nat} (hx:g.Rd x):Rch v (g.S.map fun x=>(F x:Int)) (F x:Nat):=by
 have key:g.Rd x/\Rch v (g.S.map fun x=>(F x:Int)) (F x:Nat):=by
  refine hx (fun x=>g.Rd x/\Rch v (g.S.map fun x=>(F x:Int)) (F x:Nat)) (fun r hr h0=>?_) ?_
  ·have:=Gph.Rd.root hr h0;have hp:=h.pos this;exact ⟨this,Rch.root (List.mem_map.2 ⟨r,hr,rfl⟩) (by omega)⟩
  ·rintro a ⟨ha,hr⟩ b hb h0;have hb2:=ha.step hb h0;refine ⟨hb2,hr.step ⟨h.rd a ha,?_⟩⟩;obtain ⟨i,hi,e⟩:=List.mem_take_iff_getElem.1 hb;have hi2:i<(g.ob a).p:=by omega
   have hw:(g.ob a).w.getD i 0=b:=by rw [List.getD_eq_getElem?_getD,List.getElem?_eq_getElem (by omega),Option.getD_some,e]
   obtain ⟨p1,p2⟩:=h.pt a ha i hi2;rw [hw] at p2;refine ⟨i,?_,p1,?_,?_⟩
   ·rw [h.hd a ha]
    show (i:Int)<((g.ob a).p:Int)
    omega
   ·rw [p2];have:=h.pos hb2;omega
   ·rw [p2]
 exact key.2
theorem Img.osz (h:Img v g F lo hi) (ho:g.Ok) {x:Nat} (hx:g.Rd x):v.osz (F x)=(g.ob x).size:=by
 obtain ⟨h1,h2⟩:=ho.rd hx;have hl:=(ho.len _ (Gph.ob_mem h1 h2)).2;unfold Vm.osz;rw [h.hd x hx];unfold Z3o JQC GOb.hdr inS GOb.size
 have e:(decide (0<=((g.ob x).p:Int)/\((g.ob x).p:Int)<256)&&decide (0<=((g.ob x).f:Int)/\((g.ob x).f:Int)<256)&&decide (0<=((g.ob x).k:Int)/\((g.ob x).k:Int)<256)&&decide (((g.ob x).p:Int)+((g.ob x).f:Int)+((g.ob x).k:Int)<256))=true:=by
  simp only [Bool.and_eq_true,decide_eq_true_eq];omega
 simp only [e,if_true];omega
theorem Img.sound (h:Img v g F lo hi) (ho:g.Ok):Xd6 v (g.S.map fun x=>(F x:Int)) hi:=by
 refine ⟨fun a ha=>?_,fun a ha i hi=>?_,fun a ha=>?_,fun a b ha hb=>?_⟩
 ·obtain ⟨x,hx,rfl⟩:=h.rch ho ha;exact h.rd x hx
 ·obtain ⟨x,hx,rfl⟩:=h.rch ho ha;rw [h.hd x hx] at hi;have hi:(i:Int)<((g.ob x).p:Int):=hi;exact (h.pt x hx i (by omega)).1
 ·obtain ⟨x,hx,rfl⟩:=h.rch ho ha;rw [h.osz ho hx];have:=(h.lo x hx).2;omega
 ·obtain ⟨x,hx,rfl⟩:=h.rch ho ha;obtain ⟨y,hy,rfl⟩:=h.rch ho hb;rw [h.osz ho hx,h.osz ho hy];rcases h.dj x y hx hy with e | e | e
  ·exact .inl (by rw [e])
  ·exact .inr (.inl (by omega))
  ·exact .inr (.inr (by omega))
end
end
end
section
section
section
variable {v v':Vm}
theorem QFc {a i:Int} (h:v.ptE a i=0):v.rdE a=0/\Yoq (v.rdH a) i=1/\v.ldE (a+1+i)=0/\v.ldV (a+1+i)<=2147483647/\v.ptV a i=v.ldV (a+1+i):=by
 have hv:v.ptV a i=v.gtV a i 1:=by unfold Vm.ptV;rw [if_pos h]
 unfold Vm.ptE at h;by_cases h1:v.gtE a i 1=0
 ·rw [if_neg (by simpa using h1)] at h
  have h2:v.gtV a i 1<=2147483647:=by
   split at h
   ·omega
   ·omega
  unfold Vm.gtE at h1;by_cases h3:v.plE a i 1=0
  ·rw [if_neg (by simpa using h3)] at h1;have h4:v.gtV a i 1=v.ldV (a+1+i):=by unfold Vm.gtV;rw [if_neg (by simpa using h3)]
   unfold Vm.plE at h3;by_cases h5:v.rdE a=0
   ·rw [if_neg (by simpa using h5)] at h3
    have h6:Yoq (v.rdH a) i=1:=by
     split at h3
     ·assumption
     ·split at h3 <;> omega
    exact ⟨h5,h6,h1,by omega,by rw [hv,h4]⟩
   ·rw [if_pos h5] at h3;exact absurd h3 h5
  ·rw [if_pos h3] at h1;exact absurd h1 h3
 ·rw [if_pos h1] at h;exact absurd h h1
theorem XXe {a i:Int} (h1:v.rdE a=0) (h2:Yoq (v.rdH a) i=1) (h3:v.ldE (a+1+i)=0) (h4:v.ldV (a+1+i)<=2147483647):v.ptE a i=0/\v.ptV a i=v.ldV (a+1+i):=by
 have e1:v.plE a i 1=0:=by unfold Vm.plE;rw [if_neg (by simpa using h1),if_pos h2]
 have e2:v.gtE a i 1=0:=by unfold Vm.gtE;rw [if_neg (by simpa using e1)];exact h3
 have e3:v.gtV a i 1=v.ldV (a+1+i):=by unfold Vm.gtV;rw [if_neg (by simpa using e1)]
 have e4:v.ptE a i=0:=by unfold Vm.ptE;rw [if_neg (by simpa using e2),if_neg (by omega)]
 exact ⟨e4,by unfold Vm.ptV;rw [if_pos e4,e3]⟩
theorem Xtk {a:Int} (h:v.rdE a=0):0<a/\v.ldE a=0/\tkE (v.ldV a)=0/\v.rdH a=tkH (v.ldV a):=by
 unfold Vm.rdE at h;by_cases h0:a=0
 ·rw [if_pos h0] at h;omega
 ·rw [if_neg h0] at h;by_cases h1:a<0
  ·rw [if_pos h1] at h;omega
  ·rw [if_neg h1] at h;by_cases h2:v.ldE a=0
   ·rw [if_pos h2] at h;exact ⟨by omega,h2,h,by unfold Vm.rdH;rw [if_pos ⟨by omega,h2⟩]⟩
   ·rw [if_neg h2] at h;exact absurd h h2
theorem Q66 {a:Int} (h0:0<a) (h1:v.ldE a=0) (h2:tkE (v.ldV a)=0):v.rdE a=0/\v.rdH a=tkH (v.ldV a):=by
 unfold Vm.rdE Vm.rdH;rw [if_neg (by omega),if_neg (by omega),if_pos h1,if_pos ⟨h0,h1⟩];exact ⟨h2,rfl⟩
structure XhE (v v':Vm) (Q:Int->Prop) (T:Int->Int) (lo hi:Nat):Prop where
 z:T 0=0
 wd:∀ a,Q a->∀ m:Nat,(m:Int)<v.osz a->v'.ldE (T a+m)=0/\(v'.ldV (T a+m):Int)=if 1<=m/\(m:Int)<=(v.rdH a).p then T (v.ldV (a+m)) else v.ldV (a+m)
 lo:∀ a,Q a->(lo:Int)<=T a/\T a+v.osz a<=hi
 dj:∀ a b,Q a->Q b->a=b\/T a+v.osz a<=T b\/T b+v.osz b<=T a
theorem Img.moved {g:Gph} {F:Nat->Nat} {lo hi lo' hi':Nat} {T:Int->Int} (h:Img v g F lo hi) (ho:g.Ok) (hm:XhE v v' (Rch v (g.S.map fun x=>(F x:Int))) T lo' hi') (h1:1<=lo') (h2:hi'<=2147483647):Img v' g (fun x=>(T (F x)).toNat) lo' hi':=by
 have hr:=fun x (hx:g.Rd x)=>h.rch_of hx
 have ht:∀ x,g.Rd x->(((T (F x)).toNat:Nat):Int)=T (F x):=fun x hx=>by
  have:=(hm.lo _ (hr x hx)).1;omega
 have hT:∀ x,g.Rd x->0<=T (F x)/\T (F x)<=2147483647:=fun x hx=>by
  have h3:=hm.lo _ (hr x hx);rw [h.osz ho hx] at h3;omega
 have hs:∀ x,g.Rd x->v'.rdE (T (F x))=0/\v'.rdH (T (F x))=v.rdH (F x):=fun x hx=>by
  obtain ⟨a1,a2,a3,a4⟩:=Xtk (h.rd x hx);have h3:=hm.wd _ (hr x hx) 0 (by rw [h.osz ho hx];unfold GOb.size;omega);rw [if_neg (by omega)] at h3;simp only [Int.natCast_zero,Int.add_zero] at h3;have h4:=(hm.lo _ (hr x hx)).1;have e:v'.ldV (T (F x))=v.ldV (F x):=by omega
  have:=Q66 (v:=v') (a:=T (F x)) (by omega) h3.1 (by rw [e];exact a3);rw [e] at this;exact ⟨this.1,this.2.trans a4.symm⟩
 refine ⟨by rw [h.z];show (T 0).toNat=0;rw [hm.z];rfl,fun x hx=>?_,fun x hx=>?_,fun x hx i hi=>?_,fun x hx i h3 h4=>?_,fun x hx=>?_,fun x y hx hy=>?_⟩
 ·show v'.rdE (((T (F x)).toNat:Nat):Int)=0
  rw [ht x hx];exact (hs x hx).1
 ·show v'.rdH (((T (F x)).toNat:Nat):Int)=_
  rw [ht x hx,(hs x hx).2];exact h.hd x hx
 ·show v'.ptE (((T (F x)).toNat:Nat):Int) i=0/\v'.ptV (((T (F x)).toNat:Nat):Int) i=(T (F ((g.ob x).w.getD i 0))).toNat
  rw [ht x hx];obtain ⟨p1,p2⟩:=h.pt x hx i hi;obtain ⟨q1,q2,q3,q4,q5⟩:=QFc p1;rw [p2] at q5;have hw:=hm.wd _ (hr x hx) (1+i) (by rw [h.osz ho hx];unfold GOb.size;omega)
  have hp:(((1+i:Nat):Int))<=(v.rdH (F x)).p:=by
   rw [h.hd x hx]
   show (((1+i:Nat):Int))<=((g.ob x).p:Int)
   omega
  rw [if_pos ⟨by omega,hp⟩,show (F x:Int)+((1+i:Nat):Int)=(F x:Int)+1+i by omega,<-q5,show T (F x)+((1+i:Nat):Int)=T (F x)+1+i by omega] at hw
  have hb:0<=T (F ((g.ob x).w.getD i 0))/\T (F ((g.ob x).w.getD i 0))<=2147483647:=by
   by_cases e:(g.ob x).w.getD i 0=0
   ·rw [e,h.z];show 0<=T 0/\T 0<=_;rw [hm.z];omega
   ·exact hT _ (hx.step (Jat ho hx hi) e)
  obtain ⟨r1,r2⟩:=XXe (v:=v') (a:=T (F x)) (i:=i) (hs x hx).1 (by rw [(hs x hx).2];exact q2) hw.1 (by have:=hw.2;omega);exact ⟨r1,by rw [r2];have:=hw.2;omega⟩
 ·show v'.ldE (((T (F x)).toNat+1+i:Nat):Int)=0/\v'.ldV (((T (F x)).toNat+1+i:Nat):Int)=_
  obtain ⟨w1,w2⟩:=h.wd x hx i h3 h4;have hw:=hm.wd _ (hr x hx) (1+i) (by rw [h.osz ho hx];unfold GOb.size;omega)
  have hp:¬ (((1+i:Nat):Int))<=(v.rdH (F x)).p:=by
   rw [h.hd x hx]
   show ¬ (((1+i:Nat):Int))<=((g.ob x).p:Int)
   omega
  rw [if_neg (fun hh=>hp hh.2),show (F x:Int)+((1+i:Nat):Int)=((F x+1+i:Nat):Int) by omega,w2] at hw;have e:(((T (F x)).toNat+1+i:Nat):Int)=T (F x)+((1+i:Nat):Int):=by have:=ht x hx;omega
  rw [e];exact ⟨hw.1,by have:=hw.2;omega⟩
 ·have h3:=hm.lo _ (hr x hx);rw [h.osz ho hx] at h3
  show lo'<=(T (F x)).toNat/\(T (F x)).toNat+_<=hi'
  omega
 ·have h3:=hm.dj _ _ (hr x hx) (hr y hy);rw [h.osz ho hx,h.osz ho hy] at h3;have e1:=ht x hx;have e2:=ht y hy
  show x=y\/(T (F x)).toNat+_<=(T (F y)).toNat\/(T (F y)).toNat+_<=(T (F x)).toNat
  rcases h3 with h3 | h3 | h3
  ·exact .inl (h.inj hx hy (by omega))
  ·exact .inr (.inl (by omega))
  ·exact .inr (.inr (by omega))
end
end
end
section
section
open Go.RowKit Word
theorem JW8 {v v1 v2:Vm} {rs:List Int} {c:Cf} {L:List Ob} {n k kq:Nat} (hv:ZAR v) (hM:Zx6 v rs n L) (hf:XKC v L) (hD:Qgx v rs c L v1 v2 k kq)
  (hu:∀ a:Nat,c.to<=a->a<c.to+Qd4 L->¬ (c.fr/v.pl.pg<=a/v.pl.pg/\a/v.pl.pg<c.fr/v.pl.pg+kq)):
  XhE v (umN v2 (c.fr/v.pl.pg) kq) (Rch v rs) (YQE v1 (QnE v1 rs k) c.to) c.to (c.to+Qd4 L):=by
 have hw:=hD.gr.wider hv;have hS:=hM.sound;have hst:=hD.st;obtain ⟨hall,hsum⟩:=hD.cx.done hD.ke;have hke:=hD.ke;have hmap:=hD.cx.map;have htop:=hD.cx.top;obtain ⟨O,hO⟩:∃ O,O=QnE v1 rs k:=⟨_,rfl⟩;rw [<-hO] at hst hall hsum hke ⊢;have hin:∀ a,Rch v rs a->∃ (j:Nat) (hj:j<O.length),O[j]=a:=fun a ha=>List.getElem_of_mem (hall a ((hw.rch hS a).2 ha));have hrd:∀ a,Rch v rs a->v1.rdH a=v.rdH a:=fun a ha=>(hw.rd (hS.rd a ha)).2;have hoz:∀ a,Rch v rs a->v1.osz a=v.osz a:=fun a ha=>by unfold Vm.osz;rw [hrd a ha]
 have h0:(0:Int) ∉ O:=fun h=>by
  have:=(QXB (hD.cx.mks.sound.rd _ (hst.rch 0 h))).1;omega
 have hpg:v2.pl.pg=v.pl.pg:=hst.cp.sm.pg.trans hD.gr.pg;have hn2:v2.n=v1.n:=hst.cp.sm.n;refine ⟨YPv v1 _ h0,fun a ha m hm=>?_,fun a ha=>?_,fun a b ha hb=>?_⟩
 ·obtain ⟨j,hj,rfl⟩:=hin a ha;have hm1:(m:Int)<v1.osz O[j]:=by rw [hoz _ ha];exact hm
  have hpl:=place_lt v1 hj hm1;have hs0:=YB0 v1 (O.take j);obtain ⟨i,hi⟩:∃ i:Nat,(i:Int)=Xmc v1 (O.take j)+m:=⟨(Xmc v1 (O.take j)+m).toNat,by omega⟩;have hil:i<Qd4 L:=by omega
  rw [XjJ v1 hst.nd _ hj];have e:(c.to:Int)+Xmc v1 (O.take j)+m=((c.to+i:Nat):Int):=by omega
  have hun:¬ (c.fr/v.pl.pg<=(c.to+i)/v2.pl.pg/\(c.to+i)/v2.pl.pg<c.fr/v.pl.pg+kq):=by
   rw [hpg];exact hu (c.to+i) (by omega) (by omega)
  have hlt:c.to+i<v2.n:=by rw [hn2];omega
  rw [e,X0U hst.cp.ok _ _ hlt,VIn hst.cp.ok _ _ hlt hun,if_neg hun,hst.cp.sm.ldE];refine ⟨hmap _ (by omega) (by omega),?_⟩;obtain ⟨o,ho,hoe⟩:=hM.all _ ha;have hsz:=(hM.mkd.ats o ho).2.2
  have hl0:v.ldE (O[j]+m)=0:=by
   rw [<-hoe];refine hf o ho m ?_;rw [hoe] at hsz;omega
  have hlv:=(hw.le _ hl0).2;have hgd:O.getD j 0=O[j]:=by rw [List.getD_eq_getElem?_getD,List.getElem?_eq_getElem hj];rfl
  rw [<-e];by_cases hT:1<=m/\(m:Int)<=(v.rdH O[j]).p
  ·rw [if_pos hT];have:=hst.cp.trn j hj m hm1 ⟨hT.1,.inl ⟨by omega,by rw [hgd,hrd _ ha];exact hT.2⟩⟩;rw [this,hlv]
  ·rw [if_neg hT,hst.cp.raw j hj m hm1 (fun ht=>hT (by
    obtain ⟨t1,t2 | t2⟩:=ht
    ·refine ⟨t1,?_⟩;have:=t2.2;rw [hgd,hrd _ ha] at this;exact this
    ·omega)),hlv]
 ·obtain ⟨j,hj,rfl⟩:=hin a ha;have:=VEW v1 (c.to:Int) (List.getElem_mem hj);rw [hoz _ ha] at this;omega
 ·obtain ⟨j,hj,rfl⟩:=hin a ha;obtain ⟨i,hi,rfl⟩:=hin b hb;rw [XjJ v1 hst.nd _ hj,XjJ v1 hst.nd _ hi];have s1:=VZm v1 hj;have s2:=VZm v1 hi;rw [hoz _ ha] at s1;rw [hoz _ hb] at s2;rcases Nat.lt_trichotomy j i with h | h | h
  ·have:=XCA v1 O (show j+1<=i from h);exact .inr (.inl (by omega))
  ·subst h;exact .inl rfl
  ·have:=XCA v1 O (show i+1<=j from h);exact .inr (.inr (by omega))
end
end
section
section
open Go.RowKit
theorem YER.put {P:Program} {k e t:TypeId} {w:World} {b n:Nat} {f:Int->Option Value} (h:YER P k w b n f) (K:Maps.Keyed P k) (ht:P.underlying t=some (.map k e)) (hk:P.underlying k=some (.int .i64)) (hn:n<maxLen) (key:Int) (val:Value) (hw:(Lit.int .i64 key).wf=true):
  ∃ w',(Instr.mapUpdate t (.map (some b)) (.int .i64 key) val).run P w=.ok () w'/\YER P k w' b (n+1) (fun y=>if y=key then some val else f y)/\XF4 (fun i=>i=b) w w':=by
 obtain ⟨D,hD,hf⟩:=h;have hkey:=Maps.keyOf_int_mk (P:=P) hk hw;obtain ⟨w',hrun,h1,h2⟩:=hD.update K ht hn hkey (val:=val) (d:=.held val) (ps:=[]) rfl;refine ⟨w',hrun,⟨_,h1,fun y hy=>?_⟩,VxQ h2 _ (fun i hi _=>by cases hi;rfl)⟩;by_cases e:y=key
 ·subst e;dsimp only;rw [if_pos rfl];refine ⟨Maps.has_put_same hD.isMap (K.key hkey) _,fun v hv z=>?_⟩;cases hv;exact Maps.atKey_put_same hD.isMap (K.key hkey) _ _
 ·dsimp only;rw [if_neg e];have hne:(Lit.int .i64 y)≠.int .i64 key:=fun h=>e (by injection h);exact ⟨(Maps.has_put_other hne _).trans (hf y hy).1,fun v hv z=>(Maps.atKey_put_other hne _ _).trans ((hf y hy).2 v hv z)⟩
end
end
section
section
open Go.RowKit Word
theorem Gph.Rd.of {g g':Gph} (hs:∀ r∈g'.S,r≠0->g.Rd r) (hp:∀ x,g.Rd x->∀ b∈g'.pts x,b≠0->g.Rd b) {x:Nat} (h:g'.Rd x):g.Rd x:=h g.Rd hs hp
section
variable {v v':Vm} {g g':Gph} {F:Nat->Nat} {lo hi:Nat}
theorem Img.sub (h:Img v g F lo hi) (hr:∀ x,g'.Rd x->g.Rd x) (ho:∀ x,g'.Rd x->g'.ob x=g.ob x):Img v g' F lo hi:=by
 refine ⟨h.z,fun x hx=>h.rd x (hr x hx),fun x hx=>by rw [ho x hx];exact h.hd x (hr x hx),fun x hx i hi=>?_,fun x hx i h1 h2=>?_,fun x hx=>by rw [ho x hx];exact h.lo x (hr x hx),fun x y hx hy=>by rw [ho x hx,ho y hy];exact h.dj x y (hr x hx) (hr y hy)⟩
 ·rw [ho x hx] at hi ⊢;exact h.pt x (hr x hx) i hi
 ·rw [ho x hx] at h1 h2 ⊢;exact h.wd x (hr x hx) i h1 h2
theorem Img.slot (h:Img v g F lo hi) {i y:Nat} (hy:y=0\/g.Rd y):Img v ⟨g.L,g.S.set i y⟩ F lo hi:=by
 have hr:∀ x,(⟨g.L,g.S.set i y⟩:Gph).Rd x->g.Rd x:=fun x hx=>Gph.Rd.of (g:=g) (g':=⟨g.L,g.S.set i y⟩) (fun r hr h0=>by
  rcases List.mem_or_eq_of_mem_set hr with h1 | h1
  ·exact Gph.Rd.root h1 h0
  ·subst h1;exact hy.resolve_left h0) (fun x hx b hb h0=>hx.step hb h0) hx
 exact h.sub hr (fun x _=>rfl)
theorem Gph.Ok.slot (h:g.Ok) {i y:Nat} (hy:y<=g.L.length):(⟨g.L,g.S.set i y⟩:Gph).Ok:=⟨h.len,h.pt,fun z hz=>by
 rcases List.mem_or_eq_of_mem_set hz with h1 | h1
 ·exact h.st z h1
 ·rw [h1];exact hy⟩
theorem Img.mem (h:Img v g F lo hi) (he:∀ a:Nat,lo<=a->a<hi->v.ldE a=0->v'.ldE a=0/\v'.ldV a=v.ldV a):Img v' g F lo hi:=by
 have hin:∀ x,g.Rd x->∀ m,m<(g.ob x).size->lo<=F x+m/\F x+m<hi:=fun x hx m hm=>by
  have:=h.lo x hx;omega
 have hs:∀ x,g.Rd x->v'.rdE (F x)=0/\v'.rdH (F x)=v.rdH (F x):=fun x hx=>by
  obtain ⟨a1,a2,a3,a4⟩:=Xtk (h.rd x hx);obtain ⟨b1,b2⟩:=hin x hx 0 (by unfold GOb.size;omega);obtain ⟨e1,e2⟩:=he (F x) (by omega) (by omega) a2;have:=Q66 (v:=v') a1 e1 (by rw [e2];exact a3);rw [e2] at this;exact ⟨this.1,this.2.trans a4.symm⟩
 refine ⟨h.z,fun x hx=>(hs x hx).1,fun x hx=>(hs x hx).2.trans (h.hd x hx),fun x hx i hi=>?_,fun x hx i h1 h2=>?_,h.lo,h.dj⟩
 ·obtain ⟨p1,p2⟩:=h.pt x hx i hi;obtain ⟨q1,q2,q3,q4,q5⟩:=QFc p1;obtain ⟨b1,b2⟩:=hin x hx (1+i) (by unfold GOb.size;omega);have e:(F x:Int)+1+(i:Int)=((F x+(1+i):Nat):Int):=by omega
  rw [e] at q3 q4 q5;obtain ⟨e1,e2⟩:=he _ b1 b2 q3;have:=XXe (v:=v') (a:=(F x:Int)) (i:=i) (hs x hx).1 (by rw [(hs x hx).2];exact q2) (by rw [e];exact e1) (by rw [e,e2];exact q4);exact ⟨this.1,by rw [this.2,e,e2,<-q5];exact p2⟩
 ·obtain ⟨w1,w2⟩:=h.wd x hx i h1 h2;obtain ⟨b1,b2⟩:=hin x hx (1+i) (by unfold GOb.size;omega);rw [show F x+1+i=F x+(1+i) by omega] at w1 w2 ⊢;obtain ⟨e1,e2⟩:=he _ b1 b2 w1;exact ⟨e1,by rw [e2];exact w2⟩
end
end
end
section
section
open Go.RowKit Word
open Classical in
theorem Xd6.ex {v:Vm} {rs:List Int} {n:Nat} (hS:Xd6 v rs n):∃ L,Zx6 v rs n L:=by
 have hlt:∀ a,Rch v rs a->∃ j:Nat,j<n/\(j:Int)=a:=fun a ha=>by
  have h1:=hS.rm a ha;have h2:=QXB (hS.rd a ha);exact ⟨a.toNat,by omega,by omega⟩
 obtain ⟨M,hM⟩:∃ M,M=((List.range n).filter (fun j=>decide (Rch v rs ((j:Nat):Int)))).map (fun j=>(j,(v.osz ((j:Nat):Int)).toNat)):=⟨_,rfl⟩
 have hout:∀ o∈M,∃ j:Nat,j<n/\Rch v rs (j:Int)/\o=(j,(v.osz ((j:Nat):Int)).toNat):=fun o ho=>by
  rw [hM] at ho;obtain ⟨j,hj,rfl⟩:=List.mem_map.1 ho;obtain ⟨h1,h2⟩:=List.mem_filter.1 hj;exact ⟨j,List.mem_range.1 h1,of_decide_eq_true h2,rfl⟩
 have hhs:∀ a,Rch v rs a->Hs M a:=fun a ha=>by
  obtain ⟨j,hj,rfl⟩:=hlt a ha;exact ⟨(j,(v.osz ((j:Nat):Int)).toNat),by rw [hM];exact List.mem_map.2 ⟨j,List.mem_filter.2 ⟨List.mem_range.2 hj,decide_eq_true ha⟩,rfl⟩,rfl⟩
 refine ⟨M,⟨⟨⟨?_,fun o ho=>?_⟩,fun o ho=>?_⟩,hhs,fun o ho=>?_⟩⟩
 ·rw [hM,List.pairwise_map];refine List.Pairwise.imp_of_mem ?_ (List.Pairwise.filter _ List.pairwise_lt_range);intro i j hi hj hij;have hi2:=of_decide_eq_true (List.mem_filter.1 hi).2;have hj2:=of_decide_eq_true (List.mem_filter.1 hj).2;have h1:=QXB (hS.rd _ hi2);have h2:=QXB (hS.rd _ hj2);dsimp only;rcases hS.dj _ _ hi2 hj2 with e | e | e
  ·omega
  ·omega
  ·omega
 ·obtain ⟨j,hj,hr,rfl⟩:=hout o ho;have h1:=hS.rm _ hr;have h2:=QXB (hS.rd _ hr);dsimp only;omega
 ·obtain ⟨j,hj,hr,rfl⟩:=hout o ho;have h2:=QXB (hS.rd _ hr);exact ⟨hr,hS.rd _ hr,by dsimp only;omega⟩
 ·obtain ⟨j,hj,hr,rfl⟩:=hout o ho;intro i hi;have hpt:=hS.pt _ hr i hi;exact ⟨hpt,fun h0=>hhs _ (hr.step ⟨hS.rd _ hr,i,hi,hpt,h0,rfl⟩)⟩
section
variable {v:Vm} {g:Gph} {F:Nat->Nat} {lo hi:Nat}
theorem Img.marks (h:Img v g F lo hi) (ho:g.Ok) {n:Nat} (hn:hi<=n):∃ L,Zx6 v (g.S.map fun x=>(F x:Int)) n L:=by
 have hS:=h.sound ho;exact Xd6.ex ⟨hS.rd,hS.pt,fun a ha=>by have:=hS.rm a ha;omega,hS.dj⟩
theorem Img.full (h:Img v g F lo hi) (ho:g.Ok) {n:Nat} {L:List Ob} (hM:Zx6 v (g.S.map fun x=>(F x:Int)) n L):XKC v L:=fun o hoL m hm=>by
 obtain ⟨h1,h2,h3⟩:=hM.mkd.ats o hoL;obtain ⟨x,hx,e⟩:=h.rch ho h1;rw [e,h.osz ho hx] at h3;have h3:o.2=(g.ob x).size:=by omega
 rw [e];rcases Nat.eq_zero_or_pos m with rfl | hp
 ·have:=(Xtk (h.rd x hx)).2.1;simpa using this
 ·obtain ⟨i,rfl⟩:∃ i,m=1+i:=⟨m-1,by omega⟩;have hi:i<(g.ob x).p+(g.ob x).f+(g.ob x).k:=by rw [h3] at hm;unfold GOb.size at hm;omega
  rcases Nat.lt_or_ge i (g.ob x).p with hip | hip
  ·have:=(QFc (h.pt x hx i hip).1).2.2.1;rw [show (F x:Int)+((1+i:Nat):Int)=(F x:Int)+1+i by omega];exact this
  ·have:=(h.wd x hx i hip hi).1;rw [show (F x:Int)+((1+i:Nat):Int)=((F x+1+i:Nat):Int) by omega];exact this
theorem Img.inn (h:Img v g F lo hi) (ho:g.Ok) {n:Nat} {L:List Ob} (hM:Zx6 v (g.S.map fun x=>(F x:Int)) n L):∀ o∈L,lo<=o.1/\o.1+o.2<=hi:=fun o hoL=>by
 obtain ⟨h1,h2,h3⟩:=hM.mkd.ats o hoL;obtain ⟨x,hx,e⟩:=h.rch ho h1;rw [e,h.osz ho hx] at h3;have:=h.lo x hx;omega
def Gph.words (g:Gph):Nat:=(g.all.map fun x=>(g.ob x).size).sum
theorem Img.sum (h:Img v g F lo hi) (ho:g.Ok):∀ l:List Nat,(∀ x∈l,g.Rd x)->Xmc v (l.map fun x=>(F x:Int))=((l.map fun x=>(g.ob x).size).sum:Nat)
 | [],_=>rfl
 | x :: l,hl=>by
  have h1:=h.sum ho l (fun y hy=>hl y (List.mem_cons_of_mem _ hy));simp only [List.map_cons,Xmc,List.sum_cons];rw [h1,h.osz ho (hl x List.mem_cons_self)];omega
theorem Img.words (h:Img v g F lo hi) (ho:g.Ok) {n:Nat} {L:List Ob} (hM:Zx6 v (g.S.map fun x=>(F x:Int)) n L):Qd4 L=g.words:=by
 have hz:∀ o∈L,(o.2:Int)=v.osz o.1:=fun o hoL=>(hM.mkd.ats o hoL).2.2;have hall:∀ x∈g.all,g.Rd x:=fun x hx=>ho.mem_all.1 hx;have hsum:=h.sum ho g.all hall
 have hnd:(g.all.map fun x=>(F x:Int)).Nodup:=by
  have h1:=(Zeq g.pts g.L.length g.S).1;rw [List.Nodup,List.pairwise_map];refine List.Pairwise.imp_of_mem ?_ h1;intro a b ha hb hab e;exact hab (h.inj (hall a ha) (hall b hb) (by omega))
 have h1:Xmc v (g.all.map fun x=>(F x:Int))<=Qd4 L:=XaN hz hnd (fun a ha=>by
  obtain ⟨x,hx,rfl⟩:=List.mem_map.1 ha
  exact hM.all _ (h.rch_of (hall x hx)))
 have h2:(Qd4 L:Int)<=Xmc v (g.all.map fun x=>(F x:Int)):=VJ9 hz (hM.mkd.good.pw.imp_of_mem (fun {a b} ha hb hab=>by have:=(hM.mkd.good.sz a ha).1;omega)) (fun o hoL=>by
  obtain ⟨x,hx,e⟩:=h.rch ho (hM.mkd.ats o hoL).1
  exact List.mem_map.2 ⟨x,ho.mem_all.2 hx,e.symm⟩)
 unfold Gph.words;omega
end
end
end
section
section
open Go.RowKit Word
def GOb.new (p f k:Nat):GOb:=⟨p,f,k,List.replicate (p+f+k) 0⟩
def Gph.add (g:Gph) (s p f k:Nat):Gph:=⟨g.L++[GOb.new p f k],g.S.set s (g.L.length+1)⟩
section
variable {v v':Vm} {g:Gph} {F:Nat->Nat} {lo hi s p f k:Nat}
theorem Gph.add_ob (z:Nat) (hz:z<=g.L.length):(g.add s p f k).ob z=g.ob z:=by
 show (if z=0 then _ else (g.L++[GOb.new p f k]).getD (z-1) ⟨0,0,0,[]⟩)=if z=0 then _ else g.L.getD (z-1) ⟨0,0,0,[]⟩
 by_cases h0:z=0
 ·rw [if_pos h0,if_pos h0]
 ·rw [if_neg h0,if_neg h0,List.getD_eq_getElem?_getD,List.getD_eq_getElem?_getD,List.getElem?_append_left (by omega)]
theorem Gph.add_new:(g.add s p f k).ob (g.L.length+1)=GOb.new p f k:=by
 show (if g.L.length+1=0 then _ else (g.L++[GOb.new p f k]).getD (g.L.length+1-1) ⟨0,0,0,[]⟩)=_
 rw [if_neg (by omega),Nat.add_sub_cancel,List.getD_eq_getElem?_getD,List.getElem?_append_right (Nat.le_refl _),Nat.sub_self];rfl
theorem XYc (j:Nat):(GOb.new p f k).w.getD j 0=0:=by
 show (List.replicate (p+f+k) 0).getD j 0=0
 rw [List.getD_eq_getElem?_getD,List.getElem?_replicate]
 split <;> rfl
theorem Gph.add_pts {b:Nat} (h:b∈(g.add s p f k).pts (g.L.length+1)):b=0:=by
 unfold Gph.pts at h;rw [Gph.add_new] at h;exact (List.mem_replicate.1 (List.mem_of_mem_take h)).2
theorem Gph.add_rd (ho:g.Ok) {z:Nat} (h:(g.add s p f k).Rd z):g.Rd z\/z=g.L.length+1:=by
 refine h (fun z=>g.Rd z\/z=g.L.length+1) (fun r hr h0=>?_) (fun a ha b hb h0=>?_)
 ·rcases List.mem_or_eq_of_mem_set hr with h1 | h1
  ·exact .inl (Gph.Rd.root h1 h0)
  ·exact .inr h1
 ·rcases ha with ha | rfl
  ·unfold Gph.pts at hb;rw [Gph.add_ob a (ho.rd ha).2] at hb;exact .inl (ha.step hb h0)
  ·exact absurd (Gph.add_pts hb) h0
theorem Gph.Ok.add (h:g.Ok) (hs:p+f+k<=255):(g.add s p f k).Ok:=by
 have hl:(g.add s p f k).L.length=g.L.length+1:=by show (g.L++[GOb.new p f k]).length=_;rw [List.length_append];rfl
 refine ⟨fun o ho=>?_,fun o ho z hz=>?_,fun z hz=>?_⟩
 ·rcases List.mem_append.1 ho with h1 | h1
  ·exact h.len o h1
  ·rw [List.mem_singleton.1 h1];exact ⟨List.length_replicate,hs⟩
 ·rw [hl];rcases List.mem_append.1 ho with h1 | h1
  ·have:=h.pt o h1 z hz;omega
  ·rw [List.mem_singleton.1 h1] at hz;have:z=0:=(List.mem_replicate.1 (List.mem_of_mem_take hz)).2;omega
 ·rw [hl];rcases List.mem_or_eq_of_mem_set hz with h1 | h1
  ·have:=h.st z h1;omega
  ·omega
theorem Img.add (h:Img v g F lo hi) (ho:g.Ok) (hs:p+f+k<=255) {A:Nat} (hA:hi<=A) (hlo:lo<=A) (hr:v'.rdE A=0) (hh:v'.rdH A=(GOb.new p f k).hdr) (hz:∀ m:Nat,m<p+f+k->v'.ldE (A+1+m:Nat)=0/\v'.ldV (A+1+m:Nat)=0)
  (he:∀ a:Nat,lo<=a->a<hi->v.ldE a=0->v'.ldE a=0/\v'.ldV a=v.ldV a):Img v' (g.add s p f k) (fun x=>if x=g.L.length+1 then A else F x) lo (A+1+p+f+k):=by
 have hm:=h.mem he;have hle:∀ z,g.Rd z->z<=g.L.length/\¬ z=g.L.length+1:=fun z hz=>by have:=ho.rd hz;omega
 have hsz:(GOb.new p f k).size=1+p+f+k:=rfl;have hpp:(GOb.new p f k).p=p:=rfl;have hff:(GOb.new p f k).f=f:=rfl;have hkk:(GOb.new p f k).k=k:=rfl;refine ⟨?_,fun z hz'=>?_,fun z hz'=>?_,fun z hz' i hi'=>?_,fun z hz' i a1 a2=>?_,fun z hz'=>?_,fun z z' hz1 hz2=>?_⟩
 ·show (if 0=g.L.length+1 then A else F 0)=0
  rw [if_neg (by omega)];exact h.z
 ·show v'.rdE ((if z=g.L.length+1 then A else F z:Nat):Int)=0
  rcases Gph.add_rd ho hz' with hq | rfl
  ·rw [if_neg (hle z hq).2];exact hm.rd z hq
  ·rw [if_pos rfl];exact hr
 ·show v'.rdH ((if z=g.L.length+1 then A else F z:Nat):Int)=_
  rcases Gph.add_rd ho hz' with hq | rfl
  ·rw [if_neg (hle z hq).2,Gph.add_ob z (hle z hq).1];exact hm.hd z hq
  ·rw [if_pos rfl,Gph.add_new];exact hh
 ·show v'.ptE ((if z=g.L.length+1 then A else F z:Nat):Int) i=0/\v'.ptV ((if z=g.L.length+1 then A else F z:Nat):Int) i=(if ((g.add s p f k).ob z).w.getD i 0=g.L.length+1 then A else F (((g.add s p f k).ob z).w.getD i 0))
  rcases Gph.add_rd ho hz' with hq | rfl
  ·rw [Gph.add_ob z (hle z hq).1] at hi' ⊢;have hy:=ho.pts_le (Jat ho hq hi');rw [if_neg (hle z hq).2,if_neg (by omega)];exact hm.pt z hq i hi'
  ·rw [Gph.add_new] at hi' ⊢;rw [hpp] at hi';rw [if_pos rfl,XYc,if_neg (by omega),h.z];obtain ⟨b1,b2⟩:=hz i (by omega);have e:(A:Int)+1+(i:Int)=((A+1+i:Nat):Int):=by omega
   have hk1:Yoq (v'.rdH (A:Int)) (i:Int)=1:=by
    rw [hh];unfold Yoq Z3o JQC GOb.hdr inS;rw [hpp,hff,hkk]
    have e1:(decide (0<=(p:Int)/\(p:Int)<256)&&decide (0<=(f:Int)/\(f:Int)<256)&&decide (0<=(k:Int)/\(k:Int)<256)&&decide ((p:Int)+(f:Int)+(k:Int)<256))=true:=by
     simp only [Bool.and_eq_true,decide_eq_true_eq];omega
    simp only [e1,if_true];rw [if_pos (by omega),if_pos (by omega)]
   have:=XXe (v:=v') (a:=(A:Int)) (i:=i) hr hk1 (by rw [e];exact b1) (by rw [e,b2];omega);exact ⟨this.1,by rw [this.2,e,b2]⟩
 ·show v'.ldE (((if z=g.L.length+1 then A else F z)+1+i:Nat):Int)=0/\v'.ldV (((if z=g.L.length+1 then A else F z)+1+i:Nat):Int)=_
  rcases Gph.add_rd ho hz' with hq | rfl
  ·rw [Gph.add_ob z (hle z hq).1] at a1 a2 ⊢;rw [if_neg (hle z hq).2];exact hm.wd z hq i a1 a2
  ·rw [Gph.add_new] at a1 a2 ⊢;rw [hpp,hff,hkk] at a2;rw [if_pos rfl,XYc];exact hz i a2
 ·show lo<=(if z=g.L.length+1 then A else F z)/\(if z=g.L.length+1 then A else F z)+_<=_
  rcases Gph.add_rd ho hz' with hq | rfl
  ·rw [if_neg (hle z hq).2,Gph.add_ob z (hle z hq).1];have:=h.lo z hq;omega
  ·rw [if_pos rfl,Gph.add_new,hsz];omega
 ·show z=z'\/(if z=g.L.length+1 then A else F z)+_<=(if z'=g.L.length+1 then A else F z')\/(if z'=g.L.length+1 then A else F z')+_<=(if z=g.L.length+1 then A else F z)
  rcases Gph.add_rd ho hz1 with hq | rfl
  ·rcases Gph.add_rd ho hz2 with hq2 | rfl
   ·rw [if_neg (hle z hq).2,if_neg (hle z' hq2).2,Gph.add_ob z (hle z hq).1,Gph.add_ob z' (hle z' hq2).1];exact h.dj z z' hq hq2
   ·rw [if_neg (hle z hq).2,if_pos rfl,Gph.add_ob z (hle z hq).1];have:=h.lo z hq;exact .inr (.inl (by omega))
  ·rcases Gph.add_rd ho hz2 with hq2 | rfl
   ·rw [if_pos rfl,if_neg (hle z' hq2).2,Gph.add_ob z' (hle z' hq2).1];have:=h.lo z' hq2;exact .inr (.inr (by omega))
   ·exact .inl rfl
end
end
end
section
section
open Go.RowKit Word
section
variable {v:Vm} {g:Gph} {F:Nat->Nat} {lo hi:Nat}
theorem Img.nodup (h:Img v g F lo hi) (ho:g.Ok):(g.all.map fun x=>(F x:Int)).Nodup:=by
 have h1:=(Zeq g.pts g.L.length g.S).1;rw [List.Nodup,List.pairwise_map];refine List.Pairwise.imp_of_mem ?_ h1;intro a b ha hb hab e;exact hab (h.inj (ho.mem_all.1 ha) (ho.mem_all.1 hb) (by omega))
theorem Img.count (h:Img v g F lo hi) (ho:g.Ok) {n:Nat} {L:List Ob} (hM:Zx6 v (g.S.map fun x=>(F x:Int)) n L):L.length=g.all.length:=by
 have hd:(L.map fun o=>(o.1:Int)).Nodup:=by
  rw [List.Nodup,List.pairwise_map];refine List.Pairwise.imp_of_mem ?_ hM.mkd.good.pw;intro a b ha hb hab e;have:=(hM.mkd.good.sz a ha).1;omega
 have h1:=hd.length_le_of_subset (l₂:=g.all.map fun x=>(F x:Int)) (fun a ha=>by
  obtain ⟨o,hoL,rfl⟩:=List.mem_map.1 ha;obtain ⟨x,hx,e⟩:=h.rch ho (hM.mkd.ats o hoL).1
  exact List.mem_map.2 ⟨x,ho.mem_all.2 hx,e.symm⟩)
 have h2:=(h.nodup ho).length_le_of_subset (l₂:=L.map fun o=>(o.1:Int)) (fun a ha=>by
  obtain ⟨x,hx,rfl⟩:=List.mem_map.1 ha;obtain ⟨o,hoL,e⟩:=hM.all _ (h.rch_of (ho.mem_all.1 hx))
  exact List.mem_map.2 ⟨o,hoL,e⟩)
 rw [List.length_map,List.length_map] at h1 h2;omega
end
end
end
section
section
def JHm (b:Nat):Nat:=if b/4503599627370496=0 then b%4503599627370496 else (b%4503599627370496+4503599627370496)*2 ^ (b/4503599627370496-1)
end
end
section
section
def lv (B:Nat):List Nat->Nat
 | []=>0
 | x :: xs=>x+B*lv B xs
end
end
section
section
open Go.RowKit Word
structure GOp where
 kd:Int
 a:Int
 b:Int
 i:Int
 h:Hdr
 wd:Nat
 fl:Nat
def Gph.sl (g:Gph) (a:Int):Bool:=decide (0<=a)&&decide (a<g.S.length)
def Gph.at (g:Gph) (a:Int):Nat:=g.S.getD a.toNat 0
def Gph.setSl (g:Gph) (a:Int) (y:Nat):Gph:=⟨g.L,g.S.set a.toNat y⟩
def Gph.alE (C:Nat) (g:Gph) (a:Int) (h:Hdr):Int:=if g.sl a then (if JQC h≠0 then 15 else if (C:Int)<g.words+Z3o h then 21 else 0) else 17
def Gph.alG (C:Nat) (g:Gph) (a:Int) (h:Hdr):Gph:=if g.alE C a h=0 then g.add a.toNat h.p.toNat h.f.toNat h.k.toNat else g
def Gph.clG (g:Gph) (a:Int):Gph:=if g.sl a then g.setSl a 0 else g
def Gph.slE (g:Gph) (a:Int):Int:=if g.sl a then 0 else 17
end
end
section
section
open Go.RowKit Word
section
variable {w:World} {r g:Nat} {rs:List Int}
theorem VMw (h:V5d w r g rs) {i:Int} (hi:slE rs i≠0):Calls Tryz.prog 106 #[.pointer (some ⟨r,0,none⟩),.int .i64 i] w fun e w'=>e=.returned (.tuple #[.int .i64 0,.int .i64 17])/\Gr w w':=by
 have HC:=hid (Vs4 (h.gr ((Gr.refl w).alloc (.cells #[.int .i64 i] 3))) (b:=w.heap.size) (i:=i) ((Rec.new w 3 [.int .i64 i]).cell (j:=0) rfl));rw [show slE rs i=17 by unfold slE at hi ⊢;split at hi;exact absurd rfl hi;rename_i h;rw [if_neg h]] at HC;clear h hi;go_enter Tryz.func106,Tryz.ntmps106;go_wp2_with (go_at_call 165;refine HC.o.mono ?_;rintro e w1 ⟨rfl,rfl⟩);go_ret2;exact ⟨rfl,(Gr.refl w).alloc _⟩
theorem QST (h:V5d w r g rs) {i:Int} (hi:slE rs i≠0) (a:Int):Calls Tryz.prog 94 #[.pointer (some ⟨r,0,none⟩),.int .i64 i,.int .i64 a] w fun e w'=>e=.returned (.int .i64 17)/\Gr w w':=by
 have HC:=hid (Vs4 (h.gr ((Gr.refl w).alloc (.cells #[.int .i64 i] 3))) (b:=w.heap.size) (i:=i) ((Rec.new w 3 [.int .i64 i]).cell (j:=0) rfl));rw [show slE rs i=17 by unfold slE at hi ⊢;split at hi;exact absurd rfl hi;rename_i h;rw [if_neg h]] at HC;clear h hi;go_enter Tryz.func94,Tryz.ntmps94;go_wp2_with (go_at_call 165;refine HC.o.mono ?_;rintro e w1 ⟨rfl,rfl⟩);go_ret;exact ⟨rfl,(Gr.refl w).alloc _⟩
end
end
end
section
section
open Go.RowKit Word
def Gph.Ro (g:Gph) (x:Nat):Prop:=x=0\/g.Rd x
section
variable {v:Vm} {g:Gph} {F:Nat->Nat} {lo hi:Nat}
end
end
end
section
section
open Go.RowKit
theorem Y7w {F:Fence} {nF:Nat} {P:Program} (w:World) {ops:Array Oper} {rest:List Oper} {o:Oper} {a:Act} {Q:Exit->Act->World->Prop}
  (hg:o.guard=none) (m x v:Operand) (t:TypeId) (hop:o.op=Op.mapUpdate t m x v)
  (k e:TypeId) (K:Maps.Keyed P k) (ht:P.underlying t=some (.map k e)) (hk:P.underlying k=some (.int .i64)) (b n:Nat) (f:Int->Option Value)
  (hm:a.eval m=.map (some b)) (hown:YER P k w b n f) (hn:n<maxLen) (key:Int) (val:Value) (hx:a.eval x=.int .i64 key) (hv:a.eval v=val) (hw:(Lit.int .i64 key).wf=true)
  (hK:∀ w',YER P k w' b (n+1) (fun y=>if y=key then some val else f y)->XF4 (fun i=>i=b) w w'->wpListIn F nF P ops Q rest (a.put o.dst undef) w'):
  wpListIn F nF P ops Q (o :: rest) a w:=by
 obtain ⟨w',hrun,h1,h2⟩:=hown.put K ht hk hn key val hw;refine wpListIn_plain hg fun K' hK'=>?_;unfold Oper.wpIn;refine ⟨by simp [Oper.about,hop],?_⟩;rw [Oper.semAt_plain F _ _ (by rw [hop];intro c hc';cases hc')];simp [execOp,hop,hm,hx,hv,hrun,Result.andThen];exact hK' _ _ (hK w' h1 h2)
theorem V63 {F:Fence} {nF:Nat} {P:Program} (w:World) {ops:Array Oper} {rest:List Oper} {o:Oper} {a:Act} {Q:Exit->Act->World->Prop}
  (hg:o.guard=none) (l c:Operand) (t:TypeId) (hop:o.op=Op.makeSlice t l c)
  (base:Nat) (e:TypeId) (i:TypeInfo) (z:Value) (size:Nat) (h1:P.underlying t=some (.slice e)) (h2:P.info? e=some i) (h3:i.zero=some z) (h4:i.size=size)
  (kl kc:IntKind) (n:Nat) (hl:a.eval l=.int kl n) (hc:a.eval c=.int kc n) (b1:n*size<=16777216) (b2:i.bytes*n<=281474976710656) (b3:n<=maxLen) (b4:base<=w.heap.size)
  (hK:∀ w',w'.ownsRow base e size (.slice (some ⟨w.heap.size,0,none⟩) n n) n (madeCells z.cells (n*size)).toList->w.grownBy w' none->wpListIn F nF P ops Q rest (a.put o.dst (.slice (some ⟨w.heap.size,0,none⟩) n n)) w'):
  wpListIn F nF P ops Q (o :: rest) a w:=by
 obtain ⟨w',hrun,r1,r2⟩:=run_makeSlice_full (P:=P) w base t e i z size h1 h2 h3 h4 kl kc n b1 b2 b3 b4;refine wpListIn_plain hg fun K' hK'=>?_;unfold Oper.wpIn;refine ⟨by simp [Oper.about,hop],?_⟩;rw [Oper.semAt_plain F _ _ (by rw [hop];intro c hc';cases hc')];simp [execOp,hop,hl,hc,hrun,Result.andThen];exact hK' _ _ (hK w' r1 r2)
theorem Ya9 {F:Fence} {nF:Nat} {P:Program} (w:World) {ops:Array Oper} {rest:List Oper} {o:Oper} {a:Act} {Q:Exit->Act->World->Prop}
  (hg:o.guard=none) (t:TypeId) (hop:o.op=Op.makeMap t none) (hK:wpListIn F nF P ops Q rest (a.put o.dst (.map (some w.heap.size))) (w.alloc (.map #[] 0))):wpListIn F nF P ops Q (o :: rest) a w:=by
 have hrun:(Instr.makeMap t none).run P w=.ok (.map (some w.heap.size)) (w.alloc (.map #[] 0)):=rfl;refine wpListIn_plain hg fun K' hK'=>?_;unfold Oper.wpIn;refine ⟨by simp [Oper.about,hop],?_⟩;rw [Oper.semAt_plain F _ _ (by rw [hop];intro c hc';cases hc')];simp [execOp,hop,hrun,Result.andThen];exact hK' _ _ hK
theorem J0U (z:Value) (n:Nat):(madeCells #[z] n).toList=List.replicate n z:=by
 unfold madeCells;apply List.ext_getElem
 ·simp
 ·intro i h1 h2;simp [Nat.mod_one]
end
end
section
section
open Go.RowKit Word
def JbY (md:Region.Mode) (ops:Array Oper) (ds:List (Nat × List Nat)):Bool:=ds.all fun d=>match ops[d.1]? with
 | some o=>d.2.all fun i=>o.after.any fun e=>Region.binds md e&&e.on==i
 | none=>false
def Ykw (md:Region.Mode) (ops:Array Oper):Bool:=(List.range ops.size).all fun j=>match ops[j]? with
 | some o=>o.after.all fun e=>!Region.binds md e||decide (e.on<j)
 | none=>true
def XEe (l0:Array Bool) (ds:List (Nat × List Nat)) (n:Nat):Bool:=(List.range n).all fun k=>l0.getD k false||ds.any fun d=>d.1==k
def upD (D:Nat->Bool) (k:Nat):Nat->Bool:=fun j=>if j=k then true else D j
theorem XRT {f g:Nat->Bool} {n i:Nat} (h:∀ j,g j=true->f j=true) (hi:i<n) (h1:f i=true) (h2:g i=false):cnt g n+1<=cnt f n:=by
 have key:∀ m,cnt g m+(if i<m then 1 else 0)<=cnt f m:=fun m=>by
  induction m with
  | zero=>simp [YAO]
  | succ m ih=>
   rw [Z10,Z10];by_cases e:i=m
   ·subst e;rw [if_pos (Nat.lt_succ_self _),h1,h2];rw [if_neg (Nat.lt_irrefl _)] at ih;simpa using ih
   ·have h3:=h m;have h4:(g m).toNat<=(f m).toNat:=by cases hg:g m <;> cases hf:f m <;> simp_all
    by_cases h5:i<m
    ·rw [if_pos h5] at ih;rw [if_pos (by omega)];omega
    ·rw [if_neg h5] at ih;rw [if_neg (by omega)];omega
 have:=key n;rw [if_pos hi] at this;exact this
section
variable {F:Fence} {n:Nat} {P:Program} {l:List Oper} {Q:Exit->Act->World->Prop} {md:Region.Mode} {S:World->Prop} {z:Nat}
def JBT (F:Fence) (n:Nat) (P:Program) (l:List Oper) (S:World->Prop) (Q:Exit->Act->World->Prop) (I:(Nat->Bool)->Act->World->Prop):List (Nat × List Nat)->Prop
 | []=>True
 | d :: r=>(∀ (D:Nat->Bool) (a:Act) (w:World),I D a w->S w->D d.1=false->(∀ i∈d.2,D i=true)->wpListIn F n P l.toArray (Exit.then (fun a2 w2=>S w2/\I (upD D d.1) a2 w2) Q) (XZy l [d.1]) a w)/\JBT F n P l S Q I r
theorem J0P {I:(Nat->Bool)->Act->World->Prop} {ds:List (Nat × List Nat)} (h:JBT F n P l S Q I ds) {d:Nat × List Nat} (hd:d∈ds):
  ∀ (D:Nat->Bool) (a:Act) (w:World),I D a w->S w->D d.1=false->(∀ i∈d.2,D i=true)->wpListIn F n P l.toArray (Exit.then (fun a2 w2=>S w2/\I (upD D d.1) a2 w2) Q) (XZy l [d.1]) a w:=by
 induction ds with
 | nil=>cases hd
 | cons e r ih=>
  rcases List.mem_cons.1 hd with rfl | hd
  ·exact h.1
  ·exact ih h.2 hd
theorem YEX {listed:Array Bool} (hlow:Ykw md l.toArray=true) (hr:Region.ready md l.toArray listed=[]) (hs:listed.size=l.toArray.size):∀ j,j<l.toArray.size->listed.getD j false=true:=by
 intro j
 induction j using Nat.strongRecOn with
 | ind j ih=>
  intro hj;cases hb:listed.getD j false with
  | true=>rfl
  | false=>
   exfalso;have hjo:l.toArray[j]?=some l.toArray[j]:=Array.getElem?_eq_getElem hj;have hl:=List.all_eq_true.1 hlow j (List.mem_range.2 hj);rw [hjo] at hl;have hl:(l.toArray[j].after.all fun e=>!Region.binds md e||decide (e.on<j))=true:=hl
   have hm:j∈Region.ready md l.toArray listed:=by
    refine mem_ready.2 ⟨?_,_,hjo,fun e he hbe=>?_⟩
    ·rw [Array.getD_eq_getD_getElem?,Array.getElem?_eq_getElem (by omega)] at hb ⊢;exact hb
    ·have h1:=Array.all_eq_true_iff_forall_mem.1 hl e he;rw [hbe] at h1;have h2:e.on<j:=by simpa using h1
     exact ih e.on h2 (by omega)
   rw [hr] at hm;cases hm
theorem Q8R {listed:Array Bool} {i:Nat} (hi:i<listed.size):(fun j=>(listed.setIfInBounds i true).getD j false)=upD (fun j=>listed.getD j false) i:=by
 funext j
 unfold upD;simp only [Array.getD_eq_getD_getElem?,Array.getElem?_setIfInBounds];by_cases h:j=i
 ·subst h;rw [if_pos rfl,if_pos rfl,if_pos hi];rfl
 ·rw [if_neg (fun e=>h e.symm),if_neg h]
theorem QPK {I:(Nat->Bool)->Act->World->Prop} {ds:List (Nat × List Nat)} (hlow:Ykw md l.toArray=true) (hwt:JbY md l.toArray ds=true) (hst:JBT F n P l S Q I ds)
  (hfin:∀ (D:Nat->Bool) (a:Act) (w:World),I D a w->S w->(∀ j,j<l.toArray.size->D j=true)->Q .normal a w):
  ∀ (f:Nat) (listed:Array Bool) (a:Act) (w:World),ZVQ md l.toArray listed->listed.size=l.toArray.size->cnt (fun j=>!listed.getD j false) l.toArray.size<=f →
   (∀ k,k<l.toArray.size->listed.getD k false=false->∃ d∈ds,d.1=k)->S w->I (fun j=>listed.getD j false) a w->Vxn F n P md l.toArray Q S z f listed a w:=by
 intro f
 induction f with
 | zero=>
  intro listed a w hc hs hf hcov hS hI
  have hall:∀ j,j<l.toArray.size->listed.getD j false=true:=fun j hj=>by
   have:=VMy (Nat.le_zero.1 hf) j hj;simpa using this
  refine ⟨?_,hfin _ a w hI hS hall⟩;cases hr:Region.ready md l.toArray listed with
  | nil=>rfl
  | cons i r=>
   exfalso;have hi:i∈Region.ready md l.toArray listed:=by rw [hr];exact List.mem_cons_self ..
   obtain ⟨h1,o,ho,-⟩:=mem_ready.1 hi;have hlt:i<l.toArray.size:=(Array.getElem?_eq_some_iff.1 ho).1;exact X2k h1 (hall i hlt)
 | succ f ih=>
  intro listed a w hc hs hf hcov hS hI;refine ⟨fun hr=>hfin _ a w hI hS (YEX hlow hr hs),fun i hi=>?_⟩;obtain ⟨h1,o,ho,hall⟩:=mem_ready.1 hi;have hlt:i<l.toArray.size:=(Array.getElem?_eq_some_iff.1 ho).1
  have hun:listed.getD i false=false:=by
   rw [Array.getD_eq_getD_getElem?,Array.getElem?_eq_getElem (by omega)] at h1 ⊢;exact h1
  obtain ⟨d,hd,rfl⟩:=hcov i hlt hun;have hw:=List.all_eq_true.1 hwt d hd;rw [ho] at hw;have hw:(d.2.all fun i=>o.after.any fun e=>Region.binds md e&&e.on==i)=true:=hw
  have hwt':∀ i∈d.2,listed.getD i false=true:=fun i hi=>by
   have h2:=List.all_eq_true.1 hw i hi;obtain ⟨e,he,h3⟩:=Array.any_eq_true'.1 h2;obtain ⟨h4,h5⟩:=Bool.and_eq_true_iff.1 h3;have h5:e.on=i:=by simpa using h5
   rw [<-h5];exact hall e he h4
  have hst':=J0P hst hd _ a w hI hS hun hwt';rw [XJH ho] at hst';refine ZRK ho (fun a2 w2 h2=>⟨.inr h2.1,ih _ a2 w2 (hc.set hi) (by rw [Array.size_setIfInBounds];exact hs) ?_ ?_ h2.1 ?_⟩) hst'
  ·have hd':=XRT (f:=fun j=>!listed.getD j false) (g:=fun j=>!(listed.setIfInBounds d.1 true).getD j false) (n:=l.toArray.size) (i:=d.1) (fun j hj=>by
    have e:=congrFun (Q8R (listed:=listed) (i:=d.1) (by omega)) j;rw [e] at hj;unfold upD at hj
    split at hj
    ·simp at hj
    ·exact hj) hlt (by rw [hun];rfl) (by
    have e:=congrFun (Q8R (listed:=listed) (i:=d.1) (by omega)) d.1;rw [e];unfold upD
    rw [if_pos rfl];rfl)
   omega
  ·intro k hk hl;have e:=congrFun (Q8R (listed:=listed) (i:=d.1) (by omega)) k;rw [e] at hl;unfold upD at hl
   split at hl
   ·cases hl
   ·exact hcov k hk hl
  ·rw [Q8R (by omega)];exact h2.2
theorem JSy {id:Nat} {a:Act} {w:World} (S:World->Prop) (qs:List Nat) (l0:Array Bool) (ds:List (Nat × List Nat)) (I:(Nat->Bool)->Act->World->Prop) (hF:∀ f,F.fn f) (hm:P.follows .mixedOrders=true)
  (hB:(XH2 l.toArray&&Region.noSelect l.toArray&&Ykw .any l.toArray&&JbY .any l.toArray ds&&XEe l0 ds l.toArray.size&&decide (ZFy .any l.toArray qs (Array.replicate l.toArray.size false)=some l0)&&decide (l0.size=l.toArray.size)&&decide (qs.length+cnt (fun j=>!l0.getD j false) l.toArray.size=l.toArray.size))=true) (hS:S w.drew)
  (h:wpQuiet P l.toArray (fun w'=>∃ p:ZJV S,w'=p.w) (fun a'=>I (fun j=>l0.getD j false) a' w.drew) (XZy l qs) a)
  (hst:JBT F n P l (fun w'=>∃ p:ZJV S,w'=p.w) (NoPanic Q) I ds)
  (hfin:∀ (D:Nat->Bool) (a:Act) (w:World),I D a w->(∃ p:ZJV S,w=p.w)->(∀ j,j<l.toArray.size->D j=true)->NoPanic Q .normal a w):(Code.region id l.toArray true).wpIn F n P Q a w:=by
 simp only [Bool.and_eq_true,decide_eq_true_eq] at hB;obtain ⟨⟨⟨⟨⟨⟨⟨hnd,hsel⟩,hlow⟩,hwt⟩,hcov⟩,hrd⟩,hsz⟩,hlen⟩:=hB;refine wpIn_mono (wpIn_region_any hm ?_) NoPanic.imp;have hz:Xzl .any l.toArray l.toArray.size=true:=by unfold Xzl;simp
 have:=ZAo (F:=F) (n:=n) (P:=P) (Q:=NoPanic Q) (S:=fun w'=>∃ p:ZJV S,w'=p.w) (md:=.any) (f:=cnt (fun j=>!l0.getD j false) l.toArray.size) (K:=fun a'=>I (fun j=>l0.getD j false) a' w.drew) hF hnd hsel (fun c a b w h=>h) hz (ZJV.of hS)
  (fun a hc hI=>QPK hlow hwt hst hfin _ l0 a w.drew hc hsz (Nat.le_refl _) (fun k hk hl=>by
   have:=List.all_eq_true.1 hcov k (List.mem_range.2 hk);rw [hl,Bool.false_or] at this;obtain ⟨d,hd,e⟩:=List.any_eq_true.1 this
   exact ⟨d,hd,by simpa using e⟩) (ZJV.of hS) hI) qs _ a hrd (ZVQ.none .any l.toArray) h
 rw [hlen] at this;exact J9t _ _ _ _ this
theorem VMF {id:Nat} {a:Act} {w:World} (S:World->Prop) (qs:List Nat) (l0:Array Bool) (ds:List (Nat × List Nat)) (I:Act->(Nat->Bool)->Act->World->Prop) (hF:∀ f,F.fn f) (hm:P.follows .mixedOrders=true)
  (hB:(XH2 l.toArray&&Region.noSelect l.toArray&&Ykw .any l.toArray&&JbY .any l.toArray ds&&XEe l0 ds l.toArray.size&&decide (ZFy .any l.toArray qs (Array.replicate l.toArray.size false)=some l0)&&decide (l0.size=l.toArray.size)&&decide (qs.length+cnt (fun j=>!l0.getD j false) l.toArray.size=l.toArray.size))=true) (hS:S w.drew)
  (h:wpQuiet P l.toArray (fun w'=>∃ p:ZJV S,w'=p.w) (fun a'=>I a (fun j=>l0.getD j false) a' w.drew) (XZy l qs) a)
  (hst:JBT F n P l (fun w'=>∃ p:ZJV S,w'=p.w) (NoPanic Q) (I a) ds)
  (hfin:∀ (D:Nat->Bool) (a':Act) (w:World),I a D a' w->(∃ p:ZJV S,w=p.w)->(∀ j,j<l.toArray.size->D j=true)->NoPanic Q .normal a' w):(Code.region id l.toArray true).wpIn F n P Q a w:=
 JSy S qs l0 ds (I a) hF hm hB hS h hst hfin
end
end
end
section
section
open Go.RowKit
section
variable {P:Program} {ops:Array Oper} {Q:Exit->Act->World->Prop} {md:Region.Mode} {S:World->Prop}
def Q7j (P:Program) (md:Region.Mode) (ops:Array Oper) (Q:Exit->Act->World->Prop) (S:World->Prop) (z:Nat):Nat->Array Bool->Act->World->Prop
 | 0,listed,a,w=>Region.ready md ops listed=[]/\Q .normal a w
 | f+1,listed,a,w=>
  (Region.ready md ops listed=[]->Q .normal a w) ∧
  ∀ i∈Region.ready md ops listed,wpOp P ops Q i (fun a' w'=>(z<=i\/S w')/\Q7j P md ops Q S z f (listed.setIfInBounds i true) a' w') a w
theorem ZmF {z:Nat}:∀ (f:Nat) (listed:Array Bool) (a:Act) (w:World),Q7j P md ops Q S z f listed a w->wpAny P md ops Q f listed a w
 | 0,_,_,_,h=>h
 | f+1,_,_,_,h=>⟨h.1,fun i hi=>wpOp_mono (fun a' w' h'=>ZmF f _ a' w' h'.2) (h.2 i hi)⟩
def QlW (md:Region.Mode) (ops:Array Oper) (z:Nat):Bool:=(List.range ops.size).all fun k=>decide (k<z)||(List.range z).all fun i=>anc md ops ops.size k i
theorem JAl {listed:Array Bool} {z k i:Nat} (hz:QlW md ops z=true) (h:ZVQ md ops listed) (hr:k∈Region.ready md ops listed) (hk:z<=k) (hi:i<z):listed.getD i false=true:=by
 obtain ⟨_,oz,hoz,hall⟩:=mem_ready.1 hr;simp only [QlW,Bool.or_eq_true,decide_eq_true_eq,List.all_eq_true,List.mem_range] at hz;have hks:k<ops.size:=(Array.getElem?_eq_some_iff.1 hoz).1;exact JZc h _ k i oz hoz hall (((hz k hks).resolve_left (by omega)) i hi)
theorem YjG {z i:Nat} {oi:Oper} {v:Value} (hi:ops[i]?=some oi) (hiz:i<z) (hsel:∀ (j:Nat) (o:Oper) cs b,ops[j]?=some o->o.op≠.select cs b)
  (hQ:∀ c a w,Q (.panic c) (a.put oi.dst v) w->Q (.panic c) a w) (hz:QlW md ops z=true):
  ∀ (f:Nat) (listed:Array Bool) (a:Act) (w:World),ZVQ md ops listed →
   (∀ j oj,ops[j]?=some oj->j≠i->listed.getD j true=false->(∀ e∈oj.after,Region.binds md e=true->e.on≠i)->oi.apart ops oj=true) →
   i∈Region.ready md ops listed->YieldsIf P ops S oi v a->S w →
   Q7j P md ops Q S z f (listed.setIfInBounds i true) (a.put oi.dst v) w->Q7j P md ops Q S z (f+1) listed a w:=by
 intro f
 induction f with
 | zero=>
  intro listed a w _ _ hr hy hS H;refine ⟨fun h=>(by rw [h] at hr;cases hr),fun j hj=>?_⟩;by_cases hji:j=i
  ·subst hji;exact hy.wpOp hi hS ⟨.inr hS,H⟩
  ·have:=ready_mono hj hji;rw [H.1] at this;cases this
 | succ f ih=>
  intro listed a w hcl hfree hr hy hS H;refine ⟨fun h=>(by rw [h] at hr;cases hr),fun j hj=>?_⟩;by_cases hji:j=i
  ·subst hji;exact hy.wpOp hi hS ⟨.inr hS,H⟩
  ·have h1:=H.2 j (ready_mono hj hji);obtain ⟨hjun,oj,hoj,hall⟩:=mem_ready.1 hj;have hun:=(mem_ready.1 hr).1;have hjz:¬ z<=j:=fun e=>X2k hun (JAl hz hcl hj e hiz);have hnot:∀ e∈oj.after,Region.binds md e=true->e.on≠i:=fun e he hb heq=>X2k hun (heq ▸ hall e he hb);have h2:=wpOp_putIf hoj (hfree j oj hoj hji hjun hnot) (fun cs b=>hsel i oi cs b hi) (fun cs b=>hsel j oj cs b hoj) hQ hy h1
   have hfree':∀ k ok,ops[k]?=some ok->k≠i->(listed.setIfInBounds j true).getD k true=false →
     (∀ e∈ok.after,Region.binds md e=true->e.on≠i)->oi.apart ops ok=true:=fun k ok hk hki hun hno=>by
    refine hfree k ok hk hki ?_ hno;by_cases hjk:j=k
    ·subst hjk;exact hjun
    ·rw [getD_set_ne true hjk] at hun;exact hun
   refine wpOp_mono (fun a' w' h3=>?_) h2;obtain ⟨h3,h4,h5⟩:=h3;have hS':S w':=h4.resolve_left hjz;refine ⟨h4,ih (listed.setIfInBounds j true) a' w' (hcl.set hj) hfree' (ready_mono hr (Ne.symm hji)) h3 hS' ?_⟩;rw [Array.setIfInBounds_comm _ _ hji];exact h5
def ZU3 (md:Region.Mode) (ops:Array Oper) (z:Nat):List (Bool × Nat)->Array Bool->Bool
 | [],listed=>(Region.ready md ops listed).isEmpty
 | (true,k) :: r,listed=>decide (Region.ready md ops listed=[k])&&(decide (k<z)||r.all fun x=>x.1)&&ZU3 md ops z r (listed.setIfInBounds k true)
 | (false,k) :: r,listed=>(Region.ready md ops listed).contains k&&Region.free md ops listed k&&((ops[k]?).any QK6)&&decide (k<z)&&ZU3 md ops z r (listed.setIfInBounds k true)
def YqH (P:Program) (l:List Oper) (S:World->Prop) (z:Nat) (Q:Exit->Act->World->Prop):List (List Nat × Nat)->List Nat->Act->World->Prop
 | [],fin,a,w=>wpQuiet P l.toArray S (fun a'=>Q .normal a' w) (XZy l fin) a
 | (qs,k) :: r,fin,a,w=>wpQuiet P l.toArray S (fun a'=>wpList P l.toArray (Exit.then (fun a2 w2=>(z<=k\/S w2)/\YqH P l S z Q r fin a2 w2) Q) (XZy l [k]) a' w) (XZy l qs) a
end
section
variable {P:Program} {l:List Oper} {Q:Exit->Act->World->Prop} {md:Region.Mode} {S:World->Prop} {z:Nat}
theorem Yo2 (hsel:Region.noSelect l.toArray=true) (hQ:∀ c a b w,Q (.panic c) b w->Q (.panic c) a w) (hz:QlW md l.toArray z=true) {w:World} {K:Act->Prop} {R:List (Bool × Nat)} {f:Nat}
  (hK:∀ listed a,ZU3 md l.toArray z R listed=true->ZVQ md l.toArray listed->K a->Q7j P md l.toArray Q S z f listed a w):
  ∀ (qs:List Nat) (listed:Array Bool) (a:Act),(S w\/qs=[])->ZU3 md l.toArray z (qs.map (fun k=>(false,k))++R) listed=true->ZVQ md l.toArray listed->wpQuiet P l.toArray S K (XZy l qs) a →
   Q7j P md l.toArray Q S z (qs.length+f) listed a w
 | [],listed,a,_,hB,hc,h=>by simpa using hK listed a hB hc h
 | k :: qs,listed,a,hS,hB,hc,h=>by
  have hS:S w:=hS.resolve_right (by simp);simp only [List.map_cons,List.cons_append,ZU3,Bool.and_eq_true] at hB;obtain ⟨⟨⟨⟨hr,hf⟩,hq⟩,hkz⟩,hB'⟩:=hB;cases ho:l.toArray[k]? with
  | none=>rw [ho] at hq;cases hq
  | some o=>
   rw [ho] at hq;have hq:QK6 o=true:=hq;have hr':k∈Region.ready md l.toArray listed:=by simpa using hr
   rw [XJH ho] at h;simp only [wpQuiet] at h
   have hy:∃ v,YieldsIf P l.toArray S o v a/\wpQuiet P l.toArray S K (XZy l qs) (a.put o.dst v):=by
    split at h
    ·rename_i hw;obtain ⟨v,h1,h2⟩:=h;exact ⟨v,XIs hq hw h1,h2⟩
    ·rename_i hw;exact ⟨undef,.inr ⟨by simpa using hw,rfl⟩,h⟩
   obtain ⟨v,hy,hK'⟩:=hy;have hlen:(k :: qs).length+f=(qs.length+f)+1:=by simp;omega
   rw [hlen];exact YjG ho (by simpa using hkz) (Region.noSelect_spec hsel) (fun c a w h=>hQ c a _ w h) hz _ listed a w hc (Region.free_spec ho hf) hr' hy hS (Yo2 hsel hQ hz hK qs _ _ (.inl hS) hB' (hc.set hr') hK')
theorem ZHG (hsel:Region.noSelect l.toArray=true) (hQ:∀ c a b w,Q (.panic c) b w->Q (.panic c) a w) (hz:QlW md l.toArray z=true):
  ∀ (segs:List (List Nat × Nat)) (fin:List Nat) (listed:Array Bool) (a:Act) (w:World),ZU3 md l.toArray z (XA5 segs fin) listed=true->ZVQ md l.toArray listed->(S w\/((XA5 segs fin).all fun x=>x.1)=true)->YqH P l S z Q segs fin a w →
   Q7j P md l.toArray Q S z (XA5 segs fin).length listed a w
 | [],fin,listed,a,w,hB,hc,hS,h=>by
  have hS':S w\/fin=[]:=hS.imp id fun h=>by
   cases fin with
   | nil=>rfl
   | cons x y=>simp [XA5] at h
  have:=Yo2 (R:=[]) (f:=0) (K:=fun a'=>Q .normal a' w) hsel hQ hz (fun listed a hB _ h=>⟨by simpa [ZU3] using hB,h⟩) fin listed a hS' (by simpa [XA5] using hB) hc h;simpa [XA5] using this
 | (qs,k) :: r,fin,listed,a,w,hB,hc,hS,h=>by
  have hS':S w\/qs=[]:=hS.imp id fun h=>by
   cases qs with
   | nil=>rfl
   | cons x y=>simp [XA5] at h
  have hlen:(XA5 ((qs,k) :: r) fin).length=qs.length+((XA5 r fin).length+1):=by simp [XA5]
  rw [hlen];refine Yo2 hsel hQ hz (fun listed a hB hc h=>?_) qs listed a hS' (by simpa [XA5] using hB) hc h;simp only [ZU3,Bool.and_eq_true,decide_eq_true_eq,Bool.or_eq_true] at hB;obtain ⟨⟨hr,hkz⟩,hB'⟩:=hB;have hkr:k∈Region.ready md l.toArray listed:=by rw [hr];simp
  refine ⟨fun h0=>(by rw [hr] at h0;cases h0),fun i hi=>?_⟩;rw [hr] at hi;obtain rfl:i=k:=by simpa using hi
  obtain ⟨_,o,ho,_⟩:=mem_ready.1 hkr;rw [XJH ho] at h;refine X8H ho (fun a2 w2 h2=>⟨h2.1,ZHG hsel hQ hz r fin _ a2 w2 hB' (hc.set hkr) ?_ h2.2⟩) h;rcases h2.1 with h3 | h3
  ·exact .inr (hkz.resolve_left (by omega))
  ·exact .inl h3
theorem Xw6 {qs:List Nat} {k:Nat} {r:List (List Nat × Nat)} {fin:List Nat} {a:Act} {w:World}
  (h:wpQuiet P l.toArray S (fun a'=>wpList P l.toArray (Exit.then (fun a2 w2=>(z<=k\/S w2)/\YqH P l S z Q r fin a2 w2) Q) (XZy l [k]) a' w) (XZy l qs) a):YqH P l S z Q ((qs,k) :: r) fin a w:=h
theorem YqX {fin:List Nat} {a:Act} {w:World} (h:wpQuiet P l.toArray S (fun a'=>Q .normal a' w) (XZy l fin) a):YqH P l S z Q [] fin a w:=h
theorem YvE {id:Nat} {a:Act} {w:World} (S:World->Prop) (z:Nat) (segs:List (List Nat × Nat)) (fin:List Nat) (hm:P.follows .mixedOrders=true)
  (hB:(Region.noSelect l.toArray&&QlW .any l.toArray z&&ZU3 .any l.toArray z (XA5 segs fin) (Array.replicate l.toArray.size false)&&(XA5 segs fin).length==l.toArray.size)=true) (hS:S w.drew)
  (h:YqH P l (fun w'=>∃ p:ZJV S,w'=p.w) z (NoPanic Q) segs fin a w.drew):(Code.region id l.toArray true).wp P Q a w:=by
 simp only [Bool.and_eq_true,beq_iff_eq] at hB;obtain ⟨⟨⟨hsel,hz⟩,hB⟩,hlen⟩:=hB;refine wp_region_noPanic (wp_region_any hm ?_);have:=ZHG (P:=P) (Q:=NoPanic Q) (md:=.any) hsel (fun c a b w h=>h) hz segs fin _ a w.drew hB (ZVQ.none .any l.toArray) (.inl (ZJV.of hS)) h;rw [hlen] at this;exact ZmF _ _ _ _ this
end
end
end
section
section
open Go.RowKit Word
theorem Vie {n:Nat} (h1:1<=n):n &&& (n-1)=0↔∃ k,n=2 ^ k:=by
 constructor
 ·induction n using Nat.strongRecOn with
  | _ n ih=>
   intro h0;by_cases hn:n=1
   ·exact ⟨0,hn⟩
   ·have e1:(n &&& (n-1)) >>> 1=n >>> 1 &&& (n-1) >>> 1:=Nat.shiftRight_and_distrib ..;rw [h0] at e1;simp only [Nat.shiftRight_succ,Nat.shiftRight_zero] at e1;rcases Nat.mod_two_eq_zero_or_one n with h | h
    ·rw [show (n-1)/2=n/2-1 by omega] at e1;obtain ⟨k,hk⟩:=ih (n/2) (by omega) (by omega) (by omega);exact ⟨k+1,by rw [Nat.pow_succ];omega⟩
    ·rw [show (n-1)/2=n/2 by omega,Nat.and_self] at e1;omega
 ·rintro ⟨k,rfl⟩;rw [Nat.and_two_pow_sub_one_eq_mod,Nat.mod_self]
theorem QdJ {a b:Nat} (ha:a<9223372036854775808) (hb:b<9223372036854775808):bits .and .i64 (a:Int) (b:Int)=((a &&& b:Nat):Int):=by
 have h1:(BitVec.ofInt 64 (a:Int)).toNat=a:=by
  rw [BitVec.ofInt_natCast,BitVec.toNat_ofNat];exact Nat.mod_eq_of_lt (by omega)
 have h2:(BitVec.ofInt 64 (b:Int)).toNat=b:=by
  rw [BitVec.ofInt_natCast,BitVec.toNat_ofNat];exact Nat.mod_eq_of_lt (by omega)
 show IntKind.i64.wrap ((BitVec.ofInt 64 (a:Int) &&& BitVec.ofInt 64 (b:Int)).toNat:Int)=_
 rw [BitVec.toNat_and,h1,h2];have:a &&& b<=a:=Nat.and_le_left;exact IntWalk.i64_in _ (by omega)
theorem XyG {n:Nat} (h:n<9223372036854775808):XuW (n:Int)=true↔∃ k,n=2 ^ k:=by
 unfold XuW;by_cases h0:n=0
 ·subst h0;refine ⟨fun h=>by simp at h,fun ⟨k,hk⟩=>?_⟩;have:=Nat.two_pow_pos k;omega
 ·rw [decide_eq_true (by omega),Bool.true_and,show ((n:Int)-1)=((n-1:Nat):Int) by omega,QdJ h (by omega),<-Vie (by omega)];simp
def XiS (n lo hi:Int):Bool:=XuW n&&decide (lo<=n)&&decide (n<=hi)
theorem Jo9 {n lo hi:Int} (h:XiS n lo hi=true):lo<=n/\n<=hi/\XuW n=true:=by
 unfold XiS at h;simp at h;exact ⟨h.1.2,h.2,h.1.1⟩
theorem X1d (n:Int):XiS n 1 1024=Y1d n:=by
 rw [XYi];unfold XiS;cases h:XuW n with
 | false=>rfl
 | true=>
  have:0<n:=by
   unfold XuW at h;simp at h;exact h.1
  rw [decide_eq_true (show (1:Int)<=n by omega),Bool.true_and]
theorem V2o {a b:Nat} (ha:XuW (a:Int)=true) (hb:XuW (b:Int)=true) (ha2:a<9223372036854775808) (hb2:b<9223372036854775808) (h:a<=b):b%a=0:=by
 obtain ⟨i,rfl⟩:=(XyG ha2).1 ha;obtain ⟨j,rfl⟩:=(XyG hb2).1 hb;have hij:i<=j:=(Nat.pow_le_pow_iff_right (by decide)).1 h;exact Nat.mod_eq_zero_of_dvd (Nat.pow_dvd_pow 2 hij)
end
end
section
section
open Go.RowKit Word
theorem ZaP {W:World} {b:Nat} {T:TypeId} {xs:List Value} (h:Rec W b T xs):∀ (n i:Nat) (acc:Array Value),i+n=xs.length->(loadCellsFrom ⟨b,0,none⟩ i n acc).run Tryz.prog W=.ok (acc++(xs.drop i).toArray) W:=by
 intro n
 induction n with
 | zero=>
  intro i acc hi;rw [List.drop_eq_nil_of_le (by omega)];simp [loadCellsFrom,go_sem]
 | succ n ih=>
  intro i acc hi;have hc:=h.cell (j:=i) (u:=xs[i]'(by omega)) (List.getElem?_eq_getElem _);have e:Addr.add ⟨b,0,none⟩ i=⟨b,i,none⟩:=by unfold Addr.add;split <;> simp_all
  unfold loadCellsFrom;simp only [Sem.run_bind];rw [show (load (Addr.add ⟨b,0,none⟩ i)).run Tryz.prog W=.ok (xs[i]'(by omega)) W by rw [e];simp [go_sem,hc]];simp only [Result.andThen];rw [ih (i+1) _ (by omega),List.drop_eq_getElem_cons (show i<xs.length by omega)];simp
theorem XkM {W:World} {b:Nat} {T:TypeId} {xs:List Value} (h:Rec W b T xs) (hA:(isAgg T).run Tryz.prog W=.ok true W) (hS:(sizeOf T).run Tryz.prog W=.ok xs.length W):(loadVar T ⟨b,0,none⟩).run Tryz.prog W=.ok (.agg xs.toArray) W:=by
 have:=ZaP h xs.length 0 #[] (by omega);simp only [List.drop_zero,Array.empty_append] at this;simp [loadVar,Sem.run_bind,hA,hS,Result.andThen,loadCells,this,go_sem]
theorem Qwi (a:Addr) (k:FloatKind) (b:Nat) (w:World):(store a (.float k b)).run Tryz.prog w=stored Tryz.prog w a (.float k b) .plain:=run_store _ _ _ _ _ rfl
end
end
end Go.Proofs.YtmjoodkiiekjcaaGreatDoor
