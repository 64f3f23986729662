/- Part 9 of what HeapNobody leans on: my own lemmas, merged by shake.py. -/
import Derived.Test.YtmjoodkiiekjcaaGreatDoorHeapNobodyH
import Derived.Deep.CutBlock
import Derived.Deep.DeepCutAuto
namespace Go.Proofs.YtmjoodkiiekjcaaGreatDoor
set_option maxRecDepth 100000
section
section
section
open Go.RowKit Word
end
end
section
section
open Go.RowKit Word
end
end
section
section
section
open Go.RowKit Word
def kl (p f k:Nat):List Int:=List.replicate p 1++List.replicate f 2++List.replicate k 3
end
end
section
section
open Go.RowKit Word
end
end
end
section
section
open Go.RowKit Word
structure JKh (M:Nat) (v:Vm):Prop where
 ok:ZAR v
 n:v.n=M
 al:∀ a:Nat,a<M->v.ldE a=0
 m1:1<=M
section
variable {w:World} {A:Option Addr} {cp M:Nat} {v:Vm}
end
end
end
end
section
section
open Go.RowKit Word
def mpN (v:Vm):Nat->Vm
 | 0=>v
 | k+1=>(mpN v k).mp (k:Nat)
theorem ZqK {v:Vm} (h:ZAR v) (hu:v.pl.used=0) (hl:∀ p,p<v.pt.length->v.pt.getD p 0=0) (hr:v.pt.length<=v.pl.rm) {k:Nat} (hk:k<=v.pt.length):Ji4 v (mpN v k) (List.range k):=by
 induction k with
 | zero=>exact Ji4.refl h
 | succ k ih=>
  have ih:=ih (by omega);have hln:=ih.len h
  have hz:(mpN v k).pt.getD k 0=0:=by
   have:=ih.ma k (by omega);by_cases h0:(mpN v k).pt.getD k 0=0
   ·exact h0
   ·rcases this.1 h0 with h1 | h1
    ·exact absurd (hl k (by omega)) h1
    ·exact absurd (List.mem_range.1 h1) (Nat.lt_irrefl _)
  have hE:(mpN v k).mpE (k:Nat)=0:=by
   unfold Vm.mpE;have h1:pgE (mpN v k).pt (k:Nat)=0:=by unfold pgE;rw [hln];exact if_pos (by omega)
   have h2:=ih.us;rw [List.length_range,hu] at h2;rw [if_neg (fun h=>h h1),Int.toNat_natCast,if_neg (fun h=>h hz),if_neg];rw [ih.rm];omega
  rw [List.range_succ];exact ih.mp h hE
def stN (v:Vm) (f:Nat->Nat):Nat->Vm
 | 0=>v
 | k+1=>(stN v f k).st (k:Nat) (f k)
structure J4R (v v':Vm) (f:Nat->Nat) (k:Nat):Prop where
 ok:ZAR v'
 sm:VqE v v'
 vl:∀ a:Nat,a<k->v'.ldV a=f a
theorem VYd {v:Vm} (h:ZAR v) (hl:∀ a:Nat,a<v.n->v.ldE a=0) {f:Nat->Nat} (hf:∀ a,f a<18446744073709551616) {k:Nat} (hk:k<=v.n):J4R v (stN v f k) f k:=by
 induction k with
 | zero=>exact ⟨h,VqE.refl v,fun a ha=>absurd ha (Nat.not_lt_zero _)⟩
 | succ k ih=>
  have ih:=ih (by omega);have hE:(stN v f k).ldE (k:Nat)=0:=by rw [ih.sm.ldE];exact hl k (by omega)
  refine ⟨ih.ok.st _ (hf k),ih.sm.trans (VqE.st _ _ _),fun a ha=>?_⟩
  show ((stN v f k).st (k:Nat) (f k)).ldV a=_
  rw [ih.ok.st_ldV _ hE];by_cases e:(k:Int)=a
  ·rw [if_pos e];obtain rfl:k=a:=by omega
   rfl
  ·rw [if_neg e];exact ih.vl a (by omega)
theorem Qrk {n:Nat} (h1:1<=n) (h2:n<=4096) {f:Nat->Nat} (hf:∀ a,f a<18446744073709551616):∃ u:Vm,JKh n u/\∀ a:Nat,a<n->u.ldV a=f a:=by
 have hok:ZAR (Vm.new n 1 n):=ZAR.new (by unfold Y4M;simp;omega) (by decide) h1 (by omega) (Nat.mod_one n);have hlen:(Vm.new n 1 n).pt.length=n:=by show (List.replicate (n/1) 0).length=n;rw [List.length_replicate,Nat.div_one]
 have hm:=ZqK hok rfl (fun p hp=>by show (List.replicate (n/1) 0).getD p 0=0;exact VBu _ _) (by rw [hlen];exact Nat.le_refl _) (k:=n) (by rw [hlen];exact Nat.le_refl _);have hn:(mpN (Vm.new n 1 n) n).n=n:=hm.n
 have hl:∀ a:Nat,a<n->(mpN (Vm.new n 1 n) n).ldE a=0:=fun a ha=>by
  rw [hm.ldE hok (show a<(Vm.new n 1 n).n from ha),if_pos];rw [List.mem_range]
  show a/1<n
  rw [Nat.div_one];exact ha
 have hs:=VYd hm.ok (fun a ha=>hl a (by rw [hn] at ha;exact ha)) hf (k:=n) (by rw [hn];exact Nat.le_refl _);exact ⟨_,⟨hs.ok,hs.sm.n.trans hn,fun a ha=>by rw [hs.sm.ldE];exact hl a ha,h1⟩,hs.vl⟩
end
end
section
section
open Go.RowKit Word
theorem Jsc {v:Vm} {rs:List Int} {n:Nat} (hS:Xd6 v rs n) {a:Int} (ha:Rch v rs a):
  ∃ b p f k:Nat,a=b/\v.rdE a=0/\v.rdH a=⟨p,f,k⟩/\p+f+k<=255/\(b:Int)+(1+p+f+k)<=n/\0<b/\v.osz a=1+(p:Int)+f+k ∧
   ∀ m:Nat,m<p->v.ldE (a+1+m)=0/\v.ldV (a+1+m)<=2147483647/\(v.ldV (a+1+m)≠0->Rch v rs (v.ldV (a+1+m):Nat)):=by
 have hrd:=hS.rd a ha;obtain ⟨h0,-,p,f,k,hh,hs⟩:=J7F hrd;obtain ⟨b,rfl⟩:∃ b:Nat,a=b:=⟨a.toNat,by omega⟩;have ho:v.osz b=1+(p:Int)+f+k:=by unfold Vm.osz;rw [hh];exact if_pos (JJj hs)
 have hin:=hS.rm b ha;refine ⟨b,p,f,k,rfl,hrd,hh,hs,by omega,by omega,ho,fun m hm=>?_⟩;have hm':(m:Int)<(v.rdH b).p:=by rw [hh];show (m:Int)<(p:Int);omega
 have hpt:=hS.pt b ha m hm';have he:=ZbX hpt;refine ⟨he.2.2.1,he.2.1,fun h0=>?_⟩;exact ha.step ⟨hrd,m,hm',hpt,by rw [he.1];exact h0,by rw [he.1]⟩
section
variable {w:World} {A0 A:Option Addr} {cp cr M:Nat} {v:Vm} {rs:List Int} {L:List Ob}
end
end
end
section
section
open Go.RowKit Word
def pkW (v:Vm) (L:List Ob) (fr a m:Nat):Nat:=if (1<=m/\(m:Int)<=(v.rdH a).p)/\v.ldV ((a:Int)+m)≠0 then (toV L fr (v.ldV ((a:Int)+m):Nat)).toNat else v.ldV ((a:Int)+m)
def QRw (v:Vm) (L:List Ob) (fr:Nat):List Ob->List Nat
 | []=>[]
 | o :: r=>(List.range o.2).map (pkW v L fr o.1)++QRw v L fr r
theorem Ywe (v:Vm) (L:List Ob) (fr:Nat) (P:List Ob) {j m:Nat} (hj:j<P.length) (hm:m<P[j].2):(QRw v L fr P).getD (Qd4 (P.take j)+m) 0=pkW v L fr P[j].1 m:=by
 induction P generalizing j with
 | nil=>simp at hj
 | cons o r ih=>
  cases j with
  | zero=>
   have hm:m<o.2:=hm;simp only [List.take_zero,Qd4,Nat.zero_add,QRw,List.getElem_cons_zero];rw [List.getD_eq_getElem?_getD,List.getElem?_append_left (by simpa using hm),List.getElem?_map,List.getElem?_range hm];rfl
  | succ j=>
   have hj':j<r.length:=by simpa using hj
   have:=ih hj' (by simpa using hm);simp only [List.take_succ_cons,Qd4,QRw,List.getElem_cons_succ];rw [<-this,List.getD_eq_getElem?_getD,List.getElem?_append_right (by simp;omega),List.getD_eq_getElem?_getD];congr 2;simp;omega
theorem YnY {n:Nat} {L:List Ob} (hg:Q4l n L) {fr:Nat} (hf:∀ o∈L,fr<=o.1) {j:Nat} (hj:j<L.length):fr+Qd4 (L.take j)<=L[j].1:=by
 induction j with
 | zero=>simpa [Qd4] using hf _ (List.getElem_mem hj)
 | succ j ih=>
  have h1:=ih (by omega);have h2:=hg.at (by omega) hj (Nat.lt_succ_self j);have h3:=Qsm (L:=L) (j:=j) (by omega);omega
theorem Jc5 {v v':Vm} {a:Int} (h1:v'.ldE a=v.ldE a) (h2:v'.ldV a=v.ldV a):v'.rdE a=v.rdE a/\v'.rdH a=v.rdH a:=by
 unfold Vm.rdE Vm.rdH;rw [h1,h2];exact ⟨rfl,rfl⟩
structure Pkd (v v':Vm) (L:List Ob) (fr k:Nat):Prop where
 ok:ZAR v'
 sm:VqE v v'
 o:∀ b:Nat,(b<fr\/fr+k<=b)->v'.ldV b=v.ldV b
 row:∀ i,i<k->v'.ldV ((fr+i:Nat):Int)=(QRw v L fr L).getD i 0
theorem Pkd.zero {v:Vm} (h:ZAR v) (L:List Ob) (fr:Nat):Pkd v v L fr 0:=⟨h,VqE.refl v,fun _ _=>rfl,fun _ h=>absurd h (Nat.not_lt_zero _)⟩
theorem Pkd.step {v v':Vm} {L:List Ob} {fr k:Nat} (h:Pkd v v' L fr k) (hl:v.ldE ((fr+k:Nat):Int)=0) {x:Nat} (hx:x=(QRw v L fr L).getD k 0) (hx2:x<18446744073709551616):Pkd v (v'.st ((fr+k:Nat):Int) x) L fr (k+1):=by
 have hl':v'.ldE ((fr+k:Nat):Int)=0:=by rw [h.sm.ldE];exact hl
 have hst:=h.ok.st_ldV x hl';refine ⟨h.ok.st _ hx2,h.sm.trans (VqE.st _ _ _),fun b hb=>?_,fun i hi=>?_⟩
 ·rw [hst,if_neg (by omega)];exact h.o b (by omega)
 ·rw [hst];by_cases e:i=k
  ·rw [if_pos (by omega),e,hx]
  ·rw [if_neg (by omega)];exact h.row i (by omega)
structure VGV (v:Vm) (rs:List Int) (L:List Ob) (fr tp:Nat):Prop where
 ok:ZAR v
 mks:Zx6 v rs v.n L
 inn:∀ o∈L,fr<=o.1/\o.1+o.2<=tp
 fr1:1<=fr
 tpn:tp<=v.n
 lds:∀ a:Nat,fr<=a->a<fr+Qd4 L->v.ldE a=0
section
variable {v v':Vm} {rs:List Int} {L:List Ob} {fr tp:Nat}
theorem VGV.le (c:VGV v rs L fr tp) {j:Nat} (hj:j<L.length):fr+Qd4 (L.take j)<=L[j].1:=YnY c.mks.mkd.good (fun o ho=>(c.inn o ho).1) hj
theorem VGV.sz (_c:VGV v rs L fr tp) {j:Nat} (hj:j<L.length):Qd4 (L.take (j+1))=Qd4 (L.take j)+L[j].2/\Qd4 (L.take j)+L[j].2<=Qd4 L:=by
 exact ⟨Qsm hj,VfC hj⟩
theorem Pkd.src (c:VGV v rs L fr tp) {j m:Nat} (hj:j<L.length) (h:Pkd v v' L fr (Qd4 (L.take j)+m)):v'.ldV ((L[j].1+m:Nat):Int)=v.ldV ((L[j].1+m:Nat):Int)/\v'.ldE ((L[j].1+m:Nat):Int)=v.ldE ((L[j].1+m:Nat):Int):=by
 have:=c.le hj;exact ⟨h.o _ (by omega),h.sm.ldE _⟩
theorem Pkd.hdr (c:VGV v rs L fr tp) {j:Nat} (hj:j<L.length) (h:Pkd v v' L fr (Qd4 (L.take j))):v'.rdE (L[j].1:Nat)=0/\v'.rdH (L[j].1:Nat)=v.rdH (L[j].1:Nat):=by
 obtain ⟨h1,h2⟩:=Pkd.src (m:=0) c hj h;obtain ⟨e1,e2⟩:=Jc5 h2 h1;exact ⟨e1.trans (c.mks.mkd.ats _ (List.getElem_mem hj)).2.1,e2⟩
theorem VGV.hd (c:VGV v rs L fr tp) {j:Nat} (hj:j<L.length):∃ p f k:Nat,v.rdH (L[j].1:Nat)=⟨p,f,k⟩/\p+f+k<=255/\L[j].2=1+p+f+k:=by
 obtain ⟨h1,h2,h3⟩:=c.mks.mkd.ats _ (List.getElem_mem hj);obtain ⟨b,p,f,k,he,-,hh,hs,-,-,hz,-⟩:=Jsc c.mks.sound h1;exact ⟨p,f,k,hh,hs,by omega⟩
theorem Q8p (c:VGV v rs L fr tp) {a:Int} (ha:Hs L a):∃ j,∃ hj:j<L.length,(L[j].1:Int)=a/\toV L fr a=((fr+Qd4 (L.take j):Nat):Int):=by
 obtain ⟨o,ho,he⟩:=ha;obtain ⟨j,hj,rfl⟩:=List.getElem_of_mem ho;refine ⟨j,hj,he,?_⟩;have h1:=(c.mks.mkd.good.sz _ (List.getElem_mem hj)).1;have:=(YXt c.mks.mkd.good (base:=fr) hj (a:=a) (by omega) (by omega)).1;rw [this];omega
theorem Vco (c:VGV v rs L fr tp):toV L fr 0=0:=by
 have h:¬ ZH8 L 0<L.length:=fun h=>by
  have h1:=JBb h;have h2:=(c.inn _ (List.getElem_mem h)).1;have:=c.fr1;omega
 exact (YPG h).1
theorem VGV.ptr (c:VGV v rs L fr tp) {j m:Nat} (hj:j<L.length) (h1:1<=m) (h2:(m:Int)<=(v.rdH (L[j].1:Nat)).p):v.ldV ((L[j].1+m:Nat):Int)<=2147483647/\(v.ldV ((L[j].1+m:Nat):Int)≠0->Hs L (v.ldV ((L[j].1+m:Nat):Int):Nat)):=by
 obtain ⟨hr,-,-⟩:=c.mks.mkd.ats _ (List.getElem_mem hj);obtain ⟨b,p,f,k,he,-,hh,hs,-,-,hz,hp⟩:=Jsc c.mks.sound hr;rw [hh] at h2;have:=hp (m-1) (by have:(m:Int)<=(p:Int):=h2;omega);rw [show ((L[j].1:Nat):Int)+1+((m-1:Nat):Int)=((L[j].1+m:Nat):Int) by omega] at this;exact ⟨this.2.1,fun h0=>c.mks.all _ (this.2.2 h0)⟩
theorem YfZ (v:Vm) (L:List Ob) (fr a m:Nat) {x:Nat} (hx:v.ldV ((a+m:Nat):Int)=x):pkW v L fr a m=if (1<=m/\(m:Int)<=(v.rdH a).p)/\x≠0 then (toV L fr (x:Nat)).toNat else x:=by
 unfold pkW;rw [show (a:Int)+(m:Int)=((a+m:Nat):Int) by omega,hx]
theorem VGV.pkW_lt (c:VGV v rs L fr tp) {j m:Nat} (hj:j<L.length):pkW v L fr L[j].1 m<18446744073709551616:=by
 rw [YfZ v L fr _ m rfl];have hx:=c.ok.ldV_lt ((L[j].1+m:Nat):Int)
 split
 ·rename_i h;obtain ⟨i,hi,-,e⟩:=Q8p c ((c.ptr hj h.1.1 h.1.2).2 h.2);rw [e,Int.toNat_natCast];have:=(c.sz hi).2;have:=XY5 c.mks.mkd.good;have:=c.ok.n2;have:=c.tpn;have:=c.le hi;have:=c.inn _ (List.getElem_mem hi);omega
 ·exact hx
end
end
end
section
section
open Go.RowKit Word
section
variable {w:World} {S:Nat->Prop} {q F f n B:Nat} {v v':Vm} {rs:List Int} {L:List Ob} {fr tp j:Nat}
def Qp6 (w:World) (S:Nat->Prop) (q:Nat) (v:Vm) (L:List Ob) (fr k:Nat) (e:Ending) (w':World):Prop:=
 e=.returned (.tuple #[])/\XF4 (ZOk S w) w w'/\∃ v'',QXZ w' (ZOk S w) q v''/\Pkd v v'' L fr k
theorem VgZ {p f k:Nat} {i:Int} (h:¬ (0<=i/\i<p)):Yoq ⟨p,f,k⟩ i≠1:=by
 unfold Yoq
 split
 ·rename_i h0;rw [if_neg (by show ¬ i<(p:Int);omega)]
  split <;> decide
 ·decide
set_option maxHeartbeats 3200000 in
theorem Q2p (hV:QXZ w S q v') (hF:∀ W,XF4 (ZOk S w) w W->Fwd W F f n B fr L) (c:VGV v rs L fr tp) (hj:j<L.length) (hp:Pkd v v' L fr (Qd4 (L.take j))):
  Calls Tryz.prog 143 #[.pointer (some ⟨q,0,none⟩),.pointer (some ⟨f,0,none⟩),.int .i64 (L[j].1:Nat),.int .i64 (L[j].2:Nat)] w (Qp6 w S q v L fr (Qd4 (L.take j)+L[j].2)):=by
 obtain ⟨p,ff,k,hh,hs,hz⟩:=c.hd hj;have hle:=c.le hj;have hin:=(c.inn _ (List.getElem_mem hj)).2;have htpn:=c.tpn;have hn2:=c.ok.n2;have hrd:=hp.hdr c hj;rw [hh] at hrd;obtain ⟨A,hA⟩:∃ A,A=L[j].1:=⟨_,rfl⟩;obtain ⟨Z,hZ⟩:∃ Z,Z=L[j].2:=⟨_,rfl⟩;obtain ⟨K,hK⟩:∃ K,K=Qd4 (L.take j):=⟨_,rfl⟩
 have HTV:Hid (toV L fr (A:Nat)=((fr+K:Nat):Int)):=⟨by
  rw [hA,hK];have h1:=(c.mks.mkd.good.sz _ (List.getElem_mem hj)).1;have:=(YXt c.mks.mkd.good (base:=fr) hj (a:=((L[j].1:Nat):Int)) (by omega) (by omega)).1;rw [this];push_cast
  omega⟩
 have HV:=hid hV.cut;have HF:=hid hF;have HC:=hid c;have HJ:=hid hj;have HAE:=hid (And.intro hA (And.intro hZ hK));have HP:=hid hp;have HH:Hid (v.rdH (A:Nat)=⟨p,ff,k⟩):=⟨by rw [hA];exact hh⟩;have HRD:=hid (fun (W:World) (g:Gr w W)=>ZkF (HV.o.gr g) (A:Int));rw [<-hA] at hrd;rw [hrd.1,hrd.2] at HRD;have HTO:=hid (fun (W:World) (t:XF4 (ZOk S w) w W)=>Vcy (hF W t) (A:Int));rw [HTV.o] at HTO;obtain ⟨te,hte⟩:∃ te,te=toE L (A:Int):=⟨_,rfl⟩;rw [<-hte] at HTO;have HKD:=hid (fun (W:World) (i:Int)=>VNI hs i W);have hRec:=hid (fun W=>Rec.new W 33 [.int .i64 p,.int .i64 ff,.int .i64 k]);simp only [List.toArray] at hRec;unfold X79 at HRD HKD;unfold spV at HRD;have HRW:Hid (∀ m,m<Z->(QRw v L fr L).getD (K+m) 0=pkW v L fr A m):=⟨fun m hm=>by rw [hK,hA];exact Ywe v L fr L hj (by rw [<-hZ];exact hm)⟩;rw [<-hA] at hle hin;rw [<-hZ] at hin hz;rw [<-hK] at hle HP;rw [<-hA,<-hZ,<-hK];clear hV hF c hp hh hA hZ hK hrd hte hz;go_enter Tryz.func143,Tryz.ntmps143;go_upto_region 1 with (go_at_call 100;refine (HRD.o _ (Gr.refl w)).mono ?_;rintro e w1 ⟨rfl,hg1⟩;have HG1:=hid hg1;clear hg1);obtain ⟨w2,hw2⟩:∃ w2,w2=w1.alloc (.cells #[.int .i64 p,.int .i64 ff,.int .i64 k] 33):=⟨_,rfl⟩;have R2:=hRec.o w1;obtain ⟨hq,hhq⟩:∃ hq,hq=w1.heap.size:=⟨_,rfl⟩;have HNS:Hid (¬ ZOk S w hq):=⟨fun h=>by have:=h.2;have:=HG1.o.size;omega⟩;have hg2:Gr w w2:=by rw [hw2];exact HG1.o.alloc _
 rw [<-hhq] at R2 ⊢;rw [<-hw2] at R2 ⊢;have HR2:=hid R2;have HG2:=hid hg2;clear hw2 hhq HG1 R2 hg2 hRec HRD;go_upto_region 2 with (go_at_call 145;refine (HTO.o _ (HG2.o.touch _)).mono ?_;rintro e w3 ⟨rfl,hg3⟩;have HR3:=hid (HR2.o.gr hg3);have HG3:=hid (HG2.o.trans hg3);clear hg3);have HV3:=hid (HV.o.gr HG3.o);have HT3:Hid (XF4 (ZOk S w) w w3):=⟨HG3.o.touch _⟩;clear HG2 HR2 HTO HG3;go_wp2_with (fail)
 go_loopw [31] (fun s31 wr=>∃ (i:Nat) (vx:Vm),i<=Z/\Hid (QXZ wr (ZOk S w) q vx/\Pkd v vx L fr (K+i))/\Hid (XF4 (ZOk S w) w wr)/\Hid (Rec wr hq 33 [.int .i64 p,.int .i64 ff,.int .i64 k])/\s31=.int .i64 i) (fun s31 _=>Z-(intOf s31).toNat)
 case atStart=>exact ⟨0,v',Nat.zero_le _,⟨⟨HV3.o,HP.o⟩⟩,HT3,HR3,rfl⟩
 case round=>
  obtain ⟨i,vx,hi,HVX,HTX,HRX,rfl⟩:=hrel;clear HV3 HT3 HR3;by_cases hlt:i<Z
  ·have hiI:(i:Int)<(Z:Int):=by omega
   have HLT:=hid hlt;have hAi:(A:Int)+(i:Int)=((A+i:Nat):Int):=by push_cast;rfl
   have hTi:((fr+K:Nat):Int)+(i:Int)=((fr+(K+i):Nat):Int):=by push_cast;omega
   have hsrc:=Pkd.src (m:=i) HC.o HJ.o (by rw [<-HAE.o.2.2];exact HVX.o.2);rw [<-HAE.o.1] at hsrc;have HLD:=hid (VW8 HVX.o.1 ((A+i:Nat):Int));rw [hsrc.1,hsrc.2] at HLD;obtain ⟨el,hel⟩:∃ el,el=v.ldE ((A+i:Nat):Int):=⟨_,rfl⟩;rw [<-hel] at HLD;have HXL:Hid (v.ldV ((A+i:Nat):Int)<18446744073709551616):=⟨HC.o.ok.ldV_lt _⟩;have HPW:Hid (pkW v L fr A i<18446744073709551616):=⟨by rw [HAE.o.1];exact HC.o.pkW_lt HJ.o⟩
   have HPT:Hid (1<=i->i<=p->v.ldV ((A+i:Nat):Int)<=2147483647/\(v.ldV ((A+i:Nat):Int)≠0->Hs L (v.ldV ((A+i:Nat):Int):Nat))):=⟨fun h1 h2=>by
    rw [HAE.o.1]
    exact HC.o.ptr HJ.o h1 (by rw [<-HAE.o.1,HH.o];show (i:Int)<=(p:Int);omega)⟩
   have HST:Hid (∀ (W:World),XF4 (ZOk S w) wr W->QXZ W (ZOk S w) q vx->∀ y:Nat,y=pkW v L fr A i->Calls Tryz.prog 214 #[.pointer (some ⟨q,0,none⟩),.int .i64 (((fr+K:Nat):Int)+(i:Int)),.int .u64 y] W fun e w'=>∃ er,e=.returned (.int .i64 er)/\XF4 (ZOk S w) W w'/\∃ v'',QXZ w' (ZOk S w) q v''/\Pkd v v'' L fr (K+(i+1))):=⟨fun W t hW y hy=>by
    rw [hTi];refine (Qpx hW _ (x:=y) (by rw [hy];exact HPW.o)).mono ?_;rintro e w' ⟨rfl,ht,hv⟩;refine ⟨_,rfl,ht,_,hv,?_⟩
    have:=HVX.o.2.step (HC.o.lds _ (by omega) (by
     have h1:=(HC.o.sz HJ.o).2;rw [<-HAE.o.2.1,<-HAE.o.2.2] at h1
     omega)) (x:=y) (by rw [hy];exact (HRW.o i HLT.o).symm) (by rw [hy];exact HPW.o)
    exact this⟩
   have HTOX:Hid (∀ (W:World) (a:Int),XF4 (ZOk S w) wr W->Hs L a->∃ y:Nat,toV L fr a=(y:Int)/\Calls Tryz.prog 145 #[.pointer (some ⟨f,0,none⟩),.int .i64 a] W fun e w'=>∃ er,e=.returned (.tuple #[.int .i64 y,.int .i64 er])/\Gr W w'):=⟨fun W a t ha=>by
    obtain ⟨j',hj',-,e⟩:=Q8p HC.o ha;refine ⟨fr+Qd4 (L.take j'),e,?_⟩;have:=Vcy (HF.o W (HTX.o.trans t)) a;rw [e] at this;refine this.mono ?_;rintro e w' ⟨rfl,hg⟩
    exact ⟨_,rfl,hg⟩⟩
   have HPE:Hid (pkW v L fr A i=if (1<=i/\(i:Int)<=(p:Int))/\v.ldV ((A+i:Nat):Int)≠0 then (toV L fr (v.ldV ((A+i:Nat):Int):Nat)).toNat else v.ldV ((A+i:Nat):Int)):=⟨by rw [YfZ v L fr A i rfl,HH.o]⟩;obtain ⟨x,hx⟩:∃ x,x=v.ldV ((A+i:Nat):Int):=⟨_,rfl⟩;rw [<-hx] at HLD HXL HPT HPE;rw [<-hAi] at HLD;clear hAi hTi hsrc hx hlt hel;have hi1:(i:Int)-1=((i:Int)-1):=rfl;clear hi1;have hib:(i:Int)<=524288:=by omega
   by_cases hp1:1<=i/\i<=p
   ·have HK1:Hid (Yoq ⟨p,ff,k⟩ ((i:Int)-1)=1):=⟨VaX (by omega) (by show (i:Int)-1<(p:Int);omega) (by show (p:Int)<Z3o ⟨p,ff,k⟩;rw [show Z3o ⟨p,ff,k⟩=1+(p:Int)+ff+k from if_pos (JJj hs)];omega)⟩;obtain ⟨hx31,hxh⟩:=HPT.o hp1.1 hp1.2;by_cases hx0:x=0
    ·subst hx0;have HY:Hid (0=pkW v L fr A i):=⟨by rw [HPE.o,if_neg (fun h=>h.2 rfl)]⟩;clear hp1 hx31 hxh
     go_wp2_with (first
      | (go_at_call 213;refine HLD.o.mono ?_;rintro e w4 ⟨rfl,hg4⟩;have y0:=(HRX.o.gr hg4).cell (j:=0) rfl;have y1:=(HRX.o.gr hg4).cell (j:=1) rfl;have y2:=(HRX.o.gr hg4).cell (j:=2) rfl;have yl:=(HRX.o.gr hg4).lt;have HG4:=hid hg4;clear hg4)
      | (go_at_call 151;refine (HKD.o _ _).mono ?_;rintro e w5 ⟨rfl,hg5⟩;rw [HK1.o];have HG5:=hid (HG4.o.trans hg5);clear hg5)
      | (go_at_call 214;refine (HST.o _ ((HG5.o).touch _) (HVX.o.1.gr (HG5.o)) 0 HY.o).mono ?_;rintro e w7 ⟨er,rfl,ht7,v7,hv7,hp7⟩;have HT7:=hid ht7;have HV7:=hid (And.intro hv7 hp7);clear ht7 hv7 hp7))
     go_round
     case rel=>exact ⟨i+1,v7,HLT.o,HV7,⟨(HTX.o.trans ((HG5.o).touch _)).trans HT7.o⟩,⟨(HRX.o.gr (HG5.o)).touch HT7.o HNS.o⟩,by go_num⟩
     case measure=>have:=HLT.o;simp [intOf];omega
    ·obtain ⟨y,hy,-⟩:=HTOX.o wr (x:Int) (XF4.refl _ _) (hxh hx0);have HY:Hid (y=pkW v L fr A i):=⟨by rw [HPE.o,if_pos ⟨⟨hp1.1,by omega⟩,hx0⟩,hy];rfl⟩
     have HTQ:Hid (∀ (W:World),XF4 (ZOk S w) wr W->Calls Tryz.prog 145 #[.pointer (some ⟨f,0,none⟩),.int .i64 (x:Nat)] W fun e w'=>∃ er,e=.returned (.tuple #[.int .i64 y,.int .i64 er])/\Gr W w'):=⟨fun W t=>by
      obtain ⟨y',hy',h⟩:=HTOX.o W (x:Int) t (hxh hx0);rw [hy] at hy';obtain rfl:y=y':=by omega
      exact h⟩
     have HYL:Hid (y<18446744073709551616):=⟨by rw [HY.o];exact HPW.o⟩;have hwy:IntKind.u64.wrap (y:Int)=(y:Int):=by have:=HYL.o;rw [IntKind.wrap_u64];omega
     have hwx:IntKind.i64.wrap (x:Int)=(x:Int):=IntWalk.i64_in _ (by omega);have d2:((x:Int) !=0)=true:=by simp;exact hx0
     clear hp1 hx31 hxh hx0 hy
     go_wp2_with (first
      | (go_at_call 213;refine HLD.o.mono ?_;rintro e w4 ⟨rfl,hg4⟩;have y0:=(HRX.o.gr hg4).cell (j:=0) rfl;have y1:=(HRX.o.gr hg4).cell (j:=1) rfl;have y2:=(HRX.o.gr hg4).cell (j:=2) rfl;have yl:=(HRX.o.gr hg4).lt;have HG4:=hid hg4;clear hg4)
      | (go_at_call 151;refine (HKD.o _ _).mono ?_;rintro e w5 ⟨rfl,hg5⟩;rw [HK1.o];have HG5:=hid (HG4.o.trans hg5);clear hg5)
      | (go_at_call 145;refine (HTQ.o _ (HG5.o.touch _)).mono ?_;rintro e w6 ⟨er6,rfl,hg6⟩;have HG6:=hid (HG5.o.trans hg6);clear hg6)
      | (go_at_call 214;refine (HST.o _ ((HG6.o).touch _) (HVX.o.1.gr (HG6.o)) y HY.o).mono ?_;rintro e w7 ⟨er,rfl,ht7,v7,hv7,hp7⟩;have HT7:=hid ht7;have HV7:=hid (And.intro hv7 hp7);clear ht7 hv7 hp7))
     go_round
     case rel=>exact ⟨i+1,v7,HLT.o,HV7,⟨(HTX.o.trans ((HG6.o).touch _)).trans HT7.o⟩,⟨(HRX.o.gr (HG6.o)).touch HT7.o HNS.o⟩,by go_num⟩
     case measure=>have:=HLT.o;simp [intOf];omega
   ·obtain ⟨kd,hkd⟩:∃ kd,kd=Yoq ⟨p,ff,k⟩ ((i:Int)-1):=⟨_,rfl⟩;have HK1:Hid (Yoq ⟨p,ff,k⟩ ((i:Int)-1)=kd):=⟨hkd.symm⟩;have hk1:kd≠1:=by rw [hkd];exact VgZ (fun h=>hp1 ⟨by omega,by omega⟩)
    have d1:(kd==1)=false:=by simpa using hk1
    have HY:Hid (x=pkW v L fr A i):=⟨by rw [HPE.o,if_neg (fun h=>hp1 ⟨h.1.1,by have:=h.1.2;omega⟩)]⟩;clear hp1 hkd hk1
    go_wp2_with (first
     | (go_at_call 213;refine HLD.o.mono ?_;rintro e w4 ⟨rfl,hg4⟩;have y0:=(HRX.o.gr hg4).cell (j:=0) rfl;have y1:=(HRX.o.gr hg4).cell (j:=1) rfl;have y2:=(HRX.o.gr hg4).cell (j:=2) rfl;have yl:=(HRX.o.gr hg4).lt;have HG4:=hid hg4;clear hg4)
     | (go_at_call 151;refine (HKD.o _ _).mono ?_;rintro e w5 ⟨rfl,hg5⟩;rw [HK1.o];have HG5:=hid (HG4.o.trans hg5);clear hg5)
     | (go_at_call 214;refine (HST.o _ ((HG5.o).touch _) (HVX.o.1.gr (HG5.o)) x HY.o).mono ?_;rintro e w7 ⟨er,rfl,ht7,v7,hv7,hp7⟩;have HT7:=hid ht7;have HV7:=hid (And.intro hv7 hp7);clear ht7 hv7 hp7))
    go_round
    case rel=>exact ⟨i+1,v7,HLT.o,HV7,⟨(HTX.o.trans ((HG5.o).touch _)).trans HT7.o⟩,⟨(HRX.o.gr (HG5.o)).touch HT7.o HNS.o⟩,by go_num⟩
    case measure=>have:=HLT.o;simp [intOf];omega
  ·obtain rfl:i=Z:=by omega
   clear hlt;go_wp2;refine bodyPost_end (results_none rfl _ _ _) rfl ?_;exact ⟨rfl,HTX.o,vx,HVX.o.1,HVX.o.2⟩
end
end
end
section
section
open Go.RowKit Word
def JKs (n fr tp room:Int):Bool:=decide (1<=fr)&&decide (fr<=tp)&&decide (tp<=n)&&decide (1<=room)&&decide (room<=4096)
theorem YMk {n fr tp room:Int}:JKs n fr tp room=true↔1<=fr/\fr<=tp/\tp<=n/\1<=room/\room<=4096:=by
 unfold JKs;simp [Bool.and_eq_true,decide_eq_true_eq,and_assoc]
theorem ZsY {n fr tp room:Int} (h:¬ (1<=fr/\fr<=tp/\tp<=n/\1<=room/\room<=4096)):JKs n fr tp room=false:=by
 cases hb:JKs n fr tp room with
 | false=>rfl
 | true=>exact absurd (YMk.1 hb) h
section
variable {w:World} {S:Nat->Prop} {q r g:Nat} {v:Vm} {rs:List Int}
set_option maxHeartbeats 1600000 in
theorem JGL (hV:QXZ w S q v) (hn:v.n≠0) (hR:V5d w r g rs) (fr tp room:Int):Calls Tryz.prog 138 #[.pointer (some ⟨q,0,none⟩),.pointer (some ⟨r,0,none⟩),.int .i64 fr,.int .i64 tp,.int .i64 room] w fun e w'=>e=.returned (.int .i64 (if JKs v.n fr tp room then 0 else 5))/\w=w':=by
 have HV:=hid hV;have HWD:=hid (Xwn hV);have HLN:=hid (YeU hR);have hne:rs.length≠0:=fun e=>hR.ne (List.eq_nil_of_length_eq_zero e);obtain ⟨l,hl⟩:∃ l,l=rs.length:=⟨_,rfl⟩;obtain ⟨n,hnn⟩:∃ n,n=v.n:=⟨_,rfl⟩;rw [<-hl] at HLN hne;rw [<-hnn] at HWD hn ⊢;have d0:((n:Int)==0)=false:=by simp;exact hn
 have d9:((l:Int)==0)=false:=by simp;exact hne
 obtain ⟨z,hz⟩:∃ z:Int,z=if JKs n fr tp room then 0 else 5:=⟨_,rfl⟩
 rw [<-hz];have HZ:=hid hz;clear hV hR hl hnn hn hne hz;go_enter Tryz.func138,Tryz.ntmps138
 go_upto_region 3 with (first
  | (go_at_call 52;refine HWD.o.mono ?_;rintro e w1 ⟨rfl,rfl⟩)
  | (go_at_call 191;refine HLN.o.mono ?_;rintro e w1 ⟨rfl,rfl⟩))
 clear d0 d9;by_cases h1:fr<1
 ·have e1:decide (fr<1)=true:=decide_eq_true h1;have HE:=hid (ZsY (n:=n) (fr:=fr) (tp:=tp) (room:=room) (by omega));go_wp2;go_ret;exact ⟨ZzN (by rw [HZ.o,HE.o];rfl),rfl⟩
 ·have e1:decide (fr<1)=false:=decide_eq_false h1;by_cases h2:tp<fr
  ·have e2:decide (tp<fr)=true:=decide_eq_true h2;have HE:=hid (ZsY (n:=n) (fr:=fr) (tp:=tp) (room:=room) (by omega));go_wp2;go_ret;exact ⟨ZzN (by rw [HZ.o,HE.o];rfl),rfl⟩
  ·have e2:decide (tp<fr)=false:=decide_eq_false h2;by_cases h3:(n:Int)<tp
   ·have e3:decide ((n:Int)<tp)=true:=decide_eq_true h3;have HE:=hid (ZsY (n:=n) (fr:=fr) (tp:=tp) (room:=room) (by omega));go_wp2_with (go_at_call 52;refine HWD.o.mono ?_;rintro e w1 ⟨rfl,rfl⟩);go_ret;exact ⟨ZzN (by rw [HZ.o,HE.o];rfl),rfl⟩
   ·have e3:decide ((n:Int)<tp)=false:=decide_eq_false h3;by_cases h4:room<1
    ·have e4:decide (room<1)=true:=decide_eq_true h4;have HE:=hid (ZsY (n:=n) (fr:=fr) (tp:=tp) (room:=room) (by omega));go_wp2_with (go_at_call 52;refine HWD.o.mono ?_;rintro e w1 ⟨rfl,rfl⟩);go_ret;exact ⟨ZzN (by rw [HZ.o,HE.o];rfl),rfl⟩
    ·have e4:decide (room<1)=false:=decide_eq_false h4;by_cases h5:4096<room
     ·have e5:decide (4096<room)=true:=decide_eq_true h5;have HE:=hid (ZsY (n:=n) (fr:=fr) (tp:=tp) (room:=room) (by omega));go_wp2_with (go_at_call 52;refine HWD.o.mono ?_;rintro e w1 ⟨rfl,rfl⟩);go_ret;exact ⟨ZzN (by rw [HZ.o,HE.o];rfl),rfl⟩
     ·have e5:decide (4096<room)=false:=decide_eq_false h5;have HE:=hid ((YMk (n:=n) (fr:=fr) (tp:=tp) (room:=room)).2 (by omega));go_wp2_with (go_at_call 52;refine HWD.o.mono ?_;rintro e w1 ⟨rfl,rfl⟩);go_ret;exact ⟨ZzN (by rw [HZ.o,HE.o];rfl),rfl⟩
end
end
end
section
section
open Go.RowKit Word
theorem YsB (o:Ob) (f t:Int):0<=Jc4 o f t:=by unfold Jc4;omega
theorem Vzk (L:List Ob) (f t:Int):0<=VeJ L f t:=by
 induction L with
 | nil=>exact Int.le_refl _
 | cons o r ih=>have:=YsB o f t;show 0<=Jc4 o f t+VeJ r f t;omega
theorem JQq {L:List Ob} {n tp:Nat} (hg:∀ o∈L,1<=o.2/\o.1+o.2<=n):VeJ L tp n=0↔∀ o∈L,o.1+o.2<=tp:=by
 induction L with
 | nil=>exact ⟨(fun _ _ h=>by cases h),fun _=>rfl⟩
 | cons o r ih=>
  have h1:=YsB o tp n;have h2:=Vzk r tp n;have h3:=hg o (List.mem_cons_self ..);have ih:=ih (fun q hq=>hg q (List.mem_cons_of_mem _ hq));have e:VeJ (o :: r) tp n=Jc4 o tp n+VeJ r tp n:=rfl;rw [e];constructor
  ·intro h q hq;rcases List.mem_cons.1 hq with rfl | hq
   ·have h4:Jc4 q tp n=0:=by omega
    unfold Jc4 at h4;omega
   ·exact ih.1 (by omega) q hq
  ·intro h;have h4:=ih.2 (fun q hq=>h q (List.mem_cons_of_mem _ hq));have h5:=h o (List.mem_cons_self ..);have h6:Jc4 o tp n=0:=by unfold Jc4;omega
   omega
theorem XAy {n:Nat} {o:Ob} {r:List Ob} (hg:Q4l n (o :: r)) {fr:Nat} (h:fr<=o.1):∀ q∈o :: r,fr<=q.1:=fun q hq=>by
 rcases List.mem_cons.1 hq with rfl | hq
 ·exact h
 ·have:=(List.pairwise_cons.1 hg.pw).1 q hq;omega
def Jx2 (v:Vm) (rs:List Int) (fr tp:Int) (L:List Ob):Prop:=Zx6 v rs v.n L/\∀ o∈L,fr<=(o.1:Int)/\(o.1:Int)+o.2<=tp
def Zt3 (w:World) (S:Nat->Prop) (q:Nat) (v:Vm) (rs:List Int) (fr tp:Nat) (e:Ending) (w':World):Prop:=
 XF4 S w w'/\QXZ w' (ZOk S w) q v ∧
  ((∃ L m p1 b1 p2 b2,Jx2 v rs fr tp L/\e=.returned (.tuple #[.pointer (some ⟨m,0,none⟩),.int .i64 0])/\Ext w' m p1 b1 p2 b2 v.n L/\w.heap.size<=m/\w.heap.size<=p1/\w.heap.size<=b1/\w.heap.size<=p2/\w.heap.size<=b2) ∨
   ((∀ L,¬ Jx2 v rs fr tp L)/\e=.returned (.tuple #[.pointer none,.int .i64 25])))
section
variable {w:World} {S:Nat->Prop} {q r g:Nat} {v:Vm} {rs:List Int}
set_option maxHeartbeats 3200000 in
theorem Jf0 (hV:QXZ w S q v) (hn:v.n≠0) (hR:V5d w r g rs) (hT:VRW w) (htS:¬ S 1) (fr tp room:Nat) (htp:tp<=v.n) (hr1:1<=room) (hr2:room<=4096):
  Calls Tryz.prog 139 #[.pointer (some ⟨q,0,none⟩),.pointer (some ⟨r,0,none⟩),.int .i64 fr,.int .i64 tp,.int .i64 room] w (Zt3 w S q v rs fr tp):=by
 have HV:=hid hV.cut;have HR:=hid hR;have HT:=hid hT;have HTS:=hid htS;have hn2:=hV.ok.n2;have htl:=hT.lt;have HX:=hid (fun W=>XMw v.n (by omega) (by omega) W);have hle:=hR.le;have HWD:=hid (fun (W:World) (g:Gr w W)=>Xwn (HV.o.gr g));have HLE:=hid hle;obtain ⟨n,hnn⟩:∃ n,n=v.n:=⟨_,rfl⟩;have HNN:=hid hnn;rw [<-hnn] at HX HWD htp hn2;clear hV hR hT htS hn hle hnn;go_enter Tryz.func139,Tryz.ntmps139
 go_upto_region 2 with (first
  | (go_at_call 52;refine (HWD.o _ (Gr.refl w)).mono ?_;rintro e w1 ⟨rfl,rfl⟩)
  | (go_at_call 51;refine (HX.o _).mono ?_;rintro e w3 ⟨m,p1,b1,p2,b2,rfl,hg3,he3,hb0,hb1,hb2,hb3,hb4⟩;have HG3:=hid hg3;have HE3:=hid he3;have HB:=hid (And.intro hb0 (And.intro hb1 (And.intro hb2 (And.intro hb3 hb4))));clear hg3 he3 hb0 hb1 hb2 hb3 hb4))
 have HMI:Hid (∀ i,YBz m b1 b2 i->w.heap.size<=i/\i<w3.heap.size):=⟨fun i hi=>by
  have h1:=HE3.o.hm;have h2:=HE3.o.v1.hb;have h3:=HE3.o.v2.hb;have h4:=HB.o
  rcases hi with rfl | rfl | rfl <;> omega⟩
 have HALL:=hid (fun (W:World) (g:Gr w3 W)=>ZbJ (HR.o.gr (HG3.o.trans g)))
 have HRUN:Hid (∀ (W:World) (g1 cp:Nat),Gr w3 W->w3.heap.size<=g1->W.ownsRow 0 3 1 (.slice (some ⟨g1,0,none⟩) rs.length cp) rs.length (zs rs)->Calls Tryz.prog 53 #[.iface 87 (.pointer (some ⟨q,0,none⟩)),.slice (some ⟨g1,0,none⟩) rs.length cp,.pointer (some ⟨m,0,none⟩),.int .i64 room] W fun e w'=>
   XF4 (fun i=>YBz m b1 b2 i\/ZOk S w i) W w'/\QXZ w' (ZOk S w) q v/\((∃ (L:List Ob) (rv vi:Int),e=.returned (.tuple #[.agg #[.int .i64 (L.length:Nat),.int .i64 (Qd4 L:Nat),.int .i64 rv,.int .i64 vi],.int .i64 0])/\Ext w' m p1 b1 p2 b2 n L/\Zx6 v rs n L)\/(e=.returned (.tuple #[.agg #[.int .i64 0,.int .i64 0,.int .i64 0,.int .i64 0],.int .i64 25])/\¬ Xd6 v rs n))):=⟨fun W g1 cp hg hg1 ho=>by
  have hgw:=HG3.o.trans hg;refine (XKD (HV.o.gr hgw) (HE3.o.gr hg) (hgw.tab HT.o.lt HT.o) (fun i hi=>?_) (by unfold maxLen;have:=HLE.o;omega) (fun i hi h=>by have:=(HMI.o i h).1;have:=hi.2;omega) (fun h=>by have:=h.2;have:=HB.o;omega) (fun h=>by have:=h.2;have:=HB.o;omega) (fun h=>HTS.o h.1) (fun h=>by have:=(HMI.o _ h).1;have:=HT.o.lt;omega) (room:Int)).mono ?_
  ·exact ⟨g1,0,rfl,(Vvr ho rfl).2,fun h=>by have:=(HMI.o _ h).2;omega,by rw [Nat.zero_add];exact ZBn ho (JbU hi)⟩
  ·rintro e w' (⟨h,-⟩ | ⟨-,-,ht,hv,(⟨L,r',vi,rfl,he,hm,-⟩ | ⟨rfl,-,hs⟩)⟩)
   ·omega
   ·exact ⟨ht,hv,.inl ⟨L,r',vi,rfl,he,hm⟩⟩
   ·exact ⟨ht,hv,.inr ⟨rfl,hs⟩⟩⟩
 have HTW:Hid (∀ W1 W2,Gr w3 W1->XF4 (fun i=>YBz m b1 b2 i\/ZOk S w i) W1 W2->XF4 S w W2):=⟨fun W1 W2 h1 h2=>((HG3.o.trans h1).touch _).trans' h2 (fun b hb h=>h.elim (fun h=>by have:=(HMI.o b h).1;omega) (fun h=>h.1))⟩
 go_upto_region 3 with (first
  | (go_at_call 54;refine (HALL.o _ (Gr.refl w3)).mono ?_;rintro e w4 ⟨g1,c1,rfl,hg4,hgl,ho4⟩;have HG4:=hid hg4;have HO4:=hid ho4;have HL4:=hid hgl;clear hg4 ho4 hgl)
  | (go_at_call 53;refine (HRUN.o _ g1 c1 HG4.o HL4.o HO4.o).mono ?_;rintro e w5 ⟨ht5,hv5,(⟨L,rv,vi,rfl,he5,hm5⟩ | ⟨rfl,hs5⟩)⟩ <;> (have HT5:=hid (HTW.o _ _ HG4.o ht5);have HV5:=hid hv5;clear ht5 hv5)))
 ·have HM5:=hid hm5;have HZ:Hid (w.heap.size<=w5.heap.size):=⟨HT5.o.size⟩;obtain ⟨w6,hw6⟩:∃ w6,w6=w5.alloc (.cells #[.int .i64 (L.length:Nat),.int .i64 (Qd4 L:Nat),.int .i64 rv,.int .i64 vi] 105):=⟨_,rfl⟩;have hg6:Gr w5 w6:=by rw [hw6];exact (Gr.refl w5).alloc _
  have HE6:=hid (he5.gr hg6);have HT6:Hid (XF4 S w w6):=⟨HT5.o.trans (hg6.touch _)⟩;have HV6:=hid (HV5.o.gr hg6);have HTB:Hid (VRW w6):=⟨HT.o.touch' HT6.o HTS.o⟩;rw [<-hw6];have HWD6:=hid (Xwn HV6.o);rw [<-HNN.o] at HWD6;have HLV:=hid (fun (f:Int) (t:Int) (hf:f<=9223372036854775807) (ht:-9223372036854775808<=t)=>QS1 HE6.o HTB.o f t hf ht);have HNT:=hid (QQo HE6.o HTB.o 0);clear hw6 hg6 he5 hm5;cases L with
  | nil=>
   rw [Qyx (by simp)] at HNT;have HL0:=hid (HLV.o tp n (by omega) (by omega));rw [show VeJ [] (tp:Int) (n:Int)=0 from rfl] at HL0
   go_wp2_with (first
    | (go_at_call 205;refine HNT.o.mono ?_;rintro e w7 ⟨rfl,rfl⟩)
    | (go_at_call 52;refine HWD6.o.mono ?_;rintro e w7 ⟨rfl,rfl⟩)
    | (go_at_call 206;refine HL0.o.mono ?_;rintro e w7 ⟨rfl,rfl⟩))
   go_ret2;exact ⟨HT6.o,HV6.o,.inl ⟨[],m,p1,b1,p2,b2,⟨by rw [<-HNN.o];exact HM5.o,fun _ h=>by cases h⟩,Qh8 rfl rfl,by rw [<-HNN.o];exact HE6.o,HB.o⟩⟩
  | cons o rr=>
   have hn0:Jxr (o :: rr) 0=0:=Qzy (Nat.zero_le _) (fun i _ h=>absurd h (Nat.not_lt_zero _)) (fun _=>by omega);rw [hn0,VTf (by simp)] at HNT;simp only [List.getElem_cons_zero] at HNT;have hg:=HE6.o.good;obtain ⟨os,hos⟩:∃ os,os=o.1:=⟨_,rfl⟩;obtain ⟨oz,hoz⟩:∃ oz,oz=o.2:=⟨_,rfl⟩;rw [<-hos,<-hoz] at HNT;have HOS:=hid hos;have HGD:=hid hg;by_cases hlo:os<fr
   ·have e1:decide ((os:Int)<(fr:Int))=true:=decide_eq_true (by omega);have e9:decide (os<fr)=true:=decide_eq_true hlo;have HLO:=hid hlo;clear hlo hos hoz hg hn0;go_wp2_with (go_at_call 205;refine HNT.o.mono ?_;rintro e w7 ⟨rfl,rfl⟩);go_ret2;refine ⟨HT6.o,HV6.o,.inr ⟨fun L' h=>?_,Qh8 rfl rfl⟩⟩;have h1:=h.1;rw [<-HNN.o] at h1;have e:=h1.unique HM5.o;subst e;have:=(h.2 o (List.mem_cons_self ..)).1;have:=HOS.o;have:=HLO.o;omega
   ·have e1:decide ((os:Int)<(fr:Int))=false:=decide_eq_false (by omega);have e9:decide (os<fr)=false:=decide_eq_false hlo;have HST:=hid (XAy hg (fr:=fr) (by omega));have HON:=hid (JQq (tp:=tp) hg.sz);have HL0:=hid (HLV.o tp n (by omega) (by omega));obtain ⟨ov,hov⟩:∃ ov,ov=VeJ (o :: rr) (tp:Int) (n:Int):=⟨_,rfl⟩;have hov0:0<=ov:=by rw [hov];exact Vzk _ _ _
    rw [<-hov] at HL0 HON;clear hlo hos hoz hg hn0 hov;by_cases hz:ov=0
    ·have e2:decide (0<ov)=false:=decide_eq_false (by omega);have HZE:=hid hz;clear hz
     go_wp2_with (first
      | (go_at_call 205;refine HNT.o.mono ?_;rintro e w7 ⟨rfl,rfl⟩)
      | (go_at_call 52;refine HWD6.o.mono ?_;rintro e w7 ⟨rfl,rfl⟩)
      | (go_at_call 206;refine HL0.o.mono ?_;rintro e w7 ⟨rfl,rfl⟩))
     go_ret2;refine ⟨HT6.o,HV6.o,.inl ⟨o :: rr,m,p1,b1,p2,b2,⟨by rw [<-HNN.o];exact HM5.o,fun q hq=>?_⟩,Qh8 rfl rfl,by rw [<-HNN.o];exact HE6.o,HB.o⟩⟩;have:=HST.o q hq;have:=HON.o.1 HZE.o q hq;omega
    ·have e2:decide (0<ov)=true:=decide_eq_true (by omega);have HZE:=hid hz;clear hz
     go_wp2_with (first
      | (go_at_call 205;refine HNT.o.mono ?_;rintro e w7 ⟨rfl,rfl⟩)
      | (go_at_call 52;refine HWD6.o.mono ?_;rintro e w7 ⟨rfl,rfl⟩)
      | (go_at_call 206;refine HL0.o.mono ?_;rintro e w7 ⟨rfl,rfl⟩))
     go_ret2;refine ⟨HT6.o,HV6.o,.inr ⟨fun L' h=>?_,Qh8 rfl rfl⟩⟩;have h1:=h.1;rw [<-HNN.o] at h1;have e:=h1.unique HM5.o;subst e;exact HZE.o (HON.o.2 fun q hq=>by have:=(h.2 q hq).2;omega)
 ·have HS5:=hid hs5;clear hs5;go_wp2;go_ret2;refine ⟨HT5.o.trans (((Gr.refl w5).alloc _).touch _),HV5.o.gr ((Gr.refl w5).alloc _),.inr ⟨fun L' h=>HS5.o ?_,Qh8 rfl rfl⟩⟩;rw [HNN.o];exact h.1.sound
end
end
end
section
section
open Go.RowKit Word
theorem Ji4.ldV_all {v v':Vm} {F:List Nat} (h:Ji4 v v' F) (hv:ZAR v) {a:Nat} (ha:a<v.n):v'.ldV a=v.ldV a:=by
 rw [h.vl a ha];by_cases hf:a/v.pl.pg∈F
 ·rw [if_pos hf];have:v.ldE a=12:=by rw [hv.ldE_of ha,if_pos (h.un _ hf).2]
  unfold Vm.ldV;rw [if_neg (by rw [this];decide)]
 ·rw [if_neg hf]
theorem YNw {v v1:Vm} (h:ZAR v) {rs:List Int} {fr tp:Nat} {L:List Ob} (hI:Jx2 v rs fr tp L) (h1:1<=fr) (h2:fr<=tp) (h3:tp<=v.n) (hE:Jsl v fr ((fr+Qd4 L:Nat):Int)=0) (hG:Ji4 v v1 (J5L v fr ((fr+Qd4 L:Nat):Int))):VGV v1 rs L fr tp/\fr+Qd4 L<=tp:=by
 have hw:=hG.wider h;have hin:∀ o∈L,fr<=o.1/\o.1+o.2<=tp:=fun o ho=>by have:=hI.2 o ho;omega
 have hall:fr+Qd4 L<=tp:=by
  rcases Nat.eq_zero_or_pos L.length with h0 | h0
  ·have:L=[]:=List.eq_nil_of_length_eq_zero h0;subst this;simp only [Qd4];omega
  ·have hj:L.length-1<L.length:=by omega
   have e1:=YnY hI.1.mkd.good (fun o ho=>(hin o ho).1) hj;have e2:=hin _ (List.getElem_mem hj);have e3:=Qsm hj;rw [show L.length-1+1=L.length by omega,List.take_length] at e3;omega
 exact ⟨⟨hG.ok,by rw [hG.n];exact hw.marks hI.1,hin,h1,by rw [hG.n];exact h3,fun a ha hb=>V75 h (by omega) hE hG ha hb⟩,hall⟩
def Ym5 (nt pg:Nat):Nat:=(nt+pg-1)/pg
theorem YmI {nt pg q:Nat} (hp:1<=pg):nt<=q*pg↔Ym5 nt pg<=q:=by
 unfold Ym5;have h1:=Nat.div_add_mod (nt+pg-1) pg;have h2:=Nat.mod_lt (nt+pg-1) (show 0<pg by omega);constructor
 ·intro h;have h3:nt+pg-1<(q+1)*pg:=by rw [Nat.add_mul];omega
  have:=(Nat.div_lt_iff_lt_mul (show 0<pg by omega)).2 h3;omega
 ·intro h;have h3:=Nat.mul_le_mul_right pg h;rw [Nat.mul_comm] at h1;omega
structure JyP (v:Vm) (rs:List Int) (fr tp:Nat) (L:List Ob) (v1 v2:Vm) (j:Nat):Prop where
 gr:Ji4 v v1 (J5L v fr ((fr+Qd4 L:Nat):Int))
 cx:VGV v1 rs L fr tp
 st:Pkd v1 v2 L fr (Qd4 L)
 q1:∀ i,i<j->(fr/v.pl.pg+i)*v.pl.pg<tp
 q2:tp<=(fr/v.pl.pg+j)*v.pl.pg
def VYG (v v2:Vm) (fr nt j:Nat):Vm:=umN v2 (Ym5 nt v.pl.pg) (fr/v.pl.pg+j-Ym5 nt v.pl.pg)
def YYf (w:World) (S:Nat->Prop) (q r g:Nat) (v:Vm) (rs:List Int) (fr tp room:Int) (e:Ending) (w':World):Prop:=
 XF4 (fun b=>b=g\/S b) w w' ∧
  ((JKs v.n fr tp room=false/\e=.returned (.tuple #[.int .i64 0,.int .i64 5])/\QXZ w' S q v/\V5d w' r g rs) ∨
  (JKs v.n fr tp room=true ∧
   (((∀ L,¬ Jx2 v rs fr tp L)/\e=.returned (.tuple #[.int .i64 0,.int .i64 25])/\QXZ w' S q v/\V5d w' r g rs) ∨
   ∃ (L:List Ob) (f t:Nat),Jx2 v rs fr tp L/\fr=(f:Int)/\tp=(t:Int) ∧
    ((Jsl v f ((f+Qd4 L:Nat):Int)≠0/\e=.returned (.tuple #[.int .i64 0,.int .i64 (Jsl v f ((f+Qd4 L:Nat):Int))])/\Y1U w' (plus S w) q v []/\V5d w' r g rs) ∨
    (Jsl v f ((f+Qd4 L:Nat):Int)=0/\e=.returned (.tuple #[.int .i64 ((f+Qd4 L:Nat):Int),.int .i64 0]) ∧
     ∃ v1 v2 j,JyP v rs f t L v1 v2 j/\QXZ w' (plus S w) q (VYG v v2 f (f+Qd4 L) j)/\V5d w' r g (rs.map (toV L f)))))))
section
variable {w:World} {S:Nat->Prop} {q r g:Nat} {v:Vm} {rs:List Int}
theorem YrC (hV:QXZ w S q v) (f t:Nat) (ht:t<=v.n) (hft:f<=t):Calls Tryz.prog 133 #[.pointer (some ⟨q,0,none⟩),.int .i64 f,.int .i64 t] w fun e w'=>e=.returned (.int .i64 (Jsl v f t))/\XF4 S w w'/\Y1U w' (plus S w) q v (J5L v f t):=by
 rcases Nat.lt_or_ge f t with h | h
 ·exact VfQ hV f t ht h
 ·obtain rfl:f=t:=by omega
  obtain ⟨e1,e2⟩:=VGS (v:=v) (f:=f) ht;rw [e1,e2];refine (Q7x hV f f ht (Nat.le_refl _)).mono ?_;rintro e w' ⟨rfl,hg⟩;refine ⟨rfl,hg.touch _,v,?_,(hV.gr hg).mono (fun _ h=>.inl h)⟩;exact ⟨hV.ok,rfl,rfl,rfl,rfl,List.nodup_nil,(fun _ h=>by cases h),(fun _ _=>by simp),fun _ _=>by simp⟩
theorem ZEN {n:Nat} {L:List Ob} (hg:Q4l n L) (hn:n<=1048576) (base:Nat) (a:Int):0<=toV L base a:=by
 unfold toV
 split
 ·have:=(ZOz hg hn a).1;omega
 ·exact Int.le_refl _
variable {F f n B fr:Nat} {L:List Ob}
theorem XoZ {fb:Nat} (hF:Fwd w F f n B fr L) (hc:w.cell? ⟨fb,0,none⟩=some (.pointer (some ⟨f,0,none⟩))) (a:Int):Calls Tryz.prog 144 #[.int .i64 a,.pointer (some ⟨fb,0,none⟩)] w fun e w'=>e=.returned (.int .i64 (toV L fr a))/\Gr w w':=by
 have HT:=hid (Vcy hF a);obtain ⟨y,hy⟩:∃ y,y=toV L fr a:=⟨_,rfl⟩;obtain ⟨z,hz⟩:∃ z,z=toE L a:=⟨_,rfl⟩;rw [<-hy,<-hz] at HT;rw [<-hy];clear hF hy hz;go_enter Tryz.func144,Tryz.ntmps144;go_wp2_with (go_at_call 145;refine (HT.o).mono ?_;rintro e w1 ⟨rfl,hg1⟩;have HG1:=hid hg1;clear hg1);go_ret;exact ⟨rfl,HG1.o⟩
theorem ZKw {fb:Nat} (hF:∀ W,XF4 (fun b=>b=g) w W->Fwd W F f n B fr L) (hc:w.cell? ⟨fb,0,none⟩=some (.pointer (some ⟨f,0,none⟩))) (hfb:fb≠g) (hR:V5d w r g rs) (h0:toV L fr 0=0):
  Calls Tryz.prog 87 #[.pointer (some ⟨r,0,none⟩),.func (.func 144) #[] #[.pointer (some ⟨fb,0,none⟩)]] w fun e w'=>e=.returned (.tuple #[])/\XF4 (fun b=>b=g) w w'/\V5d w' r g (rs.map (toV L fr)):=by
 refine (ZOv (F:=144) (pre:=#[]) (caps:=#[.pointer (some ⟨fb,0,none⟩)]) (fun i W out=>XF4 (fun b=>b=g) w W/\out=(rs.take i).map (toV L fr)) (fun _ _=>by kernel_rfl) hR ⟨XF4.refl _ _,rfl⟩ ?_ ?_).mono ?_
 ·rintro i hi W out ho ⟨t,e⟩ hz;refine ⟨t,?_⟩;rw [V37 hi,List.map_append,<-e,hz]
  show out++[0]=out++[toV L fr 0]
  rw [h0]
 ·rintro i hi W out ho ⟨t,e⟩ hrt hne W0 hg0;have hf:=hF W0 (t.trans (hg0.touch _));have hcl:=ZQf hc;have hc0:=((t.trans (hg0.touch _)).cell hcl hfb 0).trans hc;refine (XoZ hf hc0 rs[i]).mono ?_;rintro e' W' ⟨rfl,hg'⟩;have hb:=ZEN hf.good.1 hf.good.2 fr rs[i];refine ⟨_,rfl,(hrt.gr hg0).gr hg',fun W'' t''=>⟨((t.trans (hg0.touch _)).trans (hg'.touch _)).trans t'',?_⟩⟩;rw [V37 hi,List.map_append,<-e,Int.max_eq_left hb];rfl
 ·rintro e w' ⟨rfl,out,-,⟨t,e⟩,hrt⟩;rw [List.take_length] at e;subst e;exact ⟨rfl,t,hrt⟩
end
end
end
section
section
open Go.RowKit Word
def Vjz (L:List Ob) (i:Nat):Nat:=(VlZ L i).getD 0
theorem YZF {L:List Ob} {j m:Nat} (hj:j<L.length) (hm:m<L[j].2):Vjz L (Qd4 (L.take j)+m)=L[j].1+m:=by
 unfold Vjz;rw [XEK hj hm];rfl
theorem QhJ {L:List Ob} {i:Nat} (h:i<Qd4 L):∃ hj:XEF L i<L.length,∃ m,m<(L[XEF L i]'hj).2/\i=Qd4 (L.take (XEF L i))+m/\Vjz L i=(L[XEF L i]'hj).1+m:=by
 obtain ⟨hj,m,h1,h2,h3⟩:=VBJ h;exact ⟨hj,m,h1,h2,by unfold Vjz;rw [h3];rfl⟩
theorem Y3d {L:List Ob} {i:Nat}:V5E L (i:Int)=(Vjz L i:Int):=by
 unfold V5E Vjz;rw [if_neg (by omega),Int.toNat_natCast]
theorem Qmd {L:List Ob} {base i:Nat} (h:i<Qd4 L):Xbb L base ((base+i:Nat):Int)=(Vjz L i:Int)/\Zdp L base ((base+i:Nat):Int)=0:=by
 have hin:inF L base ((base+i:Nat):Int)=true:=Qy1.2 (by omega);unfold Xbb Zdp;rw [hin,if_pos rfl,if_pos rfl,show ((base+i:Nat):Int)-(base:Int)=(i:Int) by omega];exact ⟨Y3d,rfl⟩
theorem YYc {n:Nat} {L:List Ob} (hg:Q4l n L) {i k:Nat} (hik:i<k) (hk:k<Qd4 L):Vjz L i<Vjz L k:=by
 obtain ⟨hj,m,h1,h2,h3⟩:=QhJ (L:=L) (i:=i) (by omega);obtain ⟨hj',m',h1',h2',h3'⟩:=QhJ hk;rw [h3,h3'];rcases Nat.lt_trichotomy (XEF L i) (XEF L k) with h | h | h
 ·have:=hg.at hj hj' h;omega
 ·simp only [h] at h2 ⊢;omega
 ·have e1:=Qsm (L:=L) hj'
  have e2:Qd4 (L.take (XEF L k+1))<=Qd4 (L.take (XEF L i)):=by
   have:L.take (XEF L k+1)=(L.take (XEF L i)).take (XEF L k+1):=by rw [List.take_take];congr 1;omega
   rw [this];exact Zut _ _
  omega
theorem Z8c {L:List Ob} {fr tp:Nat} (hf:∀ o∈L,fr<=o.1/\o.1+o.2<=tp) {i:Nat} (hi:i<Qd4 L):fr<=Vjz L i/\Vjz L i<tp:=by
 obtain ⟨hj,m,h1,h2,h3⟩:=QhJ hi;have:=hf _ (List.getElem_mem hj);omega
theorem QFu {n:Nat} {L:List Ob} (hg:Q4l n L) {i:Nat} (hi:i<Qd4 L):ZH8 L (Vjz L i:Nat)=XEF L i:=by
 obtain ⟨hj,m,h1,h2,h3⟩:=QhJ hi;obtain ⟨j,hj',e1,e2,e3,e4,-⟩:=Zeb hg (base:=((0:Nat):Int)) (b:=(i:Int)) (Qy1.2 (by omega));have hs:=(Qmd (base:=0) hi).1;rw [Nat.zero_add] at hs;rw [hs] at e2 e3 e4
 have:XEF L i=j:=by
  rw [h3] at e2 e3;rcases hg.disj (List.getElem_mem hj) (List.getElem_mem hj') with e | e | e
  ·rcases Nat.lt_trichotomy (XEF L i) j with h | h | h
   ·have:=hg.at hj hj' h;have:=(hg.sz _ (List.getElem_mem hj)).1;rw [e] at this;omega
   ·exact h
   ·have:=hg.at hj' hj h;have:=(hg.sz _ (List.getElem_mem hj)).1;rw [e] at this;omega
  ·omega
  ·omega
 rw [this];exact e4
def cvH (L:List Ob) (tb:Nat) (h:Hdr) (m x:Nat):Nat:=if (1<=m/\(m:Int)<=h.p)/\x≠0 then (toV L tb (x:Nat)).toNat else x
structure Sl where
 n:Nat
 pg:Nat
 cf:Cf
 L:List Ob
 hd:Nat->Hdr
 c:Nat->Nat
 mv:List Bool
def Sl.mvd (s:Sl):Nat:=cnt (at_ s.mv) s.mv.length
def Sl.ft (s:Sl):Nat:=first (fun k=>!at_ s.mv k) s.mv.length
def Sl.lf (s:Sl):Nat:=s.mv.length-s.mvd
def Sl.is (s:Sl) (i:Nat):Bool:=at_ s.mv (i/s.cf.bk)
def Sl.off (s:Sl) (i:Nat):Nat:=i-Qd4 (s.L.take (XEF s.L i))
def Sl.hdr (s:Sl) (i:Nat):Hdr:=s.hd (s.L.getD (XEF s.L i) (0,0)).1
def Sl.cv (s:Sl) (i x:Nat):Nat:=cvH s.L s.cf.to (s.hdr i) (s.off i) x
def Sl.ptr (s:Sl) (i:Nat):Prop:=1<=s.off i/\(s.off i:Int)<=(s.hdr i).p
structure Jdn (s:Sl):Prop where
 pg:1<=s.pg/\s.pg<=256
 n2:s.n<=524288
 cf:VeB s.pg s.n s.cf
 good:Q4l s.n s.L
 inn:∀ o∈s.L,s.cf.fr<=o.1/\o.1+o.2<=s.cf.tp
 fit:s.cf.to+Qd4 s.L<=s.cf.lm
 hd:∀ j (hj:j<s.L.length),∃ p f k:Nat,s.hd s.L[j].1=⟨p,f,k⟩/\p+f+k<=255/\s.L[j].2=1+p+f+k
 len:s.mv.length=nbl (Qd4 s.L) s.cf.bk
section
variable {s:Sl}
theorem Jdn.bk (h:Jdn s):1<=s.cf.bk/\s.cf.bk<=1024:=by have:=Quq h.cf.bk;omega
theorem Jdn.N_le (h:Jdn s):Qd4 s.L<=s.n:=XY5 h.good
theorem V6P {a b p:Nat} (hp:1<=p) (hb:b%p=0) (h:a<b):a/p<b/p:=by
 have h1:=Nat.div_add_mod b p;rw [Nat.div_lt_iff_lt_mul (by omega),Nat.mul_comm];omega
theorem XSg {n B:Nat} (hB:1<=B):n<=upN n B/\upN n B%B=0:=by
 unfold upN;have h1:=Nat.div_add_mod (n+B-1) B;have h2:=Nat.mod_lt (n+B-1) (show 0<B by omega);rw [Nat.mul_comm] at h1;exact ⟨by omega,Nat.mul_mod_left _ _⟩
theorem Jdn.apart (h:Jdn s) {a b:Nat} (ha:s.cf.fr<=a/\a<s.cf.tp) (hb:s.cf.to<=b/\b<s.cf.lm):a/s.pg≠b/s.pg:=by
 have hu:=XSg (n:=s.cf.tp) h.pg.1
 have hn:s.cf.lm<=s.cf.fr\/upN s.cf.tp s.pg<=s.cf.to:=by
  have:=h.cf.ap;omega
 rcases hn with e | e
 ·have h1:=V6P h.pg.1 h.cf.al hb.2;have h2:=Nat.div_le_div_right (c:=s.pg) (Nat.le_trans e ha.1);omega
 ·have h1:=V6P (a:=a) h.pg.1 hu.2 (by omega);have h2:=Nat.div_le_div_right (c:=s.pg) (Nat.le_trans e hb.1);omega
theorem Jdn.srcs (h:Jdn s) {i:Nat} (hi:i<Qd4 s.L):s.cf.fr<=Vjz s.L i/\Vjz s.L i<s.cf.tp/\Vjz s.L i<s.n:=by
 have h1:=Z8c h.inn hi;have h2:=h.cf.tn;omega
theorem Jdn.dsts (h:Jdn s) {i:Nat} (hi:i<Qd4 s.L):s.cf.to+i<s.cf.lm/\s.cf.to+i<s.n:=by
 have h1:=h.fit;have h2:=h.cf.ln;omega
theorem Jdn.obj (h:Jdn s) {i:Nat} (hi:i<Qd4 s.L):∃ j,∃ hj:j<s.L.length,∃ m p f k:Nat,XEF s.L i=j/\m<s.L[j].2/\i=Qd4 (s.L.take j)+m/\Vjz s.L i=s.L[j].1+m/\s.off i=m/\s.hdr i=s.hd s.L[j].1/\s.hd s.L[j].1=⟨p,f,k⟩/\p+f+k<=255/\s.L[j].2=1+p+f+k:=by
 obtain ⟨hj,m,h1,h2,h3⟩:=QhJ hi;obtain ⟨p,f,k,e1,e2,e3⟩:=h.hd _ hj;refine ⟨XEF s.L i,hj,m,p,f,k,rfl,h1,h2,h3,by unfold Sl.off;omega,?_,e1,e2,e3⟩;unfold Sl.hdr;rw [List.getD_eq_getElem?_getD,List.getElem?_eq_getElem hj];rfl
theorem Jdn.blk (h:Jdn s) {i:Nat} (hi:i<Qd4 s.L):i/s.cf.bk<s.mv.length:=by
 rw [h.len,VjL h.bk.1];have:=Nat.div_mul_le_self i s.cf.bk;omega
theorem Jdn.mv (h:Jdn s) (l:List Bool) (hl:l.length=s.mv.length):Jdn { s with mv:=l }:=
 ⟨h.pg,h.n2,h.cf,h.good,h.inn,h.fit,h.hd,hl.trans h.len⟩
end
theorem Xxa (L:List Ob) (tb:Nat) (a:Int):0<=toV L tb a:=by
 unfold toV
 split
 ·have:=Vzk L 0 a;omega
 ·exact Int.le_refl _
theorem Jdn.to_lt {s:Sl} (h:Jdn s) (a:Int):toV s.L s.cf.to a<4294967296:=by
 unfold toV
 split
 ·have h1:=ZOz h.good (by have:=h.n2;omega) a;have h2:=h.cf.lm;have h3:=h.cf.ln;have h4:=h.n2;omega
 ·omega
theorem Jdn.cv_lt {s:Sl} (h:Jdn s) (i:Nat) {x:Nat} (hx:x<18446744073709551616):s.cv i x<18446744073709551616:=by
 unfold Sl.cv cvH
 split
 ·have:=h.to_lt (x:Nat);omega
 ·exact hx
structure ZTP (s:Sl) (D U:Nat->Bool) (v:Vm):Prop where
 ok:ZAR v
 n:v.n=s.n
 pg:v.pl.pg=s.pg
 src:∀ i,i<Qd4 s.L->U i=true->v.ldE (Vjz s.L i:Nat)=0/\s.cv i (v.ldV (Vjz s.L i:Nat))=s.c i/\(s.ptr i->v.ldV (Vjz s.L i:Nat)<=2147483647)
 dst:∀ i,i<Qd4 s.L->D i=true->v.ldE ((s.cf.to+i:Nat):Int)=0/\v.ldV ((s.cf.to+i:Nat):Int)=s.c i
structure ZEw (s:Sl) (v:Vm):Prop where
 st:Jdn s
 mid:ZTP s s.is (fun i=>!s.is i) v
def Sl.inB (s:Sl) (k i:Nat):Bool:=i/s.cf.bk==k
def Sl.lo (s:Sl) (k:Nat):Nat:=k*s.cf.bk
def Sl.hi (s:Sl) (k:Nat):Nat:=min (k*s.cf.bk+s.cf.bk) (Qd4 s.L)
theorem Jdn.inB {s:Sl} (h:Jdn s) {k i:Nat} (hi:i<Qd4 s.L):s.inB k i=true↔s.lo k<=i/\i<s.hi k:=by
 unfold Sl.inB Sl.lo Sl.hi;have hb:=h.bk.1;have h1:=Nat.div_add_mod i s.cf.bk;have h2:=Nat.mod_lt i (show 0<s.cf.bk by omega);rw [beq_iff_eq];constructor
 ·rintro rfl;rw [Nat.mul_comm] at h1;omega
 ·rintro ⟨h3,h4⟩;refine Nat.div_eq_of_lt_le h3 ?_;rw [Nat.succ_mul];omega
theorem Jdn.lohi {s:Sl} (h:Jdn s) {k:Nat} (hk:k<s.mv.length):s.lo k<s.hi k/\s.hi k<=s.lo k+s.cf.bk/\s.hi k<=Qd4 s.L:=by
 rw [h.len,VjL h.bk.1] at hk;have:=h.bk.1;unfold Sl.lo Sl.hi;omega
theorem Sl.is_put {s:Sl} {k:Nat} (hk:k<s.mv.length) (i:Nat):({ s with mv:=s.mv.set k true }:Sl).is i=(s.is i||s.inB k i):=by
 unfold Sl.is Sl.inB;rw [QXV hk];by_cases h:i/s.cf.bk=k
 ·rw [if_pos h];simp [h]
 ·rw [if_neg h];simp [h]
end
end
section
section
open Go.RowKit Word
theorem YQS {n i:Nat} (hi:i<n):cnt (fun j=>j==i) n=1:=by
 have e:cnt (fun j=>j==i) n=cnt (fun j=>decide (i<=j/\j<i+1)) n:=XmU fun j _=>by
  by_cases h:j=i
  ·subst h;simp
  ·have:¬ (i<=j/\j<i+1):=by omega
   simp [h,this]
 rw [e,J2a i (i+1) n (by omega) (by omega)];omega
theorem VXp {f:Nat->Bool} {n i:Nat} (hi:i<n) (h:f i=false):cnt (fun j=>f j||j==i) n=cnt f n+1:=by
 rw [Jjp (fun j=>by by_cases e:j=i;(subst e;simp [h]);(simp [e])) n,YQS hi]
theorem V7q {f:Nat->Bool} {n i:Nat} (hi:i<n) (h:f i=true):cnt (fun j=>f j&&!(j==i)) n+1=cnt f n:=by
 rw [<-VXp (f:=fun j=>f j&&!(j==i)) hi (by simp)];refine XmU fun j _=>?_;by_cases e:j=i
 ·subst e;simp [h]
 ·have e':(j==i)=false:=beq_eq_false_iff_ne.2 e;simp [e']
def Sl.on (s:Sl) (U:Nat->Bool) (q:Nat):Nat:=cnt (fun i=>U i&&(Vjz s.L i/s.pg==q)) (Qd4 s.L)
def but (U:Nat->Bool) (i:Nat):Nat->Bool:=fun j=>U j&&!(j==i)
theorem JZ9 {U:Nat->Bool} {i j:Nat} (h:j≠i):but U i j=U j:=by
 have e':(j==i)=false:=beq_eq_false_iff_ne.2 h;simp [but,e']
theorem J3l {U:Nat->Bool} {i:Nat}:but U i i=false:=by simp [but]
section
variable {s:Sl} {U:Nat->Bool} {i q:Nat}
theorem Sl.on_but (hi:i<Qd4 s.L) (h:U i=true):s.on (but U i) q+(if Vjz s.L i/s.pg=q then 1 else 0)=s.on U q:=by
 unfold Sl.on but;by_cases e:Vjz s.L i/s.pg=q
 ·rw [if_pos e,<-V7q (f:=fun i=>U i&&(Vjz s.L i/s.pg==q)) hi (by simp [h,e])];congr 1;refine XmU fun j _=>?_;cases U j <;> cases (Vjz s.L j/s.pg==q) <;> simp
 ·rw [if_neg e,Nat.add_zero];refine XmU fun j _=>?_;by_cases hj:j=i
  ·subst hj;simp [e]
  ·have e':(j==i)=false:=beq_eq_false_iff_ne.2 hj;simp [e']
theorem Sl.on_le (s:Sl) (U:Nat->Bool) (q:Nat):s.on U q<=Qd4 s.L:=QMh _ _
theorem Sl.on_zero (h:s.on U q=0) {j:Nat} (hj:j<Qd4 s.L) (hU:U j=true):Vjz s.L j/s.pg≠q:=by
 have:=VMy h j hj;intro e;simp [hU,e] at this
theorem Sl.on_pos (hj:i<Qd4 s.L) (hU:U i=true) (he:Vjz s.L i/s.pg=q):1<=s.on U q:=by
 rcases Nat.eq_zero_or_pos (s.on U q) with h | h
 ·exact absurd he (Sl.on_zero h hj hU)
 ·exact h
theorem Sl.on_iff:s.on U q=0↔∀ j,j<Qd4 s.L->U j=true->Vjz s.L j/s.pg≠q:=
 ⟨fun h _ hj hU=>Sl.on_zero h hj hU,fun h=>Z6o fun j hj=>by
  cases hU:U j with
  | false=>rfl
  | true=>simpa using h j hj hU⟩
theorem Sl.on_congr {V:Nat->Bool} (h:∀ j,j<Qd4 s.L->U j=V j):s.on U q=s.on V q:=XmU fun j hj=>by rw [h j hj]
end
section
variable {s:Sl} {D U:Nat->Bool} {v v1 v':Vm}
theorem ZTP.congr {D' U':Nat->Bool} (h:ZTP s D U v) (hD:∀ i,i<Qd4 s.L->D' i=true->D i=true) (hU:∀ i,i<Qd4 s.L->U' i=true->U i=true):ZTP s D' U' v:=
 ⟨h.ok,h.n,h.pg,fun i hi hu=>h.src i hi (hU i hi hu),fun i hi hd=>h.dst i hi (hD i hi hd)⟩
theorem ZTP.mvd (h:ZTP s D U v) (l:List Bool):ZTP { s with mv:=l } D U v:=⟨h.ok,h.n,h.pg,h.src,h.dst⟩
theorem ZTP.grow {F:List Nat} (hs:Jdn s) (h:ZTP s D U v) (g:Ji4 v v1 F):ZTP s D U v1:=by
 refine ⟨g.ok,g.n.trans h.n,g.pg.trans h.pg,fun i hi hu=>?_,fun i hi hd=>?_⟩
 ·obtain ⟨h1,h2,h3⟩:=h.src i hi hu;have hl:=(hs.srcs hi).2.2;rw [<-h.n] at hl;rw [g.ldV_all h.ok hl,g.ldE h.ok hl];exact ⟨by split <;> first | rfl | exact h1,h2,h3⟩
 ·obtain ⟨h1,h2⟩:=h.dst i hi hd;have hl:=(hs.dsts hi).2;rw [<-h.n] at hl;rw [g.ldV_all h.ok hl,g.ldE h.ok hl];exact ⟨by split <;> first | rfl | exact h1,h2⟩
theorem ZTP.put (hs:Jdn s) (h:ZTP s D U v) {i:Nat} (hi:i<Qd4 s.L) (hl:v.ldE ((s.cf.to+i:Nat):Int)=0) {x:Nat} (hx:x=s.c i) (hx2:x<18446744073709551616):ZTP s (fun j=>D j||j==i) U (v.st ((s.cf.to+i:Nat):Int) x):=by
 have hst:=h.ok.st_ldV x hl;refine ⟨h.ok.st _ hx2,(VqE.st v _ x).n.trans h.n,(VqE.st v _ x).pg.trans h.pg,fun j hj hu=>?_,fun j hj hd=>?_⟩
 ·obtain ⟨h1,h2,h3⟩:=h.src j hj hu;have ha:(((s.cf.to+i:Nat):Int)≠(Vjz s.L j:Nat)):=fun e=>hs.apart ⟨(hs.srcs hj).1,(hs.srcs hj).2.1⟩ ⟨Nat.le_add_right _ i,(hs.dsts hi).1⟩ (by rw [show Vjz s.L j=s.cf.to+i by omega]);rw [Zpt,hst,if_neg ha];exact ⟨h1,h2,h3⟩
 ·rw [Zpt,hst];by_cases e:i=j
  ·subst e;rw [if_pos rfl];exact ⟨hl,hx⟩
  ·rw [if_neg (by omega)];exact h.dst j hj (by simpa [Ne.symm e] using hd)
structure QsS (s:Sl) (D U:Nat->Bool) (lo hi:Nat) (v1 v':Vm) (m:Nat):Prop where
 mid:ZTP s (fun j=>D j||(decide (lo<=j)&&decide (j<lo+m))) U v'
 sm:VqE v1 v'
 oth:∀ a:Nat,(a<s.cf.to+lo\/s.cf.to+hi<=a)->v'.ldV a=v1.ldV a
theorem QsS.zero (h:ZTP s D U v) (lo hi:Nat):QsS s D U lo hi v v 0:=
 ⟨h.congr (fun i _ hd=>by
  rcases Bool.or_eq_true_iff.1 hd with h | h
  ·exact h
  ·simp at h;omega) (fun _ _ h=>h),VqE.refl v,fun _ _=>rfl⟩
theorem QsS.step (hs:Jdn s) {lo hi m:Nat} (h:QsS s D U lo hi v1 v' m) (hm:lo+m<hi) (hhi:hi<=Qd4 s.L) (hl:v1.ldE ((s.cf.to+(lo+m):Nat):Int)=0) {x:Nat} (hx:x=s.c (lo+m)) (hx2:x<18446744073709551616):
  QsS s D U lo hi v1 (v'.st ((s.cf.to+(lo+m):Nat):Int) x) (m+1):=by
 have hl':v'.ldE ((s.cf.to+(lo+m):Nat):Int)=0:=by rw [h.sm.ldE];exact hl
 refine ⟨(h.mid.put hs (by omega) hl' hx hx2).congr (fun i _ hd=>?_) (fun _ _ h=>h),h.sm.trans (VqE.st _ _ _),fun a ha=>?_⟩
 ·simp only [Bool.or_eq_true,Bool.and_eq_true,decide_eq_true_eq,beq_iff_eq] at hd ⊢;rcases hd with hd | hd
  ·exact .inl (.inl hd)
  ·by_cases e:i=lo+m
   ·exact .inr e
   ·exact .inl (.inr ⟨hd.1,by omega⟩)
 ·rw [h.mid.ok.st_ldV x hl',if_neg (by omega)];exact h.oth a ha
structure Q2A (s:Sl) (D U0 U:Nat->Bool) (v1 v':Vm):Prop where
 mid:ZTP s D U v'
 le:∀ i,i<Qd4 s.L->U i=true->U0 i=true
 rm:v'.pl.rm=v1.pl.rm
 map:∀ p,p<v1.pt.length->(v'.pt.getD p 0≠0↔v1.pt.getD p 0≠0/\¬ ∃ i,i<Qd4 s.L/\U0 i=true/\U i=false/\Vjz s.L i/s.pg=p/\s.on U p=0)
 oth:∀ a:Nat,a<s.n->(∀ i,i<Qd4 s.L->Vjz s.L i/s.pg≠a/s.pg)->v'.ldV a=v1.ldV a/\v'.ldE a=v1.ldE a
theorem Q2A.zero (h:ZTP s D U v):Q2A s D U U v v:=
 ⟨h,fun _ _ h=>h,rfl,fun p _=>⟨fun h=>⟨h,fun ⟨i,_,h1,h2,_⟩=>by rw [h1] at h2;cases h2⟩,fun h=>h.1⟩,fun _ _ _=>⟨rfl,rfl⟩⟩
theorem Q2A.keep {U0:Nat->Bool} (h:Q2A s D U0 U v1 v') {i:Nat} (hi:i<Qd4 s.L) (hU:U i=true) (hz:s.on (but U i) (Vjz s.L i/s.pg)≠0):Q2A s D U0 (but U i) v1 v':=by
 have hle:∀ j,but U i j=true->U j=true:=fun j h=>by unfold but at h;exact (Bool.and_eq_true_iff.1 h).1
 refine ⟨h.mid.congr (fun _ _ h=>h) (fun j _ hj=>hle j hj),fun j hj hu=>h.le j hj (hle j hu),h.rm,fun p hp=>(h.map p hp).trans (and_congr_right fun _=>not_congr ?_),h.oth⟩;have hon:=fun q=>Sl.on_but (s:=s) (U:=U) (i:=i) (q:=q) hi hU;constructor
 ·rintro ⟨j,hj,h1,h2,h3,h4⟩;have hji:j≠i:=fun e=>by subst e;rw [hU] at h2;cases h2
  have:=hon p;exact ⟨j,hj,h1,by rw [JZ9 hji];exact h2,h3,by omega⟩
 ·rintro ⟨j,hj,h1,h2,h3,h4⟩;have hne:Vjz s.L i/s.pg≠p:=fun e=>by rw [e] at hz;exact hz h4
  have hji:j≠i:=fun e=>by subst e;exact hne h3
  have:=hon p;rw [if_neg hne] at this;exact ⟨j,hj,h1,by rw [JZ9 hji] at h2;exact h2,h3,by omega⟩
theorem ZdX {v:Vm} {p:Nat} (h:frE v.pt (p:Int)=0) (k:Nat):(v.um (p:Int)).pt.getD k 0≠0↔v.pt.getD k 0≠0/\k≠p:=by
 unfold Vm.um;rw [if_pos h]
 show (v.pt.set ((p:Int).toNat) 0).getD k 0≠0↔_
 rw [Int.toNat_natCast,List.getD_eq_getElem?_getD,List.getD_eq_getElem?_getD,List.getElem?_set];by_cases e:p=k
 ·subst e;rw [if_pos rfl]
  split <;> simp
 ·rw [if_neg e];exact ⟨fun h=>⟨h,fun e'=>e e'.symm⟩,fun h=>h.1⟩
theorem Q2A.drop (hs:Jdn s) {U0:Nat->Bool} (h:Q2A s D U0 U v1 v') {i:Nat} (hi:i<Qd4 s.L) (hU:U i=true) (hz:s.on (but U i) (Vjz s.L i/s.pg)=0):Q2A s D U0 (but U i) v1 (v'.um ((Vjz s.L i/s.pg:Nat):Int)):=by
 have hle:∀ j,but U i j=true->U j=true:=fun j h=>by unfold but at h;exact (Bool.and_eq_true_iff.1 h).1
 have hk:=h.mid.ok;obtain ⟨m1,m2,m3⟩:=h.mid.src i hi hU;have hsi:=hs.srcs hi
 have hfr:frE v'.pt ((Vjz s.L i/s.pg:Nat):Int)=0:=by
  unfold Vm.ldE at m1;rw [if_pos ⟨by omega,by rw [h.mid.n];omega⟩,h.mid.pg] at m1;exact m1
 have hue:∀ a:Nat,a<s.n->a/s.pg≠Vjz s.L i/s.pg->(v'.um ((Vjz s.L i/s.pg:Nat):Int)).ldE a=v'.ldE a/\(v'.um ((Vjz s.L i/s.pg:Nat):Int)).ldV a=v'.ldV a:=fun a ha hne=>by
  have hpa:a/v'.pl.pg≠Vjz s.L i/s.pg:=by rw [h.mid.pg];exact hne
  exact ⟨by rw [hk.um_ldE hfr (by rw [h.mid.n];exact ha),if_neg hpa],hk.um_ldV hfr (by rw [h.mid.n];exact ha) hpa⟩
 have hum:(v'.um ((Vjz s.L i/s.pg:Nat):Int)).n=v'.n/\(v'.um ((Vjz s.L i/s.pg:Nat):Int)).pl.pg=v'.pl.pg/\(v'.um ((Vjz s.L i/s.pg:Nat):Int)).pl.rm=v'.pl.rm:=by
  unfold Vm.um
  split <;> exact ⟨rfl,rfl,rfl⟩
 have hon:=fun q=>Sl.on_but (s:=s) (U:=U) (i:=i) (q:=q) hi hU;refine ⟨⟨hk.um _,hum.1.trans h.mid.n,hum.2.1.trans h.mid.pg,fun j hj hu=>?_,fun j hj hd=>?_⟩,fun j hj hu=>h.le j hj (hle j hu),hum.2.2.trans h.rm,fun p hp=>?_,fun a ha hf=>?_⟩
 ·obtain ⟨e1,e2⟩:=hue (Vjz s.L j) (hs.srcs hj).2.2 (Sl.on_zero hz hj hu);rw [e1,e2];exact h.mid.src j hj (hle j hu)
 ·obtain ⟨e1,e2⟩:=hue (s.cf.to+j) (hs.dsts hj).2 (fun e=>hs.apart ⟨hsi.1,hsi.2.1⟩ ⟨Nat.le_add_right _ j,(hs.dsts hj).1⟩ e.symm);rw [e1,e2];exact h.mid.dst j hj hd
 ·rw [ZdX hfr,h.map p hp,and_assoc];refine and_congr_right fun _=>?_;have:=hon p;constructor
  ·rintro ⟨g1,g2⟩ ⟨j,hj,h1,h2,h3,h4⟩;by_cases hji:j=i
   ·subst hji;exact g2 h3.symm
   ·rw [JZ9 hji] at h2;rw [if_neg (fun e=>g2 e.symm)] at this;exact g1 ⟨j,hj,h1,h2,h3,by omega⟩
  ·intro g;refine ⟨fun ⟨j,hj,h1,h2,h3,h4⟩=>?_,fun e=>?_⟩
   ·have hji:j≠i:=fun e=>by subst e;rw [hU] at h2;cases h2
    exact g ⟨j,hj,h1,by rw [JZ9 hji];exact h2,h3,by omega⟩
   ·subst e;exact g ⟨i,hi,h.le i hi hU,J3l,rfl,hz⟩
 ·obtain ⟨e1,e2⟩:=hue a ha (fun e=>hf i hi e.symm);rw [e1,e2];exact h.oth a ha hf
end
structure YJW (s:Sl) (k:Nat) (v v':Vm):Prop where
 ok:ZEw { s with mv:=s.mv.set k true } v'
 rm:v'.pl.rm=v.pl.rm
 map:∀ p,p<v.pt.length->(v'.pt.getD p 0≠0↔(v.pt.getD p 0≠0\/((s.cf.to+s.lo k)/s.pg<=p/\p<=(s.cf.to+s.hi k-1)/s.pg))/\¬ ∃ i,i<Qd4 s.L/\s.inB k i=true/\Vjz s.L i/s.pg=p/\∀ j,j<Qd4 s.L->Vjz s.L j/s.pg=p->s.is j=true\/s.inB k j=true)
 oth:∀ a:Nat,a<s.n->(a<s.cf.to+s.lo k\/s.cf.to+s.hi k<=a)->(∀ i,i<Qd4 s.L->Vjz s.L i/s.pg≠a/s.pg)->v'.ldV a=v.ldV a/\(v.ldE a=0->v'.ldE a=0)
section
variable {s:Sl} {v v1 v2 v':Vm} {k:Nat}
theorem VWG {v:Vm} (h:ZAR v) {f t p:Nat} (hft:f<t) (_ht:t<=v.n):p∈Jfy v ((f:Int)/(v.pl.pg:Int)).toNat (XZs v f t)↔(f/v.pl.pg<=p/\p<=(t-1)/v.pl.pg)/\v.pt.getD p 0=0:=by
 have hp:=h.page;have e1:((f:Int)/(v.pl.pg:Int)).toNat=f/v.pl.pg:=by rw [show (f:Int)/(v.pl.pg:Int)=((f/v.pl.pg:Nat):Int) from rfl];exact Int.toNat_natCast _
 have e2:((t:Int)-1)/(v.pl.pg:Int)=(((t-1)/v.pl.pg:Nat):Int):=by rw [show (t:Int)-1=((t-1:Nat):Int) by omega];rfl
 have e3:(f:Int)/(v.pl.pg:Int)=((f/v.pl.pg:Nat):Int):=rfl;have h1:f/v.pl.pg<=(t-1)/v.pl.pg:=Nat.div_le_div_right (by omega);rw [YYE,e1];unfold XZs;rw [e2,e3];constructor
 ·rintro ⟨⟨a,b⟩,c⟩;exact ⟨⟨a,by omega⟩,c⟩
 ·rintro ⟨⟨a,b⟩,c⟩;exact ⟨⟨a,by omega⟩,c⟩
theorem YJW.of (h:ZEw s v) (hk:k<s.mv.length) (_hm:at_ s.mv k=false) (hE:Jsl v ((s.cf.to+s.lo k:Nat):Int) ((s.cf.to+s.hi k:Nat):Int)=0) (hG:Ji4 v v1 (J5L v ((s.cf.to+s.lo k:Nat):Int) ((s.cf.to+s.hi k:Nat):Int)))
  (hC:QsS s s.is (fun i=>!s.is i) (s.lo k) (s.hi k) v1 v2 (s.hi k-s.lo k)) {D U:Nat->Bool} (hD:∀ i,i<Qd4 s.L->D i=(s.is i||s.inB k i)) (hU:∀ i,i<Qd4 s.L->U i=!(s.is i||s.inB k i)) (hR:Q2A s D (fun i=>!s.is i) U v2 v'):YJW s k v v':=by
 have hs:=h.st;have hlh:=hs.lohi hk;have hto:s.cf.to+s.hi k<=v.n:=by have:=hs.fit;have:=hs.cf.ln;rw [h.mid.n];omega
 have hft:s.cf.to+s.lo k<s.cf.to+s.hi k:=by omega
 have hF:∀ p,p∈J5L v ((s.cf.to+s.lo k:Nat):Int) ((s.cf.to+s.hi k:Nat):Int)↔((s.cf.to+s.lo k)/s.pg<=p/\p<=(s.cf.to+s.hi k-1)/s.pg)/\v.pt.getD p 0=0:=fun p=>by
  unfold J5L;rw [if_pos ⟨hE,by omega⟩,VWG h.mid.ok hft hto,h.mid.pg]
 have hl2:v2.pt.length=v.pt.length:=by rw [hC.sm.pt,hG.len h.mid.ok]
 refine ⟨⟨hs.mv _ (List.length_set ..),(hR.mid.mvd _).congr (fun i hi hd=>?_) (fun i hi hu=>?_)⟩,hR.rm.trans (hC.sm.rm.trans hG.rm),fun p hp=>?_,fun a ha hab hsr=>?_⟩
 ·rw [hD i hi,<-Sl.is_put hk];exact hd
 ·rw [hU i hi,<-Sl.is_put hk];exact hu
 ·rw [hR.map p (by omega),hC.sm.pt,hG.ma p hp,hF]
  have e:(v.pt.getD p 0≠0\/((s.cf.to+s.lo k)/s.pg<=p/\p<=(s.cf.to+s.hi k-1)/s.pg)/\v.pt.getD p 0=0)↔(v.pt.getD p 0≠0\/((s.cf.to+s.lo k)/s.pg<=p/\p<=(s.cf.to+s.hi k-1)/s.pg)):=by
   constructor
   ·rintro (a | ⟨a,-⟩)
    ·exact .inl a
    ·exact .inr a
   ·rintro (a | a)
    ·exact .inl a
    ·by_cases h0:v.pt.getD p 0=0
     ·exact .inr ⟨a,h0⟩
     ·exact .inl h0
  rw [e];refine and_congr_right fun _=>not_congr ?_;constructor
  ·rintro ⟨i,hi,h1,h2,h3,h4⟩;have h1:(!s.is i)=true:=h1;rw [hU i hi] at h2;refine ⟨i,hi,?_,h3,fun j hj he=>?_⟩
   ·cases e1:s.is i <;> cases e2:s.inB k i <;> simp_all
   ·have:=mt (Sl.on_zero h4 hj) (fun g=>g he);rw [hU j hj] at this;cases e1:s.is j <;> cases e2:s.inB k j <;> simp_all
  ·rintro ⟨i,hi,h1,h3,h4⟩;refine ⟨i,hi,?_,by rw [hU i hi,h1];simp,h3,Sl.on_iff.2 fun j hj hu he=>?_⟩
   ·show (!s.is i)=true
    have:i/s.cf.bk=k:=by simpa [Sl.inB] using h1
    unfold Sl.is;rw [this,_hm];rfl
   ·rw [hU j hj] at hu;rcases h4 j hj he with h | h <;> simp [h] at hu
 ·obtain ⟨e1,e2⟩:=hR.oth a ha hsr;have e3:=hC.oth a hab;have e4:=hG.ldV_all h.mid.ok (a:=a) (by rw [h.mid.n];exact ha);have e5:=hG.ldE h.mid.ok (a:=a) (by rw [h.mid.n];exact ha);rw [e1,e3,e4,e2,hC.sm.ldE,e5];exact ⟨rfl,fun h=>by rw [h];split <;> rfl⟩
end
end
end
section
section
open Go.RowKit Go.Shelf Word
structure ZH1 where
 F:Nat
 G:Nat
 p:Nat
 m:Nat
 p1:Nat
 b1:Nat
 p2:Nat
 b2:Nat
 bs:Nat
 bm:Nat
 cm:Nat
 bw:Nat
def bls (l:List Bool):List Value:=l.map Value.bool
theorem JOD {l:List Bool} {i:Nat} (h:i<l.length):(bls l)[i]?=some (.bool (at_ l i)):=by simp [bls,at_,h]
theorem QPU (l:List Bool) (i:Nat) (b:Bool):(bls l).set i (.bool b)=bls (l.set i b):=by simp [bls,List.map_set]
def Qa0 (q:Nat) (c:Cf) (z:ZH1) (nb lf ft ah:Nat):List Value:=
 [.pointer (some ⟨q,0,none⟩),.int .i64 c.fr,.int .i64 c.tp,.int .i64 c.to,.int .i64 c.lm,.int .i64 c.bk,.int .i64 c.st,.int .i64 c.ah,
  .pointer (some ⟨z.p,0,none⟩),.pointer (some ⟨z.m,0,none⟩),.slice (some ⟨z.bm,0,none⟩) nb z.cm,.int .i64 lf,.int .i64 ft,.int .i64 ah,.map (some z.bw),.map (some z.bs)]
def Yeq (w:World) (b:Nat) (s:Sl):Prop:=∃ n f,YER Tryz.prog 3 w b n f/\∀ j (h:j<s.L.length),f (s.L[j].1:Nat)=some (X79 (s.hd s.L[j].1))
def JlK (w:World) (b:Nat) (s:Sl) (U:Nat->Bool):Prop:=∃ n f,YER Tryz.prog 3 w b n f/\n+cnt U (Qd4 s.L)<=2*Qd4 s.L/\∀ q:Nat,(f (q:Nat)).getD (.int .i64 0)=.int .i64 (s.on U q:Nat)
theorem Yeq.touch {w w':World} {T:Nat->Prop} {b:Nat} {s:Sl} (h:Yeq w b s) (t:XF4 T w w') (hT:¬ T b):Yeq w' b s:=by
 obtain ⟨n,f,h1,h2⟩:=h;exact ⟨n,f,h1.touch t hT,h2⟩
theorem JlK.touch {w w':World} {T:Nat->Prop} {b:Nat} {s:Sl} {U:Nat->Bool} (h:JlK w b s U) (t:XF4 T w w') (hT:¬ T b):JlK w' b s U:=by
 obtain ⟨n,f,h1,h2⟩:=h;exact ⟨n,f,h1.touch t hT,h2⟩
structure JxE (w:World) (R:Nat->Prop) (y:Nat) (z:ZH1):Prop where
 o1:z.m<z.F
 o2:z.p1<z.F
 o3:z.b1<z.F
 o4:z.p2<z.F
 o5:z.b2<z.F
 o6:z.F<=z.G
 o7:z.G<=w.heap.size
 g1:z.G<=y
 g2:z.G<=z.bm
 g3:z.G<=z.bw
 g4:z.G<=z.bs
 n1:y≠z.bm
 n2:y≠z.bw
 n3:y≠z.bs
 n4:z.bm≠z.bw
 n5:z.bm≠z.bs
 n6:z.bw≠z.bs
 r1:R y
 r2:R z.bm
 r3:R z.bw
 r4:R z.bs
 r5:R z.m
 r6:R z.p1
 r7:R z.b1
 r8:R z.p2
 r9:R z.b2
 rr:∀ k,z.F<=k->k<z.G->R k
 lt:∀ k,R k->k<w.heap.size
structure YNO (w:World) (R:Nat->Prop) (y q:Nat) (z:ZH1) (s:Sl) (U:Nat->Bool) (ml:List Bool) (lf ft ah:Nat):Prop where
 od:JxE w R y z
 rc:Rec w y 219 (Qa0 q s.cf z ml.length lf ft ah)
 pl:∀ W,XF4 (fun i=>i<z.F\/z.G<=i) w W->Pln W z.F z.p s.n s.cf.bk s.cf.to s.L
 ex:Ext w z.m z.p1 z.b1 z.p2 z.b2 s.n s.L
 sh:Yeq w z.bs s
 wd:JlK w z.bw s U
 mv:w.ownsRow 0 4 1 (.slice (some ⟨z.bm,0,none⟩) ml.length z.cm) ml.length (bls ml)
abbrev Cyc (w:World) (R:Nat->Prop) (y q:Nat) (z:ZH1) (s:Sl):Prop:=YNO w R y q z s (fun i=>!s.is i) s.mv s.lf s.ft (s.mvd-s.ft)
section
variable {w w':World} {R T:Nat->Prop} {y q:Nat} {z:ZH1} {s:Sl} {U:Nat->Bool} {ml:List Bool} {lf ft ah:Nat}
theorem JxE.gr (h:JxE w R y z) (hs:w.heap.size<=w'.heap.size):JxE w' R y z:=
 ⟨h.o1,h.o2,h.o3,h.o4,h.o5,h.o6,Nat.le_trans h.o7 hs,h.g1,h.g2,h.g3,h.g4,h.n1,h.n2,h.n3,h.n4,h.n5,h.n6,h.r1,h.r2,h.r3,h.r4,h.r5,h.r6,h.r7,h.r8,h.r9,h.rr,fun k hk=>Nat.lt_of_lt_of_le (h.lt k hk) hs⟩
theorem YNO.touch (h:YNO w R y q z s U ml lf ft ah) (t:XF4 T w w') (hT:∀ k,R k->¬ T k):YNO w' R y q z s U ml lf ft ah:=by
 have o:=h.od;refine ⟨o.gr t.size,h.rc.touch t (hT _ o.r1),fun W tW=>h.pl W ?_,h.ex.touch t (hT _ o.r5) (hT _ o.r6) (hT _ o.r7) (hT _ o.r8) (hT _ o.r9),h.sh.touch t (hT _ o.r4),h.wd.touch t (hT _ o.r3),Zs2 h.mv t (fun g hg=>by cases hg;exact hT _ o.r2)⟩;refine (t.mono (fun i _ hi=>?_)).trans tW;rcases Nat.lt_or_ge i z.F with h1 | h1
 ·exact .inl h1
 ·rcases Nat.lt_or_ge i z.G with h2 | h2
  ·exact absurd hi (hT _ (o.rr i h1 h2))
  ·exact .inr h2
theorem YNO.gr (h:YNO w R y q z s U ml lf ft ah) (g:Gr w w'):YNO w' R y q z s U ml lf ft ah:=h.touch (g.touch (fun _=>False)) (fun _ _ h=>h)
theorem YNO.setR (h:YNO w R y q z s U ml lf ft ah) {lf' ft' ah':Nat} (t:XF4 (fun i=>i=y) w w') (hr:Rec w' y 219 (Qa0 q s.cf z ml.length lf' ft' ah')):YNO w' R y q z s U ml lf' ft' ah':=by
 have o:=h.od;refine ⟨o.gr t.size,hr,fun W tW=>h.pl W ((t.mono (fun i _ hi=>.inr (by rw [hi];exact o.g1))).trans tW),h.ex.touch t ?_ ?_ ?_ ?_ ?_,h.sh.touch t (fun e=>o.n3 e.symm),h.wd.touch t (fun e=>o.n2 e.symm),Zs2 h.mv t (fun g hg=>by cases hg;exact fun e=>o.n1 e.symm)⟩
 all_goals (have:=o.o1;have:=o.o2;have:=o.o3;have:=o.o4;have:=o.o5;have:=o.o6;have:=o.g1;omega)
theorem YNO.setW (h:YNO w R y q z s U ml lf ft ah) {U':Nat->Bool} (t:XF4 (fun i=>i=z.bw) w w') (hw:JlK w' z.bw s U'):YNO w' R y q z s U' ml lf ft ah:=by
 have o:=h.od;refine ⟨o.gr t.size,h.rc.touch t o.n2,fun W tW=>h.pl W ((t.mono (fun i _ hi=>.inr (by rw [hi];exact o.g3))).trans tW),h.ex.touch t ?_ ?_ ?_ ?_ ?_,h.sh.touch t (fun e=>o.n6 e.symm),hw,Zs2 h.mv t (fun g hg=>by cases hg;exact o.n4)⟩
 all_goals (have:=o.o1;have:=o.o2;have:=o.o3;have:=o.o4;have:=o.o5;have:=o.o6;have:=o.g3;omega)
theorem YNO.setM (h:YNO w R y q z s U ml lf ft ah) {ml':List Bool} (hl:ml'.length=ml.length) (t:XF4 (fun i=>i=z.bm) w w') (hm:w'.ownsRow 0 4 1 (.slice (some ⟨z.bm,0,none⟩) ml'.length z.cm) ml'.length (bls ml')):YNO w' R y q z s U ml' lf ft ah:=by
 have o:=h.od;refine ⟨o.gr t.size,?_,fun W tW=>h.pl W ((t.mono (fun i _ hi=>.inr (by rw [hi];exact o.g2))).trans tW),h.ex.touch t ?_ ?_ ?_ ?_ ?_,h.sh.touch t (fun e=>o.n5 e.symm),h.wd.touch t (fun e=>o.n4 e.symm),hm⟩
 ·rw [hl];exact h.rc.touch t o.n1
 all_goals (have:=o.o1;have:=o.o2;have:=o.o3;have:=o.o4;have:=o.o5;have:=o.o6;have:=o.g2;omega)
theorem YNO.plan (h:YNO w R y q z s U ml lf ft ah):Pln w z.F z.p s.n s.cf.bk s.cf.to s.L:=h.pl w (XF4.refl _ _)
theorem YNO.same {s':Sl} (h:YNO w R y q z s U ml lf ft ah) (h1:s'.n=s.n) (h2:s'.cf=s.cf) (h3:s'.L=s.L) (h4:s'.hd=s.hd) (h5:s'.pg=s.pg):YNO w R y q z s' U ml lf ft ah:=by
 cases s;cases s';simp only at h1 h2 h3 h4 h5;subst h1 h2 h3 h4 h5;exact ⟨h.od,h.rc,h.pl,h.ex,h.sh,h.wd,h.mv⟩
end
end
end
section
section
open Go.RowKit Go.Shelf Word
section
variable {w:World} {R S:Nat->Prop} {y q:Nat} {z:ZH1} {s:Sl} {U:Nat->Bool} {ml:List Bool} {lf ft ah:Nat} {v:Vm}
set_option maxHeartbeats 800000 in
theorem XLA (hC:YNO w R y q z s U ml lf ft ah) (a:Int):V4y Tryz.prog 198 #[.pointer (some ⟨y,0,none⟩),.int .i64 a] w (.int .i64 (toV s.L s.cf.to a)):=by
 obtain ⟨h1,h2,h3,f,c0,c1,hF⟩:=hC.plan;have x8:=hC.rc.cell (j:=8) rfl;have xl:=hC.rc.lt;have HFW:=hid (YY0 c0);have HTO:=hid (Vcy hF a);obtain ⟨t,ht⟩:∃ t,t=toV s.L s.cf.to a:=⟨_,rfl⟩;obtain ⟨te,hte⟩:∃ te,te=toE s.L a:=⟨_,rfl⟩;rw [<-ht,<-hte] at HTO;rw [<-ht];clear hC hF h1 h2 h3 c0 c1 ht hte;unfold V4y;go_enter Tryz.func198,Tryz.ntmps198
 go_wp2_with (first
  | (go_at_call 195;refine (HFW.o).mono ?_;rintro e w1 ⟨rfl,rfl⟩)
  | (go_at_call 145;refine (HTO.o).mono ?_;rintro e w2 ⟨rfl,hg2⟩;have HG2:=hid hg2;clear hg2))
 go_ret;exact ⟨rfl,HG2.o⟩
theorem QOX {p f k:Nat} (hs:p+f+k<=255) {m:Nat}:(Yoq ⟨p,f,k⟩ ((m:Int)-1)==1)=decide (1<=m/\m<=p):=by
 by_cases h:1<=m/\m<=p
 ·rw [decide_eq_true h,VaX (by omega) (by show (m:Int)-1<(p:Int);omega) (by show (p:Int)<Z3o ⟨p,f,k⟩;rw [show Z3o ⟨p,f,k⟩=1+(p:Int)+f+k from if_pos (JJj hs)];omega)];rfl
 ·rw [decide_eq_false h];simpa using VgZ (p:=p) (f:=f) (k:=k) (i:=(m:Int)-1) (fun h'=>h ⟨by omega,by omega⟩)
set_option maxHeartbeats 800000 in
theorem Jmu {p f k:Nat} (hs:p+f+k<=255) {m:Nat} (hm:m<=4294967296) (w:World):V4y Tryz.prog 290 #[X79 ⟨p,f,k⟩,.int .i64 m] w (.bool (decide (1<=m/\m<=p))):=by
 have HKD:=hid (fun (W:World)=>VNI hs ((m:Int)-1) W);have HKI:=hid (QOX (f:=f) (k:=k) hs (m:=m));obtain ⟨kd,hkd⟩:∃ kd,kd=Yoq ⟨p,f,k⟩ ((m:Int)-1):=⟨_,rfl⟩;rw [<-hkd] at HKD HKI;unfold X79 at HKD ⊢;clear hkd;obtain ⟨b,hb⟩:∃ b,b=decide (1<=m/\m<=p):=⟨_,rfl⟩;rw [<-hb] at HKI ⊢;have hbe:(kd==1)=b:=HKI.o;clear hb;have hRec:=Rec.new w 33 [.int .i64 p,.int .i64 f,.int .i64 k];simp only [List.toArray] at hRec;unfold V4y;go_enter Tryz.func290,Tryz.ntmps290;go_upto_region 1 with (fail);obtain ⟨w2,hw2⟩:∃ w2,w2=w.alloc (.cells #[.int .i64 p,.int .i64 f,.int .i64 k] 33):=⟨_,rfl⟩;have hg2:Gr w w2:=by rw [hw2];exact (Gr.refl w).alloc _
 rw [<-hw2] at hRec ⊢;have y0:=hRec.cell (j:=0) rfl;have y1:=hRec.cell (j:=1) rfl;have y2:=hRec.cell (j:=2) rfl;have yl:=hRec.lt;have HG2:=hid hg2;clear hw2 hRec hg2;go_wp2_with (go_at_call 151;refine (HKD.o _).mono ?_;rintro e w3 ⟨rfl,hg3⟩;have HG3:=hid (HG2.o.trans hg3);clear hg3);go_ret;exact ⟨by first | rfl | rw [hbe],HG3.o⟩
set_option maxHeartbeats 1600000 in
theorem Ji2 (hC:YNO w R y q z s U ml lf ft ah) (hst:Jdn s) (hV:QXZ w S q v) {p f k:Nat} (hs:p+f+k<=255) {a st m:Nat} (ha:a=st+m) (hm:a<=4294967296) (hx:1<=m/\m<=p->v.ldV (a:Nat)<=2147483647):
  V4y Tryz.prog 265 #[.pointer (some ⟨y,0,none⟩),.int .i64 a,.int .i64 st,X79 ⟨p,f,k⟩] w (.int .u64 (cvH s.L s.cf.to ⟨p,f,k⟩ m (v.ldV (a:Nat)):Nat)):=by
 have HC:=hid hC;have HLD:=hid (fun (W:World) (g:Gr w W)=>VW8 (hV.gr g) (a:Int));have HPT:=hid (fun (W:World)=>Jmu (f:=f) (k:=k) hs (m:=m) (by omega) W);have HXL:Hid (v.ldV (a:Nat)<18446744073709551616):=⟨hV.ok.ldV_lt _⟩;have HST:=hid hst;have HR:=hid (Rec.new w 33 [.int .i64 p,.int .i64 f,.int .i64 k]);simp only [List.toArray] at HR;unfold X79 at HPT;unfold X79;obtain ⟨x,hxx⟩:∃ x,x=v.ldV (a:Nat):=⟨_,rfl⟩;rw [<-hxx] at hx HXL HLD ⊢;obtain ⟨res,hres⟩:∃ res,res=cvH s.L s.cf.to ⟨p,f,k⟩ m x:=⟨_,rfl⟩;have HRES:=hid hres;rw [<-hres];obtain ⟨le,hle⟩:∃ le,le=v.ldE (a:Nat):=⟨_,rfl⟩;rw [<-hle] at HLD;clear hxx hle hV hC hst hres;have ham:(a:Int)-(st:Int)=(m:Int):=by omega
 clear ha;unfold V4y;go_enter Tryz.func265,Tryz.ntmps265;go_upto_region 1 with (fail);obtain ⟨w2,hw2⟩:∃ w2,w2=w.alloc (.cells #[.int .i64 p,.int .i64 f,.int .i64 k] 33):=⟨_,rfl⟩;have hg2:Gr w w2:=by rw [hw2];exact (Gr.refl w).alloc _
 rw [<-hw2] at HR ⊢;obtain ⟨hb,hhb⟩:∃ hb,hb=w.heap.size:=⟨_,rfl⟩;rw [<-hhb] at HR ⊢;have HG2:=hid hg2;have x0:=(HC.o.rc.gr hg2).cell (j:=0) rfl;have xl:=(HC.o.rc.gr hg2).lt;clear hw2 hg2 hhb;by_cases hx0:x=0
 ·subst hx0;have hcv:cvH s.L s.cf.to ⟨p,f,k⟩ m 0=0:=by unfold cvH;rw [if_neg (fun h=>h.2 rfl)]
  rw [<-HRES.o] at hcv;subst hcv;clear hx ham;go_wp2_with (go_at_call 213;refine (HLD.o _ HG2.o).mono ?_;rintro e w3 ⟨rfl,hg3⟩;have HG3:=hid (HG2.o.trans hg3);clear hg3);go_ret;exact ⟨rfl,HG3.o⟩
 ·have d2:((x:Int) !=0)=true:=by simp;exact hx0
  have HX0:=hid hx0;clear hx0;by_cases hp:1<=m/\m<=p
  ·rw [decide_eq_true hp] at HPT;have hx31:=hx hp;have hcv:cvH s.L s.cf.to ⟨p,f,k⟩ m x=(toV s.L s.cf.to (x:Nat)).toNat:=by unfold cvH;rw [if_pos ⟨⟨hp.1,by show (m:Int)<=(p:Int);omega⟩,HX0.o⟩]
   rw [<-HRES.o] at hcv;subst hcv;have HTO:=hid (fun (W:World) (g:Gr w W)=>XLA (HC.o.gr g) (x:Int));have ht0:=Xxa s.L s.cf.to (x:Int);have ht1:=HST.o.to_lt (x:Int);obtain ⟨t,ht⟩:∃ t,t=toV s.L s.cf.to (x:Int):=⟨_,rfl⟩;have HTE:=hid ht;rw [<-ht] at HTO ht0 ht1;have hwy:IntKind.u64.wrap t=t:=by rw [IntKind.wrap_u64];omega
   have hwx:IntKind.i64.wrap (x:Int)=(x:Int):=IntWalk.i64_in _ (by omega);clear hx hp ht hx31
   go_wp2_with (first
    | (go_at_call 213;refine (HLD.o _ HG2.o).mono ?_;rintro e w3 ⟨rfl,hg3⟩;have HG3:=hid (HG2.o.trans hg3);have RR:=HR.o.gr hg3;have y0:=RR.cell (j:=0) rfl;have y1:=RR.cell (j:=1) rfl;have y2:=RR.cell (j:=2) rfl;have yl:=RR.lt;clear hg3 RR)
    | (go_at_call 290;refine (HPT.o _).mono ?_;rintro e w4 ⟨rfl,hg4⟩;have HG4:=hid (HG3.o.trans hg4);clear hg4)
    | (go_at_call 198;refine (HTO.o _ HG4.o).mono ?_;rintro e w5 ⟨rfl,hg5⟩;have HG5:=hid (HG4.o.trans hg5);clear hg5))
   go_ret;exact ⟨by rw [<-HTE.o,Int.toNat_of_nonneg ht0];rfl,HG5.o⟩
  ·rw [decide_eq_false hp] at HPT;have hcv:cvH s.L s.cf.to ⟨p,f,k⟩ m x=x:=by unfold cvH;rw [if_neg (fun h=>hp ⟨h.1.1,by have:(m:Int)<=(p:Int):=h.1.2;omega⟩)]
   rw [<-HRES.o] at hcv;subst hcv;clear hx hp
   go_wp2_with (first
    | (go_at_call 213;refine (HLD.o _ HG2.o).mono ?_;rintro e w3 ⟨rfl,hg3⟩;have HG3:=hid (HG2.o.trans hg3);have RR:=HR.o.gr hg3;have y0:=RR.cell (j:=0) rfl;have y1:=RR.cell (j:=1) rfl;have y2:=RR.cell (j:=2) rfl;have yl:=RR.lt;clear hg3 RR)
    | (go_at_call 290;refine (HPT.o _).mono ?_;rintro e w4 ⟨rfl,hg4⟩;have HG4:=hid (HG3.o.trans hg4);clear hg4))
   go_ret;exact ⟨rfl,HG4.o⟩
end
end
end
section
section
open Go.RowKit Go.Shelf Word
theorem JNO (w:World):(zeroValue 33).run Tryz.prog w=.ok (.agg #[.int .i64 0,.int .i64 0,.int .i64 0]) w:=by kernel_rfl
theorem QJG {w:World} {b:Nat} {s:Sl} (h:Yeq w b s) {j:Nat} (hj:j<s.L.length) (hb:s.L[j].1<=4294967296):
  (Instr.lookup 217 (.map (some b)) (.int .i64 (s.L[j].1:Nat)) false).run Tryz.prog w=.ok (X79 (s.hd s.L[j].1)) w:=by
 obtain ⟨n,f,h1,h2⟩:=h;rw [h1.look JKr Tryz.underlying217 Tryz.underlying3 (JNO w) (WalkArith.wf_i64 (by omega)),h2 j hj];rfl
theorem Jfv {w:World} {b:Nat} {s:Sl} {U:Nat->Bool} (h:JlK w b s U) {q:Nat} (hb:q<=4294967296):
  (Instr.lookup 128 (.map (some b)) (.int .i64 q) false).run Tryz.prog w=.ok (.int .i64 (s.on U q:Nat)) w:=by
 obtain ⟨n,f,h1,-,h2⟩:=h;rw [h1.look JKr Tryz.underlying128 Tryz.underlying3 (YqT w) (WalkArith.wf_i64 (by omega)),h2 q]
structure CpI (w wr:World) (S:Nat->Prop) (q:Nat) (s:Sl) (D U:Nat->Bool) (lo hi:Nat) (v1:Vm) (m hb:Nat) (p f k:Nat):Prop where
 t:XF4 S w wr
 vm:∃ vx,QXZ wr (ZOk S w) q vx/\QsS s D U lo hi v1 vx m
 h:Rec wr hb 33 [.int .i64 p,.int .i64 f,.int .i64 k]
def VF5 (w:World) (S:Nat->Prop) (q:Nat) (s:Sl) (D U:Nat->Bool) (lo hi:Nat) (v1:Vm) (m:Nat) (e:Ending) (w':World):Prop:=
 e=.returned (.tuple #[])/\XF4 S w w'/\∃ v'',QXZ w' (ZOk S w) q v''/\QsS s D U lo hi v1 v'' m
def Obj (s:Sl) (a st sz p f k:Nat):Prop:=∃ j,∃ hj:j<s.L.length,st=s.L[j].1/\sz=s.L[j].2/\s.hd s.L[j].1=⟨p,f,k⟩/\st<=a/\a<st+sz
theorem QGb {s:Sl} (hst:Jdn s) {i a st sz p f k:Nat} (hi:i<Qd4 s.L) (ha:Vjz s.L i=a) (ho:Obj s a st sz p f k):s.off i=a-st/\s.hdr i=⟨p,f,k⟩/\p+f+k<=255:=by
 obtain ⟨j,hj,rfl,rfl,h3,h4,h5⟩:=ho;obtain ⟨j',hj',m,p',f',k',e1,e2,e3,e4,e5,e6,e7,e8,e9⟩:=hst.obj hi
 have hjj:s.L[j]=s.L[j']:=by
  rcases hst.good.disj (List.getElem_mem hj) (List.getElem_mem hj') with e | e | e
  ·exact e
  ·omega
  ·omega
 rw [e5,e6,<-hjj,h3];rw [<-hjj,h3] at e7;rw [<-hjj] at e4;refine ⟨by omega,rfl,?_⟩;cases e7;exact e8
theorem Zm8 {s:Sl} (hst:Jdn s) {i a:Nat} (hi:i<Qd4 s.L) (ha:Vjz s.L i=a):∃ j,∃ hj:j<s.L.length,∃ p f k:Nat,ZH8 s.L (a:Nat)=j/\s.hd s.L[j].1=⟨p,f,k⟩/\Obj s a s.L[j].1 s.L[j].2 p f k:=by
 obtain ⟨j',hj',m,p',f',k',e1,e2,e3,e4,e5,e6,e7,e8,e9⟩:=hst.obj hi;have:=QFu hst.good hi;rw [ha,e1] at this;exact ⟨j',hj',p',f',k',this,e7,j',hj',rfl,rfl,e7,by omega,by omega⟩
section
variable {w:World} {R S:Nat->Prop} {y q:Nat} {z:ZH1} {s:Sl} {U D Uo:Nat->Bool} {ml:List Bool} {lf ft ah:Nat} {v1 v':Vm} {lo hi m n f:Nat}
set_option maxHeartbeats 3200000 in
theorem XAM (hC:YNO w R y q z s U ml lf ft ah) (hst:Jdn s) (hT:VRW w) (htS:¬ S 1) (hV:QXZ w S q v') (hdis:∀ k,R k->¬ S k) (hcp:QsS s D Uo lo hi v1 v' m)
  (hn:lo+m+n<=hi) (hhi:hi<=Qd4 s.L) (hU:∀ i,lo<=i->i<hi->Uo i=true) (hl:∀ i,lo<=i->i<hi->v1.ldE ((s.cf.to+i:Nat):Int)=0) (hw:∀ i,i<n->Vjz s.L (lo+m+i)=f+i):
  Calls Tryz.prog 219 #[.pointer (some ⟨y,0,none⟩),.agg #[.int .i64 f,.int .i64 ((s.cf.to+(lo+m):Nat):Int),.int .i64 n]] w (VF5 w S q s D Uo lo hi v1 (m+n)):=by
 have HC:=hid hC;have HST:=hid hst;have HT:=hid hT;have HTS:=hid htS;have HV:=hid hV.cut;have HDIS:=hid hdis;have HCP:=hid hcp;have HU:=hid hU;have HL:=hid hl;have HW:=hid hw;have HB:=hid (And.intro hn hhi);have hn2:=hst.n2;have hNn:=hst.N_le
 have hfb:n=0\/f+n<=1048576:=by
  rcases Nat.eq_zero_or_pos n with h | h
  ·exact .inl h
  ·right;have h1:=hw (n-1) (by omega);have h2:=(hst.srcs (i:=lo+m+(n-1)) (by omega)).2.2;omega
 have htb:s.cf.to+(lo+m)<=1048576:=by have:=hst.fit;have:=hst.cf.ln;omega
 obtain ⟨t,ht⟩:∃ t,t=s.cf.to+(lo+m):=⟨_,rfl⟩;have HTE:=hid ht;have hnb:n<=1048576:=by omega
 rw [<-ht] at htb ⊢;clear hC hst hT htS hV hdis hcp hU hl hw ht hn hhi;have RP:=Rec.new w 289 [.int .i64 f,.int .i64 t,.int .i64 n];simp only [List.toArray] at RP;go_enter Tryz.func219,Tryz.ntmps219;go_upto_region 2 with (fail);obtain ⟨w1,hw1⟩:∃ w1,w1=w.alloc (.cells #[.int .i64 f,.int .i64 t,.int .i64 n] 289):=⟨_,rfl⟩;have hg1:Gr w w1:=by rw [hw1];exact (Gr.refl w).alloc _
 have hs1:w1.heap.size=w.heap.size+1:=by rw [hw1,World.size_alloc]
 have RP1:Rec w1 w.heap.size 289 [.int .i64 f,.int .i64 t,.int .i64 n]:=by rw [hw1];exact RP
 rw [<-hw1];clear hw1 RP;have RH:=Rec.new w1 33 [.int .i64 0,.int .i64 0,.int .i64 0];simp only [List.toArray] at RH;obtain ⟨w2,hw2⟩:∃ w2,w2=w1.alloc (.cells #[.int .i64 0,.int .i64 0,.int .i64 0] 33):=⟨_,rfl⟩;have hg2:Gr w1 w2:=by rw [hw2];exact (Gr.refl w1).alloc _
 rw [<-hw2] at RH ⊢;rw [hs1] at RH;have RP2:=RP1.gr hg2;have HG2:=hid (hg1.trans hg2);have HS2:Hid (w.heap.size+2=w2.heap.size):=⟨by rw [hw2,World.size_alloc];omega⟩;clear hw2 hg1 hg2 RP1;have q2:=RP2.cell (j:=2) rfl;have ql:=RP2.lt;have HPC0:=hid RP2;have HI0:Hid (CpI w w2 S q s D Uo lo hi v1 (m+0) (w.heap.size+1) 0 0 0):=⟨⟨HG2.o.touch _,⟨v',HV.o.gr HG2.o,HCP.o⟩,RH⟩⟩;have HRL:=hid HC.o.od.lt;clear RP2 RH;go_upto_region 3 with (fail);clear q2 ql
 go_loopw [4,5,12] (fun s4 s5 s12 wr=>∃ (i st sz p f' k:Nat),i<=n/\Hid (CpI w wr S q s D Uo lo hi v1 (m+i) (w.heap.size+1) p f' k)/\Hid ((i=0/\st=0/\sz=0)\/Obj s (f+i-1) st sz p f' k)/\Hid (Rec wr w.heap.size 289 [.int .i64 f,.int .i64 t,.int .i64 n])/\s4=.int .i64 st/\s5=.int .i64 sz/\s12=.int .i64 i) (fun _ _ s12 _=>n-(intOf s12).toNat)
 case atStart=>exact ⟨0,0,0,0,0,0,Nat.zero_le _,HI0,⟨.inl ⟨rfl,rfl,rfl⟩⟩,HPC0,rfl,rfl,rfl⟩
 case round=>
  obtain ⟨i,st,sz,ph,fh,kh,hin,HI,HO,HPC,rfl,rfl,rfl⟩:=hrel;clear HPC0 HI0;have hpl:=HPC.o.lt;by_cases hlt:i<n
  ·have HLT:=hid hlt;have hiI:(i:Int)<(n:Int):=by omega
   have hfi:f+i<=1048576:=by omega
   have hwi:=HW.o i hlt;have hiN:lo+m+i<Qd4 s.L:=by have:=HB.o;omega
   have hcy:YNO wr R y q z s U ml lf ft ah:=HC.o.touch HI.o.t HDIS.o;have htb:=HT.o.touch' HI.o.t HTS.o
   have HWD:Hid (∀ (W:World) (st sz p f' k:Nat),XF4 (fun b=>b=w.heap.size+1) wr W->Obj s (f+i) st sz p f' k->V4y Tryz.prog 265 #[.pointer (some ⟨y,0,none⟩),.int .i64 ((f:Int)+(i:Int)),.int .i64 st,.agg #[.int .i64 p,.int .i64 f',.int .i64 k]] W (.int .u64 (s.c (lo+m+i):Nat))):=⟨fun W st sz p f' k tW ho=>by
    obtain ⟨vx,hvx,hpx⟩:=HI.o.vm;obtain ⟨e1,e2,e3⟩:=QGb HST.o hiN hwi ho;obtain ⟨j,hj,-,-,-,o4,o5⟩:=ho;obtain ⟨-,m2,m3⟩:=hpx.mid.src (lo+m+i) hiN (HU.o _ (by omega) (by have:=HB.o;omega));rw [hwi] at m2 m3;have:=Ji2 (f:=f') (k:=k) (hcy.touch tW (fun b hb h=>by have:=HRL.o b hb;omega)) HST.o (hvx.touch tW (fun b hb _ h=>by have:=hb.2;omega)) (p:=p) e3 (a:=f+i) (st:=st) (m:=f+i-st) (by omega) (by omega) (fun h=>m3 ⟨by rw [e1];exact h.1,by rw [e1,e2];show ((f+i-st:Nat):Int)<=(p:Int);omega⟩);unfold Sl.cv at m2;rw [e1,e2] at m2;rw [m2] at this
    exact this⟩
   have HSTO:Hid (∀ (W:World),XF4 (fun b=>b=w.heap.size+1) wr W->Calls Tryz.prog 214 #[.pointer (some ⟨q,0,none⟩),.int .i64 ((t:Int)+(i:Int)),.int .u64 (s.c (lo+m+i):Nat)] W fun e w'=>∃ er,e=.returned (.int .i64 er)/\XF4 (ZOk S w) W w'/\∃ vx,QXZ w' (ZOk S w) q vx/\QsS s D Uo lo hi v1 vx (m+i+1)):=⟨fun W tW=>by
    obtain ⟨vx,hvx,hpx⟩:=HI.o.vm;obtain ⟨-,m2,-⟩:=hpx.mid.src (lo+m+i) hiN (HU.o _ (by omega) (by have:=HB.o;omega));have hcl:s.c (lo+m+i)<18446744073709551616:=by rw [<-m2];exact HST.o.cv_lt _ (hvx.ok.ldV_lt _)
    refine (Qpx (hvx.touch tW (fun b hb _ h=>by have:=hb.2;omega)) ((t:Int)+(i:Int)) hcl).mono ?_;rintro e w' ⟨rfl,ht,hv⟩;refine ⟨_,rfl,ht,_,hv,?_⟩;have:=hpx.step HST.o (by have:=HB.o;omega) HB.o.2 (HL.o _ (by omega) (by have:=HB.o;omega)) (x:=s.c (lo+m+i)) (by rw [Nat.add_assoc lo m i]) hcl;rw [show ((t:Int)+(i:Int))=((s.cf.to+(lo+(m+i)):Nat):Int) by rw [HTE.o];omega]
    exact this⟩
   have HK:Hid (∀ (W:World) (p' f'' k':Nat),XF4 (fun b=>b=w.heap.size+1) wr W->Rec W (w.heap.size+1) 33 [.int .i64 p',.int .i64 f'',.int .i64 k']->(W.cell? ⟨y,0,none⟩=some (.pointer (some ⟨q,0,none⟩))/\W.cell? ⟨w.heap.size,1,none⟩=some (.int .i64 t))/\W.cell? ⟨w.heap.size+1,0,none⟩=some (.int .i64 p')/\W.cell? ⟨w.heap.size+1,1,none⟩=some (.int .i64 f'')/\W.cell? ⟨w.heap.size+1,2,none⟩=some (.int .i64 k')):=⟨fun W p' f'' k' tW hr=>by
    have h1:=(hcy.touch tW (fun b hb h=>by have:=HRL.o b hb;omega)).rc;have h2:=HPC.o.touch tW (by omega)
    exact ⟨⟨h1.cell (j:=0) rfl,h2.cell (j:=1) rfl⟩,hr.cell (j:=0) rfl,hr.cell (j:=1) rfl,hr.cell (j:=2) rfl⟩⟩
   have hsb:st+sz<=1048576:=by
    rcases HO.o with h | ⟨j,hj,h1,h2,-⟩
    ·omega
    ·have:=(HST.o.good.sz _ (List.getElem_mem hj)).2;omega
   have q0:=HPC.o.cell (j:=0) rfl;have q1:=HPC.o.cell (j:=1) rfl;obtain ⟨c,hc⟩:∃ c,c=s.c (lo+m+i):=⟨_,rfl⟩;rw [<-hc] at HWD HSTO;clear hc;by_cases hge:st+sz<=f+i
   ·have d1:decide ((st:Int)+(sz:Int)<=(f:Int)+(i:Int))=true:=decide_eq_true (by omega);have d2:decide (st+sz<=f+i)=true:=decide_eq_true hge;obtain ⟨j,hj,p',f'',k',g1,g2,g3⟩:=Zm8 HST.o hiN hwi;have HFD:=hid (Q6S hcy.ex htb ((f:Int)+(i:Int)));rw [show (f:Int)+(i:Int)=((f+i:Nat):Int) by omega,g1,VTf hj] at HFD;have hlk:=QJG hcy.sh hj (by have:=(HST.o.good.sz _ (List.getElem_mem hj)).2;omega);rw [g2] at hlk;unfold X79 at hlk;have HOB:=hid g3;obtain ⟨st',hst'⟩:∃ st',st'=s.L[j].1:=⟨_,rfl⟩;obtain ⟨sz',hsz'⟩:∃ sz',sz'=s.L[j].2:=⟨_,rfl⟩;rw [<-hst'] at HFD HOB hlk;rw [<-hsz'] at HFD HOB;rw [show ((f+i:Nat):Int)=(f:Int)+(i:Int) by omega] at HFD;have x3:=hcy.rc.cell (j:=9) rfl;have x9:=hcy.rc.cell (j:=15) rfl;have xl:=hcy.rc.lt;have hh0:=HI.o.h.cell (j:=0) rfl;have hh1:=HI.o.h.cell (j:=1) rfl;have hh2:=HI.o.h.cell (j:=2) rfl;have hhf:=HI.o.h.free;have hhl:=HI.o.h.lt;have HHS:=hid (((HI.o.h.set 0 (.int .i64 p')).set 1 (.int .i64 f'')).set 2 (.int .i64 k'));clear hge hcy htb g1 g2 g3 hst' hsz' hwi hiN;go_upto_region 9 with (go_at_call 240;refine (HFD.o).mono ?_;rintro e w3 ⟨rfl,rfl⟩)
    have tB:XF4 (fun b=>b=w.heap.size+1) wr (((wr.setCell ⟨w.heap.size+1,0,none⟩ (.int .i64 p')).setCell ⟨w.heap.size+1,1,none⟩ (.int .i64 f'')).setCell ⟨w.heap.size+1,2,none⟩ (.int .i64 k')):=
     (((XF4.refl (fun b=>b=w.heap.size+1) wr).setCell (a:=⟨w.heap.size+1,0,none⟩) (fun _=>rfl) _).setCell (a:=⟨w.heap.size+1,1,none⟩) (fun _=>rfl) _).setCell (a:=⟨w.heap.size+1,2,none⟩) (fun _=>rfl) _
    obtain ⟨wB,hwB⟩:∃ wB,wB=((wr.setCell ⟨w.heap.size+1,0,none⟩ (.int .i64 p')).setCell ⟨w.heap.size+1,1,none⟩ (.int .i64 f'')).setCell ⟨w.heap.size+1,2,none⟩ (.int .i64 k'):=⟨_,rfl⟩;rw [<-hwB] at tB ⊢;have HHB:Hid (Rec wB (w.heap.size+1) 33 [.int .i64 p',.int .i64 f'',.int .i64 k']):=⟨by rw [hwB];exact HHS.o⟩;have HTB:=hid tB;have HKB:Hid (∀ W,Gr wB W->(W.cell? ⟨y,0,none⟩=some (.pointer (some ⟨q,0,none⟩))/\W.cell? ⟨w.heap.size,1,none⟩=some (.int .i64 t))/\W.cell? ⟨w.heap.size+1,0,none⟩=some (.int .i64 p')/\W.cell? ⟨w.heap.size+1,1,none⟩=some (.int .i64 f'')/\W.cell? ⟨w.heap.size+1,2,none⟩=some (.int .i64 k')):=⟨fun W g=>HK.o W p' f'' k' (HTB.o.trans (g.touch _)) (HHB.o.gr g)⟩;clear hwB tB HHS hlk x3 x9 xl hh0 hh1 hh2 hhf hhl q0 q1;obtain ⟨Sx,hSx⟩:∃ Sx:World->Prop,Sx=fun W'=>((W'.cell? ⟨y,0,none⟩=some (.pointer (some ⟨q,0,none⟩))/\W'.cell? ⟨w.heap.size,1,none⟩=some (.int .i64 t))/\W'.cell? ⟨w.heap.size+1,0,none⟩=some (.int .i64 p')/\W'.cell? ⟨w.heap.size+1,1,none⟩=some (.int .i64 f'')/\W'.cell? ⟨w.heap.size+1,2,none⟩=some (.int .i64 k')):=⟨_,rfl⟩;have x1:∀ p:ZJV Sx,p.w.cell? ⟨y,0,none⟩=some (.pointer (some ⟨q,0,none⟩)):=fun p=>by have h:=ZJV.get hSx p;exact h.1.1
    have x2:∀ p:ZJV Sx,p.w.cell? ⟨w.heap.size,1,none⟩=some (.int .i64 t):=fun p=>by have h:=ZJV.get hSx p;exact h.1.2
    have x3:∀ p:ZJV Sx,p.w.cell? ⟨w.heap.size+1,0,none⟩=some (.int .i64 p'):=fun p=>by have h:=ZJV.get hSx p;exact h.2.1
    have x4:∀ p:ZJV Sx,p.w.cell? ⟨w.heap.size+1,1,none⟩=some (.int .i64 f''):=fun p=>by have h:=ZJV.get hSx p;exact h.2.2.1
    have x5:∀ p:ZJV Sx,p.w.cell? ⟨w.heap.size+1,2,none⟩=some (.int .i64 k'):=fun p=>by have h:=ZJV.get hSx p;exact h.2.2.2
    have HS:Hid (∀ W',((W'.cell? ⟨y,0,none⟩=some (.pointer (some ⟨q,0,none⟩))/\W'.cell? ⟨w.heap.size,1,none⟩=some (.int .i64 t))/\W'.cell? ⟨w.heap.size+1,0,none⟩=some (.int .i64 p')/\W'.cell? ⟨w.heap.size+1,1,none⟩=some (.int .i64 f'')/\W'.cell? ⟨w.heap.size+1,2,none⟩=some (.int .i64 k'))->Sx W'):=⟨fun W' h=>by rw [hSx];exact h⟩;have hS0:=HS.o (wB.drew) (HKB.o _ (Gr.refl wB).drew);have inst:Inhabited (ZJV Sx):=⟨⟨_,hS0⟩⟩;clear hSx;refine Vv2 Sx 13 [([0,1,2,3,4,5,6,7,8,9,10,11],12),([],13)] [] (by kernel_rfl) (by kernel_rfl) hS0 ?_;refine XGW ?_
    try simp only [XZy,List.getElem?_cons_zero,List.getElem?_cons_succ]
    repeat (go_big_quiet_step (fail))
    refine wpQuiet_nil ?_;go_wp2_with ((go_at_call 265;refine (HWD.o _ _ _ _ _ _ (HTB.o.trans ((Gr.refl wB).drew.touch _)) HOB.o).mono ?_;rintro e w4 ⟨rfl,hg4⟩;have HG4:=hid ((Gr.refl wB).drew.trans hg4);clear hg4));refine ⟨.inr (ZJV.of (HS.o _ (HKB.o _ HG4.o))),?_⟩;refine XGW ?_
    try simp only [XZy,List.getElem?_cons_zero,List.getElem?_cons_succ]
    repeat (go_big_quiet_step (fail))
    refine wpQuiet_nil ?_;go_wp2_with ((go_at_call 214;refine (HSTO.o _ (HTB.o.trans (HG4.o.touch _))).mono ?_;rintro e w5 ⟨er,rfl,ht5,vx5,hv5,hp5⟩;have HT5:=hid ht5;have HV5:=hid (And.intro hv5 hp5);clear ht5 hv5 hp5));refine ⟨.inl trivial,?_⟩;refine Z9U ?_
    try simp only [XZy]
    repeat (go_big_quiet_step (fail))
    refine wpQuiet_nil ?_;refine NoPanic.normal ?_;clear x1 x2 x3 x4 x5 hS0 inst;clear HS Sx;go_wp2;go_roundw
    case rel=>
     have hz5:=HT5.o.size;refine ⟨i+1,st',sz',p',f'',k',HLT.o,⟨⟨(HI.o.t.trans' ((HTB.o.trans (HG4.o.touch _)).mono (fun b _ h=>h)) (fun b hb h=>by omega)).trans' HT5.o (fun b _ h=>h.1),⟨vx5,HV5.o.1,by rw [<-Nat.add_assoc];exact HV5.o.2⟩,((HHB.o.gr HG4.o).touch HT5.o (fun h=>by have:=h.2;omega))⟩⟩,⟨.inr (by rw [show f+(i+1)-1=f+i by omega];exact HOB.o)⟩,⟨((HPC.o.touch HTB.o (by omega)).gr HG4.o).touch HT5.o (fun h=>by have:=h.2;omega)⟩,?_,?_,?_⟩
     ·go_num
     ·go_num
     ·go_num
    case measure=>have:=HLT.o;simp [intOf];omega
   ·have d1:decide ((st:Int)+(sz:Int)<=(f:Int)+(i:Int))=false:=decide_eq_false (by omega);have d2:decide (st+sz<=f+i)=false:=decide_eq_false hge
    have hob:Obj s (f+i) st sz ph fh kh:=by
     rcases HO.o with h | ⟨j,hj,h1,h2,h3,h4,h5⟩
     ·omega
     ·exact ⟨j,hj,h1,h2,h3,by omega,by omega⟩
    have HOB:=hid hob;have HTB:Hid (XF4 (fun b=>b=w.heap.size+1) wr wr):=⟨XF4.refl _ _⟩;have HHB:=hid HI.o.h;have HKB:Hid (∀ W,Gr wr W->(W.cell? ⟨y,0,none⟩=some (.pointer (some ⟨q,0,none⟩))/\W.cell? ⟨w.heap.size,1,none⟩=some (.int .i64 t))/\W.cell? ⟨w.heap.size+1,0,none⟩=some (.int .i64 ph)/\W.cell? ⟨w.heap.size+1,1,none⟩=some (.int .i64 fh)/\W.cell? ⟨w.heap.size+1,2,none⟩=some (.int .i64 kh)):=⟨fun W g=>HK.o W ph fh kh (HTB.o.trans (g.touch _)) (HHB.o.gr g)⟩;clear hge hcy htb hwi hiN hob;go_upto_region 9 with (fail);clear q0 q1;obtain ⟨Sx,hSx⟩:∃ Sx:World->Prop,Sx=fun W'=>((W'.cell? ⟨y,0,none⟩=some (.pointer (some ⟨q,0,none⟩))/\W'.cell? ⟨w.heap.size,1,none⟩=some (.int .i64 t))/\W'.cell? ⟨w.heap.size+1,0,none⟩=some (.int .i64 ph)/\W'.cell? ⟨w.heap.size+1,1,none⟩=some (.int .i64 fh)/\W'.cell? ⟨w.heap.size+1,2,none⟩=some (.int .i64 kh)):=⟨_,rfl⟩;have x1:∀ p:ZJV Sx,p.w.cell? ⟨y,0,none⟩=some (.pointer (some ⟨q,0,none⟩)):=fun p=>by have h:=ZJV.get hSx p;exact h.1.1
    have x2:∀ p:ZJV Sx,p.w.cell? ⟨w.heap.size,1,none⟩=some (.int .i64 t):=fun p=>by have h:=ZJV.get hSx p;exact h.1.2
    have x3:∀ p:ZJV Sx,p.w.cell? ⟨w.heap.size+1,0,none⟩=some (.int .i64 ph):=fun p=>by have h:=ZJV.get hSx p;exact h.2.1
    have x4:∀ p:ZJV Sx,p.w.cell? ⟨w.heap.size+1,1,none⟩=some (.int .i64 fh):=fun p=>by have h:=ZJV.get hSx p;exact h.2.2.1
    have x5:∀ p:ZJV Sx,p.w.cell? ⟨w.heap.size+1,2,none⟩=some (.int .i64 kh):=fun p=>by have h:=ZJV.get hSx p;exact h.2.2.2
    have HS:Hid (∀ W',((W'.cell? ⟨y,0,none⟩=some (.pointer (some ⟨q,0,none⟩))/\W'.cell? ⟨w.heap.size,1,none⟩=some (.int .i64 t))/\W'.cell? ⟨w.heap.size+1,0,none⟩=some (.int .i64 ph)/\W'.cell? ⟨w.heap.size+1,1,none⟩=some (.int .i64 fh)/\W'.cell? ⟨w.heap.size+1,2,none⟩=some (.int .i64 kh))->Sx W'):=⟨fun W' h=>by rw [hSx];exact h⟩;have hS0:=HS.o (wr.drew) (HKB.o _ (Gr.refl wr).drew);have inst:Inhabited (ZJV Sx):=⟨⟨_,hS0⟩⟩;clear hSx;refine Vv2 Sx 13 [([0,1,2,3,4,5,6,7,8,9,10,11],12),([],13)] [] (by kernel_rfl) (by kernel_rfl) hS0 ?_;refine XGW ?_
    try simp only [XZy,List.getElem?_cons_zero,List.getElem?_cons_succ]
    repeat (go_big_quiet_step (fail))
    refine wpQuiet_nil ?_;go_wp2_with ((go_at_call 265;refine (HWD.o _ _ _ _ _ _ (HTB.o.trans ((Gr.refl wr).drew.touch _)) HOB.o).mono ?_;rintro e w4 ⟨rfl,hg4⟩;have HG4:=hid ((Gr.refl wr).drew.trans hg4);clear hg4));refine ⟨.inr (ZJV.of (HS.o _ (HKB.o _ HG4.o))),?_⟩;refine XGW ?_
    try simp only [XZy,List.getElem?_cons_zero,List.getElem?_cons_succ]
    repeat (go_big_quiet_step (fail))
    refine wpQuiet_nil ?_;go_wp2_with ((go_at_call 214;refine (HSTO.o _ (HTB.o.trans (HG4.o.touch _))).mono ?_;rintro e w5 ⟨er,rfl,ht5,vx5,hv5,hp5⟩;have HT5:=hid ht5;have HV5:=hid (And.intro hv5 hp5);clear ht5 hv5 hp5));refine ⟨.inl trivial,?_⟩;refine Z9U ?_
    try simp only [XZy]
    repeat (go_big_quiet_step (fail))
    refine wpQuiet_nil ?_;refine NoPanic.normal ?_;clear x1 x2 x3 x4 x5 hS0 inst;clear HS Sx;go_wp2;go_roundw
    case rel=>
     have hz5:=HT5.o.size;refine ⟨i+1,st,sz,ph,fh,kh,HLT.o,⟨⟨(HI.o.t.trans' ((HTB.o.trans (HG4.o.touch _)).mono (fun b _ h=>h)) (fun b hb h=>by omega)).trans' HT5.o (fun b _ h=>h.1),⟨vx5,HV5.o.1,by rw [<-Nat.add_assoc];exact HV5.o.2⟩,((HHB.o.gr HG4.o).touch HT5.o (fun h=>by have:=h.2;omega))⟩⟩,⟨.inr (by rw [show f+(i+1)-1=f+i by omega];exact HOB.o)⟩,⟨((HPC.o.touch HTB.o (by omega)).gr HG4.o).touch HT5.o (fun h=>by have:=h.2;omega)⟩,?_,?_,?_⟩
     ·go_num
     ·go_num
     ·go_num
    case measure=>have:=HLT.o;simp [intOf];omega
  ·obtain rfl:i=n:=by omega
   have q2:=HPC.o.cell (j:=2) rfl;clear hlt;go_wp2;refine bodyPost_end (results_none rfl _ _ _) rfl ?_;obtain ⟨vx,hvx,hpx⟩:=HI.o.vm;exact ⟨rfl,HI.o.t,vx,hvx,hpx⟩
end
end
end
section
section
open Go.RowKit Go.Shelf Word
def VIy (U:Nat->Bool) (i n:Nat):Nat->Bool:=fun j=>U j&&!(decide (i<=j)&&decide (j<i+n))
theorem VcQ (U:Nat->Bool) (i:Nat):VIy U i 0=U:=by
 funext j
 unfold VIy;by_cases h:i<=j
 ·rw [decide_eq_false (show ¬ j<i+0 by omega),Bool.and_false,Bool.not_false,Bool.and_true]
 ·rw [decide_eq_false h,Bool.false_and,Bool.not_false,Bool.and_true]
theorem VUf (U:Nat->Bool) (i n:Nat):VIy U i (n+1)=but (VIy U i n) (i+n):=by
 funext j
 unfold but VIy;by_cases h:j=i+n
 ·subst h;have h1:i<=i+n:=by omega
  have h2:i+n<i+(n+1):=by omega
  simp
 ·have:(j<i+(n+1))↔(j<i+n)\/j=i+n:=by omega
  by_cases h3:i<=j
  ·by_cases h4:j<i+n
   ·have:j<i+(n+1):=by omega
    simp [h3,h4,this]
   ·have:¬ j<i+(n+1):=by omega
    simp [h,h3,h4,this]
  ·simp [h,h3]
theorem QWx {U:Nat->Bool} {i n j:Nat} (h:¬ (i<=j/\j<i+n)):VIy U i n j=U j:=by
 unfold VIy;by_cases h3:i<=j
 ·have:¬ j<i+n:=fun h4=>h ⟨h3,h4⟩;simp [this]
 ·simp [h3]
theorem VBH {w:World} {b n:Nat} {s:Sl} {U:Nat->Bool} {f:Int->Option Value} {i x:Nat} (h1:n+cnt U (Qd4 s.L)<=2*Qd4 s.L) (h2:∀ q:Nat,(f (q:Nat)).getD (.int .i64 0)=.int .i64 (s.on U q:Nat)) (hi:i<Qd4 s.L) (hU:U i=true)
  (hx:x=s.on (but U i) (Vjz s.L i/s.pg)) (hm:YER Tryz.prog 3 w b (n+1) (fun y=>if y=((Vjz s.L i/s.pg:Nat):Int) then some (.int .i64 x) else f y)):JlK w b s (but U i):=by
 refine ⟨n+1,_,hm,?_,fun q=>?_⟩
 ·have:=V7q (f:=U) hi hU;unfold but;omega
 ·have hon:=Sl.on_but (s:=s) (U:=U) (i:=i) (q:=q) hi hU;by_cases e:Vjz s.L i/s.pg=q
  ·subst e;rw [if_pos rfl,hx];rfl
  ·rw [if_neg e] at hon;rw [if_neg (by omega),h2 q,<-hon];rfl
def Zj0 (w:World) (R S:Nat->Prop) (y q:Nat) (z:ZH1) (s:Sl) (D U0 U':Nat->Bool) (ml:List Bool) (lf ft ah:Nat) (v2:Vm) (e:Ending) (w':World):Prop:=
 e=.returned (.tuple #[])/\XF4 (fun b=>b=z.bw\/S b) w w'/\YNO w' R y q z s U' ml lf ft ah/\∃ v'',QXZ w' (plus S w) q v''/\Q2A s D U0 U' v2 v''
structure DrI (w wr:World) (R S:Nat->Prop) (y q:Nat) (z:ZH1) (s:Sl) (D U0 U':Nat->Bool) (ml:List Bool) (lf ft ah:Nat) (v2:Vm) (pb f tb n:Nat):Prop where
 t:XF4 (fun b=>b=z.bw\/S b) w wr
 cy:YNO wr R y q z s U' ml lf ft ah
 vm:∃ Sj v'',(∀ b,Sj b->(S b/\b<w.heap.size)\/pb<b)/\QXZ wr Sj q v''/\Q2A s D U0 U' v2 v''
 pc:Rec wr pb 289 [.int .i64 f,.int .i64 tb,.int .i64 n]
section
variable {w:World} {R S:Nat->Prop} {y q:Nat} {z:ZH1} {s:Sl} {U D U0:Nat->Bool} {ml:List Bool} {lf ft ah:Nat} {v2 v':Vm} {i0 n f t:Nat}
set_option maxHeartbeats 3200000 in
theorem JBl (hC:YNO w R y q z s U ml lf ft ah) (hst:Jdn s) (hV:QXZ w S q v') (hdis:∀ k,R k->¬ S k) (hdr:Q2A s D U0 U v2 v') (hn1:1<=n) (hn:i0+n<=Qd4 s.L) (hU:∀ i,i<n->U (i0+i)=true) (hw:∀ i,i<n->Vjz s.L (i0+i)=f+i):
  Calls Tryz.prog 220 #[.pointer (some ⟨y,0,none⟩),.agg #[.int .i64 f,.int .i64 t,.int .i64 n]] w (Zj0 w R S y q z s D U0 (VIy U i0 n) ml lf ft ah v2):=by
 have HST:=hid hst;have HDIS:=hid hdis;have HU:=hid hU;have HW:=hid hw;have HB:=hid hn;have hn2:=hst.n2;have hNn:=hst.N_le;have hpg:=hst.pg
 have hfb:f+n<=1048576:=by
  have h1:=hw (n-1) (by omega);have h2:=(hst.srcs (i:=i0+(n-1)) (by omega)).2.2;omega
 have RP:=Rec.new w 289 [.int .i64 f,.int .i64 t,.int .i64 n];simp only [List.toArray] at RP;obtain ⟨w0,hw0⟩:∃ w0,w0=w.alloc (.cells #[.int .i64 f,.int .i64 t,.int .i64 n] 289):=⟨_,rfl⟩;have hg0:Gr w w0:=by rw [hw0];exact (Gr.refl w).alloc _
 have hs0:w0.heap.size=w.heap.size+1:=by rw [hw0,World.size_alloc]
 have HI0:Hid (DrI w w0 R S y q z s D U0 (VIy U i0 0) ml lf ft ah v2 w.heap.size f t n):=⟨by
  rw [VcQ]
  exact ⟨hg0.touch _,hC.gr hg0,⟨ZOk S w,v',fun b hb=>.inl hb,hV.cut.gr hg0,hdr⟩,by rw [hw0];exact RP⟩⟩
 have HRL:=hid hC.od.lt;have HS0:=hid hs0;have hfr:n≠0->True:=fun _=>trivial;clear hC hst hV hdis hdr hU hw hn hg0 hfr;obtain ⟨pb,hpb⟩:∃ pb,pb=w.heap.size:=⟨_,rfl⟩;have HPB:=hid hpb;have HI1:Hid (DrI w w0 R S y q z s D U0 (VIy U i0 0) ml lf ft ah v2 pb f t n):=⟨by rw [hpb];exact HI0.o⟩;go_enter Tryz.func220,Tryz.ntmps220;go_upto_region 1 with (fail);rw [<-hw0,<-hpb];clear hw0 RP HI0 hs0 hpb;have p0:=HI1.o.pc.cell (j:=0) rfl;have pl:=HI1.o.pc.lt;go_upto_region 2 with (fail);clear p0 pl
 go_loopw [4] (fun s4 wr=>∃ j A:Nat,j<=n/\Hid (A=f+j)/\Hid (DrI w wr R S y q z s D U0 (VIy U i0 j) ml lf ft ah v2 pb f t n)/\s4=.int .i64 A) (fun s4 _=>f+n-(intOf s4).toNat)
 case atStart=>exact ⟨0,f,Nat.zero_le _,⟨rfl⟩,HI1,rfl⟩
 case round=>
  obtain ⟨j,A,hj,HA,HI,rfl⟩:=hrel;clear HI1;have p0:=HI.o.pc.cell (j:=0) rfl;have p2:=HI.o.pc.cell (j:=2) rfl;have pl:=HI.o.pc.lt;by_cases hlt:j<n
  ·have HLT:=hid hlt;have hAn:(A:Int)<(f:Int)+(n:Int):=by have:=HA.o;omega
   have hAb:A<=1048576:=by have:=HA.o;omega
   obtain ⟨Sj,vx,hsj,hvx,hdx⟩:=HI.o.vm;have hcy:=HI.o.cy;have hwi:=HW.o j hlt;have hUi:=HU.o j hlt;have hiN:i0+j<Qd4 s.L:=by have:=HB.o;omega
   have hUj:VIy U i0 j (i0+j)=true:=by rw [QWx (by omega)];exact hUi
   have hpgx:=hdx.mid.pg;have HPG:=hid (fun (W:World) (g:Gr wr W)=>VML (hvx.gr g));rw [hpgx] at HPG;obtain ⟨pg,hpge⟩:∃ pg,pg=s.pg:=⟨_,rfl⟩;have HPGE:=hid hpge;rw [<-hpge] at HPG hpg;obtain ⟨Q,hQ⟩:∃ Q,Q=A/pg:=⟨_,rfl⟩;have g1:((A:Int).tdiv (pg:Int))=(Q:Int):=by rw [hQ];rfl
   have g2:((A:Int)/(pg:Int))=(Q:Int):=by rw [hQ];rfl
   have hpg0:(pg:Int)≠0:=by omega
   have hQb:Q<=1048576:=by rw [hQ];exact Nat.le_trans (Nat.div_le_self _ _) hAb
   have hsq:Vjz s.L (i0+j)/s.pg=Q:=by rw [hwi,hQ,HA.o,hpge]
   have HQ:=hid hsq;obtain ⟨nw,fm,hm,hn1,hn2'⟩:=hcy.wd;have hlk:=Jfv hcy.wd (q:=Q) (by omega);have hon:=Sl.on_but (s:=s) (U:=VIy U i0 j) (i:=i0+j) (q:=Q) hiN hUj;rw [if_pos hsq] at hon;obtain ⟨N,hN⟩:∃ N,N=s.on (VIy U i0 j) Q:=⟨_,rfl⟩;obtain ⟨N',hN'⟩:∃ N',N'=s.on (but (VIy U i0 j) (i0+j)) Q:=⟨_,rfl⟩;have hNle:N<=1048576:=by rw [hN];have:=s.on_le (VIy U i0 j) Q;omega
   rw [<-hN] at hlk;rw [<-hN,<-hN'] at hon;have hNN:(N:Int)-1=(N':Int):=by omega
   have HMI:=hid hm;have HN1:=hid (And.intro hn1 hn2');have HLL:Hid (nw<maxLen):=⟨by have h1:=hn1;have h2:=hn2;have h3:=hNn;unfold maxLen;omega⟩;have HWF:Hid ((Lit.int .i64 (Q:Int)).wf=true):=⟨WalkArith.wf_i64 (by omega)⟩;have HX:=hid (And.intro hiN (And.intro hUj hN'));have HSJ:=hid hsj;have HVX:=hid hvx;have HDX:=hid hdx;have x0:=hcy.rc.cell (j:=0) rfl;have x8:=hcy.rc.cell (j:=14) rfl;have xl:=hcy.rc.lt;clear hcy hwi hUi hiN hUj hpgx hpge hQ hsq hm hn1 hn2' hon hN hN' hsj hvx hdx hlt
   go_upto_region 6 with (first
    | (go_at_call 136;refine (HPG.o _ (Gr.refl wr)).mono ?_;rintro e w3 ⟨rfl,rfl⟩)
    | (at_mapUpdate;refine X9l _ rfl _ _ _ 128 rfl 3 3 JKr Tryz.underlying128 Tryz.underlying3 z.bw nw fm rfl HMI.o HLL.o (Q:Int) (.int .i64 (N':Int)) rfl rfl HWF.o ?_;intro w3 hm3 ht3;have HM3:=hid hm3;have HT3:=hid ht3;clear hm3 ht3))
   have hcy3:YNO w3 R y q z s (VIy U i0 (j+1)) ml lf ft ah:=by
    rw [VUf];refine HI.o.cy.setW HT3.o (VBH HN1.o.1 HN1.o.2 HX.o.1 HX.o.2.1 (x:=N') (by rw [HX.o.2.2,HQ.o]) ?_);rw [HQ.o];exact HM3.o
   have hnbw:¬ Sj z.bw:=fun h=>by
    have h1:=HRL.o _ HI.o.cy.od.r3;rcases HSJ.o _ h with h | h
    ·exact HDIS.o _ HI.o.cy.od.r3 h.1
    ·have:=HPB.o;omega
   have hnR:∀ k,R k->¬ Sj k:=fun k hk h=>by
    have h1:=HRL.o _ hk;rcases HSJ.o _ h with h | h
    ·exact HDIS.o _ hk h.1
    ·have:=HPB.o;omega
   have HV3:Hid (QXZ w3 Sj q vx):=⟨HVX.o.touch HT3.o (fun b hb _ h=>hnbw (h ▸ hb))⟩;have HC3:=hid hcy3;have HNR:=hid hnR;have hpbw:pb≠z.bw:=fun h=>by have h1:=HRL.o _ HI.o.cy.od.r3;have:=HPB.o;omega
   have HP3:=hid (HI.o.pc.touch HT3.o hpbw);have y0:=hcy3.rc.cell (j:=0) rfl;have y8:=hcy3.rc.cell (j:=14) rfl;have yl:=hcy3.rc.lt;have hlk3:=Jfv hcy3.wd (q:=Q) (by omega);rw [VUf,<-HX.o.2.2] at hlk3;have HT03:Hid (XF4 (fun b=>b=z.bw\/S b) w w3):=⟨HI.o.t.trans (HT3.o.mono (fun b _ h=>.inl h))⟩;have HA1:Hid (A+1=f+(j+1)):=⟨by have:=HA.o;omega⟩;clear hlk x0 x8 xl hcy3 hnbw hnR hpbw p0 p2 pl;simp only [Act.put];by_cases hz:N'=0
   ·have d0:((N':Int)==0)=true:=by simp [hz]
    have HZ:=hid hz;clear hz;go_wp2_with (go_at_call 137;refine (JYA HV3.o (Q:Int)).mono ?_;rintro e w5 ⟨rfl,ht5,hv5⟩;have HT5:=hid ht5;have HV5:=hid hv5;clear ht5 hv5);go_roundw
    case rel=>
     have hz3:=HT03.o.size;have hw3:pb<w3.heap.size:=HP3.o.lt;refine ⟨j+1,A+1,HLT.o,HA1,⟨⟨HT03.o.trans' HT5.o (fun b hb h=>?_),HC3.o.touch HT5.o HNR.o,⟨plus Sj w3,_,fun b hb=>?_,HV5.o,?_⟩,HP3.o.touch HT5.o (fun h=>?_)⟩⟩,by go_num⟩
     ·rcases HSJ.o b h with h | h
      ·exact .inr h.1
      ·have:=HPB.o;omega
     ·rcases hb with h | h
      ·exact HSJ.o b h
      ·right;omega
     ·have:=HDX.o.drop HST.o HX.o.1 HX.o.2.1 (by rw [HQ.o,<-HX.o.2.2];exact HZ.o);rw [HQ.o] at this;rw [VUf];exact this
     ·rcases HSJ.o _ h with h | h
      ·have:=HPB.o;omega
      ·omega
    case measure=>have:=HA.o;have:=HLT.o;simp [intOf];omega
   ·have d0:((N':Int)==0)=false:=by simp;exact hz
    have HZ:=hid hz;clear hz;go_wp2;go_roundw
    case rel=>
     refine ⟨j+1,A+1,HLT.o,HA1,⟨⟨HT03.o,HC3.o,⟨Sj,_,HSJ.o,HV3.o,?_⟩,HP3.o⟩⟩,by go_num⟩;rw [VUf];exact HDX.o.keep HX.o.1 HX.o.2.1 (by rw [HQ.o,<-HX.o.2.2];exact HZ.o)
    case measure=>have:=HA.o;have:=HLT.o;simp [intOf];omega
  ·obtain rfl:j=n:=by omega
   have hAn:¬ (A:Int)<(f:Int)+(j:Int):=by have:=HA.o;omega
   clear hlt;go_wp2;refine bodyPost_end (results_none rfl _ _ _) rfl ?_;obtain ⟨Sj,vx,hsj,hvx,hdx⟩:=HI.o.vm;exact ⟨rfl,HI.o.t,HI.o.cy,vx,hvx.mono (fun b hb=>(hsj b hb).imp (fun h=>h.1) (fun h=>by have:=HPB.o;omega)),hdx⟩
end
end
end
section
section
open Go.RowKit Word
def XU7 (s:Sl) (v:Vm):Prop:=∀ p,p<v.pt.length->(v.pt.getD p 0≠0↔(∃ i,i<Qd4 s.L/\Vjz s.L i/s.pg=p/\s.is i=false)\/(∃ i,i<Qd4 s.L/\(s.cf.to+i)/s.pg=p/\s.is i=true))
theorem Vj4 {f g:Nat->Bool} {n:Nat} (h:∀ i,i<n->f i=true->g i=true):cnt f n<=cnt g n:=by
 induction n with
 | zero=>exact Nat.le_refl _
 | succ n ih=>
  rw [Z10,Z10];have h1:=ih (fun i hi=>h i (by omega));have h2:=h n (by omega);cases hf:f n <;> cases hg:g n <;> simp_all <;> omega
theorem ZKe (f g:Nat->Bool) (n:Nat):cnt (fun i=>f i||g i) n<=cnt f n+cnt g n:=by
 induction n with
 | zero=>exact Nat.le_refl _
 | succ n ih=>
  rw [Z10,Z10,Z10];cases f n <;> cases g n <;> simp <;> omega
theorem ZH7 (a b n:Nat):cnt (fun i=>decide (a<=i/\i<b)) n<=b-a:=by
 induction n with
 | zero=>exact Nat.zero_le _
 | succ n ih=>
  have key:cnt (fun i=>decide (a<=i/\i<b)) (n+1)<=min (n+1) b-a:=by
   clear ih
   induction n with
   | zero=>
    rw [Z10,YAO];by_cases h:a<=0/\0<b
    ·rw [decide_eq_true h];simp;omega
    ·rw [decide_eq_false h];simp
   | succ n ih=>
    rw [Z10];by_cases h:a<=n+1/\n+1<b
    ·rw [decide_eq_true h];simp only [Bool.toNat_true];omega
    ·rw [decide_eq_false h];simp only [Bool.toNat_false];omega
  omega
theorem JuW (l:List Nat) (f:Nat->Nat->Bool) {m n:Nat} (h:∀ k∈l,cnt (f k) n<=m):cnt (fun i=>l.any fun k=>f k i) n<=l.length*m:=by
 induction l with
 | nil=>
  have:cnt (fun i=>([]:List Nat).any fun k=>f k i) n=0:=Z6o (fun i _=>rfl);rw [this];exact Nat.zero_le _
 | cons k r ih=>
  have h1:=ih (fun j hj=>h j (List.mem_cons_of_mem _ hj));have h2:=h k (List.mem_cons_self ..);have h3:=ZKe (f k) (fun i=>r.any fun k=>f k i) n;rw [List.length_cons,Nat.succ_mul];have e:cnt (fun i=>(k :: r).any fun k=>f k i) n=cnt (fun i=>f k i||r.any fun k=>f k i) n:=rfl;omega
theorem Y37 {l:List Bool} {m:Nat} (hm:m<=l.length) (h:∀ i,i<m->at_ l i=true):cnt (fun k=>decide (m<=k)&&at_ l k) l.length+m=cnt (at_ l) l.length:=by
 have e:=Jjp (f:=fun k=>decide (m<=k)&&at_ l k) (g:=fun k=>decide (0<=k/\k<m)) (fun i=>by
  by_cases hi:m<=i
  ·have:¬ i<m:=by omega
   simp [this]
  ·simp [hi]) l.length
 rw [J2a 0 m _ (Nat.zero_le _) hm] at e
 have e2:cnt (fun i=>(decide (m<=i)&&at_ l i)||decide (0<=i/\i<m)) l.length=cnt (at_ l) l.length:=XmU fun i hi=>by
  by_cases him:i<m
  ·have h1:=h i him;have:¬ m<=i:=by omega
   simp [him,h1]
  ·have:m<=i:=by omega
   simp [him,this]
 omega
theorem JDN {n:Nat} (h:Y1d n=true):∃ k:Nat,n=2 ^ k:=by
 simp [Y1d] at h;have:n=1\/n=2\/n=4\/n=8\/n=16\/n=32\/n=64\/n=128\/n=256\/n=512\/n=1024:=by omega
 rcases this with rfl | rfl | rfl | rfl | rfl | rfl | rfl | rfl | rfl | rfl | rfl
 all_goals first | exact ⟨0,rfl⟩ | exact ⟨1,rfl⟩ | exact ⟨2,rfl⟩ | exact ⟨3,rfl⟩ | exact ⟨4,rfl⟩ | exact ⟨5,rfl⟩ | exact ⟨6,rfl⟩ | exact ⟨7,rfl⟩ | exact ⟨8,rfl⟩ | exact ⟨9,rfl⟩ | exact ⟨10,rfl⟩
theorem Zs5 {B pg:Nat} (hB:Y1d B=true) (hp:Y1d pg=true) (j:Nat):∃ a,∀ i,i/B=j->a<=i/pg/\i/pg<a+max 1 (B/pg):=by
 obtain ⟨k,rfl⟩:=JDN hB;obtain ⟨l,rfl⟩:=JDN hp;have h1:0<2 ^ k:=Nat.two_pow_pos k;have h2:0<2 ^ l:=Nat.two_pow_pos l;rcases Nat.lt_or_ge k l with h | h
 ·obtain ⟨d,rfl⟩:∃ d,l=k+d:=⟨l-k,by omega⟩;refine ⟨j/2 ^ d,fun i hi=>?_⟩;have:i/2 ^ (k+d)=j/2 ^ d:=by rw [Nat.pow_add,<-Nat.div_div_eq_div_mul,hi]
  omega
 ·obtain ⟨d,rfl⟩:∃ d,k=l+d:=⟨k-l,by omega⟩;have e:2 ^ (l+d)/2 ^ l=2 ^ d:=by rw [Nat.pow_add,Nat.mul_div_cancel_left _ h2]
  have h3:0<2 ^ d:=Nat.two_pow_pos d;refine ⟨j*2 ^ d,fun i hi=>?_⟩;have h4:i/2 ^ l/2 ^ d=j:=by rw [Nat.div_div_eq_div_mul,<-Nat.pow_add,hi]
  rw [e];have h5:=Nat.div_add_mod (i/2 ^ l) (2 ^ d);have h6:=Nat.mod_lt (i/2 ^ l) h3;rw [h4,Nat.mul_comm] at h5;omega
theorem Y0i {v:Vm} (h:ZAR v) {p0 c:Nat} (hc:p0+c<=v.pt.length):cnt (fun p=>(v.pt.getD p 0 !=0)||decide (p0<=p/\p<p0+c)) v.pt.length=v.pl.used+(Jfy v p0 c).length:=by
 induction c with
 | zero=>
  rw [h.us]
  show _=nz v.pt+0
  unfold nz;refine XmU fun p _=>?_;rw [decide_eq_false (show ¬ (p0<=p/\p<p0+0) by omega),Bool.or_false]
 | succ c ih=>
  have ih:=ih (by omega);rw [Q1f];by_cases h0:v.pt.getD (p0+c) 0=0
  ·rw [if_pos h0,List.length_append,List.length_singleton,show v.pl.used+((Jfy v p0 c).length+1)=(v.pl.used+(Jfy v p0 c).length)+1 by omega,<-ih];have e:=VXp (f:=fun p=>(v.pt.getD p 0 !=0)||decide (p0<=p/\p<p0+c)) (i:=p0+c) (n:=v.pt.length) (by omega) (by show ((v.pt.getD (p0+c) 0 !=0)||decide (p0<=p0+c/\p0+c<p0+c))=false;rw [h0,decide_eq_false (by omega)];rfl);rw [<-e];refine XmU fun p _=>?_;by_cases hp:p=p0+c
   ·subst hp;simp
   ·have:(p0<=p/\p<p0+(c+1))↔(p0<=p/\p<p0+c):=by omega
    have e2:decide (p0<=p/\p<p0+(c+1))=decide (p0<=p/\p<p0+c):=decide_eq_decide.2 this;rw [e2,beq_eq_false_iff_ne.2 hp,Bool.or_false]
  ·rw [if_neg h0,<-ih];refine XmU fun p _=>?_;by_cases hp:p=p0+c
   ·subst hp;rw [bne_iff_ne.2 h0,Bool.true_or,Bool.true_or]
   ·have:(p0<=p/\p<p0+(c+1))↔(p0<=p/\p<p0+c):=by omega
    rw [decide_eq_decide.2 this]
section
variable {s:Sl} {v v':Vm} {k:Nat}
theorem Sl.ft_le (s:Sl):s.ft<=s.mv.length:=Xgi _ _
theorem Sl.ft_on (s:Sl) {i:Nat} (h:i<s.ft):at_ s.mv i=true:=by
 have:=ZGm (fun k=>!at_ s.mv k) s.mv.length i h;simpa using this
theorem Sl.ft_off (s:Sl) (h:s.ft<s.mv.length):at_ s.mv s.ft=false:=by
 have:(!at_ s.mv s.ft)=true:=JyT (fun k=>!at_ s.mv k) s.mv.length h;simpa using this
end
end
end
section
section
open Go.RowKit Go.Shelf Word
theorem JPr {s:Sl} (hst:Jdn s) {k:Nat} (hk:k<s.mv.length):∃ (P:List Pc) (M:Nat->Nat),ZLj s.L s.cf.bk s.cf.to k=P/\M 0=0/\M P.length=s.hi k-s.lo k/\∀ i (h:i<P.length),∃ f:Nat,1<=P[i].s/\P[i].f=f/\P[i].t=((s.cf.to+(s.lo k+M i):Nat):Int)/\M (i+1)=M i+P[i].s/\s.lo k+M i+P[i].s<=s.hi k/\∀ j,j<P[i].s->Vjz s.L (s.lo k+M i+j)=f+j:=by
 have hlh:=hst.lohi hk
 have hin:XV5 s.L s.cf.bk (k:Int)=true:=by
  unfold XV5;rw [decide_eq_true (by omega),decide_eq_true (by rw [<-hst.len];omega)];rfl
 obtain ⟨e1,e2,-⟩:=Jfd (base:=(s.cf.to:Int)) hin;have ea:YmL s.L s.cf.bk s.cf.to k=((s.cf.to+s.lo k:Nat):Int):=by rw [e1];unfold Sl.lo;push_cast;rfl
 have ez:YBR s.L s.cf.bk s.cf.to k=((s.cf.to+s.hi k:Nat):Int):=by
  rw [e2];unfold Sl.hi;rw [show (k:Int)*(s.cf.bk:Int)=((k*s.cf.bk:Nat):Int) by push_cast;rfl];omega
 obtain ⟨P,hP⟩:∃ P,P=ZLj s.L s.cf.bk s.cf.to k:=⟨_,rfl⟩
 have hP2:P=pcs (Xbb s.L s.cf.to) ((s.cf.to+s.lo k:Nat):Int) (s.hi k-s.lo k):=by
  rw [hP];unfold ZLj;rw [ea,ez];congr 1;omega
 have hr:VWD (Xbb s.L s.cf.to) ((s.cf.to+s.lo k:Nat):Int) (s.hi k-s.lo k) P:=by rw [hP2];exact QBb _ _ _
 have hends:=fun i hi=>hr.ends _ i hi rfl;have h0:=XLy hr (by omega);have hE:=VID P (((s.cf.to+s.lo k:Nat):Int)+((s.hi k-s.lo k:Nat):Int));obtain ⟨T,hT⟩:∃ T:Nat->Int,T=YU8 P (((s.cf.to+s.lo k:Nat):Int)+((s.hi k-s.lo k:Nat):Int)):=⟨_,rfl⟩;rw [<-hT] at h0 hE;refine ⟨P,fun i=>(T i-((s.cf.to+s.lo k:Nat):Int)).toNat,hP.symm,by dsimp only;rw [h0];omega,by dsimp only;rw [hE];omega,fun i hi=>?_⟩;obtain ⟨g1,g2⟩:=hends i hi;have h1:T i=P[i].t:=by rw [hT];exact ZXR hi
 have h2:T (i+1)=P[i].t+P[i].s:=by rw [hT];exact Xv7 hr hi
 have hw:=hr.word _ (List.getElem_mem hi);have hp:=hr.pos _ (List.getElem_mem hi);obtain ⟨m,hm⟩:∃ m:Nat,P[i].t=((s.cf.to+(s.lo k+m):Nat):Int):=⟨(P[i].t-((s.cf.to+s.lo k:Nat):Int)).toNat,by omega⟩
 have hsr:∀ j,j<P[i].s->(Vjz s.L (s.lo k+m+j):Int)=P[i].f+j:=fun j hj=>by
  rw [<-hw j hj,hm,show ((s.cf.to+(s.lo k+m):Nat):Int)+(j:Int)=((s.cf.to+(s.lo k+m+j):Nat):Int) by omega];exact (Qmd (by omega)).1.symm
 have hf0:=hsr 0 (by omega);refine ⟨P[i].f.toNat,hp,by omega,?_,?_,?_,fun j hj=>?_⟩
 ·dsimp only;rw [h1];omega
 ·dsimp only;rw [h1,h2];omega
 ·dsimp only;rw [h1];omega
 ·have:=hsr j hj;dsimp only;rw [h1,show (P[i].t-((s.cf.to+s.lo k:Nat):Int)).toNat=m by omega];omega
theorem JDv (U:Nat->Bool) (i n m:Nat):VIy (VIy U i n) (i+n) m=VIy U i (n+m):=by
 induction m with
 | zero=>rw [VcQ];rfl
 | succ m ih=>rw [VUf,ih,<-Nat.add_assoc,VUf,Nat.add_assoc i n m]
theorem VpR.touch {w w':World} {T:Nat->Prop} {A:Option Addr} {P:List Pc} (h:VpR w A P) (t:XF4 T w w') (hT:∀ a,A=some a->¬ T a.block):VpR w' A P:=fun i hi=>by
 obtain ⟨g,rfl,h1,h2,h3,h4⟩:=h i hi;have hg:=hT _ rfl;exact ⟨g,rfl,Nat.lt_of_lt_of_le h1 t.size,(t.cell h1 hg _).trans h2,(t.cell h1 hg _).trans h3,(t.cell h1 hg _).trans h4⟩
theorem YNO.cu {w:World} {R:Nat->Prop} {y q:Nat} {z:ZH1} {s:Sl} {U V:Nat->Bool} {ml:List Bool} {lf ft ah:Nat} (h:YNO w R y q z s U ml lf ft ah) (hU:∀ j,j<Qd4 s.L->U j=V j):YNO w R y q z s V ml lf ft ah:=by
 refine ⟨h.od,h.rc,h.pl,h.ex,h.sh,?_,h.mv⟩;obtain ⟨n,f,h1,h2,h3⟩:=h.wd;exact ⟨n,f,h1,by rw [<-XmU hU];exact h2,fun q=>by rw [<-Sl.on_congr hU];exact h3 q⟩
def YNn (w:World) (b o:Nat):Nat:=match w.cell? ⟨b,o,none⟩ with | some v=>(intOf v).toNat | none=>0
def ZrS (w:World) (R S:Nat->Prop) (y q:Nat) (z:ZH1) (s:Sl) (k:Nat) (v:Vm) (e:Ending) (w':World):Prop:=
 e=.returned (.int .i64 0)/\XF4 (fun b=>R b\/S b) w w'/\Cyc w' R y q z { s with mv:=s.mv.set k true }/\∃ v',QXZ w' (plus S w) q v'/\YJW s k v v'
structure MvC (w w2 wr:World) (R S S2:Nat->Prop) (y q:Nat) (z:ZH1) (s:Sl) (k m:Nat) (v1:Vm) (g:Nat) (P:List Pc):Prop where
 t:XF4 (fun b=>R b\/S b) w wr
 t2:XF4 S2 w2 wr
 cy:Cyc wr R y q z s
 vm:∃ vx,QXZ wr S2 q vx/\QsS s s.is (fun i=>!s.is i) (s.lo k) (s.hi k) v1 vx m
 pc:VpR wr (some ⟨g,0,none⟩) P
structure MvD (w w4 wr:World) (R S S2:Nat->Prop) (y q:Nat) (z:ZH1) (s:Sl) (k m:Nat) (v2:Vm) (g:Nat) (P:List Pc):Prop where
 t:XF4 (fun b=>R b\/S b) w wr
 sz:w4.heap.size<=wr.heap.size
 cy:YNO wr R y q z s (VIy (fun i=>!s.is i) (s.lo k) m) s.mv s.lf s.ft (s.mvd-s.ft)
 vm:∃ Sj vx,(∀ b,Sj b->S2 b\/w4.heap.size<=b)/\QXZ wr Sj q vx/\Q2A s (fun j=>s.is j||(decide (s.lo k<=j)&&decide (j<s.lo k+(s.hi k-s.lo k)))) (fun i=>!s.is i) (VIy (fun i=>!s.is i) (s.lo k) m) v2 vx
 pc:VpR wr (some ⟨g,0,none⟩) P
structure MvF (w8 wr:World) (R:Nat->Prop) (y q:Nat) (z:ZH1) (s:Sl) (U:Nat->Bool) (ml:List Bool) (l1 sm fc ac:Nat):Prop where
 cy:YNO wr R y q z s U ml l1 fc ac
 t:XF4 (fun i=>i=y) w8 wr
 on:∀ i,i<fc->at_ ml i=true
 sum:ac+fc=sm
 le:fc<=ml.length
structure MvK (w w2:World) (R S S2:Nat->Prop) (s:Sl) (k:Nat) (v1:Vm) (P:List Pc) (M:Nat->Nat):Prop where
 st:Jdn s
 hk:k<s.mv.length
 hm:at_ s.mv k=false
 pc:∀ i (h:i<P.length),∃ f:Nat,1<=P[i].s/\P[i].f=f/\P[i].t=((s.cf.to+(s.lo k+M i):Nat):Int)/\M (i+1)=M i+P[i].s/\s.lo k+M i+P[i].s<=s.hi k/\∀ j,j<P[i].s->Vjz s.L (s.lo k+M i+j)=f+j
 ld:∀ i,s.lo k<=i->i<s.hi k->v1.ldE ((s.cf.to+i:Nat):Int)=0
 tb:VRW w
 tS:¬ S 1
 tR:¬ R 1
 s2:∀ b,S2 b->(S b/\b<w.heap.size\/w.heap.size<=b)/\b<w2.heap.size
 dis:∀ k,R k->¬ S k
 rl:∀ k,R k->k<w.heap.size
 ww:w.heap.size<=w2.heap.size
section
variable {w w2 w4 wr:World} {R S S2:Nat->Prop} {y q:Nat} {z:ZH1} {s:Sl} {v1 v2:Vm} {k g i:Nat} {P:List Pc} {M:Nat->Nat}
theorem MvK.un (h:MvK w w2 R S S2 s k v1 P M) {i:Nat} (h1:s.lo k<=i) (h2:i<s.hi k):s.is i=false:=by
 have hN:=(h.st.lohi h.hk).2.2;have:i/s.cf.bk=k:=by simpa [Sl.inB] using (h.st.inB (k:=k) (i:=i) (by omega)).2 ⟨h1,h2⟩
 unfold Sl.is;rw [this];exact h.hm
theorem MvK.r2 (h:MvK w w2 R S S2 s k v1 P M):∀ b,R b->¬ S2 b:=fun b hb h2=>by
 have:=h.rl b hb;rcases (h.s2 b h2).1 with h' | h'
 ·exact h.dis b hb h'.1
 ·omega
theorem MvK.t2 (h:MvK w w2 R S S2 s k v1 P M):¬ S2 1:=fun h2=>by
 have:=h.tb.lt;rcases (h.s2 _ h2).1 with h' | h'
 ·exact h.tS h'.1
 ·omega
theorem MvK.copy (h:MvK w w2 R S S2 s k v1 P M) (hg:w2.heap.size<=g) (hi:i<P.length) (hI:MvC w w2 wr R S S2 y q z s k (M i) v1 g P) {W:World} (gW:Gr wr W):
  ∃ f t:Nat,P[i].f=f/\P[i].t=t/\Calls Tryz.prog 219 #[.pointer (some ⟨y,0,none⟩),.agg #[.int .i64 f,.int .i64 t,.int .i64 (P[i].s:Nat)]] W fun e w'=>e=.returned (.tuple #[])/\MvC w w2 w' R S S2 y q z s k (M (i+1)) v1 g P:=by
 obtain ⟨f,h1,h2,h3,h4,h5,h6⟩:=h.pc i hi;obtain ⟨vx,hvx,hpx⟩:=hI.vm;have hN:=(h.st.lohi h.hk).2.2;have htw:VRW W:=(h.tb.touch' hI.t (fun h'=>h'.elim h.tR h.tS)).touch' (gW.touch (fun _=>False)) (fun h=>h);refine ⟨f,_,h2,h3,(XAM (hI.cy.gr gW) h.st htw h.t2 (hvx.gr gW) h.r2 hpx h5 hN (fun i a b=>by simp [h.un a b]) h.ld h6).mono ?_⟩;rintro e w' ⟨rfl,ht,v'',hv,hp⟩
 have hws:∀ b,S2 b->R b\/S b\/w.heap.size<=b:=fun b hb=>by
  rcases (h.s2 b hb).1 with h' | h'
  ·exact .inr (.inl h'.1)
  ·exact .inr (.inr h')
 refine ⟨rfl,(hI.t.trans (gW.touch _)).trans' ht (fun b hb hs=>?_),(hI.t2.trans (gW.touch _)).trans ht,(hI.cy.gr gW).touch ht h.r2,⟨v'',hv.mono (fun b hb=>hb.1),by rw [h4];exact hp⟩,(hI.pc.gr gW).touch ht (fun a ha hs=>?_)⟩
 ·rcases (h.s2 b hs).1 with h' | h'
  ·exact .inr h'.1
  ·omega
 ·cases ha;have:g<w2.heap.size:=(h.s2 _ hs).2;omega
theorem MvK.drain (h:MvK w w2 R S S2 s k v1 P M) (_hw:w2.heap.size<=w4.heap.size) (h0:w.heap.size<=w4.heap.size) (hg:w2.heap.size<=g/\g<w4.heap.size) (hi:i<P.length) (hI:MvD w w4 wr R S S2 y q z s k (M i) v2 g P) {W:World} (gW:Gr wr W):
  ∃ f t:Nat,P[i].f=f/\P[i].t=t/\Calls Tryz.prog 220 #[.pointer (some ⟨y,0,none⟩),.agg #[.int .i64 f,.int .i64 t,.int .i64 (P[i].s:Nat)]] W fun e w'=>e=.returned (.tuple #[])/\MvD w w4 w' R S S2 y q z s k (M (i+1)) v2 g P:=by
 obtain ⟨f,h1,h2,h3,h4,h5,h6⟩:=h.pc i hi;obtain ⟨Sj,vx,hsj,hvx,hpx⟩:=hI.vm;have hN:=(h.st.lohi h.hk).2.2;have hz:=gW.size;have hzr:=hI.sz
 have hRj:∀ b,R b->¬ Sj b:=fun b hb hs=>by
  have:=h.rl b hb;rcases hsj b hs with h' | h'
  ·exact h.r2 b hb h'
  ·omega
 refine ⟨f,_,h2,h3,(JBl (hI.cy.gr gW) h.st (hvx.gr gW) hRj hpx h1 (by omega) (fun j hj=>?_) h6).mono ?_⟩
 ·rw [QWx (by omega)];simp [h.un (i:=s.lo k+M i+j) (by omega) (by omega)]
 ·rintro e w' ⟨rfl,ht,hc,v'',hv,hp⟩;rw [JDv,<-h4] at hc hp;refine ⟨rfl,(hI.t.trans (gW.touch _)).trans' ht (fun b hb hs=>?_),by have:=ht.size;omega,hc,⟨plus Sj W,v'',fun b hb=>?_,hv,hp⟩,(hI.pc.gr gW).touch ht (fun a ha hs=>?_)⟩
  ·rcases hs with hs | hs
   ·left;rw [hs];exact hI.cy.od.r3
   ·rcases hsj b hs with h' | h'
    ·rcases (h.s2 b h').1 with h'' | h''
     ·exact .inr h''.1
     ·omega
    ·omega
  ·rcases hb with hb | hb
   ·exact hsj b hb
   ·right;omega
  ·cases ha;rcases hs with hs | hs
   ·have h1:=h.rl _ hI.cy.od.r3;have hs:g=z.bw:=hs;have:=h.ww;omega
   ·rcases hsj _ hs with h' | h'
    ·have:g<w2.heap.size:=(h.s2 _ h').2;omega
    ·have h':w4.heap.size<=g:=h';omega
end
section
variable {w:World} {R S:Nat->Prop} {y q:Nat} {z:ZH1} {s:Sl} {v:Vm} {k:Nat}
set_option maxHeartbeats 6400000 in
theorem ZS2 (hC:Cyc w R y q z s) (hO:ZEw s v) (hT:VRW w) (htS:¬ S 1) (htR:¬ R 1) (hV:QXZ w S q v) (hdis:∀ k,R k->¬ S k) (hk:k<s.mv.length) (hkm:at_ s.mv k=false)
  (hE:Jsl v ((s.cf.to+s.lo k:Nat):Int) ((s.cf.to+s.hi k:Nat):Int)=0):
  Calls Tryz.prog 149 #[.pointer (some ⟨y,0,none⟩),.int .i64 k] w (ZrS w R S y q z s k v):=by
 have hst:=hO.st;have hlh:=hst.lohi hk;obtain ⟨P,M,eP,M0,M1,hM⟩:=JPr hst hk
 have hP0:0<P.length:=by
  rcases Nat.eq_zero_or_pos P.length with h | h
  ·rw [h,M0] at M1;omega
  ·exact h
 have hn2:=hst.n2;have hto:s.cf.to+s.hi k<=v.n:=by have:=hst.fit;have:=hst.cf.ln;rw [hO.mid.n];omega
 have hnv:v.n<=524288:=by rw [hO.mid.n];exact hn2
 have hin:XV5 s.L s.cf.bk (k:Int)=true:=by
  unfold XV5;rw [decide_eq_true (by omega),decide_eq_true (by rw [<-hst.len];omega)];rfl
 obtain ⟨r1,r2,r3⟩:=Jfd (base:=(s.cf.to:Int)) hin;have ea:YmL s.L s.cf.bk s.cf.to k=((s.cf.to+s.lo k:Nat):Int):=by rw [r1];unfold Sl.lo;push_cast;rfl
 have ez:YBR s.L s.cf.bk s.cf.to k=((s.cf.to+s.hi k:Nat):Int):=by
  rw [r2];unfold Sl.hi;rw [show (k:Int)*(s.cf.bk:Int)=((k*s.cf.bk:Nat):Int) by push_cast;rfl];omega
 have hPl:P.length<=1048576:=by
  have:=ZbI hst.good (by omega) hst.bk.1 (base:=s.cf.to) (by have:=hst.cf.lm;have:=hst.cf.ln;omega) (k:Int);rw [eP] at this;have:=hst.bk.2;omega
 have hmi:s.mvd+s.lf=s.mv.length:=by
  unfold Sl.lf;have:s.mvd<=s.mv.length:=QMh _ _;omega
 have hml:s.mv.length<=1048576:=by rw [hst.len];have:=J5D (n:=Qd4 s.L) hst.bk.1;have:=hst.N_le;omega
 have hmv1:({ s with mv:=s.mv.set k true }:Sl).mvd=s.mvd+1:=by
  show cnt (at_ (s.mv.set k true)) (s.mv.set k true).length=_
  rw [List.length_set,Jso hk hkm];rfl
 have hHR:=hid (fun (W:World) (g:Gr w W)=>Qy3 (hC.gr g).plan (k:Int));rw [ea,ez,r3] at hHR;have HND:=hid (fun (W:World) (g:Gr w W)=>VfQ (hV.cut.gr g) (s.cf.to+s.lo k) (s.cf.to+s.hi k) hto (by omega));rw [hE] at HND;have HC:=hid hC;have HO:=hid hO;have HT:=hid hT;have HTN:=hid (And.intro htS htR);have HV:=hid hV;have HDIS:=hid hdis;have HK:=hid (And.intro hk (And.intro hkm hE));have HP:=hid (And.intro eP (And.intro M0 (And.intro M1 r3)));have HM:=hid hM;have HMV:=hid (And.intro hmi hmv1);have HRL:=hid hC.od.lt;obtain ⟨af,haf⟩:∃ af,af=s.cf.to+s.lo k:=⟨_,rfl⟩;obtain ⟨az,haz⟩:∃ az,az=s.cf.to+s.hi k:=⟨_,rfl⟩;have HAF:=hid (And.intro haf haz);rw [<-haf,<-haz] at HND hHR;have x0:=hC.rc.cell (j:=0) rfl;have x8:=hC.rc.cell (j:=8) rfl;have xl:=hC.rc.lt;clear hC hO hst hT htS htR hV hdis hk hkm hE eP M0 M1 hM hin r1 r2 r3 ea ez haf haz hto hnv hlh hmv1;go_enter Tryz.func149,Tryz.ntmps149
 go_upto_region 5 with (first
  | (go_at_call 217;refine (hHR.o _ (Gr.refl w)).mono ?_;rintro e w1 ⟨rfl,hg1⟩;have HG1:=hid hg1;have y0:=(HC.o.gr hg1).rc.cell (j:=0) rfl;have yl:=(HC.o.gr hg1).rc.lt;clear hg1)
  | (go_at_call 133;refine (HND.o _ HG1.o).mono ?_;rintro e w2 ⟨rfl,ht2,v1,hgr,hv1⟩;have HT2:=hid ht2;have HGR:=hid hgr;have HV1:=hid hv1;clear ht2 hgr hv1))
 clear x0 x8 xl y0 yl;obtain ⟨S2,hS2⟩:∃ S2,S2=ZOk (plus (ZOk S w) w1) w2:=⟨_,rfl⟩;have hz1:=HG1.o.size;have hz2:=HT2.o.size
 have HS2:Hid (∀ b,S2 b->(S b/\b<w.heap.size\/w.heap.size<=b)/\b<w2.heap.size):=⟨fun b hb=>by
  rw [hS2] at hb
  exact ⟨hb.1.imp id (fun h=>by omega),hb.2⟩⟩
 have HV2:Hid (QXZ w2 S2 q v1):=⟨by rw [hS2];exact HV1.o.cut⟩;have HC2:Hid (Cyc w2 R y q z s):=⟨(HC.o.gr HG1.o).touch HT2.o (fun b hb h=>HDIS.o b hb h.1)⟩;have HTW2:Hid (XF4 (fun b=>R b\/S b) w w2):=⟨(HG1.o.touch _).trans (HT2.o.mono (fun b _ h=>.inr h.1))⟩;have HTB2:Hid (VRW w2):=⟨HT.o.touch' HTW2.o (fun h=>h.elim HTN.o.2 HTN.o.1)⟩
 have HMK:Hid (MvK w w2 R S S2 s k v1 P M):=⟨⟨HO.o.st,HK.o.1,HK.o.2.1,HM.o,fun i h1 h2=>by
  have e:=HGR.o;rw [HAF.o.1,HAF.o.2] at e;have h3:=HO.o.st.lohi HK.o.1;have h4:=HO.o.st.dsts (i:=s.hi k-1) (by omega);have h5:=HO.o.mid.n
  exact V75 HO.o.mid.ok (by omega) HK.o.2.2 e (by omega) (by omega),HT.o,HTN.o.1,HTN.o.2,HS2.o,HDIS.o,HRL.o,by omega⟩⟩
 have HCP0:Hid (QsS s s.is (fun i=>!s.is i) (s.lo k) (s.hi k) v1 v1 (M 0)):=⟨by rw [HP.o.2.1];exact QsS.zero (HO.o.mid.grow HO.o.st HGR.o) _ _⟩;have HPN:=hid (Y4j HC2.o.plan HTB2.o (k:Int));rw [HP.o.1,HP.o.2.2.2] at HPN;have HP0:=hid hP0;have u8:=HC2.o.rc.cell (j:=8) rfl;have ul:=HC2.o.rc.lt;clear hS2 hP0;go_upto_region 6 with (go_at_call 218;refine (HPN.o).mono ?_;rintro e w3 ⟨A,cp,rfl,hg3,hpc,hnew⟩;obtain ⟨g,rfl,hgl,-⟩:=hpc 0 HP0.o;have HG3:=hid hg3;have HPC:=hid hpc;have HNW:Hid (w2.heap.size<=g/\g<w3.heap.size):=⟨⟨hnew _ rfl,hgl⟩⟩;clear hg3 hpc hnew hgl);clear u8 ul;have HMC:Hid (MvC w w2 w3 R S S2 y q z s k (M 0) v1 g P):=⟨⟨HTW2.o.trans (HG3.o.touch _),HG3.o.touch _,HC2.o.gr HG3.o,⟨v1,HV2.o.gr HG3.o,HCP0.o⟩,HPC.o⟩⟩;go_upto_region 7 with (fail)
 go_loopw [46] (fun s46 wr=>∃ i:Nat,i<=P.length/\Hid (MvC w w2 wr R S S2 y q z s k (M i) v1 g P)/\s46=.int .i64 i) (fun s46 _=>P.length-(intOf s46).toNat)
 case atStart=>exact ⟨0,Nat.zero_le _,HMC,rfl⟩
 case round=>
  obtain ⟨i,hi,HI,rfl⟩:=hrel;clear HMC;by_cases hlt:i<P.length
  ·have HLT:=hid hlt;have hiI:(i:Int)<(P.length:Int):=by omega
   obtain ⟨g',hg',hgl,k0,k1,k2⟩:=HI.o.pc i hlt;cases hg';obtain ⟨f,t,ef,et,-⟩:=HMK.o.copy HNW.o.1 hlt HI.o (Gr.refl wr)
   have HCPY:Hid (∀ W,Gr wr W->Calls Tryz.prog 219 #[.pointer (some ⟨y,0,none⟩),.agg #[.int .i64 f,.int .i64 t,.int .i64 (P[i].s:Nat)]] W fun e w'=>e=.returned (.tuple #[])/\MvC w w2 w' R S S2 y q z s k (M (i+1)) v1 g P):=⟨fun W gW=>by
    obtain ⟨f',t',ef',et',h⟩:=HMK.o.copy HNW.o.1 hlt HI.o gW;rw [ef] at ef';rw [et] at et';obtain rfl:f=f':=by omega
    obtain rfl:t=t':=by omega
    exact h⟩
   obtain ⟨n,hn⟩:∃ n,n=P[i].s:=⟨_,rfl⟩;rw [ef] at k0;rw [et] at k1;rw [<-hn] at k2 HCPY;clear hn ef et hlt;have hRec:=hid (Rec.new wr 289 [.int .i64 f,.int .i64 t,.int .i64 n]);simp only [List.toArray] at hRec;go_upto_region 9 with (fail);obtain ⟨wA,hwA⟩:∃ wA,wA=wr.alloc (.cells #[.int .i64 f,.int .i64 t,.int .i64 n] 289):=⟨_,rfl⟩;have hgA:Gr wr wA:=by rw [hwA];exact (Gr.refl wr).alloc _
   have hR:=hRec.o;rw [show wr.alloc (.cells ([.int .i64 f,.int .i64 t,.int .i64 n]:List Value).toArray 289)=wA from hwA.symm] at hR;rw [<-hwA];have HGA:=hid hgA;have b0:=hR.cell (j:=0) rfl;have b1:=hR.cell (j:=1) rfl;have b2:=hR.cell (j:=2) rfl;have bl:=hR.lt;clear hwA hgA hRec hR k0 k1 k2 hgl;go_wp2_with (go_at_call 219;refine (HCPY.o _ HGA.o).mono ?_;rintro e w5 ⟨rfl,hi5⟩;have HI5:=hid hi5;clear hi5);go_roundw
   case rel=>exact ⟨i+1,HLT.o,HI5,by go_num⟩
   case measure=>have:=HLT.o;simp [intOf];omega
  ·obtain rfl:i=P.length:=by omega
   clear hlt;obtain ⟨w4,rfl⟩:∃ w4:World,w4=wr:=⟨_,rfl⟩;obtain ⟨v2,hv2,hc2⟩:=HI.o.vm;have HV4:=hid hv2;have HC4:=hid hc2;have hz4:=HI.o.t2.size
   have HMD:Hid (MvD w w4 w4 R S S2 y q z s k (M 0) v2 g P):=⟨⟨HI.o.t,Nat.le_refl _,by rw [HP.o.2.1,VcQ];exact HI.o.cy,⟨S2,v2,fun b hb=>.inl hb,HV4.o,by
    rw [HP.o.2.1,VcQ];have:=HC4.o.mid;rw [HP.o.2.2.1] at this
    exact Q2A.zero this⟩,HI.o.pc⟩⟩
   have hgw:g<w4.heap.size:=by
    obtain ⟨g',hg',hgl,-⟩:=HI.o.pc 0 HP0.o;cases hg';exact hgl
   have HGW:=hid hgw;clear hv2 hc2 hgw;go_upto_region 12 with (fail)
   go_loopw [56] (fun s56 wr=>∃ i:Nat,i<=P.length/\Hid (MvD w w4 wr R S S2 y q z s k (M i) v2 g P)/\s56=.int .i64 i) (fun s56 _=>P.length-(intOf s56).toNat)
   case atStart=>exact ⟨0,Nat.zero_le _,HMD,rfl⟩
   case round=>
    obtain ⟨i,hi,HD,rfl⟩:=hrel;clear HMD;by_cases hlt:i<P.length
    ·have HLT:=hid hlt;have hiI:(i:Int)<(P.length:Int):=by omega
     obtain ⟨g',hg',hgl,k0,k1,k2⟩:=HD.o.pc i hlt;cases hg';obtain ⟨f,t,ef,et,-⟩:=HMK.o.drain hz4 (by omega) ⟨HNW.o.1,HGW.o⟩ hlt HD.o (Gr.refl wr)
     have HCPY:Hid (∀ W,Gr wr W->Calls Tryz.prog 220 #[.pointer (some ⟨y,0,none⟩),.agg #[.int .i64 f,.int .i64 t,.int .i64 (P[i].s:Nat)]] W fun e w'=>e=.returned (.tuple #[])/\MvD w w4 w' R S S2 y q z s k (M (i+1)) v2 g P):=⟨fun W gW=>by
      obtain ⟨f',t',ef',et',h⟩:=HMK.o.drain hz4 (by omega) ⟨HNW.o.1,HGW.o⟩ hlt HD.o gW;rw [ef] at ef';rw [et] at et';obtain rfl:f=f':=by omega
      obtain rfl:t=t':=by omega
      exact h⟩
     obtain ⟨n,hn⟩:∃ n,n=P[i].s:=⟨_,rfl⟩;rw [ef] at k0;rw [et] at k1;rw [<-hn] at k2 HCPY;clear hn ef et hlt;have hRec:=hid (Rec.new wr 289 [.int .i64 f,.int .i64 t,.int .i64 n]);simp only [List.toArray] at hRec;go_upto_region 14 with (fail);obtain ⟨wA,hwA⟩:∃ wA,wA=wr.alloc (.cells #[.int .i64 f,.int .i64 t,.int .i64 n] 289):=⟨_,rfl⟩;have hgA:Gr wr wA:=by rw [hwA];exact (Gr.refl wr).alloc _
     have hR:=hRec.o;rw [show wr.alloc (.cells ([.int .i64 f,.int .i64 t,.int .i64 n]:List Value).toArray 289)=wA from hwA.symm] at hR;rw [<-hwA];have HGA:=hid hgA;have b0:=hR.cell (j:=0) rfl;have b1:=hR.cell (j:=1) rfl;have b2:=hR.cell (j:=2) rfl;have bl:=hR.lt;clear hwA hgA hRec hR k0 k1 k2 hgl;go_wp2_with (go_at_call 220;refine (HCPY.o _ HGA.o).mono ?_;rintro e w5 ⟨rfl,hi5⟩;have HI5:=hid hi5;clear hi5);go_roundw
     case rel=>exact ⟨i+1,HLT.o,HI5,by go_num⟩
     case measure=>have:=HLT.o;simp [intOf];omega
    ·obtain rfl:i=P.length:=by omega
     clear hlt;obtain ⟨w6,rfl⟩:∃ w6:World,w6=wr:=⟨_,rfl⟩;obtain ⟨Sj,vx,hsj,hvx,hdx⟩:=HD.o.vm;have hcy:=HD.o.cy;have hz6:=HD.o.sz;rw [HP.o.2.2.1] at hcy hdx;have hkI:(k:Int)<(s.mv.length:Int):=by have:=HK.o.1;omega
     have c4:=hcy.rc.cell (j:=10) rfl;have cl:=hcy.rc.lt;have m0:=ZBn hcy.mv (JOD HK.o.1);have mf:=QxS hcy.mv;have ml':=(Vvr hcy.mv rfl).2;have HCY6:=hid hcy;have HVX:=hid hvx;have HDX:=hid hdx;have HSJ:=hid hsj
     have hRj:∀ b,R b->¬ Sj b:=fun b hb h=>by
      have:=HRL.o b hb;rcases HSJ.o b h with h | h
      ·exact HMK.o.r2 b hb h
      ·omega
     have HRJ:=hid hRj;clear hcy hvx hdx hsj hRj;go_upto_region 17 with (fail);have hm7:=(World.ownsRow.stored HCY6.o.mv k (.bool true)).1;rw [QPU] at hm7;obtain ⟨w7,hw7⟩:∃ w7,w7=w6.setCell ⟨z.bm,k,none⟩ (.bool true):=⟨_,rfl⟩;have ht7:XF4 (fun i=>i=z.bm) w6 w7:=by rw [hw7];exact (XF4.refl (fun i=>i=z.bm) w6).setCell (a:=⟨z.bm,k,none⟩) (fun _=>rfl) _
     rw [<-hw7] at hm7 ⊢;have hcy7:YNO w7 R y q z s (VIy (fun i=>!s.is i) (s.lo k) (s.hi k-s.lo k)) (s.mv.set k true) s.lf s.ft (s.mvd-s.ft):=HCY6.o.setM (List.length_set ..) ht7 (by rw [List.length_set];exact hm7);have HT7:=hid ht7;have HCY7:=hid hcy7;have e5:=hcy7.rc.cell (j:=11) rfl;have ef:=hcy7.rc.free;have el:=hcy7.rc.lt;clear hw7 hm7 ht7 hcy7 c4 cl m0 mf ml'
     have hmd:s.mvd<s.mv.length:=by
      have:=HMV.o.2;have h2:({ s with mv:=s.mv.set k true }:Sl).mvd<=(s.mv.set k true).length:=QMh _ _;rw [List.length_set] at h2;omega
     have hfm:s.ft<=s.mvd:=by
      have:=Y37 (l:=s.mv) (m:=s.ft) s.ft_le (fun i hi=>s.ft_on hi)
      show s.ft<=cnt (at_ s.mv) s.mv.length
      omega
     obtain ⟨l1,hl1⟩:∃ l1,s.lf=l1+1:=⟨s.lf-1,by omega⟩;have hs1:(s.lf:Int)-1=(l1:Int):=by omega
     have HL1:=hid hl1;have HFM:=hid (And.intro hmd hfm);have hLB:s.lf<=1048576:=by omega
     clear hl1 hmd hfm;go_upto_region 18 with (fail);obtain ⟨w8,hw8⟩:∃ w8,w8=w7.setCell ⟨y,11,none⟩ (.int .i64 l1):=⟨_,rfl⟩;have ht8:XF4 (fun i=>i=y) w7 w8:=by rw [hw8];exact (XF4.refl (fun i=>i=y) w7).setCell (a:=⟨y,11,none⟩) (fun _=>rfl) _
     have hr8:=HCY7.o.rc.set 11 (.int .i64 l1);rw [<-hw8] at hr8 ⊢;have hcy8:YNO w8 R y q z s (VIy (fun i=>!s.is i) (s.lo k) (s.hi k-s.lo k)) (s.mv.set k true) l1 s.ft (s.mvd-s.ft):=HCY7.o.setR ht8 hr8;have HT8:=hid ht8;have HCY8:=hid hcy8;have g7:=hcy8.rc.cell (j:=13) rfl;have gf:=hcy8.rc.free;have gl:=hcy8.rc.lt;obtain ⟨a0,ha0⟩:∃ a0,a0=s.mvd-s.ft:=⟨_,rfl⟩;rw [<-ha0] at g7;have ha0b:a0<=1048576:=by omega
     have HA0:=hid ha0;clear hw8 hr8 ht8 hcy8 e5 ef el hs1 hLB ha0;go_upto_region 19 with (fail);obtain ⟨w9,hw9⟩:∃ w9,w9=w8.setCell ⟨y,13,none⟩ (.int .i64 ((a0:Int)+1)):=⟨_,rfl⟩;have ht9:XF4 (fun i=>i=y) w8 w9:=by rw [hw9];exact (XF4.refl (fun i=>i=y) w8).setCell (a:=⟨y,13,none⟩) (fun _=>rfl) _
     have hr9:=HCY8.o.rc.set 13 (.int .i64 ((a0:Int)+1));rw [<-hw9] at hr9 ⊢;have HCY9:Hid (YNO w9 R y q z s (VIy (fun i=>!s.is i) (s.lo k) (s.hi k-s.lo k)) (s.mv.set k true) l1 s.ft (a0+1)):=⟨HCY8.o.setR ht9 hr9⟩;have HT9:=hid ht9;have hlen2:(s.mv.set k true).length=s.mv.length:=List.length_set ..;obtain ⟨ml,hml2⟩:∃ ml,ml=s.mv.set k true:=⟨_,rfl⟩;have HML:=hid hml2;obtain ⟨Ux,hUx⟩:∃ Ux,Ux=VIy (fun i=>!s.is i) (s.lo k) (s.hi k-s.lo k):=⟨_,rfl⟩;have HUX:=hid hUx
     have HMF:Hid (MvF w9 w9 R y q z s Ux ml l1 (s.mvd+1) s.ft (a0+1)):=⟨by rw [hUx,hml2];exact HCY9.o,XF4.refl _ _,fun i hi=>by
      have h1:=s.ft_on hi
      rw [hml2,QXV HK.o.1,h1];split <;> rfl,by have h1:=HA0.o;have h2:=HFM.o;omega,by rw [hml2,hlen2];exact s.ft_le⟩
     rw [<-hml2] at hlen2;have hmlb:ml.length<=1048576:=by omega
     have HFT:=hid s.ft_le;have HL2:=hid hlen2;have hsm:s.mvd<=1048576:=by have:=HFM.o;omega
     have FIN:Hid (∀ (wr:World) (fc ac nq:Nat),MvF w9 wr R y q z s Ux ml l1 (s.mvd+1) fc ac->first (fun k=>!at_ ml k) ml.length=fc->ZrS w R S y q z s k v (.returned (.int .i64 0)) (wr.drewN nq)):=⟨fun wr fc ac nq hf hx=>by
      have hy:=HCY6.o.od.r1;have hbm:=HCY6.o.od.r2;have hst:=HO.o.st;have hlh:=hst.lohi HK.o.1;have tw:XF4 (fun i=>i=y\/i=z.bm) w6 (wr.drewN nq):=((((HT7.o.mono (fun b _ h=>.inr h)).trans (HT8.o.mono (fun b _ h=>.inl h))).trans (HT9.o.mono (fun b _ h=>.inl h))).trans (hf.t.mono (fun b _ h=>.inl h))).trans (((Gr.refl wr).drewN nq).touch _)
      have hRj:∀ b,b=y\/b=z.bm->¬ Sj b:=fun b hb h=>by
       rcases hb with rfl | rfl
       ·exact HRJ.o _ hy h
       ·exact HRJ.o _ hbm h
      have hwn:=HMK.o.ww;have hgr:=HGR.o;rw [HAF.o.1,HAF.o.2] at hgr;have hcp:=HC4.o;rw [HP.o.2.2.1] at hcp
      have hUe:∀ j,j<Qd4 s.L->VIy (fun i=>!s.is i) (s.lo k) (s.hi k-s.lo k) j=!(s.is j||s.inB k j):=fun j hj=>by
       have h1:=hst.inB (k:=k) hj;unfold VIy;cases hb:s.inB k j with
       | true=>
        obtain ⟨h2,h3⟩:=h1.1 hb;rw [decide_eq_true h2,decide_eq_true (by omega)];simp
       | false=>
        have h4:¬ (s.lo k<=j/\j<s.hi k):=fun h=>by rw [h1.2 h] at hb;cases hb
        by_cases h5:s.lo k<=j
        ·rw [decide_eq_false (show ¬ j<s.lo k+(s.hi k-s.lo k) by omega)];simp
        ·rw [decide_eq_false h5];simp
      have hmv:=YJW.of HO.o HK.o.1 HK.o.2.1 HK.o.2.2 hgr hcp (D:=fun j=>s.is j||(decide (s.lo k<=j)&&decide (j<s.lo k+(s.hi k-s.lo k)))) (fun j hj=>by
       have h1:=hst.inB (k:=k) hj;cases hb:s.inB k j with
       | true=>
        obtain ⟨h2,h3⟩:=h1.1 hb;rw [decide_eq_true h2,decide_eq_true (by omega)];rfl
       | false=>
        have h4:¬ (s.lo k<=j/\j<s.hi k):=fun h=>by rw [h1.2 h] at hb;cases hb
        by_cases h5:s.lo k<=j
        ·rw [decide_eq_false (show ¬ j<s.lo k+(s.hi k-s.lo k) by omega),Bool.and_false]
        ·rw [decide_eq_false h5,Bool.false_and]) hUe HDX.o
      refine ⟨rfl,?_,?_,vx,?_,hmv⟩
      ·exact HD.o.t.trans (tw.mono (fun b _ h=>by
        rcases h with rfl | rfl
        ·exact .inl hy
        ·exact .inl hbm))
      ·have h1:YNO (wr.drewN nq) R y q z s (fun i=>!({ s with mv:=s.mv.set k true }:Sl).is i) ml l1 fc ac:=(hf.cy.gr ((Gr.refl wr).drewN nq)).cu (fun j hj=>by rw [HUX.o,hUe j hj,Sl.is_put HK.o.1]);have e1:({ s with mv:=s.mv.set k true }:Sl).ft=fc:=by rw [<-hx,HML.o];rfl
       have e2:({ s with mv:=s.mv.set k true }:Sl).mvd=s.mvd+1:=HMV.o.2
       have e3:({ s with mv:=s.mv.set k true }:Sl).lf=l1:=by
        show (s.mv.set k true).length-({ s with mv:=s.mv.set k true }:Sl).mvd=l1
        rw [e2,List.length_set];have:=HMV.o.1;have:=HL1.o;omega
       have e4:s.mvd+1-fc=ac:=by have:=hf.sum;omega
       show YNO _ R y q z { s with mv:=s.mv.set k true } _ (s.mv.set k true) _ _ _
       rw [e1,e2,e3,e4];rw [HML.o] at h1;exact h1.same rfl rfl rfl rfl rfl
      ·refine (HVX.o.touch tw (fun b hb _ h=>hRj b h hb)).mono (fun b hb=>?_);rcases HSJ.o b hb with h | h
       ·rcases (HMK.o.s2 b h).1 with h | h
        ·exact .inl h.1
        ·exact .inr h
       ·right;omega⟩
     clear hw9 hr9 ht9 g7 gf gl hml2 hUx hlen2
     go_loopw [] (fun wr=>∃ fc ac:Nat,Hid (MvF w9 wr R y q z s Ux ml l1 (s.mvd+1) fc ac)) (fun wr=>ml.length-YNn wr y 12)
     case atStart=>exact ⟨s.ft,a0+1,HMF⟩
     case round=>
      obtain ⟨fc,ac,HF⟩:=hrel;clear HMF;have q4:=HF.o.cy.rc.cell (j:=10) rfl;have q6:=HF.o.cy.rc.cell (j:=12) rfl;have q7:=HF.o.cy.rc.cell (j:=13) rfl;have qf:=HF.o.cy.rc.free;have ql:=HF.o.cy.rc.lt;by_cases hlt:fc<ml.length
      ·have hfI:(fc:Int)<(ml.length:Int):=by omega
       have d0:decide ((fc:Int)<(ml.length:Int))=true:=decide_eq_true hfI;have n0:=ZBn HF.o.cy.mv (JOD hlt);have nl:=(Vvr HF.o.cy.mv rfl).2;have HLT:=hid hlt;clear hlt;by_cases hb:at_ ml fc=true
       ·rw [hb] at n0;have HB:=hid hb
        have hac:1<=ac:=by
         have h1:=Y37 (l:=ml) (m:=fc+1) HLT.o (fun j hj=>by
          rcases Nat.lt_or_ge j fc with h | h
          ·exact HF.o.on j h
          ·obtain rfl:j=fc:=by omega
           exact HB.o)
         have h2:cnt (at_ ml) ml.length=s.mvd+1:=by
          have:=HMV.o.2;rw [HML.o];exact this
         have h3:=HF.o.sum;omega
        have hsum:ac<=1048577:=by have:=HF.o.sum;omega
        obtain ⟨a1,rfl⟩:∃ a1,ac=a1+1:=⟨ac-1,by omega⟩;have ha1:((a1+1:Nat):Int)-1=(a1:Int):=by omega
        have hf1:(fc:Int)+1=((fc+1:Nat):Int):=by omega
        have HF1:=hid hf1;clear hb hf1 hac;go_upto_region 19 with (fail);go_quiet (fail);have HFn:=hid (HF.o.cy.gr ((Gr.refl wr).drewN nq));have HTn:Hid (XF4 (fun i=>i=y) w9 (wr.drewN nq)):=⟨HF.o.t.trans (((Gr.refl wr).drewN nq).touch _)⟩;obtain ⟨wq,hwq⟩:∃ wq,wq=wr.drewN nq:=⟨_,rfl⟩;rw [<-hwq] at HFn HTn ⊢;have g6:=HFn.o.rc.cell (j:=12) rfl;have gf:=HFn.o.rc.free;have gl:=HFn.o.rc.lt;clear hwq q4 q6 q7 qf ql n0 nl d0;go_upto_region 21 with (fail);obtain ⟨wp,hwp⟩:∃ wp,wp=wq.setCell ⟨y,12,none⟩ (.int .i64 ((fc:Int)+1)):=⟨_,rfl⟩;have tp:XF4 (fun i=>i=y) wq wp:=by rw [hwp];exact (XF4.refl (fun i=>i=y) wq).setCell (a:=⟨y,12,none⟩) (fun _=>rfl) _
        have hrp:=HFn.o.rc.set 12 (.int .i64 ((fc:Int)+1));rw [<-hwp] at hrp ⊢;rw [HF1.o] at hrp;have HFp:Hid (YNO wp R y q z s Ux ml l1 (fc+1) (a1+1)):=⟨HFn.o.setR tp hrp⟩;have HTp:=hid tp;have g7:=HFp.o.rc.cell (j:=13) rfl;have gf2:=HFp.o.rc.free;have gl2:=HFp.o.rc.lt;clear hwp tp hrp g6 gf gl;go_wp2;go_roundw
        case rel=>
         have tz:XF4 (fun i=>i=y) wp (wp.setCell ⟨y,13,none⟩ (.int .i64 a1)):=(XF4.refl (fun i=>i=y) wp).setCell (a:=⟨y,13,none⟩) (fun _=>rfl) _;have hro:=HFp.o.rc.set 13 (.int .i64 a1);refine ⟨fc+1,a1,⟨⟨HFp.o.setR tz hro,(HTn.o.trans HTp.o).trans tz,fun j hj=>?_,by have:=HF.o.sum;omega,HLT.o⟩⟩⟩;rcases Nat.lt_or_ge j fc with h | h
         ·exact HF.o.on j h
         ·obtain rfl:j=fc:=by omega
          exact HB.o
        case measure=>
         have c1:=HF.o.cy.rc.cell (j:=12) rfl;have c2:=(HFp.o.rc.set 13 (.int .i64 a1)).cell (j:=12) rfl;unfold YNn;rw [c1,c2];have:=HLT.o;simp [intOf];omega
       ·have hb':at_ ml fc=false:=by simpa using hb
        rw [hb'] at n0;have HB:=hid hb';have HX:Hid (first (fun k=>!at_ ml k) ml.length=fc):=⟨XFN HF.o.le (fun i hi=>by rw [HF.o.on i hi];rfl) (fun _=>by rw [HB.o];rfl)⟩;clear hb hb';go_wp2;go_quiet (fail);go_wp2;go_ret;exact FIN.o _ _ _ _ HF.o HX.o
      ·have hfI:¬ (fc:Int)<(ml.length:Int):=by omega
       have d0:decide ((fc:Int)<(ml.length:Int))=false:=decide_eq_false hfI;have d1:decide (fc<ml.length)=false:=decide_eq_false hlt;have HX:Hid (first (fun k=>!at_ ml k) ml.length=fc):=⟨XFN HF.o.le (fun i hi=>by rw [HF.o.on i hi];rfl) (fun h=>absurd h hlt)⟩;clear hlt hfI;go_wp2;go_quiet (fail);go_wp2;go_ret;exact FIN.o _ _ _ _ HF.o HX.o
end
end
end
section
section
open Go.RowKit Go.Shelf Word
section
variable {w:World} {R:Nat->Prop} {y q:Nat} {z:ZH1} {s:Sl} {U:Nat->Bool} {ml:List Bool} {lf ft ah:Nat}
theorem QXi (hC:YNO w R y q z s U ml lf ft ah):Calls Tryz.prog 70 #[.pointer (some ⟨y,0,none⟩)] w fun e w'=>e=.returned (.int .i64 ml.length)/\w=w':=by
 have c0:=hC.rc.cell (j:=10) rfl;have cl:=hC.rc.lt;clear hC;go_enter Tryz.func70,Tryz.ntmps70;go_wp2;go_ret;exact ⟨rfl,rfl⟩
theorem VWU (hC:YNO w R y q z s U ml lf ft ah):Calls Tryz.prog 69 #[.pointer (some ⟨y,0,none⟩)] w fun e w'=>e=.returned (.int .i64 lf)/\w=w':=by
 have c0:=hC.rc.cell (j:=11) rfl;have cl:=hC.rc.lt;clear hC;go_enter Tryz.func69,Tryz.ntmps69;go_wp2;go_ret;exact ⟨rfl,rfl⟩
theorem JiW (hC:YNO w R y q z s U ml lf ft ah):Calls Tryz.prog 150 #[.pointer (some ⟨y,0,none⟩)] w fun e w'=>e=.returned (.bool (decide (lf=0)))/\w=w':=by
 have HL:=hid (VWU hC);have hd:((lf:Int)==0)=decide (lf=0):=by by_cases h:lf=0 <;> simp [h]
 have HD:=hid hd;clear hC hd;go_enter Tryz.func150,Tryz.ntmps150;go_wp2_with (go_at_call 69;refine (HL.o).mono ?_;rintro e w1 ⟨rfl,rfl⟩);go_ret;exact ⟨by rw [<-HD.o];rfl,rfl⟩
theorem YCd (hC:YNO w R y q z s U ml lf ft ah):V4y Tryz.prog 130 #[.pointer (some ⟨y,0,none⟩)] w (.int .i64 ((s.cf.to:Int)+(Qd4 s.L:Nat))):=by
 obtain ⟨h1,h2,h3,f,c0,c1,hF⟩:=hC.plan;have x8:=hC.rc.cell (j:=8) rfl;have xl:=hC.rc.lt;have HFW:=hid (YY0 c0);have HTP:=hid (ZMu hF);clear hC hF h1 h2 h3 c0 c1;unfold V4y;go_enter Tryz.func130,Tryz.ntmps130
 go_wp2_with (first
  | (go_at_call 195;refine (HFW.o).mono ?_;rintro e w1 ⟨rfl,rfl⟩)
  | (go_at_call 141;refine (HTP.o).mono ?_;rintro e w2 ⟨rfl,hg2⟩;have HG2:=hid hg2;clear hg2))
 go_ret;exact ⟨rfl,HG2.o⟩
end
end
end
section
section
open Go.RowKit Go.Shelf Word
def ftL (l:List Bool):Nat:=first (fun k=>!at_ l k) l.length
def XRM (l:List Bool):Nat:=cnt (at_ l) l.length
def V65 (l:List Bool):List Bool:=if ftL l<l.length then l.set (ftL l) true else l
theorem Xb3 (l:List Bool):(V65 l).length=l.length:=by unfold V65;split <;> simp
theorem X6K {l:List Bool} {i:Nat} (h:i<ftL l):at_ l i=true:=by
 have:=ZGm (fun k=>!at_ l k) l.length i h;simpa using this
theorem Vhb {l:List Bool} (h:ftL l<l.length):ftL l<ftL (V65 l):=by
 unfold V65;rw [if_pos h];rcases Nat.lt_or_ge (ftL l) (ftL (l.set (ftL l) true)) with g | g
 ·exact g
 ·exfalso;have h1:(!at_ (l.set (ftL l) true) (ftL (l.set (ftL l) true)))=true:=JyT (fun k=>!at_ (l.set (ftL l) true) k) _ (show ftL (l.set (ftL l) true)<_ by rw [List.length_set];omega);rw [QXV h] at h1
  split at h1
  ·cases h1
  ·rename_i hne;rw [X6K (by omega)] at h1;cases h1
structure SlJ (A:Sl->Vm->Prop):Prop where
 need:∀ s v k,ZEw s v->A s v->k<s.mv.length->at_ s.mv k=false->(k=s.ft\/s.mvd-s.ft<s.cf.ah)->Jsl v ((s.cf.to+s.lo k:Nat):Int) ((s.cf.to+s.hi k:Nat):Int)=0
 step:∀ s v k v',ZEw s v->A s v->k<s.mv.length->at_ s.mv k=false->(k=s.ft\/s.mvd-s.ft<s.cf.ah)->YJW s k v v'->A { s with mv:=s.mv.set k true } v'
structure Q1M (w w':World) (R S:Nat->Prop) (y q:Nat) (z:ZH1) (A:Sl->Vm->Prop) (s':Sl) (v':Vm):Prop where
 t:XF4 (fun b=>R b\/S b) w w'
 cy:Cyc w' R y q z s'
 vm:QXZ w' (plus S w) q v'
 ok:ZEw s' v'
 j:A s' v'
def Sl.step (s:Sl):Sl:={ s with mv:=V65 s.mv }
theorem Sl.lf_zero (s:Sl):s.lf=0↔¬ s.ft<s.mv.length:=by
 have h1:=Y37 (l:=s.mv) (m:=s.ft) s.ft_le (fun i hi=>s.ft_on hi);have h2:s.mvd<=s.mv.length:=QMh _ _;have h3:s.mvd=cnt (at_ s.mv) s.mv.length:=rfl;constructor
 ·intro h hf;have h4:=s.ft_off hf;have h5:=Jso hf h4;have h6:cnt (at_ (s.mv.set s.ft true)) s.mv.length<=s.mv.length:=QMh _ _;unfold Sl.lf at h;omega
 ·intro h;have:=s.ft_le;unfold Sl.lf;omega
section
variable {w:World} {R S:Nat->Prop} {y q:Nat} {z:ZH1} {s:Sl} {v:Vm} {A:Sl->Vm->Prop}
def Ywd (w:World) (R S:Nat->Prop) (y q:Nat) (z:ZH1) (A:Sl->Vm->Prop) (s:Sl) (e:Ending) (w':World):Prop:=
 ∃ v',e=.returned (.tuple #[.bool (decide (s.ft<s.mv.length)),.int .i64 0])/\Q1M w w' R S y q z A s.step v'
set_option maxHeartbeats 1600000 in
theorem J5c (hJ:SlJ A) (hC:Cyc w R y q z s) (hO:ZEw s v) (hA:A s v) (hT:VRW w) (htS:¬ S 1) (htR:¬ R 1) (hV:QXZ w S q v) (hdis:∀ k,R k->¬ S k):
  Calls Tryz.prog 71 #[.pointer (some ⟨y,0,none⟩)] w (Ywd w R S y q z A s):=by
 have hlz:=s.lf_zero;have c5:=hC.rc.cell (j:=11) rfl;have c6:=hC.rc.cell (j:=12) rfl;have cl:=hC.rc.lt;by_cases hf:s.ft<s.mv.length
 ·have hk:=s.ft_off hf;have HM:=hid (ZS2 hC hO hT htS htR hV hdis hf hk (hJ.need s v s.ft hO hA hf hk (.inl rfl)))
  have HR:Hid (∀ w',ZrS w R S y q z s s.ft v (.returned (.int .i64 0)) w'->Ywd w R S y q z A s (.returned (.tuple #[.bool true,.int .i64 0])) w'):=⟨fun w' ⟨_,ht,hc,v',hv,hm⟩=>by
   have e:s.step={ s with mv:=s.mv.set s.ft true }:=by
    unfold Sl.step V65;rw [if_pos (show ftL s.mv<s.mv.length from hf)];rfl
   refine ⟨v',by rw [decide_eq_true hf],ht,?_,hv,?_,?_⟩
   ·rw [e];exact hc
   ·rw [e];exact hm.ok
   ·rw [e];exact hJ.step s v s.ft v' hO hA hf hk (.inl rfl) hm⟩
  have hl0:s.lf≠0:=fun h=>hlz.1 h hf;have d0:((s.lf:Int)==0)=false:=by simp;omega
  clear hC hO hA hT htS htR hV hdis hJ hlz hf hk hl0;go_enter Tryz.func71,Tryz.ntmps71;go_wp2_with (go_at_call 149;refine (HM.o).mono ?_;rintro e w1 ⟨rfl,hm⟩;have HMV:=hid hm;clear hm);go_ret2;exact HR.o _ ⟨rfl,HMV.o⟩
 ·have hl0:s.lf=0:=hlz.2 hf
  have HR:Hid (Ywd w R S y q z A s (.returned (.tuple #[.bool false,.int .i64 0])) w):=⟨by
   have e:s.step=s:=by
    unfold Sl.step V65;rw [if_neg (show ¬ ftL s.mv<s.mv.length from hf)]
   refine ⟨v,by rw [decide_eq_false hf],XF4.refl _ _,?_,hV.mono (fun _ h=>.inl h),?_,?_⟩
   ·rw [e];exact hC
   ·rw [e];exact hO
   ·rw [e];exact hA⟩
  have d0:((s.lf:Int)==0)=true:=by simp [hl0]
  clear hC hO hA hT htS htR hV hdis hJ hlz hf hl0;go_enter Tryz.func71,Tryz.ntmps71;go_wp2;go_ret2;exact HR.o
end
end
end
end Go.Proofs.YtmjoodkiiekjcaaGreatDoor
