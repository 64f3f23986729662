/- Part 10 of what ListNobody leans on: my own lemmas, merged by shake.py. -/
import Derived.Test.YteihjlcmjecmfaaGreatDoorListNobodyI
import Derived.Deep.CutBlock
import Derived.Deep.DeepCutAuto
namespace Go.Proofs.YteihjlcmjecmfaaGreatDoor
open _root_.Go.Proofs.Tryz
set_option maxHeartbeats 6400000
set_option maxRecDepth 100000
section
open Go.RowKit Word
end
section
open Go.RowKit Word
end
section
open Go.RowKit Word
def kl(p f k:Nat):List Int:=List.replicate p 1++List.replicate f 2++List.replicate k 3
end
section
open Go.RowKit Word
end
section
open Go.RowKit Word
structure JKh(M:Nat)(v:Vm):Prop where
 ok:ZAR v
 n:v.n=M
 al:∀a:Nat,a<M->v.ldE a=0
 m1:1<=M
section
variable {w:World} {A:Option Addr} {cp M:Nat} {v:Vm}
end
end
section
open Go.RowKit Word
def mpN(v:Vm):Nat->Vm
 | 0=>v
 | k+1=>(mpN v k).mp (k:Nat)
theorem ZqK{v:Vm}(h:ZAR v)(hu:v.pl.used=0)(hl:∀p,p<v.pt.length->v.pt.getD p 0=0)(hr:v.pt.length<=v.pl.rm){k:Nat}(hk:k<=v.pt.length):Ji4 v (mpN v k) (List.range k):=by
 induction k with
 | zero=>exact Ji4.refl h
 | succ k ih=>
  have ih:=ih Ω;have X:=ih.len h
  have hz:(mpN v k).pt.getD k 0=0:=by
   have:=ih.ma k Ω;by_cases h0:(mpN v k).pt.getD k 0=0
   ·exact h0
   ·rcases this.1 h0 with h1|h1
    ·exact absurd (hl k Ω) h1
    ·exact absurd (ζP.1 h1) (ζN _)
  have hE:(mpN v k).mpE (k:Nat)=0:=by
   unfold Vm.mpE;have h1:pgE (mpN v k).pt (k:Nat)=0:=by unfold pgE;rw[X];exact μ Ω
   have h2:=ih.us;rw[List.length_range,hu]at h2;rw[ϑ (λh=>h h1),τ,ϑ (λh=>h hz),ϑ];rw[ih.rm];omega
  rw[ψC];exact ih.mp h hE
def stN(v:Vm)(f:Nat->Nat):Nat->Vm
 | 0=>v
 | k+1=>(stN v f k).st (k:Nat) (f k)
structure J4R(v v':Vm)(f:Nat->Nat)(k:Nat):Prop where
 ok:ZAR v'
 sm:VqE v v'
 vl:∀a:Nat,a<k->v'.ldV a=f a
theorem VYd{v:Vm}(h:ZAR v)(hl:∀a:Nat,a<v.n->v.ldE a=0){f:Nat->Nat}(hf:∀a,f a<18446744073709551616){k:Nat}(hk:k<=v.n):J4R v (stN v f k) f k:=by
 induction k with
 | zero=>exact⟨h,VqE.refl v,λa ha=>absurd ha (ζV _)⟩
 | succ k ih=>
  have ih:=ih Ω;have hE:(stN v f k).ldE (k:Nat)=0:=by rw[ih.sm.ldE];exact hl k Ω
  refine⟨ih.ok.st _ (hf k),ih.sm.trans (VqE.st _ _ _),λa ha=>?_⟩
  show ((stN v f k).st (k:Nat) (f k)).ldV a=_
  rw[ih.ok.st_ldV _ hE];by_cases e:(k:Int)=a
  ·rw[μ e];obtain rfl:k=a:=Ω
   rfl
  ·rw[ϑ e];exact ih.vl a Ω
theorem Qrk{n:Nat}(h1:1<=n)(h2:n<=4096){f:Nat->Nat}(hf:∀a,f a<18446744073709551616):∃u:Vm,JKh n u/\∀a:Nat,a<n->u.ldV a=f a:=by
 have Y:ZAR (Vm.new n 1 n):=ZAR.new (by unfold Y4M;simp;omega) (by decide) h1 Ω (ψi n);have X:(Vm.new n 1 n).pt.length=n:=by show (List.replicate (n/1) 0).length=n;rw[ζC,Nat.div_one]
 have hm:=ZqK Y rfl (λp hp=>by show (List.replicate (n/1) 0).getD p 0=0;exact VBu _ _) (by rw[X];exact π _) (k:=n) (by rw[X];exact π _);have hn:(mpN (Vm.new n 1 n) n).n=n:=hm.n
 have hl:∀a:Nat,a<n->(mpN (Vm.new n 1 n) n).ldE a=0:=λa ha=>by
  rw[hm.ldE Y (show a<(Vm.new n 1 n).n from ha),μ];rw[ζP]
  show a/1<n
  rw[Nat.div_one];exact ha
 have hs:=VYd hm.ok (λa ha=>hl a (by rw[hn]at ha;exact ha)) hf (k:=n) (by rw[hn];exact π _);exact⟨_,⟨hs.ok,hs.sm.n.trans hn,λa ha=>by rw[hs.sm.ldE];exact hl a ha,h1⟩,hs.vl⟩
end
section
open Go.RowKit Word
theorem Jsc{v:Vm}{rs:List Int}{n:Nat}(hS:Xd6 v rs n){a:Int}(ha:Rch v rs a):
  ∃b p f k:Nat,a=b/\v.rdE a=0/\v.rdH a=⟨p,f,k⟩/\p+f+k<=255/\(b:Int)+(1+p+f+k)<=n/\0<b/\v.osz a=1+(p:Int)+f+k ∧
   ∀m:Nat,m<p->v.ldE (a+1+m)=0/\v.ldV (a+1+m)<=2147483647/\(v.ldV (a+1+m)≠0->Rch v rs (v.ldV (a+1+m):Nat)):=by
 have X:=hS.rd a ha;obtain⟨h0,-,p,f,k,hh,hs⟩:=J7F X;obtain⟨b,rfl⟩:∃b:Nat,a=b:=⟨a.toNat,by omega⟩;have ho:v.osz b=1+(p:Int)+f+k:=by unfold Vm.osz;rw[hh];exact μ (JJj hs)
 have hin:=hS.rm b ha;refine⟨b,p,f,k,rfl,X,hh,hs,by omega,by omega,ho,λm hm=>?_⟩;have Y:(m:Int)<(v.rdH b).p:=by rw[hh];show (m:Int)<(p:Int);omega
 have Z:=hS.pt b ha m Y;have he:=ZbX Z;refine⟨he.2.2.1,he.2.1,λh0=>?_⟩;exact ha.step ⟨X,m,Y,Z,by rw[he.1];exact h0,by rw[he.1]⟩
section
variable {w:World} {A0 A:Option Addr} {cp cr M:Nat} {v:Vm} {rs:List Int} {L:List Ob}
end
end
section
open Go.RowKit Word
def pkW(v:Vm)(L:List Ob)(fr a m:Nat):Nat:=if (1<=m/\(m:Int)<=(v.rdH a).p)/\v.ldV ((a:Int)+m)≠0 then (toV L fr (v.ldV ((a:Int)+m):Nat)).toNat else v.ldV ((a:Int)+m)
def QRw(v:Vm)(L:List Ob)(fr:Nat):List Ob->List Nat
 | []=>[]
 | o :: r=>(List.range o.2).map (pkW v L fr o.1)++QRw v L fr r
theorem Ywe(v:Vm)(L:List Ob)(fr:Nat)(P:List Ob){j m:Nat}(hj:j<P.length)(hm:m<P[j].2):(QRw v L fr P).getD (sizes (P.take j)+m) 0=pkW v L fr P[j].1 m:=by
 induction P generalizing j with
 | nil=>simp at hj
 | cons o r ih=>
  cases j with
  | zero=>
   have hm:m<o.2:=hm;simp only[List.take_zero,sizes,ξN,QRw,ψy];rw[φ,ζB (by simpa using hm),ξZ,ξ4 hm];rfl
  | succ j=>
   have X:j<r.length:=by simpa using hj
   have:=ih X (by simpa using hm);simp only[ξQ,sizes,QRw,ψz];rw[<-this,φ,ζQ (by simp;omega),φ];congr 2;simp;omega
theorem YnY{n:Nat}{L:List Ob}(hg:Q4l n L){fr:Nat}(hf:∀o∈L,fr<=o.1){j:Nat}(hj:j<L.length):fr+sizes (L.take j)<=L[j].1:=by
 induction j with
 | zero=>simpa[sizes]using hf _ (χ hj)
 | succ j ih=>
  have h1:=ih Ω;have h2:=hg.at Ω hj (ξr j);have h3:=Qsm (L:=L) (j:=j) Ω;omega
theorem Jc5{v v':Vm}{a:Int}(h1:v'.ldE a=v.ldE a)(h2:v'.ldV a=v.ldV a):v'.rdE a=v.rdE a/\v'.rdH a=v.rdH a:=by
 unfold Vm.rdE Vm.rdH;rw[h1,h2];exact⟨rfl,rfl⟩
structure Pkd(v v':Vm)(L:List Ob)(fr k:Nat):Prop where
 ok:ZAR v'
 sm:VqE v v'
 o:∀b:Nat,(b<fr\/fr+k<=b)->v'.ldV b=v.ldV b
 row:∀i,i<k->v'.ldV ((fr+i:Nat):Int)=(QRw v L fr L).getD i 0
theorem Pkd.zero{v:Vm}(h:ZAR v)(L:List Ob)(fr:Nat):Pkd v v L fr 0:=⟨h,VqE.refl v,λ_ _=>rfl,λ_ h=>absurd h (ζV _)⟩
theorem Pkd.step{v v':Vm}{L:List Ob}{fr k:Nat}(h:Pkd v v' L fr k)(hl:v.ldE ((fr+k:Nat):Int)=0){x:Nat}(hx:x=(QRw v L fr L).getD k 0)(hx2:x<18446744073709551616):Pkd v (v'.st ((fr+k:Nat):Int) x) L fr (k+1):=by
 have Y:v'.ldE ((fr+k:Nat):Int)=0:=by rw[h.sm.ldE];exact hl
 have X:=h.ok.st_ldV x Y;refine⟨h.ok.st _ hx2,h.sm.trans (VqE.st _ _ _),λb hb=>?_,λi hi=>?_⟩
 ·rw[X,ϑ Ω];exact h.o b Ω
 ·rw[X];by_cases e:i=k
  ·rw[μ Ω,e,hx]
  ·rw[ϑ Ω];exact h.row i Ω
structure VGV(v:Vm)(rs:List Int)(L:List Ob)(fr tp:Nat):Prop where
 ok:ZAR v
 mks:Zx6 v rs v.n L
 inn:∀o∈L,fr<=o.1/\o.1+o.2<=tp
 fr1:1<=fr
 tpn:tp<=v.n
 lds:∀a:Nat,fr<=a->a<fr+sizes L->v.ldE a=0
section
variable {v v':Vm} {rs:List Int} {L:List Ob} {fr tp:Nat}
theorem VGV.le(c:VGV v rs L fr tp){j:Nat}(hj:j<L.length):fr+sizes (L.take j)<=L[j].1:=YnY c.mks.mkd.good (λo ho=>(c.inn o ho).1) hj
theorem VGV.sz(_c:VGV v rs L fr tp){j:Nat}(hj:j<L.length):sizes (L.take (j+1))=sizes (L.take j)+L[j].2/\sizes (L.take j)+L[j].2<=sizes L:=by
 exact⟨Qsm hj,VfC hj⟩
theorem Pkd.src(c:VGV v rs L fr tp){j m:Nat}(hj:j<L.length)(h:Pkd v v' L fr (sizes (L.take j)+m)):v'.ldV ((L[j].1+m:Nat):Int)=v.ldV ((L[j].1+m:Nat):Int)/\v'.ldE ((L[j].1+m:Nat):Int)=v.ldE ((L[j].1+m:Nat):Int):=by
 have:=c.le hj;exact⟨h.o _ Ω,h.sm.ldE _⟩
theorem Pkd.hdr(c:VGV v rs L fr tp){j:Nat}(hj:j<L.length)(h:Pkd v v' L fr (sizes (L.take j))):v'.rdE (L[j].1:Nat)=0/\v'.rdH (L[j].1:Nat)=v.rdH (L[j].1:Nat):=by
 obtain⟨h1,h2⟩:=Pkd.src (m:=0) c hj h;obtain⟨e1,e2⟩:=Jc5 h2 h1;exact⟨e1.trans (c.mks.mkd.ats _ (χ hj)).2.1,e2⟩
theorem VGV.hd(c:VGV v rs L fr tp){j:Nat}(hj:j<L.length):∃p f k:Nat,v.rdH (L[j].1:Nat)=⟨p,f,k⟩/\p+f+k<=255/\L[j].2=1+p+f+k:=by
 obtain⟨h1,h2,h3⟩:=c.mks.mkd.ats _ (χ hj);obtain⟨b,p,f,k,he,-,hh,hs,-,-,hz,-⟩:=Jsc c.mks.sound h1;exact⟨p,f,k,hh,hs,by omega⟩
theorem Q8p(c:VGV v rs L fr tp){a:Int}(ha:Hs L a):∃j,∃hj:j<L.length,(L[j].1:Int)=a/\toV L fr a=((fr+sizes (L.take j):Nat):Int):=by
 obtain⟨o,ho,he⟩:=ha;obtain⟨j,hj,rfl⟩:=ζt ho;refine⟨j,hj,he,?_⟩;have h1:=(c.mks.mkd.good.sz _ (χ hj)).1;have:=(YXt c.mks.mkd.good (base:=fr) hj (a:=a) Ω Ω).1;rw[this];omega
theorem Vco(c:VGV v rs L fr tp):toV L fr 0=0:=by
 have h:¬ZH8 L 0<L.length:=λh=>by
  have h1:=JBb h;have h2:=(c.inn _ (χ h)).1;have:=c.fr1;omega
 exact(YPG h).1
theorem VGV.ptr(c:VGV v rs L fr tp){j m:Nat}(hj:j<L.length)(h1:1<=m)(h2:(m:Int)<=(v.rdH (L[j].1:Nat)).p):v.ldV ((L[j].1+m:Nat):Int)<=2147483647/\(v.ldV ((L[j].1+m:Nat):Int)≠0->Hs L (v.ldV ((L[j].1+m:Nat):Int):Nat)):=by
 obtain⟨hr,-,-⟩:=c.mks.mkd.ats _ (χ hj);obtain⟨b,p,f,k,he,-,hh,hs,-,-,hz,hp⟩:=Jsc c.mks.sound hr;rw[hh]at h2;have:=hp (m-1) (by have:(m:Int)<=(p:Int):=h2;omega);rw[show ((L[j].1:Nat):Int)+1+((m-1:Nat):Int)=((L[j].1+m:Nat):Int)by omega]at this;exact⟨this.2.1,λh0=>c.mks.all _ (this.2.2 h0)⟩
theorem YfZ(v:Vm)(L:List Ob)(fr a m:Nat){x:Nat}(hx:v.ldV ((a+m:Nat):Int)=x):pkW v L fr a m=if (1<=m/\(m:Int)<=(v.rdH a).p)/\x≠0 then (toV L fr (x:Nat)).toNat else x:=by
 unfold pkW;rw[show (a:Int)+(m:Int)=((a+m:Nat):Int)by omega,hx]
theorem VGV.pkW_lt(c:VGV v rs L fr tp){j m:Nat}(hj:j<L.length):pkW v L fr L[j].1 m<18446744073709551616:=by
 rw[YfZ v L fr _ m rfl];have hx:=c.ok.ldV_lt ((L[j].1+m:Nat):Int)
 split
 ·rename_i h;obtain⟨i,hi,-,e⟩:=Q8p c ((c.ptr hj h.1.1 h.1.2).2 h.2);rw[e,τ];have:=(c.sz hi).2;have:=XY5 c.mks.mkd.good;have:=c.ok.n2;have:=c.tpn;have:=c.le hi;have:=c.inn _ (χ hi);omega
 ·exact hx
end
end
section
open Go.RowKit Word
section
variable {w:World} {S:Nat->Prop} {q F f n B:Nat} {v v':Vm} {rs:List Int} {L:List Ob} {fr tp j:Nat}
def Qp6(w:World)(S:Nat->Prop)(q:Nat)(v:Vm)(L:List Ob)(fr k:Nat)(e:Ending)(w':World):Prop:=
 e=.returned (.tuple #[])/\XF4 (ZOk S w) w w'/\∃v'',QXZ w' (ZOk S w) q v''/\Pkd v v'' L fr k
theorem VgZ{p f k:Nat}{i:Int}(h:¬(0<=i/\i<p)):Yoq ⟨p,f,k⟩ i≠1:=by
 unfold Yoq
 split
 ·rename_i h0;rw[ϑ (by show ¬i<(p:Int);omega)]
  split <;> decide
 ·decide
theorem Q2p(hV:QXZ w S q v')(hF:∀W,XF4 (ZOk S w) w W->Fwd W F f n B fr L)(c:VGV v rs L fr tp)(hj:j<L.length)(hp:Pkd v v' L fr (sizes (L.take j))):
  Calls prog 133 #[.pointer (some ⟨q,0,none⟩),.pointer (some ⟨f,0,none⟩),.int .i64 (L[j].1:Nat),.int .i64 (L[j].2:Nat)] w (Qp6 w S q v L fr (sizes (L.take j)+L[j].2)):=by
 obtain⟨p,ff,k,hh,hs,hz⟩:=c.hd hj;have Yn:=c.le hj;have Ye:=(c.inn _ (χ hj)).2;have htpn:=c.tpn;have hn2:=c.ok.n2;have Xj:=hp.hdr c hj;rw[hh]at Xj;obtain⟨A,hA⟩:∃A,A=L[j].1:=⟨_,rfl⟩;obtain⟨Z,hZ⟩:∃Z,Z=L[j].2:=⟨_,rfl⟩;obtain⟨K,hK⟩:∃K,K=sizes (L.take j):=⟨_,rfl⟩
 have Yw:Hid (toV L fr (A:Nat)=((fr+K:Nat):Int)):=⟨by
  rw[hA,hK];have h1:=(c.mks.mkd.good.sz _ (χ hj)).1;have:=(YXt c.mks.mkd.good (base:=fr) hj (a:=((L[j].1:Nat):Int)) Ω Ω).1;rw[this];push_cast
  omega⟩
 have HV:=hid hV.cut;have HF:=hid hF;have HC:=hid c;have HJ:=hid hj;have Xb:=hid (ν hA (ν hZ hK));have HP:=hid hp;have HH:Hid (v.rdH (A:Nat)=⟨p,ff,k⟩):=⟨by rw[hA];exact hh⟩;have Xg:=hid (λ(W:World) (g:Gr w W)=>ZkF (HV.o.gr g) (A:Int));rw[<-hA]at Xj;rw[Xj.1,Xj.2]at Xg;have Xr:=hid (λ(W:World) (t:XF4 (ZOk S w) w W)=>Vcy (hF W t) (A:Int));rw[Yw.o]at Xr;obtain⟨te,Yo⟩:∃te,te=toE L (A:Int):=⟨_,rfl⟩;rw[<-Yo]at Xr;have Xq:=hid (λ(W:World) (i:Int)=>VNI hs i W);have Xl:=hid (λW=>Rec.new W 63 [.int .i64 p,.int .i64 ff,.int .i64 k]);simp only[List.toArray]at Xl;unfold X79 at Xg Xq;unfold spV at Xg;have Yz:Hid (∀m,m<Z->(QRw v L fr L).getD (K+m) 0=pkW v L fr A m):=⟨λm hm=>by rw[hK,hA];exact Ywe v L fr L hj (by rw[<-hZ];exact hm)⟩;rw[<-hA]at Yn Ye;rw[<-hZ]at Ye hz;rw[<-hK]at Yn HP;rw[<-hA,<-hZ,<-hK];clear hV hF c hp hh hA hZ hK Xj Yo hz;go_enter func133,ntmps133;go_upto_region 1 with(go_at_call 69;refine(Xg.o _ (Gr.refl w)).mono ?_;rintro e w1 ⟨rfl,Yi⟩;have Xx:=hid Yi;clear Yi);obtain⟨w2,Yc⟩:∃w2,w2=w1.alloc (.cells #[.int .i64 p,.int .i64 ff,.int .i64 k] 63):=⟨_,rfl⟩;have R2:=Xl.o w1;obtain⟨hq,Ym⟩:∃hq,hq=w1.heap.size:=⟨_,rfl⟩;have Xv:Hid (¬ZOk S w hq):=⟨λh=>by have:=h.2;have:=Xx.o.size;omega⟩;have Yp:Gr w w2:=by rw[Yc];exact Xx.o.alloc _
 rw[<-Ym]at R2⊢;rw[<-Yc]at R2⊢;have Yt:=hid R2;have Xy:=hid Yp;clear Yc Ym Xx R2 Yp Xl Xg;go_upto_region 2 with(go_at_call 135;refine(Xr.o _ (Xy.o.touch _)).mono ?_;rintro e w3 ⟨rfl,Xz⟩;have Yj:=hid (Yt.o.gr Xz);have Yb:=hid (Xy.o.trans Xz);clear Xz);have Yf:=hid (HV.o.gr Yb.o);have Yk:Hid (XF4 (ZOk S w) w w3):=⟨Yb.o.touch _⟩;clear Xy Yt Xr Yb;go_wp2_with(fail)
 go_loopw [31] (λs31 wr=>∃(i:Nat) (vx:Vm),i<=Z/\Hid (QXZ wr (ZOk S w) q vx/\Pkd v vx L fr (K+i))/\Hid (XF4 (ZOk S w) w wr)/\Hid (Rec wr hq 63 [.int .i64 p,.int .i64 ff,.int .i64 k])/\s31=.int .i64 i) (λs31 _=>Z-(intOf s31).toNat)
 case atStart=>exact⟨0,v',ζh _,⟨⟨Yf.o,HP.o⟩⟩,Yk,Yj,rfl⟩
 case round=>
  obtain⟨i,vx,hi,N,Xk,Y,rfl⟩:=hrel;clear Yf Yk Yj;by_cases Yd:i<Z
  ·have hiI:(i:Int)<(Z:Int):=Ω
   have Xd:=hid Yd;have Yq:(A:Int)+(i:Int)=((A+i:Nat):Int):=by push_cast;rfl
   have Yg:((fr+K:Nat):Int)+(i:Int)=((fr+(K+i):Nat):Int):=by push_cast;omega
   have Xe:=Pkd.src (m:=i) HC.o HJ.o (by rw[<-Xb.o.2.2];exact N.o.2);rw[<-Xb.o.1]at Xe;have Xc:=hid (VW8 N.o.1 ((A+i:Nat):Int));rw[Xe.1,Xe.2]at Xc;obtain⟨el,Yl⟩:∃el,el=v.ldE ((A+i:Nat):Int):=⟨_,rfl⟩;rw[<-Yl]at Xc;have Yv:Hid (v.ldV ((A+i:Nat):Int)<18446744073709551616):=⟨HC.o.ok.ldV_lt _⟩;have Xw:Hid (pkW v L fr A i<18446744073709551616):=⟨by rw[Xb.o.1];exact HC.o.pkW_lt HJ.o⟩
   have Yr:Hid (1<=i->i<=p->v.ldV ((A+i:Nat):Int)<=2147483647/\(v.ldV ((A+i:Nat):Int)≠0->Hs L (v.ldV ((A+i:Nat):Int):Nat))):=⟨λh1 h2=>by
    rw[Xb.o.1]
    exact HC.o.ptr HJ.o h1 (by rw[<-Xb.o.1,HH.o];show (i:Int)<=(p:Int);omega)⟩
   have Ya:Hid (∀(W:World),XF4 (ZOk S w) wr W->QXZ W (ZOk S w) q vx->∀y:Nat,y=pkW v L fr A i->Calls prog 177 #[.pointer (some ⟨q,0,none⟩),.int .i64 (((fr+K:Nat):Int)+(i:Int)),.int .u64 y] W λe w'=>∃er,e=.returned (.int .i64 er)/\XF4 (ZOk S w) W w'/\∃v'',QXZ w' (ZOk S w) q v''/\Pkd v v'' L fr (K+(i+1))):=⟨λW t hW y hy=>by
    rw[Yg];refine(Qpx hW _ (x:=y) (by rw[hy];exact Xw.o)).mono ?_;rintro e w' ⟨rfl,ht,hv⟩;refine⟨_,rfl,ht,_,hv,?_⟩
    have:=N.o.2.step (HC.o.lds _ Ω (by
     have h1:=(HC.o.sz HJ.o).2;rw[<-Xb.o.2.1,<-Xb.o.2.2]at h1
     omega)) (x:=y) (by rw[hy];exact(Yz.o i Xd.o).symm) (by rw[hy];exact Xw.o)
    exact this⟩
   have Xs:Hid (∀(W:World) (a:Int),XF4 (ZOk S w) wr W->Hs L a->∃y:Nat,toV L fr a=(y:Int)/\Calls prog 135 #[.pointer (some ⟨f,0,none⟩),.int .i64 a] W λe w'=>∃er,e=.returned (.tuple #[.int .i64 y,.int .i64 er])/\Gr W w'):=⟨λW a t ha=>by
    obtain⟨j',hj',-,e⟩:=Q8p HC.o ha;refine⟨fr+sizes (L.take j'),e,?_⟩;have:=Vcy (HF.o W (Xk.o.trans t)) a;rw[e]at this;refine this.mono ?_;rintro e w' ⟨rfl,hg⟩
    exact⟨_,rfl,hg⟩⟩
   have Xm:Hid (pkW v L fr A i=if (1<=i/\(i:Int)<=(p:Int))/\v.ldV ((A+i:Nat):Int)≠0 then (toV L fr (v.ldV ((A+i:Nat):Int):Nat)).toNat else v.ldV ((A+i:Nat):Int)):=⟨by rw[YfZ v L fr A i rfl,HH.o]⟩;obtain⟨x,hx⟩:∃x,x=v.ldV ((A+i:Nat):Int):=⟨_,rfl⟩;rw[<-hx]at Xc Yv Yr Xm;rw[<-Yq]at Xc;clear Yq Yg Xe hx Yd Yl;have Yx:(i:Int)-1=((i:Int)-1):=rfl;clear Yx;have hib:(i:Int)<=524288:=Ω
   by_cases I:1<=i/\i<=p
   ·have Xo:Hid (Yoq ⟨p,ff,k⟩ ((i:Int)-1)=1):=⟨VaX Ω (by show (i:Int)-1<(p:Int);omega) (by show (p:Int)<Z3o ⟨p,ff,k⟩;rw[show Z3o ⟨p,ff,k⟩=1+(p:Int)+ff+k from μ (JJj hs)];omega)⟩;obtain⟨Xt,Xp⟩:=Yr.o I.1 I.2;by_cases Xf:x=0
    ·subst Xf;have HY:Hid (0=pkW v L fr A i):=⟨by rw[Xm.o,ϑ (λh=>h.2 rfl)]⟩;clear I Xt Xp
     go_wp2_with(first
      | (go_at_call 176;refine Xc.o.mono ?_;rintro e w4 ⟨rfl,X⟩;have y0:=(Y.o.gr X).cell (j:=0) rfl;have y1:=(Y.o.gr X).cell (j:=1) rfl;have y2:=(Y.o.gr X).cell (j:=2) rfl;have yl:=(Y.o.gr X).lt;have Xh:=hid X;clear X)
      | (go_at_call 109;refine(Xq.o _ _).mono ?_;rintro e w5 ⟨rfl,O⟩;rw[Xo.o];have J:=hid (Xh.o.trans O);clear O)
      | (go_at_call 177;refine(Ya.o _ ((J.o).touch _) (N.o.1.gr (J.o)) 0 HY.o).mono ?_;rintro e w7 ⟨er,rfl,G,v7,V,Xa⟩;have E:=hid G;have Xi:=hid (ν V Xa);clear G V Xa))
     go_round
     case rel=>exact⟨i+1,v7,Xd.o,Xi,⟨(Xk.o.trans ((J.o).touch _)).trans E.o⟩,⟨(Y.o.gr (J.o)).touch E.o Xv.o⟩,by go_num⟩
     case measure=>have:=Xd.o;simp[intOf];omega
    ·obtain⟨y,hy,-⟩:=Xs.o wr (x:Int) (XF4.refl _ _) (Xp Xf);have HY:Hid (y=pkW v L fr A i):=⟨by rw[Xm.o,μ ⟨⟨I.1,by omega⟩,Xf⟩,hy];rfl⟩
     have Yy:Hid (∀(W:World),XF4 (ZOk S w) wr W->Calls prog 135 #[.pointer (some ⟨f,0,none⟩),.int .i64 (x:Nat)] W λe w'=>∃er,e=.returned (.tuple #[.int .i64 y,.int .i64 er])/\Gr W w'):=⟨λW t=>by
      obtain⟨y',Za,h⟩:=Xs.o W (x:Int) t (Xp Xf);rw[hy]at Za;obtain rfl:y=y':=Ω
      exact h⟩
     have Yu:Hid (y<18446744073709551616):=⟨by rw[HY.o];exact Xw.o⟩;have hwy:IntKind.u64.wrap (y:Int)=(y:Int):=by have:=Yu.o;rw[ξF];omega
     have hwx:IntKind.i64.wrap (x:Int)=(x:Int):=ζA _ Ω;have d2:((x:Int) !=0)=true:=by simp;exact Xf
     clear I Xt Xp Xf hy
     go_wp2_with(first
      | (go_at_call 176;refine Xc.o.mono ?_;rintro e w4 ⟨rfl,X⟩;have y0:=(Y.o.gr X).cell (j:=0) rfl;have y1:=(Y.o.gr X).cell (j:=1) rfl;have y2:=(Y.o.gr X).cell (j:=2) rfl;have yl:=(Y.o.gr X).lt;have Xh:=hid X;clear X)
      | (go_at_call 109;refine(Xq.o _ _).mono ?_;rintro e w5 ⟨rfl,O⟩;rw[Xo.o];have J:=hid (Xh.o.trans O);clear O)
      | (go_at_call 135;refine(Yy.o _ (J.o.touch _)).mono ?_;rintro e w6 ⟨er6,rfl,Ys⟩;have Xn:=hid (J.o.trans Ys);clear Ys)
      | (go_at_call 177;refine(Ya.o _ ((Xn.o).touch _) (N.o.1.gr (Xn.o)) y HY.o).mono ?_;rintro e w7 ⟨er,rfl,G,v7,V,Xa⟩;have E:=hid G;have Xi:=hid (ν V Xa);clear G V Xa))
     go_round
     case rel=>exact⟨i+1,v7,Xd.o,Xi,⟨(Xk.o.trans ((Xn.o).touch _)).trans E.o⟩,⟨(Y.o.gr (Xn.o)).touch E.o Xv.o⟩,by go_num⟩
     case measure=>have:=Xd.o;simp[intOf];omega
   ·obtain⟨kd,Xu⟩:∃kd,kd=Yoq ⟨p,ff,k⟩ ((i:Int)-1):=⟨_,rfl⟩;have Xo:Hid (Yoq ⟨p,ff,k⟩ ((i:Int)-1)=kd):=⟨Xu.symm⟩;have Yh:kd≠1:=by rw[Xu];exact VgZ (λh=>I ⟨by omega,by omega⟩)
    have d1:(kd==1)=false:=by simpa using Yh
    have HY:Hid (x=pkW v L fr A i):=⟨by rw[Xm.o,ϑ (λh=>I ⟨h.1.1,by have:=h.1.2;omega⟩)]⟩;clear I Xu Yh
    go_wp2_with(first
     | (go_at_call 176;refine Xc.o.mono ?_;rintro e w4 ⟨rfl,X⟩;have y0:=(Y.o.gr X).cell (j:=0) rfl;have y1:=(Y.o.gr X).cell (j:=1) rfl;have y2:=(Y.o.gr X).cell (j:=2) rfl;have yl:=(Y.o.gr X).lt;have Xh:=hid X;clear X)
     | (go_at_call 109;refine(Xq.o _ _).mono ?_;rintro e w5 ⟨rfl,O⟩;rw[Xo.o];have J:=hid (Xh.o.trans O);clear O)
     | (go_at_call 177;refine(Ya.o _ ((J.o).touch _) (N.o.1.gr (J.o)) x HY.o).mono ?_;rintro e w7 ⟨er,rfl,G,v7,V,Xa⟩;have E:=hid G;have Xi:=hid (ν V Xa);clear G V Xa))
    go_round
    case rel=>exact⟨i+1,v7,Xd.o,Xi,⟨(Xk.o.trans ((J.o).touch _)).trans E.o⟩,⟨(Y.o.gr (J.o)).touch E.o Xv.o⟩,by go_num⟩
    case measure=>have:=Xd.o;simp[intOf];omega
  ·obtain rfl:i=Z:=Ω
   clear Yd;go_wp2;refine ζF (ζr rfl _ _ _) rfl ?_;exact⟨rfl,Xk.o,vx,N.o.1,N.o.2⟩
end
end
section
open Go.RowKit Word
def JKs(n fr tp room:Int):Bool:=decide (1<=fr)&&decide (fr<=tp)&&decide (tp<=n)&&decide (1<=room)&&decide (room<=4096)
theorem YMk{n fr tp room:Int}:JKs n fr tp room=true↔1<=fr/\fr<=tp/\tp<=n/\1<=room/\room<=4096:=by
 unfold JKs;simp[ζd,ζe,and_assoc]
theorem ZsY{n fr tp room:Int}(h:¬(1<=fr/\fr<=tp/\tp<=n/\1<=room/\room<=4096)):JKs n fr tp room=false:=by
 cases hb:JKs n fr tp room with
 | false=>rfl
 | true=>exact absurd (YMk.1 hb) h
section
variable {w:World} {S:Nat->Prop} {q r g:Nat} {v:Vm} {rs:List Int}
theorem JGL(hV:QXZ w S q v)(hn:v.n≠0)(hR:V5d w r g rs)(fr tp room:Int):Calls prog 128 #[.pointer (some ⟨q,0,none⟩),.pointer (some ⟨r,0,none⟩),.int .i64 fr,.int .i64 tp,.int .i64 room] w λe w'=>e=.returned (.int .i64 (if JKs v.n fr tp room then 0 else 5))/\w=w':=by
 have HV:=hid hV;have X:=hid (Xwn hV);have Z:=hid (YeU hR);have Y:rs.length≠0:=λe=>hR.ne (ζv e);obtain⟨l,hl⟩:∃l,l=rs.length:=⟨_,rfl⟩;obtain⟨n,J⟩:∃n,n=v.n:=⟨_,rfl⟩;rw[<-hl]at Z Y;rw[<-J]at X hn⊢;have d0:((n:Int)==0)=false:=by simp;exact hn
 have d9:((l:Int)==0)=false:=by simp;exact Y
 obtain⟨z,hz⟩:∃z:Int,z=if JKs n fr tp room then 0 else 5:=⟨_,rfl⟩
 rw[<-hz];have HZ:=hid hz;clear hV hR hl J hn Y hz;go_enter func128,ntmps128
 go_upto_region 3 with(first
  | (go_at_call 52;refine X.o.mono ?_;rintro e w1 ⟨rfl,rfl⟩)
  | (go_at_call 152;refine Z.o.mono ?_;rintro e w1 ⟨rfl,rfl⟩))
 clear d0 d9;by_cases h1:fr<1
 ·have e1:decide (fr<1)=true:=κ h1;have HE:=hid (ZsY (n:=n) (fr:=fr) (tp:=tp) (room:=room) Ω);go_wp2;go_ret;exact⟨ZzN (by rw[HZ.o,HE.o];rfl),rfl⟩
 ·have e1:decide (fr<1)=false:=ψ h1;by_cases h2:tp<fr
  ·have e2:decide (tp<fr)=true:=κ h2;have HE:=hid (ZsY (n:=n) (fr:=fr) (tp:=tp) (room:=room) Ω);go_wp2;go_ret;exact⟨ZzN (by rw[HZ.o,HE.o];rfl),rfl⟩
  ·have e2:decide (tp<fr)=false:=ψ h2;by_cases h3:(n:Int)<tp
   ·have e3:decide ((n:Int)<tp)=true:=κ h3;have HE:=hid (ZsY (n:=n) (fr:=fr) (tp:=tp) (room:=room) Ω);go_wp2_with(go_at_call 52;refine X.o.mono ?_;rintro e w1 ⟨rfl,rfl⟩);go_ret;exact⟨ZzN (by rw[HZ.o,HE.o];rfl),rfl⟩
   ·have e3:decide ((n:Int)<tp)=false:=ψ h3;by_cases h4:room<1
    ·have e4:decide (room<1)=true:=κ h4;have HE:=hid (ZsY (n:=n) (fr:=fr) (tp:=tp) (room:=room) Ω);go_wp2_with(go_at_call 52;refine X.o.mono ?_;rintro e w1 ⟨rfl,rfl⟩);go_ret;exact⟨ZzN (by rw[HZ.o,HE.o];rfl),rfl⟩
    ·have e4:decide (room<1)=false:=ψ h4;by_cases h5:4096<room
     ·have e5:decide (4096<room)=true:=κ h5;have HE:=hid (ZsY (n:=n) (fr:=fr) (tp:=tp) (room:=room) Ω);go_wp2_with(go_at_call 52;refine X.o.mono ?_;rintro e w1 ⟨rfl,rfl⟩);go_ret;exact⟨ZzN (by rw[HZ.o,HE.o];rfl),rfl⟩
     ·have e5:decide (4096<room)=false:=ψ h5;have HE:=hid ((YMk (n:=n) (fr:=fr) (tp:=tp) (room:=room)).2 Ω);go_wp2_with(go_at_call 52;refine X.o.mono ?_;rintro e w1 ⟨rfl,rfl⟩);go_ret;exact⟨ZzN (by rw[HZ.o,HE.o];rfl),rfl⟩
end
end
section
open Go.RowKit Word
theorem YsB(o:Ob)(f t:Int):0<=Jc4 o f t:=by unfold Jc4;omega
theorem Vzk(L:List Ob)(f t:Int):0<=VeJ L f t:=by
 induction L with
 | nil=>exact ξU _
 | cons o r ih=>have:=YsB o f t;show 0<=Jc4 o f t+VeJ r f t;omega
theorem JQq{L:List Ob}{n tp:Nat}(hg:∀o∈L,1<=o.2/\o.1+o.2<=n):VeJ L tp n=0↔∀o∈L,o.1+o.2<=tp:=by
 induction L with
 | nil=>exact⟨(λ_ _ h=>by cases h),λ_=>rfl⟩
 | cons o r ih=>
  have h1:=YsB o tp n;have h2:=Vzk r tp n;have h3:=hg o (ζg ..);have ih:=ih (λq hq=>hg q (ζo _ hq));have e:VeJ (o :: r) tp n=Jc4 o tp n+VeJ r tp n:=rfl;rw[e];constructor
  ·intro h q hq;rcases ζH.1 hq with rfl|hq
   ·have h4:Jc4 q tp n=0:=Ω
    unfold Jc4 at h4;omega
   ·exact ih.1 Ω q hq
  ·intro h;have h4:=ih.2 (λq hq=>h q (ζo _ hq));have h5:=h o (ζg ..);have h6:Jc4 o tp n=0:=by unfold Jc4;omega
   omega
theorem XAy{n:Nat}{o:Ob}{r:List Ob}(hg:Q4l n (o :: r)){fr:Nat}(h:fr<=o.1):∀q∈o :: r,fr<=q.1:=λq hq=>by
 rcases ζH.1 hq with rfl|hq
 ·exact h
 ·have:=(ξg.1 hg.pw).1 q hq;omega
def Jx2(v:Vm)(rs:List Int)(fr tp:Int)(L:List Ob):Prop:=Zx6 v rs v.n L/\∀o∈L,fr<=(o.1:Int)/\(o.1:Int)+o.2<=tp
def Zt3(w:World)(S:Nat->Prop)(q:Nat)(v:Vm)(rs:List Int)(fr tp:Nat)(e:Ending)(w':World):Prop:=
 XF4 S w w'/\QXZ w' (ZOk S w) q v ∧
  ((∃L m p1 b1 p2 b2,Jx2 v rs fr tp L/\e=.returned (.tuple #[.pointer (some ⟨m,0,none⟩),.int .i64 0])/\Ext w' m p1 b1 p2 b2 v.n L/\w.heap.size<=m/\w.heap.size<=p1/\w.heap.size<=b1/\w.heap.size<=p2/\w.heap.size<=b2) ∨
   ((∀L,¬Jx2 v rs fr tp L)/\e=.returned (.tuple #[.pointer none,.int .i64 25])))
section
variable {w:World} {S:Nat->Prop} {q r g:Nat} {v:Vm} {rs:List Int}
theorem Jf0(hV:QXZ w S q v)(hn:v.n≠0)(hR:V5d w r g rs)(hT:VRW w)(htS:¬S 1)(fr tp room:Nat)(htp:tp<=v.n)(hr1:1<=room)(hr2:room<=4096):
  Calls prog 129 #[.pointer (some ⟨q,0,none⟩),.pointer (some ⟨r,0,none⟩),.int .i64 fr,.int .i64 tp,.int .i64 room] w (Zt3 w S q v rs fr tp):=by
 have HV:=hid hV.cut;have HR:=hid hR;have HT:=hid hT;have Xn:=hid htS;have Yt:=hV.ok.n2;have htl:=hT.lt;have HX:=hid (λW=>XMw v.n Ω Ω W);have Xz:=hR.le;have Xq:=hid (λ(W:World) (g:Gr w W)=>Xwn (HV.o.gr g));have Yl:=hid Xz;obtain⟨n,Xh⟩:∃n,n=v.n:=⟨_,rfl⟩;have X:=hid Xh;rw[<-Xh]at HX Xq htp Yt;clear hV hR hT htS hn Xz Xh;go_enter func129,ntmps129
 go_upto_region 2 with(first
  | (go_at_call 52;refine(Xq.o _ (Gr.refl w)).mono ?_;rintro e w1 ⟨rfl,rfl⟩)
  | (go_at_call 51;refine(HX.o _).mono ?_;rintro e w3 ⟨m,p1,b1,p2,b2,rfl,Yi,Xo,Yb,Ye,Yg,Xm,Xt⟩;have Xl:=hid Yi;have Xb:=hid Xo;have HB:=hid (ν Yb (ν Ye (ν Yg (ν Xm Xt))));clear Yi Xo Yb Ye Yg Xm Xt))
 have Xa:Hid (∀i,YBz m b1 b2 i->w.heap.size<=i/\i<w3.heap.size):=⟨λi hi=>by
  have h1:=Xb.o.hm;have h2:=Xb.o.v1.hb;have h3:=Xb.o.v2.hb;have h4:=HB.o
  rcases hi with rfl|rfl|rfl <;> omega⟩
 have Xr:=hid (λ(W:World) (g:Gr w3 W)=>ZbJ (HR.o.gr (Xl.o.trans g)))
 have Yc:Hid (∀(W:World) (g1 cp:Nat),Gr w3 W->w3.heap.size<=g1->W.ownsRow 0 3 1 (.slice (some ⟨g1,0,none⟩) rs.length cp) rs.length (zs rs)->Calls prog 53 #[.iface 87 (.pointer (some ⟨q,0,none⟩)),.slice (some ⟨g1,0,none⟩) rs.length cp,.pointer (some ⟨m,0,none⟩),.int .i64 room] W λe w'=>
   XF4 (λi=>YBz m b1 b2 i\/ZOk S w i) W w'/\QXZ w' (ZOk S w) q v/\((∃(L:List Ob) (rv vi:Int),e=.returned (.tuple #[.agg #[.int .i64 (L.length:Nat),.int .i64 (sizes L:Nat),.int .i64 rv,.int .i64 vi],.int .i64 0])/\Ext w' m p1 b1 p2 b2 n L/\Zx6 v rs n L)\/(e=.returned (.tuple #[.agg #[.int .i64 0,.int .i64 0,.int .i64 0,.int .i64 0],.int .i64 25])/\¬Xd6 v rs n))):=⟨λW g1 cp hg hg1 ho=>by
  have Xy:=Xl.o.trans hg;refine(XKD (HV.o.gr Xy) (Xb.o.gr hg) (Xy.tab HT.o.lt HT.o) (λi hi=>?_) (by unfold maxLen;have:=Yl.o;omega) (λi hi h=>by have:=(Xa.o i h).1;have:=hi.2;omega) (λh=>by have:=h.2;have:=HB.o;omega) (λh=>by have:=h.2;have:=HB.o;omega) (λh=>Xn.o h.1) (λh=>by have:=(Xa.o _ h).1;have:=HT.o.lt;omega) (room:Int)).mono ?_
  ·exact⟨g1,0,rfl,(Vvr ho rfl).2,λh=>by have:=(Xa.o _ h).2;omega,by rw[ξN];exact ZBn ho (JbU hi)⟩
  ·rintro e w' (⟨h,-⟩|⟨-,-,ht,hv,(⟨L,r',vi,rfl,he,hm,-⟩|⟨rfl,-,hs⟩)⟩)
   ·omega
   ·exact⟨ht,hv,.inl ⟨L,r',vi,rfl,he,hm⟩⟩
   ·exact⟨ht,hv,.inr ⟨rfl,hs⟩⟩⟩
 have Yn:Hid (∀W1 W2,Gr w3 W1->XF4 (λi=>YBz m b1 b2 i\/ZOk S w i) W1 W2->XF4 S w W2):=⟨λW1 W2 h1 h2=>((Xl.o.trans h1).touch _).trans' h2 (λb hb h=>h.elim (λh=>by have:=(Xa.o b h).1;omega) (λh=>h.1))⟩
 go_upto_region 3 with(first
  | (go_at_call 54;refine(Xr.o _ (Gr.refl w3)).mono ?_;rintro e w4 ⟨g1,c1,rfl,Xx,Yk,Yh⟩;have Xp:=hid Xx;have Ym:=hid Yh;have Yq:=hid Yk;clear Xx Yh Yk)
  | (go_at_call 53;refine(Yc.o _ g1 c1 Xp.o Yq.o Ym.o).mono ?_;rintro e w5 ⟨Xs,Ya,(⟨L,rv,vi,rfl,Yf,Yd⟩|⟨rfl,Xu⟩)⟩ <;> (have Xf:=hid (Yn.o _ _ Xp.o Xs);have Xv:=hid Ya;clear Xs Ya)))
 ·have G:=hid Yd;have HZ:Hid (w.heap.size<=w5.heap.size):=⟨Xf.o.size⟩;obtain⟨w6,Xe⟩:∃w6,w6=w5.alloc (.cells #[.int .i64 (L.length:Nat),.int .i64 (sizes L:Nat),.int .i64 rv,.int .i64 vi] 107):=⟨_,rfl⟩;have Xc:Gr w5 w6:=by rw[Xe];exact(Gr.refl w5).alloc _
  have I:=hid (Yf.gr Xc);have O:Hid (XF4 S w w6):=⟨Xf.o.trans (Xc.touch _)⟩;have V:=hid (Xv.o.gr Xc);have Xw:Hid (VRW w6):=⟨HT.o.touch' O.o Xn.o⟩;rw[<-Xe];have Z:=hid (Xwn V.o);rw[<-X.o]at Z;have Yj:=hid (λ(f:Int) (t:Int) (hf:f<=9223372036854775807) (ht:-9223372036854775808<=t)=>QS1 I.o Xw.o f t hf ht);have Y:=hid (QQo I.o Xw.o 0);clear Xe Xc Yf Yd;cases L with
  | nil=>
   rw[Qyx (by simp)]at Y;have J:=hid (Yj.o tp n Ω Ω);rw[show VeJ [] (tp:Int) (n:Int)=0 from rfl]at J
   go_wp2_with(first
    | (go_at_call 168;refine Y.o.mono ?_;rintro e w7 ⟨rfl,rfl⟩)
    | (go_at_call 52;refine Z.o.mono ?_;rintro e w7 ⟨rfl,rfl⟩)
    | (go_at_call 169;refine J.o.mono ?_;rintro e w7 ⟨rfl,rfl⟩))
   go_ret2;exact⟨O.o,V.o,.inl ⟨[],m,p1,b1,p2,b2,⟨by rw[<-X.o];exact G.o,λ_ h=>by cases h⟩,Qh8 rfl rfl,by rw[<-X.o];exact I.o,HB.o⟩⟩
  | cons o rr=>
   have Xj:Jxr (o :: rr) 0=0:=Qzy (ζh _) (λi _ h=>absurd h (ζV _)) (λ_=>by omega);rw[Xj,VTf (by simp)]at Y;simp only[ψy]at Y;have hg:=I.o.good;obtain⟨os,E⟩:∃os,os=o.1:=⟨_,rfl⟩;obtain⟨oz,Xd⟩:∃oz,oz=o.2:=⟨_,rfl⟩;rw[<-E,<-Xd]at Y;have Yo:=hid E;have HGD:=hid hg;by_cases N:os<fr
   ·have e1:decide ((os:Int)<(fr:Int))=true:=κ Ω;have e9:decide (os<fr)=true:=κ N;have Yr:=hid N;clear N E Xd hg Xj;go_wp2_with(go_at_call 168;refine Y.o.mono ?_;rintro e w7 ⟨rfl,rfl⟩);go_ret2;refine⟨O.o,V.o,.inr ⟨λL' h=>?_,Qh8 rfl rfl⟩⟩;have h1:=h.1;rw[<-X.o]at h1;have e:=h1.unique G.o;subst e;have:=(h.2 o (ζg ..)).1;have:=Yo.o;have:=Yr.o;omega
   ·have e1:decide ((os:Int)<(fr:Int))=false:=ψ Ω;have e9:decide (os<fr)=false:=ψ N;have Ys:=hid (XAy hg (fr:=fr) Ω);have Xk:=hid (JQq (tp:=tp) hg.sz);have J:=hid (Yj.o tp n Ω Ω);obtain⟨ov,Xg⟩:∃ov,ov=VeJ (o :: rr) (tp:Int) (n:Int):=⟨_,rfl⟩;have hov0:0<=ov:=by rw[Xg];exact Vzk _ _ _
    rw[<-Xg]at J Xk;clear N E Xd hg Xj Xg;by_cases hz:ov=0
    ·have e2:decide (0<ov)=false:=ψ Ω;have Xi:=hid hz;clear hz
     go_wp2_with(first
      | (go_at_call 168;refine Y.o.mono ?_;rintro e w7 ⟨rfl,rfl⟩)
      | (go_at_call 52;refine Z.o.mono ?_;rintro e w7 ⟨rfl,rfl⟩)
      | (go_at_call 169;refine J.o.mono ?_;rintro e w7 ⟨rfl,rfl⟩))
     go_ret2;refine⟨O.o,V.o,.inl ⟨o :: rr,m,p1,b1,p2,b2,⟨by rw[<-X.o];exact G.o,λq hq=>?_⟩,Qh8 rfl rfl,by rw[<-X.o];exact I.o,HB.o⟩⟩;have:=Ys.o q hq;have:=Xk.o.1 Xi.o q hq;omega
    ·have e2:decide (0<ov)=true:=κ Ω;have Xi:=hid hz;clear hz
     go_wp2_with(first
      | (go_at_call 168;refine Y.o.mono ?_;rintro e w7 ⟨rfl,rfl⟩)
      | (go_at_call 52;refine Z.o.mono ?_;rintro e w7 ⟨rfl,rfl⟩)
      | (go_at_call 169;refine J.o.mono ?_;rintro e w7 ⟨rfl,rfl⟩))
     go_ret2;refine⟨O.o,V.o,.inr ⟨λL' h=>?_,Qh8 rfl rfl⟩⟩;have h1:=h.1;rw[<-X.o]at h1;have e:=h1.unique G.o;subst e;exact Xi.o (Xk.o.2 λq hq=>by have:=(h.2 q hq).2;omega)
 ·have Yp:=hid Xu;clear Xu;go_wp2;go_ret2;refine⟨Xf.o.trans (((Gr.refl w5).alloc _).touch _),Xv.o.gr ((Gr.refl w5).alloc _),.inr ⟨λL' h=>Yp.o ?_,Qh8 rfl rfl⟩⟩;rw[X.o];exact h.1.sound
end
end
section
open Go.RowKit Word
theorem Ji4.ldV_all{v v':Vm}{F:List Nat}(h:Ji4 v v' F)(hv:ZAR v){a:Nat}(ha:a<v.n):v'.ldV a=v.ldV a:=by
 rw[h.vl a ha];by_cases hf:a/v.pl.pg∈F
 ·rw[μ hf];have:v.ldE a=12:=by rw[hv.ldE_of ha,μ (h.un _ hf).2]
  unfold Vm.ldV;rw[ϑ (by rw[this];decide)]
 ·rw[ϑ hf]
theorem YNw{v v1:Vm}(h:ZAR v){rs:List Int}{fr tp:Nat}{L:List Ob}(hI:Jx2 v rs fr tp L)(h1:1<=fr)(h2:fr<=tp)(h3:tp<=v.n)(hE:Jsl v fr ((fr+sizes L:Nat):Int)=0)(hG:Ji4 v v1 (J5L v fr ((fr+sizes L:Nat):Int))):VGV v1 rs L fr tp/\fr+sizes L<=tp:=by
 have hw:=hG.wider h;have X:∀o∈L,fr<=o.1/\o.1+o.2<=tp:=λo ho=>by have:=hI.2 o ho;omega
 have Y:fr+sizes L<=tp:=by
  rcases ζE L.length with h0|h0
  ·have:L=[]:=ζv h0;subst this;simp only[sizes];omega
  ·have hj:L.length-1<L.length:=Ω
   have e1:=YnY hI.1.mkd.good (λo ho=>(X o ho).1) hj;have e2:=X _ (χ hj);have e3:=Qsm hj;rw[show L.length-1+1=L.length by omega,ζT]at e3;omega
 exact⟨⟨hG.ok,by rw[hG.n];exact hw.marks hI.1,X,h1,by rw[hG.n];exact h3,λa ha hb=>V75 h Ω hE hG ha hb⟩,Y⟩
def Ym5(nt pg:Nat):Nat:=(nt+pg-1)/pg
theorem YmI{nt pg q:Nat}(hp:1<=pg):nt<=q*pg↔Ym5 nt pg<=q:=by
 unfold Ym5;have h1:=ζx (nt+pg-1) pg;have h2:=ξC (nt+pg-1) (show 0<pg by omega);constructor
 ·intro h;have h3:nt+pg-1<(q+1)*pg:=by rw[ξc];omega
  have:=(ζ4 (show 0<pg by omega)).2 h3;omega
 ·intro h;have h3:=ζl pg h;rw[ζJ]at h1;omega
structure JyP(v:Vm)(rs:List Int)(fr tp:Nat)(L:List Ob)(v1 v2:Vm)(j:Nat):Prop where
 gr:Ji4 v v1 (J5L v fr ((fr+sizes L:Nat):Int))
 cx:VGV v1 rs L fr tp
 st:Pkd v1 v2 L fr (sizes L)
 q1:∀i,i<j->(fr/v.pl.pg+i)*v.pl.pg<tp
 q2:tp<=(fr/v.pl.pg+j)*v.pl.pg
def VYG(v v2:Vm)(fr nt j:Nat):Vm:=umN v2 (Ym5 nt v.pl.pg) (fr/v.pl.pg+j-Ym5 nt v.pl.pg)
def YYf(w:World)(S:Nat->Prop)(q r g:Nat)(v:Vm)(rs:List Int)(fr tp room:Int)(e:Ending)(w':World):Prop:=
 XF4 (λb=>b=g\/S b) w w' ∧
  ((JKs v.n fr tp room=false/\e=.returned (.tuple #[.int .i64 0,.int .i64 5])/\QXZ w' S q v/\V5d w' r g rs) ∨
  (JKs v.n fr tp room=true ∧
   (((∀L,¬Jx2 v rs fr tp L)/\e=.returned (.tuple #[.int .i64 0,.int .i64 25])/\QXZ w' S q v/\V5d w' r g rs) ∨
   ∃(L:List Ob) (f t:Nat),Jx2 v rs fr tp L/\fr=(f:Int)/\tp=(t:Int) ∧
    ((Jsl v f ((f+sizes L:Nat):Int)≠0/\e=.returned (.tuple #[.int .i64 0,.int .i64 (Jsl v f ((f+sizes L:Nat):Int))])/\Y1U w' (plus S w) q v []/\V5d w' r g rs) ∨
    (Jsl v f ((f+sizes L:Nat):Int)=0/\e=.returned (.tuple #[.int .i64 ((f+sizes L:Nat):Int),.int .i64 0]) ∧
     ∃v1 v2 j,JyP v rs f t L v1 v2 j/\QXZ w' (plus S w) q (VYG v v2 f (f+sizes L) j)/\V5d w' r g (rs.map (toV L f)))))))
section
variable {w:World} {S:Nat->Prop} {q r g:Nat} {v:Vm} {rs:List Int}
theorem YrC(hV:QXZ w S q v)(f t:Nat)(ht:t<=v.n)(hft:f<=t):Calls prog 122 #[.pointer (some ⟨q,0,none⟩),.int .i64 f,.int .i64 t] w λe w'=>e=.returned (.int .i64 (Jsl v f t))/\XF4 S w w'/\Y1U w' (plus S w) q v (J5L v f t):=by
 rcases γ f t with h|h
 ·exact VfQ hV f t ht h
 ·obtain rfl:f=t:=Ω
  obtain⟨e1,e2⟩:=VGS (v:=v) (f:=f) ht;rw[e1,e2];refine(Q7x hV f f ht (π _)).mono ?_;rintro e w' ⟨rfl,hg⟩;refine⟨rfl,hg.touch _,v,?_,(hV.gr hg).mono (λ_ h=>.inl h)⟩;exact⟨hV.ok,rfl,rfl,rfl,rfl,ξ1,(λ_ h=>by cases h),(λ_ _=>by simp),λ_ _=>by simp⟩
theorem ZEN{n:Nat}{L:List Ob}(hg:Q4l n L)(hn:n<=1048576)(base:Nat)(a:Int):0<=toV L base a:=by
 unfold toV
 split
 ·have:=(ZOz hg hn a).1;omega
 ·exact ξU _
variable {F f n B fr:Nat} {L:List Ob}
theorem XoZ{fb:Nat}(hF:Fwd w F f n B fr L)(hc:w.cell? ⟨fb,0,none⟩=some (.pointer (some ⟨f,0,none⟩)))(a:Int):Calls prog 134 #[.int .i64 a,.pointer (some ⟨fb,0,none⟩)] w λe w'=>e=.returned (.int .i64 (toV L fr a))/\Gr w w':=by
 have HT:=hid (Vcy hF a);obtain⟨y,hy⟩:∃y,y=toV L fr a:=⟨_,rfl⟩;obtain⟨z,hz⟩:∃z,z=toE L a:=⟨_,rfl⟩;rw[<-hy,<-hz]at HT;rw[<-hy];clear hF hy hz;go_enter func134,ntmps134;go_wp2_with(go_at_call 135;refine(HT.o).mono ?_;rintro e w1 ⟨rfl,X⟩;have Y:=hid X;clear X);go_ret;exact⟨rfl,Y.o⟩
theorem ZKw{fb:Nat}(hF:∀W,XF4 (λb=>b=g) w W->Fwd W F f n B fr L)(hc:w.cell? ⟨fb,0,none⟩=some (.pointer (some ⟨f,0,none⟩)))(hfb:fb≠g)(hR:V5d w r g rs)(h0:toV L fr 0=0):
  Calls prog 123 #[.pointer (some ⟨r,0,none⟩),.func (.func 134) #[] #[.pointer (some ⟨fb,0,none⟩)]] w λe w'=>e=.returned (.tuple #[])/\XF4 (λb=>b=g) w w'/\V5d w' r g (rs.map (toV L fr)):=by
 refine(ZOv (F:=134) (pre:=#[]) (caps:=#[.pointer (some ⟨fb,0,none⟩)]) (λi W X=>XF4 (λb=>b=g) w W/\X=(rs.take i).map (toV L fr)) (λ_ _=>by kernel_rfl) hR ⟨XF4.refl _ _,rfl⟩ ?_ ?_).mono ?_
 ·rintro i hi W X ho ⟨t,e⟩ hz;refine⟨t,?_⟩;rw[V37 hi,ζO,<-e,hz]
  show X++[0]=X++[toV L fr 0]
  rw[h0]
 ·rintro i hi W X ho ⟨t,e⟩ Z hne W0 Y;have hf:=hF W0 (t.trans (Y.touch _));have N:=ZQf hc;have V:=((t.trans (Y.touch _)).cell N hfb 0).trans hc;refine(XoZ hf V rs[i]).mono ?_;rintro e' W' ⟨rfl,J⟩;have hb:=ZEN hf.good.1 hf.good.2 fr rs[i];refine⟨_,rfl,(Z.gr Y).gr J,λW'' t''=>⟨((t.trans (Y.touch _)).trans (J.touch _)).trans t'',?_⟩⟩;rw[V37 hi,ζO,<-e,Int.max_eq_left hb];rfl
 ·rintro e w' ⟨rfl,X,-,⟨t,e⟩,Z⟩;rw[ζT]at e;subst e;exact⟨rfl,t,Z⟩
end
end
section
open Go.RowKit Word
def Vjz(L:List Ob)(i:Nat):Nat:=(JlZ L i).getD 0
theorem YZF{L:List Ob}{j m:Nat}(hj:j<L.length)(hm:m<L[j].2):Vjz L (sizes (L.take j)+m)=L[j].1+m:=by
 unfold Vjz;rw[XEK hj hm];rfl
theorem QhJ{L:List Ob}{i:Nat}(h:i<sizes L):∃hj:XEF L i<L.length,∃m,m<(L[XEF L i]'hj).2/\i=sizes (L.take (XEF L i))+m/\Vjz L i=(L[XEF L i]'hj).1+m:=by
 obtain⟨hj,m,h1,h2,h3⟩:=VBJ h;exact⟨hj,m,h1,h2,by unfold Vjz;rw[h3];rfl⟩
theorem Y3d{L:List Ob}{i:Nat}:V5E L (i:Int)=(Vjz L i:Int):=by
 unfold V5E Vjz;rw[ϑ Ω,τ]
theorem Qmd{L:List Ob}{base i:Nat}(h:i<sizes L):Xbb L base ((base+i:Nat):Int)=(Vjz L i:Int)/\Zdp L base ((base+i:Nat):Int)=0:=by
 have X:inF L base ((base+i:Nat):Int)=true:=Qy1.2 Ω;unfold Xbb Zdp;rw[X,μ rfl,μ rfl,show ((base+i:Nat):Int)-(base:Int)=(i:Int)by omega];exact⟨Y3d,rfl⟩
theorem YYc{n:Nat}{L:List Ob}(hg:Q4l n L){i k:Nat}(hik:i<k)(hk:k<sizes L):Vjz L i<Vjz L k:=by
 obtain⟨hj,m,h1,h2,h3⟩:=QhJ (L:=L) (i:=i) Ω;obtain⟨X,m',h1',h2',Y⟩:=QhJ hk;rw[h3,Y];rcases ζW (XEF L i) (XEF L k)with h|h|h
 ·have:=hg.at hj X h;omega
 ·simp only[h]at h2⊢;omega
 ·have e1:=Qsm (L:=L) X
  have e2:sizes (L.take (XEF L k+1))<=sizes (L.take (XEF L i)):=by
   have:L.take (XEF L k+1)=(L.take (XEF L i)).take (XEF L k+1):=by rw[List.take_take];congr 1;omega
   rw[this];exact Zut _ _
  omega
theorem Z8c{L:List Ob}{fr tp:Nat}(hf:∀o∈L,fr<=o.1/\o.1+o.2<=tp){i:Nat}(hi:i<sizes L):fr<=Vjz L i/\Vjz L i<tp:=by
 obtain⟨hj,m,h1,h2,h3⟩:=QhJ hi;have:=hf _ (χ hj);omega
theorem QFu{n:Nat}{L:List Ob}(hg:Q4l n L){i:Nat}(hi:i<sizes L):ZH8 L (Vjz L i:Nat)=XEF L i:=by
 obtain⟨hj,m,h1,h2,h3⟩:=QhJ hi;obtain⟨j,X,e1,e2,e3,e4,-⟩:=Zeb hg (base:=((0:Nat):Int)) (b:=(i:Int)) (Qy1.2 Ω);have hs:=(Qmd (base:=0) hi).1;rw[ξN]at hs;rw[hs]at e2 e3 e4
 have:XEF L i=j:=by
  rw[h3]at e2 e3;rcases hg.disj (χ hj) (χ X)with e|e|e
  ·rcases ζW (XEF L i) j with h|h|h
   ·have:=hg.at hj X h;have:=(hg.sz _ (χ hj)).1;rw[e]at this;omega
   ·exact h
   ·have:=hg.at X hj h;have:=(hg.sz _ (χ hj)).1;rw[e]at this;omega
  ·omega
  ·omega
 rw[this];exact e4
def cvH(L:List Ob)(tb:Nat)(h:Hdr)(m x:Nat):Nat:=if (1<=m/\(m:Int)<=h.p)/\x≠0 then (toV L tb (x:Nat)).toNat else x
structure Sl where
 n:Nat
 pg:Nat
 cf:Cf
 L:List Ob
 hd:Nat->Hdr
 c:Nat->Nat
 mv:List Bool
def Sl.mvd(s:Sl):Nat:=cnt (at_ s.mv) s.mv.length
def Sl.ft(s:Sl):Nat:=first (λk=>!at_ s.mv k) s.mv.length
def Sl.lf(s:Sl):Nat:=s.mv.length-s.mvd
def Sl.is(s:Sl)(i:Nat):Bool:=at_ s.mv (i/s.cf.bk)
def Sl.off(s:Sl)(i:Nat):Nat:=i-sizes (s.L.take (XEF s.L i))
def Sl.hdr(s:Sl)(i:Nat):Hdr:=s.hd (s.L.getD (XEF s.L i) (0,0)).1
def Sl.cv(s:Sl)(i x:Nat):Nat:=cvH s.L s.cf.to (s.hdr i) (s.off i) x
def Sl.ptr(s:Sl)(i:Nat):Prop:=1<=s.off i/\(s.off i:Int)<=(s.hdr i).p
structure Jdn(s:Sl):Prop where
 pg:1<=s.pg/\s.pg<=256
 n2:s.n<=524288
 cf:VeB s.pg s.n s.cf
 good:Q4l s.n s.L
 inn:∀o∈s.L,s.cf.fr<=o.1/\o.1+o.2<=s.cf.tp
 fit:s.cf.to+sizes s.L<=s.cf.lm
 hd:∀j (hj:j<s.L.length),∃p f k:Nat,s.hd s.L[j].1=⟨p,f,k⟩/\p+f+k<=255/\s.L[j].2=1+p+f+k
 len:s.mv.length=nbl (sizes s.L) s.cf.bk
section
variable {s:Sl}
theorem Jdn.bk(h:Jdn s):1<=s.cf.bk/\s.cf.bk<=1024:=by have:=Quq h.cf.bk;omega
theorem Jdn.N_le(h:Jdn s):sizes s.L<=s.n:=XY5 h.good
theorem V6P{a b p:Nat}(hp:1<=p)(hb:b%p=0)(h:a<b):a/p<b/p:=by
 have h1:=ζx b p;rw[ζ4 Ω,ζJ];omega
theorem XSg{n B:Nat}(hB:1<=B):n<=upN n B/\upN n B%B=0:=by
 unfold upN;have h1:=ζx (n+B-1) B;have h2:=ξC (n+B-1) (show 0<B by omega);rw[ζJ]at h1;exact⟨by omega,Nat.mul_mod_left _ _⟩
theorem Jdn.apart(h:Jdn s){a b:Nat}(ha:s.cf.fr<=a/\a<s.cf.tp)(hb:s.cf.to<=b/\b<s.cf.lm):a/s.pg≠b/s.pg:=by
 have hu:=XSg (n:=s.cf.tp) h.pg.1
 have hn:s.cf.lm<=s.cf.fr\/upN s.cf.tp s.pg<=s.cf.to:=by
  have:=h.cf.ap;omega
 rcases hn with e|e
 ·have h1:=V6P h.pg.1 h.cf.al hb.2;have h2:=ζc (c:=s.pg) (ζb e ha.1);omega
 ·have h1:=V6P (a:=a) h.pg.1 hu.2 Ω;have h2:=ζc (c:=s.pg) (ζb e hb.1);omega
theorem Jdn.srcs(h:Jdn s){i:Nat}(hi:i<sizes s.L):s.cf.fr<=Vjz s.L i/\Vjz s.L i<s.cf.tp/\Vjz s.L i<s.n:=by
 have h1:=Z8c h.inn hi;have h2:=h.cf.tn;omega
theorem Jdn.dsts(h:Jdn s){i:Nat}(hi:i<sizes s.L):s.cf.to+i<s.cf.lm/\s.cf.to+i<s.n:=by
 have h1:=h.fit;have h2:=h.cf.ln;omega
theorem Jdn.obj(h:Jdn s){i:Nat}(hi:i<sizes s.L):∃j,∃hj:j<s.L.length,∃m p f k:Nat,XEF s.L i=j/\m<s.L[j].2/\i=sizes (s.L.take j)+m/\Vjz s.L i=s.L[j].1+m/\s.off i=m/\s.hdr i=s.hd s.L[j].1/\s.hd s.L[j].1=⟨p,f,k⟩/\p+f+k<=255/\s.L[j].2=1+p+f+k:=by
 obtain⟨hj,m,h1,h2,h3⟩:=QhJ hi;obtain⟨p,f,k,e1,e2,e3⟩:=h.hd _ hj;refine⟨XEF s.L i,hj,m,p,f,k,rfl,h1,h2,h3,by unfold Sl.off;omega,?_,e1,e2,e3⟩;unfold Sl.hdr;rw[φ,δ hj];rfl
theorem Jdn.blk(h:Jdn s){i:Nat}(hi:i<sizes s.L):i/s.cf.bk<s.mv.length:=by
 rw[h.len,VjL h.bk.1];have:=ζm i s.cf.bk;omega
theorem Jdn.mv(h:Jdn s)(l:List Bool)(hl:l.length=s.mv.length):Jdn {s with mv:=l}:=
 ⟨h.pg,h.n2,h.cf,h.good,h.inn,h.fit,h.hd,hl.trans h.len⟩
end
theorem Xxa(L:List Ob)(tb:Nat)(a:Int):0<=toV L tb a:=by
 unfold toV
 split
 ·have:=Vzk L 0 a;omega
 ·exact ξU _
theorem Jdn.to_lt{s:Sl}(h:Jdn s)(a:Int):toV s.L s.cf.to a<4294967296:=by
 unfold toV
 split
 ·have h1:=ZOz h.good (by have:=h.n2;omega) a;have h2:=h.cf.lm;have h3:=h.cf.ln;have h4:=h.n2;omega
 ·omega
theorem Jdn.cv_lt{s:Sl}(h:Jdn s)(i:Nat){x:Nat}(hx:x<18446744073709551616):s.cv i x<18446744073709551616:=by
 unfold Sl.cv cvH
 split
 ·have:=h.to_lt (x:Nat);omega
 ·exact hx
structure ZTP(s:Sl)(D U:Nat->Bool)(v:Vm):Prop where
 ok:ZAR v
 n:v.n=s.n
 pg:v.pl.pg=s.pg
 src:∀i,i<sizes s.L->U i=true->v.ldE (Vjz s.L i:Nat)=0/\s.cv i (v.ldV (Vjz s.L i:Nat))=s.c i/\(s.ptr i->v.ldV (Vjz s.L i:Nat)<=2147483647)
 dst:∀i,i<sizes s.L->D i=true->v.ldE ((s.cf.to+i:Nat):Int)=0/\v.ldV ((s.cf.to+i:Nat):Int)=s.c i
structure ZEw(s:Sl)(v:Vm):Prop where
 st:Jdn s
 mid:ZTP s s.is (λi=>!s.is i) v
def Sl.inB(s:Sl)(k i:Nat):Bool:=i/s.cf.bk==k
def Sl.lo(s:Sl)(k:Nat):Nat:=k*s.cf.bk
def Sl.hi(s:Sl)(k:Nat):Nat:=min (k*s.cf.bk+s.cf.bk) (sizes s.L)
theorem Jdn.inB{s:Sl}(h:Jdn s){k i:Nat}(hi:i<sizes s.L):s.inB k i=true↔s.lo k<=i/\i<s.hi k:=by
 unfold Sl.inB Sl.lo Sl.hi;have hb:=h.bk.1;have h1:=ζx i s.cf.bk;have h2:=ξC i (show 0<s.cf.bk by omega);rw[ζZ];constructor
 ·rintro rfl;rw[ζJ]at h1;omega
 ·rintro⟨h3,h4⟩;refine Nat.div_eq_of_lt_le h3 ?_;rw[ζ6];omega
theorem Jdn.lohi{s:Sl}(h:Jdn s){k:Nat}(hk:k<s.mv.length):s.lo k<s.hi k/\s.hi k<=s.lo k+s.cf.bk/\s.hi k<=sizes s.L:=by
 rw[h.len,VjL h.bk.1]at hk;have:=h.bk.1;unfold Sl.lo Sl.hi;omega
theorem Sl.is_put{s:Sl}{k:Nat}(hk:k<s.mv.length)(i:Nat):({s with mv:=s.mv.set k true}:Sl).is i=(s.is i||s.inB k i):=by
 unfold Sl.is Sl.inB;rw[QXV hk];by_cases h:i/s.cf.bk=k
 ·rw[μ h];simp[h]
 ·rw[ϑ h];simp[h]
end
section
open Go.RowKit Word
theorem YQS{n i:Nat}(hi:i<n):cnt (λj=>j==i) n=1:=by
 have e:cnt (λj=>j==i) n=cnt (λj=>decide (i<=j/\j<i+1)) n:=XmU λj _=>by
  by_cases h:j=i
  ·subst h;simp
  ·have:¬(i<=j/\j<i+1):=Ω
   simp[h,this]
 rw[e,J2a i (i+1) n Ω Ω];omega
theorem VXp{f:Nat->Bool}{n i:Nat}(hi:i<n)(h:f i=false):cnt (λj=>f j||j==i) n=cnt f n+1:=by
 rw[Jjp (λj=>by by_cases e:j=i;(subst e;simp[h]);(simp[e])) n,YQS hi]
theorem V7q{f:Nat->Bool}{n i:Nat}(hi:i<n)(h:f i=true):cnt (λj=>f j&&!(j==i)) n+1=cnt f n:=by
 rw[<-VXp (f:=λj=>f j&&!(j==i)) hi (by simp)];refine XmU λj _=>?_;by_cases e:j=i
 ·subst e;simp[h]
 ·have e':(j==i)=false:=ζy.2 e;simp[e']
def Sl.on(s:Sl)(U:Nat->Bool)(q:Nat):Nat:=cnt (λi=>U i&&(Vjz s.L i/s.pg==q)) (sizes s.L)
def but(U:Nat->Bool)(i:Nat):Nat->Bool:=λj=>U j&&!(j==i)
theorem JZ9{U:Nat->Bool}{i j:Nat}(h:j≠i):but U i j=U j:=by
 have e':(j==i)=false:=ζy.2 h;simp[but,e']
theorem J3l{U:Nat->Bool}{i:Nat}:but U i i=false:=by simp[but]
section
variable {s:Sl} {U:Nat->Bool} {i q:Nat}
theorem Sl.on_but(hi:i<sizes s.L)(h:U i=true):s.on (but U i) q+(if Vjz s.L i/s.pg=q then 1 else 0)=s.on U q:=by
 unfold Sl.on but;by_cases e:Vjz s.L i/s.pg=q
 ·rw[μ e,<-V7q (f:=λi=>U i&&(Vjz s.L i/s.pg==q)) hi (by simp[h,e])];congr 1;refine XmU λj _=>?_;cases U j <;> cases (Vjz s.L j/s.pg==q) <;> simp
 ·rw[ϑ e,ξj];refine XmU λj _=>?_;by_cases hj:j=i
  ·subst hj;simp[e]
  ·have e':(j==i)=false:=ζy.2 hj;simp[e']
theorem Sl.on_le(s:Sl)(U:Nat->Bool)(q:Nat):s.on U q<=sizes s.L:=QMh _ _
theorem Sl.on_zero(h:s.on U q=0){j:Nat}(hj:j<sizes s.L)(hU:U j=true):Vjz s.L j/s.pg≠q:=by
 have:=VMy h j hj;intro e;simp[hU,e]at this
theorem Sl.on_pos(hj:i<sizes s.L)(hU:U i=true)(he:Vjz s.L i/s.pg=q):1<=s.on U q:=by
 rcases ζE (s.on U q)with h|h
 ·exact absurd he (Sl.on_zero h hj hU)
 ·exact h
theorem Sl.on_iff:s.on U q=0↔∀j,j<sizes s.L->U j=true->Vjz s.L j/s.pg≠q:=
 ⟨λh _ hj hU=>Sl.on_zero h hj hU,λh=>Z6o λj hj=>by
  cases hU:U j with
  | false=>rfl
  | true=>simpa using h j hj hU⟩
theorem Sl.on_congr{V:Nat->Bool}(h:∀j,j<sizes s.L->U j=V j):s.on U q=s.on V q:=XmU λj hj=>by rw[h j hj]
end
section
variable {s:Sl} {D U:Nat->Bool} {v v1 v':Vm}
theorem ZTP.congr{D' U':Nat->Bool}(h:ZTP s D U v)(hD:∀i,i<sizes s.L->D' i=true->D i=true)(hU:∀i,i<sizes s.L->U' i=true->U i=true):ZTP s D' U' v:=
 ⟨h.ok,h.n,h.pg,λi hi hu=>h.src i hi (hU i hi hu),λi hi hd=>h.dst i hi (hD i hi hd)⟩
theorem ZTP.mvd(h:ZTP s D U v)(l:List Bool):ZTP {s with mv:=l} D U v:=⟨h.ok,h.n,h.pg,h.src,h.dst⟩
theorem ZTP.grow{F:List Nat}(hs:Jdn s)(h:ZTP s D U v)(g:Ji4 v v1 F):ZTP s D U v1:=by
 refine⟨g.ok,g.n.trans h.n,g.pg.trans h.pg,λi hi hu=>?_,λi hi hd=>?_⟩
 ·obtain⟨h1,h2,h3⟩:=h.src i hi hu;have hl:=(hs.srcs hi).2.2;rw[<-h.n]at hl;rw[g.ldV_all h.ok hl,g.ldE h.ok hl];exact⟨by split <;> first|rfl|exact h1,h2,h3⟩
 ·obtain⟨h1,h2⟩:=h.dst i hi hd;have hl:=(hs.dsts hi).2;rw[<-h.n]at hl;rw[g.ldV_all h.ok hl,g.ldE h.ok hl];exact⟨by split <;> first|rfl|exact h1,h2⟩
theorem ZTP.put(hs:Jdn s)(h:ZTP s D U v){i:Nat}(hi:i<sizes s.L)(hl:v.ldE ((s.cf.to+i:Nat):Int)=0){x:Nat}(hx:x=s.c i)(hx2:x<18446744073709551616):ZTP s (λj=>D j||j==i) U (v.st ((s.cf.to+i:Nat):Int) x):=by
 have X:=h.ok.st_ldV x hl;refine⟨h.ok.st _ hx2,(VqE.st v _ x).n.trans h.n,(VqE.st v _ x).pg.trans h.pg,λj hj hu=>?_,λj hj hd=>?_⟩
 ·obtain⟨h1,h2,h3⟩:=h.src j hj hu;have ha:(((s.cf.to+i:Nat):Int)≠(Vjz s.L j:Nat)):=λe=>hs.apart ⟨(hs.srcs hj).1,(hs.srcs hj).2.1⟩ ⟨ζS _ i,(hs.dsts hi).1⟩ (by rw[show Vjz s.L j=s.cf.to+i by omega]);rw[Zpt,X,ϑ ha];exact⟨h1,h2,h3⟩
 ·rw[Zpt,X];by_cases e:i=j
  ·subst e;rw[μ rfl];exact⟨hl,hx⟩
  ·rw[ϑ Ω];exact h.dst j hj (by simpa[Ne.symm e]using hd)
structure QsS(s:Sl)(D U:Nat->Bool)(lo hi:Nat)(v1 v':Vm)(m:Nat):Prop where
 mid:ZTP s (λj=>D j||(decide (lo<=j)&&decide (j<lo+m))) U v'
 sm:VqE v1 v'
 oth:∀a:Nat,(a<s.cf.to+lo\/s.cf.to+hi<=a)->v'.ldV a=v1.ldV a
theorem QsS.zero(h:ZTP s D U v)(lo hi:Nat):QsS s D U lo hi v v 0:=
 ⟨h.congr (λi _ hd=>by
  rcases Bool.or_eq_true_iff.1 hd with h|h
  ·exact h
  ·simp at h;omega) (λ_ _ h=>h),VqE.refl v,λ_ _=>rfl⟩
theorem QsS.step(hs:Jdn s){lo hi m:Nat}(h:QsS s D U lo hi v1 v' m)(hm:lo+m<hi)(hhi:hi<=sizes s.L)(hl:v1.ldE ((s.cf.to+(lo+m):Nat):Int)=0){x:Nat}(hx:x=s.c (lo+m))(hx2:x<18446744073709551616):
  QsS s D U lo hi v1 (v'.st ((s.cf.to+(lo+m):Nat):Int) x) (m+1):=by
 have X:v'.ldE ((s.cf.to+(lo+m):Nat):Int)=0:=by rw[h.sm.ldE];exact hl
 refine⟨(h.mid.put hs Ω X hx hx2).congr (λi _ hd=>?_) (λ_ _ h=>h),h.sm.trans (VqE.st _ _ _),λa ha=>?_⟩
 ·simp only[ζY,ζd,ζe,ζZ]at hd⊢;rcases hd with hd|hd
  ·exact .inl (.inl hd)
  ·by_cases e:i=lo+m
   ·exact .inr e
   ·exact .inl (.inr ⟨hd.1,by omega⟩)
 ·rw[h.mid.ok.st_ldV x X,ϑ Ω];exact h.oth a ha
structure Q2A(s:Sl)(D U0 U:Nat->Bool)(v1 v':Vm):Prop where
 mid:ZTP s D U v'
 le:∀i,i<sizes s.L->U i=true->U0 i=true
 rm:v'.pl.rm=v1.pl.rm
 map:∀p,p<v1.pt.length->(v'.pt.getD p 0≠0↔v1.pt.getD p 0≠0/\¬ ∃i,i<sizes s.L/\U0 i=true/\U i=false/\Vjz s.L i/s.pg=p/\s.on U p=0)
 oth:∀a:Nat,a<s.n->(∀i,i<sizes s.L->Vjz s.L i/s.pg≠a/s.pg)->v'.ldV a=v1.ldV a/\v'.ldE a=v1.ldE a
theorem Q2A.zero(h:ZTP s D U v):Q2A s D U U v v:=
 ⟨h,λ_ _ h=>h,rfl,λp _=>⟨λh=>⟨h,λ⟨i,_,h1,h2,_⟩=>by rw[h1]at h2;cases h2⟩,λh=>h.1⟩,λ_ _ _=>⟨rfl,rfl⟩⟩
theorem Q2A.keep{U0:Nat->Bool}(h:Q2A s D U0 U v1 v'){i:Nat}(hi:i<sizes s.L)(hU:U i=true)(hz:s.on (but U i) (Vjz s.L i/s.pg)≠0):Q2A s D U0 (but U i) v1 v':=by
 have Y:∀j,but U i j=true->U j=true:=λj h=>by unfold but at h;exact(ζ0.1 h).1
 refine⟨h.mid.congr (λ_ _ h=>h) (λj _ hj=>Y j hj),λj hj hu=>h.le j hj (Y j hu),h.rm,λp hp=>(h.map p hp).trans (and_congr_right λ_=>not_congr ?_),h.oth⟩;have Z:=λq=>Sl.on_but (s:=s) (U:=U) (i:=i) (q:=q) hi hU;constructor
 ·rintro⟨j,hj,h1,h2,h3,h4⟩;have X:j≠i:=λe=>by subst e;rw[hU]at h2;cases h2
  have:=Z p;exact⟨j,hj,h1,by rw[JZ9 X];exact h2,h3,by omega⟩
 ·rintro⟨j,hj,h1,h2,h3,h4⟩;have J:Vjz s.L i/s.pg≠p:=λe=>by rw[e]at hz;exact hz h4
  have X:j≠i:=λe=>by subst e;exact J h3
  have:=Z p;rw[ϑ J]at this;exact⟨j,hj,h1,by rw[JZ9 X]at h2;exact h2,h3,by omega⟩
theorem ZdX{v:Vm}{p:Nat}(h:frE v.pt (p:Int)=0)(k:Nat):(v.um (p:Int)).pt.getD k 0≠0↔v.pt.getD k 0≠0/\k≠p:=by
 unfold Vm.um;rw[μ h]
 show (v.pt.set ((p:Int).toNat) 0).getD k 0≠0↔_
 rw[τ,φ,φ,ξv];by_cases e:p=k
 ·subst e;rw[μ rfl]
  split <;> simp
 ·rw[ϑ e];exact⟨λh=>⟨h,λe'=>e e'.symm⟩,λh=>h.1⟩
theorem Q2A.drop(hs:Jdn s){U0:Nat->Bool}(h:Q2A s D U0 U v1 v'){i:Nat}(hi:i<sizes s.L)(hU:U i=true)(hz:s.on (but U i) (Vjz s.L i/s.pg)=0):Q2A s D U0 (but U i) v1 (v'.um ((Vjz s.L i/s.pg:Nat):Int)):=by
 have V:∀j,but U i j=true->U j=true:=λj h=>by unfold but at h;exact(ζ0.1 h).1
 have hk:=h.mid.ok;obtain⟨m1,m2,m3⟩:=h.mid.src i hi hU;have N:=hs.srcs hi
 have J:frE v'.pt ((Vjz s.L i/s.pg:Nat):Int)=0:=by
  unfold Vm.ldE at m1;rw[μ ⟨by omega,by rw[h.mid.n];omega⟩,h.mid.pg]at m1;exact m1
 have Z:∀a:Nat,a<s.n->a/s.pg≠Vjz s.L i/s.pg->(v'.um ((Vjz s.L i/s.pg:Nat):Int)).ldE a=v'.ldE a/\(v'.um ((Vjz s.L i/s.pg:Nat):Int)).ldV a=v'.ldV a:=λa ha hne=>by
  have O:a/v'.pl.pg≠Vjz s.L i/s.pg:=by rw[h.mid.pg];exact hne
  exact⟨by rw[hk.um_ldE J (by rw[h.mid.n];exact ha),ϑ O],hk.um_ldV J (by rw[h.mid.n];exact ha) O⟩
 have Y:(v'.um ((Vjz s.L i/s.pg:Nat):Int)).n=v'.n/\(v'.um ((Vjz s.L i/s.pg:Nat):Int)).pl.pg=v'.pl.pg/\(v'.um ((Vjz s.L i/s.pg:Nat):Int)).pl.rm=v'.pl.rm:=by
  unfold Vm.um
  split <;> exact⟨rfl,rfl,rfl⟩
 have I:=λq=>Sl.on_but (s:=s) (U:=U) (i:=i) (q:=q) hi hU;refine⟨⟨hk.um _,Y.1.trans h.mid.n,Y.2.1.trans h.mid.pg,λj hj hu=>?_,λj hj hd=>?_⟩,λj hj hu=>h.le j hj (V j hu),Y.2.2.trans h.rm,λp hp=>?_,λa ha hf=>?_⟩
 ·obtain⟨e1,e2⟩:=Z (Vjz s.L j) (hs.srcs hj).2.2 (Sl.on_zero hz hj hu);rw[e1,e2];exact h.mid.src j hj (V j hu)
 ·obtain⟨e1,e2⟩:=Z (s.cf.to+j) (hs.dsts hj).2 (λe=>hs.apart ⟨N.1,N.2.1⟩ ⟨ζS _ j,(hs.dsts hj).1⟩ e.symm);rw[e1,e2];exact h.mid.dst j hj hd
 ·rw[ZdX J,h.map p hp,and_assoc];refine and_congr_right λ_=>?_;have:=I p;constructor
  ·rintro⟨g1,g2⟩ ⟨j,hj,h1,h2,h3,h4⟩;by_cases X:j=i
   ·subst X;exact g2 h3.symm
   ·rw[JZ9 X]at h2;rw[ϑ (λe=>g2 e.symm)]at this;exact g1 ⟨j,hj,h1,h2,h3,by omega⟩
  ·intro g;refine⟨λ⟨j,hj,h1,h2,h3,h4⟩=>?_,λe=>?_⟩
   ·have X:j≠i:=λe=>by subst e;rw[hU]at h2;cases h2
    exact g ⟨j,hj,h1,by rw[JZ9 X];exact h2,h3,by omega⟩
   ·subst e;exact g ⟨i,hi,h.le i hi hU,J3l,rfl,hz⟩
 ·obtain⟨e1,e2⟩:=Z a ha (λe=>hf i hi e.symm);rw[e1,e2];exact h.oth a ha hf
end
structure YJW(s:Sl)(k:Nat)(v v':Vm):Prop where
 ok:ZEw {s with mv:=s.mv.set k true} v'
 rm:v'.pl.rm=v.pl.rm
 map:∀p,p<v.pt.length->(v'.pt.getD p 0≠0↔(v.pt.getD p 0≠0\/((s.cf.to+s.lo k)/s.pg<=p/\p<=(s.cf.to+s.hi k-1)/s.pg))/\¬ ∃i,i<sizes s.L/\s.inB k i=true/\Vjz s.L i/s.pg=p/\∀j,j<sizes s.L->Vjz s.L j/s.pg=p->s.is j=true\/s.inB k j=true)
 oth:∀a:Nat,a<s.n->(a<s.cf.to+s.lo k\/s.cf.to+s.hi k<=a)->(∀i,i<sizes s.L->Vjz s.L i/s.pg≠a/s.pg)->v'.ldV a=v.ldV a/\(v.ldE a=0->v'.ldE a=0)
section
variable {s:Sl} {v v1 v2 v':Vm} {k:Nat}
theorem VWG{v:Vm}(h:ZAR v){f t p:Nat}(hft:f<t)(_ht:t<=v.n):p∈Jfy v ((f:Int)/(v.pl.pg:Int)).toNat (XZs v f t)↔(f/v.pl.pg<=p/\p<=(t-1)/v.pl.pg)/\v.pt.getD p 0=0:=by
 have hp:=h.page;have e1:((f:Int)/(v.pl.pg:Int)).toNat=f/v.pl.pg:=by rw[show (f:Int)/(v.pl.pg:Int)=((f/v.pl.pg:Nat):Int)from rfl];exact τ _
 have e2:((t:Int)-1)/(v.pl.pg:Int)=(((t-1)/v.pl.pg:Nat):Int):=by rw[show (t:Int)-1=((t-1:Nat):Int)by omega];rfl
 have e3:(f:Int)/(v.pl.pg:Int)=((f/v.pl.pg:Nat):Int):=rfl;have h1:f/v.pl.pg<=(t-1)/v.pl.pg:=ζc Ω;rw[YYE,e1];unfold XZs;rw[e2,e3];constructor
 ·rintro⟨⟨a,b⟩,c⟩;exact⟨⟨a,by omega⟩,c⟩
 ·rintro⟨⟨a,b⟩,c⟩;exact⟨⟨a,by omega⟩,c⟩
theorem YJW.of(h:ZEw s v)(hk:k<s.mv.length)(_hm:at_ s.mv k=false)(hE:Jsl v ((s.cf.to+s.lo k:Nat):Int) ((s.cf.to+s.hi k:Nat):Int)=0)(hG:Ji4 v v1 (J5L v ((s.cf.to+s.lo k:Nat):Int) ((s.cf.to+s.hi k:Nat):Int)))
  (hC:QsS s s.is (λi=>!s.is i) (s.lo k) (s.hi k) v1 v2 (s.hi k-s.lo k)) {D U:Nat->Bool} (hD:∀i,i<sizes s.L->D i=(s.is i||s.inB k i)) (hU:∀i,i<sizes s.L->U i=!(s.is i||s.inB k i)) (hR:Q2A s D (λi=>!s.is i) U v2 v'):YJW s k v v':=by
 have hs:=h.st;have hlh:=hs.lohi hk;have X:s.cf.to+s.hi k<=v.n:=by have:=hs.fit;have:=hs.cf.ln;rw[h.mid.n];omega
 have Y:s.cf.to+s.lo k<s.cf.to+s.hi k:=Ω
 have hF:∀p,p∈J5L v ((s.cf.to+s.lo k:Nat):Int) ((s.cf.to+s.hi k:Nat):Int)↔((s.cf.to+s.lo k)/s.pg<=p/\p<=(s.cf.to+s.hi k-1)/s.pg)/\v.pt.getD p 0=0:=λp=>by
  unfold J5L;rw[μ ⟨hE,by omega⟩,VWG h.mid.ok Y X,h.mid.pg]
 have hl2:v2.pt.length=v.pt.length:=by rw[hC.sm.pt,hG.len h.mid.ok]
 refine⟨⟨hs.mv _ (υ ..),(hR.mid.mvd _).congr (λi hi hd=>?_) (λi hi hu=>?_)⟩,hR.rm.trans (hC.sm.rm.trans hG.rm),λp hp=>?_,λa ha hab hsr=>?_⟩
 ·rw[hD i hi,<-Sl.is_put hk];exact hd
 ·rw[hU i hi,<-Sl.is_put hk];exact hu
 ·rw[hR.map p Ω,hC.sm.pt,hG.ma p hp,hF]
  have e:(v.pt.getD p 0≠0\/((s.cf.to+s.lo k)/s.pg<=p/\p<=(s.cf.to+s.hi k-1)/s.pg)/\v.pt.getD p 0=0)↔(v.pt.getD p 0≠0\/((s.cf.to+s.lo k)/s.pg<=p/\p<=(s.cf.to+s.hi k-1)/s.pg)):=by
   constructor
   ·rintro(a|⟨a,-⟩)
    ·exact .inl a
    ·exact .inr a
   ·rintro(a|a)
    ·exact .inl a
    ·by_cases h0:v.pt.getD p 0=0
     ·exact .inr ⟨a,h0⟩
     ·exact .inl h0
  rw[e];refine and_congr_right λ_=>not_congr ?_;constructor
  ·rintro⟨i,hi,h1,h2,h3,h4⟩;have h1:(!s.is i)=true:=h1;rw[hU i hi]at h2;refine⟨i,hi,?_,h3,λj hj he=>?_⟩
   ·cases e1:s.is i <;> cases e2:s.inB k i <;> simp_all
   ·have:=mt (Sl.on_zero h4 hj) (λg=>g he);rw[hU j hj]at this;cases e1:s.is j <;> cases e2:s.inB k j <;> simp_all
  ·rintro⟨i,hi,h1,h3,h4⟩;refine⟨i,hi,?_,by rw[hU i hi,h1];simp,h3,Sl.on_iff.2 λj hj hu he=>?_⟩
   ·show (!s.is i)=true
    have:i/s.cf.bk=k:=by simpa[Sl.inB]using h1
    unfold Sl.is;rw[this,_hm];rfl
   ·rw[hU j hj]at hu;rcases h4 j hj he with h|h <;> simp[h]at hu
 ·obtain⟨e1,e2⟩:=hR.oth a ha hsr;have e3:=hC.oth a hab;have e4:=hG.ldV_all h.mid.ok (a:=a) (by rw[h.mid.n];exact ha);have e5:=hG.ldE h.mid.ok (a:=a) (by rw[h.mid.n];exact ha);rw[e1,e3,e4,e2,hC.sm.ldE,e5];exact⟨rfl,λh=>by rw[h];split <;> rfl⟩
end
end
section
open Go.RowKit Go.Shelf Word
structure ZH1 where
 F:Nat
 G:Nat
 p:Nat
 m:Nat
 p1:Nat
 b1:Nat
 p2:Nat
 b2:Nat
 bs:Nat
 bm:Nat
 cm:Nat
 bw:Nat
def bls(l:List Bool):List Value:=l.map Value.bool
theorem JOD{l:List Bool}{i:Nat}(h:i<l.length):(bls l)[i]?=some (.bool (at_ l i)):=by simp[bls,at_,h]
theorem QPU(l:List Bool)(i:Nat)(b:Bool):(bls l).set i (.bool b)=bls (l.set i b):=by simp[bls,ξG]
def Qa0(q:Nat)(c:Cf)(z:ZH1)(nb lf ft ah:Nat):List Value:=
 [.pointer (some ⟨q,0,none⟩),.int .i64 c.fr,.int .i64 c.tp,.int .i64 c.to,.int .i64 c.lm,.int .i64 c.bk,.int .i64 c.st,.int .i64 c.ah,
  .pointer (some ⟨z.p,0,none⟩),.pointer (some ⟨z.m,0,none⟩),.slice (some ⟨z.bm,0,none⟩) nb z.cm,.int .i64 lf,.int .i64 ft,.int .i64 ah,.map (some z.bw),.map (some z.bs)]
def Yeq(w:World)(b:Nat)(s:Sl):Prop:=∃n f,YER prog 3 w b n f/\∀j (h:j<s.L.length),f (s.L[j].1:Nat)=some (X79 (s.hd s.L[j].1))
def JlK(w:World)(b:Nat)(s:Sl)(U:Nat->Bool):Prop:=∃n f,YER prog 3 w b n f/\n+cnt U (sizes s.L)<=2*sizes s.L/\∀q:Nat,(f (q:Nat)).getD (.int .i64 0)=.int .i64 (s.on U q:Nat)
theorem Yeq.touch{w w':World}{T:Nat->Prop}{b:Nat}{s:Sl}(h:Yeq w b s)(t:XF4 T w w')(hT:¬T b):Yeq w' b s:=by
 obtain⟨n,f,h1,h2⟩:=h;exact⟨n,f,h1.touch t hT,h2⟩
theorem JlK.touch{w w':World}{T:Nat->Prop}{b:Nat}{s:Sl}{U:Nat->Bool}(h:JlK w b s U)(t:XF4 T w w')(hT:¬T b):JlK w' b s U:=by
 obtain⟨n,f,h1,h2⟩:=h;exact⟨n,f,h1.touch t hT,h2⟩
structure JxE(w:World)(R:Nat->Prop)(y:Nat)(z:ZH1):Prop where
 o1:z.m<z.F
 o2:z.p1<z.F
 o3:z.b1<z.F
 o4:z.p2<z.F
 o5:z.b2<z.F
 o6:z.F<=z.G
 o7:z.G<=w.heap.size
 g1:z.G<=y
 g2:z.G<=z.bm
 g3:z.G<=z.bw
 g4:z.G<=z.bs
 n1:y≠z.bm
 n2:y≠z.bw
 n3:y≠z.bs
 n4:z.bm≠z.bw
 n5:z.bm≠z.bs
 n6:z.bw≠z.bs
 r1:R y
 r2:R z.bm
 r3:R z.bw
 r4:R z.bs
 r5:R z.m
 r6:R z.p1
 r7:R z.b1
 r8:R z.p2
 r9:R z.b2
 rr:∀k,z.F<=k->k<z.G->R k
 lt:∀k,R k->k<w.heap.size
structure YNO(w:World)(R:Nat->Prop)(y q:Nat)(z:ZH1)(s:Sl)(U:Nat->Bool)(ml:List Bool)(lf ft ah:Nat):Prop where
 od:JxE w R y z
 rc:Rec w y 220 (Qa0 q s.cf z ml.length lf ft ah)
 pl:∀W,XF4 (λi=>i<z.F\/z.G<=i) w W->Pln W z.F z.p s.n s.cf.bk s.cf.to s.L
 ex:Ext w z.m z.p1 z.b1 z.p2 z.b2 s.n s.L
 sh:Yeq w z.bs s
 wd:JlK w z.bw s U
 mv:w.ownsRow 0 4 1 (.slice (some ⟨z.bm,0,none⟩) ml.length z.cm) ml.length (bls ml)
abbrev Cyc(w:World)(R:Nat->Prop)(y q:Nat)(z:ZH1)(s:Sl):Prop:=YNO w R y q z s (λi=>!s.is i) s.mv s.lf s.ft (s.mvd-s.ft)
section
variable {w w':World} {R T:Nat->Prop} {y q:Nat} {z:ZH1} {s:Sl} {U:Nat->Bool} {ml:List Bool} {lf ft ah:Nat}
theorem JxE.gr(h:JxE w R y z)(hs:w.heap.size<=w'.heap.size):JxE w' R y z:=
 ⟨h.o1,h.o2,h.o3,h.o4,h.o5,h.o6,ζb h.o7 hs,h.g1,h.g2,h.g3,h.g4,h.n1,h.n2,h.n3,h.n4,h.n5,h.n6,h.r1,h.r2,h.r3,h.r4,h.r5,h.r6,h.r7,h.r8,h.r9,h.rr,λk hk=>ω (h.lt k hk) hs⟩
theorem YNO.touch(h:YNO w R y q z s U ml lf ft ah)(t:XF4 T w w')(hT:∀k,R k->¬T k):YNO w' R y q z s U ml lf ft ah:=by
 have o:=h.od;refine⟨o.gr t.size,h.rc.touch t (hT _ o.r1),λW tW=>h.pl W ?_,h.ex.touch t (hT _ o.r5) (hT _ o.r6) (hT _ o.r7) (hT _ o.r8) (hT _ o.r9),h.sh.touch t (hT _ o.r4),h.wd.touch t (hT _ o.r3),Zs2 h.mv t (λg hg=>by cases hg;exact hT _ o.r2)⟩;refine(t.mono (λi _ hi=>?_)).trans tW;rcases γ i z.F with h1|h1
 ·exact .inl h1
 ·rcases γ i z.G with h2|h2
  ·exact absurd hi (hT _ (o.rr i h1 h2))
  ·exact .inr h2
theorem YNO.gr(h:YNO w R y q z s U ml lf ft ah)(g:Gr w w'):YNO w' R y q z s U ml lf ft ah:=h.touch (g.touch (λ_=>False)) (λ_ _ h=>h)
theorem YNO.setR(h:YNO w R y q z s U ml lf ft ah){lf' ft' ah':Nat}(t:XF4 (λi=>i=y) w w')(hr:Rec w' y 220 (Qa0 q s.cf z ml.length lf' ft' ah')):YNO w' R y q z s U ml lf' ft' ah':=by
 have o:=h.od;refine⟨o.gr t.size,hr,λW tW=>h.pl W ((t.mono (λi _ hi=>.inr (by rw[hi];exact o.g1))).trans tW),h.ex.touch t ?_ ?_ ?_ ?_ ?_,h.sh.touch t (λe=>o.n3 e.symm),h.wd.touch t (λe=>o.n2 e.symm),Zs2 h.mv t (λg hg=>by cases hg;exact λe=>o.n1 e.symm)⟩
 all_goals (have:=o.o1;have:=o.o2;have:=o.o3;have:=o.o4;have:=o.o5;have:=o.o6;have:=o.g1;omega)
theorem YNO.setW(h:YNO w R y q z s U ml lf ft ah){U':Nat->Bool}(t:XF4 (λi=>i=z.bw) w w')(hw:JlK w' z.bw s U'):YNO w' R y q z s U' ml lf ft ah:=by
 have o:=h.od;refine⟨o.gr t.size,h.rc.touch t o.n2,λW tW=>h.pl W ((t.mono (λi _ hi=>.inr (by rw[hi];exact o.g3))).trans tW),h.ex.touch t ?_ ?_ ?_ ?_ ?_,h.sh.touch t (λe=>o.n6 e.symm),hw,Zs2 h.mv t (λg hg=>by cases hg;exact o.n4)⟩
 all_goals (have:=o.o1;have:=o.o2;have:=o.o3;have:=o.o4;have:=o.o5;have:=o.o6;have:=o.g3;omega)
theorem YNO.setM(h:YNO w R y q z s U ml lf ft ah){ml':List Bool}(hl:ml'.length=ml.length)(t:XF4 (λi=>i=z.bm) w w')(hm:w'.ownsRow 0 4 1 (.slice (some ⟨z.bm,0,none⟩) ml'.length z.cm) ml'.length (bls ml')):YNO w' R y q z s U ml' lf ft ah:=by
 have o:=h.od;refine⟨o.gr t.size,?_,λW tW=>h.pl W ((t.mono (λi _ hi=>.inr (by rw[hi];exact o.g2))).trans tW),h.ex.touch t ?_ ?_ ?_ ?_ ?_,h.sh.touch t (λe=>o.n5 e.symm),h.wd.touch t (λe=>o.n4 e.symm),hm⟩
 ·rw[hl];exact h.rc.touch t o.n1
 all_goals (have:=o.o1;have:=o.o2;have:=o.o3;have:=o.o4;have:=o.o5;have:=o.o6;have:=o.g2;omega)
theorem YNO.plan(h:YNO w R y q z s U ml lf ft ah):Pln w z.F z.p s.n s.cf.bk s.cf.to s.L:=h.pl w (XF4.refl _ _)
theorem YNO.same{s':Sl}(h:YNO w R y q z s U ml lf ft ah)(h1:s'.n=s.n)(h2:s'.cf=s.cf)(h3:s'.L=s.L)(h4:s'.hd=s.hd)(h5:s'.pg=s.pg):YNO w R y q z s' U ml lf ft ah:=by
 cases s;cases s';simp only at h1 h2 h3 h4 h5;subst h1 h2 h3 h4 h5;exact⟨h.od,h.rc,h.pl,h.ex,h.sh,h.wd,h.mv⟩
end
end
section
open Go.RowKit Go.Shelf Word
section
variable {w:World} {R S:Nat->Prop} {y q:Nat} {z:ZH1} {s:Sl} {U:Nat->Bool} {ml:List Bool} {lf ft ah:Nat} {v:Vm}
theorem XLA(hC:YNO w R y q z s U ml lf ft ah)(a:Int):V4y prog 159 #[.pointer (some ⟨y,0,none⟩),.int .i64 a] w (.int .i64 (toV s.L s.cf.to a)):=by
 obtain⟨h1,h2,h3,f,c0,c1,hF⟩:=hC.plan;have x8:=hC.rc.cc 8;have xl:=hC.rc.lt;have V:=hid (YY0 c0);have X:=hid (Vcy hF a);obtain⟨t,ht⟩:∃t,t=toV s.L s.cf.to a:=⟨_,rfl⟩;obtain⟨te,Y⟩:∃te,te=toE s.L a:=⟨_,rfl⟩;rw[<-ht,<-Y]at X;rw[<-ht];clear hC hF h1 h2 h3 c0 c1 ht Y;unfold V4y;go_enter func159,ntmps159
 go_wp2_with(first
  | (go_at_call 156;refine JmE (V.o) ?_)
  | (go_at_call 135;refine(X.o).mono ?_;rintro e w2 ⟨rfl,Z⟩;have J:=hid Z;clear Z))
 go_ret;exact⟨rfl,J.o⟩
theorem QOX{p f k:Nat}(hs:p+f+k<=255){m:Nat}:(Yoq ⟨p,f,k⟩ ((m:Int)-1)==1)=decide (1<=m/\m<=p):=by
 by_cases h:1<=m/\m<=p
 ·rw[κ h,VaX Ω (by show (m:Int)-1<(p:Int);omega) (by show (p:Int)<Z3o ⟨p,f,k⟩;rw[show Z3o ⟨p,f,k⟩=1+(p:Int)+f+k from μ (JJj hs)];omega)];rfl
 ·rw[ψ h];simpa using VgZ (p:=p) (f:=f) (k:=k) (i:=(m:Int)-1) (λh'=>h ⟨by omega,by omega⟩)
theorem Jmu{p f k:Nat}(hs:p+f+k<=255){m:Nat}(hm:m<=4294967296)(w:World):V4y prog 233 #[X79 ⟨p,f,k⟩,.int .i64 m] w (.bool (decide (1<=m/\m<=p))):=by
 have Y:=hid (λ(W:World)=>VNI hs ((m:Int)-1) W);have J:=hid (QOX (f:=f) (k:=k) hs (m:=m));obtain⟨kd,V⟩:∃kd,kd=Yoq ⟨p,f,k⟩ ((m:Int)-1):=⟨_,rfl⟩;rw[<-V]at Y J;unfold X79 at Y⊢;clear V;obtain⟨b,hb⟩:∃b,b=decide (1<=m/\m<=p):=⟨_,rfl⟩;rw[<-hb]at J⊢;have G:(kd==1)=b:=J.o;clear hb;have X:=Rec.new w 63 [.int .i64 p,.int .i64 f,.int .i64 k];simp only[List.toArray]at X;unfold V4y;go_enter func233,ntmps233;go_upto_region 1 with(fail);obtain⟨w2,Z⟩:∃w2,w2=w.alloc (.cells #[.int .i64 p,.int .i64 f,.int .i64 k] 63):=⟨_,rfl⟩;have O:Gr w w2:=by rw[Z];exact(Gr.refl w).alloc _
 rw[<-Z]at X⊢;have y0:=X.cc 0;have y1:=X.cc 1;have y2:=X.cc 2;have yl:=X.lt;have I:=hid O;clear Z X O;go_wp2_with(go_at_call 109;refine(Y.o _).mono ?_;rintro e w3 ⟨rfl,N⟩;have E:=hid (I.o.trans N);clear N);go_ret;exact⟨by first|rfl|rw[G],E.o⟩
theorem Ji2(hC:YNO w R y q z s U ml lf ft ah)(hst:Jdn s)(hV:QXZ w S q v){p f k:Nat}(hs:p+f+k<=255){a st m:Nat}(ha:a=st+m)(hm:a<=4294967296)(hx:1<=m/\m<=p->v.ldV (a:Nat)<=2147483647):
  V4y prog 216 #[.pointer (some ⟨y,0,none⟩),.int .i64 a,.int .i64 st,X79 ⟨p,f,k⟩] w (.int .u64 (cvH s.L s.cf.to ⟨p,f,k⟩ m (v.ldV (a:Nat)):Nat)):=by
 have HC:=hid hC;have V:=hid (λ(W:World) (g:Gr w W)=>VW8 (hV.gr g) (a:Int));have O:=hid (λ(W:World)=>Jmu (f:=f) (k:=k) hs (m:=m) Ω W);have Xn:Hid (v.ldV (a:Nat)<18446744073709551616):=⟨hV.ok.ldV_lt _⟩;have Xp:=hid hst;have HR:=hid (Rec.new w 63 [.int .i64 p,.int .i64 f,.int .i64 k]);simp only[List.toArray]at HR;unfold X79 at O;unfold X79;obtain⟨x,Xc⟩:∃x,x=v.ldV (a:Nat):=⟨_,rfl⟩;rw[<-Xc]at hx Xn V⊢;obtain⟨Xg,Z⟩:∃Xg,Xg=cvH s.L s.cf.to ⟨p,f,k⟩ m x:=⟨_,rfl⟩;have N:=hid Z;rw[<-Z];obtain⟨le,Xh⟩:∃le,le=v.ldE (a:Nat):=⟨_,rfl⟩;rw[<-Xh]at V;clear Xc Xh hV hC hst Z;have Xq:(a:Int)-(st:Int)=(m:Int):=Ω
 clear ha;unfold V4y;go_enter func216,ntmps216;go_upto_region 1 with(fail);obtain⟨w2,Xb⟩:∃w2,w2=w.alloc (.cells #[.int .i64 p,.int .i64 f,.int .i64 k] 63):=⟨_,rfl⟩;have G:Gr w w2:=by rw[Xb];exact(Gr.refl w).alloc _
 rw[<-Xb]at HR⊢;obtain⟨hb,Xf⟩:∃hb,hb=w.heap.size:=⟨_,rfl⟩;rw[<-Xf]at HR⊢;have Y:=hid G;have x0:=(HC.o.rc.gr G).cell (j:=0) rfl;have xl:=(HC.o.rc.gr G).lt;clear Xb G Xf;by_cases Xa:x=0
 ·subst Xa;have hcv:cvH s.L s.cf.to ⟨p,f,k⟩ m 0=0:=by unfold cvH;rw[ϑ (λh=>h.2 rfl)]
  rw[<-N.o]at hcv;subst hcv;clear hx Xq;go_wp2_with(go_at_call 176;refine(V.o _ Y.o).mono ?_;rintro e w3 ⟨rfl,X⟩;have I:=hid (Y.o.trans X);clear X);go_ret;exact⟨rfl,I.o⟩
 ·have d2:((x:Int) !=0)=true:=by simp;exact Xa
  have Xl:=hid Xa;clear Xa;by_cases hp:1<=m/\m<=p
  ·rw[κ hp]at O;have Xi:=hx hp;have hcv:cvH s.L s.cf.to ⟨p,f,k⟩ m x=(toV s.L s.cf.to (x:Nat)).toNat:=by unfold cvH;rw[μ ⟨⟨hp.1,by show (m:Int)<=(p:Int);omega⟩,Xl.o⟩]
   rw[<-N.o]at hcv;subst hcv;have Xj:=hid (λ(W:World) (g:Gr w W)=>XLA (HC.o.gr g) (x:Int));have Xd:=Xxa s.L s.cf.to (x:Int);have Xm:=Xp.o.to_lt (x:Int);obtain⟨t,ht⟩:∃t,t=toV s.L s.cf.to (x:Int):=⟨_,rfl⟩;have Xo:=hid ht;rw[<-ht]at Xj Xd Xm;have hwy:IntKind.u64.wrap t=t:=by rw[ξF];omega
   have hwx:IntKind.i64.wrap (x:Int)=(x:Int):=ζA _ Ω;clear hx hp ht Xi
   go_wp2_with(first
    | (go_at_call 176;refine(V.o _ Y.o).mono ?_;rintro e w3 ⟨rfl,X⟩;have I:=hid (Y.o.trans X);have RR:=HR.o.gr X;have y0:=RR.cc 0;have y1:=RR.cc 1;have y2:=RR.cc 2;have yl:=RR.lt;clear X RR)
    | (go_at_call 233;refine(O.o _).mono ?_;rintro e w4 ⟨rfl,J⟩;have E:=hid (I.o.trans J);clear J)
    | (go_at_call 159;refine(Xj.o _ E.o).mono ?_;rintro e w5 ⟨rfl,Xe⟩;have Xk:=hid (E.o.trans Xe);clear Xe))
   go_ret;exact⟨by rw[<-Xo.o,ξx Xd];rfl,Xk.o⟩
  ·rw[ψ hp]at O;have hcv:cvH s.L s.cf.to ⟨p,f,k⟩ m x=x:=by unfold cvH;rw[ϑ (λh=>hp ⟨h.1.1,by have:(m:Int)<=(p:Int):=h.1.2;omega⟩)]
   rw[<-N.o]at hcv;subst hcv;clear hx hp
   go_wp2_with(first
    | (go_at_call 176;refine(V.o _ Y.o).mono ?_;rintro e w3 ⟨rfl,X⟩;have I:=hid (Y.o.trans X);have RR:=HR.o.gr X;have y0:=RR.cc 0;have y1:=RR.cc 1;have y2:=RR.cc 2;have yl:=RR.lt;clear X RR)
    | (go_at_call 233;refine(O.o _).mono ?_;rintro e w4 ⟨rfl,J⟩;have E:=hid (I.o.trans J);clear J))
   go_ret;exact⟨rfl,E.o⟩
end
end
section
open Go.RowKit Go.Shelf Word
theorem JNO(w:World):(zeroValue 63).run prog w=.ok (.agg #[.int .i64 0,.int .i64 0,.int .i64 0]) w:=by kernel_rfl
theorem QJG{w:World}{b:Nat}{s:Sl}(h:Yeq w b s){j:Nat}(hj:j<s.L.length)(hb:s.L[j].1<=4294967296):
  (Instr.lookup 218 (.map (some b)) (.int .i64 (s.L[j].1:Nat)) false).run prog w=.ok (X79 (s.hd s.L[j].1)) w:=by
 obtain⟨n,f,h1,h2⟩:=h;rw[h1.look JKr underlying218 underlying3 (JNO w) (WalkArith.wf_i64 Ω),h2 j hj];rfl
theorem Jfv{w:World}{b:Nat}{s:Sl}{U:Nat->Bool}(h:JlK w b s U){q:Nat}(hb:q<=4294967296):
  (Instr.lookup 119 (.map (some b)) (.int .i64 q) false).run prog w=.ok (.int .i64 (s.on U q:Nat)) w:=by
 obtain⟨n,f,h1,-,h2⟩:=h;rw[h1.look JKr underlying119 underlying3 (YqT w) (WalkArith.wf_i64 Ω),h2 q]
structure CpI(w wr:World)(S:Nat->Prop)(q:Nat)(s:Sl)(D U:Nat->Bool)(lo hi:Nat)(v1:Vm)(m hb:Nat)(p f k:Nat):Prop where
 t:XF4 S w wr
 vm:∃vx,QXZ wr (ZOk S w) q vx/\QsS s D U lo hi v1 vx m
 h:Rec wr hb 63 [.int .i64 p,.int .i64 f,.int .i64 k]
def VF5(w:World)(S:Nat->Prop)(q:Nat)(s:Sl)(D U:Nat->Bool)(lo hi:Nat)(v1:Vm)(m:Nat)(e:Ending)(w':World):Prop:=
 e=.returned (.tuple #[])/\XF4 S w w'/\∃v'',QXZ w' (ZOk S w) q v''/\QsS s D U lo hi v1 v'' m
def Obj(s:Sl)(a st sz p f k:Nat):Prop:=∃j,∃hj:j<s.L.length,st=s.L[j].1/\sz=s.L[j].2/\s.hd s.L[j].1=⟨p,f,k⟩/\st<=a/\a<st+sz
theorem QGb{s:Sl}(hst:Jdn s){i a st sz p f k:Nat}(hi:i<sizes s.L)(ha:Vjz s.L i=a)(ho:Obj s a st sz p f k):s.off i=a-st/\s.hdr i=⟨p,f,k⟩/\p+f+k<=255:=by
 obtain⟨j,hj,rfl,rfl,h3,h4,h5⟩:=ho;obtain⟨j',Y,m,p',f',k',e1,e2,e3,e4,e5,e6,e7,e8,e9⟩:=hst.obj hi
 have X:s.L[j]=s.L[j']:=by
  rcases hst.good.disj (χ hj) (χ Y)with e|e|e
  ·exact e
  ·omega
  ·omega
 rw[e5,e6,<-X,h3];rw[<-X,h3]at e7;rw[<-X]at e4;refine⟨by omega,rfl,?_⟩;cases e7;exact e8
theorem Zm8{s:Sl}(hst:Jdn s){i a:Nat}(hi:i<sizes s.L)(ha:Vjz s.L i=a):∃j,∃hj:j<s.L.length,∃p f k:Nat,ZH8 s.L (a:Nat)=j/\s.hd s.L[j].1=⟨p,f,k⟩/\Obj s a s.L[j].1 s.L[j].2 p f k:=by
 obtain⟨j',X,m,p',f',k',e1,e2,e3,e4,e5,e6,e7,e8,e9⟩:=hst.obj hi;have:=QFu hst.good hi;rw[ha,e1]at this;exact⟨j',X,p',f',k',this,e7,j',X,rfl,rfl,e7,by omega,by omega⟩
section
variable {w:World} {R S:Nat->Prop} {y q:Nat} {z:ZH1} {s:Sl} {U D Uo:Nat->Bool} {ml:List Bool} {lf ft ah:Nat} {v1 v':Vm} {lo hi m n f:Nat}
theorem XAM(hC:YNO w R y q z s U ml lf ft ah)(hst:Jdn s)(hT:VRW w)(htS:¬S 1)(hV:QXZ w S q v')(hdis:∀k,R k->¬S k)(hcp:QsS s D Uo lo hi v1 v' m)
  (hn:lo+m+n<=hi) (hhi:hi<=sizes s.L) (hU:∀i,lo<=i->i<hi->Uo i=true) (hl:∀i,lo<=i->i<hi->v1.ldE ((s.cf.to+i:Nat):Int)=0) (hw:∀i,i<n->Vjz s.L (lo+m+i)=f+i):
  Calls prog 182 #[.pointer (some ⟨y,0,none⟩),.agg #[.int .i64 f,.int .i64 ((s.cf.to+(lo+m):Nat):Int),.int .i64 n]] w (VF5 w S q s D Uo lo hi v1 (m+n)):=by
 have HC:=hid hC;have E:=hid hst;have HT:=hid hT;have Yp:=hid htS;have HV:=hid hV.cut;have Yn:=hid hdis;have Yr:=hid hcp;have HU:=hid hU;have HL:=hid hl;have HW:=hid hw;have HB:=hid (ν hn hhi);have hn2:=hst.n2;have hNn:=hst.N_le
 have hfb:n=0\/f+n<=1048576:=by
  rcases ζE n with h|h
  ·exact .inl h
  ·right;have h1:=hw (n-1) Ω;have h2:=(hst.srcs (i:=lo+m+(n-1)) Ω).2.2;omega
 have Xm:s.cf.to+(lo+m)<=1048576:=by have:=hst.fit;have:=hst.cf.ln;omega
 obtain⟨t,ht⟩:∃t,t=s.cf.to+(lo+m):=⟨_,rfl⟩;have Ys:=hid ht;have hnb:n<=1048576:=Ω
 rw[<-ht]at Xm⊢;clear hC hst hT htS hV hdis hcp hU hl hw ht hn hhi;have RP:=Rec.new w 260 [.int .i64 f,.int .i64 t,.int .i64 n];simp only[List.toArray]at RP;go_enter func182,ntmps182;go_upto_region 2 with(fail);obtain⟨w1,Xn⟩:∃w1,w1=w.alloc (.cells #[.int .i64 f,.int .i64 t,.int .i64 n] 260):=⟨_,rfl⟩;have Yi:Gr w w1:=by rw[Xn];exact(Gr.refl w).alloc _
 have Yt:w1.heap.size=w.heap.size+1:=by rw[Xn,η]
 have Yl:Rec w1 w.heap.size 260 [.int .i64 f,.int .i64 t,.int .i64 n]:=by rw[Xn];exact RP
 rw[<-Xn];clear Xn RP;have RH:=Rec.new w1 63 [.int .i64 0,.int .i64 0,.int .i64 0];simp only[List.toArray]at RH;obtain⟨w2,Xt⟩:∃w2,w2=w1.alloc (.cells #[.int .i64 0,.int .i64 0,.int .i64 0] 63):=⟨_,rfl⟩;have Yb:Gr w1 w2:=by rw[Xt];exact(Gr.refl w1).alloc _
 rw[<-Xt]at RH⊢;rw[Yt]at RH;have Xr:=Yl.gr Yb;have Yj:=hid (Yi.trans Yb);have HS2:Hid (w.heap.size+2=w2.heap.size):=⟨by rw[Xt,η];omega⟩;clear Xt Yi Yb Yl;have q2:=Xr.cc 2;have ql:=Xr.lt;have Xx:=hid Xr;have Ym:Hid (CpI w w2 S q s D Uo lo hi v1 (m+0) (w.heap.size+1) 0 0 0):=⟨⟨Yj.o.touch _,⟨v',HV.o.gr Yj.o,Yr.o⟩,RH⟩⟩;have Yh:=hid HC.o.od.lt;clear Xr RH;go_upto_region 3 with(fail);clear q2 ql
 go_loopw [4,5,12] (λs4 s5 s12 wr=>∃(i st sz p f' k:Nat),i<=n/\Hid (CpI w wr S q s D Uo lo hi v1 (m+i) (w.heap.size+1) p f' k)/\Hid ((i=0/\st=0/\sz=0)\/Obj s (f+i-1) st sz p f' k)/\Hid (Rec wr w.heap.size 260 [.int .i64 f,.int .i64 t,.int .i64 n])/\s4=.int .i64 st/\s5=.int .i64 sz/\s12=.int .i64 i) (λ_ _ s12 _=>n-(intOf s12).toNat)
 case atStart=>exact⟨0,0,0,0,0,0,ζh _,Ym,⟨.inl ⟨rfl,rfl,rfl⟩⟩,Xx,rfl,rfl,rfl⟩
 case round=>
  obtain⟨i,st,sz,ph,fh,kh,hin,HI,HO,G,rfl,rfl,rfl⟩:=hrel;clear Xx Ym;have hpl:=G.o.lt;by_cases Ye:i<n
  ·have Xu:=hid Ye;have hiI:(i:Int)<(n:Int):=Ω
   have hfi:f+i<=1048576:=Ω
   have Xd:=HW.o i Ye;have Xa:lo+m+i<sizes s.L:=by have:=HB.o;omega
   have N:YNO wr R y q z s U ml lf ft ah:=HC.o.touch HI.o.t Yn.o;have Xm:=HT.o.touch' HI.o.t Yp.o
   have Xz:Hid (∀(W:World) (st sz p f' k:Nat),XF4 (λb=>b=w.heap.size+1) wr W->Obj s (f+i) st sz p f' k->V4y prog 216 #[.pointer (some ⟨y,0,none⟩),.int .i64 ((f:Int)+(i:Int)),.int .i64 st,.agg #[.int .i64 p,.int .i64 f',.int .i64 k]] W (.int .u64 (s.c (lo+m+i):Nat))):=⟨λW st sz p f' k tW ho=>by
    obtain⟨vx,Xb,Xc⟩:=HI.o.vm;obtain⟨e1,e2,e3⟩:=QGb E.o Xa Xd ho;obtain⟨j,hj,-,-,-,o4,o5⟩:=ho;obtain⟨-,m2,m3⟩:=Xc.mid.src (lo+m+i) Xa (HU.o _ Ω (by have:=HB.o;omega));rw[Xd]at m2 m3;have:=Ji2 (f:=f') (k:=k) (N.touch tW (λb hb h=>by have:=Yh.o b hb;omega)) E.o (Xb.touch tW (λb hb _ h=>by have:=hb.2;omega)) (p:=p) e3 (a:=f+i) (st:=st) (m:=f+i-st) Ω Ω (λh=>m3 ⟨by rw[e1];exact h.1,by rw[e1,e2];show ((f+i-st:Nat):Int)<=(p:Int);omega⟩);unfold Sl.cv at m2;rw[e1,e2]at m2;rw[m2]at this
    exact this⟩
   have Xp:Hid (∀(W:World),XF4 (λb=>b=w.heap.size+1) wr W->Calls prog 177 #[.pointer (some ⟨q,0,none⟩),.int .i64 ((t:Int)+(i:Int)),.int .u64 (s.c (lo+m+i):Nat)] W λe w'=>∃er,e=.returned (.int .i64 er)/\XF4 (ZOk S w) W w'/\∃vx,QXZ w' (ZOk S w) q vx/\QsS s D Uo lo hi v1 vx (m+i+1)):=⟨λW tW=>by
    obtain⟨vx,Xb,Xc⟩:=HI.o.vm;obtain⟨-,m2,-⟩:=Xc.mid.src (lo+m+i) Xa (HU.o _ Ω (by have:=HB.o;omega));have Yf:s.c (lo+m+i)<18446744073709551616:=by rw[<-m2];exact E.o.cv_lt _ (Xb.ok.ldV_lt _)
    refine(Qpx (Xb.touch tW (λb hb _ h=>by have:=hb.2;omega)) ((t:Int)+(i:Int)) Yf).mono ?_;rintro e w' ⟨rfl,ht,hv⟩;refine⟨_,rfl,ht,_,hv,?_⟩;have:=Xc.step E.o (by have:=HB.o;omega) HB.o.2 (HL.o _ Ω (by have:=HB.o;omega)) (x:=s.c (lo+m+i)) (by rw[ξO lo m i]) Yf;rw[show ((t:Int)+(i:Int))=((s.cf.to+(lo+(m+i)):Nat):Int)by rw[Ys.o];omega]
    exact this⟩
   have HK:Hid (∀(W:World) (p' Y k':Nat),XF4 (λb=>b=w.heap.size+1) wr W->Rec W (w.heap.size+1) 63 [.int .i64 p',.int .i64 Y,.int .i64 k']->(W.cell? ⟨y,0,none⟩=some (.pointer (some ⟨q,0,none⟩))/\W.cell? ⟨w.heap.size,1,none⟩=some (.int .i64 t))/\W.cell? ⟨w.heap.size+1,0,none⟩=some (.int .i64 p')/\W.cell? ⟨w.heap.size+1,1,none⟩=some (.int .i64 Y)/\W.cell? ⟨w.heap.size+1,2,none⟩=some (.int .i64 k')):=⟨λW p' Y k' tW hr=>by
    have h1:=(N.touch tW (λb hb h=>by have:=Yh.o b hb;omega)).rc;have h2:=G.o.touch tW Ω
    exact⟨⟨h1.cc 0,h2.cc 1⟩,hr.cc 0,hr.cc 1,hr.cc 2⟩⟩
   have hsb:st+sz<=1048576:=by
    rcases HO.o with h|⟨j,hj,h1,h2,-⟩
    ·omega
    ·have:=(E.o.good.sz _ (χ hj)).2;omega
   have q0:=G.o.cc 0;have q1:=G.o.cc 1;obtain⟨c,hc⟩:∃c,c=s.c (lo+m+i):=⟨_,rfl⟩;rw[<-hc]at Xz Xp;clear hc;by_cases Xs:st+sz<=f+i
   ·have d1:decide ((st:Int)+(sz:Int)<=(f:Int)+(i:Int))=true:=κ Ω;have d2:decide (st+sz<=f+i)=true:=κ Xs;obtain⟨j,hj,p',Y,k',g1,g2,g3⟩:=Zm8 E.o Xa Xd;have Xf:=hid (Q6S N.ex Xm ((f:Int)+(i:Int)));rw[show (f:Int)+(i:Int)=((f+i:Nat):Int)by omega,g1,VTf hj]at Xf;have Xq:=QJG N.sh hj (by have:=(E.o.good.sz _ (χ hj)).2;omega);rw[g2]at Xq;unfold X79 at Xq;have O:=hid g3;obtain⟨Xy,Xv⟩:∃Xy,Xy=s.L[j].1:=⟨_,rfl⟩;obtain⟨Yc,Xw⟩:∃Yc,Yc=s.L[j].2:=⟨_,rfl⟩;rw[<-Xv]at Xf O Xq;rw[<-Xw]at Xf O;rw[show ((f+i:Nat):Int)=(f:Int)+(i:Int)by omega]at Xf;have x3:=N.rc.cc 9;have x9:=N.rc.cc 15;have xl:=N.rc.lt;have Yq:=HI.o.h.cc 0;have Yx:=HI.o.h.cc 1;have Yv:=HI.o.h.cc 2;have Yu:=HI.o.h.free;have Yo:=HI.o.h.lt;have Yg:=hid (((HI.o.h.set 0 (.int .i64 p')).set 1 (.int .i64 Y)).set 2 (.int .i64 k'));clear Xs N Xm g1 g2 g3 Xv Xw Xd Xa;go_upto_region 9 with(go_at_call 189;refine JmE (Xf.o) ?_)
    have tB:XF4 (λb=>b=w.heap.size+1) wr (((wr.setCell ⟨w.heap.size+1,0,none⟩ (.int .i64 p')).setCell ⟨w.heap.size+1,1,none⟩ (.int .i64 Y)).setCell ⟨w.heap.size+1,2,none⟩ (.int .i64 k')):=
     (((XF4.refl (λb=>b=w.heap.size+1) wr).setCell (a:=⟨w.heap.size+1,0,none⟩) (λ_=>rfl) _).setCell (a:=⟨w.heap.size+1,1,none⟩) (λ_=>rfl) _).setCell (a:=⟨w.heap.size+1,2,none⟩) (λ_=>rfl) _
    obtain⟨wB,Ya⟩:∃wB,wB=((wr.setCell ⟨w.heap.size+1,0,none⟩ (.int .i64 p')).setCell ⟨w.heap.size+1,1,none⟩ (.int .i64 Y)).setCell ⟨w.heap.size+1,2,none⟩ (.int .i64 k'):=⟨_,rfl⟩;rw[<-Ya]at tB⊢;have Xh:Hid (Rec wB (w.heap.size+1) 63 [.int .i64 p',.int .i64 Y,.int .i64 k']):=⟨by rw[Ya];exact Yg.o⟩;have J:=hid tB;have Xk:Hid (∀W,Gr wB W->(W.cell? ⟨y,0,none⟩=some (.pointer (some ⟨q,0,none⟩))/\W.cell? ⟨w.heap.size,1,none⟩=some (.int .i64 t))/\W.cell? ⟨w.heap.size+1,0,none⟩=some (.int .i64 p')/\W.cell? ⟨w.heap.size+1,1,none⟩=some (.int .i64 Y)/\W.cell? ⟨w.heap.size+1,2,none⟩=some (.int .i64 k')):=⟨λW g=>HK.o W p' Y k' (J.o.trans (g.touch _)) (Xh.o.gr g)⟩;clear Ya tB Yg Xq x3 x9 xl Yq Yx Yv Yu Yo q0 q1;obtain⟨Sx,X,HS⟩:=ZJV.start λW'=>((W'.cell? ⟨y,0,none⟩=some (.pointer (some ⟨q,0,none⟩))/\W'.cell? ⟨w.heap.size,1,none⟩=some (.int .i64 t))/\W'.cell? ⟨w.heap.size+1,0,none⟩=some (.int .i64 p')/\W'.cell? ⟨w.heap.size+1,1,none⟩=some (.int .i64 Y)/\W'.cell? ⟨w.heap.size+1,2,none⟩=some (.int .i64 k'))
    have x1:=ZJV.fact X λ_ h=>h.1.1;have x2:=ZJV.fact X λ_ h=>h.1.2;have x3:=ZJV.fact X λ_ h=>h.2.1;have x4:=ZJV.fact X λ_ h=>h.2.2.1;have x5:=ZJV.fact X λ_ h=>h.2.2.2;have I:=HS.o (wB.drew) (Xk.o _ (Gr.refl wB).drew);have Xe:Inhabited (ZJV Sx):=⟨⟨_,I⟩⟩;clear X;refine Vv2 Sx 13 [([0,1,2,3,4,5,6,7,8,9,10,11],12),([],13)] [] (by kernel_rfl) (by kernel_rfl) I ?_;refine XGW ?_
    try simp only[XZy,ζ,ξ]
    repeat(go_big_quiet_step (fail))
    refine θ ?_;go_wp2_with((go_at_call 216;refine(Xz.o _ _ _ _ _ _ (J.o.trans ((Gr.refl wB).drew.touch _)) O.o).mono ?_;rintro e w4 ⟨rfl,Xj⟩;have Z:=hid ((Gr.refl wB).drew.trans Xj);clear Xj));refine⟨.inr (ZJV.of (HS.o _ (Xk.o _ Z.o))),?_⟩;refine XGW ?_
    try simp only[XZy,ζ,ξ]
    repeat(go_big_quiet_step (fail))
    refine θ ?_;go_wp2_with((go_at_call 177;refine(Xp.o _ (J.o.trans (Z.o.touch _))).mono ?_;rintro e w5 ⟨er,rfl,Xg,Yd,Xl,Xo⟩;have V:=hid Xg;have Xi:=hid (ν Xl Xo);clear Xg Xl Xo));refine⟨.inl trivial,?_⟩;refine Z9U ?_
    try simp only[XZy]
    repeat(go_big_quiet_step (fail))
    refine θ ?_;refine β ?_;clear x1 x2 x3 x4 x5 I Xe;clear HS Sx;go_wp2;go_roundw
    case rel=>
     have Yw:=V.o.size;refine⟨i+1,Xy,Yc,p',Y,k',Xu.o,⟨⟨(HI.o.t.trans' ((J.o.trans (Z.o.touch _)).mono (λb _ h=>h)) (λb hb h=>by omega)).trans' V.o (λb _ h=>h.1),⟨Yd,Xi.o.1,by rw[<-ξO];exact Xi.o.2⟩,((Xh.o.gr Z.o).touch V.o (λh=>by have:=h.2;omega))⟩⟩,⟨.inr (by rw[show f+(i+1)-1=f+i by omega];exact O.o)⟩,⟨((G.o.touch J.o Ω).gr Z.o).touch V.o (λh=>by have:=h.2;omega)⟩,?_,?_,?_⟩
     ·go_num
     ·go_num
     ·go_num
    case measure=>have:=Xu.o;simp[intOf];omega
   ·have d1:decide ((st:Int)+(sz:Int)<=(f:Int)+(i:Int))=false:=ψ Ω;have d2:decide (st+sz<=f+i)=false:=ψ Xs
    have Yk:Obj s (f+i) st sz ph fh kh:=by
     rcases HO.o with h|⟨j,hj,h1,h2,h3,h4,h5⟩
     ·omega
     ·exact⟨j,hj,h1,h2,h3,by omega,by omega⟩
    have O:=hid Yk;have J:Hid (XF4 (λb=>b=w.heap.size+1) wr wr):=⟨XF4.refl _ _⟩;have Xh:=hid HI.o.h;have Xk:Hid (∀W,Gr wr W->(W.cell? ⟨y,0,none⟩=some (.pointer (some ⟨q,0,none⟩))/\W.cell? ⟨w.heap.size,1,none⟩=some (.int .i64 t))/\W.cell? ⟨w.heap.size+1,0,none⟩=some (.int .i64 ph)/\W.cell? ⟨w.heap.size+1,1,none⟩=some (.int .i64 fh)/\W.cell? ⟨w.heap.size+1,2,none⟩=some (.int .i64 kh)):=⟨λW g=>HK.o W ph fh kh (J.o.trans (g.touch _)) (Xh.o.gr g)⟩;clear Xs N Xm Xd Xa Yk;go_upto_region 9 with(fail);clear q0 q1;obtain⟨Sx,X,HS⟩:=ZJV.start λW'=>((W'.cell? ⟨y,0,none⟩=some (.pointer (some ⟨q,0,none⟩))/\W'.cell? ⟨w.heap.size,1,none⟩=some (.int .i64 t))/\W'.cell? ⟨w.heap.size+1,0,none⟩=some (.int .i64 ph)/\W'.cell? ⟨w.heap.size+1,1,none⟩=some (.int .i64 fh)/\W'.cell? ⟨w.heap.size+1,2,none⟩=some (.int .i64 kh))
    have x1:=ZJV.fact X λ_ h=>h.1.1;have x2:=ZJV.fact X λ_ h=>h.1.2;have x3:=ZJV.fact X λ_ h=>h.2.1;have x4:=ZJV.fact X λ_ h=>h.2.2.1;have x5:=ZJV.fact X λ_ h=>h.2.2.2;have I:=HS.o (wr.drew) (Xk.o _ (Gr.refl wr).drew);have Xe:Inhabited (ZJV Sx):=⟨⟨_,I⟩⟩;clear X;refine Vv2 Sx 13 [([0,1,2,3,4,5,6,7,8,9,10,11],12),([],13)] [] (by kernel_rfl) (by kernel_rfl) I ?_;refine XGW ?_
    try simp only[XZy,ζ,ξ]
    repeat(go_big_quiet_step (fail))
    refine θ ?_;go_wp2_with((go_at_call 216;refine(Xz.o _ _ _ _ _ _ (J.o.trans ((Gr.refl wr).drew.touch _)) O.o).mono ?_;rintro e w4 ⟨rfl,Xj⟩;have Z:=hid ((Gr.refl wr).drew.trans Xj);clear Xj));refine⟨.inr (ZJV.of (HS.o _ (Xk.o _ Z.o))),?_⟩;refine XGW ?_
    try simp only[XZy,ζ,ξ]
    repeat(go_big_quiet_step (fail))
    refine θ ?_;go_wp2_with((go_at_call 177;refine(Xp.o _ (J.o.trans (Z.o.touch _))).mono ?_;rintro e w5 ⟨er,rfl,Xg,Yd,Xl,Xo⟩;have V:=hid Xg;have Xi:=hid (ν Xl Xo);clear Xg Xl Xo));refine⟨.inl trivial,?_⟩;refine Z9U ?_
    try simp only[XZy]
    repeat(go_big_quiet_step (fail))
    refine θ ?_;refine β ?_;clear x1 x2 x3 x4 x5 I Xe;clear HS Sx;go_wp2;go_roundw
    case rel=>
     have Yw:=V.o.size;refine⟨i+1,st,sz,ph,fh,kh,Xu.o,⟨⟨(HI.o.t.trans' ((J.o.trans (Z.o.touch _)).mono (λb _ h=>h)) (λb hb h=>by omega)).trans' V.o (λb _ h=>h.1),⟨Yd,Xi.o.1,by rw[<-ξO];exact Xi.o.2⟩,((Xh.o.gr Z.o).touch V.o (λh=>by have:=h.2;omega))⟩⟩,⟨.inr (by rw[show f+(i+1)-1=f+i by omega];exact O.o)⟩,⟨((G.o.touch J.o Ω).gr Z.o).touch V.o (λh=>by have:=h.2;omega)⟩,?_,?_,?_⟩
     ·go_num
     ·go_num
     ·go_num
    case measure=>have:=Xu.o;simp[intOf];omega
  ·obtain rfl:i=n:=Ω
   have q2:=G.o.cc 2;clear Ye;go_wp2;refine ζF (ζr rfl _ _ _) rfl ?_;obtain⟨vx,Xb,Xc⟩:=HI.o.vm;exact⟨rfl,HI.o.t,vx,Xb,Xc⟩
end
end
section
open Go.RowKit Go.Shelf Word
def VIy(U:Nat->Bool)(i n:Nat):Nat->Bool:=λj=>U j&&!(decide (i<=j)&&decide (j<i+n))
theorem VcQ(U:Nat->Bool)(i:Nat):VIy U i 0=U:=by
 funext j
 unfold VIy;by_cases h:i<=j
 ·rw[ψ (show ¬j<i+0 by omega),ξ2,Bool.not_false,ξP]
 ·rw[ψ h,ψH,Bool.not_false,ξP]
theorem VUf(U:Nat->Bool)(i n:Nat):VIy U i (n+1)=but (VIy U i n) (i+n):=by
 funext j
 unfold but VIy;by_cases h:j=i+n
 ·subst h;have h1:i<=i+n:=Ω
  have h2:i+n<i+(n+1):=Ω
  simp
 ·have:(j<i+(n+1))↔(j<i+n)\/j=i+n:=Ω
  by_cases h3:i<=j
  ·by_cases h4:j<i+n
   ·have:j<i+(n+1):=Ω
    simp[h3,h4,this]
   ·have:¬j<i+(n+1):=Ω
    simp[h,h3,h4,this]
  ·simp[h,h3]
theorem QWx{U:Nat->Bool}{i n j:Nat}(h:¬(i<=j/\j<i+n)):VIy U i n j=U j:=by
 unfold VIy;by_cases h3:i<=j
 ·have:¬j<i+n:=λh4=>h ⟨h3,h4⟩;simp[this]
 ·simp[h3]
theorem VBH{w:World}{b n:Nat}{s:Sl}{U:Nat->Bool}{f:Int->Option Value}{i x:Nat}(h1:n+cnt U (sizes s.L)<=2*sizes s.L)(h2:∀q:Nat,(f (q:Nat)).getD (.int .i64 0)=.int .i64 (s.on U q:Nat))(hi:i<sizes s.L)(hU:U i=true)
  (hx:x=s.on (but U i) (Vjz s.L i/s.pg)) (hm:YER prog 3 w b (n+1) (λy=>if y=((Vjz s.L i/s.pg:Nat):Int)then some (.int .i64 x)else f y)):JlK w b s (but U i):=by
 refine⟨n+1,_,hm,?_,λq=>?_⟩
 ·have:=V7q (f:=U) hi hU;unfold but;omega
 ·have X:=Sl.on_but (s:=s) (U:=U) (i:=i) (q:=q) hi hU;by_cases e:Vjz s.L i/s.pg=q
  ·subst e;rw[μ rfl,hx];rfl
  ·rw[ϑ e]at X;rw[ϑ Ω,h2 q,<-X];rfl
def Zj0(w:World)(R S:Nat->Prop)(y q:Nat)(z:ZH1)(s:Sl)(D U0 U':Nat->Bool)(ml:List Bool)(lf ft ah:Nat)(v2:Vm)(e:Ending)(w':World):Prop:=
 e=.returned (.tuple #[])/\XF4 (λb=>b=z.bw\/S b) w w'/\YNO w' R y q z s U' ml lf ft ah/\∃v'',QXZ w' (plus S w) q v''/\Q2A s D U0 U' v2 v''
structure DrI(w wr:World)(R S:Nat->Prop)(y q:Nat)(z:ZH1)(s:Sl)(D U0 U':Nat->Bool)(ml:List Bool)(lf ft ah:Nat)(v2:Vm)(pb f tb n:Nat):Prop where
 t:XF4 (λb=>b=z.bw\/S b) w wr
 cy:YNO wr R y q z s U' ml lf ft ah
 vm:∃Sj v'',(∀b,Sj b->(S b/\b<w.heap.size)\/pb<b)/\QXZ wr Sj q v''/\Q2A s D U0 U' v2 v''
 pc:Rec wr pb 260 [.int .i64 f,.int .i64 tb,.int .i64 n]
section
variable {w:World} {R S:Nat->Prop} {y q:Nat} {z:ZH1} {s:Sl} {U D U0:Nat->Bool} {ml:List Bool} {lf ft ah:Nat} {v2 v':Vm} {i0 n f t:Nat}
theorem JBl(hC:YNO w R y q z s U ml lf ft ah)(hst:Jdn s)(hV:QXZ w S q v')(hdis:∀k,R k->¬S k)(hdr:Q2A s D U0 U v2 v')(hn1:1<=n)(hn:i0+n<=sizes s.L)(hU:∀i,i<n->U (i0+i)=true)(hw:∀i,i<n->Vjz s.L (i0+i)=f+i):
  Calls prog 183 #[.pointer (some ⟨y,0,none⟩),.agg #[.int .i64 f,.int .i64 t,.int .i64 n]] w (Zj0 w R S y q z s D U0 (VIy U i0 n) ml lf ft ah v2):=by
 have Yv:=hid hst;have Xl:=hid hdis;have HU:=hid hU;have HW:=hid hw;have HB:=hid hn;have Yw:=hst.n2;have Yx:=hst.N_le;have Yn:=hst.pg
 have hfb:f+n<=1048576:=by
  have h1:=hw (n-1) Ω;have h2:=(hst.srcs (i:=i0+(n-1)) Ω).2.2;omega
 have RP:=Rec.new w 260 [.int .i64 f,.int .i64 t,.int .i64 n];simp only[List.toArray]at RP;obtain⟨w0,O⟩:∃w0,w0=w.alloc (.cells #[.int .i64 f,.int .i64 t,.int .i64 n] 260):=⟨_,rfl⟩;have Xe:Gr w w0:=by rw[O];exact(Gr.refl w).alloc _
 have Yg:w0.heap.size=w.heap.size+1:=by rw[O,η]
 have Yk:Hid (DrI w w0 R S y q z s D U0 (VIy U i0 0) ml lf ft ah v2 w.heap.size f t n):=⟨by
  rw[VcQ]
  exact⟨Xe.touch _,hC.gr Xe,⟨ZOk S w,v',λb hb=>.inl hb,hV.cut.gr Xe,hdr⟩,by rw[O];exact RP⟩⟩
 have Xo:=hid hC.od.lt;have HS0:=hid Yg;have Yu:n≠0->True:=λ_=>trivial;clear hC hst hV hdis hdr hU hw hn Xe Yu;obtain⟨pb,Xd⟩:∃pb,pb=w.heap.size:=⟨_,rfl⟩;have J:=hid Xd;have Xf:Hid (DrI w w0 R S y q z s D U0 (VIy U i0 0) ml lf ft ah v2 pb f t n):=⟨by rw[Xd];exact Yk.o⟩;go_enter func183,ntmps183;go_upto_region 1 with(fail);rw[<-O,<-Xd];clear O RP Yk Yg Xd;have p0:=Xf.o.pc.cc 0;have pl:=Xf.o.pc.lt;go_upto_region 2 with(fail);clear p0 pl
 go_loopw [4] (λs4 wr=>∃j A:Nat,j<=n/\Hid (A=f+j)/\Hid (DrI w wr R S y q z s D U0 (VIy U i0 j) ml lf ft ah v2 pb f t n)/\s4=.int .i64 A) (λs4 _=>f+n-(intOf s4).toNat)
 case atStart=>exact⟨0,f,ζh _,⟨rfl⟩,Xf,rfl⟩
 case round=>
  obtain⟨j,A,hj,HA,HI,rfl⟩:=hrel;clear Xf;have p0:=HI.o.pc.cc 0;have p2:=HI.o.pc.cc 2;have pl:=HI.o.pc.lt;by_cases Xa:j<n
  ·have Xg:=hid Xa;have Yl:(A:Int)<(f:Int)+(n:Int):=by have:=HA.o;omega
   have Ym:A<=1048576:=by have:=HA.o;omega
   obtain⟨Sj,vx,Xb,G,E⟩:=HI.o.vm;have V:=HI.o.cy;have Xv:=HW.o j Xa;have Xw:=HU.o j Xa;have Xr:i0+j<sizes s.L:=by have:=HB.o;omega
   have Xm:VIy U i0 j (i0+j)=true:=by rw[QWx Ω];exact Xw
   have Xi:=E.mid.pg;have Xq:=hid (λ(W:World) (g:Gr wr W)=>VML (G.gr g));rw[Xi]at Xq;obtain⟨pg,Y⟩:∃pg,pg=s.pg:=⟨_,rfl⟩;have HPGE:=hid Y;rw[<-Y]at Xq Yn;obtain⟨Q,hQ⟩:∃Q,Q=A/pg:=⟨_,rfl⟩;have g1:((A:Int).tdiv (pg:Int))=(Q:Int):=by rw[hQ];rfl
   have g2:((A:Int)/(pg:Int))=(Q:Int):=by rw[hQ];rfl
   have hpg0:(pg:Int)≠0:=Ω
   have hQb:Q<=1048576:=by rw[hQ];exact ζb (ζ8 _ _) Ym
   have Xu:Vjz s.L (i0+j)/s.pg=Q:=by rw[Xv,hQ,HA.o,Y]
   have HQ:=hid Xu;obtain⟨nw,fm,hm,hn1,Xj⟩:=V.wd;have Yd:=Jfv V.wd (q:=Q) Ω;have Xn:=Sl.on_but (s:=s) (U:=VIy U i0 j) (i:=i0+j) (q:=Q) Xr Xm;rw[μ Xu]at Xn;obtain⟨N,hN⟩:∃N,N=s.on (VIy U i0 j) Q:=⟨_,rfl⟩;obtain⟨N',Xs⟩:∃N',N'=s.on (but (VIy U i0 j) (i0+j)) Q:=⟨_,rfl⟩;have hNle:N<=1048576:=by rw[hN];have:=s.on_le (VIy U i0 j) Q;omega
   rw[<-hN]at Yd;rw[<-hN,<-Xs]at Xn;have hNN:(N:Int)-1=(N':Int):=Ω
   have Yr:=hid hm;have Yj:=hid (ν hn1 Xj);have Yt:Hid (nw<maxLen):=⟨by have h1:=hn1;have h2:=Yw;have h3:=Yx;unfold maxLen;omega⟩;have Yq:Hid ((Lit.int .i64 (Q:Int)).wf=true):=⟨WalkArith.wf_i64 Ω⟩;have HX:=hid (ν Xr (ν Xm Xs));have Z:=hid Xb;have Yo:=hid G;have Yi:=hid E;have x0:=V.rc.cc 0;have x8:=V.rc.cc 14;have xl:=V.rc.lt;clear V Xv Xw Xr Xm Xi Y hQ Xu hm hn1 Xj Xn hN Xs Xb G E Xa
   go_upto_region 6 with(first
    | (go_at_call 126;refine JmE (Xq.o _ (Gr.refl wr)) ?_)
    | (at_mapUpdate;refine X9l _ rfl _ _ _ 119 rfl 3 3 JKr underlying119 underlying3 z.bw nw fm rfl Yr.o Yt.o (Q:Int) (.int .i64 (N':Int)) rfl rfl Yq.o ?_;intro w3 Yb Yc;have Ys:=hid Yb;have Xc:=hid Yc;clear Yb Yc))
   have X:YNO w3 R y q z s (VIy U i0 (j+1)) ml lf ft ah:=by
    rw[VUf];refine HI.o.cy.setW Xc.o (VBH Yj.o.1 Yj.o.2 HX.o.1 HX.o.2.1 (x:=N') (by rw[HX.o.2.2,HQ.o]) ?_);rw[HQ.o];exact Ys.o
   have Xk:¬Sj z.bw:=λh=>by
    have h1:=Xo.o _ HI.o.cy.od.r3;rcases Z.o _ h with h|h
    ·exact Xl.o _ HI.o.cy.od.r3 h.1
    ·have:=J.o;omega
   have Yh:∀k,R k->¬Sj k:=λk hk h=>by
    have h1:=Xo.o _ hk;rcases Z.o _ h with h|h
    ·exact Xl.o _ hk h.1
    ·have:=J.o;omega
   have Xx:Hid (QXZ w3 Sj q vx):=⟨Yo.o.touch Xc.o (λb hb _ h=>Xk (h▸hb))⟩;have Xz:=hid X;have Yy:=hid Yh;have Xh:pb≠z.bw:=λh=>by have h1:=Xo.o _ HI.o.cy.od.r3;have:=J.o;omega
   have Xt:=hid (HI.o.pc.touch Xc.o Xh);have y0:=X.rc.cc 0;have y8:=X.rc.cc 14;have yl:=X.rc.lt;have Ya:=Jfv X.wd (q:=Q) Ω;rw[VUf,<-HX.o.2.2]at Ya;have I:Hid (XF4 (λb=>b=z.bw\/S b) w w3):=⟨HI.o.t.trans (Xc.o.mono (λb _ h=>.inl h))⟩;have Yf:Hid (A+1=f+(j+1)):=⟨by have:=HA.o;omega⟩;clear Yd x0 x8 xl X Xk Yh Xh p0 p2 pl;simp only[Act.put];by_cases hz:N'=0
   ·have d0:((N':Int)==0)=true:=by simp[hz]
    have HZ:=hid hz;clear hz;go_wp2_with(go_at_call 127;refine(JYA Xx.o (Q:Int)).mono ?_;rintro e w5 ⟨rfl,Xy,Ye⟩;have Xp:=hid Xy;have Yp:=hid Ye;clear Xy Ye);go_roundw
    case rel=>
     have hz3:=I.o.size;have hw3:pb<w3.heap.size:=Xt.o.lt;refine⟨j+1,A+1,Xg.o,Yf,⟨⟨I.o.trans' Xp.o (λb hb h=>?_),Xz.o.touch Xp.o Yy.o,⟨plus Sj w3,_,λb hb=>?_,Yp.o,?_⟩,Xt.o.touch Xp.o (λh=>?_)⟩⟩,by go_num⟩
     ·rcases Z.o b h with h|h
      ·exact .inr h.1
      ·have:=J.o;omega
     ·rcases hb with h|h
      ·exact Z.o b h
      ·right;omega
     ·have:=Yi.o.drop Yv.o HX.o.1 HX.o.2.1 (by rw[HQ.o,<-HX.o.2.2];exact HZ.o);rw[HQ.o]at this;rw[VUf];exact this
     ·rcases Z.o _ h with h|h
      ·have:=J.o;omega
      ·omega
    case measure=>have:=HA.o;have:=Xg.o;simp[intOf];omega
   ·have d0:((N':Int)==0)=false:=by simp;exact hz
    have HZ:=hid hz;clear hz;go_wp2;go_roundw
    case rel=>
     refine⟨j+1,A+1,Xg.o,Yf,⟨⟨I.o,Xz.o,⟨Sj,_,Z.o,Xx.o,?_⟩,Xt.o⟩⟩,by go_num⟩;rw[VUf];exact Yi.o.keep HX.o.1 HX.o.2.1 (by rw[HQ.o,<-HX.o.2.2];exact HZ.o)
    case measure=>have:=HA.o;have:=Xg.o;simp[intOf];omega
  ·obtain rfl:j=n:=Ω
   have Yl:¬(A:Int)<(f:Int)+(j:Int):=by have:=HA.o;omega
   clear Xa;go_wp2;refine ζF (ζr rfl _ _ _) rfl ?_;obtain⟨Sj,vx,Xb,G,E⟩:=HI.o.vm;exact⟨rfl,HI.o.t,HI.o.cy,vx,G.mono (λb hb=>(Xb b hb).imp (λh=>h.1) (λh=>by have:=J.o;omega)),E⟩
end
end
section
open Go.RowKit Word
def XU7(s:Sl)(v:Vm):Prop:=∀p,p<v.pt.length->(v.pt.getD p 0≠0↔(∃i,i<sizes s.L/\Vjz s.L i/s.pg=p/\s.is i=false)\/(∃i,i<sizes s.L/\(s.cf.to+i)/s.pg=p/\s.is i=true))
theorem Vj4{f g:Nat->Bool}{n:Nat}(h:∀i,i<n->f i=true->g i=true):cnt f n<=cnt g n:=by
 induction n with
 | zero=>exact π _
 | succ n ih=>
  rw[Z10,Z10];have h1:=ih (λi hi=>h i Ω);have h2:=h n Ω;cases hf:f n <;> cases hg:g n <;> simp_all <;> omega
theorem ZKe(f g:Nat->Bool)(n:Nat):cnt (λi=>f i||g i) n<=cnt f n+cnt g n:=by
 induction n with
 | zero=>exact π _
 | succ n ih=>
  rw[Z10,Z10,Z10];cases f n <;> cases g n <;> simp <;> omega
theorem ZH7(a b n:Nat):cnt (λi=>decide (a<=i/\i<b)) n<=b-a:=by
 induction n with
 | zero=>exact ζh _
 | succ n ih=>
  have key:cnt (λi=>decide (a<=i/\i<b)) (n+1)<=min (n+1) b-a:=by
   clear ih
   induction n with
   | zero=>
    rw[Z10,YAO];by_cases h:a<=0/\0<b
    ·rw[κ h];simp;omega
    ·rw[ψ h];simp
   | succ n ih=>
    rw[Z10];by_cases h:a<=n+1/\n+1<b
    ·rw[κ h];simp only[Bool.toNat_true];omega
    ·rw[ψ h];simp only[Bool.toNat_false];omega
  omega
theorem JuW(l:List Nat)(f:Nat->Nat->Bool){m n:Nat}(h:∀k∈l,cnt (f k) n<=m):cnt (λi=>l.any λk=>f k i) n<=l.length*m:=by
 induction l with
 | nil=>
  have:cnt (λi=>([]:List Nat).any λk=>f k i) n=0:=Z6o (λi _=>rfl);rw[this];exact ζh _
 | cons k r ih=>
  have h1:=ih (λj hj=>h j (ζo _ hj));have h2:=h k (ζg ..);have h3:=ZKe (f k) (λi=>r.any λk=>f k i) n;rw[ζU,ζ6];have e:cnt (λi=>(k :: r).any λk=>f k i) n=cnt (λi=>f k i||r.any λk=>f k i) n:=rfl;omega
theorem Y37{l:List Bool}{m:Nat}(hm:m<=l.length)(h:∀i,i<m->at_ l i=true):cnt (λk=>decide (m<=k)&&at_ l k) l.length+m=cnt (at_ l) l.length:=by
 have e:=Jjp (f:=λk=>decide (m<=k)&&at_ l k) (g:=λk=>decide (0<=k/\k<m)) (λi=>by
  by_cases hi:m<=i
  ·have:¬i<m:=Ω
   simp[this]
  ·simp[hi]) l.length
 rw[J2a 0 m _ (ζh _) hm]at e
 have e2:cnt (λi=>(decide (m<=i)&&at_ l i)||decide (0<=i/\i<m)) l.length=cnt (at_ l) l.length:=XmU λi hi=>by
  by_cases X:i<m
  ·have h1:=h i X;have:¬m<=i:=Ω
   simp[X,h1]
  ·have:m<=i:=Ω
   simp[X,this]
 omega
theorem JDN{n:Nat}(h:Y1d n=true):∃k:Nat,n=2 ^ k:=by
 simp[Y1d]at h;have:n=1\/n=2\/n=4\/n=8\/n=16\/n=32\/n=64\/n=128\/n=256\/n=512\/n=1024:=Ω
 rcases this with rfl|rfl|rfl|rfl|rfl|rfl|rfl|rfl|rfl|rfl|rfl
 all_goals first|exact⟨0,rfl⟩|exact⟨1,rfl⟩|exact⟨2,rfl⟩|exact⟨3,rfl⟩|exact⟨4,rfl⟩|exact⟨5,rfl⟩|exact⟨6,rfl⟩|exact⟨7,rfl⟩|exact⟨8,rfl⟩|exact⟨9,rfl⟩|exact⟨10,rfl⟩
theorem Zs5{B pg:Nat}(hB:Y1d B=true)(hp:Y1d pg=true)(j:Nat):∃a,∀i,i/B=j->a<=i/pg/\i/pg<a+max 1 (B/pg):=by
 obtain⟨k,rfl⟩:=JDN hB;obtain⟨l,rfl⟩:=JDN hp;have h1:0<2 ^ k:=Nat.two_pow_pos k;have h2:0<2 ^ l:=Nat.two_pow_pos l;rcases γ k l with h|h
 ·obtain⟨d,rfl⟩:∃d,l=k+d:=⟨l-k,by omega⟩;refine⟨j/2 ^ d,λi hi=>?_⟩;have:i/2 ^ (k+d)=j/2 ^ d:=by rw[Nat.pow_add,<-Nat.div_div_eq_div_mul,hi]
  omega
 ·obtain⟨d,rfl⟩:∃d,k=l+d:=⟨k-l,by omega⟩;have e:2 ^ (l+d)/2 ^ l=2 ^ d:=by rw[Nat.pow_add,Nat.mul_div_cancel_left _ h2]
  have h3:0<2 ^ d:=Nat.two_pow_pos d;refine⟨j*2 ^ d,λi hi=>?_⟩;have h4:i/2 ^ l/2 ^ d=j:=by rw[Nat.div_div_eq_div_mul,<-Nat.pow_add,hi]
  rw[e];have h5:=ζx (i/2 ^ l) (2 ^ d);have h6:=ξC (i/2 ^ l) h3;rw[h4,ζJ]at h5;omega
theorem Y0i{v:Vm}(h:ZAR v){p0 c:Nat}(hc:p0+c<=v.pt.length):cnt (λp=>(v.pt.getD p 0 !=0)||decide (p0<=p/\p<p0+c)) v.pt.length=v.pl.used+(Jfy v p0 c).length:=by
 induction c with
 | zero=>
  rw[h.us]
  show _=nz v.pt+0
  unfold nz;refine XmU λp _=>?_;rw[ψ (show ¬(p0<=p/\p<p0+0)by omega),Bool.or_false]
 | succ c ih=>
  have ih:=ih Ω;rw[Q1f];by_cases h0:v.pt.getD (p0+c) 0=0
  ·rw[μ h0,ζk,ζ5,show v.pl.used+((Jfy v p0 c).length+1)=(v.pl.used+(Jfy v p0 c).length)+1 by omega,<-ih];have e:=VXp (f:=λp=>(v.pt.getD p 0 !=0)||decide (p0<=p/\p<p0+c)) (i:=p0+c) (n:=v.pt.length) Ω (by show ((v.pt.getD (p0+c) 0 !=0)||decide (p0<=p0+c/\p0+c<p0+c))=false;rw[h0,ψ Ω];rfl);rw[<-e];refine XmU λp _=>?_;by_cases hp:p=p0+c
   ·subst hp;simp
   ·have:(p0<=p/\p<p0+(c+1))↔(p0<=p/\p<p0+c):=Ω
    have e2:decide (p0<=p/\p<p0+(c+1))=decide (p0<=p/\p<p0+c):=ζK.2 this;rw[e2,ζy.2 hp,Bool.or_false]
  ·rw[ϑ h0,<-ih];refine XmU λp _=>?_;by_cases hp:p=p0+c
   ·subst hp;rw[ψd.2 h0,Bool.true_or,Bool.true_or]
   ·have:(p0<=p/\p<p0+(c+1))↔(p0<=p/\p<p0+c):=Ω
    rw[ζK.2 this]
section
variable {s:Sl} {v v':Vm} {k:Nat}
theorem Sl.ft_le(s:Sl):s.ft<=s.mv.length:=Xgi _ _
theorem Sl.ft_on(s:Sl){i:Nat}(h:i<s.ft):at_ s.mv i=true:=by
 have:=ZGm (λk=>!at_ s.mv k) s.mv.length i h;simpa using this
theorem Sl.ft_off(s:Sl)(h:s.ft<s.mv.length):at_ s.mv s.ft=false:=by
 have:(!at_ s.mv s.ft)=true:=JyT (λk=>!at_ s.mv k) s.mv.length h;simpa using this
end
end
section
open Go.RowKit Go.Shelf Word
theorem JPr{s:Sl}(hst:Jdn s){k:Nat}(hk:k<s.mv.length):∃(P:List Pc) (M:Nat->Nat),ZLj s.L s.cf.bk s.cf.to k=P/\M 0=0/\M P.length=s.hi k-s.lo k/\∀i (h:i<P.length),∃f:Nat,1<=P[i].s/\P[i].f=f/\P[i].t=((s.cf.to+(s.lo k+M i):Nat):Int)/\M (i+1)=M i+P[i].s/\s.lo k+M i+P[i].s<=s.hi k/\∀j,j<P[i].s->Vjz s.L (s.lo k+M i+j)=f+j:=by
 have hlh:=hst.lohi hk
 have J:XV5 s.L s.cf.bk (k:Int)=true:=by
  unfold XV5;rw[κ Ω,κ (by rw[<-hst.len];omega)];rfl
 obtain⟨e1,e2,-⟩:=Jfd (base:=(s.cf.to:Int)) J;have ea:YmL s.L s.cf.bk s.cf.to k=((s.cf.to+s.lo k:Nat):Int):=by rw[e1];unfold Sl.lo;push_cast;rfl
 have ez:YBR s.L s.cf.bk s.cf.to k=((s.cf.to+s.hi k:Nat):Int):=by
  rw[e2];unfold Sl.hi;rw[show (k:Int)*(s.cf.bk:Int)=((k*s.cf.bk:Nat):Int)by push_cast;rfl];omega
 obtain⟨P,hP⟩:∃P,P=ZLj s.L s.cf.bk s.cf.to k:=⟨_,rfl⟩
 have Z:P=pcs (Xbb s.L s.cf.to) ((s.cf.to+s.lo k:Nat):Int) (s.hi k-s.lo k):=by
  rw[hP];unfold ZLj;rw[ea,ez];congr 1;omega
 have hr:VWD (Xbb s.L s.cf.to) ((s.cf.to+s.lo k:Nat):Int) (s.hi k-s.lo k) P:=by rw[Z];exact QBb _ _ _
 have X:=λi hi=>hr.ends _ i hi rfl;have h0:=XLy hr Ω;have hE:=VID P (((s.cf.to+s.lo k:Nat):Int)+((s.hi k-s.lo k:Nat):Int));obtain⟨T,hT⟩:∃T:Nat->Int,T=YU8 P (((s.cf.to+s.lo k:Nat):Int)+((s.hi k-s.lo k:Nat):Int)):=⟨_,rfl⟩;rw[<-hT]at h0 hE;refine⟨P,λi=>(T i-((s.cf.to+s.lo k:Nat):Int)).toNat,hP.symm,by dsimp only;rw[h0];omega,by dsimp only;rw[hE];omega,λi hi=>?_⟩;obtain⟨g1,g2⟩:=X i hi;have h1:T i=P[i].t:=by rw[hT];exact ZXR hi
 have h2:T (i+1)=P[i].t+P[i].s:=by rw[hT];exact Xv7 hr hi
 have hw:=hr.word _ (χ hi);have hp:=hr.pos _ (χ hi);obtain⟨m,hm⟩:∃m:Nat,P[i].t=((s.cf.to+(s.lo k+m):Nat):Int):=⟨(P[i].t-((s.cf.to+s.lo k:Nat):Int)).toNat,by omega⟩
 have Y:∀j,j<P[i].s->(Vjz s.L (s.lo k+m+j):Int)=P[i].f+j:=λj hj=>by
  rw[<-hw j hj,hm,show ((s.cf.to+(s.lo k+m):Nat):Int)+(j:Int)=((s.cf.to+(s.lo k+m+j):Nat):Int)by omega];exact(Qmd Ω).1.symm
 have hf0:=Y 0 Ω;refine⟨P[i].f.toNat,hp,by omega,?_,?_,?_,λj hj=>?_⟩
 ·dsimp only;rw[h1];omega
 ·dsimp only;rw[h1,h2];omega
 ·dsimp only;rw[h1];omega
 ·have:=Y j hj;dsimp only;rw[h1,show (P[i].t-((s.cf.to+s.lo k:Nat):Int)).toNat=m by omega];omega
theorem JDv(U:Nat->Bool)(i n m:Nat):VIy (VIy U i n) (i+n) m=VIy U i (n+m):=by
 induction m with
 | zero=>rw[VcQ];rfl
 | succ m ih=>rw[VUf,ih,<-ξO,VUf,ξO i n m]
theorem VpR.touch{w w':World}{T:Nat->Prop}{A:Option Addr}{P:List Pc}(h:VpR w A P)(t:XF4 T w w')(hT:∀a,A=some a->¬T a.block):VpR w' A P:=λi hi=>by
 obtain⟨g,rfl,h1,h2,h3,h4⟩:=h i hi;have hg:=hT _ rfl;exact⟨g,rfl,ω h1 t.size,(t.cell h1 hg _).trans h2,(t.cell h1 hg _).trans h3,(t.cell h1 hg _).trans h4⟩
theorem YNO.cu{w:World}{R:Nat->Prop}{y q:Nat}{z:ZH1}{s:Sl}{U V:Nat->Bool}{ml:List Bool}{lf ft ah:Nat}(h:YNO w R y q z s U ml lf ft ah)(hU:∀j,j<sizes s.L->U j=V j):YNO w R y q z s V ml lf ft ah:=by
 refine⟨h.od,h.rc,h.pl,h.ex,h.sh,?_,h.mv⟩;obtain⟨n,f,h1,h2,h3⟩:=h.wd;exact⟨n,f,h1,by rw[<-XmU hU];exact h2,λq=>by rw[<-Sl.on_congr hU];exact h3 q⟩
def YNn(w:World)(b o:Nat):Nat:=match w.cell? ⟨b,o,none⟩with|some v=>(intOf v).toNat|none=>0
def ZrS(w:World)(R S:Nat->Prop)(y q:Nat)(z:ZH1)(s:Sl)(k:Nat)(v:Vm)(e:Ending)(w':World):Prop:=
 e=.returned (.int .i64 0)/\XF4 (λb=>R b\/S b) w w'/\Cyc w' R y q z {s with mv:=s.mv.set k true}/\∃v',QXZ w' (plus S w) q v'/\YJW s k v v'
structure MvC(w w2 wr:World)(R S S2:Nat->Prop)(y q:Nat)(z:ZH1)(s:Sl)(k m:Nat)(v1:Vm)(g:Nat)(P:List Pc):Prop where
 t:XF4 (λb=>R b\/S b) w wr
 t2:XF4 S2 w2 wr
 cy:Cyc wr R y q z s
 vm:∃vx,QXZ wr S2 q vx/\QsS s s.is (λi=>!s.is i) (s.lo k) (s.hi k) v1 vx m
 pc:VpR wr (some ⟨g,0,none⟩) P
structure MvD(w w4 wr:World)(R S S2:Nat->Prop)(y q:Nat)(z:ZH1)(s:Sl)(k m:Nat)(v2:Vm)(g:Nat)(P:List Pc):Prop where
 t:XF4 (λb=>R b\/S b) w wr
 sz:w4.heap.size<=wr.heap.size
 cy:YNO wr R y q z s (VIy (λi=>!s.is i) (s.lo k) m) s.mv s.lf s.ft (s.mvd-s.ft)
 vm:∃Sj vx,(∀b,Sj b->S2 b\/w4.heap.size<=b)/\QXZ wr Sj q vx/\Q2A s (λj=>s.is j||(decide (s.lo k<=j)&&decide (j<s.lo k+(s.hi k-s.lo k)))) (λi=>!s.is i) (VIy (λi=>!s.is i) (s.lo k) m) v2 vx
 pc:VpR wr (some ⟨g,0,none⟩) P
structure MvF(w8 wr:World)(R:Nat->Prop)(y q:Nat)(z:ZH1)(s:Sl)(U:Nat->Bool)(ml:List Bool)(l1 sm fc ac:Nat):Prop where
 cy:YNO wr R y q z s U ml l1 fc ac
 t:XF4 (λi=>i=y) w8 wr
 on:∀i,i<fc->at_ ml i=true
 sum:ac+fc=sm
 le:fc<=ml.length
structure MvK(w w2:World)(R S S2:Nat->Prop)(s:Sl)(k:Nat)(v1:Vm)(P:List Pc)(M:Nat->Nat):Prop where
 st:Jdn s
 hk:k<s.mv.length
 hm:at_ s.mv k=false
 pc:∀i (h:i<P.length),∃f:Nat,1<=P[i].s/\P[i].f=f/\P[i].t=((s.cf.to+(s.lo k+M i):Nat):Int)/\M (i+1)=M i+P[i].s/\s.lo k+M i+P[i].s<=s.hi k/\∀j,j<P[i].s->Vjz s.L (s.lo k+M i+j)=f+j
 ld:∀i,s.lo k<=i->i<s.hi k->v1.ldE ((s.cf.to+i:Nat):Int)=0
 tb:VRW w
 tS:¬S 1
 tR:¬R 1
 s2:∀b,S2 b->(S b/\b<w.heap.size\/w.heap.size<=b)/\b<w2.heap.size
 dis:∀k,R k->¬S k
 rl:∀k,R k->k<w.heap.size
 ww:w.heap.size<=w2.heap.size
section
variable {w w2 w4 wr:World} {R S S2:Nat->Prop} {y q:Nat} {z:ZH1} {s:Sl} {v1 v2:Vm} {k g i:Nat} {P:List Pc} {M:Nat->Nat}
theorem MvK.un(h:MvK w w2 R S S2 s k v1 P M){i:Nat}(h1:s.lo k<=i)(h2:i<s.hi k):s.is i=false:=by
 have hN:=(h.st.lohi h.hk).2.2;have:i/s.cf.bk=k:=by simpa[Sl.inB]using (h.st.inB (k:=k) (i:=i) Ω).2 ⟨h1,h2⟩
 unfold Sl.is;rw[this];exact h.hm
theorem MvK.r2(h:MvK w w2 R S S2 s k v1 P M):∀b,R b->¬S2 b:=λb hb h2=>by
 have:=h.rl b hb;rcases(h.s2 b h2).1 with h'|h'
 ·exact h.dis b hb h'.1
 ·omega
theorem MvK.t2(h:MvK w w2 R S S2 s k v1 P M):¬S2 1:=λh2=>by
 have:=h.tb.lt;rcases(h.s2 _ h2).1 with h'|h'
 ·exact h.tS h'.1
 ·omega
theorem MvK.copy(h:MvK w w2 R S S2 s k v1 P M)(hg:w2.heap.size<=g)(hi:i<P.length)(hI:MvC w w2 wr R S S2 y q z s k (M i) v1 g P){W:World}(gW:Gr wr W):
  ∃f t:Nat,P[i].f=f/\P[i].t=t/\Calls prog 182 #[.pointer (some ⟨y,0,none⟩),.agg #[.int .i64 f,.int .i64 t,.int .i64 (P[i].s:Nat)]] W λe w'=>e=.returned (.tuple #[])/\MvC w w2 w' R S S2 y q z s k (M (i+1)) v1 g P:=by
 obtain⟨f,h1,h2,h3,h4,h5,h6⟩:=h.pc i hi;obtain⟨vx,Z,Y⟩:=hI.vm;have hN:=(h.st.lohi h.hk).2.2;have J:VRW W:=(h.tb.touch' hI.t (λh'=>h'.elim h.tR h.tS)).touch' (gW.touch (λ_=>False)) (λh=>h);refine⟨f,_,h2,h3,(XAM (hI.cy.gr gW) h.st J h.t2 (Z.gr gW) h.r2 Y h5 hN (λi a b=>by simp[h.un a b]) h.ld h6).mono ?_⟩;rintro e w' ⟨rfl,ht,X,hv,hp⟩
 have hws:∀b,S2 b->R b\/S b\/w.heap.size<=b:=λb hb=>by
  rcases(h.s2 b hb).1 with h'|h'
  ·exact .inr (.inl h'.1)
  ·exact .inr (.inr h')
 refine⟨rfl,(hI.t.trans (gW.touch _)).trans' ht (λb hb hs=>?_),(hI.t2.trans (gW.touch _)).trans ht,(hI.cy.gr gW).touch ht h.r2,⟨X,hv.mono (λb hb=>hb.1),by rw[h4];exact hp⟩,(hI.pc.gr gW).touch ht (λa ha hs=>?_)⟩
 ·rcases(h.s2 b hs).1 with h'|h'
  ·exact .inr h'.1
  ·omega
 ·cases ha;have:g<w2.heap.size:=(h.s2 _ hs).2;omega
theorem MvK.drain(h:MvK w w2 R S S2 s k v1 P M)(_hw:w2.heap.size<=w4.heap.size)(h0:w.heap.size<=w4.heap.size)(hg:w2.heap.size<=g/\g<w4.heap.size)(hi:i<P.length)(hI:MvD w w4 wr R S S2 y q z s k (M i) v2 g P){W:World}(gW:Gr wr W):
  ∃f t:Nat,P[i].f=f/\P[i].t=t/\Calls prog 183 #[.pointer (some ⟨y,0,none⟩),.agg #[.int .i64 f,.int .i64 t,.int .i64 (P[i].s:Nat)]] W λe w'=>e=.returned (.tuple #[])/\MvD w w4 w' R S S2 y q z s k (M (i+1)) v2 g P:=by
 obtain⟨f,h1,h2,h3,h4,h5,h6⟩:=h.pc i hi;obtain⟨Sj,vx,X,N,V⟩:=hI.vm;have hN:=(h.st.lohi h.hk).2.2;have hz:=gW.size;have hzr:=hI.sz
 have J:∀b,R b->¬Sj b:=λb hb hs=>by
  have:=h.rl b hb;rcases X b hs with h'|h'
  ·exact h.r2 b hb h'
  ·omega
 refine⟨f,_,h2,h3,(JBl (hI.cy.gr gW) h.st (N.gr gW) J V h1 Ω (λj hj=>?_) h6).mono ?_⟩
 ·rw[QWx Ω];simp[h.un (i:=s.lo k+M i+j) Ω Ω]
 ·rintro e w' ⟨rfl,ht,hc,Z,hv,hp⟩;rw[JDv,<-h4]at hc hp;refine⟨rfl,(hI.t.trans (gW.touch _)).trans' ht (λb hb hs=>?_),by have:=ht.size;omega,hc,⟨plus Sj W,Z,λb hb=>?_,hv,hp⟩,(hI.pc.gr gW).touch ht (λa ha hs=>?_)⟩
  ·rcases hs with hs|hs
   ·left;rw[hs];exact hI.cy.od.r3
   ·rcases X b hs with h'|h'
    ·rcases(h.s2 b h').1 with Y|Y
     ·exact .inr Y.1
     ·omega
    ·omega
  ·rcases hb with hb|hb
   ·exact X b hb
   ·right;omega
  ·cases ha;rcases hs with hs|hs
   ·have h1:=h.rl _ hI.cy.od.r3;have hs:g=z.bw:=hs;have:=h.ww;omega
   ·rcases X _ hs with h'|h'
    ·have:g<w2.heap.size:=(h.s2 _ h').2;omega
    ·have h':w4.heap.size<=g:=h';omega
end
section
variable {w:World} {R S:Nat->Prop} {y q:Nat} {z:ZH1} {s:Sl} {v:Vm} {k:Nat}
theorem ZS2(hC:Cyc w R y q z s)(hO:ZEw s v)(hT:VRW w)(htS:¬S 1)(htR:¬R 1)(hV:QXZ w S q v)(hdis:∀k,R k->¬S k)(hk:k<s.mv.length)(hkm:at_ s.mv k=false)
  (hE:Jsl v ((s.cf.to+s.lo k:Nat):Int) ((s.cf.to+s.hi k:Nat):Int)=0):
  Calls prog 137 #[.pointer (some ⟨y,0,none⟩),.int .i64 k] w (ZrS w R S y q z s k v):=by
 have Y:=hO.st;have Jf:=Y.lohi hk;obtain⟨P,M,eP,M0,M1,hM⟩:=JPr Y hk
 have Jm:0<P.length:=by
  rcases ζE P.length with h|h
  ·rw[h,M0]at M1;omega
  ·exact h
 have Ul:=Y.n2;have Zy:s.cf.to+s.hi k<=v.n:=by have:=Y.fit;have:=Y.cf.ln;rw[hO.mid.n];omega
 have Ug:v.n<=524288:=by rw[hO.mid.n];exact Ul
 have Zs:XV5 s.L s.cf.bk (k:Int)=true:=by
  unfold XV5;rw[κ Ω,κ (by rw[<-Y.len];omega)];rfl
 obtain⟨r1,r2,r3⟩:=Jfd (base:=(s.cf.to:Int)) Zs;have ea:YmL s.L s.cf.bk s.cf.to k=((s.cf.to+s.lo k:Nat):Int):=by rw[r1];unfold Sl.lo;push_cast;rfl
 have ez:YBR s.L s.cf.bk s.cf.to k=((s.cf.to+s.hi k:Nat):Int):=by
  rw[r2];unfold Sl.hi;rw[show (k:Int)*(s.cf.bk:Int)=((k*s.cf.bk:Nat):Int)by push_cast;rfl];omega
 have hPl:P.length<=1048576:=by
  have:=ZbI Y.good Ω Y.bk.1 (base:=s.cf.to) (by have:=Y.cf.lm;have:=Y.cf.ln;omega) (k:Int);rw[eP]at this;have:=Y.bk.2;omega
 have Ua:s.mvd+s.lf=s.mv.length:=by
  unfold Sl.lf;have:s.mvd<=s.mv.length:=QMh _ _;omega
 have hml:s.mv.length<=1048576:=by rw[Y.len];have:=J5D (n:=sizes s.L) Y.bk.1;have:=Y.N_le;omega
 have Xy:({s with mv:=s.mv.set k true}:Sl).mvd=s.mvd+1:=by
  show cnt (at_ (s.mv.set k true)) (s.mv.set k true).length=_
  rw[υ,Jso hk hkm];rfl
 have Zb:=hid (λ(W:World) (g:Gr w W)=>Qy3 (hC.gr g).plan (k:Int));rw[ea,ez,r3]at Zb;have Yz:=hid (λ(W:World) (g:Gr w W)=>VfQ (hV.cut.gr g) (s.cf.to+s.lo k) (s.cf.to+s.hi k) Zy Ω);rw[hE]at Yz;have HC:=hid hC;have HO:=hid hO;have HT:=hid hT;have Xt:=hid (ν htS htR);have HV:=hid hV;have Ya:=hid hdis;have HK:=hid (ν hk (ν hkm hE));have HP:=hid (ν eP (ν M0 (ν M1 r3)));have HM:=hid hM;have Xv:=hid (ν Ua Xy);have Zc:=hid hC.od.lt;obtain⟨af,Yp⟩:∃af,af=s.cf.to+s.lo k:=⟨_,rfl⟩;obtain⟨az,Yu⟩:∃az,az=s.cf.to+s.hi k:=⟨_,rfl⟩;have Xn:=hid (ν Yp Yu);rw[<-Yp,<-Yu]at Yz Zb;have x0:=hC.rc.cc 0;have x8:=hC.rc.cc 8;have xl:=hC.rc.lt;clear hC hO Y hT htS htR hV hdis hk hkm hE eP M0 M1 hM Zs r1 r2 r3 ea ez Yp Yu Zy Ug Jf Xy;go_enter func137,ntmps137
 go_upto_region 5 with(first
  | (go_at_call 180;refine(Zb.o _ (Gr.refl w)).mono ?_;rintro e w1 ⟨rfl,Xq⟩;have Xm:=hid Xq;have y0:=(HC.o.gr Xq).rc.cell (j:=0) rfl;have yl:=(HC.o.gr Xq).rc.lt;clear Xq)
  | (go_at_call 122;refine(Yz.o _ Xm.o).mono ?_;rintro e w2 ⟨rfl,Jj,v1,Xj,Zd⟩;have Yr:=hid Jj;have Yv:=hid Xj;have Uf:=hid Zd;clear Jj Xj Zd))
 clear x0 x8 xl y0 yl;obtain⟨S2,Yg⟩:∃S2,S2=ZOk (plus (ZOk S w) w1) w2:=⟨_,rfl⟩;have hz1:=Xm.o.size;have hz2:=Yr.o.size
 have Jq:Hid (∀b,S2 b->(S b/\b<w.heap.size\/w.heap.size<=b)/\b<w2.heap.size):=⟨λb hb=>by
  rw[Yg]at hb
  exact⟨hb.1.imp id (λh=>by omega),hb.2⟩⟩
 have Jp:Hid (QXZ w2 S2 q v1):=⟨by rw[Yg];exact Uf.o.cut⟩;have Xo:Hid (Cyc w2 R y q z s):=⟨(HC.o.gr Xm.o).touch Yr.o (λb hb h=>Ya.o b hb h.1)⟩;have Yb:Hid (XF4 (λb=>R b\/S b) w w2):=⟨(Xm.o.touch _).trans (Yr.o.mono (λb _ h=>.inr h.1))⟩;have Zq:Hid (VRW w2):=⟨HT.o.touch' Yb.o (λh=>h.elim Xt.o.2 Xt.o.1)⟩
 have Xc:Hid (MvK w w2 R S S2 s k v1 P M):=⟨⟨HO.o.st,HK.o.1,HK.o.2.1,HM.o,λi h1 h2=>by
  have e:=Yv.o;rw[Xn.o.1,Xn.o.2]at e;have h3:=HO.o.st.lohi HK.o.1;have h4:=HO.o.st.dsts (i:=s.hi k-1) Ω;have h5:=HO.o.mid.n
  exact V75 HO.o.mid.ok Ω HK.o.2.2 e Ω Ω,HT.o,Xt.o.1,Xt.o.2,Jq.o,Ya.o,Zc.o,by omega⟩⟩
 have Zn:Hid (QsS s s.is (λi=>!s.is i) (s.lo k) (s.hi k) v1 v1 (M 0)):=⟨by rw[HP.o.2.1];exact QsS.zero (HO.o.mid.grow HO.o.st Yv.o) _ _⟩;have Ji:=hid (Y4j Xo.o.plan Zq.o (k:Int));rw[HP.o.1,HP.o.2.2.2]at Ji;have Zv:=hid Jm;have u8:=Xo.o.rc.cc 8;have ul:=Xo.o.rc.lt;clear Yg Jm;go_upto_region 6 with(go_at_call 181;refine(Ji.o).mono ?_;rintro e w3 ⟨A,cp,rfl,Zj,Yk,Xx⟩;obtain⟨g,rfl,Xb,-⟩:=Yk 0 Zv.o;have Xs:=hid Zj;have Ui:=hid Yk;have Xk:Hid (w2.heap.size<=g/\g<w3.heap.size):=⟨⟨Xx _ rfl,Xb⟩⟩;clear Zj Yk Xx Xb);clear u8 ul;have Zg:Hid (MvC w w2 w3 R S S2 y q z s k (M 0) v1 g P):=⟨⟨Yb.o.trans (Xs.o.touch _),Xs.o.touch _,Xo.o.gr Xs.o,⟨v1,Jp.o.gr Xs.o,Zn.o⟩,Ui.o⟩⟩;go_upto_region 7 with(fail)
 go_loopw [46] (λs46 wr=>∃i:Nat,i<=P.length/\Hid (MvC w w2 wr R S S2 y q z s k (M i) v1 g P)/\s46=.int .i64 i) (λs46 _=>P.length-(intOf s46).toNat)
 case atStart=>exact⟨0,ζh _,Zg,rfl⟩
 case round=>
  obtain⟨i,hi,HI,rfl⟩:=hrel;clear Zg;by_cases X:i<P.length
  ·have N:=hid X;have Jo:(i:Int)<(P.length:Int):=Ω
   obtain⟨g',Xh,Xb,k0,k1,k2⟩:=HI.o.pc i X;cases Xh;obtain⟨f,t,ef,et,-⟩:=Xc.o.copy Xk.o.1 X HI.o (Gr.refl wr)
   have G:Hid (∀W,Gr wr W->Calls prog 182 #[.pointer (some ⟨y,0,none⟩),.agg #[.int .i64 f,.int .i64 t,.int .i64 (P[i].s:Nat)]] W λe w'=>e=.returned (.tuple #[])/\MvC w w2 w' R S S2 y q z s k (M (i+1)) v1 g P):=⟨λW gW=>by
    obtain⟨f',t',Yq,Yf,h⟩:=Xc.o.copy Xk.o.1 X HI.o gW;rw[ef]at Yq;rw[et]at Yf;obtain rfl:f=f':=Ω
    obtain rfl:t=t':=Ω
    exact h⟩
   obtain⟨n,hn⟩:∃n,n=P[i].s:=⟨_,rfl⟩;rw[ef]at k0;rw[et]at k1;rw[<-hn]at k2 G;clear hn ef et X;have Z:=hid (Rec.new wr 260 [.int .i64 f,.int .i64 t,.int .i64 n]);simp only[List.toArray]at Z;go_upto_region 9 with(fail);obtain⟨wA,V⟩:∃wA,wA=wr.alloc (.cells #[.int .i64 f,.int .i64 t,.int .i64 n] 260):=⟨_,rfl⟩;have Xi:Gr wr wA:=by rw[V];exact(Gr.refl wr).alloc _
   have hR:=Z.o;rw[show wr.alloc (.cells ([.int .i64 f,.int .i64 t,.int .i64 n]:List Value).toArray 260)=wA from V.symm]at hR;rw[<-V];have Yo:=hid Xi;have b0:=hR.cc 0;have b1:=hR.cc 1;have b2:=hR.cc 2;have bl:=hR.lt;clear V Xi Z hR k0 k1 k2 Xb;go_wp2_with(go_at_call 182;refine(G.o _ Yo.o).mono ?_;rintro e w5 ⟨rfl,Xg⟩;have Yt:=hid Xg;clear Xg);go_roundw
   case rel=>exact⟨i+1,N.o,Yt,by go_num⟩
   case measure=>have:=N.o;simp[intOf];omega
  ·obtain rfl:i=P.length:=Ω
   clear X;obtain⟨w4,rfl⟩:∃w4:World,w4=wr:=⟨_,rfl⟩;obtain⟨v2,Zw,Zz⟩:=HI.o.vm;have Jz:=hid Zw;have Zr:=hid Zz;have Zx:=HI.o.t2.size
   have Zh:Hid (MvD w w4 w4 R S S2 y q z s k (M 0) v2 g P):=⟨⟨HI.o.t,π _,by rw[HP.o.2.1,VcQ];exact HI.o.cy,⟨S2,v2,λb hb=>.inl hb,Jz.o,by
    rw[HP.o.2.1,VcQ];have:=Zr.o.mid;rw[HP.o.2.2.1]at this
    exact Q2A.zero this⟩,HI.o.pc⟩⟩
   have Jd:g<w4.heap.size:=by
    obtain⟨g',Xh,Xb,-⟩:=HI.o.pc 0 Zv.o;cases Xh;exact Xb
   have Jh:=hid Jd;clear Zw Zz Jd;go_upto_region 12 with(fail)
   go_loopw [56] (λs56 wr=>∃i:Nat,i<=P.length/\Hid (MvD w w4 wr R S S2 y q z s k (M i) v2 g P)/\s56=.int .i64 i) (λs56 _=>P.length-(intOf s56).toNat)
   case atStart=>exact⟨0,ζh _,Zh,rfl⟩
   case round=>
    obtain⟨i,hi,HD,rfl⟩:=hrel;clear Zh;by_cases X:i<P.length
    ·have N:=hid X;have Jo:(i:Int)<(P.length:Int):=Ω
     obtain⟨g',Xh,Xb,k0,k1,k2⟩:=HD.o.pc i X;cases Xh;obtain⟨f,t,ef,et,-⟩:=Xc.o.drain Zx Ω ⟨Xk.o.1,Jh.o⟩ X HD.o (Gr.refl wr)
     have G:Hid (∀W,Gr wr W->Calls prog 183 #[.pointer (some ⟨y,0,none⟩),.agg #[.int .i64 f,.int .i64 t,.int .i64 (P[i].s:Nat)]] W λe w'=>e=.returned (.tuple #[])/\MvD w w4 w' R S S2 y q z s k (M (i+1)) v2 g P):=⟨λW gW=>by
      obtain⟨f',t',Yq,Yf,h⟩:=Xc.o.drain Zx Ω ⟨Xk.o.1,Jh.o⟩ X HD.o gW;rw[ef]at Yq;rw[et]at Yf;obtain rfl:f=f':=Ω
      obtain rfl:t=t':=Ω
      exact h⟩
     obtain⟨n,hn⟩:∃n,n=P[i].s:=⟨_,rfl⟩;rw[ef]at k0;rw[et]at k1;rw[<-hn]at k2 G;clear hn ef et X;have Z:=hid (Rec.new wr 260 [.int .i64 f,.int .i64 t,.int .i64 n]);simp only[List.toArray]at Z;go_upto_region 14 with(fail);obtain⟨wA,V⟩:∃wA,wA=wr.alloc (.cells #[.int .i64 f,.int .i64 t,.int .i64 n] 260):=⟨_,rfl⟩;have Xi:Gr wr wA:=by rw[V];exact(Gr.refl wr).alloc _
     have hR:=Z.o;rw[show wr.alloc (.cells ([.int .i64 f,.int .i64 t,.int .i64 n]:List Value).toArray 260)=wA from V.symm]at hR;rw[<-V];have Yo:=hid Xi;have b0:=hR.cc 0;have b1:=hR.cc 1;have b2:=hR.cc 2;have bl:=hR.lt;clear V Xi Z hR k0 k1 k2 Xb;go_wp2_with(go_at_call 183;refine(G.o _ Yo.o).mono ?_;rintro e w5 ⟨rfl,Xg⟩;have Yt:=hid Xg;clear Xg);go_roundw
     case rel=>exact⟨i+1,N.o,Yt,by go_num⟩
     case measure=>have:=N.o;simp[intOf];omega
    ·obtain rfl:i=P.length:=Ω
     clear X;obtain⟨w6,rfl⟩:∃w6:World,w6=wr:=⟨_,rfl⟩;obtain⟨Sj,vx,Zk,Jc,Yx⟩:=HD.o.vm;have Xa:=HD.o.cy;have hz6:=HD.o.sz;rw[HP.o.2.2.1]at Xa Yx;have hkI:(k:Int)<(s.mv.length:Int):=by have:=HK.o.1;omega
     have c4:=Xa.rc.cc 10;have cl:=Xa.rc.lt;have m0:=ZBn Xa.mv (JOD HK.o.1);have mf:=QxS Xa.mv;have Js:=(Vvr Xa.mv rfl).2;have Xd:=hid Xa;have Ud:=hid Jc;have Jt:=hid Yx;have Zl:=hid Zk
     have Xu:∀b,R b->¬Sj b:=λb hb h=>by
      have:=Zc.o b hb;rcases Zl.o b h with h|h
      ·exact Xc.o.r2 b hb h
      ·omega
     have Zm:=hid Xu;clear Xa Jc Yx Zk Xu;go_upto_region 17 with(fail);have Xr:=(World.ownsRow.stored Xd.o.mv k (.bool true)).1;rw[QPU]at Xr;obtain⟨w7,Yy⟩:∃w7,w7=w6.setCell ⟨z.bm,k,none⟩ (.bool true):=⟨_,rfl⟩;have Ym:XF4 (λi=>i=z.bm) w6 w7:=by rw[Yy];exact(XF4.refl (λi=>i=z.bm) w6).setCell (a:=⟨z.bm,k,none⟩) (λ_=>rfl) _
     rw[<-Yy]at Xr⊢;have I:YNO w7 R y q z s (VIy (λi=>!s.is i) (s.lo k) (s.hi k-s.lo k)) (s.mv.set k true) s.lf s.ft (s.mvd-s.ft):=Xd.o.setM (υ ..) Ym (by rw[υ];exact Xr);have Jv:=hid Ym;have Xz:=hid I;have e5:=I.rc.cc 11;have ef:=I.rc.free;have el:=I.rc.lt;clear Yy Xr Ym I c4 cl m0 mf Js
     have Zi:s.mvd<s.mv.length:=by
      have:=Xv.o.2;have h2:({s with mv:=s.mv.set k true}:Sl).mvd<=(s.mv.set k true).length:=QMh _ _;rw[υ]at h2;omega
     have Zu:s.ft<=s.mvd:=by
      have:=Y37 (l:=s.mv) (m:=s.ft) s.ft_le (λi hi=>s.ft_on hi)
      show s.ft<=cnt (at_ s.mv) s.mv.length
      omega
     obtain⟨l1,Jg⟩:∃l1,s.lf=l1+1:=⟨s.lf-1,by omega⟩;have Uk:(s.lf:Int)-1=(l1:Int):=Ω
     have Jw:=hid Jg;have Jb:=hid (ν Zi Zu);have Ub:s.lf<=1048576:=Ω
     clear Jg Zi Zu;go_upto_region 18 with(fail);obtain⟨w8,Yi⟩:∃w8,w8=w7.setCell ⟨y,11,none⟩ (.int .i64 l1):=⟨_,rfl⟩;have Za:XF4 (λi=>i=y) w7 w8:=by rw[Yi];exact(XF4.refl (λi=>i=y) w7).setCell (a:=⟨y,11,none⟩) (λ_=>rfl) _
     have Ye:=Xz.o.rc.set 11 (.int .i64 l1);rw[<-Yi]at Ye⊢;have E:YNO w8 R y q z s (VIy (λi=>!s.is i) (s.lo k) (s.hi k-s.lo k)) (s.mv.set k true) l1 s.ft (s.mvd-s.ft):=Xz.o.setR Za Ye;have Jy:=hid Za;have Xw:=hid E;have g7:=E.rc.cc 13;have gf:=E.rc.free;have gl:=E.rc.lt;obtain⟨a0,Yw⟩:∃a0,a0=s.mvd-s.ft:=⟨_,rfl⟩;rw[<-Yw]at g7;have ha0b:a0<=1048576:=Ω
     have Uc:=hid Yw;clear Yi Ye Za E e5 ef el Uk Ub Yw;go_upto_region 19 with(fail);obtain⟨w9,Yc⟩:∃w9,w9=w8.setCell ⟨y,13,none⟩ (.int .i64 ((a0:Int)+1)):=⟨_,rfl⟩;have Ys:XF4 (λi=>i=y) w8 w9:=by rw[Yc];exact(XF4.refl (λi=>i=y) w8).setCell (a:=⟨y,13,none⟩) (λ_=>rfl) _
     have Yh:=Xw.o.rc.set 13 (.int .i64 ((a0:Int)+1));rw[<-Yc]at Yh⊢;have Jk:Hid (YNO w9 R y q z s (VIy (λi=>!s.is i) (s.lo k) (s.hi k-s.lo k)) (s.mv.set k true) l1 s.ft (a0+1)):=⟨Xw.o.setR Ys Yh⟩;have Jr:=hid Ys;have O:(s.mv.set k true).length=s.mv.length:=υ ..;obtain⟨ml,J⟩:∃ml,ml=s.mv.set k true:=⟨_,rfl⟩;have Yd:=hid J;obtain⟨Ux,Yj⟩:∃Ux,Ux=VIy (λi=>!s.is i) (s.lo k) (s.hi k-s.lo k):=⟨_,rfl⟩;have Uh:=hid Yj
     have Zf:Hid (MvF w9 w9 R y q z s Ux ml l1 (s.mvd+1) s.ft (a0+1)):=⟨by rw[Yj,J];exact Jk.o,XF4.refl _ _,λi hi=>by
      have h1:=s.ft_on hi
      rw[J,QXV HK.o.1,h1];split <;> rfl,by have h1:=Uc.o;have h2:=Jb.o;omega,by rw[J,O];exact s.ft_le⟩
     rw[<-J]at O;have hmlb:ml.length<=1048576:=Ω
     have HFT:=hid s.ft_le;have HL2:=hid O;have hsm:s.mvd<=1048576:=by have:=Jb.o;omega
     have Ze:Hid (∀(wr:World) (fc ac nq:Nat),MvF w9 wr R y q z s Ux ml l1 (s.mvd+1) fc ac->first (λk=>!at_ ml k) ml.length=fc->ZrS w R S y q z s k v (.returned (.int .i64 0)) (wr.drewN nq)):=⟨λwr fc ac nq hf hx=>by
      have hy:=Xd.o.od.r1;have Zo:=Xd.o.od.r2;have Y:=HO.o.st;have Jf:=Y.lohi HK.o.1;have tw:XF4 (λi=>i=y\/i=z.bm) w6 (wr.drewN nq):=((((Jv.o.mono (λb _ h=>.inr h)).trans (Jy.o.mono (λb _ h=>.inl h))).trans (Jr.o.mono (λb _ h=>.inl h))).trans (hf.t.mono (λb _ h=>.inl h))).trans (((Gr.refl wr).drewN nq).touch _)
      have Xu:∀b,b=y\/b=z.bm->¬Sj b:=λb hb h=>by
       rcases hb with rfl|rfl
       ·exact Zm.o _ hy h
       ·exact Zm.o _ Zo h
      have hwn:=Xc.o.ww;have Xj:=Yv.o;rw[Xn.o.1,Xn.o.2]at Xj;have Zp:=Zr.o;rw[HP.o.2.2.1]at Zp
      have Jl:∀j,j<sizes s.L->VIy (λi=>!s.is i) (s.lo k) (s.hi k-s.lo k) j=!(s.is j||s.inB k j):=λj hj=>by
       have h1:=Y.inB (k:=k) hj;unfold VIy;cases hb:s.inB k j with
       | true=>
        obtain⟨h2,h3⟩:=h1.1 hb;rw[κ h2,κ Ω];simp
       | false=>
        have h4:¬(s.lo k<=j/\j<s.hi k):=λh=>by rw[h1.2 h]at hb;cases hb
        by_cases h5:s.lo k<=j
        ·rw[ψ (show ¬j<s.lo k+(s.hi k-s.lo k)by omega)];simp
        ·rw[ψ h5];simp
      have Ue:=YJW.of HO.o HK.o.1 HK.o.2.1 HK.o.2.2 Xj Zp (D:=λj=>s.is j||(decide (s.lo k<=j)&&decide (j<s.lo k+(s.hi k-s.lo k)))) (λj hj=>by
       have h1:=Y.inB (k:=k) hj;cases hb:s.inB k j with
       | true=>
        obtain⟨h2,h3⟩:=h1.1 hb;rw[κ h2,κ Ω];rfl
       | false=>
        have h4:¬(s.lo k<=j/\j<s.hi k):=λh=>by rw[h1.2 h]at hb;cases hb
        by_cases h5:s.lo k<=j
        ·rw[ψ (show ¬j<s.lo k+(s.hi k-s.lo k)by omega),ξ2]
        ·rw[ψ h5,ψH]) Jl Jt.o
      refine⟨rfl,?_,?_,vx,?_,Ue⟩
      ·exact HD.o.t.trans (tw.mono (λb _ h=>by
        rcases h with rfl|rfl
        ·exact .inl hy
        ·exact .inl Zo))
      ·have h1:YNO (wr.drewN nq) R y q z s (λi=>!({s with mv:=s.mv.set k true}:Sl).is i) ml l1 fc ac:=(hf.cy.gr ((Gr.refl wr).drewN nq)).cu (λj hj=>by rw[Uh.o,Jl j hj,Sl.is_put HK.o.1]);have e1:({s with mv:=s.mv.set k true}:Sl).ft=fc:=by rw[<-hx,Yd.o];rfl
       have e2:({s with mv:=s.mv.set k true}:Sl).mvd=s.mvd+1:=Xv.o.2
       have e3:({s with mv:=s.mv.set k true}:Sl).lf=l1:=by
        show (s.mv.set k true).length-({s with mv:=s.mv.set k true}:Sl).mvd=l1
        rw[e2,υ];have:=Xv.o.1;have:=Jw.o;omega
       have e4:s.mvd+1-fc=ac:=by have:=hf.sum;omega
       show YNO _ R y q z {s with mv:=s.mv.set k true} _ (s.mv.set k true) _ _ _
       rw[e1,e2,e3,e4];rw[Yd.o]at h1;exact h1.same rfl rfl rfl rfl rfl
      ·refine(Ud.o.touch tw (λb hb _ h=>Xu b h hb)).mono (λb hb=>?_);rcases Zl.o b hb with h|h
       ·rcases(Xc.o.s2 b h).1 with h|h
        ·exact .inl h.1
        ·exact .inr h
       ·right;omega⟩
     clear Yc Yh Ys g7 gf gl J Yj O
     go_loopw [] (λwr=>∃fc ac:Nat,Hid (MvF w9 wr R y q z s Ux ml l1 (s.mvd+1) fc ac)) (λwr=>ml.length-YNn wr y 12)
     case atStart=>exact⟨s.ft,a0+1,Zf⟩
     case round=>
      obtain⟨fc,ac,HF⟩:=hrel;clear Zf;have q4:=HF.o.cy.rc.cc 10;have q6:=HF.o.cy.rc.cc 12;have q7:=HF.o.cy.rc.cc 13;have qf:=HF.o.cy.rc.free;have ql:=HF.o.cy.rc.lt;by_cases X:fc<ml.length
      ·have Xl:(fc:Int)<(ml.length:Int):=Ω
       have d0:decide ((fc:Int)<(ml.length:Int))=true:=κ Xl;have n0:=ZBn HF.o.cy.mv (JOD X);have nl:=(Vvr HF.o.cy.mv rfl).2;have N:=hid X;clear X;by_cases hb:at_ ml fc=true
       ·rw[hb]at n0;have HB:=hid hb
        have Jn:1<=ac:=by
         have h1:=Y37 (l:=ml) (m:=fc+1) N.o (λj hj=>by
          rcases γ j fc with h|h
          ·exact HF.o.on j h
          ·obtain rfl:j=fc:=Ω
           exact HB.o)
         have h2:cnt (at_ ml) ml.length=s.mvd+1:=by
          have:=Xv.o.2;rw[Yd.o];exact this
         have h3:=HF.o.sum;omega
        have hsum:ac<=1048577:=by have:=HF.o.sum;omega
        obtain⟨a1,rfl⟩:∃a1,ac=a1+1:=⟨ac-1,by omega⟩;have ha1:((a1+1:Nat):Int)-1=(a1:Int):=Ω
        have Zt:(fc:Int)+1=((fc+1:Nat):Int):=Ω
        have Jx:=hid Zt;clear hb Zt Jn;go_upto_region 19 with(fail);go_quiet (fail);have Xf:=hid (HF.o.cy.gr ((Gr.refl wr).drewN nq));have Je:Hid (XF4 (λi=>i=y) w9 (wr.drewN nq)):=⟨HF.o.t.trans (((Gr.refl wr).drewN nq).touch _)⟩;obtain⟨wq,Ja⟩:∃wq,wq=wr.drewN nq:=⟨_,rfl⟩;rw[<-Ja]at Xf Je⊢;have g6:=Xf.o.rc.cc 12;have gf:=Xf.o.rc.free;have gl:=Xf.o.rc.lt;clear Ja q4 q6 q7 qf ql n0 nl d0;go_upto_region 21 with(fail);obtain⟨wp,Yn⟩:∃wp,wp=wq.setCell ⟨y,12,none⟩ (.int .i64 ((fc:Int)+1)):=⟨_,rfl⟩;have tp:XF4 (λi=>i=y) wq wp:=by rw[Yn];exact(XF4.refl (λi=>i=y) wq).setCell (a:=⟨y,12,none⟩) (λ_=>rfl) _
        have Xp:=Xf.o.rc.set 12 (.int .i64 ((fc:Int)+1));rw[<-Yn]at Xp⊢;rw[Jx.o]at Xp;have Xe:Hid (YNO wp R y q z s Ux ml l1 (fc+1) (a1+1)):=⟨Xf.o.setR tp Xp⟩;have Uj:=hid tp;have g7:=Xe.o.rc.cc 13;have gf2:=Xe.o.rc.free;have gl2:=Xe.o.rc.lt;clear Yn tp Xp g6 gf gl;go_wp2;go_roundw
        case rel=>
         have tz:XF4 (λi=>i=y) wp (wp.setCell ⟨y,13,none⟩ (.int .i64 a1)):=(XF4.refl (λi=>i=y) wp).setCell (a:=⟨y,13,none⟩) (λ_=>rfl) _;have Ju:=Xe.o.rc.set 13 (.int .i64 a1);refine⟨fc+1,a1,⟨⟨Xe.o.setR tz Ju,(Je.o.trans Uj.o).trans tz,λj hj=>?_,by have:=HF.o.sum;omega,N.o⟩⟩⟩;rcases γ j fc with h|h
         ·exact HF.o.on j h
         ·obtain rfl:j=fc:=Ω
          exact HB.o
        case measure=>
         have c1:=HF.o.cy.rc.cc 12;have c2:=(Xe.o.rc.set 13 (.int .i64 a1)).cell (j:=12) rfl;unfold YNn;rw[c1,c2];have:=N.o;simp[intOf];omega
       ·have Yl:at_ ml fc=false:=by simpa using hb
        rw[Yl]at n0;have HB:=hid Yl;have HX:Hid (first (λk=>!at_ ml k) ml.length=fc):=⟨XFN HF.o.le (λi hi=>by rw[HF.o.on i hi];rfl) (λ_=>by rw[HB.o];rfl)⟩;clear hb Yl;go_wp2;go_quiet (fail);go_wp2;go_ret;exact Ze.o _ _ _ _ HF.o HX.o
      ·have Xl:¬(fc:Int)<(ml.length:Int):=Ω
       have d0:decide ((fc:Int)<(ml.length:Int))=false:=ψ Xl;have d1:decide (fc<ml.length)=false:=ψ X;have HX:Hid (first (λk=>!at_ ml k) ml.length=fc):=⟨XFN HF.o.le (λi hi=>by rw[HF.o.on i hi];rfl) (λh=>absurd h X)⟩;clear X Xl;go_wp2;go_quiet (fail);go_wp2;go_ret;exact Ze.o _ _ _ _ HF.o HX.o
end
end
section
open Go.RowKit Go.Shelf Word
section
variable {w:World} {R:Nat->Prop} {y q:Nat} {z:ZH1} {s:Sl} {U:Nat->Bool} {ml:List Bool} {lf ft ah:Nat}
theorem QXi(hC:YNO w R y q z s U ml lf ft ah):Calls prog 112 #[.pointer (some ⟨y,0,none⟩)] w λe w'=>e=.returned (.int .i64 ml.length)/\w=w':=by
 have c0:=hC.rc.cc 10;have cl:=hC.rc.lt;clear hC;go_enter func112,ntmps112;go_wp2;go_ret;exact⟨rfl,rfl⟩
theorem VWU(hC:YNO w R y q z s U ml lf ft ah):Calls prog 160 #[.pointer (some ⟨y,0,none⟩)] w λe w'=>e=.returned (.int .i64 lf)/\w=w':=by
 have c0:=hC.rc.cc 11;have cl:=hC.rc.lt;clear hC;go_enter func160,ntmps160;go_wp2;go_ret;exact⟨rfl,rfl⟩
theorem JiW(hC:YNO w R y q z s U ml lf ft ah):Calls prog 111 #[.pointer (some ⟨y,0,none⟩)] w λe w'=>e=.returned (.bool (decide (lf=0)))/\w=w':=by
 have HL:=hid (VWU hC);have hd:((lf:Int)==0)=decide (lf=0):=by by_cases h:lf=0 <;> simp[h]
 have HD:=hid hd;clear hC hd;go_enter func111,ntmps111;go_wp2_with(go_at_call 160;refine JmE (HL.o) ?_);go_ret;exact⟨by rw[<-HD.o];rfl,rfl⟩
theorem YCd(hC:YNO w R y q z s U ml lf ft ah):V4y prog 108 #[.pointer (some ⟨y,0,none⟩)] w (.int .i64 ((s.cf.to:Int)+(sizes s.L:Nat))):=by
 obtain⟨h1,h2,h3,f,c0,c1,hF⟩:=hC.plan;have x8:=hC.rc.cc 8;have xl:=hC.rc.lt;have Z:=hid (YY0 c0);have Y:=hid (ZMu hF);clear hC hF h1 h2 h3 c0 c1;unfold V4y;go_enter func108,ntmps108
 go_wp2_with(first
  | (go_at_call 156;refine JmE (Z.o) ?_)
  | (go_at_call 131;refine(Y.o).mono ?_;rintro e w2 ⟨rfl,X⟩;have J:=hid X;clear X))
 go_ret;exact⟨rfl,J.o⟩
end
end
end Go.Proofs.YteihjlcmjecmfaaGreatDoor
