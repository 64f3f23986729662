/- Part 9 of what ListPlays leans on: my own lemmas, merged by shake.py. -/
import Derived.Test.YteihjlcmjecmfaaGreatDoorListPlaysH
import Derived.Deep.CutBlock
import Derived.Deep.DeepCutAuto
namespace Go.Proofs.YteihjlcmjecmfaaGreatDoor
open _root_.Go.Proofs.Tryz
set_option maxHeartbeats 6400000
set_option maxRecDepth 100000
open Go.RowKit Word
def kl(p f k:Nat):List Int:=List.replicate p 1++List.replicate f 2++List.replicate k 3
structure X0(M:Nat)(v:Vm):Prop where
 ok:AF v
 n:v.n=M
 al:∀a:Nat,a<M->v.ldE a=0
 m1:1<=M
section
variable {w:World} {A:Option Addr} {cp M:Nat} {v:Vm}
end
def mpN(v:Vm):Nat->Vm
 | 0=>v
 | k+1=>(mpN v k).mp (k:Nat)
theorem ZqK{v:Vm}(h:AF v)(hu:v.pl.used=0)(hl:∀p,p<v.pt.length->v.pt.getD p 0=0)(hr:v.pt.length<=v.pl.rm){k:Nat}(hk:k<=v.pt.length):BV v (mpN v k) (List.range k):=by
 induction k with
 | zero=>exact BV.refl h
 | succ k ih=>
  have ih:=ih Ω;have hln:=ih.len h
  have hz:(mpN v k).pt.getD k 0=0:=by
   have:=ih.ma k Ω
   grind
  have hE:(mpN v k).mpE (k:Nat)=0:=by
   unfold Vm.mpE;have h1:pgE (mpN v k).pt (k:Nat)=0:=by exact μ Ω
   have h2:=ih.us;rw[List.length_range,hu]at h2;rw[κ (λh=>h h1),η,κ (λh=>h hz),κ];rw[ih.rm];omega
  rw[ψo];exact ih.mp h hE
def stN(v:Vm)(f:Nat->Nat):Nat->Vm
 | 0=>v
 | k+1=>(stN v f k).st (k:Nat) (f k)
structure J4R(v v':Vm)(f:Nat->Nat)(k:Nat):Prop where
 ok:AF v'
 sm:BQ v v'
 vl:∀a:Nat,a<k->v'.ldV a=f a
theorem VYd{v:Vm}(h:AF v)(hl:∀a:Nat,a<v.n->v.ldE a=0){f:Nat->Nat}(hf:∀a,f a<18446744073709551616){k:Nat}(hk:k<=v.n):J4R v (stN v f k) f k:=by
 induction k with
 | zero=>exact⟨h,BQ.refl v,λa ha=>absurd ha (ζI _)⟩
 | succ k ih=>
  have ih:=ih Ω;have hE:(stN v f k).ldE (k:Nat)=0:=by rw[ih.sm.ldE];grind
  refine⟨ih.ok.st _ (hf k),ih.sm.trans (BQ.st _ _ _),λa ha=>?_⟩
  show ((stN v f k).st (k:Nat) (f k)).ldV a=_
  rw[ih.ok.st_ldV _ hE];by_cases e:(k:Int)=a
  ·grind
  ·rw[κ e];exact ih.vl a Ω
theorem Qrk{n:Nat}(h1:1<=n)(h2:n<=4096){f:Nat->Nat}(hf:∀a,f a<18446744073709551616):∃u:Vm,X0 n u/\∀a:Nat,a<n->u.ldV a=f a:=by
 have Y:AF (Vm.new n 1 n):=AF.new (by unfold E6;simp;omega) (by decide) h1 Ω (Nat.mod_one n);have X:(Vm.new n 1 n).pt.length=n:=by show (List.replicate (n/1) 0).length=n;rw[ζG,Nat.div_one]
 have hm:=ZqK Y rfl (λp hp=>by show (List.replicate (n/1) 0).getD p 0=0;exact NT _ _) (by rw[X];exact π _) (k:=n) (by rw[X];exact π _);have hn:(mpN (Vm.new n 1 n) n).n=n:=hm.n
 have hl:∀a:Nat,a<n->(mpN (Vm.new n 1 n) n).ldE a=0:=λa ha=>by
  rw[hm.ldE Y (show a<(Vm.new n 1 n).n from ha),μ];rw[ξf]
  show a/1<n
  rw[Nat.div_one];exact ha
 have hs:=VYd hm.ok (λa ha=>hl a (by rw[hn]at ha;exact ha)) hf (k:=n) (by rw[hn];exact π _);exact⟨_,⟨hs.ok,hs.sm.n.trans hn,λa ha=>by rw[hs.sm.ldE];exact hl a ha,h1⟩,hs.vl⟩
theorem PN{v:Vm}{rs:List Int}{n:Nat}(hS:CE v rs n){a:Int}(ha:Rch v rs a):
  ∃b p f k:Nat,a=b/\v.rdE a=0/\v.rdH a=⟨p,f,k⟩/\p+f+k<=255/\(b:Int)+(1+p+f+k)<=n/\0<b/\v.osz a=1+(p:Int)+f+k ∧
   ∀m:Nat,m<p->v.ldE (a+1+m)=0/\v.ldV (a+1+m)<=2147483647/\(v.ldV (a+1+m)≠0->Rch v rs (v.ldV (a+1+m):Nat)):=by
 have X:=hS.rd a ha;obtain⟨h0,-,p,f,k,hh,hs⟩:=F4 X;obtain⟨b,rfl⟩:∃b:Nat,a=b:=⟨a.toNat,by omega⟩;have ho:v.osz b=1+(p:Int)+f+k:=by unfold Vm.osz;rw[hh];exact μ (ES hs)
 have hin:=hS.rm b ha;refine⟨b,p,f,k,rfl,X,hh,hs,by omega,by omega,ho,λm hm=>?_⟩;have Z:(m:Int)<(v.rdH b).p:=by simp_all
 have Y:=hS.pt b ha m Z;have he:=JY Y;refine⟨he.2.2.1,he.2.1,λh0=>?_⟩;exact ha.step ⟨X,m,Z,Y,by omega,by rw[he.1]⟩
section
variable {w:World} {A0 A:Option Addr} {cp cr M:Nat} {v:Vm} {rs:List Int} {L:List Ob}
end
def pkW(v:Vm)(L:List Ob)(fr a m:Nat):Nat:=if (1<=m/\(m:Int)<=(v.rdH a).p)/\v.ldV ((a:Int)+m)≠0 then (toV L fr (v.ldV ((a:Int)+m):Nat)).toNat else v.ldV ((a:Int)+m)
def IT(v:Vm)(L:List Ob)(fr:Nat):List Ob->List Nat
 | []=>[]
 | o :: r=>(List.range o.2).map (pkW v L fr o.1)++IT v L fr r
theorem Ywe(v:Vm)(L:List Ob)(fr:Nat)(P:List Ob){j m:Nat}(hj:j<P.length)(hm:m<P[j].2):(IT v L fr P).getD (sizes (P.take j)+m) 0=pkW v L fr P[j].1 m:=by
 induction P generalizing j with
 | nil=>simp at hj
 | cons o r ih=>
  cases j with
  | zero=>
   have hm:m<o.2:=hm;simp only[List.take_zero,sizes,ξs,IT,ψl]
   grind
  | succ j=>
   have X:j<r.length:=by grind
   have:=ih X (by simp_all);simp only[ξH,sizes,IT,ψm];rw[<-this,δ,ζX (by simp;omega),δ];congr 2
   grind
theorem RF{n:Nat}{L:List Ob}(hg:AO n L){fr:Nat}(hf:∀o∈L,fr<=o.1){j:Nat}(hj:j<L.length):fr+sizes (L.take j)<=L[j].1:=by
 induction j with
 | zero=>simpa[sizes]using hf _ (χ hj)
 | succ j ih=>
  have h1:=ih Ω;have h2:=hg.at Ω hj (ξo j)
  grind [FF]
theorem Jc5{v v':Vm}{a:Int}(h1:v'.ldE a=v.ldE a)(h2:v'.ldV a=v.ldV a):v'.rdE a=v.rdE a/\v'.rdH a=v.rdH a:=by
 unfold Vm.rdE Vm.rdH
 simp_all
structure Pkd(v v':Vm)(L:List Ob)(fr k:Nat):Prop where
 ok:AF v'
 sm:BQ v v'
 o:∀b:Nat,(b<fr\/fr+k<=b)->v'.ldV b=v.ldV b
 row:∀i,i<k->v'.ldV ((fr+i:Nat):Int)=(IT v L fr L).getD i 0
theorem Pkd.zero{v:Vm}(h:AF v)(L:List Ob)(fr:Nat):Pkd v v L fr 0:=⟨h,BQ.refl v,λ_ _=>rfl,λ_ h=>absurd h (ζI _)⟩
theorem Pkd.step{v v':Vm}{L:List Ob}{fr k:Nat}(h:Pkd v v' L fr k)(hl:v.ldE ((fr+k:Nat):Int)=0){x:Nat}(hx:x=(IT v L fr L).getD k 0)(hx2:x<18446744073709551616):Pkd v (v'.st ((fr+k:Nat):Int) x) L fr (k+1):=by
 have Y:v'.ldE ((fr+k:Nat):Int)=0:=by rw[h.sm.ldE];exact hl
 have X:=h.ok.st_ldV x Y;refine⟨h.ok.st _ hx2,h.sm.trans (BQ.st _ _ _),λb hb=>?_,λi hi=>?_⟩
 ·rw[X,κ Ω];exact h.o b Ω
 ·rw[X];by_cases e:i=k
  ·simp_all
  ·rw[κ Ω];exact h.row i Ω
structure EH(v:Vm)(rs:List Int)(L:List Ob)(fr tp:Nat):Prop where
 ok:AF v
 mks:BH v rs v.n L
 inn:∀o∈L,fr<=o.1/\o.1+o.2<=tp
 fr1:1<=fr
 tpn:tp<=v.n
 lds:∀a:Nat,fr<=a->a<fr+sizes L->v.ldE a=0
section
variable {v v':Vm} {rs:List Int} {L:List Ob} {fr tp:Nat}
theorem EH.le(c:EH v rs L fr tp){j:Nat}(hj:j<L.length):fr+sizes (L.take j)<=L[j].1:=RF c.mks.mkd.good (λo ho=>(c.inn o ho).1) hj
theorem EH.sz(_c:EH v rs L fr tp){j:Nat}(hj:j<L.length):sizes (L.take (j+1))=sizes (L.take j)+L[j].2/\sizes (L.take j)+L[j].2<=sizes L:=by
 exact⟨FF hj,JN hj⟩
theorem Pkd.src(c:EH v rs L fr tp){j m:Nat}(hj:j<L.length)(h:Pkd v v' L fr (sizes (L.take j)+m)):v'.ldV ((L[j].1+m:Nat):Int)=v.ldV ((L[j].1+m:Nat):Int)/\v'.ldE ((L[j].1+m:Nat):Int)=v.ldE ((L[j].1+m:Nat):Int):=by
 have:=c.le hj;exact⟨h.o _ Ω,h.sm.ldE _⟩
theorem Pkd.hdr(c:EH v rs L fr tp){j:Nat}(hj:j<L.length)(h:Pkd v v' L fr (sizes (L.take j))):v'.rdE (L[j].1:Nat)=0/\v'.rdH (L[j].1:Nat)=v.rdH (L[j].1:Nat):=by
 obtain⟨h1,h2⟩:=Pkd.src (m:=0) c hj h;obtain⟨e1,e2⟩:=Jc5 h2 h1;exact⟨e1.trans (c.mks.mkd.ats _ (χ hj)).2.1,e2⟩
theorem EH.hd(c:EH v rs L fr tp){j:Nat}(hj:j<L.length):∃p f k:Nat,v.rdH (L[j].1:Nat)=⟨p,f,k⟩/\p+f+k<=255/\L[j].2=1+p+f+k:=by
 obtain⟨h1,h2,h3⟩:=c.mks.mkd.ats _ (χ hj);obtain⟨b,p,f,k,he,-,hh,hs,-,-,hz,-⟩:=PN c.mks.sound h1
 grind
theorem Y6(c:EH v rs L fr tp){a:Int}(ha:Hs L a):∃j,∃hj:j<L.length,(L[j].1:Int)=a/\toV L fr a=((fr+sizes (L.take j):Nat):Int):=by
 obtain⟨o,ho,he⟩:=ha;obtain⟨j,hj,rfl⟩:=ζr ho;refine⟨j,hj,he,?_⟩;have h1:=(c.mks.mkd.good.sz _ (χ hj)).1;have:=(RC c.mks.mkd.good (base:=fr) hj (a:=a) Ω Ω).1;omega
theorem Vco(c:EH v rs L fr tp):toV L fr 0=0:=by
 have h:¬A7 L 0<L.length:=λh=>by
  have h1:=II h;have h2:=(c.inn _ (χ h)).1;have:=c.fr1;omega
 exact(OJ h).1
theorem EH.ptr(c:EH v rs L fr tp){j m:Nat}(hj:j<L.length)(h1:1<=m)(h2:(m:Int)<=(v.rdH (L[j].1:Nat)).p):v.ldV ((L[j].1+m:Nat):Int)<=2147483647/\(v.ldV ((L[j].1+m:Nat):Int)≠0->Hs L (v.ldV ((L[j].1+m:Nat):Int):Nat)):=by
 obtain⟨hr,-,-⟩:=c.mks.mkd.ats _ (χ hj);obtain⟨b,p,f,k,he,-,hh,hs,-,-,hz,hp⟩:=PN c.mks.sound hr;rw[hh]at h2;have:=hp (m-1) (by grind);rw[show ((L[j].1:Nat):Int)+1+((m-1:Nat):Int)=((L[j].1+m:Nat):Int)by omega]at this;exact⟨this.2.1,λh0=>c.mks.all _ (this.2.2 h0)⟩
theorem WK(v:Vm)(L:List Ob)(fr a m:Nat){x:Nat}(hx:v.ldV ((a+m:Nat):Int)=x):pkW v L fr a m=if (1<=m/\(m:Int)<=(v.rdH a).p)/\x≠0 then (toV L fr (x:Nat)).toNat else x:=by
 unfold pkW
 simp_all
theorem EH.pkW_lt(c:EH v rs L fr tp){j m:Nat}(hj:j<L.length):pkW v L fr L[j].1 m<18446744073709551616:=by
 rw[WK v L fr _ m rfl];have hx:=c.ok.ldV_lt ((L[j].1+m:Nat):Int)
 split
 ·rename_i h;obtain⟨i,hi,-,e⟩:=Y6 c ((c.ptr hj h.1.1 h.1.2).2 h.2);have:=(c.sz hi).2;have:=FW c.mks.mkd.good;have:=c.ok.n2;have:=c.tpn;have:=c.inn _ (χ hi);omega
 ·exact hx
end
section
variable {w:World} {S:Nat->Prop} {q F f n B:Nat} {v v':Vm} {rs:List Int} {L:List Ob} {fr tp j:Nat}
def Qp6(w:World)(S:Nat->Prop)(q:Nat)(v:Vm)(L:List Ob)(fr k:Nat)(e:Ending)(w':World):Prop:=
 e=.returned (.tuple #[])/\AB (AE S w) w w'/\∃v'',AD w' (AE S w) q v''/\Pkd v v'' L fr k
theorem VgZ{p f k:Nat}{i:Int}(h:¬(0<=i/\i<p)):BN ⟨p,f,k⟩ i≠1:=by
 unfold BN
 grind
theorem Q2p(hV:AD w S q v')(hF:∀W,AB (AE S w) w W->Fwd W F f n B fr L)(c:EH v rs L fr tp)(hj:j<L.length)(hp:Pkd v v' L fr (sizes (L.take j))):
  Calls prog 133 #[pP q,pP f,iI (L[j].1:Nat),iI (L[j].2:Nat)] w (Qp6 w S q v L fr (sizes (L.take j)+L[j].2)):=by
 obtain⟨p,ff,k,hh,hs,hz⟩:=c.hd hj;have Yj:=c.le hj;have Yl:=(c.inn _ (χ hj)).2;have htpn:=c.tpn;have hn2:=c.ok.n2;have Xj:=hp.hdr c hj;rw[hh]at Xj;obtain⟨A,hA⟩:∃A,A=L[j].1:=⟨_,rfl⟩;obtain⟨Z,hZ⟩:∃Z,Z=L[j].2:=⟨_,rfl⟩;obtain⟨K,hK⟩:∃K,K=sizes (L.take j):=⟨_,rfl⟩
 have Yu:Hid (toV L fr (A:Nat)=((fr+K:Nat):Int)):=⟨by
  rw[hA,hK];have h1:=(c.mks.mkd.good.sz _ (χ hj)).1;have:=(RC c.mks.mkd.good (base:=fr) hj (a:=((L[j].1:Nat):Int)) Ω Ω).1;rw[this];push_cast
  omega⟩
 have HV:=hV.cut;have HF:=hF;have HC:=ι c;have HJ:=ι hj;have Xc:=ι (ϑ hA (ϑ hZ hK));have HP:=ι hp;have HH:Hid (v.rdH (A:Nat)=⟨p,ff,k⟩):=⟨by rw[hA];exact hh⟩;have Xh:=ι (λ(W:World) (g:Gr w W)=>O1 (HV.gr g) (A:Int));rw[<-hA]at Xj;rw[Xj.1,Xj.2]at Xh;have Xo:=ι (λ(W:World) (t:AB (AE S w) w W)=>QH (hF W t) (A:Int));rw[Yu.o]at Xo;obtain⟨te,Yt⟩:∃te,te=toE L (A:Int):=⟨_,rfl⟩;rw[<-Yt]at Xo;have Xn:=ι (λ(W:World) (i:Int)=>UO hs i W);have Xl:=ι (λW=>Rec.new W 63 [iI p,iI ff,iI k]);simp only[List.toArray]at Xl;unfold AJ at Xh Xn;unfold spV at Xh;have Yy:Hid (∀m,m<Z->(IT v L fr L).getD (K+m) 0=pkW v L fr A m):=⟨λm hm=>by rw[hK,hA];exact Ywe v L fr L hj (by rw[<-hZ];exact hm)⟩;rw[<-hA]at Yj Yl;rw[<-hZ]at Yl hz;rw[<-hK]at Yj HP;rw[<-hA,<-hZ,<-hK];clear hV hF c hp hh hA hZ hK Xj Yt hz;go_enter func133,ntmps133;go_upto_region 1 with(go_at_call 69;refine(Xh.o _ (Gr.refl w)).mono ?_;rintro e w1 ⟨rfl,Yi⟩;have Xz:=ι Yi;clear Yi);obtain⟨w2,Yc⟩:∃w2,w2=w1.alloc (.cells #[.int .i64 p,.int .i64 ff,.int .i64 k] 63):=⟨_,rfl⟩;have R2:=Xl.o w1;obtain⟨hq,Yn⟩:∃hq,hq=w1.heap.size:=⟨_,rfl⟩;have Xu:Hid (¬AE S w hq):=⟨λh=>by have:=h.2;have:=Xz.o.size;omega⟩;have Yq:Gr w w2:=by rw[Yc];exact Xz.o.alloc _
 rw[<-Yn]at R2⊢;rw[<-Yc]at R2⊢;have Ym:=ι R2;have Xx:=ι Yq;clear Yc Yn Xz R2 Yq Xl Xh;go_upto_region 2 with(go_at_call 135;refine(Xo.o _ (Xx.o.touch _)).mono ?_;rintro e w3 ⟨rfl,Ya⟩;have Ys:=ι (Ym.o.gr Ya);have Yd:=ι (Xx.o.trans Ya);clear Ya);have Ye:=ι (HV.gr Yd.o);have Yo:Hid (AB (AE S w) w w3):=⟨Yd.o.touch _⟩;clear Xx Ym Xo Yd;go_wp2_with(fail)
 go_loopw [31] (λs31 wr=>∃(i:Nat) (vx:Vm),i<=Z/\Hid (AD wr (AE S w) q vx/\Pkd v vx L fr (K+i))/\Hid (AB (AE S w) w wr)/\Hid (Rec wr hq 63 [iI p,iI ff,iI k])/\s31=iI i) (λs31 _=>Z-(intOf s31).toNat)
 case atStart=>exact⟨0,v',ζe _,⟨⟨Ye.o,HP.o⟩⟩,Yo,Ys,rfl⟩
 case round=>
  obtain⟨i,vx,hi,O,Xk,Y,rfl⟩:=hrel;clear Ye Yo Ys;by_cases Yb:i<Z
  ·have hiI:(i:Int)<(Z:Int):=Ω
   have Xd:=ι Yb;have Yh:(A:Int)+(i:Int)=((A+i:Nat):Int):=by push_cast;rfl
   have Yr:((fr+K:Nat):Int)+(i:Int)=((fr+(K+i):Nat):Int):=by push_cast;omega
   have Xe:=Pkd.src (m:=i) HC.o HJ.o (by rw[<-Xc.o.2.2];exact O.o.2);rw[<-Xc.o.1]at Xe;have Xb:=ι (JL O.o.1 ((A+i:Nat):Int));rw[Xe.1,Xe.2]at Xb;obtain⟨el,Yf⟩:∃el,el=v.ldE ((A+i:Nat):Int):=⟨_,rfl⟩;rw[<-Yf]at Xb;have Yv:Hid (v.ldV ((A+i:Nat):Int)<18446744073709551616):=⟨HC.o.ok.ldV_lt _⟩;have Xy:Hid (pkW v L fr A i<18446744073709551616):=⟨by rw[Xc.o.1];exact HC.o.pkW_lt HJ.o⟩
   have Yg:Hid (1<=i->i<=p->v.ldV ((A+i:Nat):Int)<=2147483647/\(v.ldV ((A+i:Nat):Int)≠0->Hs L (v.ldV ((A+i:Nat):Int):Nat))):=⟨λh1 h2=>by
    rw[Xc.o.1]
    exact HC.o.ptr HJ.o h1 (by rw[<-Xc.o.1,HH.o];show (i:Int)<=(p:Int);omega)⟩
   have Xv:Hid (∀(W:World),AB (AE S w) wr W->AD W (AE S w) q vx->∀y:Nat,y=pkW v L fr A i->Calls prog 177 #[pP q,iI (((fr+K:Nat):Int)+(i:Int)),uU y] W λe w'=>∃er,e=.returned (iI er)/\AB (AE S w) W w'/\∃v'',AD w' (AE S w) q v''/\Pkd v v'' L fr (K+(i+1))):=⟨λW t hW y hy=>by
    rw[Yr];refine(KP hW _ (x:=y) (by rw[hy];exact Xy.o)).mono ?_;rintro e w' ⟨rfl,ht,hv⟩;refine⟨_,rfl,ht,_,hv,?_⟩
    have:=O.o.2.step (HC.o.lds _ Ω (by
     have h1:=(HC.o.sz HJ.o).2;rw[<-Xc.o.2.1,<-Xc.o.2.2]at h1
     omega)) (x:=y) (by rw[hy];exact(Yy.o i Xd.o).symm) (by rw[hy];exact Xy.o)
    exact this⟩
   have Xs:Hid (∀(W:World) (a:Int),AB (AE S w) wr W->Hs L a->∃y:Nat,toV L fr a=(y:Int)/\Calls prog 135 #[pP f,iI a] W λe w'=>∃er,e=.returned (.tuple #[iI y,iI er])/\Gr W w'):=⟨λW a t ha=>by
    obtain⟨j',hj',-,e⟩:=Y6 HC.o ha;refine⟨fr+sizes (L.take j'),e,?_⟩;have:=QH (HF W (Xk.o.trans t)) a;rw[e]at this;refine this.mono ?_;rintro e w' ⟨rfl,hg⟩
    exact⟨_,rfl,hg⟩⟩
   have Xq:Hid (pkW v L fr A i=if (1<=i/\(i:Int)<=(p:Int))/\v.ldV ((A+i:Nat):Int)≠0 then (toV L fr (v.ldV ((A+i:Nat):Int):Nat)).toNat else v.ldV ((A+i:Nat):Int)):=⟨by rw[WK v L fr A i rfl,HH.o]⟩;obtain⟨x,hx⟩:∃x,x=v.ldV ((A+i:Nat):Int):=⟨_,rfl⟩;rw[<-hx]at Xb Yv Yg Xq;rw[<-Yh]at Xb;clear Yh Yr Xe hx Yb Yf;have Yw:(i:Int)-1=((i:Int)-1):=rfl;clear Yw;have hib:(i:Int)<=524288:=Ω
   by_cases N:1<=i/\i<=p
   ·have Xr:Hid (BN ⟨p,ff,k⟩ ((i:Int)-1)=1):=⟨QF Ω (by show (i:Int)-1<(p:Int);omega) (by show (p:Int)<CG ⟨p,ff,k⟩;rw[show CG ⟨p,ff,k⟩=1+(p:Int)+ff+k from μ (ES hs)];omega)⟩;obtain⟨Xt,Xp⟩:=Yg.o N.1 N.2;by_cases Xf:x=0
    ·subst Xf;have HY:Hid (0=pkW v L fr A i):=⟨by rw[Xq.o,κ (λh=>h.2 rfl)]⟩;clear N Xt Xp
     go_wp2_with(first
      | (go_at_call 176;refine Xb.o.mono ?_;rintro e w4 ⟨rfl,X⟩;have y0:=(Y.o.gr X).cell (j:=0) rfl;have y1:=(Y.o.gr X).cell (j:=1) rfl;have y2:=(Y.o.gr X).cell (j:=2) rfl;have yl:=(Y.o.gr X).lt;have Xi:=ι X;clear X)
      | (go_at_call 109;refine(Xn.o _ _).mono ?_;rintro e w5 ⟨rfl,V⟩;rw[Xr.o];have J:=ι (Xi.o.trans V);clear V)
      | (go_at_call 177;refine(Xv.o _ ((J.o).touch _) (O.o.1.gr (J.o)) 0 HY.o).mono ?_;rintro e w7 ⟨er,rfl,I,v7,E,G⟩;have Xa:=ι I;have Xg:=ι (ϑ E G);clear I E G))
     go_round
     case rel=>exact⟨i+1,v7,Xd.o,Xg,⟨(Xk.o.trans ((J.o).touch _)).trans Xa.o⟩,⟨(Y.o.gr (J.o)).touch Xa.o Xu.o⟩,by go_num⟩
     case measure=>have:=Xd.o;simp[intOf];omega
    ·obtain⟨y,hy,-⟩:=Xs.o wr (x:Int) (AB.refl _ _) (Xp Xf);have HY:Hid (y=pkW v L fr A i):=⟨by rw[Xq.o,μ ⟨⟨N.1,by omega⟩,Xf⟩,hy];rfl⟩
     have Za:Hid (∀(W:World),AB (AE S w) wr W->Calls prog 135 #[pP f,iI (x:Nat)] W λe w'=>∃er,e=.returned (.tuple #[iI y,iI er])/\Gr W w'):=⟨λW t=>by
      obtain⟨y',Yx,h⟩:=Xs.o W (x:Int) t (Xp Xf);rw[hy]at Yx;obtain rfl:y=y':=Ω
      exact h⟩
     have Yz:Hid (y<18446744073709551616):=⟨by rw[HY.o];exact Xy.o⟩;have hwy:IntKind.u64.wrap (y:Int)=(y:Int):=by have:=Yz.o;rw[ξr];omega
     have hwx:IntKind.i64.wrap (x:Int)=(x:Int):=ζx _ Ω;have d2:((x:Int) !=0)=true:=by simp;exact Xf
     clear N Xt Xp Xf hy
     go_wp2_with(first
      | (go_at_call 176;refine Xb.o.mono ?_;rintro e w4 ⟨rfl,X⟩;have y0:=(Y.o.gr X).cell (j:=0) rfl;have y1:=(Y.o.gr X).cell (j:=1) rfl;have y2:=(Y.o.gr X).cell (j:=2) rfl;have yl:=(Y.o.gr X).lt;have Xi:=ι X;clear X)
      | (go_at_call 109;refine(Xn.o _ _).mono ?_;rintro e w5 ⟨rfl,V⟩;rw[Xr.o];have J:=ι (Xi.o.trans V);clear V)
      | (go_at_call 135;refine(Za.o _ (J.o.touch _)).mono ?_;rintro e w6 ⟨er6,rfl,Yp⟩;have Xm:=ι (J.o.trans Yp);clear Yp)
      | (go_at_call 177;refine(Xv.o _ ((Xm.o).touch _) (O.o.1.gr (Xm.o)) y HY.o).mono ?_;rintro e w7 ⟨er,rfl,I,v7,E,G⟩;have Xa:=ι I;have Xg:=ι (ϑ E G);clear I E G))
     go_round
     case rel=>exact⟨i+1,v7,Xd.o,Xg,⟨(Xk.o.trans ((Xm.o).touch _)).trans Xa.o⟩,⟨(Y.o.gr (Xm.o)).touch Xa.o Xu.o⟩,by go_num⟩
     case measure=>have:=Xd.o;simp[intOf];omega
   ·obtain⟨kd,Xw⟩:∃kd,kd=BN ⟨p,ff,k⟩ ((i:Int)-1):=⟨_,rfl⟩;have Xr:Hid (BN ⟨p,ff,k⟩ ((i:Int)-1)=kd):=⟨Xw.symm⟩;have Yk:kd≠1:=by rw[Xw];exact VgZ (λh=>N ⟨by omega,by omega⟩)
    have d1:(kd==1)=false:=by simpa using Yk
    have HY:Hid (x=pkW v L fr A i):=⟨by rw[Xq.o,κ (λh=>N ⟨h.1.1,by have:=h.1.2;omega⟩)]⟩;clear N Xw Yk
    go_wp2_with(first
     | (go_at_call 176;refine Xb.o.mono ?_;rintro e w4 ⟨rfl,X⟩;have y0:=(Y.o.gr X).cell (j:=0) rfl;have y1:=(Y.o.gr X).cell (j:=1) rfl;have y2:=(Y.o.gr X).cell (j:=2) rfl;have yl:=(Y.o.gr X).lt;have Xi:=ι X;clear X)
     | (go_at_call 109;refine(Xn.o _ _).mono ?_;rintro e w5 ⟨rfl,V⟩;rw[Xr.o];have J:=ι (Xi.o.trans V);clear V)
     | (go_at_call 177;refine(Xv.o _ ((J.o).touch _) (O.o.1.gr (J.o)) x HY.o).mono ?_;rintro e w7 ⟨er,rfl,I,v7,E,G⟩;have Xa:=ι I;have Xg:=ι (ϑ E G);clear I E G))
    go_round
    case rel=>exact⟨i+1,v7,Xd.o,Xg,⟨(Xk.o.trans ((J.o).touch _)).trans Xa.o⟩,⟨(Y.o.gr (J.o)).touch Xa.o Xu.o⟩,by go_num⟩
    case measure=>have:=Xd.o;simp[intOf];omega
  ·obtain rfl:i=Z:=Ω
   clear Yb;go_wp2;refine ζw (ζl rfl _ _ _) rfl ?_;exact⟨rfl,Xk.o,vx,O.o.1,O.o.2⟩
end
def G3(n fr tp room:Int):Bool:=decide (1<=fr)&&decide (fr<=tp)&&decide (tp<=n)&&decide (1<=room)&&decide (room<=4096)
theorem Q7{n fr tp room:Int}:G3 n fr tp room=true↔1<=fr/\fr<=tp/\tp<=n/\1<=room/\room<=4096:=by
 unfold G3
 grind
theorem O2{n fr tp room:Int}(h:¬(1<=fr/\fr<=tp/\tp<=n/\1<=room/\room<=4096)):G3 n fr tp room=false:=by
 cases hb:G3 n fr tp room with
 | false=>rfl
 | true=>exact absurd (Q7.1 hb) h
section
variable {w:World} {S:Nat->Prop} {q r g:Nat} {v:Vm} {rs:List Int}
theorem ZdZ(rv:Value)(fr tp room:Int)(w:World):cQ 128 #[.pointer none,rv,iI fr,iI tp,iI room] w (iI 9):=by
 go_enter func128,ntmps128;go_wp2_with(go_at_call 52;refine(Jus _).mono ?_;rintro e w1 ⟨rfl,rfl⟩);go_ret;exact⟨rfl,rfl⟩
theorem JGL(hV:AD w S q v)(hn:v.n≠0)(hR:AU w r g rs)(fr tp room:Int):cQ 128 #[pP q,pP r,iI fr,iI tp,iI room] w (iI (if G3 v.n fr tp room then 0 else 5)):=by
 have X:=(I3 hV);have Z:=(WI hR);have Y:rs.length≠0:=λe=>hR.ne (ζz e);obtain⟨l,hl⟩:∃l,l=rs.length:=⟨_,rfl⟩;obtain⟨n,J⟩:∃n,n=v.n:=⟨_,rfl⟩;rw[<-hl]at Z Y;rw[<-J]at X hn⊢;have d0:((n:Int)==0)=false:=by simp;exact hn
 have d9:((l:Int)==0)=false:=by simp;exact Y
 obtain⟨z,hz⟩:∃z:Int,z=if G3 n fr tp room then 0 else 5:=⟨_,rfl⟩
 rw[<-hz];have HZ:=ι hz;clear hR hl J hn Y hz;go_enter func128,ntmps128
 go_upto_region 3 with(first
  | (go_at_call 52;refine X.mono ?_;rintro e w1 ⟨rfl,rfl⟩)
  | (go_at_call 152;refine Z.mono ?_;rintro e w1 ⟨rfl,rfl⟩))
 by_cases h1:fr<1
 ·have HE:=(O2 (n:=n) (fr:=fr) (tp:=tp) (room:=room) Ω);go_wp2;go_ret;exact⟨AL (by rw[HZ.o,HE];rfl),rfl⟩
 ·by_cases h2:tp<fr
  ·have HE:=(O2 (n:=n) (fr:=fr) (tp:=tp) (room:=room) Ω);go_wp2;go_ret;exact⟨AL (by rw[HZ.o,HE];rfl),rfl⟩
  ·by_cases h3:(n:Int)<tp
   ·have HE:=(O2 (n:=n) (fr:=fr) (tp:=tp) (room:=room) Ω);go_wp2_with(go_at_call 52;refine X.mono ?_;rintro e w1 ⟨rfl,rfl⟩);go_ret;exact⟨AL (by rw[HZ.o,HE];rfl),rfl⟩
   ·by_cases h4:room<1
    ·have HE:=(O2 (n:=n) (fr:=fr) (tp:=tp) (room:=room) Ω);go_wp2_with(go_at_call 52;refine X.mono ?_;rintro e w1 ⟨rfl,rfl⟩);go_ret;exact⟨AL (by rw[HZ.o,HE];rfl),rfl⟩
    ·by_cases h5:4096<room
     ·have HE:=(O2 (n:=n) (fr:=fr) (tp:=tp) (room:=room) Ω);go_wp2_with(go_at_call 52;refine X.mono ?_;rintro e w1 ⟨rfl,rfl⟩);go_ret;exact⟨AL (by rw[HZ.o,HE];rfl),rfl⟩
     ·have HE:=((Q7 (n:=n) (fr:=fr) (tp:=tp) (room:=room)).2 Ω);go_wp2_with(go_at_call 52;refine X.mono ?_;rintro e w1 ⟨rfl,rfl⟩);go_ret;exact⟨AL (by rw[HZ.o,HE];rfl),rfl⟩
end
theorem YsB(o:Ob)(f t:Int):0<=C3 o f t:=by unfold C3;omega
theorem VG(L:List Ob)(f t:Int):0<=A6 L f t:=by
 induction L with
 | nil=>exact ψg _
 | cons o r ih=>have:=YsB o f t;show 0<=C3 o f t+A6 r f t;omega
theorem JQq{L:List Ob}{n tp:Nat}(hg:∀o∈L,1<=o.2/\o.1+o.2<=n):A6 L tp n=0↔∀o∈L,o.1+o.2<=tp:=by
 induction L with
 | nil=>exact⟨(λ_ _ h=>by cases h),λ_=>rfl⟩
 | cons o r ih=>
  have h1:=YsB o tp n;have h2:=VG r tp n;have h3:=hg o (ζq ..);have ih:=ih (λq hq=>hg q (ζA _ hq));have e:A6 (o :: r) tp n=C3 o tp n+A6 r tp n:=rfl;constructor
  ·intro h q hq;rcases ξg.1 hq with rfl|hq
   ·have h4:C3 q tp n=0:=Ω
    unfold C3 at h4;omega
   grind
  ·intro h;have h4:=ih.2 (λq hq=>h q (ζA _ hq));have h5:=h o (ζq ..);have h6:C3 o tp n=0:=by unfold C3;omega
   omega
theorem XAy{n:Nat}{o:Ob}{r:List Ob}(hg:AO n (o :: r)){fr:Nat}(h:fr<=o.1):∀q∈o :: r,fr<=q.1:=λq hq=>by
 rcases ξg.1 hq with rfl|hq
 ·exact h
 ·have:=(ξe.1 hg.pw).1 q hq;omega
def FB(v:Vm)(rs:List Int)(fr tp:Int)(L:List Ob):Prop:=BH v rs v.n L/\∀o∈L,fr<=(o.1:Int)/\(o.1:Int)+o.2<=tp
def Zt3(w:World)(S:Nat->Prop)(q:Nat)(v:Vm)(rs:List Int)(fr tp:Nat)(e:Ending)(w':World):Prop:=
 AB S w w'/\AD w' (AE S w) q v ∧
  ((∃L m p1 b1 p2 b2,FB v rs fr tp L/\e=.returned (.tuple #[pP m,iI 0])/\Ext w' m p1 b1 p2 b2 v.n L/\w.heap.size<=m/\w.heap.size<=p1/\w.heap.size<=b1/\w.heap.size<=p2/\w.heap.size<=b2) ∨
   ((∀L,¬FB v rs fr tp L)/\e=.returned (.tuple #[.pointer none,iI 25])))
section
variable {w:World} {S:Nat->Prop} {q r g:Nat} {v:Vm} {rs:List Int}
theorem Jf0(hV:AD w S q v)(hn:v.n≠0)(hR:AU w r g rs)(hT:AP w)(htS:¬S 1)(fr tp room:Nat)(htp:tp<=v.n)(hr1:1<=room)(hr2:room<=4096):
  Calls prog 129 #[pP q,pP r,iI fr,iI tp,iI room] w (Zt3 w S q v rs fr tp):=by
 have HV:=hV.cut;have HR:=hR;have HT:=hT;have Xs:=htS;have Ym:=hV.ok.n2;have htl:=hT.lt;have HX:=(λW=>N8 v.n Ω Ω W);have Xr:=hR.le;have Yf:=(λ(W:World) (g:Gr w W)=>I3 (HV.gr g));have Yp:=Xr;obtain⟨n,Xg⟩:∃n,n=v.n:=⟨_,rfl⟩;have Y:=ι Xg;rw[<-Xg]at HX Yf htp Ym;clear hV hR hT htS hn Xr Xg;go_enter func129,ntmps129
 go_upto_region 2 with(first
  | (go_at_call 52;refine(Yf _ (Gr.refl w)).mono ?_;rintro e w1 ⟨rfl,rfl⟩)
  | (go_at_call 51;refine(HX _).mono ?_;rintro e w3 ⟨m,p1,b1,p2,b2,rfl,Yc,Xt,Yk,Yg,Yb,Xu,Ye⟩;have Xl:=ι Yc;have G:=ι Xt;have HB:=ι (ϑ Yk (ϑ Yg (ϑ Yb (ϑ Xu Ye))));clear Yc Xt Yk Yg Yb Xu Ye))
 have Xa:Hid (∀i,AM m b1 b2 i->w.heap.size<=i/\i<w3.heap.size):=⟨λi hi=>by
  have h1:=G.o.hm;have h2:=G.o.v1.hb;have h3:=G.o.v2.hb;have h4:=HB.o
  rcases hi with rfl|rfl|rfl <;> omega⟩
 have Xq:=ι (λ(W:World) (g:Gr w3 W)=>R7 (HR.gr (Xl.o.trans g)))
 have Yj:Hid (∀(W:World) (g1 cp:Nat),Gr w3 W->w3.heap.size<=g1->W.ownsRow 0 3 1 (.slice (some ⟨g1,0,none⟩) rs.length cp) rs.length (zs rs)->Calls prog 53 #[.iface 87 (pP q),.slice (some ⟨g1,0,none⟩) rs.length cp,pP m,iI room] W λe w'=>
   AB (λi=>AM m b1 b2 i\/AE S w i) W w'/\AD w' (AE S w) q v/\((∃(L:List Ob) (rv vi:Int),e=.returned (.tuple #[.agg #[iI (L.length:Nat),iI (sizes L:Nat),iI rv,iI vi],iI 0])/\Ext w' m p1 b1 p2 b2 n L/\BH v rs n L)\/(e=.returned (.tuple #[.agg #[iI 0,iI 0,iI 0,iI 0],iI 25])/\¬CE v rs n))):=⟨λW g1 cp hg hg1 ho=>by
  have Xx:=Xl.o.trans hg;refine(VO (HV.gr Xx) (G.o.gr hg) (Xx.tab HT.lt HT) (λi hi=>?_) (by unfold maxLen;have:=Yp;omega) (λi hi h=>by have:=(Xa.o i h).1;have:=hi.2;omega) (λh=>by have:=h.2;have:=HB.o;omega) (λh=>by have:=h.2;have:=HB.o;omega) (λh=>Xs h.1) (λh=>by have:=(Xa.o _ h).1;have:=HT.lt;omega) (room:Int)).mono ?_
  ·exact⟨g1,0,rfl,(A9 ho rfl).2,λh=>by have:=(Xa.o _ h).2;omega,by rw[ξs];exact BM ho (LS hi)⟩
  ·rintro e w' (⟨h,-⟩|⟨-,-,ht,hv,(⟨L,r',vi,rfl,he,hm,-⟩|⟨rfl,-,hs⟩)⟩)
   ·omega
   ·exact⟨ht,hv,.inl ⟨L,r',vi,rfl,he,hm⟩⟩
   ·exact⟨ht,hv,.inr ⟨rfl,hs⟩⟩⟩
 have Yq:Hid (∀W1 W2,Gr w3 W1->AB (λi=>AM m b1 b2 i\/AE S w i) W1 W2->AB S w W2):=⟨λW1 W2 h1 h2=>((Xl.o.trans h1).touch _).trans' h2 (λb hb h=>h.elim (λh=>by have:=(Xa.o b h).1;omega) (λh=>h.1))⟩
 go_upto_region 3 with(first
  | (go_at_call 54;refine(Xq.o _ (Gr.refl w3)).mono ?_;rintro e w4 ⟨g1,c1,rfl,Xp,Xz,Xv⟩;have Ya:=ι Xp;have Yl:=ι Xv;have Yr:=ι Xz;clear Xp Xv Xz)
  | (go_at_call 53;refine(Yj.o _ g1 c1 Ya.o Yr.o Yl.o).mono ?_;rintro e w5 ⟨Xy,Xm,(⟨L,rv,vi,rfl,Yh,Yd⟩|⟨rfl,Xw⟩)⟩ <;> (have Xi:=ι (Yq.o _ _ Ya.o Xy);have Xo:=ι Xm;clear Xy Xm)))
 ·have Xc:=ι Yd;have HZ:Hid (w.heap.size<=w5.heap.size):=⟨Xi.o.size⟩;obtain⟨w6,Xe⟩:∃w6,w6=w5.alloc (.cells #[.int .i64 (L.length:Nat),.int .i64 (sizes L:Nat),.int .i64 rv,.int .i64 vi] 107):=⟨_,rfl⟩;have Xb:Gr w5 w6:=by rw[Xe];exact(Gr.refl w5).alloc _
  have N:=ι (Yh.gr Xb);have V:Hid (AB S w w6):=⟨Xi.o.trans (Xb.touch _)⟩;have I:=ι (Xo.o.gr Xb);have Yi:Hid (AP w6):=⟨HT.touch' V.o Xs⟩;rw[<-Xe];have Z:=ι (I3 I.o);rw[<-Y.o]at Z;have Xn:=ι (λ(f:Int) (t:Int) (hf:f<=9223372036854775807) (ht:-9223372036854775808<=t)=>QS1 N.o Yi.o f t hf ht);have X:=ι (LZ N.o Yi.o 0);clear Xe Xb Yh Yd;cases L with
  | nil=>
   rw[L4 (by simp)]at X;have J:=ι (Xn.o tp n Ω Ω);rw[show A6 [] (tp:Int) (n:Int)=0 from rfl]at J
   go_wp2_with(first
    | (go_at_call 168;refine X.o.mono ?_;rintro e w7 ⟨rfl,rfl⟩)
    | (go_at_call 52;refine Z.o.mono ?_;rintro e w7 ⟨rfl,rfl⟩)
    | (go_at_call 169;refine J.o.mono ?_;rintro e w7 ⟨rfl,rfl⟩))
   go_ret2;exact⟨V.o,I.o,.inl ⟨[],m,p1,b1,p2,b2,⟨by rw[<-Y.o];exact Xc.o,λ_ h=>by cases h⟩,BI rfl rfl,by rw[<-Y.o];exact N.o,HB.o⟩⟩
  | cons o rr=>
   have Xd:BA (o :: rr) 0=0:=L5 (ζe _) (λi _ h=>absurd h (ζI _)) (λ_=>by omega);rw[Xd,NV (by simp)]at X;simp only[ψl]at X;have hg:=N.o.good;obtain⟨os,E⟩:∃os,os=o.1:=⟨_,rfl⟩;obtain⟨oz,Xk⟩:∃oz,oz=o.2:=⟨_,rfl⟩;rw[<-E,<-Xk]at X;have Ys:=ι E;have HGD:=ι hg;by_cases O:os<fr
   ·have e1:decide ((os:Int)<(fr:Int))=true:=θ Ω;have e9:decide (os<fr)=true:=θ O;have Yt:=ι O;clear O E Xk hg Xd;go_wp2_with(go_at_call 168;refine X.o.mono ?_;rintro e w7 ⟨rfl,rfl⟩);go_ret2;refine⟨V.o,I.o,.inr ⟨λL' h=>?_,BI rfl rfl⟩⟩;have h1:=h.1;rw[<-Y.o]at h1;have e:=h1.unique Xc.o;subst e;have:=(h.2 o (ζq ..)).1;have:=Ys.o;have:=Yt.o;omega
   ·have e1:decide ((os:Int)<(fr:Int))=false:=φ Ω;have e9:decide (os<fr)=false:=φ O;have Yn:=ι (XAy hg (fr:=fr) Ω);have Xh:=ι (JQq (tp:=tp) hg.sz);have J:=ι (Xn.o tp n Ω Ω);obtain⟨ov,Xf⟩:∃ov,ov=A6 (o :: rr) (tp:Int) (n:Int):=⟨_,rfl⟩;have hov0:0<=ov:=by rw[Xf];exact VG _ _ _
    rw[<-Xf]at J Xh;clear O E Xk hg Xd Xf;by_cases hz:ov=0
    ·have e2:decide (0<ov)=false:=φ Ω;have Xj:=ι hz;clear hz
     go_wp2_with(first
      | (go_at_call 168;refine X.o.mono ?_;rintro e w7 ⟨rfl,rfl⟩)
      | (go_at_call 52;refine Z.o.mono ?_;rintro e w7 ⟨rfl,rfl⟩)
      | (go_at_call 169;refine J.o.mono ?_;rintro e w7 ⟨rfl,rfl⟩))
     go_ret2;refine⟨V.o,I.o,.inl ⟨o :: rr,m,p1,b1,p2,b2,⟨by rw[<-Y.o];exact Xc.o,λq hq=>?_⟩,BI rfl rfl,by rw[<-Y.o];exact N.o,HB.o⟩⟩;have:=Yn.o q hq;have:=Xh.o.1 Xj.o q hq;omega
    ·have e2:decide (0<ov)=true:=θ Ω;have Xj:=ι hz;clear hz
     go_wp2_with(first
      | (go_at_call 168;refine X.o.mono ?_;rintro e w7 ⟨rfl,rfl⟩)
      | (go_at_call 52;refine Z.o.mono ?_;rintro e w7 ⟨rfl,rfl⟩)
      | (go_at_call 169;refine J.o.mono ?_;rintro e w7 ⟨rfl,rfl⟩))
     go_ret2;refine⟨V.o,I.o,.inr ⟨λL' h=>?_,BI rfl rfl⟩⟩;have h1:=h.1;rw[<-Y.o]at h1;have e:=h1.unique Xc.o;subst e;exact Xj.o (Xh.o.2 λq hq=>by have:=(h.2 q hq).2;omega)
 ·have Yo:=ι Xw;clear Xw;go_wp2;go_ret2;refine⟨Xi.o.trans (((Gr.refl w5).alloc _).touch _),Xo.o.gr ((Gr.refl w5).alloc _),.inr ⟨λL' h=>Yo.o ?_,BI rfl rfl⟩⟩;rw[Y.o];exact h.1.sound
end
theorem BV.ldV_all{v v':Vm}{F:List Nat}(h:BV v v' F)(hv:AF v){a:Nat}(ha:a<v.n):v'.ldV a=v.ldV a:=by
 rw[h.vl a ha];by_cases hf:a/v.pl.pg∈F
 ·rw[μ hf];have:v.ldE a=12:=by rw[hv.ldE_of ha,μ (h.un _ hf).2]
  unfold Vm.ldV
  simp_all
 simp_all
theorem YNw{v v1:Vm}(h:AF v){rs:List Int}{fr tp:Nat}{L:List Ob}(hI:FB v rs fr tp L)(h1:1<=fr)(h2:fr<=tp)(h3:tp<=v.n)(hE:BD v fr ((fr+sizes L:Nat):Int)=0)(hG:BV v v1 (BT v fr ((fr+sizes L:Nat):Int))):EH v1 rs L fr tp/\fr+sizes L<=tp:=by
 have hw:=hG.wider h;have X:∀o∈L,fr<=o.1/\o.1+o.2<=tp:=λo ho=>by have:=hI.2 o ho;omega
 have Y:fr+sizes L<=tp:=by
  rcases ζB L.length with h0|h0
  ·have:L=[]:=ζz h0;subst this
   assumption
  ·have hj:L.length-1<L.length:=Ω
   have e1:=RF hI.1.mkd.good (λo ho=>(X o ho).1) hj;have e2:=X _ (χ hj);have e3:=FF hj
   grind
 exact⟨⟨hG.ok,by rw[hG.n];exact hw.marks hI.1,X,h1,by rw[hG.n];exact h3,λa ha hb=>UE h Ω hE hG ha hb⟩,Y⟩
def I6(nt pg:Nat):Nat:=(nt+pg-1)/pg
theorem MU{nt pg q:Nat}(hp:1<=pg):nt<=q*pg↔I6 nt pg<=q:=by
 unfold I6;have h1:=ζy (nt+pg-1) pg;have h2:=ξS (nt+pg-1) (show 0<pg by omega);constructor
 ·intro h;have h3:nt+pg-1<(q+1)*pg:=by grind
  have:=(ζ1 (show 0<pg by omega)).2 h3;omega
 ·intro h;have h3:=ζi pg h
  grind
structure GO(v:Vm)(rs:List Int)(fr tp:Nat)(L:List Ob)(v1 v2:Vm)(j:Nat):Prop where
 gr:BV v v1 (BT v fr ((fr+sizes L:Nat):Int))
 cx:EH v1 rs L fr tp
 st:Pkd v1 v2 L fr (sizes L)
 q1:∀i,i<j->(fr/v.pl.pg+i)*v.pl.pg<tp
 q2:tp<=(fr/v.pl.pg+j)*v.pl.pg
def EY(v v2:Vm)(fr nt j:Nat):Vm:=umN v2 (I6 nt v.pl.pg) (fr/v.pl.pg+j-I6 nt v.pl.pg)
def YYf(w:World)(S:Nat->Prop)(q r g:Nat)(v:Vm)(rs:List Int)(fr tp room:Int)(e:Ending)(w':World):Prop:=
 AB (λb=>b=g\/S b) w w' ∧
  ((G3 v.n fr tp room=false/\e=.returned (.tuple #[iI 0,iI 5])/\AD w' S q v/\AU w' r g rs) ∨
  (G3 v.n fr tp room=true ∧
   (((∀L,¬FB v rs fr tp L)/\e=.returned (.tuple #[iI 0,iI 25])/\AD w' S q v/\AU w' r g rs) ∨
   ∃(L:List Ob) (f t:Nat),FB v rs fr tp L/\fr=(f:Int)/\tp=(t:Int) ∧
    ((BD v f ((f+sizes L:Nat):Int)≠0/\e=.returned (.tuple #[iI 0,iI (BD v f ((f+sizes L:Nat):Int))])/\H9 w' (plus S w) q v []/\AU w' r g rs) ∨
    (BD v f ((f+sizes L:Nat):Int)=0/\e=.returned (.tuple #[iI ((f+sizes L:Nat):Int),iI 0]) ∧
     ∃v1 v2 j,GO v rs f t L v1 v2 j/\AD w' (plus S w) q (EY v v2 f (f+sizes L) j)/\AU w' r g (rs.map (toV L f)))))))
section
variable {w:World} {S:Nat->Prop} {q r g:Nat} {v:Vm} {rs:List Int}
theorem YrC(hV:AD w S q v)(f t:Nat)(ht:t<=v.n)(hft:f<=t):Calls prog 122 #[pP q,iI f,iI t] w λe w'=>e=.returned (iI (BD v f t))/\AB S w w'/\H9 w' (plus S w) q v (BT v f t):=by
 rcases ω f t with h|h
 ·grind [QJ]
 ·obtain rfl:f=t:=Ω
  obtain⟨e1,e2⟩:=VGS (v:=v) (f:=f) ht;rw[e1,e2];refine(Y5 hV f f ht (π _)).mono ?_;rintro e w' ⟨rfl,hg⟩;refine⟨rfl,hg.touch _,v,?_,(hV.gr hg).mono (λ_ h=>.inl h)⟩;exact⟨hV.ok,rfl,rfl,rfl,rfl,ξT,(λ_ h=>by cases h),(λ_ _=>by simp),λ_ _=>by simp⟩
theorem WW{n:Nat}{L:List Ob}(hg:AO n L)(hn:n<=1048576)(base:Nat)(a:Int):0<=toV L base a:=by
 unfold toV
 split
 ·have:=(XA hg hn a).1;omega
 omega
variable {F f n B fr:Nat} {L:List Ob}
theorem XoZ{fb:Nat}(hF:Fwd w F f n B fr L)(hc:w.cell? ⟨fb,0,none⟩=some (pP f))(a:Int):Calls prog 134 #[iI a,pP fb] w λe w'=>e=.returned (iI (toV L fr a))/\Gr w w':=by
 have HT:=(QH hF a);go_enter func134,ntmps134;go_wp2_with(go_at_call 135;refine(HT).mono ?_;rintro e w1 ⟨rfl,X⟩;have HG1:=X);go_ret
 simp_all
theorem ZKw{fb:Nat}(hF:∀W,AB (λb=>b=g) w W->Fwd W F f n B fr L)(hc:w.cell? ⟨fb,0,none⟩=some (pP f))(hfb:fb≠g)(hR:AU w r g rs)(h0:toV L fr 0=0):
  Calls prog 123 #[pP r,.func (.func 134) #[] #[pP fb]] w λe w'=>e=.returned (.tuple #[])/\AB (λb=>b=g) w w'/\AU w' r g (rs.map (toV L fr)):=by
 refine(W9 (F:=134) (pre:=#[]) (caps:=#[pP fb]) (λi W Z=>AB (λb=>b=g) w W/\Z=(rs.take i).map (toV L fr)) (λ_ _=>by kernel_rfl) hR ⟨AB.refl _ _,rfl⟩ ?_ ?_).mono ?_
 ·grind [IV]
 ·rintro i hi W Z ho ⟨t,e⟩ N hne W0 X;have hf:=hF W0 (t.trans (X.touch _));have V:=AV hc;have J:=((t.trans (X.touch _)).cell V hfb 0).trans hc;refine(XoZ hf J rs[i]).mono ?_;rintro e' W' ⟨rfl,Y⟩;have hb:=WW hf.good.1 hf.good.2 fr rs[i];refine⟨_,rfl,(N.gr X).gr Y,λW'' t''=>⟨((t.trans (X.touch _)).trans (Y.touch _)).trans t'',?_⟩⟩
  grind [IV,Int.max_eq_left]
 simp_all
end
def AH(L:List Ob)(i:Nat):Nat:=(DZ L i).getD 0
theorem YZF{L:List Ob}{j m:Nat}(hj:j<L.length)(hm:m<L[j].2):AH L (sizes (L.take j)+m)=L[j].1+m:=by
 unfold AH;grind [XEK]
theorem NP{L:List Ob}{i:Nat}(h:i<sizes L):∃hj:BX L i<L.length,∃m,m<(L[BX L i]'hj).2/\i=sizes (L.take (BX L i))+m/\AH L i=(L[BX L i]'hj).1+m:=by
 obtain⟨hj,m,h1,h2,h3⟩:=VBJ h;exact⟨hj,m,h1,h2,by unfold AH;rw[h3];rfl⟩
theorem Y3d{L:List Ob}{i:Nat}:IW L (i:Int)=(AH L i:Int):=by
 unfold IW AH
 grind
theorem L3{L:List Ob}{base i:Nat}(h:i<sizes L):CP L base ((base+i:Nat):Int)=(AH L i:Int)/\F3 L base ((base+i:Nat):Int)=0:=by
 have X:inF L base ((base+i:Nat):Int)=true:=FH.2 Ω;unfold CP F3;rw[X,μ rfl,μ rfl,show ((base+i:Nat):Int)-(base:Int)=(i:Int)by omega]
 grind [Y3d]
theorem YYc{n:Nat}{L:List Ob}(hg:AO n L){i k:Nat}(hik:i<k)(hk:k<sizes L):AH L i<AH L k:=by
 obtain⟨hj,m,h1,h2,h3⟩:=NP (L:=L) (i:=i) Ω;obtain⟨X,m',h1',h2',Y⟩:=NP hk;rw[h3,Y];rcases ζU (BX L i) (BX L k)with h|h|h
 ·have:=hg.at hj X h;omega
 ·grind
 ·have e1:=FF (L:=L) X
  have e2:sizes (L.take (BX L k+1))<=sizes (L.take (BX L i)):=by
   have:L.take (BX L k+1)=(L.take (BX L i)).take (BX L k+1):=by grind
   grind [Zut]
  omega
theorem Z8c{L:List Ob}{fr tp:Nat}(hf:∀o∈L,fr<=o.1/\o.1+o.2<=tp){i:Nat}(hi:i<sizes L):fr<=AH L i/\AH L i<tp:=by
 obtain⟨hj,m,h1,h2,h3⟩:=NP hi
 grind
theorem QFu{n:Nat}{L:List Ob}(hg:AO n L){i:Nat}(hi:i<sizes L):A7 L (AH L i:Nat)=BX L i:=by
 obtain⟨hj,m,h1,h2,h3⟩:=NP hi;obtain⟨j,X,e1,e2,e3,e4,-⟩:=Zeb hg (base:=((0:Nat):Int)) (b:=(i:Int)) (FH.2 Ω);have hs:=(L3 (base:=0) hi).1;rw[ξs]at hs;rw[hs]at e2 e3 e4
 have:BX L i=j:=by
  rcases hg.disj (χ hj) (χ X)with e|e|e
  ·rcases ζU (BX L i) j with h|h|h
   ·have:=hg.at hj X h;omega
   ·exact h
   ·have:=hg.at X hj h;omega
  ·omega
  ·omega
 omega
def cvH(L:List Ob)(tb:Nat)(h:Hdr)(m x:Nat):Nat:=if (1<=m/\(m:Int)<=h.p)/\x≠0 then (toV L tb (x:Nat)).toNat else x
structure Sl where
 n:Nat
 pg:Nat
 cf:Cf
 L:List Ob
 hd:Nat->Hdr
 c:Nat->Nat
 mv:List Bool
def Sl.mvd(s:Sl):Nat:=cnt (at_ s.mv) s.mv.length
def Sl.ft(s:Sl):Nat:=first (λk=>!at_ s.mv k) s.mv.length
def Sl.lf(s:Sl):Nat:=s.mv.length-s.mvd
def Sl.is(s:Sl)(i:Nat):Bool:=at_ s.mv (i/s.cf.bk)
def Sl.off(s:Sl)(i:Nat):Nat:=i-sizes (s.L.take (BX s.L i))
def Sl.hdr(s:Sl)(i:Nat):Hdr:=s.hd (s.L.getD (BX s.L i) (0,0)).1
def Sl.cv(s:Sl)(i x:Nat):Nat:=cvH s.L s.cf.to (s.hdr i) (s.off i) x
def Sl.ptr(s:Sl)(i:Nat):Prop:=1<=s.off i/\(s.off i:Int)<=(s.hdr i).p
structure BC(s:Sl):Prop where
 pg:1<=s.pg/\s.pg<=256
 n2:s.n<=524288
 cf:G8 s.pg s.n s.cf
 good:AO s.n s.L
 inn:∀o∈s.L,s.cf.fr<=o.1/\o.1+o.2<=s.cf.tp
 fit:s.cf.to+sizes s.L<=s.cf.lm
 hd:∀j (hj:j<s.L.length),∃p f k:Nat,s.hd s.L[j].1=⟨p,f,k⟩/\p+f+k<=255/\s.L[j].2=1+p+f+k
 len:s.mv.length=nbl (sizes s.L) s.cf.bk
section
variable {s:Sl}
theorem BC.bk(h:BC s):1<=s.cf.bk/\s.cf.bk<=1024:=by have:=DE h.cf.bk;omega
theorem BC.N_le(h:BC s):sizes s.L<=s.n:=FW h.good
theorem Z7{a b p:Nat}(hp:1<=p)(hb:b%p=0)(h:a<b):a/p<b/p:=by
 have h1:=ζy b p;rw[ζ1 Ω,ζR];omega
theorem XSg{n B:Nat}(hB:1<=B):n<=upN n B/\upN n B%B=0:=by
 unfold upN;have h1:=ζy (n+B-1) B;have h2:=ξS (n+B-1) (show 0<B by omega)
 grind [ζR,Nat.mul_mod_left]
theorem BC.apart(h:BC s){a b:Nat}(ha:s.cf.fr<=a/\a<s.cf.tp)(hb:s.cf.to<=b/\b<s.cf.lm):a/s.pg≠b/s.pg:=by
 have hu:=XSg (n:=s.cf.tp) h.pg.1
 have hn:s.cf.lm<=s.cf.fr\/upN s.cf.tp s.pg<=s.cf.to:=by
  have:=h.cf.ap;omega
 rcases hn with e|e
 ·have h1:=Z7 h.pg.1 h.cf.al hb.2;have h2:=ζc (c:=s.pg) (ζa e ha.1);omega
 ·have h1:=Z7 (a:=a) h.pg.1 hu.2 Ω;have h2:=ζc (c:=s.pg) (ζa e hb.1);omega
theorem BC.srcs(h:BC s){i:Nat}(hi:i<sizes s.L):s.cf.fr<=AH s.L i/\AH s.L i<s.cf.tp/\AH s.L i<s.n:=by
 have h1:=Z8c h.inn hi;have h2:=h.cf.tn;omega
theorem BC.dsts(h:BC s){i:Nat}(hi:i<sizes s.L):s.cf.to+i<s.cf.lm/\s.cf.to+i<s.n:=by
 have h1:=h.fit;have h2:=h.cf.ln;omega
theorem BC.obj(h:BC s){i:Nat}(hi:i<sizes s.L):∃j,∃hj:j<s.L.length,∃m p f k:Nat,BX s.L i=j/\m<s.L[j].2/\i=sizes (s.L.take j)+m/\AH s.L i=s.L[j].1+m/\s.off i=m/\s.hdr i=s.hd s.L[j].1/\s.hd s.L[j].1=⟨p,f,k⟩/\p+f+k<=255/\s.L[j].2=1+p+f+k:=by
 obtain⟨hj,m,h1,h2,h3⟩:=NP hi;obtain⟨p,f,k,e1,e2,e3⟩:=h.hd _ hj;refine⟨BX s.L i,hj,m,p,f,k,rfl,h1,h2,h3,by unfold Sl.off;omega,?_,e1,e2,e3⟩;unfold Sl.hdr
 grind
theorem BC.blk(h:BC s){i:Nat}(hi:i<sizes s.L):i/s.cf.bk<s.mv.length:=by
 rw[h.len,I0 h.bk.1];have:=ζj i s.cf.bk;omega
theorem BC.mv(h:BC s)(l:List Bool)(hl:l.length=s.mv.length):BC {s with mv:=l}:=
 ⟨h.pg,h.n2,h.cf,h.good,h.inn,h.fit,h.hd,hl.trans h.len⟩
end
theorem Xxa(L:List Ob)(tb:Nat)(a:Int):0<=toV L tb a:=by
 unfold toV
 split
 ·have:=VG L 0 a;omega
 omega
theorem BC.to_lt{s:Sl}(h:BC s)(a:Int):toV s.L s.cf.to a<4294967296:=by
 unfold toV
 split
 ·have h1:=XA h.good (by have:=h.n2;omega) a;have h2:=h.cf.lm;have h3:=h.cf.ln;have h4:=h.n2;omega
 ·omega
theorem BC.cv_lt{s:Sl}(h:BC s)(i:Nat){x:Nat}(hx:x<18446744073709551616):s.cv i x<18446744073709551616:=by
 unfold Sl.cv cvH
 split
 ·have:=h.to_lt (x:Nat);omega
 ·exact hx
structure EE(s:Sl)(D U:Nat->Bool)(v:Vm):Prop where
 ok:AF v
 n:v.n=s.n
 pg:v.pl.pg=s.pg
 src:∀i,i<sizes s.L->U i=true->v.ldE (AH s.L i:Nat)=0/\s.cv i (v.ldV (AH s.L i:Nat))=s.c i/\(s.ptr i->v.ldV (AH s.L i:Nat)<=2147483647)
 dst:∀i,i<sizes s.L->D i=true->v.ldE ((s.cf.to+i:Nat):Int)=0/\v.ldV ((s.cf.to+i:Nat):Int)=s.c i
structure BO(s:Sl)(v:Vm):Prop where
 st:BC s
 mid:EE s s.is (λi=>!s.is i) v
def Sl.inB(s:Sl)(k i:Nat):Bool:=i/s.cf.bk==k
def Sl.lo(s:Sl)(k:Nat):Nat:=k*s.cf.bk
def Sl.hi(s:Sl)(k:Nat):Nat:=min (k*s.cf.bk+s.cf.bk) (sizes s.L)
theorem BC.inB{s:Sl}(h:BC s){k i:Nat}(hi:i<sizes s.L):s.inB k i=true↔s.lo k<=i/\i<s.hi k:=by
 unfold Sl.inB Sl.lo Sl.hi;have hb:=h.bk.1;have h1:=ζy i s.cf.bk;have h2:=ξS i (show 0<s.cf.bk by omega);rw[ζ0]
 grind [ζR,Nat.div_eq_of_lt_le,ξm]
theorem BC.lohi{s:Sl}(h:BC s){k:Nat}(hk:k<s.mv.length):s.lo k<s.hi k/\s.hi k<=s.lo k+s.cf.bk/\s.hi k<=sizes s.L:=by
 rw[h.len,I0 h.bk.1]at hk;have:=h.bk.1;unfold Sl.lo Sl.hi;omega
theorem Sl.is_put{s:Sl}{k:Nat}(hk:k<s.mv.length)(i:Nat):({s with mv:=s.mv.set k true}:Sl).is i=(s.is i||s.inB k i):=by
 unfold Sl.is Sl.inB;rw[GA hk]
 grind
theorem YQS{n i:Nat}(hi:i<n):cnt (λj=>j==i) n=1:=by
 have e:cnt (λj=>j==i) n=cnt (λj=>decide (i<=j/\j<i+1)) n:=CT λj _=>by
  grind
 rw[e,SI i (i+1) n Ω Ω];omega
theorem UW{f:Nat->Bool}{n i:Nat}(hi:i<n)(h:f i=false):cnt (λj=>f j||j==i) n=cnt f n+1:=by
 rw[LT (λj=>by grind) n,YQS hi]
theorem Z9{f:Nat->Bool}{n i:Nat}(hi:i<n)(h:f i=true):cnt (λj=>f j&&!(j==i)) n+1=cnt f n:=by
 rw[<-UW (f:=λj=>f j&&!(j==i)) hi (by simp)];refine CT λj _=>?_;by_cases e:j=i
 ·simp_all
 grind
def Sl.on(s:Sl)(U:Nat->Bool)(q:Nat):Nat:=cnt (λi=>U i&&(AH s.L i/s.pg==q)) (sizes s.L)
def but(U:Nat->Bool)(i:Nat):Nat->Bool:=λj=>U j&&!(j==i)
theorem S0{U:Nat->Bool}{i j:Nat}(h:j≠i):but U i j=U j:=by
 have e':(j==i)=false:=ζo.2 h;simp[but,e']
theorem J3l{U:Nat->Bool}{i:Nat}:but U i i=false:=by simp[but]
section
variable {s:Sl} {U:Nat->Bool} {i q:Nat}
theorem Sl.on_but(hi:i<sizes s.L)(h:U i=true):s.on (but U i) q+(if AH s.L i/s.pg=q then 1 else 0)=s.on U q:=by
 unfold Sl.on but;by_cases e:AH s.L i/s.pg=q
 ·rw[μ e,<-Z9 (f:=λi=>U i&&(AH s.L i/s.pg==q)) hi (by simp[h,e])]
  grind
 grind
theorem Sl.on_le(s:Sl)(U:Nat->Bool)(q:Nat):s.on U q<=sizes s.L:=EG _ _
theorem Sl.on_zero(h:s.on U q=0){j:Nat}(hj:j<sizes s.L)(hU:U j=true):AH s.L j/s.pg≠q:=by
 have:=UN h j hj
 simp_all
theorem Sl.on_pos(hj:i<sizes s.L)(hU:U i=true)(he:AH s.L i/s.pg=q):1<=s.on U q:=by
 rcases ζB (s.on U q)with h|h
 ·exact absurd he (Sl.on_zero h hj hU)
 ·exact h
theorem Sl.on_iff:s.on U q=0↔∀j,j<sizes s.L->U j=true->AH s.L j/s.pg≠q:=
 ⟨λh _ hj hU=>Sl.on_zero h hj hU,λh=>GZ λj hj=>by
  simp_all⟩
theorem Sl.on_congr{V:Nat->Bool}(h:∀j,j<sizes s.L->U j=V j):s.on U q=s.on V q:=CT λj hj=>by rw[h j hj]
end
section
variable {s:Sl} {D U:Nat->Bool} {v v1 v':Vm}
theorem EE.congr{D' U':Nat->Bool}(h:EE s D U v)(hD:∀i,i<sizes s.L->D' i=true->D i=true)(hU:∀i,i<sizes s.L->U' i=true->U i=true):EE s D' U' v:=
 ⟨h.ok,h.n,h.pg,λi hi hu=>h.src i hi (hU i hi hu),λi hi hd=>h.dst i hi (hD i hi hd)⟩
theorem EE.mvd(h:EE s D U v)(l:List Bool):EE {s with mv:=l} D U v:=⟨h.ok,h.n,h.pg,h.src,h.dst⟩
theorem EE.grow{F:List Nat}(hs:BC s)(h:EE s D U v)(g:BV v v1 F):EE s D U v1:=by
 refine⟨g.ok,g.n.trans h.n,g.pg.trans h.pg,λi hi hu=>?_,λi hi hd=>?_⟩
 ·obtain⟨h1,h2,h3⟩:=h.src i hi hu;have hl:=(hs.srcs hi).2.2;rw[<-h.n]at hl;rw[g.ldV_all h.ok hl,g.ldE h.ok hl]
  simp_all
 ·obtain⟨h1,h2⟩:=h.dst i hi hd;have hl:=(hs.dsts hi).2;rw[<-h.n]at hl;rw[g.ldV_all h.ok hl,g.ldE h.ok hl];omega
theorem EE.put(hs:BC s)(h:EE s D U v){i:Nat}(hi:i<sizes s.L)(hl:v.ldE ((s.cf.to+i:Nat):Int)=0){x:Nat}(hx:x=s.c i)(hx2:x<18446744073709551616):EE s (λj=>D j||j==i) U (v.st ((s.cf.to+i:Nat):Int) x):=by
 have X:=h.ok.st_ldV x hl;refine⟨h.ok.st _ hx2,(BQ.st v _ x).n.trans h.n,(BQ.st v _ x).pg.trans h.pg,λj hj hu=>?_,λj hj hd=>?_⟩
 ·obtain⟨h1,h2,h3⟩:=h.src j hj hu;have ha:(((s.cf.to+i:Nat):Int)≠(AH s.L j:Nat)):=λe=>hs.apart ⟨(hs.srcs hj).1,(hs.srcs hj).2.1⟩ ⟨ζM _ i,(hs.dsts hi).1⟩ (by grind);rw[FN,X,κ ha]
  simp_all
 ·rw[FN,X];by_cases e:i=j
  ·simp_all
  ·rw[κ Ω];exact h.dst j hj (by grind)
structure FR(s:Sl)(D U:Nat->Bool)(lo hi:Nat)(v1 v':Vm)(m:Nat):Prop where
 mid:EE s (λj=>D j||(decide (lo<=j)&&decide (j<lo+m))) U v'
 sm:BQ v1 v'
 oth:∀a:Nat,(a<s.cf.to+lo\/s.cf.to+hi<=a)->v'.ldV a=v1.ldV a
theorem FR.zero(h:EE s D U v)(lo hi:Nat):FR s D U lo hi v v 0:=
 ⟨h.congr (λi _ hd=>by
  grind) (λ_ _ h=>h),BQ.refl v,λ_ _=>rfl⟩
theorem FR.step(hs:BC s){lo hi m:Nat}(h:FR s D U lo hi v1 v' m)(hm:lo+m<hi)(hhi:hi<=sizes s.L)(hl:v1.ldE ((s.cf.to+(lo+m):Nat):Int)=0){x:Nat}(hx:x=s.c (lo+m))(hx2:x<18446744073709551616):
  FR s D U lo hi v1 (v'.st ((s.cf.to+(lo+m):Nat):Int) x) (m+1):=by
 have X:v'.ldE ((s.cf.to+(lo+m):Nat):Int)=0:=by rw[h.sm.ldE];exact hl
 refine⟨(h.mid.put hs Ω X hx hx2).congr (λi _ hd=>?_) (λ_ _ h=>h),h.sm.trans (BQ.st _ _ _),λa ha=>?_⟩
 ·grind
 ·rw[h.mid.ok.st_ldV x X,κ Ω];exact h.oth a ha
structure FC(s:Sl)(D U0 U:Nat->Bool)(v1 v':Vm):Prop where
 mid:EE s D U v'
 le:∀i,i<sizes s.L->U i=true->U0 i=true
 rm:v'.pl.rm=v1.pl.rm
 map:∀p,p<v1.pt.length->(v'.pt.getD p 0≠0↔v1.pt.getD p 0≠0/\¬ ∃i,i<sizes s.L/\U0 i=true/\U i=false/\AH s.L i/s.pg=p/\s.on U p=0)
 oth:∀a:Nat,a<s.n->(∀i,i<sizes s.L->AH s.L i/s.pg≠a/s.pg)->v'.ldV a=v1.ldV a/\v'.ldE a=v1.ldE a
theorem FC.zero(h:EE s D U v):FC s D U U v v:=
 ⟨h,λ_ _ h=>h,rfl,λp _=>⟨λh=>⟨h,λ⟨i,_,h1,h2,_⟩=>by simp_all⟩,λh=>h.1⟩,λ_ _ _=>⟨rfl,rfl⟩⟩
theorem FC.keep{U0:Nat->Bool}(h:FC s D U0 U v1 v'){i:Nat}(hi:i<sizes s.L)(hU:U i=true)(hz:s.on (but U i) (AH s.L i/s.pg)≠0):FC s D U0 (but U i) v1 v':=by
 have X:∀j,but U i j=true->U j=true:=λj h=>by exact(ζ5.1 h).1
 refine⟨h.mid.congr (λ_ _ h=>h) (λj _ hj=>X j hj),λj hj hu=>h.le j hj (X j hu),h.rm,λp hp=>(h.map p hp).trans (and_congr_right λ_=>not_congr ?_),h.oth⟩;have Y:=λq=>Sl.on_but (s:=s) (U:=U) (i:=i) (q:=q) hi hU;constructor
 ·grind
 ·rintro⟨j,hj,h1,h2,h3,h4⟩;have J:AH s.L i/s.pg≠p:=λe=>by simp_all
  have Z:j≠i:=λe=>by simp_all
  have:=Y p;rw[κ J]at this;exact⟨j,hj,h1,by rw[S0 Z]at h2;exact h2,h3,by omega⟩
theorem ZdX{v:Vm}{p:Nat}(h:frE v.pt (p:Int)=0)(k:Nat):(v.um (p:Int)).pt.getD k 0≠0↔v.pt.getD k 0≠0/\k≠p:=by
 unfold Vm.um
 grind
theorem FC.drop(hs:BC s){U0:Nat->Bool}(h:FC s D U0 U v1 v'){i:Nat}(hi:i<sizes s.L)(hU:U i=true)(hz:s.on (but U i) (AH s.L i/s.pg)=0):FC s D U0 (but U i) v1 (v'.um ((AH s.L i/s.pg:Nat):Int)):=by
 have N:∀j,but U i j=true->U j=true:=λj h=>by exact(ζ5.1 h).1
 have hk:=h.mid.ok;obtain⟨m1,m2,m3⟩:=h.mid.src i hi hU;have O:=hs.srcs hi
 have Y:frE v'.pt ((AH s.L i/s.pg:Nat):Int)=0:=by
  unfold Vm.ldE at m1;rw[μ ⟨by omega,by omega⟩,h.mid.pg]at m1;exact m1
 have J:∀a:Nat,a<s.n->a/s.pg≠AH s.L i/s.pg->(v'.um ((AH s.L i/s.pg:Nat):Int)).ldE a=v'.ldE a/\(v'.um ((AH s.L i/s.pg:Nat):Int)).ldV a=v'.ldV a:=λa ha hne=>by
  have V:a/v'.pl.pg≠AH s.L i/s.pg:=by rw[h.mid.pg];exact hne
  exact⟨by rw[hk.um_ldE Y (by rw[h.mid.n];exact ha),κ V],hk.um_ldV Y (by rw[h.mid.n];exact ha) V⟩
 have Z:(v'.um ((AH s.L i/s.pg:Nat):Int)).n=v'.n/\(v'.um ((AH s.L i/s.pg:Nat):Int)).pl.pg=v'.pl.pg/\(v'.um ((AH s.L i/s.pg:Nat):Int)).pl.rm=v'.pl.rm:=by
  unfold Vm.um
  split <;> exact⟨rfl,rfl,rfl⟩
 have I:=λq=>Sl.on_but (s:=s) (U:=U) (i:=i) (q:=q) hi hU;refine⟨⟨hk.um _,Z.1.trans h.mid.n,Z.2.1.trans h.mid.pg,λj hj hu=>?_,λj hj hd=>?_⟩,λj hj hu=>h.le j hj (N j hu),Z.2.2.trans h.rm,λp hp=>?_,λa ha hf=>?_⟩
 ·obtain⟨e1,e2⟩:=J (AH s.L j) (hs.srcs hj).2.2 (Sl.on_zero hz hj hu);rw[e1,e2];exact h.mid.src j hj (N j hu)
 ·obtain⟨e1,e2⟩:=J (s.cf.to+j) (hs.dsts hj).2 (λe=>hs.apart ⟨O.1,O.2.1⟩ ⟨ζM _ j,(hs.dsts hj).1⟩ e.symm);rw[e1,e2];exact h.mid.dst j hj hd
 ·rw[ZdX Y,h.map p hp,and_assoc];refine and_congr_right λ_=>?_;have:=I p;constructor
  ·rintro⟨g1,g2⟩ ⟨j,hj,h1,h2,h3,h4⟩;by_cases X:j=i
   ·subst X;exact g2 h3.symm
   ·rw[S0 X]at h2;rw[κ (λe=>g2 e.symm)]at this;exact g1 ⟨j,hj,h1,h2,h3,by omega⟩
  ·intro g;refine⟨λ⟨j,hj,h1,h2,h3,h4⟩=>?_,λe=>?_⟩
   ·have X:j≠i:=λe=>by subst e;rw[hU]at h2;cases h2
    exact g ⟨j,hj,h1,by rw[S0 X];exact h2,h3,by omega⟩
   ·subst e;exact g ⟨i,hi,h.le i hi hU,J3l,rfl,hz⟩
 ·obtain⟨e1,e2⟩:=J a ha (λe=>hf i hi e.symm);rw[e1,e2];exact h.oth a ha hf
end
structure MQ(s:Sl)(k:Nat)(v v':Vm):Prop where
 ok:BO {s with mv:=s.mv.set k true} v'
 rm:v'.pl.rm=v.pl.rm
 map:∀p,p<v.pt.length->(v'.pt.getD p 0≠0↔(v.pt.getD p 0≠0\/((s.cf.to+s.lo k)/s.pg<=p/\p<=(s.cf.to+s.hi k-1)/s.pg))/\¬ ∃i,i<sizes s.L/\s.inB k i=true/\AH s.L i/s.pg=p/\∀j,j<sizes s.L->AH s.L j/s.pg=p->s.is j=true\/s.inB k j=true)
 oth:∀a:Nat,a<s.n->(a<s.cf.to+s.lo k\/s.cf.to+s.hi k<=a)->(∀i,i<sizes s.L->AH s.L i/s.pg≠a/s.pg)->v'.ldV a=v.ldV a/\(v.ldE a=0->v'.ldE a=0)
section
variable {s:Sl} {v v1 v2 v':Vm} {k:Nat}
theorem VWG{v:Vm}(h:AF v){f t p:Nat}(hft:f<t)(_ht:t<=v.n):p∈BW v ((f:Int)/(v.pl.pg:Int)).toNat (CY v f t)↔(f/v.pl.pg<=p/\p<=(t-1)/v.pl.pg)/\v.pt.getD p 0=0:=by
 have e1:((f:Int)/(v.pl.pg:Int)).toNat=f/v.pl.pg:=by grind
 have e2:((t:Int)-1)/(v.pl.pg:Int)=(((t-1)/v.pl.pg:Nat):Int):=by grind
 have h1:f/v.pl.pg<=(t-1)/v.pl.pg:=ζc Ω;rw[OM,e1];unfold CY;omega
theorem MQ.of(h:BO s v)(hk:k<s.mv.length)(_hm:at_ s.mv k=false)(hE:BD v ((s.cf.to+s.lo k:Nat):Int) ((s.cf.to+s.hi k:Nat):Int)=0)(hG:BV v v1 (BT v ((s.cf.to+s.lo k:Nat):Int) ((s.cf.to+s.hi k:Nat):Int)))
  (hC:FR s s.is (λi=>!s.is i) (s.lo k) (s.hi k) v1 v2 (s.hi k-s.lo k)) {D U:Nat->Bool} (hD:∀i,i<sizes s.L->D i=(s.is i||s.inB k i)) (hU:∀i,i<sizes s.L->U i=!(s.is i||s.inB k i)) (hR:FC s D (λi=>!s.is i) U v2 v'):MQ s k v v':=by
 have hs:=h.st;have hlh:=hs.lohi hk;have X:s.cf.to+s.hi k<=v.n:=by have:=hs.fit;have:=hs.cf.ln;rw[h.mid.n];omega
 have Y:s.cf.to+s.lo k<s.cf.to+s.hi k:=Ω
 have hF:∀p,p∈BT v ((s.cf.to+s.lo k:Nat):Int) ((s.cf.to+s.hi k:Nat):Int)↔((s.cf.to+s.lo k)/s.pg<=p/\p<=(s.cf.to+s.hi k-1)/s.pg)/\v.pt.getD p 0=0:=λp=>by
  unfold BT;rw[μ ⟨hE,by omega⟩,VWG h.mid.ok Y X,h.mid.pg]
 have hl2:v2.pt.length=v.pt.length:=by rw[hC.sm.pt,hG.len h.mid.ok]
 refine⟨⟨hs.mv _ (ν ..),(hR.mid.mvd _).congr (λi hi hd=>?_) (λi hi hu=>?_)⟩,hR.rm.trans (hC.sm.rm.trans hG.rm),λp hp=>?_,λa ha hab hsr=>?_⟩
 ·rw[hD i hi,<-Sl.is_put hk];exact hd
 ·rw[hU i hi,<-Sl.is_put hk];exact hu
 ·rw[hR.map p Ω,hC.sm.pt,hG.ma p hp,hF]
  have e:(v.pt.getD p 0≠0\/((s.cf.to+s.lo k)/s.pg<=p/\p<=(s.cf.to+s.hi k-1)/s.pg)/\v.pt.getD p 0=0)↔(v.pt.getD p 0≠0\/((s.cf.to+s.lo k)/s.pg<=p/\p<=(s.cf.to+s.hi k-1)/s.pg)):=by
   constructor
   ·rintro(a|⟨a,-⟩)
    ·exact .inl a
    ·exact .inr a
   ·rintro(a|a)
    ·exact .inl a
    ·by_cases h0:v.pt.getD p 0=0
     ·exact .inr ⟨a,h0⟩
     ·exact .inl h0
  rw[e];refine and_congr_right λ_=>not_congr ?_;constructor
  ·rintro⟨i,hi,h1,h2,h3,h4⟩;refine⟨i,hi,?_,h3,λj hj he=>?_⟩
   ·cases e1:s.is i <;> cases e2:s.inB k i <;> simp_all
   ·have:=mt (Sl.on_zero h4 hj) (λg=>g he);cases e1:s.is j <;> cases e2:s.inB k j <;> simp_all
  ·rintro⟨i,hi,h1,h3,h4⟩;refine⟨i,hi,?_,by rw[hU i hi,h1];simp,h3,Sl.on_iff.2 λj hj hu he=>?_⟩
   ·have:i/s.cf.bk=k:=by simpa[Sl.inB]using h1
    unfold Sl.is;rw[this,_hm];rfl
   ·rw[hU j hj]at hu;rcases h4 j hj he with h|h <;> simp[h]at hu
 ·obtain⟨e1,e2⟩:=hR.oth a ha hsr;have e3:=hC.oth a hab;have e4:=hG.ldV_all h.mid.ok (a:=a) (by rw[h.mid.n];exact ha);have e5:=hG.ldE h.mid.ok (a:=a) (by rw[h.mid.n];exact ha);rw[e1,e3,e4,e2,hC.sm.ldE,e5];exact⟨rfl,λh=>by rw[h];split <;> rfl⟩
end
open Go.Shelf
structure B8 where
 F:Nat
 G:Nat
 p:Nat
 m:Nat
 p1:Nat
 b1:Nat
 p2:Nat
 b2:Nat
 bs:Nat
 bm:Nat
 cm:Nat
 bw:Nat
def bls(l:List Bool):List Value:=l.map Value.bool
theorem J4{l:List Bool}{i:Nat}(h:i<l.length):(bls l)[i]?=some (.bool (at_ l i)):=by simp[bls,at_,h]
theorem QPU(l:List Bool)(i:Nat)(b:Bool):(bls l).set i (.bool b)=bls (l.set i b):=by simp[bls,ξV]
def ZR(q:Nat)(c:Cf)(z:B8)(nb lf ft ah:Nat):List Value:=
 [pP q,iI c.fr,iI c.tp,iI c.to,iI c.lm,iI c.bk,iI c.st,iI c.ah,
  pP z.p,pP z.m,.slice (some ⟨z.bm,0,none⟩) nb z.cm,iI lf,iI ft,iI ah,.map (some z.bw),.map (some z.bs)]
def OQ(w:World)(b:Nat)(s:Sl):Prop:=∃n f,BF prog 3 w b n f/\∀j (h:j<s.L.length),f (s.L[j].1:Nat)=some (AJ (s.hd s.L[j].1))
def J7(w:World)(b:Nat)(s:Sl)(U:Nat->Bool):Prop:=∃n f,BF prog 3 w b n f/\n+cnt U (sizes s.L)<=2*sizes s.L/\∀q:Nat,(f (q:Nat)).getD (iI 0)=iI (s.on U q:Nat)
theorem OQ.touch{w w':World}{T:Nat->Prop}{b:Nat}{s:Sl}(h:OQ w b s)(t:AB T w w')(hT:¬T b):OQ w' b s:=by
 obtain⟨n,f,h1,h2⟩:=h;exact⟨n,f,h1.touch t hT,h2⟩
theorem J7.touch{w w':World}{T:Nat->Prop}{b:Nat}{s:Sl}{U:Nat->Bool}(h:J7 w b s U)(t:AB T w w')(hT:¬T b):J7 w' b s U:=by
 obtain⟨n,f,h1,h2⟩:=h;exact⟨n,f,h1.touch t hT,h2⟩
structure PQ(w:World)(R:Nat->Prop)(y:Nat)(z:B8):Prop where
 o1:z.m<z.F
 o2:z.p1<z.F
 o3:z.b1<z.F
 o4:z.p2<z.F
 o5:z.b2<z.F
 o6:z.F<=z.G
 o7:z.G<=w.heap.size
 g1:z.G<=y
 g2:z.G<=z.bm
 g3:z.G<=z.bw
 g4:z.G<=z.bs
 n1:y≠z.bm
 n2:y≠z.bw
 n3:y≠z.bs
 n4:z.bm≠z.bw
 n5:z.bm≠z.bs
 n6:z.bw≠z.bs
 r1:R y
 r2:R z.bm
 r3:R z.bw
 r4:R z.bs
 r5:R z.m
 r6:R z.p1
 r7:R z.b1
 r8:R z.p2
 r9:R z.b2
 rr:∀k,z.F<=k->k<z.G->R k
 lt:∀k,R k->k<w.heap.size
structure BG(w:World)(R:Nat->Prop)(y q:Nat)(z:B8)(s:Sl)(U:Nat->Bool)(ml:List Bool)(lf ft ah:Nat):Prop where
 od:PQ w R y z
 rc:Rec w y 220 (ZR q s.cf z ml.length lf ft ah)
 pl:∀W,AB (λi=>i<z.F\/z.G<=i) w W->Pln W z.F z.p s.n s.cf.bk s.cf.to s.L
 ex:Ext w z.m z.p1 z.b1 z.p2 z.b2 s.n s.L
 sh:OQ w z.bs s
 wd:J7 w z.bw s U
 mv:w.ownsRow 0 4 1 (.slice (some ⟨z.bm,0,none⟩) ml.length z.cm) ml.length (bls ml)
abbrev Cyc(w:World)(R:Nat->Prop)(y q:Nat)(z:B8)(s:Sl):Prop:=BG w R y q z s (λi=>!s.is i) s.mv s.lf s.ft (s.mvd-s.ft)
section
variable {w w':World} {R T:Nat->Prop} {y q:Nat} {z:B8} {s:Sl} {U:Nat->Bool} {ml:List Bool} {lf ft ah:Nat}
theorem PQ.gr(h:PQ w R y z)(hs:w.heap.size<=w'.heap.size):PQ w' R y z:=
 ⟨h.o1,h.o2,h.o3,h.o4,h.o5,h.o6,ζa h.o7 hs,h.g1,h.g2,h.g3,h.g4,h.n1,h.n2,h.n3,h.n4,h.n5,h.n6,h.r1,h.r2,h.r3,h.r4,h.r5,h.r6,h.r7,h.r8,h.r9,h.rr,λk hk=>υ (h.lt k hk) hs⟩
theorem BG.touch(h:BG w R y q z s U ml lf ft ah)(t:AB T w w')(hT:∀k,R k->¬T k):BG w' R y q z s U ml lf ft ah:=by
 have o:=h.od;refine⟨o.gr t.size,h.rc.touch t (hT _ o.r1),λW tW=>h.pl W ?_,h.ex.touch t (hT _ o.r5) (hT _ o.r6) (hT _ o.r7) (hT _ o.r8) (hT _ o.r9),h.sh.touch t (hT _ o.r4),h.wd.touch t (hT _ o.r3),BS h.mv t (λg hg=>by cases hg;exact hT _ o.r2)⟩;refine(t.mono (λi _ hi=>?_)).trans tW;rcases ω i z.F with h1|h1
 ·exact .inl h1
 ·rcases ω i z.G with h2|h2
  ·exact absurd hi (hT _ (o.rr i h1 h2))
  omega
theorem BG.gr(h:BG w R y q z s U ml lf ft ah)(g:Gr w w'):BG w' R y q z s U ml lf ft ah:=h.touch (g.touch (λ_=>False)) (λ_ _ h=>h)
theorem BG.setR(h:BG w R y q z s U ml lf ft ah){lf' ft' ah':Nat}(t:AB (λi=>i=y) w w')(hr:Rec w' y 220 (ZR q s.cf z ml.length lf' ft' ah')):BG w' R y q z s U ml lf' ft' ah':=by
 have o:=h.od;refine⟨o.gr t.size,hr,λW tW=>h.pl W ((t.mono (λi _ hi=>.inr (by rw[hi];exact o.g1))).trans tW),h.ex.touch t ?_ ?_ ?_ ?_ ?_,h.sh.touch t (λe=>o.n3 e.symm),h.wd.touch t (λe=>o.n2 e.symm),BS h.mv t (λg hg=>by cases hg;exact λe=>o.n1 e.symm)⟩
 all_goals (have:=o.o1;have:=o.o2;have:=o.o3;have:=o.o4;have:=o.o5;have:=o.o6;have:=o.g1;omega)
theorem BG.setW(h:BG w R y q z s U ml lf ft ah){U':Nat->Bool}(t:AB (λi=>i=z.bw) w w')(hw:J7 w' z.bw s U'):BG w' R y q z s U' ml lf ft ah:=by
 have o:=h.od;refine⟨o.gr t.size,h.rc.touch t o.n2,λW tW=>h.pl W ((t.mono (λi _ hi=>.inr (by rw[hi];exact o.g3))).trans tW),h.ex.touch t ?_ ?_ ?_ ?_ ?_,h.sh.touch t (λe=>o.n6 e.symm),hw,BS h.mv t (λg hg=>by cases hg;exact o.n4)⟩
 all_goals (have:=o.o1;have:=o.o2;have:=o.o3;have:=o.o4;have:=o.o5;have:=o.o6;have:=o.g3;omega)
theorem BG.setM(h:BG w R y q z s U ml lf ft ah){ml':List Bool}(hl:ml'.length=ml.length)(t:AB (λi=>i=z.bm) w w')(hm:w'.ownsRow 0 4 1 (.slice (some ⟨z.bm,0,none⟩) ml'.length z.cm) ml'.length (bls ml')):BG w' R y q z s U ml' lf ft ah:=by
 have o:=h.od;refine⟨o.gr t.size,?_,λW tW=>h.pl W ((t.mono (λi _ hi=>.inr (by rw[hi];exact o.g2))).trans tW),h.ex.touch t ?_ ?_ ?_ ?_ ?_,h.sh.touch t (λe=>o.n5 e.symm),h.wd.touch t (λe=>o.n4 e.symm),hm⟩
 ·rw[hl];exact h.rc.touch t o.n1
 all_goals (have:=o.o1;have:=o.o2;have:=o.o3;have:=o.o4;have:=o.o5;have:=o.o6;have:=o.g2;omega)
theorem BG.plan(h:BG w R y q z s U ml lf ft ah):Pln w z.F z.p s.n s.cf.bk s.cf.to s.L:=h.pl w (AB.refl _ _)
theorem BG.same{s':Sl}(h:BG w R y q z s U ml lf ft ah)(h1:s'.n=s.n)(h2:s'.cf=s.cf)(h3:s'.L=s.L)(h4:s'.hd=s.hd)(h5:s'.pg=s.pg):BG w R y q z s' U ml lf ft ah:=by
 cases s;cases s';subst h1 h2 h3 h4 h5;exact⟨h.od,h.rc,h.pl,h.ex,h.sh,h.wd,h.mv⟩
end
section
variable {w:World} {R S:Nat->Prop} {y q:Nat} {z:B8} {s:Sl} {U:Nat->Bool} {ml:List Bool} {lf ft ah:Nat} {v:Vm}
theorem XLA(hC:BG w R y q z s U ml lf ft ah)(a:Int):A4 prog 159 #[pP y,iI a] w (iI (toV s.L s.cf.to a)):=by
 obtain⟨h1,h2,h3,f,c0,c1,hF⟩:=hC.plan;have x8:=hC.rc.cc 8;have Z:=(RD c0);have Y:=(QH hF a);obtain⟨t,ht⟩:∃t,t=toV s.L s.cf.to a:=⟨_,rfl⟩;obtain⟨te,X⟩:∃te,te=toE s.L a:=⟨_,rfl⟩;rw[<-ht,<-X]at Y;rw[<-ht];clear hC hF h1 h2 h3 c0 c1 ht X;go_enter func159,ntmps159
 go_wp2_with(first
  | (go_at_call 156;refine AT (Z) ?_)
  | (go_at_call 135;refine(Y).mono ?_;rintro e w2 ⟨rfl,J⟩;have HG2:=J))
 go_ret
 simp_all
theorem QOX{p f k:Nat}(hs:p+f+k<=255){m:Nat}:(BN ⟨p,f,k⟩ ((m:Int)-1)==1)=decide (1<=m/\m<=p):=by
 by_cases h:1<=m/\m<=p
 ·rw[θ h,QF Ω (by grind) (by show (p:Int)<CG ⟨p,f,k⟩;rw[show CG ⟨p,f,k⟩=1+(p:Int)+f+k from μ (ES hs)];omega)];rfl
 grind [φ,VgZ]
theorem Vmu{p f k:Nat}(hs:p+f+k<=255){m:Nat}(hm:m<=4294967296)(w:World):A4 prog 233 #[AJ ⟨p,f,k⟩,iI m] w (.bool (decide (1<=m/\m<=p))):=by
 have Z:=(λ(W:World)=>UO hs ((m:Int)-1) W);have J:=(QOX (f:=f) (k:=k) hs (m:=m));unfold AJ at Z⊢;obtain⟨b,hb⟩:∃b,b=decide (1<=m/\m<=p):=⟨_,rfl⟩;rw[<-hb]at J⊢;clear hb;have X:=Rec.new w 63 [iI p,iI f,iI k];go_enter func233,ntmps233;go_upto_region 1 with(fail);obtain⟨w2,Y⟩:∃w2,w2=w.alloc (.cells #[.int .i64 p,.int .i64 f,.int .i64 k] 63):=⟨_,rfl⟩;have V:Gr w w2:=by rw[Y];exact(Gr.refl w).alloc _
 rw[<-Y]at X⊢;have y0:=X.cc 0;have y1:=X.cc 1;have y2:=X.cc 2;clear Y X;go_wp2_with(go_at_call 109;refine(Z _).mono ?_;rintro e w3 ⟨rfl,N⟩;have HG3:=(V.trans N));go_ret
 simp_all
theorem YN(hC:BG w R y q z s U ml lf ft ah)(hst:BC s)(hV:AD w S q v){p f k:Nat}(hs:p+f+k<=255){a st m:Nat}(ha:a=st+m)(hm:a<=4294967296)(hx:1<=m/\m<=p->v.ldV (a:Nat)<=2147483647):
  A4 prog 216 #[pP y,iI a,iI st,AJ ⟨p,f,k⟩] w (uU (cvH s.L s.cf.to ⟨p,f,k⟩ m (v.ldV (a:Nat)):Nat)):=by
 have Z:=(λ(W:World) (g:Gr w W)=>JL (hV.gr g) (a:Int));have V:=(λ(W:World)=>Vmu (f:=f) (k:=k) hs (m:=m) Ω W);have Xl:Hid (v.ldV (a:Nat)<18446744073709551616):=⟨hV.ok.ldV_lt _⟩;have Xn:=hst;have HR:=(Rec.new w 63 [iI p,iI f,iI k]);simp only[List.toArray]at HR;unfold AJ at V;unfold AJ;obtain⟨x,Xd⟩:∃x,x=v.ldV (a:Nat):=⟨_,rfl⟩;rw[<-Xd]at hx Xl Z⊢;obtain⟨Xf,N⟩:∃Xf,Xf=cvH s.L s.cf.to ⟨p,f,k⟩ m x:=⟨_,rfl⟩;have O:=ι N;rw[<-N];obtain⟨le,Xe⟩:∃le,le=v.ldE (a:Nat):=⟨_,rfl⟩;rw[<-Xe]at Z;clear Xd Xe hV hst N;have Xm:(a:Int)-(st:Int)=(m:Int):=Ω
 clear ha;unfold A4;go_enter func216,ntmps216;go_upto_region 1 with(fail);obtain⟨w2,Xa⟩:∃w2,w2=w.alloc (.cells #[.int .i64 p,.int .i64 f,.int .i64 k] 63):=⟨_,rfl⟩;have Y:Gr w w2:=by rw[Xa];exact(Gr.refl w).alloc _
 rw[<-Xa]at HR⊢;obtain⟨hb,Xg⟩:∃hb,hb=w.heap.size:=⟨_,rfl⟩;rw[<-Xg]at HR⊢;have x0:=(hC.rc.gr Y).cell (j:=0) rfl;have xl:=(hC.rc.gr Y).lt;clear Xa Xg;by_cases G:x=0
 ·subst G;have hcv:cvH s.L s.cf.to ⟨p,f,k⟩ m 0=0:=by unfold cvH;rw[κ (λh=>h.2 rfl)]
  rw[<-O.o]at hcv;subst hcv;clear hx Xm;go_wp2_with(go_at_call 176;refine(Z _ Y).mono ?_;rintro e w3 ⟨rfl,X⟩;have I:=(Y.trans X);clear X);go_ret;exact⟨rfl,I⟩
 ·have d2:((x:Int) !=0)=true:=by simp;exact G
  by_cases hp:1<=m/\m<=p
  ·rw[θ hp]at V;have Xc:=hx hp;have hcv:cvH s.L s.cf.to ⟨p,f,k⟩ m x=(toV s.L s.cf.to (x:Nat)).toNat:=by unfold cvH;rw[μ ⟨⟨hp.1,by show (m:Int)<=(p:Int);omega⟩,G⟩]
   rw[<-O.o]at hcv;subst hcv;have Xi:=(λ(W:World) (g:Gr w W)=>XLA (hC.gr g) (x:Int));have Xh:=Xxa s.L s.cf.to (x:Int);have Xj:=Xn.to_lt (x:Int);obtain⟨t,ht⟩:∃t,t=toV s.L s.cf.to (x:Int):=⟨_,rfl⟩;rw[<-ht]at Xi Xh Xj;have hwy:IntKind.u64.wrap t=t:=by rw[ξr];omega
   have hwx:IntKind.i64.wrap (x:Int)=(x:Int):=ζx _ Ω;clear hx hp Xc
   go_wp2_with(first
    | (go_at_call 176;refine(Z _ Y).mono ?_;rintro e w3 ⟨rfl,X⟩;have I:=(Y.trans X);have RR:=HR.gr X;obtain⟨y0,y1,y2,yl⟩:=RR.k3;clear X RR)
    | (go_at_call 233;refine(V _).mono ?_;rintro e w4 ⟨rfl,J⟩;have E:=(I.trans J);clear J)
    | (go_at_call 159;refine(Xi _ E).mono ?_;rintro e w5 ⟨rfl,Xb⟩;have Xk:=(E.trans Xb);clear Xb))
   go_ret;exact⟨by rw[<-ht,ζ9 Xh];rfl,Xk⟩
  ·rw[φ hp]at V;have hcv:cvH s.L s.cf.to ⟨p,f,k⟩ m x=x:=by unfold cvH;rw[κ (λh=>hp ⟨h.1.1,by have:(m:Int)<=(p:Int):=h.1.2;omega⟩)]
   rw[<-O.o]at hcv;subst hcv;clear hx hp
   go_wp2_with(first
    | (go_at_call 176;refine(Z _ Y).mono ?_;rintro e w3 ⟨rfl,X⟩;have I:=(Y.trans X);have RR:=HR.gr X;obtain⟨y0,y1,y2,yl⟩:=RR.k3;clear X RR)
    | (go_at_call 233;refine(V _).mono ?_;rintro e w4 ⟨rfl,J⟩;have E:=(I.trans J);clear J))
   go_ret;exact⟨rfl,E⟩
end
theorem JNO(w:World):(zeroValue 63).run prog w=.ok (.agg #[iI 0,iI 0,iI 0]) w:=by kernel_rfl
theorem ZI{w:World}{b:Nat}{s:Sl}(h:OQ w b s){j:Nat}(hj:j<s.L.length)(hb:s.L[j].1<=4294967296):
  (Instr.lookup 218 (.map (some b)) (iI (s.L[j].1:Nat)) false).run prog w=.ok (AJ (s.hd s.L[j].1)) w:=by
 obtain⟨n,f,h1,h2⟩:=h;rw[h1.look JD underlying218 underlying3 (JNO w) (WalkArith.wf_i64 Ω),h2 j hj];rfl
theorem S6{w:World}{b:Nat}{s:Sl}{U:Nat->Bool}(h:J7 w b s U){q:Nat}(hb:q<=4294967296):
  (Instr.lookup 119 (.map (some b)) (iI q) false).run prog w=.ok (iI (s.on U q:Nat)) w:=by
 obtain⟨n,f,h1,-,h2⟩:=h;rw[h1.look JD underlying119 underlying3 (WO w) (WalkArith.wf_i64 Ω),h2 q]
structure CpI(w wr:World)(S:Nat->Prop)(q:Nat)(s:Sl)(D U:Nat->Bool)(lo hi:Nat)(v1:Vm)(m hb:Nat)(p f k:Nat):Prop where
 t:AB S w wr
 vm:∃vx,AD wr (AE S w) q vx/\FR s D U lo hi v1 vx m
 h:Rec wr hb 63 [iI p,iI f,iI k]
def VF5(w:World)(S:Nat->Prop)(q:Nat)(s:Sl)(D U:Nat->Bool)(lo hi:Nat)(v1:Vm)(m:Nat)(e:Ending)(w':World):Prop:=
 e=.returned (.tuple #[])/\AB S w w'/\∃v'',AD w' (AE S w) q v''/\FR s D U lo hi v1 v'' m
def Obj(s:Sl)(a st sz p f k:Nat):Prop:=∃j,∃hj:j<s.L.length,st=s.L[j].1/\sz=s.L[j].2/\s.hd s.L[j].1=⟨p,f,k⟩/\st<=a/\a<st+sz
theorem ZE{s:Sl}(hst:BC s){i a st sz p f k:Nat}(hi:i<sizes s.L)(ha:AH s.L i=a)(ho:Obj s a st sz p f k):s.off i=a-st/\s.hdr i=⟨p,f,k⟩/\p+f+k<=255:=by
 obtain⟨j,hj,rfl,rfl,h3,h4,h5⟩:=ho;obtain⟨j',X,m,p',f',k',e1,e2,e3,e4,e5,e6,e7,e8,e9⟩:=hst.obj hi
 have hjj:s.L[j]=s.L[j']:=by
  rcases hst.good.disj (χ hj) (χ X)with e|e|e
  ·exact e
  ·omega
  ·omega
 grind
theorem Zm8{s:Sl}(hst:BC s){i a:Nat}(hi:i<sizes s.L)(ha:AH s.L i=a):∃j,∃hj:j<s.L.length,∃p f k:Nat,A7 s.L (a:Nat)=j/\s.hd s.L[j].1=⟨p,f,k⟩/\Obj s a s.L[j].1 s.L[j].2 p f k:=by
 obtain⟨j',X,m,p',f',k',e1,e2,e3,e4,e5,e6,e7,e8,e9⟩:=hst.obj hi;have:=QFu hst.good hi;rw[ha,e1]at this;exact⟨j',X,p',f',k',this,e7,j',X,rfl,rfl,e7,by omega,by omega⟩
section
variable {w:World} {R S:Nat->Prop} {y q:Nat} {z:B8} {s:Sl} {U D Uo:Nat->Bool} {ml:List Bool} {lf ft ah:Nat} {v1 v':Vm} {lo hi m n f:Nat}
theorem XAM(hC:BG w R y q z s U ml lf ft ah)(hst:BC s)(hT:AP w)(htS:¬S 1)(hV:AD w S q v')(hdis:∀k,R k->¬S k)(hcp:FR s D Uo lo hi v1 v' m)
  (hn:lo+m+n<=hi) (hhi:hi<=sizes s.L) (hU:∀i,lo<=i->i<hi->Uo i=true) (hl:∀i,lo<=i->i<hi->v1.ldE ((s.cf.to+i:Nat):Int)=0) (hw:∀i,i<n->AH s.L (lo+m+i)=f+i):
  Calls prog 182 #[pP y,.agg #[iI f,iI ((s.cf.to+(lo+m):Nat):Int),iI n]] w (VF5 w S q s D Uo lo hi v1 (m+n)):=by
 have HC:=hC;have E:=hst;have HT:=hT;have Yq:=htS;have HV:=hV.cut;have Yi:=hdis;have Yp:=hcp;have HU:=hU;have HL:=hl;have HW:=hw;have HB:=(ϑ hn hhi);have hn2:=hst.n2;have hNn:=hst.N_le
 have hfb:n=0\/f+n<=1048576:=by
  rcases ζB n with h|h
  ·exact .inl h
  ·right;have h1:=hw (n-1) Ω;have h2:=(hst.srcs (i:=lo+m+(n-1)) Ω).2.2;omega
 have Xk:s.cf.to+(lo+m)<=1048576:=by have:=hst.fit;have:=hst.cf.ln;omega
 obtain⟨t,ht⟩:∃t,t=s.cf.to+(lo+m):=⟨_,rfl⟩;have Yx:=ι ht;have hnb:n<=1048576:=Ω
 rw[<-ht]at Xk⊢;clear hC hst hT htS hV hdis hcp hU hl hw ht hn hhi;have RP:=Rec.new w 260 [iI f,iI t,iI n];simp only[List.toArray]at RP;go_enter func182,ntmps182;go_upto_region 2 with(fail);obtain⟨w1,Xn⟩:∃w1,w1=w.alloc (.cells #[.int .i64 f,.int .i64 t,.int .i64 n] 260):=⟨_,rfl⟩;have Yj:Gr w w1:=by rw[Xn];exact(Gr.refl w).alloc _
 have Yw:w1.heap.size=w.heap.size+1:=by rw[Xn,γ]
 have Yf:Rec w1 w.heap.size 260 [iI f,iI t,iI n]:=by rw[Xn];exact RP
 rw[<-Xn];clear Xn RP;have RH:=Rec.new w1 63 [iI 0,iI 0,iI 0];simp only[List.toArray]at RH;obtain⟨w2,Xr⟩:∃w2,w2=w1.alloc (.cells #[.int .i64 0,.int .i64 0,.int .i64 0] 63):=⟨_,rfl⟩;have Yd:Gr w1 w2:=by rw[Xr];exact(Gr.refl w1).alloc _
 rw[<-Xr]at RH⊢;rw[Yw]at RH;have Xt:=Yf.gr Yd;have Yl:=(Yj.trans Yd);have HS2:Hid (w.heap.size+2=w2.heap.size):=⟨by rw[Xr,γ];omega⟩;clear Xr Yj Yd Yf;have q2:=Xt.cc 2;have ql:=Xt.lt;have Xx:=ι Xt;have Yn:Hid (CpI w w2 S q s D Uo lo hi v1 (m+0) (w.heap.size+1) 0 0 0):=⟨⟨Yl.touch _,⟨v',HV.gr Yl,Yp⟩,RH⟩⟩;have Ym:=HC.od.lt;clear Xt RH;go_upto_region 3 with(fail);clear q2 ql
 go_loopw [4,5,12] (λs4 s5 s12 wr=>∃(i st sz p f' k:Nat),i<=n/\Hid (CpI w wr S q s D Uo lo hi v1 (m+i) (w.heap.size+1) p f' k)/\Hid ((i=0/\st=0/\sz=0)\/Obj s (f+i-1) st sz p f' k)/\Hid (Rec wr w.heap.size 260 [iI f,iI t,iI n])/\s4=iI st/\s5=iI sz/\s12=iI i) (λ_ _ s12 _=>n-(intOf s12).toNat)
 case atStart=>exact⟨0,0,0,0,0,0,ζe _,Yn,⟨.inl ⟨rfl,rfl,rfl⟩⟩,Xx,rfl,rfl,rfl⟩
 case round=>
  obtain⟨i,st,sz,ph,fh,kh,hin,HI,HO,G,rfl,rfl,rfl⟩:=hrel;clear Xx Yn;have hpl:=G.o.lt;by_cases Ya:i<n
  ·have Xq:=ι Ya;have hiI:(i:Int)<(n:Int):=Ω
   have hfi:f+i<=1048576:=Ω
   have Xo:=HW i Ya;have Xa:lo+m+i<sizes s.L:=by have:=HB;omega
   have N:BG wr R y q z s U ml lf ft ah:=HC.touch HI.o.t Yi;have Xk:=HT.touch' HI.o.t Yq
   have Yb:Hid (∀(W:World) (st sz p f' k:Nat),AB (λb=>b=w.heap.size+1) wr W->Obj s (f+i) st sz p f' k->A4 prog 216 #[pP y,iI ((f:Int)+(i:Int)),iI st,.agg #[iI p,iI f',iI k]] W (uU (s.c (lo+m+i):Nat))):=⟨λW st sz p f' k tW ho=>by
    obtain⟨vx,Xc,Xb⟩:=HI.o.vm;obtain⟨e1,e2,e3⟩:=ZE E Xa Xo ho;obtain⟨j,hj,-,-,-,o4,o5⟩:=ho;obtain⟨-,m2,m3⟩:=Xb.mid.src (lo+m+i) Xa (HU _ Ω (by have:=HB;omega));rw[Xo]at m2 m3;have:=YN (f:=f') (k:=k) (N.touch tW (λb hb h=>by have:=Ym b hb;omega)) E (Xc.touch tW (λb hb _ h=>by have:=hb.2;omega)) (p:=p) e3 (a:=f+i) (st:=st) (m:=f+i-st) Ω Ω (λh=>m3 ⟨by rw[e1];exact h.1,by rw[e1,e2];show ((f+i-st:Nat):Int)<=(p:Int);omega⟩);unfold Sl.cv at m2;rw[e1,e2]at m2;rw[m2]at this
    exact this⟩
   have Xh:Hid (∀(W:World),AB (λb=>b=w.heap.size+1) wr W->Calls prog 177 #[pP q,iI ((t:Int)+(i:Int)),uU (s.c (lo+m+i):Nat)] W λe w'=>∃er,e=.returned (iI er)/\AB (AE S w) W w'/\∃vx,AD w' (AE S w) q vx/\FR s D Uo lo hi v1 vx (m+i+1)):=⟨λW tW=>by
    obtain⟨vx,Xc,Xb⟩:=HI.o.vm;obtain⟨-,m2,-⟩:=Xb.mid.src (lo+m+i) Xa (HU _ Ω (by have:=HB;omega));have Yk:s.c (lo+m+i)<18446744073709551616:=by rw[<-m2];exact E.cv_lt _ (Xc.ok.ldV_lt _)
    refine(KP (Xc.touch tW (λb hb _ h=>by have:=hb.2;omega)) ((t:Int)+(i:Int)) Yk).mono ?_;rintro e w' ⟨rfl,ht,hv⟩;refine⟨_,rfl,ht,_,hv,?_⟩;have:=Xb.step E (by have:=HB;omega) HB.2 (HL _ Ω (by have:=HB;omega)) (x:=s.c (lo+m+i)) (by rw[ξA lo m i]) Yk;rw[show ((t:Int)+(i:Int))=((s.cf.to+(lo+(m+i)):Nat):Int)by rw[Yx.o];omega]
    exact this⟩
   have HK:Hid (∀(W:World) (p' Y k':Nat),AB (λb=>b=w.heap.size+1) wr W->Rec W (w.heap.size+1) 63 [iI p',iI Y,iI k']->(W.cell? ⟨y,0,none⟩=some (pP q)/\W.cell? ⟨w.heap.size,1,none⟩=some (iI t))/\W.cell? ⟨w.heap.size+1,0,none⟩=some (iI p')/\W.cell? ⟨w.heap.size+1,1,none⟩=some (iI Y)/\W.cell? ⟨w.heap.size+1,2,none⟩=some (iI k')):=⟨λW p' Y k' tW hr=>by
    have h1:=(N.touch tW (λb hb h=>by have:=Ym b hb;omega)).rc;have h2:=G.o.touch tW Ω
    exact⟨⟨h1.cc 0,h2.cc 1⟩,hr.cc 0,hr.cc 1,hr.cc 2⟩⟩
   have hsb:st+sz<=1048576:=by
    rcases HO.o with h|⟨j,hj,h1,h2,-⟩
    ·omega
    ·have:=(E.good.sz _ (χ hj)).2;omega
   have q0:=G.o.cc 0;have q1:=G.o.cc 1;obtain⟨c,hc⟩:∃c,c=s.c (lo+m+i):=⟨_,rfl⟩;rw[<-hc]at Yb Xh;clear hc;by_cases Xu:st+sz<=f+i
   ·have d1:decide ((st:Int)+(sz:Int)<=(f:Int)+(i:Int))=true:=θ Ω;have d2:decide (st+sz<=f+i)=true:=θ Xu;obtain⟨j,hj,p',Y,k',g1,g2,g3⟩:=Zm8 E Xa Xo;have Xl:=ι (J9 N.ex Xk ((f:Int)+(i:Int)));rw[show (f:Int)+(i:Int)=((f+i:Nat):Int)by omega,g1,NV hj]at Xl;have Xs:=ZI N.sh hj (by have:=(E.good.sz _ (χ hj)).2;omega);rw[g2]at Xs;unfold AJ at Xs;have O:=ι g3;obtain⟨Ye,Xv⟩:∃Ye,Ye=s.L[j].1:=⟨_,rfl⟩;obtain⟨Yc,Xw⟩:∃Yc,Yc=s.L[j].2:=⟨_,rfl⟩;rw[<-Xv]at Xl O Xs;rw[<-Xw]at Xl O;rw[show ((f+i:Nat):Int)=(f:Int)+(i:Int)by omega]at Xl;have x3:=N.rc.cc 9;have x9:=N.rc.cc 15;have xl:=N.rc.lt;have Yt:=HI.o.h.cc 0;have Yr:=HI.o.h.cc 1;have Ys:=HI.o.h.cc 2;have Yu:=HI.o.h.free;have Yv:=HI.o.h.lt;have Yh:=ι (((HI.o.h.set 0 (iI p')).set 1 (iI Y)).set 2 (iI k'));clear Xu N Xk g1 g2 g3 Xv Xw Xo Xa;go_upto_region 9 with(go_at_call 189;refine AT (Xl.o) ?_)
    have tB:AB (λb=>b=w.heap.size+1) wr (((wr.setCell ⟨w.heap.size+1,0,none⟩ (.int .i64 p')).setCell ⟨w.heap.size+1,1,none⟩ (.int .i64 Y)).setCell ⟨w.heap.size+1,2,none⟩ (.int .i64 k')):=
     (((AB.refl (λb=>b=w.heap.size+1) wr).setCell (a:=⟨w.heap.size+1,0,none⟩) (λ_=>rfl) _).setCell (a:=⟨w.heap.size+1,1,none⟩) (λ_=>rfl) _).setCell (a:=⟨w.heap.size+1,2,none⟩) (λ_=>rfl) _
    obtain⟨wB,Xz⟩:∃wB,wB=((wr.setCell ⟨w.heap.size+1,0,none⟩ (.int .i64 p')).setCell ⟨w.heap.size+1,1,none⟩ (.int .i64 Y)).setCell ⟨w.heap.size+1,2,none⟩ (.int .i64 k'):=⟨_,rfl⟩;rw[<-Xz]at tB⊢;have Xj:Hid (Rec wB (w.heap.size+1) 63 [iI p',iI Y,iI k']):=⟨by rw[Xz];exact Yh.o⟩;have J:=ι tB;have Xp:Hid (∀W,Gr wB W->(W.cell? ⟨y,0,none⟩=some (pP q)/\W.cell? ⟨w.heap.size,1,none⟩=some (iI t))/\W.cell? ⟨w.heap.size+1,0,none⟩=some (iI p')/\W.cell? ⟨w.heap.size+1,1,none⟩=some (iI Y)/\W.cell? ⟨w.heap.size+1,2,none⟩=some (iI k')):=⟨λW g=>HK.o W p' Y k' (J.o.trans (g.touch _)) (Xj.o.gr g)⟩;clear Xz tB Yh Xs x3 x9 xl Yt Yr Ys Yu Yv q0 q1;obtain⟨Sx,X,HS⟩:=AA.start λW'=>((W'.cell? ⟨y,0,none⟩=some (pP q)/\W'.cell? ⟨w.heap.size,1,none⟩=some (iI t))/\W'.cell? ⟨w.heap.size+1,0,none⟩=some (iI p')/\W'.cell? ⟨w.heap.size+1,1,none⟩=some (iI Y)/\W'.cell? ⟨w.heap.size+1,2,none⟩=some (iI k'))
    have x1:=AA.fact X λ_ h=>h.1.1;have x2:=AA.fact X λ_ h=>h.1.2;have x3:=AA.fact X λ_ h=>h.2.1;have x4:=AA.fact X λ_ h=>h.2.2.1;have x5:=AA.fact X λ_ h=>h.2.2.2;have I:=HS.o (wB.drew) (Xp.o _ (Gr.refl wB).drew);have Xi:Inhabited (AA Sx):=⟨⟨_,I⟩⟩;clear X;refine AR Sx 13 [([0,1,2,3,4,5,6,7,8,9,10,11],12),([],13)] [] (by kernel_rfl) (by kernel_rfl) I ?_;refine AG ?_
    try simp only[AC,ζ,ξ]
    repeat(go_big_quiet_step (fail))
    refine ψ ?_;go_wp2_with((go_at_call 216;refine(Yb.o _ _ _ _ _ _ (J.o.trans ((Gr.refl wB).drew.touch _)) O.o).mono ?_;rintro e w4 ⟨rfl,Xe⟩;have Z:=ι ((Gr.refl wB).drew.trans Xe);clear Xe));refine⟨.inr (AA.of (HS.o _ (Xp.o _ Z.o))),?_⟩;refine AG ?_
    try simp only[AC,ζ,ξ]
    repeat(go_big_quiet_step (fail))
    refine ψ ?_;go_wp2_with((go_at_call 177;refine(Xh.o _ (J.o.trans (Z.o.touch _))).mono ?_;rintro e w5 ⟨er,rfl,Xm,Xy,Xd,Xg⟩;have V:=ι Xm;have Xf:=ι (ϑ Xd Xg);clear Xm Xd Xg));refine⟨.inl trivial,?_⟩;refine AS ?_
    try simp only[AC]
    repeat(go_big_quiet_step (fail))
    refine ψ ?_;refine τ ?_;clear x1 x2 x3 x4 x5 I Xi;clear HS Sx;go_wp2;go_roundw
    case rel=>
     have Yo:=V.o.size;refine⟨i+1,Ye,Yc,p',Y,k',Xq.o,⟨⟨(HI.o.t.trans' ((J.o.trans (Z.o.touch _)).mono (λb _ h=>h)) (λb hb h=>by omega)).trans' V.o (λb _ h=>h.1),⟨Xy,Xf.o.1,by rw[<-ξA];exact Xf.o.2⟩,((Xj.o.gr Z.o).touch V.o (λh=>by have:=h.2;omega))⟩⟩,⟨.inr (by rw[show f+(i+1)-1=f+i by omega];exact O.o)⟩,⟨((G.o.touch J.o Ω).gr Z.o).touch V.o (λh=>by have:=h.2;omega)⟩,?_,?_,?_⟩
     ·go_num
     ·go_num
     ·go_num
    case measure=>have:=Xq.o;simp[intOf];omega
   ·have d1:decide ((st:Int)+(sz:Int)<=(f:Int)+(i:Int))=false:=φ Ω;have d2:decide (st+sz<=f+i)=false:=φ Xu
    have Yg:Obj s (f+i) st sz ph fh kh:=by
     rcases HO.o with h|⟨j,hj,h1,h2,h3,h4,h5⟩
     ·omega
     ·exact⟨j,hj,h1,h2,h3,by omega,by omega⟩
    have O:=ι Yg;have J:Hid (AB (λb=>b=w.heap.size+1) wr wr):=⟨AB.refl _ _⟩;have Xj:=ι HI.o.h;have Xp:Hid (∀W,Gr wr W->(W.cell? ⟨y,0,none⟩=some (pP q)/\W.cell? ⟨w.heap.size,1,none⟩=some (iI t))/\W.cell? ⟨w.heap.size+1,0,none⟩=some (iI ph)/\W.cell? ⟨w.heap.size+1,1,none⟩=some (iI fh)/\W.cell? ⟨w.heap.size+1,2,none⟩=some (iI kh)):=⟨λW g=>HK.o W ph fh kh (J.o.trans (g.touch _)) (Xj.o.gr g)⟩;clear Xu N Xk Xo Xa Yg;go_upto_region 9 with(fail);clear q0 q1;obtain⟨Sx,X,HS⟩:=AA.start λW'=>((W'.cell? ⟨y,0,none⟩=some (pP q)/\W'.cell? ⟨w.heap.size,1,none⟩=some (iI t))/\W'.cell? ⟨w.heap.size+1,0,none⟩=some (iI ph)/\W'.cell? ⟨w.heap.size+1,1,none⟩=some (iI fh)/\W'.cell? ⟨w.heap.size+1,2,none⟩=some (iI kh))
    have x1:=AA.fact X λ_ h=>h.1.1;have x2:=AA.fact X λ_ h=>h.1.2;have x3:=AA.fact X λ_ h=>h.2.1;have x4:=AA.fact X λ_ h=>h.2.2.1;have x5:=AA.fact X λ_ h=>h.2.2.2;have I:=HS.o (wr.drew) (Xp.o _ (Gr.refl wr).drew);have Xi:Inhabited (AA Sx):=⟨⟨_,I⟩⟩;clear X;refine AR Sx 13 [([0,1,2,3,4,5,6,7,8,9,10,11],12),([],13)] [] (by kernel_rfl) (by kernel_rfl) I ?_;refine AG ?_
    try simp only[AC,ζ,ξ]
    repeat(go_big_quiet_step (fail))
    refine ψ ?_;go_wp2_with((go_at_call 216;refine(Yb.o _ _ _ _ _ _ (J.o.trans ((Gr.refl wr).drew.touch _)) O.o).mono ?_;rintro e w4 ⟨rfl,Xe⟩;have Z:=ι ((Gr.refl wr).drew.trans Xe);clear Xe));refine⟨.inr (AA.of (HS.o _ (Xp.o _ Z.o))),?_⟩;refine AG ?_
    try simp only[AC,ζ,ξ]
    repeat(go_big_quiet_step (fail))
    refine ψ ?_;go_wp2_with((go_at_call 177;refine(Xh.o _ (J.o.trans (Z.o.touch _))).mono ?_;rintro e w5 ⟨er,rfl,Xm,Xy,Xd,Xg⟩;have V:=ι Xm;have Xf:=ι (ϑ Xd Xg);clear Xm Xd Xg));refine⟨.inl trivial,?_⟩;refine AS ?_
    try simp only[AC]
    repeat(go_big_quiet_step (fail))
    refine ψ ?_;refine τ ?_;clear x1 x2 x3 x4 x5 I Xi;clear HS Sx;go_wp2;go_roundw
    case rel=>
     have Yo:=V.o.size;refine⟨i+1,st,sz,ph,fh,kh,Xq.o,⟨⟨(HI.o.t.trans' ((J.o.trans (Z.o.touch _)).mono (λb _ h=>h)) (λb hb h=>by omega)).trans' V.o (λb _ h=>h.1),⟨Xy,Xf.o.1,by rw[<-ξA];exact Xf.o.2⟩,((Xj.o.gr Z.o).touch V.o (λh=>by have:=h.2;omega))⟩⟩,⟨.inr (by rw[show f+(i+1)-1=f+i by omega];exact O.o)⟩,⟨((G.o.touch J.o Ω).gr Z.o).touch V.o (λh=>by have:=h.2;omega)⟩,?_,?_,?_⟩
     ·go_num
     ·go_num
     ·go_num
    case measure=>have:=Xq.o;simp[intOf];omega
  ·obtain rfl:i=n:=Ω
   have q2:=G.o.cc 2;clear Ya;go_wp2;refine ζw (ζl rfl _ _ _) rfl ?_;obtain⟨vx,Xc,Xb⟩:=HI.o.vm;exact⟨rfl,HI.o.t,vx,Xc,Xb⟩
end
def CJ(U:Nat->Bool)(i n:Nat):Nat->Bool:=λj=>U j&&!(decide (i<=j)&&decide (j<i+n))
theorem QG(U:Nat->Bool)(i:Nat):CJ U i 0=U:=by
 funext j
 unfold CJ;by_cases h:i<=j
 ·simp_all
 simp_all
theorem NW(U:Nat->Bool)(i n:Nat):CJ U i (n+1)=but (CJ U i n) (i+n):=by
 funext j
 unfold but CJ
 grind
theorem ZP{U:Nat->Bool}{i n j:Nat}(h:¬(i<=j/\j<i+n)):CJ U i n j=U j:=by
 unfold CJ
 grind
theorem VBH{w:World}{b n:Nat}{s:Sl}{U:Nat->Bool}{f:Int->Option Value}{i x:Nat}(h1:n+cnt U (sizes s.L)<=2*sizes s.L)(h2:∀q:Nat,(f (q:Nat)).getD (iI 0)=iI (s.on U q:Nat))(hi:i<sizes s.L)(hU:U i=true)
  (hx:x=s.on (but U i) (AH s.L i/s.pg)) (hm:BF prog 3 w b (n+1) (λy=>if y=((AH s.L i/s.pg:Nat):Int)then some (iI x)else f y)):J7 w b s (but U i):=by
 refine⟨n+1,_,hm,?_,λq=>?_⟩
 ·have:=Z9 (f:=U) hi hU;unfold but;omega
 ·have X:=Sl.on_but (s:=s) (U:=U) (i:=i) (q:=q) hi hU;by_cases e:AH s.L i/s.pg=q
  ·subst e;rw[μ rfl,hx];rfl
  ·rw[κ e]at X;rw[κ Ω,h2 q,<-X];rfl
def Zj0(w:World)(R S:Nat->Prop)(y q:Nat)(z:B8)(s:Sl)(D U0 U':Nat->Bool)(ml:List Bool)(lf ft ah:Nat)(v2:Vm)(e:Ending)(w':World):Prop:=
 e=.returned (.tuple #[])/\AB (λb=>b=z.bw\/S b) w w'/\BG w' R y q z s U' ml lf ft ah/\∃v'',AD w' (plus S w) q v''/\FC s D U0 U' v2 v''
structure DrI(w wr:World)(R S:Nat->Prop)(y q:Nat)(z:B8)(s:Sl)(D U0 U':Nat->Bool)(ml:List Bool)(lf ft ah:Nat)(v2:Vm)(pb f tb n:Nat):Prop where
 t:AB (λb=>b=z.bw\/S b) w wr
 cy:BG wr R y q z s U' ml lf ft ah
 vm:∃Sj v'',(∀b,Sj b->(S b/\b<w.heap.size)\/pb<b)/\AD wr Sj q v''/\FC s D U0 U' v2 v''
 pc:Rec wr pb 260 [iI f,iI tb,iI n]
section
variable {w:World} {R S:Nat->Prop} {y q:Nat} {z:B8} {s:Sl} {U D U0:Nat->Bool} {ml:List Bool} {lf ft ah:Nat} {v2 v':Vm} {i0 n f t:Nat}
theorem JBl(hC:BG w R y q z s U ml lf ft ah)(hst:BC s)(hV:AD w S q v')(hdis:∀k,R k->¬S k)(hdr:FC s D U0 U v2 v')(hn1:1<=n)(hn:i0+n<=sizes s.L)(hU:∀i,i<n->U (i0+i)=true)(hw:∀i,i<n->AH s.L (i0+i)=f+i):
  Calls prog 183 #[pP y,.agg #[.int .i64 f,.int .i64 t,.int .i64 n]] w (Zj0 w R S y q z s D U0 (CJ U i0 n) ml lf ft ah v2):=by
 have Yx:=hst;have Xh:=hdis;have HU:=hU;have HW:=hw;have HB:=hn;have Yl:=hst.n2;have Yu:=hst.N_le;have Yn:=hst.pg
 have hfb:f+n<=1048576:=by
  have h1:=hw (n-1) Ω;have h2:=(hst.srcs (i:=i0+(n-1)) Ω).2.2;omega
 have RP:=Rec.new w 260 [.int .i64 f,.int .i64 t,.int .i64 n];simp only[List.toArray]at RP;obtain⟨w0,I⟩:∃w0,w0=w.alloc (.cells #[.int .i64 f,.int .i64 t,.int .i64 n] 260):=⟨_,rfl⟩;have Xf:Gr w w0:=by rw[I];exact(Gr.refl w).alloc _
 have Ye:w0.heap.size=w.heap.size+1:=by rw[I,γ]
 have Yg:Hid (DrI w w0 R S y q z s D U0 (CJ U i0 0) ml lf ft ah v2 w.heap.size f t n):=⟨by
  rw[QG]
  exact⟨Xf.touch _,hC.gr Xf,⟨AE S w,v',λb hb=>.inl hb,hV.cut.gr Xf,hdr⟩,by rw[I];exact RP⟩⟩
 have Xq:=hC.od.lt;have HS0:=Ye;have Yy:n≠0->True:=λ_=>trivial;clear hC hst hV hdis hdr hU hw hn Xf Yy;obtain⟨pb,Xd⟩:∃pb,pb=w.heap.size:=⟨_,rfl⟩;have J:=ι Xd;have Xe:Hid (DrI w w0 R S y q z s D U0 (CJ U i0 0) ml lf ft ah v2 pb f t n):=⟨by rw[Xd];exact Yg.o⟩;go_enter func183,ntmps183;go_upto_region 1 with(fail);rw[<-I,<-Xd];clear I RP Yg Ye Xd;have p0:=Xe.o.pc.cc 0;have pl:=Xe.o.pc.lt;go_upto_region 2 with(fail);clear p0 pl
 go_loopw [4] (λs4 wr=>∃j A:Nat,j<=n/\Hid (A=f+j)/\Hid (DrI w wr R S y q z s D U0 (CJ U i0 j) ml lf ft ah v2 pb f t n)/\s4=.int .i64 A) (λs4 _=>f+n-(intOf s4).toNat)
 case atStart=>exact⟨0,f,ζe _,⟨rfl⟩,Xe,rfl⟩
 case round=>
  obtain⟨j,A,hj,HA,HI,rfl⟩:=hrel;clear Xe;have p0:=HI.o.pc.cc 0;have p2:=HI.o.pc.cc 2;have pl:=HI.o.pc.lt;by_cases Xa:j<n
  ·have Xb:=Xa;have Ys:(A:Int)<(f:Int)+(n:Int):=by have:=HA.o;omega
   have Yp:A<=1048576:=by have:=HA.o;omega
   obtain⟨Sj,vx,Xg,G,E⟩:=HI.o.vm;have V:=HI.o.cy;have Yh:=HW j Xa;have Yb:=HU j Xa;have Xo:i0+j<sizes s.L:=by have:=HB;omega
   have Xn:CJ U i0 j (i0+j)=true:=by rw[ZP Ω];exact Yb
   have Xj:=E.mid.pg;have Xs:=(λ(W:World) (g:Gr wr W)=>IY (G.gr g));rw[Xj]at Xs;obtain⟨pg,Y⟩:∃pg,pg=s.pg:=⟨_,rfl⟩;have HPGE:=ι Y;rw[<-Y]at Xs Yn;obtain⟨Q,hQ⟩:∃Q,Q=A/pg:=⟨_,rfl⟩;have g1:((A:Int).tdiv (pg:Int))=(Q:Int):=by rw[hQ];rfl
   have g2:((A:Int)/(pg:Int))=(Q:Int):=by rw[hQ];rfl
   have hpg0:(pg:Int)≠0:=Ω
   have hQb:Q<=1048576:=by rw[hQ];exact ζa (ζ2 _ _) Yp
   have Xt:AH s.L (i0+j)/s.pg=Q:=by rw[Yh,hQ,HA.o,Y]
   have HQ:=Xt;obtain⟨nw,fm,hm,hn1,Xl⟩:=V.wd;have Yj:=S6 V.wd (q:=Q) Ω;have Xu:=Sl.on_but (s:=s) (U:=CJ U i0 j) (i:=i0+j) (q:=Q) Xo Xn;rw[μ Xt]at Xu;obtain⟨N,hN⟩:∃N,N=s.on (CJ U i0 j) Q:=⟨_,rfl⟩;obtain⟨N',Xr⟩:∃N',N'=s.on (but (CJ U i0 j) (i0+j)) Q:=⟨_,rfl⟩;have hNle:N<=1048576:=by rw[hN];have:=s.on_le (CJ U i0 j) Q;omega
   rw[<-hN]at Yj;rw[<-hN,<-Xr]at Xu;have hNN:(N:Int)-1=(N':Int):=Ω
   have Yt:=hm;have Yc:=(ϑ hn1 Xl);have Ym:Hid (nw<maxLen):=⟨by have h1:=hn1;have h2:=Yl;have h3:=Yu;unfold maxLen;omega⟩;have Yw:Hid ((Lit.int .i64 (Q:Int)).wf=true):=⟨WalkArith.wf_i64 Ω⟩;have HX:=ι (ϑ Xo (ϑ Xn Xr));have Z:=ι Xg;have Yv:=ι G;have Ya:=ι E;have x0:=V.rc.cc 0;have x8:=V.rc.cc 14;have xl:=V.rc.lt;clear V Yh Yb Xo Xn Xj Y hQ Xt hm hn1 Xl Xu hN Xr Xg G E Xa
   go_upto_region 6 with(first
    | (go_at_call 126;refine AT (Xs _ (Gr.refl wr)) ?_)
    | (at_mapUpdate;refine X9l _ rfl _ _ _ 119 rfl 3 3 JD underlying119 underlying3 z.bw nw fm rfl Yt Ym.o (Q:Int) (.int .i64 (N':Int)) rfl rfl Yw.o ?_;intro w3 Yk Yf;have Yr:=ι Yk;have Xc:=ι Yf;clear Yk Yf))
   have X:BG w3 R y q z s (CJ U i0 (j+1)) ml lf ft ah:=by
    rw[NW];refine HI.o.cy.setW Xc.o (VBH Yc.1 Yc.2 HX.o.1 HX.o.2.1 (x:=N') (by rw[HX.o.2.2,HQ]) ?_);rw[HQ];exact Yr.o
   have Xk:¬Sj z.bw:=λh=>by
    have h1:=Xq _ HI.o.cy.od.r3;rcases Z.o _ h with h|h
    ·exact Xh _ HI.o.cy.od.r3 h.1
    ·have:=J.o;omega
   have Yi:∀k,R k->¬Sj k:=λk hk h=>by
    have h1:=Xq _ hk;rcases Z.o _ h with h|h
    ·exact Xh _ hk h.1
    ·have:=J.o;omega
   have Xw:Hid (AD w3 Sj q vx):=⟨Yv.o.touch Xc.o (λb hb _ h=>Xk (h▸hb))⟩;have Xx:=ι X;have Yq:=ι Yi;have Xi:pb≠z.bw:=λh=>by have h1:=Xq _ HI.o.cy.od.r3;have:=J.o;omega
   have Xp:=ι (HI.o.pc.touch Xc.o Xi);have y0:=X.rc.cc 0;have y8:=X.rc.cc 14;have yl:=X.rc.lt;have Xz:=S6 X.wd (q:=Q) Ω;rw[NW,<-HX.o.2.2]at Xz;have O:Hid (AB (λb=>b=z.bw\/S b) w w3):=⟨HI.o.t.trans (Xc.o.mono (λb _ h=>.inl h))⟩;have Xy:Hid (A+1=f+(j+1)):=⟨by have:=HA.o;omega⟩;clear Yj x0 x8 xl X Xk Yi Xi p0 p2 pl;simp only[Act.put];by_cases hz:N'=0
   ·have d0:((N':Int)==0)=true:=by simp[hz]
    have HZ:=ι hz;clear hz;go_wp2_with(go_at_call 127;refine(NB Xw.o (Q:Int)).mono ?_;rintro e w5 ⟨rfl,Yd,Xv⟩;have Xm:=ι Yd;have Yo:=ι Xv;clear Yd Xv);go_roundw
    case rel=>
     have hz3:=O.o.size;have hw3:pb<w3.heap.size:=Xp.o.lt;refine⟨j+1,A+1,Xb,Xy,⟨⟨O.o.trans' Xm.o (λb hb h=>?_),Xx.o.touch Xm.o Yq.o,⟨plus Sj w3,_,λb hb=>?_,Yo.o,?_⟩,Xp.o.touch Xm.o (λh=>?_)⟩⟩,by go_num⟩
     ·rcases Z.o b h with h|h
      ·exact .inr h.1
      ·have:=J.o;omega
     ·rcases hb with h|h
      ·exact Z.o b h
      ·right;omega
     ·have:=Ya.o.drop Yx HX.o.1 HX.o.2.1 (by rw[HQ,<-HX.o.2.2];exact HZ.o);rw[HQ]at this;rw[NW];exact this
     ·rcases Z.o _ h with h|h
      ·have:=J.o;omega
      ·omega
    case measure=>have:=HA.o;have:=Xb;simp[intOf];omega
   ·have d0:((N':Int)==0)=false:=by simp;exact hz
    have HZ:=ι hz;clear hz;go_wp2;go_roundw
    case rel=>
     refine⟨j+1,A+1,Xb,Xy,⟨⟨O.o,Xx.o,⟨Sj,_,Z.o,Xw.o,?_⟩,Xp.o⟩⟩,by go_num⟩;rw[NW];exact Ya.o.keep HX.o.1 HX.o.2.1 (by rw[HQ,<-HX.o.2.2];exact HZ.o)
    case measure=>have:=HA.o;have:=Xb;simp[intOf];omega
  ·obtain rfl:j=n:=Ω
   have Ys:¬(A:Int)<(f:Int)+(j:Int):=by have:=HA.o;omega
   clear Xa;go_wp2;refine ζw (ζl rfl _ _ _) rfl ?_;obtain⟨Sj,vx,Xg,G,E⟩:=HI.o.vm;exact⟨rfl,HI.o.t,HI.o.cy,vx,G.mono (λb hb=>(Xg b hb).imp (λh=>h.1) (λh=>by have:=J.o;omega)),E⟩
end
def XU7(s:Sl)(v:Vm):Prop:=∀p,p<v.pt.length->(v.pt.getD p 0≠0↔(∃i,i<sizes s.L/\AH s.L i/s.pg=p/\s.is i=false)\/(∃i,i<sizes s.L/\(s.cf.to+i)/s.pg=p/\s.is i=true))
theorem IZ{f g:Nat->Bool}{n:Nat}(h:∀i,i<n->f i=true->g i=true):cnt f n<=cnt g n:=by
 induction n with
 | zero=>exact π _
 | succ n ih=>
  rw[CR,CR];have h1:=ih (λi hi=>h i Ω);cases hf:f n <;> cases hg:g n <;> simp_all <;> omega
theorem WZ(f g:Nat->Bool)(n:Nat):cnt (λi=>f i||g i) n<=cnt f n+cnt g n:=by
 induction n with
 | zero=>exact π _
 | succ n ih=>
  rw[CR,CR,CR];cases f n <;> cases g n <;> simp <;> omega
theorem RS(a b n:Nat):cnt (λi=>decide (a<=i/\i<b)) n<=b-a:=by
 induction n with
 | zero=>exact ζe _
 | succ n ih=>
  have key:cnt (λi=>decide (a<=i/\i<b)) (n+1)<=min (n+1) b-a:=by
   clear ih
   induction n with
   | zero=>
    grind [CR,LC,θ,φ]
   | succ n ih=>
    grind [CR,θ,φ]
  omega
theorem JuW(l:List Nat)(f:Nat->Nat->Bool){m n:Nat}(h:∀k∈l,cnt (f k) n<=m):cnt (λi=>l.any λk=>f k i) n<=l.length*m:=by
 induction l with
 | nil=>
  grind [GZ]
 | cons k r ih=>
  have h1:=ih (λj hj=>h j (ζA _ hj));have h2:=h k (ζq ..);have h3:=WZ (f k) (λi=>r.any λk=>f k i) n
  grind [ζH,ξm]
theorem OG{l:List Bool}{m:Nat}(hm:m<=l.length)(h:∀i,i<m->at_ l i=true):cnt (λk=>decide (m<=k)&&at_ l k) l.length+m=cnt (at_ l) l.length:=by
 have e:=LT (f:=λk=>decide (m<=k)&&at_ l k) (g:=λk=>decide (0<=k/\k<m)) (λi=>by
  simp_all) l.length
 rw[SI 0 m _ (ζe _) hm]at e
 grind [CT]
theorem XR{n:Nat}(h:BJ n=true):∃k:Nat,n=2 ^ k:=by
 simp[BJ]at h;have:n=1\/n=2\/n=4\/n=8\/n=16\/n=32\/n=64\/n=128\/n=256\/n=512\/n=1024:=Ω
 rcases this with rfl|rfl|rfl|rfl|rfl|rfl|rfl|rfl|rfl|rfl|rfl
 all_goals first|exact⟨0,rfl⟩|exact⟨1,rfl⟩|exact⟨2,rfl⟩|exact⟨3,rfl⟩|exact⟨4,rfl⟩|exact⟨5,rfl⟩|exact⟨6,rfl⟩|exact⟨7,rfl⟩|exact⟨8,rfl⟩|exact⟨9,rfl⟩|exact⟨10,rfl⟩
theorem Zs5{B pg:Nat}(hB:BJ B=true)(hp:BJ pg=true)(j:Nat):∃a,∀i,i/B=j->a<=i/pg/\i/pg<a+max 1 (B/pg):=by
 obtain⟨k,rfl⟩:=XR hB;obtain⟨l,rfl⟩:=XR hp;have h2:0<2 ^ l:=Nat.two_pow_pos l;rcases ω k l with h|h
 ·obtain⟨d,rfl⟩:∃d,l=k+d:=⟨l-k,by omega⟩;refine⟨j/2 ^ d,λi hi=>?_⟩
  grind [Nat.pow_add,Nat.div_div_eq_div_mul]
 ·obtain⟨d,rfl⟩:∃d,k=l+d:=⟨k-l,by omega⟩;have e:2 ^ (l+d)/2 ^ l=2 ^ d:=by rw[Nat.pow_add,Nat.mul_div_cancel_left _ h2]
  have h3:0<2 ^ d:=Nat.two_pow_pos d;refine⟨j*2 ^ d,λi hi=>?_⟩;have h4:i/2 ^ l/2 ^ d=j:=by grind [Nat.div_div_eq_div_mul,Nat.pow_add]
  have h5:=ζy (i/2 ^ l) (2 ^ d);rw[h4,ζR]at h5;omega
theorem Y0i{v:Vm}(h:AF v){p0 c:Nat}(hc:p0+c<=v.pt.length):cnt (λp=>(v.pt.getD p 0 !=0)||decide (p0<=p/\p<p0+c)) v.pt.length=v.pl.used+(BW v p0 c).length:=by
 induction c with
 | zero=>
  rw[h.us];refine CT λp _=>?_
  grind
 | succ c ih=>
  have ih:=ih Ω;rw[PR];by_cases h0:v.pt.getD (p0+c) 0=0
  ·rw[μ h0,ζh,ξk,show v.pl.used+((BW v p0 c).length+1)=(v.pl.used+(BW v p0 c).length)+1 by omega,<-ih];have e:=UW (f:=λp=>(v.pt.getD p 0 !=0)||decide (p0<=p/\p<p0+c)) (i:=p0+c) (n:=v.pt.length) Ω (by simp_all)
   grind
  grind
section
variable {s:Sl} {v v':Vm} {k:Nat}
theorem Sl.ft_le(s:Sl):s.ft<=s.mv.length:=GU _ _
theorem Sl.ft_on(s:Sl){i:Nat}(h:i<s.ft):at_ s.mv i=true:=by
 have:=IE (λk=>!at_ s.mv k) s.mv.length i h
 simp_all
theorem Sl.ft_off(s:Sl)(h:s.ft<s.mv.length):at_ s.mv s.ft=false:=by
 have:(!at_ s.mv s.ft)=true:=GP (λk=>!at_ s.mv k) s.mv.length h
 simp_all
end
theorem JPr{s:Sl}(hst:BC s){k:Nat}(hk:k<s.mv.length):∃(P:List Pc) (M:Nat->Nat),IG s.L s.cf.bk s.cf.to k=P/\M 0=0/\M P.length=s.hi k-s.lo k/\∀i (h:i<P.length),∃f:Nat,1<=P[i].s/\P[i].f=f/\P[i].t=((s.cf.to+(s.lo k+M i):Nat):Int)/\M (i+1)=M i+P[i].s/\s.lo k+M i+P[i].s<=s.hi k/\∀j,j<P[i].s->AH s.L (s.lo k+M i+j)=f+j:=by
 have hlh:=hst.lohi hk
 have Z:DO s.L s.cf.bk (k:Int)=true:=by
  unfold DO;rw[θ Ω,θ (by rw[<-hst.len];omega)];rfl
 obtain⟨e1,e2,-⟩:=NE (base:=(s.cf.to:Int)) Z;have ea:ID s.L s.cf.bk s.cf.to k=((s.cf.to+s.lo k:Nat):Int):=by assumption
 have ez:I4 s.L s.cf.bk s.cf.to k=((s.cf.to+s.hi k:Nat):Int):=by
  rw[e2];unfold Sl.hi;omega
 obtain⟨P,hP⟩:∃P,P=IG s.L s.cf.bk s.cf.to k:=⟨_,rfl⟩
 have hP2:P=pcs (CP s.L s.cf.to) ((s.cf.to+s.lo k:Nat):Int) (s.hi k-s.lo k):=by
  rw[hP];unfold IG
  grind
 have hr:L8 (CP s.L s.cf.to) ((s.cf.to+s.lo k:Nat):Int) (s.hi k-s.lo k) P:=by grind [QBb]
 have X:=λi hi=>hr.ends _ i hi rfl;have h0:=XLy hr Ω;have hE:=VID P (((s.cf.to+s.lo k:Nat):Int)+((s.hi k-s.lo k:Nat):Int));obtain⟨T,hT⟩:∃T:Nat->Int,T=JU P (((s.cf.to+s.lo k:Nat):Int)+((s.hi k-s.lo k:Nat):Int)):=⟨_,rfl⟩;rw[<-hT]at h0 hE;refine⟨P,λi=>(T i-((s.cf.to+s.lo k:Nat):Int)).toNat,hP.symm,by simp_all,by grind,λi hi=>?_⟩;obtain⟨g1,g2⟩:=X i hi;have h1:T i=P[i].t:=by rw[hT];exact XC hi
 have h2:T (i+1)=P[i].t+P[i].s:=by rw[hT];exact Xv7 hr hi
 have hw:=hr.word _ (χ hi);have hp:=hr.pos _ (χ hi);obtain⟨m,hm⟩:∃m:Nat,P[i].t=((s.cf.to+(s.lo k+m):Nat):Int):=⟨(P[i].t-((s.cf.to+s.lo k:Nat):Int)).toNat,by omega⟩
 have Y:∀j,j<P[i].s->(AH s.L (s.lo k+m+j):Int)=P[i].f+j:=λj hj=>by
  rw[<-hw j hj,hm,show ((s.cf.to+(s.lo k+m):Nat):Int)+(j:Int)=((s.cf.to+(s.lo k+m+j):Nat):Int)by omega];exact(L3 Ω).1.symm
 have hf0:=Y 0 Ω;refine⟨P[i].f.toNat,hp,by omega,?_,?_,?_,λj hj=>?_⟩
 ·dsimp only;omega
 ·dsimp only;omega
 ·dsimp only;omega
 ·have:=Y j hj;dsimp only;rw[h1,show (P[i].t-((s.cf.to+s.lo k:Nat):Int)).toNat=m by omega];omega
theorem JDv(U:Nat->Bool)(i n m:Nat):CJ (CJ U i n) (i+n) m=CJ U i (n+m):=by
 induction m with
 | zero=>rw[QG];rfl
 | succ m ih=>grind [NW,ξA]
theorem H4.touch{w w':World}{T:Nat->Prop}{A:Option Addr}{P:List Pc}(h:H4 w A P)(t:AB T w w')(hT:∀a,A=some a->¬T a.block):H4 w' A P:=λi hi=>by
 obtain⟨g,rfl,h1,h2,h3,h4⟩:=h i hi;have hg:=hT _ rfl;exact⟨g,rfl,υ h1 t.size,(t.cell h1 hg _).trans h2,(t.cell h1 hg _).trans h3,(t.cell h1 hg _).trans h4⟩
theorem BG.cu{w:World}{R:Nat->Prop}{y q:Nat}{z:B8}{s:Sl}{U V:Nat->Bool}{ml:List Bool}{lf ft ah:Nat}(h:BG w R y q z s U ml lf ft ah)(hU:∀j,j<sizes s.L->U j=V j):BG w R y q z s V ml lf ft ah:=by
 refine⟨h.od,h.rc,h.pl,h.ex,h.sh,?_,h.mv⟩;obtain⟨n,f,h1,h2,h3⟩:=h.wd;exact⟨n,f,h1,by grind [CT],λq=>by rw[<-Sl.on_congr hU];exact h3 q⟩
def LF(w:World)(b o:Nat):Nat:=match w.cell? ⟨b,o,none⟩with|some v=>(intOf v).toNat|none=>0
def XN(w:World)(R S:Nat->Prop)(y q:Nat)(z:B8)(s:Sl)(k:Nat)(v:Vm)(e:Ending)(w':World):Prop:=
 e=.returned (iI 0)/\AB (λb=>R b\/S b) w w'/\Cyc w' R y q z {s with mv:=s.mv.set k true}/\∃v',AD w' (plus S w) q v'/\MQ s k v v'
structure MvC(w w2 wr:World)(R S S2:Nat->Prop)(y q:Nat)(z:B8)(s:Sl)(k m:Nat)(v1:Vm)(g:Nat)(P:List Pc):Prop where
 t:AB (λb=>R b\/S b) w wr
 t2:AB S2 w2 wr
 cy:Cyc wr R y q z s
 vm:∃vx,AD wr S2 q vx/\FR s s.is (λi=>!s.is i) (s.lo k) (s.hi k) v1 vx m
 pc:H4 wr (some ⟨g,0,none⟩) P
structure MvD(w w4 wr:World)(R S S2:Nat->Prop)(y q:Nat)(z:B8)(s:Sl)(k m:Nat)(v2:Vm)(g:Nat)(P:List Pc):Prop where
 t:AB (λb=>R b\/S b) w wr
 sz:w4.heap.size<=wr.heap.size
 cy:BG wr R y q z s (CJ (λi=>!s.is i) (s.lo k) m) s.mv s.lf s.ft (s.mvd-s.ft)
 vm:∃Sj vx,(∀b,Sj b->S2 b\/w4.heap.size<=b)/\AD wr Sj q vx/\FC s (λj=>s.is j||(decide (s.lo k<=j)&&decide (j<s.lo k+(s.hi k-s.lo k)))) (λi=>!s.is i) (CJ (λi=>!s.is i) (s.lo k) m) v2 vx
 pc:H4 wr (some ⟨g,0,none⟩) P
structure MvF(w8 wr:World)(R:Nat->Prop)(y q:Nat)(z:B8)(s:Sl)(U:Nat->Bool)(ml:List Bool)(l1 sm fc ac:Nat):Prop where
 cy:BG wr R y q z s U ml l1 fc ac
 t:AB (λi=>i=y) w8 wr
 on:∀i,i<fc->at_ ml i=true
 sum:ac+fc=sm
 le:fc<=ml.length
structure MvK(w w2:World)(R S S2:Nat->Prop)(s:Sl)(k:Nat)(v1:Vm)(P:List Pc)(M:Nat->Nat):Prop where
 st:BC s
 hk:k<s.mv.length
 hm:at_ s.mv k=false
 pc:∀i (h:i<P.length),∃f:Nat,1<=P[i].s/\P[i].f=f/\P[i].t=((s.cf.to+(s.lo k+M i):Nat):Int)/\M (i+1)=M i+P[i].s/\s.lo k+M i+P[i].s<=s.hi k/\∀j,j<P[i].s->AH s.L (s.lo k+M i+j)=f+j
 ld:∀i,s.lo k<=i->i<s.hi k->v1.ldE ((s.cf.to+i:Nat):Int)=0
 tb:AP w
 tS:¬S 1
 tR:¬R 1
 s2:∀b,S2 b->(S b/\b<w.heap.size\/w.heap.size<=b)/\b<w2.heap.size
 dis:∀k,R k->¬S k
 rl:∀k,R k->k<w.heap.size
 ww:w.heap.size<=w2.heap.size
section
variable {w w2 w4 wr:World} {R S S2:Nat->Prop} {y q:Nat} {z:B8} {s:Sl} {v1 v2:Vm} {k g i:Nat} {P:List Pc} {M:Nat->Nat}
theorem MvK.un(h:MvK w w2 R S S2 s k v1 P M){i:Nat}(h1:s.lo k<=i)(h2:i<s.hi k):s.is i=false:=by
 have hN:=(h.st.lohi h.hk).2.2;have:i/s.cf.bk=k:=by simpa[Sl.inB]using (h.st.inB (k:=k) (i:=i) Ω).2 ⟨h1,h2⟩
 unfold Sl.is;rw[this];exact h.hm
theorem MvK.r2(h:MvK w w2 R S S2 s k v1 P M):∀b,R b->¬S2 b:=λb hb h2=>by
 have:=h.rl b hb;rcases(h.s2 b h2).1 with h'|h'
 ·exact h.dis b hb h'.1
 ·omega
theorem MvK.t2(h:MvK w w2 R S S2 s k v1 P M):¬S2 1:=λh2=>by
 have:=h.tb.lt;rcases(h.s2 _ h2).1 with h'|h'
 ·exact h.tS h'.1
 ·omega
theorem MvK.copy(h:MvK w w2 R S S2 s k v1 P M)(hg:w2.heap.size<=g)(hi:i<P.length)(hI:MvC w w2 wr R S S2 y q z s k (M i) v1 g P){W:World}(gW:Gr wr W):
  ∃f t:Nat,P[i].f=f/\P[i].t=t/\Calls prog 182 #[pP y,.agg #[iI f,iI t,iI (P[i].s:Nat)]] W λe w'=>e=.returned (.tuple #[])/\MvC w w2 w' R S S2 y q z s k (M (i+1)) v1 g P:=by
 obtain⟨f,h1,h2,h3,h4,h5,h6⟩:=h.pc i hi;obtain⟨vx,Y,X⟩:=hI.vm;have hN:=(h.st.lohi h.hk).2.2;have Z:AP W:=(h.tb.touch' hI.t (λh'=>h'.elim h.tR h.tS)).touch' (gW.touch (λ_=>False)) (λh=>h);refine⟨f,_,h2,h3,(XAM (hI.cy.gr gW) h.st Z h.t2 (Y.gr gW) h.r2 X h5 hN (λi a b=>by simp[h.un a b]) h.ld h6).mono ?_⟩;rintro e w' ⟨rfl,ht,J,hv,hp⟩;refine⟨rfl,(hI.t.trans (gW.touch _)).trans' ht (λb hb hs=>?_),(hI.t2.trans (gW.touch _)).trans ht,(hI.cy.gr gW).touch ht h.r2,⟨J,hv.mono (λb hb=>hb.1),by simp_all⟩,(hI.pc.gr gW).touch ht (λa ha hs=>?_)⟩
 ·rcases(h.s2 b hs).1 with h'|h'
  ·simp_all
  ·omega
 ·cases ha;have:g<w2.heap.size:=(h.s2 _ hs).2;omega
theorem MvK.drain(h:MvK w w2 R S S2 s k v1 P M)(_hw:w2.heap.size<=w4.heap.size)(h0:w.heap.size<=w4.heap.size)(hg:w2.heap.size<=g/\g<w4.heap.size)(hi:i<P.length)(hI:MvD w w4 wr R S S2 y q z s k (M i) v2 g P){W:World}(gW:Gr wr W):
  ∃f t:Nat,P[i].f=f/\P[i].t=t/\Calls prog 183 #[pP y,.agg #[iI f,iI t,iI (P[i].s:Nat)]] W λe w'=>e=.returned (.tuple #[])/\MvD w w4 w' R S S2 y q z s k (M (i+1)) v2 g P:=by
 obtain⟨f,h1,h2,h3,h4,h5,h6⟩:=h.pc i hi;obtain⟨Sj,vx,X,Z,Y⟩:=hI.vm;have hN:=(h.st.lohi h.hk).2.2;have hz:=gW.size;have hzr:=hI.sz
 have V:∀b,R b->¬Sj b:=λb hb hs=>by
  have:=h.rl b hb;rcases X b hs with h'|h'
  ·exact h.r2 b hb h'
  ·omega
 refine⟨f,_,h2,h3,(JBl (hI.cy.gr gW) h.st (Z.gr gW) V Y h1 Ω (λj hj=>?_) h6).mono ?_⟩
 ·rw[ZP Ω];simp[h.un (i:=s.lo k+M i+j) Ω Ω]
 ·rintro e w' ⟨rfl,ht,hc,J,hv,hp⟩;rw[JDv,<-h4]at hc hp;refine⟨rfl,(hI.t.trans (gW.touch _)).trans' ht (λb hb hs=>?_),by have:=ht.size;omega,hc,⟨plus Sj W,J,λb hb=>?_,hv,hp⟩,(hI.pc.gr gW).touch ht (λa ha hs=>?_)⟩
  ·rcases hs with hs|hs
   ·left;rw[hs];exact hI.cy.od.r3
   ·rcases X b hs with h'|h'
    ·rcases(h.s2 b h').1 with N|N
     ·simp_all
     ·omega
    ·omega
  ·rcases hb with hb|hb
   ·simp_all
   omega
  ·cases ha;rcases hs with hs|hs
   ·have h1:=h.rl _ hI.cy.od.r3;have hs:g=z.bw:=hs;have:=h.ww;omega
   ·rcases X _ hs with h'|h'
    ·have:g<w2.heap.size:=(h.s2 _ h').2;omega
    grind
end
section
variable {w:World} {R S:Nat->Prop} {y q:Nat} {z:B8} {s:Sl} {v:Vm} {k:Nat}
theorem ZS2(hC:Cyc w R y q z s)(hO:BO s v)(hT:AP w)(htS:¬S 1)(htR:¬R 1)(hV:AD w S q v)(hdis:∀k,R k->¬S k)(hk:k<s.mv.length)(hkm:at_ s.mv k=false)
  (hE:BD v ((s.cf.to+s.lo k:Nat):Int) ((s.cf.to+s.hi k:Nat):Int)=0):
  Calls prog 137 #[pP y,iI k] w (XN w R S y q z s k v):=by
 have Y:=hO.st;have Zt:=Y.lohi hk;obtain⟨P,M,eP,M0,M1,hM⟩:=JPr Y hk
 have Jl:0<P.length:=by
  rcases ζB P.length with h|h
  ·rw[h,M0]at M1;omega
  ·exact h
 have Uj:=Y.n2;have Jk:s.cf.to+s.hi k<=v.n:=by have:=Y.fit;have:=Y.cf.ln;rw[hO.mid.n];omega
 have Jv:v.n<=524288:=by rw[hO.mid.n];exact Uj
 have Zo:DO s.L s.cf.bk (k:Int)=true:=by
  unfold DO;rw[θ Ω,θ (by rw[<-Y.len];omega)];rfl
 obtain⟨r1,r2,r3⟩:=NE (base:=(s.cf.to:Int)) Zo;have ea:ID s.L s.cf.bk s.cf.to k=((s.cf.to+s.lo k:Nat):Int):=by rw[r1];unfold Sl.lo;push_cast;rfl
 have ez:I4 s.L s.cf.bk s.cf.to k=((s.cf.to+s.hi k:Nat):Int):=by
  rw[r2];unfold Sl.hi;rw[show (k:Int)*(s.cf.bk:Int)=((k*s.cf.bk:Nat):Int)by push_cast;rfl];omega
 have hPl:P.length<=1048576:=by
  have:=ZbI Y.good Ω Y.bk.1 (base:=s.cf.to) (by have:=Y.cf.lm;have:=Y.cf.ln;omega) (k:Int);rw[eP]at this;have:=Y.bk.2;omega
 have Uh:s.mvd+s.lf=s.mv.length:=by
  unfold Sl.lf;have:s.mvd<=s.mv.length:=EG _ _;omega
 have hml:s.mv.length<=1048576:=by rw[Y.len];have:=LL (n:=sizes s.L) Y.bk.1;have:=Y.N_le;omega
 have Xw:({s with mv:=s.mv.set k true}:Sl).mvd=s.mvd+1:=by
  show cnt (at_ (s.mv.set k true)) (s.mv.set k true).length=_
  rw[ν,JG hk hkm];rfl
 have Yp:=(λ(W:World) (g:Gr w W)=>T7 (hC.gr g).plan (k:Int));rw[ea,ez,r3]at Yp;have Yw:=(λ(W:World) (g:Gr w W)=>QJ (hV.cut.gr g) (s.cf.to+s.lo k) (s.cf.to+s.hi k) Jk Ω);rw[hE]at Yw;have HC:=hC;have HO:=hO;have HT:=hT;have Xv:=(ϑ htS htR);have HV:=hV;have Yb:=hdis;have HK:=(ϑ hk (ϑ hkm hE));have HP:=(ϑ eP (ϑ M0 (ϑ M1 r3)));have HM:=hM;have Xt:=(ϑ Uh Xw);have Je:=ι hC.od.lt;obtain⟨af,Yl⟩:∃af,af=s.cf.to+s.lo k:=⟨_,rfl⟩;obtain⟨az,Zb⟩:∃az,az=s.cf.to+s.hi k:=⟨_,rfl⟩;have Xu:=ι (ϑ Yl Zb);rw[<-Yl,<-Zb]at Yw Yp;have x0:=hC.rc.cc 0;have x8:=hC.rc.cc 8;have xl:=hC.rc.lt;clear hC hO Y hT htS htR hV hdis hk hkm hE eP M0 M1 hM Zo r1 r2 r3 ea ez Yl Zb Jk Jv Zt Xw;go_enter func137,ntmps137
 go_upto_region 5 with(first
  | (go_at_call 180;refine(Yp _ (Gr.refl w)).mono ?_;rintro e w1 ⟨rfl,Xr⟩;have Xm:=ι Xr;have y0:=(HC.gr Xr).rc.cell (j:=0) rfl;have yl:=(HC.gr Xr).rc.lt;clear Xr)
  | (go_at_call 122;refine(Yw _ Xm.o).mono ?_;rintro e w2 ⟨rfl,Zg,v1,Xi,Zy⟩;have Yy:=ι Zg;have Za:=ι Xi;have Ue:=ι Zy;clear Zg Xi Zy))
 clear x0 x8 xl y0 yl;obtain⟨S2,Yh⟩:∃S2,S2=AE (plus (AE S w) w1) w2:=⟨_,rfl⟩;have hz1:=Xm.o.size;have hz2:=Yy.o.size
 have Ua:Hid (∀b,S2 b->(S b/\b<w.heap.size\/w.heap.size<=b)/\b<w2.heap.size):=⟨λb hb=>by
  rw[Yh]at hb
  exact⟨hb.1.imp id (λh=>by omega),hb.2⟩⟩
 have Jx:Hid (AD w2 S2 q v1):=⟨by rw[Yh];exact Ue.o.cut⟩;have Xn:Hid (Cyc w2 R y q z s):=⟨(HC.gr Xm.o).touch Yy.o (λb hb h=>Yb b hb h.1)⟩;have Xy:Hid (AB (λb=>R b\/S b) w w2):=⟨(Xm.o.touch _).trans (Yy.o.mono (λb _ h=>.inr h.1))⟩;have Zk:Hid (AP w2):=⟨HT.touch' Xy.o (λh=>h.elim Xv.2 Xv.1)⟩
 have Xc:Hid (MvK w w2 R S S2 s k v1 P M):=⟨⟨HO.st,HK.1,HK.2.1,HM,λi h1 h2=>by
  have e:=Za.o;rw[Xu.o.1,Xu.o.2]at e;have h3:=HO.st.lohi HK.1;have h4:=HO.st.dsts (i:=s.hi k-1) Ω;have h5:=HO.mid.n
  exact UE HO.mid.ok Ω HK.2.2 e Ω Ω,HT,Xv.1,Xv.2,Ua.o,Yb,Je.o,by omega⟩⟩
 have Zj:Hid (FR s s.is (λi=>!s.is i) (s.lo k) (s.hi k) v1 v1 (M 0)):=⟨by rw[HP.2.1];exact FR.zero (HO.mid.grow HO.st Za.o) _ _⟩;have Zn:=ι (Y4j Xn.o.plan Zk.o (k:Int));rw[HP.1,HP.2.2.2]at Zn;have Zq:=ι Jl;have u8:=Xn.o.rc.cc 8;have ul:=Xn.o.rc.lt;clear Yh Jl;go_upto_region 6 with(go_at_call 181;refine(Zn.o).mono ?_;rintro e w3 ⟨A,cp,rfl,Zh,Yt,Xz⟩;obtain⟨g,rfl,Xa,-⟩:=Yt 0 Zq.o;have Xp:=ι Zh;have Uf:=ι Yt;have Xs:Hid (w2.heap.size<=g/\g<w3.heap.size):=⟨⟨Xz _ rfl,Xa⟩⟩;clear Zh Yt Xz Xa);clear u8 ul;have Jh:Hid (MvC w w2 w3 R S S2 y q z s k (M 0) v1 g P):=⟨⟨Xy.o.trans (Xp.o.touch _),Xp.o.touch _,Xn.o.gr Xp.o,⟨v1,Jx.o.gr Xp.o,Zj.o⟩,Uf.o⟩⟩;go_upto_region 7 with(fail)
 go_loopw [46] (λs46 wr=>∃i:Nat,i<=P.length/\Hid (MvC w w2 wr R S S2 y q z s k (M i) v1 g P)/\s46=iI i) (λs46 _=>P.length-(intOf s46).toNat)
 case atStart=>exact⟨0,ζe _,Jh,rfl⟩
 case round=>
  obtain⟨i,hi,HI,rfl⟩:=hrel;clear Jh;by_cases X:i<P.length
  ·have N:=ι X;have Jr:(i:Int)<(P.length:Int):=Ω
   obtain⟨g',Xg,Xa,k0,k1,k2⟩:=HI.o.pc i X;cases Xg;obtain⟨f,t,ef,et,-⟩:=Xc.o.copy Xs.o.1 X HI.o (Gr.refl wr)
   have Xb:Hid (∀W,Gr wr W->Calls prog 182 #[pP y,.agg #[iI f,iI t,iI (P[i].s:Nat)]] W λe w'=>e=.returned (.tuple #[])/\MvC w w2 w' R S S2 y q z s k (M (i+1)) v1 g P):=⟨λW gW=>by
    obtain⟨f',t',Yd,Ys,h⟩:=Xc.o.copy Xs.o.1 X HI.o gW;rw[ef]at Yd;rw[et]at Ys;obtain rfl:f=f':=Ω
    obtain rfl:t=t':=Ω
    exact h⟩
   obtain⟨n,hn⟩:∃n,n=P[i].s:=⟨_,rfl⟩;rw[ef]at k0;rw[et]at k1;rw[<-hn]at k2 Xb;clear hn ef et X;have Z:=ι (Rec.new wr 260 [iI f,iI t,iI n]);simp only[List.toArray]at Z;go_upto_region 9 with(fail);obtain⟨wA,O⟩:∃wA,wA=wr.alloc (.cells #[.int .i64 f,.int .i64 t,.int .i64 n] 260):=⟨_,rfl⟩;have Xh:Gr wr wA:=by rw[O];exact(Gr.refl wr).alloc _
   have hR:=Z.o;rw[show wr.alloc (.cells ([.int .i64 f,.int .i64 t,.int .i64 n]:List Value).toArray 260)=wA from O.symm]at hR;rw[<-O];have Yn:=ι Xh;obtain⟨b0,b1,b2,bl⟩:=hR.k3;clear O Xh Z hR k0 k1 k2 Xa;go_wp2_with(go_at_call 182;refine(Xb.o _ Yn.o).mono ?_;rintro e w5 ⟨rfl,Xj⟩;have Yg:=ι Xj;clear Xj);go_roundw
   case rel=>exact⟨i+1,N.o,Yg,by go_num⟩
   case measure=>have:=N.o;simp[intOf];omega
  ·obtain rfl:i=P.length:=Ω
   clear X;obtain⟨w4,rfl⟩:∃w4:World,w4=wr:=⟨_,rfl⟩;obtain⟨v2,Zs,Zf⟩:=HI.o.vm;have Jw:=ι Zs;have Zu:=ι Zf;have Ji:=HI.o.t2.size
   have Jg:Hid (MvD w w4 w4 R S S2 y q z s k (M 0) v2 g P):=⟨⟨HI.o.t,π _,by rw[HP.2.1,QG];exact HI.o.cy,⟨S2,v2,λb hb=>.inl hb,Jw.o,by
    rw[HP.2.1,QG];have:=Zu.o.mid;rw[HP.2.2.1]at this
    exact FC.zero this⟩,HI.o.pc⟩⟩
   have Ja:g<w4.heap.size:=by
    obtain⟨g',Xg,Xa,-⟩:=HI.o.pc 0 Zq.o;cases Xg;exact Xa
   have Ze:=ι Ja;clear Zs Zf Ja;go_upto_region 12 with(fail)
   go_loopw [56] (λs56 wr=>∃i:Nat,i<=P.length/\Hid (MvD w w4 wr R S S2 y q z s k (M i) v2 g P)/\s56=iI i) (λs56 _=>P.length-(intOf s56).toNat)
   case atStart=>exact⟨0,ζe _,Jg,rfl⟩
   case round=>
    obtain⟨i,hi,HD,rfl⟩:=hrel;clear Jg;by_cases X:i<P.length
    ·have N:=ι X;have Jr:(i:Int)<(P.length:Int):=Ω
     obtain⟨g',Xg,Xa,k0,k1,k2⟩:=HD.o.pc i X;cases Xg;obtain⟨f,t,ef,et,-⟩:=Xc.o.drain Ji Ω ⟨Xs.o.1,Ze.o⟩ X HD.o (Gr.refl wr)
     have Xb:Hid (∀W,Gr wr W->Calls prog 183 #[pP y,.agg #[iI f,iI t,iI (P[i].s:Nat)]] W λe w'=>e=.returned (.tuple #[])/\MvD w w4 w' R S S2 y q z s k (M (i+1)) v2 g P):=⟨λW gW=>by
      obtain⟨f',t',Yd,Ys,h⟩:=Xc.o.drain Ji Ω ⟨Xs.o.1,Ze.o⟩ X HD.o gW;rw[ef]at Yd;rw[et]at Ys;obtain rfl:f=f':=Ω
      obtain rfl:t=t':=Ω
      exact h⟩
     obtain⟨n,hn⟩:∃n,n=P[i].s:=⟨_,rfl⟩;rw[ef]at k0;rw[et]at k1;rw[<-hn]at k2 Xb;clear hn ef et X;have Z:=ι (Rec.new wr 260 [iI f,iI t,iI n]);simp only[List.toArray]at Z;go_upto_region 14 with(fail);obtain⟨wA,O⟩:∃wA,wA=wr.alloc (.cells #[.int .i64 f,.int .i64 t,.int .i64 n] 260):=⟨_,rfl⟩;have Xh:Gr wr wA:=by rw[O];exact(Gr.refl wr).alloc _
     have hR:=Z.o;rw[show wr.alloc (.cells ([.int .i64 f,.int .i64 t,.int .i64 n]:List Value).toArray 260)=wA from O.symm]at hR;rw[<-O];have Yn:=ι Xh;obtain⟨b0,b1,b2,bl⟩:=hR.k3;clear O Xh Z hR k0 k1 k2 Xa;go_wp2_with(go_at_call 183;refine(Xb.o _ Yn.o).mono ?_;rintro e w5 ⟨rfl,Xj⟩;have Yg:=ι Xj;clear Xj);go_roundw
     case rel=>exact⟨i+1,N.o,Yg,by go_num⟩
     case measure=>have:=N.o;simp[intOf];omega
    ·obtain rfl:i=P.length:=Ω
     clear X;obtain⟨w6,rfl⟩:∃w6:World,w6=wr:=⟨_,rfl⟩;obtain⟨Sj,vx,Zr,Zp,Yz⟩:=HD.o.vm;have I:=HD.o.cy;have hz6:=HD.o.sz;rw[HP.2.2.1]at I Yz;have hkI:(k:Int)<(s.mv.length:Int):=by have:=HK.1;omega
     have c4:=I.rc.cc 10;have cl:=I.rc.lt;have m0:=BM I.mv (J4 HK.1);have mf:=ET I.mv;have Ui:=(A9 I.mv rfl).2;have Xd:=ι I;have Jn:=ι Zp;have Uk:=ι Yz;have Zw:=ι Zr
     have Xo:∀b,R b->¬Sj b:=λb hb h=>by
      have:=Je.o b hb;rcases Zw.o b h with h|h
      ·exact Xc.o.r2 b hb h
      ·omega
     have Jj:=ι Xo;clear I Zp Yz Zr Xo;go_upto_region 17 with(fail);have Xq:=(World.ownsRow.stored Xd.o.mv k (.bool true)).1;rw[QPU]at Xq;obtain⟨w7,Yi⟩:∃w7,w7=w6.setCell ⟨z.bm,k,none⟩ (.bool true):=⟨_,rfl⟩;have Ye:AB (λi=>i=z.bm) w6 w7:=by rw[Yi];exact(AB.refl (λi=>i=z.bm) w6).setCell (a:=⟨z.bm,k,none⟩) (λ_=>rfl) _
     rw[<-Yi]at Xq⊢;have G:BG w7 R y q z s (CJ (λi=>!s.is i) (s.lo k) (s.hi k-s.lo k)) (s.mv.set k true) s.lf s.ft (s.mvd-s.ft):=Xd.o.setM (ν ..) Ye (by rw[ν];exact Xq);have Jt:=ι Ye;have Xx:=ι G;have e5:=G.rc.cc 11;have ef:=G.rc.free;have el:=G.rc.lt;clear Yi Xq Ye G c4 cl m0 mf Ui
     have Zi:s.mvd<s.mv.length:=by
      have:=Xt.2;have h2:({s with mv:=s.mv.set k true}:Sl).mvd<=(s.mv.set k true).length:=EG _ _;rw[ν]at h2;omega
     have Zz:s.ft<=s.mvd:=by
      have:=OG (l:=s.mv) (m:=s.ft) s.ft_le (λi hi=>s.ft_on hi)
      show s.ft<=cnt (at_ s.mv) s.mv.length
      omega
     obtain⟨l1,Zv⟩:∃l1,s.lf=l1+1:=⟨s.lf-1,by omega⟩;have Jp:(s.lf:Int)-1=(l1:Int):=Ω
     have Uc:=ι Zv;have Jm:=ι (ϑ Zi Zz);have Jo:s.lf<=1048576:=Ω
     clear Zv Zi Zz;go_upto_region 18 with(fail);obtain⟨w8,Yu⟩:∃w8,w8=w7.setCell ⟨y,11,none⟩ (.int .i64 l1):=⟨_,rfl⟩;have Yv:AB (λi=>i=y) w7 w8:=by rw[Yu];exact(AB.refl (λi=>i=y) w7).setCell (a:=⟨y,11,none⟩) (λ_=>rfl) _
     have Yc:=Xx.o.rc.set 11 (iI l1);rw[<-Yu]at Yc⊢;have E:BG w8 R y q z s (CJ (λi=>!s.is i) (s.lo k) (s.hi k-s.lo k)) (s.mv.set k true) l1 s.ft (s.mvd-s.ft):=Xx.o.setR Yv Yc;have Jy:=ι Yv;have Ya:=ι E;have g7:=E.rc.cc 13;have gf:=E.rc.free;have gl:=E.rc.lt;obtain⟨a0,Ym⟩:∃a0,a0=s.mvd-s.ft:=⟨_,rfl⟩;rw[<-Ym]at g7;have ha0b:a0<=1048576:=Ω
     have Ul:=ι Ym;clear Yu Yc Yv E e5 ef el Jp Jo Ym;go_upto_region 19 with(fail);obtain⟨w9,Yj⟩:∃w9,w9=w8.setCell ⟨y,13,none⟩ (.int .i64 ((a0:Int)+1)):=⟨_,rfl⟩;have Yo:AB (λi=>i=y) w8 w9:=by rw[Yj];exact(AB.refl (λi=>i=y) w8).setCell (a:=⟨y,13,none⟩) (λ_=>rfl) _
     have Yf:=Ya.o.rc.set 13 (iI ((a0:Int)+1));rw[<-Yj]at Yf⊢;have Zx:Hid (BG w9 R y q z s (CJ (λi=>!s.is i) (s.lo k) (s.hi k-s.lo k)) (s.mv.set k true) l1 s.ft (a0+1)):=⟨Ya.o.setR Yo Yf⟩;have Ud:=ι Yo;have V:(s.mv.set k true).length=s.mv.length:=ν ..;obtain⟨ml,J⟩:∃ml,ml=s.mv.set k true:=⟨_,rfl⟩;have Yq:=ι J;obtain⟨Ux,Yr⟩:∃Ux,Ux=CJ (λi=>!s.is i) (s.lo k) (s.hi k-s.lo k):=⟨_,rfl⟩;have Ug:=ι Yr
     have Zd:Hid (MvF w9 w9 R y q z s Ux ml l1 (s.mvd+1) s.ft (a0+1)):=⟨by rw[Yr,J];exact Zx.o,AB.refl _ _,λi hi=>by
      have h1:=s.ft_on hi
      rw[J,GA HK.1,h1];split <;> rfl,by have h1:=Ul.o;have h2:=Jm.o;omega,by rw[J,V];exact s.ft_le⟩
     rw[<-J]at V;have hmlb:ml.length<=1048576:=Ω
     have HFT:=ι s.ft_le;have HL2:=ι V;have hsm:s.mvd<=1048576:=by have:=Jm.o;omega
     have Jb:Hid (∀(wr:World) (fc ac nq:Nat),MvF w9 wr R y q z s Ux ml l1 (s.mvd+1) fc ac->first (λk=>!at_ ml k) ml.length=fc->XN w R S y q z s k v (.returned (iI 0)) (wr.drewN nq)):=⟨λwr fc ac nq hf hx=>by
      have hy:=Xd.o.od.r1;have Zm:=Xd.o.od.r2;have Y:=HO.st;have Zt:=Y.lohi HK.1;have tw:AB (λi=>i=y\/i=z.bm) w6 (wr.drewN nq):=((((Jt.o.mono (λb _ h=>.inr h)).trans (Jy.o.mono (λb _ h=>.inl h))).trans (Ud.o.mono (λb _ h=>.inl h))).trans (hf.t.mono (λb _ h=>.inl h))).trans (((Gr.refl wr).drewN nq).touch _)
      have Xo:∀b,b=y\/b=z.bm->¬Sj b:=λb hb h=>by
       rcases hb with rfl|rfl
       ·exact Jj.o _ hy h
       ·exact Jj.o _ Zm h
      have hwn:=Xc.o.ww;have Xi:=Za.o;rw[Xu.o.1,Xu.o.2]at Xi;have Zl:=Zu.o;rw[HP.2.2.1]at Zl
      have Zc:∀j,j<sizes s.L->CJ (λi=>!s.is i) (s.lo k) (s.hi k-s.lo k) j=!(s.is j||s.inB k j):=λj hj=>by
       have h1:=Y.inB (k:=k) hj;unfold CJ;cases hb:s.inB k j with
       | true=>
        obtain⟨h2,h3⟩:=h1.1 hb;rw[θ h2,θ Ω];simp
       | false=>
        have h4:¬(s.lo k<=j/\j<s.hi k):=λh=>by rw[h1.2 h]at hb;cases hb
        by_cases h5:s.lo k<=j
        ·rw[φ (show ¬j<s.lo k+(s.hi k-s.lo k)by omega)];simp
        ·rw[φ h5];simp
      have Jz:=MQ.of HO HK.1 HK.2.1 HK.2.2 Xi Zl (D:=λj=>s.is j||(decide (s.lo k<=j)&&decide (j<s.lo k+(s.hi k-s.lo k)))) (λj hj=>by
       have h1:=Y.inB (k:=k) hj;cases hb:s.inB k j with
       | true=>
        obtain⟨h2,h3⟩:=h1.1 hb;rw[θ h2,θ Ω];rfl
       | false=>
        have h4:¬(s.lo k<=j/\j<s.hi k):=λh=>by rw[h1.2 h]at hb;cases hb
        by_cases h5:s.lo k<=j
        ·rw[φ (show ¬j<s.lo k+(s.hi k-s.lo k)by omega),Bool.and_false]
        ·rw[φ h5,Bool.false_and]) Zc Uk.o
      refine⟨rfl,?_,?_,vx,?_,Jz⟩
      ·exact HD.o.t.trans (tw.mono (λb _ h=>by
        rcases h with rfl|rfl
        ·exact .inl hy
        ·exact .inl Zm))
      ·have h1:BG (wr.drewN nq) R y q z s (λi=>!({s with mv:=s.mv.set k true}:Sl).is i) ml l1 fc ac:=(hf.cy.gr ((Gr.refl wr).drewN nq)).cu (λj hj=>by rw[Ug.o,Zc j hj,Sl.is_put HK.1]);have e1:({s with mv:=s.mv.set k true}:Sl).ft=fc:=by rw[<-hx,Yq.o];rfl
       have e2:({s with mv:=s.mv.set k true}:Sl).mvd=s.mvd+1:=Xt.2
       have e3:({s with mv:=s.mv.set k true}:Sl).lf=l1:=by
        show (s.mv.set k true).length-({s with mv:=s.mv.set k true}:Sl).mvd=l1
        rw[e2,ν];have:=Xt.1;have:=Uc.o;omega
       have e4:s.mvd+1-fc=ac:=by have:=hf.sum;omega
       show BG _ R y q z {s with mv:=s.mv.set k true} _ (s.mv.set k true) _ _ _
       rw[e1,e2,e3,e4];rw[Yq.o]at h1;exact h1.same rfl rfl rfl rfl rfl
      ·refine(Jn.o.touch tw (λb hb _ h=>Xo b h hb)).mono (λb hb=>?_);rcases Zw.o b hb with h|h
       ·rcases(Xc.o.s2 b h).1 with h|h
        ·exact .inl h.1
        ·exact .inr h
       ·right;omega⟩
     clear Yj Yf Yo g7 gf gl J Yr V
     go_loopw [] (λwr=>∃fc ac:Nat,Hid (MvF w9 wr R y q z s Ux ml l1 (s.mvd+1) fc ac)) (λwr=>ml.length-LF wr y 12)
     case atStart=>exact⟨s.ft,a0+1,Zd⟩
     case round=>
      obtain⟨fc,ac,HF⟩:=hrel;clear Zd;have q4:=HF.o.cy.rc.cc 10;have q6:=HF.o.cy.rc.cc 12;have q7:=HF.o.cy.rc.cc 13;have qf:=HF.o.cy.rc.free;have ql:=HF.o.cy.rc.lt;by_cases X:fc<ml.length
      ·have Xk:(fc:Int)<(ml.length:Int):=Ω
       have d0:decide ((fc:Int)<(ml.length:Int))=true:=θ Xk;have n0:=BM HF.o.cy.mv (J4 X);have nl:=(A9 HF.o.cy.mv rfl).2;have N:=ι X;clear X;by_cases hb:at_ ml fc=true
       ·rw[hb]at n0;have HB:=ι hb
        have Ub:1<=ac:=by
         have h1:=OG (l:=ml) (m:=fc+1) N.o (λj hj=>by
          rcases ω j fc with h|h
          ·exact HF.o.on j h
          ·obtain rfl:j=fc:=Ω
           exact HB.o)
         have h2:cnt (at_ ml) ml.length=s.mvd+1:=by
          have:=Xt.2;rw[Yq.o];exact this
         have h3:=HF.o.sum;omega
        have hsum:ac<=1048577:=by have:=HF.o.sum;omega
        obtain⟨a1,rfl⟩:∃a1,ac=a1+1:=⟨ac-1,by omega⟩;have ha1:((a1+1:Nat):Int)-1=(a1:Int):=Ω
        have Jd:(fc:Int)+1=((fc+1:Nat):Int):=Ω
        have Ju:=ι Jd;clear hb Jd Ub;go_upto_region 19 with(fail);go_quiet (fail);have Xf:=ι (HF.o.cy.gr ((Gr.refl wr).drewN nq));have Jc:Hid (AB (λi=>i=y) w9 (wr.drewN nq)):=⟨HF.o.t.trans (((Gr.refl wr).drewN nq).touch _)⟩;obtain⟨wq,Jf⟩:∃wq,wq=wr.drewN nq:=⟨_,rfl⟩;rw[<-Jf]at Xf Jc⊢;have g6:=Xf.o.rc.cc 12;have gf:=Xf.o.rc.free;have gl:=Xf.o.rc.lt;clear Jf q4 q6 q7 qf ql n0 nl d0;go_upto_region 21 with(fail);obtain⟨wp,Yk⟩:∃wp,wp=wq.setCell ⟨y,12,none⟩ (.int .i64 ((fc:Int)+1)):=⟨_,rfl⟩;have tp:AB (λi=>i=y) wq wp:=by rw[Yk];exact(AB.refl (λi=>i=y) wq).setCell (a:=⟨y,12,none⟩) (λ_=>rfl) _
        have Xl:=Xf.o.rc.set 12 (iI ((fc:Int)+1));rw[<-Yk]at Xl⊢;rw[Ju.o]at Xl;have Xe:Hid (BG wp R y q z s Ux ml l1 (fc+1) (a1+1)):=⟨Xf.o.setR tp Xl⟩;have Js:=ι tp;have g7:=Xe.o.rc.cc 13;have gf2:=Xe.o.rc.free;have gl2:=Xe.o.rc.lt;clear Yk tp Xl g6 gf gl;go_wp2;go_roundw
        case rel=>
         have tz:AB (λi=>i=y) wp (wp.setCell ⟨y,13,none⟩ (.int .i64 a1)):=(AB.refl (λi=>i=y) wp).setCell (a:=⟨y,13,none⟩) (λ_=>rfl) _;have Jq:=Xe.o.rc.set 13 (iI a1);refine⟨fc+1,a1,⟨⟨Xe.o.setR tz Jq,(Jc.o.trans Js.o).trans tz,λj hj=>?_,by have:=HF.o.sum;omega,N.o⟩⟩⟩;rcases ω j fc with h|h
         ·exact HF.o.on j h
         ·obtain rfl:j=fc:=Ω
          exact HB.o
        case measure=>
         have c1:=HF.o.cy.rc.cc 12;have c2:=(Xe.o.rc.set 13 (iI a1)).cell (j:=12) rfl;unfold LF;rw[c1,c2];have:=N.o;simp[intOf];omega
       ·have Yx:at_ ml fc=false:=by simpa using hb
        rw[Yx]at n0;have HB:=ι Yx;have HX:Hid (first (λk=>!at_ ml k) ml.length=fc):=⟨GG HF.o.le (λi hi=>by rw[HF.o.on i hi];rfl) (λ_=>by rw[HB.o];rfl)⟩;clear hb Yx;go_wp2;go_quiet (fail);go_wp2;go_ret;exact Jb.o _ _ _ _ HF.o HX.o
      ·have Xk:¬(fc:Int)<(ml.length:Int):=Ω
       have d0:decide ((fc:Int)<(ml.length:Int))=false:=φ Xk;have d1:decide (fc<ml.length)=false:=φ X;have HX:Hid (first (λk=>!at_ ml k) ml.length=fc):=⟨GG HF.o.le (λi hi=>by rw[HF.o.on i hi];rfl) (λh=>absurd h X)⟩;clear X Xk;go_wp2;go_quiet (fail);go_wp2;go_ret;exact Jb.o _ _ _ _ HF.o HX.o
end
section
variable {w:World} {R:Nat->Prop} {y q:Nat} {z:B8} {s:Sl} {U:Nat->Bool} {ml:List Bool} {lf ft ah:Nat}
theorem QXi(hC:BG w R y q z s U ml lf ft ah):cQ 112 #[pP y] w (iI ml.length):=by
 have c0:=hC.rc.cc 10;go_enter func112,ntmps112;go_wp2;go_ret
 simp_all
theorem VWU(hC:BG w R y q z s U ml lf ft ah):cQ 160 #[pP y] w (iI lf):=by
 have c0:=hC.rc.cc 11;go_enter func160,ntmps160;go_wp2;go_ret
 simp_all
theorem JiW(hC:BG w R y q z s U ml lf ft ah):cQ 111 #[pP y] w (.bool (decide (lf=0))):=by
 have HL:=(VWU hC);have hd:((lf:Int)==0)=decide (lf=0):=by grind
 go_enter func111,ntmps111;go_wp2_with(go_at_call 160;refine AT (HL) ?_);go_ret
 simp_all
theorem YCd(hC:BG w R y q z s U ml lf ft ah):A4 prog 108 #[pP y] w (iI ((s.cf.to:Int)+(sizes s.L:Nat))):=by
 obtain⟨h1,h2,h3,f,c0,c1,hF⟩:=hC.plan;have x8:=hC.rc.cc 8;have X:=(RD c0);have Z:=(MZ hF);go_enter func108,ntmps108
 go_wp2_with(first
  | (go_at_call 156;refine AT (X) ?_)
  | (go_at_call 131;refine(Z).mono ?_;rintro e w2 ⟨rfl,Y⟩;have HG2:=Y))
 go_ret
 simp_all
end
def ftL(l:List Bool):Nat:=first (λk=>!at_ l k) l.length
def CA(l:List Bool):Nat:=cnt (at_ l) l.length
def CZ(l:List Bool):List Bool:=if ftL l<l.length then l.set (ftL l) true else l
def GV(A k:Nat):Nat->List Bool->List Bool
 | 0,l=>l
 | n+1,l=>if ftL l<k/\A<=CA l-ftL l then GV A k n (CZ l)else l
def JB(A k:Nat)(l:List Bool):List Bool:=if at_ l k then l else (GV A k k l).set k true
theorem QZ(l:List Bool):(CZ l).length=l.length:=by unfold CZ;grind
theorem JSM(A k n:Nat)(l:List Bool):(GV A k n l).length=l.length:=by
 induction n generalizing l with
 | zero=>rfl
 | succ n ih=>unfold GV;grind [QZ]
theorem K0{l:List Bool}{i:Nat}(h:i<ftL l):at_ l i=true:=by
 have:=IE (λk=>!at_ l k) l.length i h
 simp_all
theorem JVx{l:List Bool}{k:Nat}(h:at_ l k=false):ftL l<=k:=by
 grind [ω,K0]
theorem Vhb{l:List Bool}(h:ftL l<l.length):ftL l<ftL (CZ l):=by
 unfold CZ;rw[μ h];rcases ω (ftL l) (ftL (l.set (ftL l) true))with g|g
 ·exact g
 ·exfalso;have h1:(!at_ (l.set (ftL l) true) (ftL (l.set (ftL l) true)))=true:=GP (λk=>!at_ (l.set (ftL l) true) k) _ (show ftL (l.set (ftL l) true)<_ by grind)
  grind [GA,K0]
theorem Zk8{l:List Bool}{k:Nat}(h:at_ l k=false)(hk:ftL l<k):at_ (CZ l) k=false:=by
 unfold CZ
 split
 ·rename_i g;rw[GA g,κ Ω];exact h
 ·exact h
structure SlJ(A:Sl->Vm->Prop):Prop where
 need:∀s v k,BO s v->A s v->k<s.mv.length->at_ s.mv k=false->(k=s.ft\/s.mvd-s.ft<s.cf.ah)->BD v ((s.cf.to+s.lo k:Nat):Int) ((s.cf.to+s.hi k:Nat):Int)=0
 step:∀s v k v',BO s v->A s v->k<s.mv.length->at_ s.mv k=false->(k=s.ft\/s.mvd-s.ft<s.cf.ah)->MQ s k v v'->A {s with mv:=s.mv.set k true} v'
structure JH(w w':World)(R S:Nat->Prop)(y q:Nat)(z:B8)(A:Sl->Vm->Prop)(s':Sl)(v':Vm):Prop where
 t:AB (λb=>R b\/S b) w w'
 cy:Cyc w' R y q z s'
 vm:AD w' (plus S w) q v'
 ok:BO s' v'
 j:A s' v'
def Sl.step(s:Sl):Sl:={s with mv:=CZ s.mv}
def Sl.tch(s:Sl)(a:Int):Sl:={s with mv:=if inF s.L s.cf.to a then JB s.cf.ah ((a-s.cf.to).toNat/s.cf.bk) s.mv else s.mv}
theorem Sl.lf_zero(s:Sl):s.lf=0↔¬s.ft<s.mv.length:=by
 have h1:=OG (l:=s.mv) (m:=s.ft) s.ft_le (λi hi=>s.ft_on hi);have h2:s.mvd<=s.mv.length:=EG _ _;have h3:s.mvd=cnt (at_ s.mv) s.mv.length:=rfl;constructor
 ·intro h hf;have h4:=s.ft_off hf;have h5:=JG hf h4;have h6:cnt (at_ (s.mv.set s.ft true)) s.mv.length<=s.mv.length:=EG _ _;unfold Sl.lf at h;omega
 ·unfold Sl.lf;omega
section
variable {w:World} {R S:Nat->Prop} {y q:Nat} {z:B8} {s:Sl} {v:Vm} {A:Sl->Vm->Prop}
def WQ(w:World)(R S:Nat->Prop)(y q:Nat)(z:B8)(A:Sl->Vm->Prop)(s:Sl)(e:Ending)(w':World):Prop:=
 ∃v',e=.returned (.tuple #[.bool (decide (s.ft<s.mv.length)),iI 0])/\JH w w' R S y q z A s.step v'
theorem XP(hJ:SlJ A)(hC:Cyc w R y q z s)(hO:BO s v)(hA:A s v)(hT:AP w)(htS:¬S 1)(htR:¬R 1)(hV:AD w S q v)(hdis:∀k,R k->¬S k):
  Calls prog 91 #[pP y] w (WQ w R S y q z A s):=by
 have X:=s.lf_zero;have c5:=hC.rc.cc 11;have c6:=hC.rc.cc 12;have cl:=hC.rc.lt;by_cases hf:s.ft<s.mv.length
 ·have hk:=s.ft_off hf;have HM:=(ZS2 hC hO hT htS htR hV hdis hf hk (hJ.need s v s.ft hO hA hf hk (.inl rfl)))
  have HR:Hid (∀w',XN w R S y q z s s.ft v (.returned (iI 0)) w'->WQ w R S y q z A s (.returned (.tuple #[.bool true,iI 0])) w'):=⟨λw' ⟨_,ht,hc,v',hv,hm⟩=>by
   have e:s.step={s with mv:=s.mv.set s.ft true}:=by
    unfold Sl.step CZ;rw[μ (show ftL s.mv<s.mv.length from hf)];rfl
   refine⟨v',by rw[θ hf],ht,?_,hv,?_,?_⟩
   ·rw[e];exact hc
   ·rw[e];exact hm.ok
   ·rw[e];exact hJ.step s v s.ft v' hO hA hf hk (.inl rfl) hm⟩
  have hl0:s.lf≠0:=λh=>X.1 h hf;have d0:((s.lf:Int)==0)=false:=by simp;omega
  go_enter func91,ntmps91;go_wp2_with(go_at_call 137;refine(HM).mono ?_;rintro e w1 ⟨rfl,hm⟩;have Y:=hm);go_ret2;exact HR.o _ ⟨rfl,Y⟩
 ·have HR:Hid (WQ w R S y q z A s (.returned (.tuple #[.bool false,iI 0])) w):=⟨by
   have e:s.step=s:=by
    unfold Sl.step CZ;rw[κ (show ¬ftL s.mv<s.mv.length from hf)]
   refine⟨v,by rw[φ hf],AB.refl _ _,?_,hV.mono (λ_ h=>.inl h),?_,?_⟩
   ·rw[e];exact hC
   ·rw[e];exact hO
   ·rw[e];exact hA⟩
  go_enter func91,ntmps91;go_wp2;go_ret2;exact HR.o
def UU(w:World)(R S:Nat->Prop)(y q:Nat)(z:B8)(A:Sl->Vm->Prop)(s:Sl)(a:Int)(e:Ending)(w':World):Prop:=
 ∃v',e=.returned (iI 0)/\JH w w' R S y q z A (s.tch a) v'
structure KV(w wr:World)(R S:Nat->Prop)(y q:Nat)(z:B8)(A:Sl->Vm->Prop)(s:Sl)(k n:Nat)(l:List Bool):Prop where
 t:AB (λb=>R b\/S b) w wr
 cy:Cyc wr R y q z {s with mv:=l}
 vm:∃Sj v',(∀b,Sj b->(S b/\b<w.heap.size)\/w.heap.size<=b)/\AD wr Sj q v'/\BO {s with mv:=l} v'/\A {s with mv:=l} v'
 len:l.length=s.mv.length
 un:at_ l k=false
 run:GV s.cf.ah k n l=GV s.cf.ah k k s.mv
 n:k-ftL l<=n
theorem KV.step{wr W:World}{k n:Nat}{l:List Bool}(h:KV w wr R S y q z A s k n l)(hJ:SlJ A)(g:Gr wr W)(hT:AP w)(htS:¬S 1)(htR:¬R 1)(hdis:∀k,R k->¬S k)(hlt:∀k,R k->k<w.heap.size)(hk:k<s.mv.length)(h1:ftL l<k)(h2:s.cf.ah<=CA l-ftL l):
  Calls prog 91 #[pP y] W λe w'=>e=.returned (.tuple #[.bool true,iI 0])/\∃n',KV w w' R S y q z A s k n' (CZ l)/\ftL l<ftL (CZ l):=by
 obtain⟨Sj,v',V,hv,ho,ha⟩:=h.vm;have hz:=h.t.size;have hf:ftL l<l.length:=by rw[h.len];omega
 have Y:AP W:=(hT.touch' h.t (λh'=>h'.elim htR htS)).touch' (g.touch (λ_=>False)) (λh=>h);have htl:=hT.lt;refine(XP hJ (h.cy.gr g) ho ha Y (λh'=>?_) htR (hv.gr g) (λb hb h'=>?_)).mono ?_
 ·grind
 ·grind
 ·rintro e w' ⟨J,rfl,X⟩;have hgz:=g.size;have Z:=Vhb hf;obtain⟨n',rfl⟩:∃n',n=n' + 1:=⟨n-1,by have:=h.n;omega⟩;refine⟨by rw[show decide (({s with mv:=l}:Sl).ft<({s with mv:=l}:Sl).mv.length)=true from θ hf],n',⟨?_,X.cy,⟨plus Sj W,J,λb hb=>?_,X.vm,X.ok,X.j⟩,by rw[QZ];exact h.len,Zk8 h.un h1,?_,by have:=h.n;omega⟩,Z⟩
  ·refine(h.t.trans (g.touch _)).trans' X.t (λb hb hs=>?_)
   grind
  ·rcases hb with h|h
   ·exact V b h
   omega
  ·rw[<-h.run]
   show _=(if ftL l<k/\s.cf.ah<=CA l-ftL l then GV s.cf.ah k n' (CZ l)else l)
   simp_all
theorem KV.fin{wr W:World}{k n:Nat}{l:List Bool}{a:Int}(h:KV w wr R S y q z A s k n l)(hJ:SlJ A)(g:Gr wr W)(hT:AP w)(htS:¬S 1)(htR:¬R 1)(hdis:∀k,R k->¬S k)(hlt:∀k,R k->k<w.heap.size)(hk:k<s.mv.length)(hm:at_ s.mv k=false)(hc:¬(ftL l<k/\s.cf.ah<=CA l-ftL l))(he:s.tch a={s with mv:=JB s.cf.ah k s.mv}):
  Calls prog 137 #[pP y,iI k] W λe w'=>e=.returned (iI 0)/\UU w R S y q z A s a (.returned (iI 0)) w':=by
 obtain⟨Sj,v',O,hv,ho,ha⟩:=h.vm;have hz:=h.t.size;have hgz:=g.size;have V:AP W:=(hT.touch' h.t (λh'=>h'.elim htR htS)).touch' (g.touch (λ_=>False)) (λh=>h);have htl:=hT.lt;have X:k<({s with mv:=l}:Sl).mv.length:=by rw[h.len];exact hk
 have hfk:=JVx h.un
 have J:k=({s with mv:=l}:Sl).ft\/({s with mv:=l}:Sl).mvd-({s with mv:=l}:Sl).ft<({s with mv:=l}:Sl).cf.ah:=by
  rcases ω (ftL l) k with h'|h'
  ·right
   show CA l-ftL l<s.cf.ah
   omega
  ·left
   show k=ftL l
   omega
 refine(ZS2 (h.cy.gr g) ho V (λh'=>?_) htR (hv.gr g) (λb hb h'=>?_) X h.un (hJ.need _ _ k ho ha X h.un J)).mono ?_
 ·grind
 ·grind
 ·rintro e w' ⟨rfl,ht,hcy,Z,N,Y⟩
  have er:GV s.cf.ah k n l=l:=by
   cases n with
   | zero=>rfl
   | succ n=>unfold GV;grind
  have et:s.tch a={s with mv:=l.set k true}:=by
   rw[he];unfold JB;rw[κ (by simp_all),<-h.run,er]
  refine⟨rfl,Z,rfl,?_,by simp_all,N.mono (λb hb=>?_),by rw[et];exact Y.ok,by rw[et];exact hJ.step _ _ k Z ho ha X h.un J Y⟩
  ·refine(h.t.trans (g.touch _)).trans' ht (λb hb hs=>?_)
   grind
  ·rcases hb with h|h
   ·rcases O b h with h|h
    ·exact .inl h.1
    ·exact .inr h
   ·right;omega
theorem Z3(hJ:SlJ A)(hC:Cyc w R y q z s)(hO:BO s v)(hA:A s v)(hT:AP w)(htS:¬S 1)(htR:¬R 1)(hV:AD w S q v)(hdis:∀k,R k->¬S k)(a:Int)(ha:a<=9223372036854775807):
  Calls prog 263 #[pP y,iI a] w (UU w R S y q z A s a):=by
 have V:=(ZAe hC.plan hT a ha);have c8:=hC.rc.cc 8;have cl:=hC.rc.lt;have I:Hid (s.tch a=s->UU w R S y q z A s a (.returned (iI 0)) w):=⟨λe=>⟨v,rfl,AB.refl _ _,by rw[e];exact hC,hV.mono (λ_ h=>.inl h),by rw[e];exact hO,by rw[e];exact hA⟩⟩;cases hin:inF s.L s.cf.to a with
 | false=>
  have e:s.tch a=s:=by unfold Sl.tch;rw[hin];rfl
  have HE:=(I.o e);obtain⟨-,-,e3⟩:=L9 hin;rw[e3]at V;obtain⟨bv,Xo⟩:∃bv,bv=G0 s.L s.cf.to s.cf.bk a:=⟨_,rfl⟩;rw[<-Xo]at V;clear hC hO hA hT htS htR hV hdis hJ hin e e3 Xo I;go_enter func263,ntmps263;go_wp2_with(go_at_call 264;refine(V).mono ?_;rintro e w1 ⟨rfl,X⟩;have Y:=X;clear X);go_ret;obtain⟨v',e1,h⟩:=HE;exact⟨v',rfl,h.t.trans (Y.touch _),h.cy.gr Y,h.vm.gr Y,h.ok,h.j⟩
 | true=>
  have J:=hO.st;obtain⟨i,rfl⟩:∃i:Nat,a=((s.cf.to+i:Nat):Int):=⟨(a-s.cf.to).toNat,by have:=(FH.1 hin).1;omega⟩;have Xc:i<sizes s.L:=by have:=(FH.1 hin).2;omega
  obtain⟨k,hk⟩:∃k,k=i/s.cf.bk:=⟨_,rfl⟩;have G:k<s.mv.length:=by rw[hk];exact J.blk Xc
  have Xr:G0 s.L s.cf.to s.cf.bk ((s.cf.to+i:Nat):Int)=(k:Int):=by
   unfold G0;rw[hin,μ rfl,show ((s.cf.to+i:Nat):Int)-(s.cf.to:Int)=(i:Int)by omega,hk];rfl
  rw[Xr,(L3 Xc).2]at V
  have Z:s.tch ((s.cf.to+i:Nat):Int)={s with mv:=JB s.cf.ah k s.mv}:=by
   unfold Sl.tch;rw[hin,μ rfl,show (((s.cf.to+i:Nat):Int)-(s.cf.to:Int)).toNat=i by omega,<-hk]
  have Xp:(k:Int)<(s.mv.length:Int):=Ω
  have hml:s.mv.length<=1048576:=by rw[J.len];have:=LL (n:=sizes s.L) J.bk.1;have:=J.N_le;have:=J.n2;omega
  have Xx:=(FH.1 hin);have O:=Z;obtain⟨a,Xe⟩:∃a:Int,a=((s.cf.to+i:Nat):Int):=⟨_,rfl⟩;rw[<-Xe]at V I Z O⊢;clear hin hk Xr Xx;by_cases hm:at_ s.mv k=true
  ·have e:s.tch a=s:=by
    rw[Z];unfold JB;rw[μ hm]
   have HE:=(I.o e);have HX:=(λ(W:World) (g:Gr w W)=>(hC.gr g).rc.cell (j:=10) rfl);have Xf:=(λ(W:World) (g:Gr w W)=>(hC.gr g).rc.lt);have Xb:=(λ(W:World) (g:Gr w W)=>BM (hC.gr g).mv (J4 G));have Xj:=(λ(W:World) (g:Gr w W)=>(A9 (hC.gr g).mv rfl).2);rw[hm]at Xb;clear hC hO hA hT htS htR hV hdis hJ J Xc Xe Z O e I hm G;go_enter func263,ntmps263;go_wp2_with(go_at_call 264;refine(V).mono ?_;rintro e w1 ⟨rfl,X⟩;have Y:=X;have y4:=HX _ X;have yl:=Xf _ X;have y5:=Xb _ X;have y6:=Xj _ X;clear X);go_ret;obtain⟨v',e1,h⟩:=HE;exact⟨v',rfl,h.t.trans (Y.touch _),h.cy.gr Y,h.vm.gr Y,h.ok,h.j⟩
  ·have hm:at_ s.mv k=false:=by simpa using hm
   have HX:=(λ(W:World) (g:Gr w W)=>(hC.gr g).rc.cell (j:=10) rfl);have Xf:=(λ(W:World) (g:Gr w W)=>(hC.gr g).rc.lt);have Xb:=(λ(W:World) (g:Gr w W)=>BM (hC.gr g).mv (J4 G));have Xj:=(λ(W:World) (g:Gr w W)=>(A9 (hC.gr g).mv rfl).2);rw[hm]at Xb;have Yb:Hid (∀W,Gr w W->KV w W R S y q z A s k k s.mv):=⟨λW g=>⟨g.touch _,hC.gr g,⟨AE S w,v,λb hb=>.inl hb,hV.cut.gr g,hO,hA⟩,rfl,hm,rfl,by omega⟩⟩;have HS:=(ϑ hT (ϑ htS (ϑ htR (ϑ hdis (ϑ hC.od.lt G)))));have HJ:=hJ;have hahb:s.cf.ah<=16:=J.cf.ah;have HM:=hm;clear hC hO hA hT htS htR hV hdis hJ J Xc Xe Z I hm G;go_enter func263,ntmps263;go_upto_region 6 with(go_at_call 264;refine(V).mono ?_;rintro e w1 ⟨rfl,X⟩;have Y:=X;have y4:=HX _ X;have yl:=Xf _ X;have y5:=Xb _ X;have y6:=Xj _ X;clear X);clear y4 yl y5 y6 c8 cl
   go_loopw [] (λwr=>∃(n:Nat) (l:List Bool),Hid (KV w wr R S y q z A s k n l)) (λwr=>k-LF wr y 12)
   case atStart=>exact⟨k,s.mv,⟨Yb.o _ Y⟩⟩
   case round=>
    obtain⟨n,l,HI⟩:=hrel;have q6:wr.cell? ⟨y,12,none⟩=some (iI (ftL l:Nat)):=HI.o.cy.rc.cc 12;have q7:wr.cell? ⟨y,13,none⟩=some (iI (CA l-ftL l:Nat)):=HI.o.cy.rc.cc 13;have qa:=HI.o.cy.rc.cc 7;have ql:=HI.o.cy.rc.lt;obtain⟨fc,Xd⟩:∃fc,fc=ftL l:=⟨_,rfl⟩;obtain⟨ac,Xl⟩:∃ac,ac=CA l-fc:=⟨_,rfl⟩;have Xm:=ι Xd;rw[<-Xd]at q6 q7;rw[<-Xl]at q7;have Xs:Hid (ac=CA l-ftL l):=⟨by rw[Xl,Xd]⟩;clear Xd Xl;by_cases N:fc<k
    ·have Xq:(fc:Int)<(k:Int):=Ω
     have d0:decide ((fc:Int)<(k:Int))=true:=θ Xq;have Xw:decide (fc<k)=true:=θ N;by_cases E:s.cf.ah<=ac
     ·have d1:decide ((s.cf.ah:Int)<=(ac:Int))=true:=θ Ω;have Ya:decide (s.cf.ah<=ac)=true:=θ E;have Xi:Hid (ftL l<k/\s.cf.ah<=CA l-ftL l):=⟨by rw[<-Xm.o];exact N,by rw[<-Xs.o];exact E⟩;clear N E;go_wp2;go_quiet (fail);have Xy:=(HI.o.step HJ ((Gr.refl wr).drewN nq) HS.1 HS.2.1 HS.2.2.1 HS.2.2.2.1 HS.2.2.2.2.1 HS.2.2.2.2.2 Xi.o.1 Xi.o.2);go_wp2_with(go_at_call 91;refine(Xy).mono ?_;rintro e w5 ⟨rfl,n',Xt,Xv⟩;have Xn:=ι Xt;have Xz:=Xv;clear Xt Xv);go_roundw
      case rel=>exact⟨n',CZ l,Xn⟩
      case measure=>
       have c1:wr.cell? ⟨y,12,none⟩=some (iI (ftL l:Nat)):=HI.o.cy.rc.cc 12;have c2:w5.cell? ⟨y,12,none⟩=some (iI (ftL (CZ l):Nat)):=Xn.o.cy.rc.cc 12;have:=Xz;have:=Xi.o.1;unfold LF;rw[c1,c2];simp[intOf];omega
     ·have d1:decide ((s.cf.ah:Int)<=(ac:Int))=false:=φ Ω;have Ya:decide (s.cf.ah<=ac)=false:=φ E;have Xk:Hid (¬(ftL l<k/\s.cf.ah<=CA l-ftL l)):=⟨λh=>E (by rw[Xs.o];exact h.2)⟩;clear N E;go_wp2;have n0:=BM HI.o.cy.mv (J4 (show k<l.length by rw[HI.o.len];exact HS.2.2.2.2.2));rw[HI.o.un]at n0;have n4:=HI.o.cy.rc.cc 10;have nl:=(A9 HI.o.cy.mv rfl).2;have Xu:(k:Int)<(({s with mv:=l}:Sl).mv.length:Int):=by show (k:Int)<(l.length:Int);rw[HI.o.len];exact Xp
      go_quiet (fail);have Xh:=(HI.o.fin HJ ((Gr.refl wr).drewN nq) HS.1 HS.2.1 HS.2.2.1 HS.2.2.2.1 HS.2.2.2.2.1 HS.2.2.2.2.2 HM Xk.o O);go_wp2_with(go_at_call 137;refine(Xh).mono ?_;rintro e w5 ⟨rfl,Xa⟩;have Xg:=Xa;clear Xa);go_ret;exact Xg
    ·have d0:decide ((fc:Int)<(k:Int))=false:=φ Ω;have Xw:decide (fc<k)=false:=φ N;have Xk:Hid (¬(ftL l<k/\s.cf.ah<=CA l-ftL l)):=⟨λh=>N (by rw[Xm.o];exact h.1)⟩;clear N;go_wp2;have n0:=BM HI.o.cy.mv (J4 (show k<l.length by rw[HI.o.len];exact HS.2.2.2.2.2));rw[HI.o.un]at n0;have n4:=HI.o.cy.rc.cc 10;have nl:=(A9 HI.o.cy.mv rfl).2;have Xu:(k:Int)<(({s with mv:=l}:Sl).mv.length:Int):=by show (k:Int)<(l.length:Int);rw[HI.o.len];exact Xp
     go_quiet (fail);have Xh:=(HI.o.fin HJ ((Gr.refl wr).drewN nq) HS.1 HS.2.1 HS.2.2.1 HS.2.2.2.1 HS.2.2.2.2.1 HS.2.2.2.2.2 HM Xk.o O);go_wp2_with(go_at_call 137;refine(Xh).mono ?_;rintro e w5 ⟨rfl,Xa⟩;have Xg:=Xa;clear Xa);go_ret;exact Xg
end
end Go.Proofs.YteihjlcmjecmfaaGreatDoor
