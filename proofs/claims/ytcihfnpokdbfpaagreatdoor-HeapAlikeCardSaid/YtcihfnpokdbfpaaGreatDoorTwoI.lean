/- Lemmas. -/
import Derived.Test.YtcihfnpokdbfpaaGreatDoorTwoH
import Derived.Deep.CutBlock
import Derived.Deep.DeepCutAuto
namespace Go.Proofs.YtcihfnpokdbfpaaGreatDoor
open _root_.Go.Proofs.Tryz
set_option maxHeartbeats 6400000
set_option maxRecDepth 100000
open Go.RowKit Word
variable{room:Int}{l ml:List Bool}{rs:List Int}{F:List Nat}{L:List Ob}{P:List Pc}{B M a ah b cp f fb fr g i j k m n p pg q r st tp x y:Nat}{D U U' U0 V:Nat->Bool}{R S T:Nat->Prop}{A:Option Addr}{v v' v1 v2:Vm}{W w w' wr:World}
def kl(p f k:Nat):List Int:=List.replicate p 1++List.replicate f 2++List.replicate k 3
structure JKh(M:Nat)(v:Vm):Prop where
 ok:AH v
 n:v.n=M
 al:∀a:Nat,a<M->v.ldE a=0
 m1:1<=M
def mpN(v:Vm):Nat->Vm
 | 0=>v
 | k+1=>(mpN v k).mp (k:Nat)
theorem ZqK(h:AH v)(hu:v.pl.used=0)(hl:∀p,p<v.pt.length->v.pt.getD p 0=0)(hr:v.pt.length<=v.pl.rm)(hk:k<=v.pt.length):B8 v (mpN v k) (List.range k):=by
 induction k with
 | zero=>exact B8.refl h
 | succ k ih=>
  have ih:=ih Ω;have hln:=ih.len h
  have hz:(mpN v k).pt.getD k 0=0:=by
   have:=ih.ma k Ω
   grind
  have hE:(mpN v k).mpE (k:Nat)=0:=by
   unfold Vm.mpE;have h1:pgE (mpN v k).pt (k:Nat)=0:=by exact θ Ω
   have h2:=ih.us;rw[List.length_range,hu]at h2;rw[ψ (λh=>h h1),β,ψ (λh=>h hz),ψ];rw[ih.rm];omega
  rw[ψO];exact ih.mp h hE
def stN(v:Vm)(f:Nat->Nat):Nat->Vm
 | 0=>v
 | k+1=>(stN v f k).st (k:Nat) (f k)
structure J4R(v v':Vm)(f:Nat->Nat)(k:Nat):Prop where
 ok:AH v'
 sm:BW v v'
 vl:∀a:Nat,a<k->v'.ldV a=f a
theorem VYd(h:AH v)(hl:∀a:Nat,a<v.n->v.ldE a=0){f:Nat->Nat}(hf:∀a,f a<18446744073709551616)(hk:k<=v.n):J4R v (stN v f k) f k:=by
 induction k with
 | zero=>exact⟨h,BW.refl v,λa ha=>absurd ha (ζ8 _)⟩
 | succ k ih=>
  have ih:=ih Ω;have hE:(stN v f k).ldE (k:Nat)=0:=by rw[ih.sm.ldE];grind
  refine⟨ih.ok.st _ (hf k),ih.sm.trans (BW.st _ _ _),λa ha=>?_⟩
  show ((stN v f k).st (k:Nat) (f k)).ldV a=_
  rw[ih.ok.st_ldV _ hE];by_cases e:(k:Int)=a
  ·grind
  ·rw[ψ e];exact ih.vl a Ω
theorem Qrk(h1:1<=n)(h2:n<=4096){f:Nat->Nat}(hf:∀a,f a<18446744073709551616):∃u:Vm,JKh n u/\∀a:Nat,a<n->u.ldV a=f a:=by
 have Y:AH (Vm.new n 1 n):=AH.new (by unfold FV;simp;omega) (by decide) h1 Ω (Nat.mod_one n);have X:(Vm.new n 1 n).pt.length=n:=by show (List.replicate (n/1) 0).length=n;rw[ζU,Nat.div_one]
 have hm:=ZqK Y rfl (λp hp=>by show (List.replicate (n/1) 0).getD p 0=0;exact PQ _ _) (by rw[X];exact μ _) (k:=n) (by rw[X];exact μ _);have hn:(mpN (Vm.new n 1 n) n).n=n:=hm.n
 have hl:∀a:Nat,a<n->(mpN (Vm.new n 1 n) n).ldE a=0:=λa ha=>by
  rw[hm.ldE Y (show a<(Vm.new n 1 n).n from ha),θ];rw[ξp]
  show a/1<n
  rw[Nat.div_one];exact ha
 have hs:=VYd hm.ok (λa ha=>hl a (by rw[hn]at ha;exact ha)) hf (k:=n) (by rw[hn];exact μ _);exact⟨_,⟨hs.ok,hs.sm.n.trans hn,λa ha=>by rw[hs.sm.ldE];exact hl a ha,h1⟩,hs.vl⟩
theorem R7(hS:DX v rs n){a:Int}(ha:Rch v rs a):
  ∃b p f k:Nat,a=b/\v.rdE a=0/\v.rdH a=⟨p,f,k⟩/\p+f+k<=255/\(b:Int)+(1+p+f+k)<=n/\0<b/\v.osz a=1+(p:Int)+f+k ∧
   ∀m:Nat,m<p->v.ldE (a+1+m)=0/\v.ldV (a+1+m)<=2147483647/\(v.ldV (a+1+m)≠0->Rch v rs (v.ldV (a+1+m):Nat)):=by
 have X:=hS.rd a ha;obtain⟨h0,-,p,f,k,hh,hs⟩:=GP X;obtain⟨b,rfl⟩:∃b:Nat,a=b:=⟨a.toNat,by omega⟩;have ho:v.osz b=1+(p:Int)+f+k:=by unfold Vm.osz;rw[hh];exact θ (DM hs)
 have hin:=hS.rm b ha;refine⟨b,p,f,k,rfl,X,hh,hs,by omega,by omega,ho,λm hm=>?_⟩;have Y:(m:Int)<(v.rdH b).p:=by simp_all
 have Z:=hS.pt b ha m Y;have he:=LI Z;refine⟨he.2.2.1,he.2.1,λh0=>?_⟩;exact ha.step ⟨X,m,Y,Z,by omega,by rw[he.1]⟩
section
variable{A0:Option Addr}{cr:Nat}
end
def pkW(v:Vm)(L:List Ob)(fr a m:Nat):Nat:=if (1<=m/\(m:Int)<=(v.rdH a).p)/\v.ldV ((a:Int)+m)≠0 then (toV L fr (v.ldV ((a:Int)+m):Nat)).toNat else v.ldV ((a:Int)+m)
def JN(v:Vm)(L:List Ob)(fr:Nat):List Ob->List Nat
 | []=>[]
 | o :: r=>(List.range o.2).map (pkW v L fr o.1)++JN v L fr r
theorem Ywe(v:Vm)(L:List Ob)(fr:Nat)(P:List Ob)(hj:j<P.length)(hm:m<P[j].2):(JN v L fr P).getD (AC (P.take j)+m) 0=pkW v L fr P[j].1 m:=by
 induction P generalizing j with
 | nil=>simp at hj
 | cons o r ih=>
  cases j with
  | zero=>
   have hm:m<o.2:=hm;simp only[ψU,AC,ζ6,JN,ψJ]
   grind
  | succ j=>
   have X:j<r.length:=by grind
   have:=ih X (by simp_all);simp only[ξE,AC,JN,ψK];rw[<-this,κ,ζ5 (by simp;omega),κ];congr 2
   grind
theorem UJ(hg:AS n L)(hf:∀o∈L,fr<=o.1)(hj:j<L.length):fr+AC (L.take j)<=L[j].1:=by
 induction j with
 | zero=>simpa[AC]using hf _ (χ hj)
 | succ j ih=>
  have h1:=ih Ω;have h2:=hg.at Ω hj (ξ3 j)
  grind [F4]
theorem Jc5{a:Int}(h1:v'.ldE a=v.ldE a)(h2:v'.ldV a=v.ldV a):v'.rdE a=v.rdE a/\v'.rdH a=v.rdH a:=by
 unfold Vm.rdE Vm.rdH
 simp_all
structure Pkd(v v':Vm)(L:List Ob)(fr k:Nat):Prop where
 ok:AH v'
 sm:BW v v'
 o:∀b:Nat,(b<fr\/fr+k<=b)->v'.ldV b=v.ldV b
 row:∀i,i<k->v'.ldV ((fr+i:Nat):Int)=(JN v L fr L).getD i 0
theorem Pkd.zero(h:AH v)(L:List Ob)(fr:Nat):Pkd v v L fr 0:=⟨h,BW.refl v,λ_ _=>rfl,λ_ h=>absurd h (ζ8 _)⟩
theorem Pkd.step(h:Pkd v v' L fr k)(hl:v.ldE ((fr+k:Nat):Int)=0)(hx:x=(JN v L fr L).getD k 0)(hx2:x<18446744073709551616):Pkd v (v'.st ((fr+k:Nat):Int) x) L fr (k+1):=by
 have Y:v'.ldE ((fr+k:Nat):Int)=0:=by rw[h.sm.ldE];exact hl
 have X:=h.ok.st_ldV x Y;refine⟨h.ok.st _ hx2,h.sm.trans (BW.st _ _ _),λb hb=>?_,λi hi=>?_⟩
 ·rw[X,ψ Ω];exact h.o b Ω
 ·rw[X];by_cases e:i=k
  ·simp_all
  ·rw[ψ Ω];exact h.row i Ω
structure E0(v:Vm)(rs:List Int)(L:List Ob)(fr tp:Nat):Prop where
 ok:AH v
 mks:BO v rs v.n L
 inn:∀o∈L,fr<=o.1/\o.1+o.2<=tp
 fr1:1<=fr
 tpn:tp<=v.n
 lds:∀a:Nat,fr<=a->a<fr+AC L->v.ldE a=0
theorem E0.le(c:E0 v rs L fr tp)(hj:j<L.length):fr+AC (L.take j)<=L[j].1:=UJ c.mks.mkd.good (λo ho=>(c.inn o ho).1) hj
theorem E0.sz(_c:E0 v rs L fr tp)(hj:j<L.length):AC (L.take (j+1))=AC (L.take j)+L[j].2/\AC (L.take j)+L[j].2<=AC L:=by
 exact⟨F4 hj,KZ hj⟩
theorem Pkd.src(c:E0 v rs L fr tp)(hj:j<L.length)(h:Pkd v v' L fr (AC (L.take j)+m)):v'.ldV ((L[j].1+m:Nat):Int)=v.ldV ((L[j].1+m:Nat):Int)/\v'.ldE ((L[j].1+m:Nat):Int)=v.ldE ((L[j].1+m:Nat):Int):=by
 have:=c.le hj;exact⟨h.o _ Ω,h.sm.ldE _⟩
theorem Pkd.hdr(c:E0 v rs L fr tp)(hj:j<L.length)(h:Pkd v v' L fr (AC (L.take j))):v'.rdE (L[j].1:Nat)=0/\v'.rdH (L[j].1:Nat)=v.rdH (L[j].1:Nat):=by
 obtain⟨h1,h2⟩:=Pkd.src (m:=0) c hj h;obtain⟨e1,e2⟩:=Jc5 h2 h1;exact⟨e1.trans (c.mks.mkd.ats _ (χ hj)).2.1,e2⟩
theorem E0.hd(c:E0 v rs L fr tp)(hj:j<L.length):∃p f k:Nat,v.rdH (L[j].1:Nat)=⟨p,f,k⟩/\p+f+k<=255/\L[j].2=1+p+f+k:=by
 obtain⟨h1,h2,h3⟩:=c.mks.mkd.ats _ (χ hj);obtain⟨b,p,f,k,he,-,hh,hs,-,-,hz,-⟩:=R7 c.mks.sound h1
 grind
theorem Q8p(c:E0 v rs L fr tp){a:Int}(ha:Hs L a):∃j,∃hj:j<L.length,(L[j].1:Int)=a/\toV L fr a=((fr+AC (L.take j):Nat):Int):=by
 obtain⟨o,ho,he⟩:=ha;obtain⟨j,hj,rfl⟩:=ζt ho;refine⟨j,hj,he,?_⟩;have h1:=(c.mks.mkd.good.sz _ (χ hj)).1;have:=(UF c.mks.mkd.good (base:=fr) hj (a:=a) Ω Ω).1;omega
theorem Vco(c:E0 v rs L fr tp):toV L fr 0=0:=by
 have h:¬BD L 0<L.length:=λh=>by
  have h1:=JG h;have h2:=(c.inn _ (χ h)).1;have:=c.fr1;omega
 exact(QM h).1
theorem E0.ptr(c:E0 v rs L fr tp)(hj:j<L.length)(h1:1<=m)(h2:(m:Int)<=(v.rdH (L[j].1:Nat)).p):v.ldV ((L[j].1+m:Nat):Int)<=2147483647/\(v.ldV ((L[j].1+m:Nat):Int)≠0->Hs L (v.ldV ((L[j].1+m:Nat):Int):Nat)):=by
 obtain⟨hr,-,-⟩:=c.mks.mkd.ats _ (χ hj);obtain⟨b,p,f,k,he,-,hh,hs,-,-,hz,hp⟩:=R7 c.mks.sound hr;rw[hh]at h2;have:=hp (m-1) (by grind);rw[show ((L[j].1:Nat):Int)+1+((m-1:Nat):Int)=((L[j].1+m:Nat):Int)by omega]at this;exact⟨this.2.1,λh0=>c.mks.all _ (this.2.2 h0)⟩
theorem ZB(v:Vm)(L:List Ob)(fr a m:Nat)(hx:v.ldV ((a+m:Nat):Int)=x):pkW v L fr a m=if (1<=m/\(m:Int)<=(v.rdH a).p)/\x≠0 then (toV L fr (x:Nat)).toNat else x:=by
 unfold pkW
 simp_all
theorem E0.pkW_lt(c:E0 v rs L fr tp)(hj:j<L.length):pkW v L fr L[j].1 m<18446744073709551616:=by
 rw[ZB v L fr _ m rfl];have hx:=c.ok.ldV_lt ((L[j].1+m:Nat):Int)
 split
 ·rename_i h;obtain⟨i,hi,-,e⟩:=Q8p c ((c.ptr hj h.1.1 h.1.2).2 h.2);have:=(c.sz hi).2;have:=GJ c.mks.mkd.good;have:=c.ok.n2;have:=c.tpn;have:=c.inn _ (χ hi);omega
 ·exact hx
section
variable{F:Nat}
def Qp6(w:World)(S:Nat->Prop)(q:Nat)(v:Vm)(L:List Ob)(fr k:Nat)(e:Ending)(w':World):Prop:=
 e=.returned (.tuple #[])/\AB (AD S w) w w'/\∃v'',AE w' (AD S w) q v''/\Pkd v v'' L fr k
theorem VgZ{i:Int}(h:¬(0<=i/\i<p)):BS ⟨p,f,k⟩ i≠1:=by
 unfold BS
 grind
theorem Q2p(hV:AE w S q v')(hF:∀W,AB (AD S w) w W->Fwd W F f n B fr L)(c:E0 v rs L fr tp)(hj:j<L.length)(hp:Pkd v v' L fr (AC (L.take j))):Calls prog 136 #[pP q,pP f,iI (L[j].1:Nat),iI (L[j].2:Nat)] w (Qp6 w S q v L fr (AC (L.take j)+L[j].2)):=by
 obtain⟨p,ff,k,hh,hs,hz⟩:=c.hd hj;have Yt:=c.le hj;have Yo:=(c.inn _ (χ hj)).2;have htpn:=c.tpn;have hn2:=c.ok.n2;have Xl:=hp.hdr c hj;rw[hh]at Xl;obtain⟨A,hA⟩:=ε (L[j].1);obtain⟨Z,hZ⟩:=ε (L[j].2);obtain⟨K,hK⟩:=ε (AC (L.take j))
 have Yy:Hid (toV L fr (A:Nat)=((fr+K:Nat):Int)):=⟨by
  rw[hA,hK];have h1:=(c.mks.mkd.good.sz _ (χ hj)).1;have:=(UF c.mks.mkd.good (base:=fr) hj (a:=((L[j].1:Nat):Int)) Ω Ω).1;rw[this];push_cast
  omega⟩
 have HV:=hV.cut;have HF:=hF;have HC:=ι c;have HJ:=ι hj;have Xd:=ι (ξ hA (ξ hZ hK));have HP:=ι hp;have HH:Hid (v.rdH (A:Nat)=⟨p,ff,k⟩):=⟨by rw[hA];exact hh⟩;have Xi:=ι (λ(W:World) (g:Gr w W)=>Q6 (HV.gr g) (A:Int));rw[<-hA]at Xl;rw[Xl.1,Xl.2]at Xi;have Xr:=ι (λ(W:World) (t:AB (AD S w) w W)=>TB (hF W t) (A:Int));rw[Yy.o]at Xr;obtain⟨te,Yk⟩:=ε (toE L (A:Int));rw[<-Yk]at Xr;have Xo:=ι (λ(W:World) (i:Int)=>S4 hs i W);have Xj:=ι (λW=>Rec.new W 34 [iI p,iI ff,iI k]);simp only[List.toArray]at Xj;unfold AO at Xi Xo;unfold spV at Xi;have Yv:Hid (∀m,m<Z->(JN v L fr L).getD (K+m) 0=pkW v L fr A m):=⟨λm hm=>by rw[hK,hA];exact Ywe v L fr L hj (by rw[<-hZ];exact hm)⟩;rw[<-hA]at Yt Yo;rw[<-hZ]at Yo hz;rw[<-hK]at Yt HP;rw[<-hA,<-hZ,<-hK];clear hV hF c hp hh hA hZ hK Xl Yk hz;go_in;go_upto_region 1 with(go_at_call 95;refine Qb (Xi.o _ (Gr.refl w)) λw1 Yc=>?_);obtain⟨w2,Xw⟩:=ε (w1.alloc (.cells #[.int .i64 p,.int .i64 ff,.int .i64 k] 34));have R2:=Xj.o w1;obtain⟨hq,Yf⟩:=ε w1.heap.size;have Xv:Hid (¬AD S w hq):=⟨λh=>by have:=h.2;have:=Yc.o.size;omega⟩;have Yn:Gr w w2:=by rw[Xw];exact Yc.o.alloc _
 rw[<-Yf]at R2⊢;rw[<-Xw]at R2⊢;have Yl:=ι R2;have Xz:=ι Yn;clear Xw Yf Yc R2 Yn Xj Xi;go_upto_region 2 with(go_at_call 138;refine Qa (Xr.o _ (Xz.o.touch _)) λw3 Xy=>?_;have Yi:=ι (Yl.o.gr Xy);have Yb:=ι (Xz.o.trans Xy);clear Xy);have Yg:=ι (HV.gr Yb.o);have Yp:Hid (AB (AD S w) w w3):=⟨Yb.o.touch _⟩;clear Xz Yl Xr Yb;go_wp2_with(fail)
 go_loopw [31] (λs31 wr=>∃(i:Nat) (vx:Vm),i<=Z/\Hid (AE wr (AD S w) q vx/\Pkd v vx L fr (K+i))/\Hid (AB (AD S w) w wr)/\Hid (Rec wr hq 34 [iI p,iI ff,iI k])/\s31=iI i) (λs31 _=>Z-(intOf s31).toNat)
 case atStart=>exact⟨0,v',ζe _,⟨⟨Yg.o,HP.o⟩⟩,Yp,Yi,rfl⟩
 case round=>
  obtain⟨i,vx,hi,O,Xg,Y,rfl⟩:=hrel;clear Yg Yp Yi;by_cases Xu:i<Z
  ·have hiI:(i:Int)<(Z:Int):=Ω
   have Xc:=ι Xu;have Yh:(A:Int)+(i:Int)=((A+i:Nat):Int):=by push_cast;rfl
   have Yr:((fr+K:Nat):Int)+(i:Int)=((fr+(K+i):Nat):Int):=by push_cast;omega
   have Xe:=Pkd.src (m:=i) HC.o HJ.o (by rw[<-Xd.o.2.2];exact O.o.2);rw[<-Xd.o.1]at Xe;have Xb:=ι (KX O.o.1 ((A+i:Nat):Int));rw[Xe.1,Xe.2]at Xb;obtain⟨el,Yj⟩:=ε (v.ldE ((A+i:Nat):Int));rw[<-Yj]at Xb;have Yz:Hid (v.ldV ((A+i:Nat):Int)<18446744073709551616):=⟨HC.o.ok.ldV_lt _⟩;have Xx:Hid (pkW v L fr A i<18446744073709551616):=⟨by rw[Xd.o.1];exact HC.o.pkW_lt HJ.o⟩
   have Ys:Hid (1<=i->i<=p->v.ldV ((A+i:Nat):Int)<=2147483647/\(v.ldV ((A+i:Nat):Int)≠0->Hs L (v.ldV ((A+i:Nat):Int):Nat))):=⟨λh1 h2=>by
    rw[Xd.o.1]
    exact HC.o.ptr HJ.o h1 (by rw[<-Xd.o.1,HH.o];show (i:Int)<=(p:Int);omega)⟩
   have Yd:Hid (∀(W:World),AB (AD S w) wr W->AE W (AD S w) q vx->∀y:Nat,y=pkW v L fr A i->Calls prog 207 #[pP q,iI (((fr+K:Nat):Int)+(i:Int)),uU y] W λe w'=>∃er,e=.returned (iI er)/\AB (AD S w) W w'/\∃v'',AE w' (AD S w) q v''/\Pkd v v'' L fr (K+(i+1))):=⟨λW t hW y hy=>by
    rw[Yr];refine Qa (NT hW _ (x:=y) (by rw[hy];exact Xx.o)) λw'⟨ht,hv⟩=>?_;refine⟨_,rfl,ht,_,hv,?_⟩
    have:=O.o.2.step (HC.o.lds _ Ω (by
     have h1:=(HC.o.sz HJ.o).2;rw[<-Xd.o.2.1,<-Xd.o.2.2]at h1
     omega)) (x:=y) (by rw[hy];exact(Yv.o i Xc.o).symm) (by rw[hy];exact Xx.o)
    exact this⟩
   have Xs:Hid (∀(W:World) (a:Int),AB (AD S w) wr W->Hs L a->∃y:Nat,toV L fr a=(y:Int)/\Calls prog 138 #[pP f,iI a] W λe w'=>∃er,e=.returned (.tuple #[iI y,iI er])/\Gr W w'):=⟨λW a t ha=>by
    obtain⟨j',hj',-,e⟩:=Q8p HC.o ha;refine⟨fr+AC (L.take j'),e,?_⟩;have:=TB (HF W (Xg.o.trans t)) a;rw[e]at this;refine Qa this λw' hg=>?_
    exact⟨_,rfl,hg⟩⟩
   have Xn:Hid (pkW v L fr A i=if (1<=i/\(i:Int)<=(p:Int))/\v.ldV ((A+i:Nat):Int)≠0 then (toV L fr (v.ldV ((A+i:Nat):Int):Nat)).toNat else v.ldV ((A+i:Nat):Int)):=⟨by rw[ZB v L fr A i rfl,HH.o]⟩;obtain⟨x,hx⟩:=ε (v.ldV ((A+i:Nat):Int));rw[<-hx]at Xb Yz Ys Xn;rw[<-Yh]at Xb;clear Yh Yr Xe hx Xu Yj;have Yu:(i:Int)-1=((i:Int)-1):=rfl;clear Yu;have hib:(i:Int)<=524288:=Ω
   by_cases N:1<=i/\i<=p
   ·have Xp:Hid (BS ⟨p,ff,k⟩ ((i:Int)-1)=1):=⟨S9 Ω (by show (i:Int)-1<(p:Int);omega) (by show (p:Int)<CD ⟨p,ff,k⟩;rw[show CD ⟨p,ff,k⟩=1+(p:Int)+ff+k from θ (DM hs)];omega)⟩;obtain⟨Xt,Xq⟩:=Ys.o N.1 N.2;by_cases Xf:x=0
    ·subst Xf;have HY:Hid (0=pkW v L fr A i):=⟨by rw[Xn.o,ψ (λh=>h.2 rfl)]⟩;clear N Xt Xq
     go_wp2_with(first|(go_at_call 206;refine Qa Xb.o λw4 X=>?_;have y0:=(Y.o.gr X).cell (j:=0) rfl;have y1:=(Y.o.gr X).cell (j:=1) rfl;have y2:=(Y.o.gr X).cell (j:=2) rfl;have yl:=(Y.o.gr X).lt;have Xk:=ι X;clear X)|(go_at_call 148;refine Qa (Xo.o _ _) λw5 Xa=>?_;rw[Xp.o];have J:=ι (Xk.o.trans Xa);clear Xa)|(go_at_call 207;refine(Yd.o _ ((J.o).touch _) (O.o.1.gr (J.o)) 0 HY.o).mono ?_;rintro e w7 ⟨er,rfl,V,v7,G,I⟩;have E:=ι V;have Xh:=ι (ξ G I);clear V G I))
     go_round
     case rel=>exact⟨i+1,v7,Xc.o,Xh,⟨(Xg.o.trans ((J.o).touch _)).trans E.o⟩,⟨(Y.o.gr (J.o)).touch E.o Xv.o⟩,by go_num⟩
     case measure=>have:=Xc.o;simp[intOf];omega
    ·obtain⟨y,hy,-⟩:=Xs.o wr (x:Int) (AB.refl _ _) (Xq Xf);have HY:Hid (y=pkW v L fr A i):=⟨by rw[Xn.o,θ ⟨⟨N.1,by omega⟩,Xf⟩,hy];rfl⟩
     have Yx:Hid (∀(W:World),AB (AD S w) wr W->Calls prog 138 #[pP f,iI (x:Nat)] W λe w'=>∃er,e=.returned (.tuple #[iI y,iI er])/\Gr W w'):=⟨λW t=>by
      obtain⟨y',Za,h⟩:=Xs.o W (x:Int) t (Xq Xf);rw[hy]at Za;obtain rfl:y=y':=Ω
      exact h⟩
     have Yw:Hid (y<18446744073709551616):=⟨by rw[HY.o];exact Xx.o⟩;have hwy:IntKind.u64.wrap (y:Int)=(y:Int):=by have:=Yw.o;rw[ζG];omega
     have hwx:IntKind.i64.wrap (x:Int)=(x:Int):=ζp _ Ω;have d2:((x:Int) !=0)=true:=by simp;exact Xf
     clear N Xt Xq Xf hy
     go_wp2_with(first|(go_at_call 206;refine Qa Xb.o λw4 X=>?_;have y0:=(Y.o.gr X).cell (j:=0) rfl;have y1:=(Y.o.gr X).cell (j:=1) rfl;have y2:=(Y.o.gr X).cell (j:=2) rfl;have yl:=(Y.o.gr X).lt;have Xk:=ι X;clear X)|(go_at_call 148;refine Qa (Xo.o _ _) λw5 Xa=>?_;rw[Xp.o];have J:=ι (Xk.o.trans Xa);clear Xa)|(go_at_call 138;refine(Yx.o _ (J.o.touch _)).mono ?_;rintro e w6 ⟨er6,rfl,Yq⟩;have Xm:=ι (J.o.trans Yq);clear Yq)|(go_at_call 207;refine(Yd.o _ ((Xm.o).touch _) (O.o.1.gr (Xm.o)) y HY.o).mono ?_;rintro e w7 ⟨er,rfl,V,v7,G,I⟩;have E:=ι V;have Xh:=ι (ξ G I);clear V G I))
     go_round
     case rel=>exact⟨i+1,v7,Xc.o,Xh,⟨(Xg.o.trans ((Xm.o).touch _)).trans E.o⟩,⟨(Y.o.gr (Xm.o)).touch E.o Xv.o⟩,by go_num⟩
     case measure=>have:=Xc.o;simp[intOf];omega
   ·obtain⟨kd,Ya⟩:=ε (BS ⟨p,ff,k⟩ ((i:Int)-1));have Xp:Hid (BS ⟨p,ff,k⟩ ((i:Int)-1)=kd):=⟨Ya.symm⟩;have Ye:kd≠1:=by rw[Ya];exact VgZ (λh=>N ⟨by omega,by omega⟩)
    have d1:(kd==1)=false:=by simpa using Ye
    have HY:Hid (x=pkW v L fr A i):=⟨by rw[Xn.o,ψ (λh=>N ⟨h.1.1,by have:=h.1.2;omega⟩)]⟩;clear N Ya Ye
    go_wp2_with(first|(go_at_call 206;refine Qa Xb.o λw4 X=>?_;have y0:=(Y.o.gr X).cell (j:=0) rfl;have y1:=(Y.o.gr X).cell (j:=1) rfl;have y2:=(Y.o.gr X).cell (j:=2) rfl;have yl:=(Y.o.gr X).lt;have Xk:=ι X;clear X)|(go_at_call 148;refine Qa (Xo.o _ _) λw5 Xa=>?_;rw[Xp.o];have J:=ι (Xk.o.trans Xa);clear Xa)|(go_at_call 207;refine(Yd.o _ ((J.o).touch _) (O.o.1.gr (J.o)) x HY.o).mono ?_;rintro e w7 ⟨er,rfl,V,v7,G,I⟩;have E:=ι V;have Xh:=ι (ξ G I);clear V G I))
    go_round
    case rel=>exact⟨i+1,v7,Xc.o,Xh,⟨(Xg.o.trans ((J.o).touch _)).trans E.o⟩,⟨(Y.o.gr (J.o)).touch E.o Xv.o⟩,by go_num⟩
    case measure=>have:=Xc.o;simp[intOf];omega
  ·obtain rfl:i=Z:=Ω
   clear Xu;go_wp2;refine ζk (ζh rfl _ _ _) rfl ?_;exact⟨rfl,Xg.o,vx,O.o.1,O.o.2⟩
end
def KH(n fr tp room:Int):Bool:=decide (1<=fr)&&decide (fr<=tp)&&decide (tp<=n)&&decide (1<=room)&&decide (room<=4096)
theorem UB{n fr tp:Int}:KH n fr tp room=true↔1<=fr/\fr<=tp/\tp<=n/\1<=room/\room<=4096:=by
 unfold KH
 grind
theorem Q7{n fr tp:Int}(h:¬(1<=fr/\fr<=tp/\tp<=n/\1<=room/\room<=4096)):KH n fr tp room=false:=by
 cases hb:KH n fr tp room with
 | false=>rfl
 | true=>exact absurd (UB.1 hb) h
theorem ZdZ(rv:Value)(fr tp room:Int)(w:World):cQ 131 #[.pointer none,rv,iI fr,iI tp,iI room] w (iI 9):=by
 go_enter func131,ntmps131;go_wp2_with(go_at_call 71;refine(Jus _).mono ?_;rintro e w1 ⟨rfl,rfl⟩);go_ret;exact⟨rfl,rfl⟩
theorem JGL(hV:AE w S q v)(hn:v.n≠0)(hR:A7 w r g rs)(fr tp room:Int):cQ 131 #[pP q,pP r,iI fr,iI tp,iI room] w (iI (if KH v.n fr tp room then 0 else 5)):=by
 have X:=(J0 hV);have J:=(Y9 hR);have Y:rs.length≠0:=λe=>hR.ne (ζy e);obtain⟨l,hl⟩:=ε rs.length;obtain⟨n,Z⟩:=ε v.n;rw[<-hl]at J Y;rw[<-Z]at X hn⊢;have d0:((n:Int)==0)=false:=by simp;exact hn
 have d9:((l:Int)==0)=false:=by simp;exact Y
 obtain⟨z,hz⟩:=ε (if KH n fr tp room then 0 else 5:Int)
 rw[<-hz];have HZ:=ι hz;clear hR hl Z hn Y hz;go_enter func131,ntmps131
 go_upto_region 3 with(first|(go_at_call 71;refine X.mono ?_;rintro e w1 ⟨rfl,rfl⟩)|(go_at_call 183;refine J.mono ?_;rintro e w1 ⟨rfl,rfl⟩))
 by_cases h1:fr<1
 ·have HE:=(Q7 (n:=n) (fr:=fr) (tp:=tp) (room:=room) Ω);go_wp2;go_ret;exact⟨AU (by rw[HZ.o,HE];rfl),rfl⟩
 ·by_cases h2:tp<fr
  ·have HE:=(Q7 (n:=n) (fr:=fr) (tp:=tp) (room:=room) Ω);go_wp2;go_ret;exact⟨AU (by rw[HZ.o,HE];rfl),rfl⟩
  ·by_cases h3:(n:Int)<tp
   ·have HE:=(Q7 (n:=n) (fr:=fr) (tp:=tp) (room:=room) Ω);go_wp2_with(go_at_call 71;refine X.mono ?_;rintro e w1 ⟨rfl,rfl⟩);go_ret;exact⟨AU (by rw[HZ.o,HE];rfl),rfl⟩
   ·by_cases h4:room<1
    ·have HE:=(Q7 (n:=n) (fr:=fr) (tp:=tp) (room:=room) Ω);go_wp2_with(go_at_call 71;refine X.mono ?_;rintro e w1 ⟨rfl,rfl⟩);go_ret;exact⟨AU (by rw[HZ.o,HE];rfl),rfl⟩
    ·by_cases h5:4096<room
     ·have HE:=(Q7 (n:=n) (fr:=fr) (tp:=tp) (room:=room) Ω);go_wp2_with(go_at_call 71;refine X.mono ?_;rintro e w1 ⟨rfl,rfl⟩);go_ret;exact⟨AU (by rw[HZ.o,HE];rfl),rfl⟩
     ·have HE:=((UB (n:=n) (fr:=fr) (tp:=tp) (room:=room)).2 Ω);go_wp2_with(go_at_call 71;refine X.mono ?_;rintro e w1 ⟨rfl,rfl⟩);go_ret;exact⟨AU (by rw[HZ.o,HE];rfl),rfl⟩
theorem YsB(o:Ob)(f t:Int):0<=over o f t:=by unfold over;omega
theorem X4(L:List Ob)(f t:Int):0<=BC L f t:=by
 induction L with
 | nil=>exact ψV _
 | cons o r ih=>have:=YsB o f t;show 0<=over o f t+BC r f t;omega
theorem JQq(hg:∀o∈L,1<=o.2/\o.1+o.2<=n):BC L tp n=0↔∀o∈L,o.1+o.2<=tp:=by
 induction L with
 | nil=>exact⟨(λ_ _ h=>by cases h),λ_=>rfl⟩
 | cons o r ih=>
  have h1:=YsB o tp n;have h2:=X4 r tp n;have h3:=hg o (ζu ..);have ih:=ih (λq hq=>hg q (ζB _ hq));have e:BC (o :: r) tp n=over o tp n+BC r tp n:=rfl;constructor
  ·intro h q hq;rcases ξC.1 hq with rfl|hq
   ·have h4:over q tp n=0:=Ω
    unfold over at h4;omega
   grind
  ·intro h;have h4:=ih.2 (λq hq=>h q (ζB _ hq));have h5:=h o (ζu ..);have h6:over o tp n=0:=by unfold over;omega
   omega
theorem XAy{o:Ob}{r:List Ob}(hg:AS n (o :: r))(h:fr<=o.1):∀q∈o :: r,fr<=q.1:=λq hq=>by
 rcases ξC.1 hq with rfl|hq
 ·exact h
 ·have:=(ξo.1 hg.pw).1 q hq;omega
def FI(v:Vm)(rs:List Int)(fr tp:Int)(L:List Ob):Prop:=BO v rs v.n L/\∀o∈L,fr<=(o.1:Int)/\(o.1:Int)+o.2<=tp
def Zt3(w:World)(S:Nat->Prop)(q:Nat)(v:Vm)(rs:List Int)(fr tp:Nat)(e:Ending)(w':World):Prop:=
 AB S w w'/\AE w' (AD S w) q v ∧
  ∃L m p1 b1 p2 b2,FI v rs fr tp L/\e=.returned (.tuple #[pP m,iI 0])/\Ext w' m p1 b1 p2 b2 v.n L/\w.heap.size<=m/\w.heap.size<=p1/\w.heap.size<=b1/\w.heap.size<=p2/\w.heap.size<=b2
theorem Jf0(hV:AE w S q v)(hn:v.n≠0)(hR:A7 w r g rs)(hT:AQ w)(htS:¬S 1)(fr tp room:Nat)(htp:tp<=v.n)(hr1:1<=room)(hr2:room<=4096)(hin:∃L,FI v rs fr tp L):Calls prog 132 #[pP q,pP r,iI fr,iI tp,iI room] w (Zt3 w S q v rs fr tp):=by
 obtain⟨L0,Xd⟩:=hin;have E:=ι Xd;have Yn:=ι Xd.1.sound;clear Xd;have HV:=hV.cut;have HR:=hR;have HT:=hT;have Xl:=htS;have Ym:=hV.ok.n2;have htl:=hT.lt;have HX:=(λW=>P7 v.n Ω Ω W);have Yd:=hR.le;have Xk:=(λ(W:World) (g:Gr w W)=>J0 (HV.gr g));have Yl:=Yd;obtain⟨n,Xi⟩:=ε v.n;have X:=ι Xi;rw[<-Xi]at HX Xk htp Ym;clear hV hR hT htS hn Yd Xi;go_in
 go_upto_region 2 with(first|(go_at_call 71;refine(Xk _ (Gr.refl w)).mono ?_;rintro e w1 ⟨rfl,rfl⟩)|(go_at_call 70;refine(HX _).mono ?_;rintro e w3 ⟨m,p1,b1,p2,b2,rfl,Xo,Xt,Xu,Ye,Xz,Yi,Yb⟩;have Xe:=ι Xo;have O:=ι Xt;have HB:=ι (ξ Xu (ξ Ye (ξ Xz (ξ Yi Yb))));clear Xo Xt Xu Ye Xz Yi Yb))
 have G:Hid (∀i,AT m b1 b2 i->w.heap.size<=i/\i<w3.heap.size):=⟨λi hi=>by
  have h1:=O.o.hm;have h2:=O.o.v1.hb;have h3:=O.o.v2.hb;have h4:=HB.o
  rcases hi with rfl|rfl|rfl <;> omega⟩
 have Xq:=ι (λ(W:World) (g:Gr w3 W)=>Q3 (HR.gr (Xe.o.trans g)))
 have Yf:Hid (∀(W:World) (g1 cp:Nat),Gr w3 W->w3.heap.size<=g1->W.ownsRow 0 3 1 (.slice (some ⟨g1,0,none⟩) rs.length cp) rs.length (zs rs)->Calls prog 72 #[.iface 99 (pP q),.slice (some ⟨g1,0,none⟩) rs.length cp,pP m,iI room] W λe w'=>
   AB (λi=>AT m b1 b2 i\/AD S w i) W w'/\AE w' (AD S w) q v/\∃(L:List Ob) (rv vi:Int),e=.returned (.tuple #[.agg #[iI (L.length:Nat),iI (AC L:Nat),iI rv,iI vi],iI 0])/\Ext w' m p1 b1 p2 b2 n L/\BO v rs n L):=⟨λW g1 cp hg hg1 ho=>by
  have Xn:=Xe.o.trans hg;refine(WO (by rw[X.o];exact Yn.o) (HV.gr Xn) (O.o.gr hg) (Xn.tab HT.lt HT) (λi hi=>?_) (by unfold maxLen;have:=Yl;omega) (λi hi h=>by have:=(G.o i h).1;have:=hi.2;omega) (λh=>by have:=h.2;have:=HB.o;omega) (λh=>by have:=h.2;have:=HB.o;omega) (λh=>Xl h.1) (λh=>by have:=(G.o _ h).1;have:=HT.lt;omega) (room:=(room:Int)) Ω).mono ?_
  ·exact⟨g1,0,rfl,(A9 ho rfl).2,λh=>by have:=(G.o _ h).2;omega,by rw[ζ6];exact BU ho (NH hi)⟩
  ·rintro e w' ⟨ht,hv,L,r',vi,rfl,he,hm,-⟩
   exact⟨ht,hv,L,r',vi,rfl,he,hm⟩⟩
 have Yk:Hid (∀W1 W2,Gr w3 W1->AB (λi=>AT m b1 b2 i\/AD S w i) W1 W2->AB S w W2):=⟨λW1 W2 h1 h2=>((Xe.o.trans h1).touch _).trans' h2 (λb hb h=>h.elim (λh=>by have:=(G.o b h).1;omega) (λh=>h.1))⟩
 go_upto_region 3 with(first|(go_at_call 67;refine(Xq.o _ (Gr.refl w3)).mono ?_;rintro e w4 ⟨g1,c1,rfl,Xm,Yh,Xr⟩;have Yg:=ι Xm;have Yo:=ι Xr;have Yq:=ι Yh;clear Xm Xr Yh)|(go_at_call 72;refine(Yf.o _ g1 c1 Yg.o Yq.o Yo.o).mono ?_;rintro e w5 ⟨Xs,Xw,L,rv,vi,rfl,Xp,Xv⟩;(have Xy:=ι (Yk.o _ _ Yg.o Xs);have Yp:=ι Xw;clear Xs Xw)))
 ·have N:=ι Xv;have HZ:Hid (w.heap.size<=w5.heap.size):=⟨Xy.o.size⟩;obtain⟨w6,Xa⟩:=ε (w5.alloc (.cells #[.int .i64 (L.length:Nat),.int .i64 (AC L:Nat),.int .i64 rv,.int .i64 vi] 141));have I:Gr w5 w6:=by rw[Xa];exact(Gr.refl w5).alloc _
  have J:=ι (Xp.gr I);have Xg:Hid (AB S w w6):=⟨Xy.o.trans (I.touch _)⟩;have Xf:=ι (Yp.o.gr I);have Xj:Hid (AQ w6):=⟨HT.touch' Xg.o Xl⟩;rw[<-Xa];have V:=ι (J0 Xf.o);rw[<-X.o]at V;have Yj:=ι (λ(f:Int) (t:Int) (hf:f<=9223372036854775807) (ht:-9223372036854775808<=t)=>QS1 J.o Xj.o f t hf ht);have Y:=ι (NR J.o Xj.o 0);clear Xa I Xp Xv;cases L with
  | nil=>
   rw[NU (by simp)]at Y;have Z:=ι (Yj.o tp n Ω Ω);rw[show BC [] (tp:Int) (n:Int)=0 from rfl]at Z
   go_wp2_with(first|(go_at_call 197;refine Y.o.mono ?_;rintro e w7 ⟨rfl,rfl⟩)|(go_at_call 71;refine V.o.mono ?_;rintro e w7 ⟨rfl,rfl⟩)|(go_at_call 198;refine Z.o.mono ?_;rintro e w7 ⟨rfl,rfl⟩))
   go_ret2;exact⟨Xg.o,Xf.o,[],m,p1,b1,p2,b2,⟨by rw[<-X.o];exact N.o,λ_ h=>by cases h⟩,BT rfl rfl,by rw[<-X.o];exact J.o,HB.o⟩
  | cons o rr=>
   have Yc:BF (o :: rr) 0=0:=NV (ζe _) (λi _ h=>absurd h (ζ8 _)) (λ_=>by omega);rw[Yc,PT (by simp)]at Y;simp only[ψJ]at Y;have hg:=J.o.good;obtain⟨os,Xh⟩:=ε o.1;obtain⟨oz,Xx⟩:=ε o.2;rw[<-Xh,<-Xx]at Y;have HOS:=ι Xh;have HGD:=ι hg;by_cases Ya:os<fr
   ·have h1:=E.o.1;rw[<-X.o]at h1;have e:=h1.unique N.o;subst e;have:=(E.o.2 o (ζu ..)).1;omega
   ·have e1:decide ((os:Int)<(fr:Int))=false:=ζ Ω;have e9:decide (os<fr)=false:=ζ Ya;have Yr:=ι (XAy hg (fr:=fr) Ω);have Xc:=ι (JQq (tp:=tp) hg.sz);have Z:=ι (Yj.o tp n Ω Ω);obtain⟨ov,Xb⟩:=ε (BC (o :: rr) (tp:Int) (n:Int));have hov0:0<=ov:=by rw[Xb];exact X4 _ _ _
    rw[<-Xb]at Z Xc;clear Ya Xh Xx hg Yc Xb;by_cases hz:ov=0
    ·have e2:decide (0<ov)=false:=ζ Ω;have Ys:=ι hz;clear hz
     go_wp2_with(first|(go_at_call 197;refine Y.o.mono ?_;rintro e w7 ⟨rfl,rfl⟩)|(go_at_call 71;refine V.o.mono ?_;rintro e w7 ⟨rfl,rfl⟩)|(go_at_call 198;refine Z.o.mono ?_;rintro e w7 ⟨rfl,rfl⟩))
     go_ret2;refine⟨Xg.o,Xf.o,o :: rr,m,p1,b1,p2,b2,⟨by rw[<-X.o];exact N.o,λq hq=>?_⟩,BT rfl rfl,by rw[<-X.o];exact J.o,HB.o⟩;have:=Yr.o q hq;have:=Xc.o.1 Ys.o q hq;omega
    ·have h1:=E.o.1;rw[<-X.o]at h1;have e:=h1.unique N.o;subst e;exact absurd (Xc.o.2 λq hq=>by have:=(E.o.2 q hq).2;omega) hz
theorem B8.ldV_all(h:B8 v v' F)(hv:AH v)(ha:a<v.n):v'.ldV a=v.ldV a:=by
 rw[h.vl a ha];by_cases hf:a/v.pl.pg∈F
 ·rw[θ hf];have:v.ldE a=12:=by rw[hv.ldE_of ha,θ (h.un _ hf).2]
  unfold Vm.ldV
  simp_all
 simp_all
theorem YNw(h:AH v)(hI:FI v rs fr tp L)(h1:1<=fr)(h2:fr<=tp)(h3:tp<=v.n)(hE:BN v fr ((fr+AC L:Nat):Int)=0)(hG:B8 v v1 (CA v fr ((fr+AC L:Nat):Int))):E0 v1 rs L fr tp/\fr+AC L<=tp:=by
 have hw:=hG.wider h;have X:∀o∈L,fr<=o.1/\o.1+o.2<=tp:=λo ho=>by have:=hI.2 o ho;omega
 have Y:fr+AC L<=tp:=by
  rcases ζF L.length with h0|h0
  ·have:L=[]:=ζy h0;subst this
   assumption
  ·have hj:L.length-1<L.length:=Ω
   have e1:=UJ hI.1.mkd.good (λo ho=>(X o ho).1) hj;have e2:=X _ (χ hj);have e3:=F4 hj
   grind
 exact⟨⟨hG.ok,by rw[hG.n];exact hw.marks hI.1,X,h1,by rw[hG.n];exact h3,λa ha hb=>XB h Ω hE hG ha hb⟩,Y⟩
def J3(nt pg:Nat):Nat:=(nt+pg-1)/pg
theorem OK{nt:Nat}(hp:1<=pg):nt<=q*pg↔J3 nt pg<=q:=by
 unfold J3;have h1:=ζo (nt+pg-1) pg;have h2:=ζN (nt+pg-1) (show 0<pg by omega);constructor
 ·intro h;have h3:nt+pg-1<(q+1)*pg:=by grind
  have:=(ζC (show 0<pg by omega)).2 h3;omega
 ·intro h;have h3:=ζj pg h
  grind
structure H6(v:Vm)(rs:List Int)(fr tp:Nat)(L:List Ob)(v1 v2:Vm)(j:Nat):Prop where
 gr:B8 v v1 (CA v fr ((fr+AC L:Nat):Int))
 cx:E0 v1 rs L fr tp
 st:Pkd v1 v2 L fr (AC L)
 q1:∀i,i<j->(fr/v.pl.pg+i)*v.pl.pg<tp
 q2:tp<=(fr/v.pl.pg+j)*v.pl.pg
def FM(v v2:Vm)(fr nt j:Nat):Vm:=umN v2 (J3 nt v.pl.pg) (fr/v.pl.pg+j-J3 nt v.pl.pg)
section
theorem YrC(hV:AE w S q v)(f t:Nat)(ht:t<=v.n)(hft:f<=t):Calls prog 125 #[pP q,iI f,iI t] w λe w'=>e=.returned (iI (BN v f t))/\AB S w w'/\J1 w' (plus S w) q v (CA v f t):=by
 rcases δ f t with h|h
 ·grind [TD]
 ·obtain rfl:f=t:=Ω
  obtain⟨e1,e2⟩:=VGS (v:=v) (f:=f) ht;rw[e1,e2];refine Qa (Q7x hV f f ht (μ _)) λw' hg=>?_;refine⟨rfl,hg.touch _,v,?_,(hV.gr hg).mono (λ_ h=>.inl h)⟩;exact⟨hV.ok,rfl,rfl,rfl,rfl,ψm,(λ_ h=>by cases h),(λ_ _=>by simp),λ_ _=>by simp⟩
theorem ZQ(hg:AS n L)(hn:n<=1048576)(base:Nat)(a:Int):0<=toV L base a:=by
 unfold toV
 split
 ·have:=(ZU hg hn a).1;omega
 omega
variable{F:Nat}
theorem XoZ(hF:Fwd w F f n B fr L)(hc:w.cell? ⟨fb,0,none⟩=some (pP f))(a:Int):Calls prog 137 #[iI a,pP fb] w λe w'=>e=.returned (iI (toV L fr a))/\Gr w w':=by
 have HT:=(TB hF a);go_in;go_wp2_with(go_at_call 138;refine Qa (HT) λw1 HG1=>?_);go_ret
 simp_all
theorem ZKw(hF:∀W,AB (λb=>b=g) w W->Fwd W F f n B fr L)(hc:w.cell? ⟨fb,0,none⟩=some (pP f))(hfb:fb≠g)(hR:A7 w r g rs)(h0:toV L fr 0=0):Calls prog 126 #[pP r,.func (.func 137) #[] #[pP fb]] w λe w'=>e=.returned (.tuple #[])/\AB (λb=>b=g) w w'/\A7 w' r g (rs.map (toV L fr)):=by
 refine(ZT (F:=137) (pre:=#[]) (caps:=#[pP fb]) (λi W Y=>AB (λb=>b=g) w W/\Y=(rs.take i).map (toV L fr)) (λ_ _=>by kernel_rfl) hR ⟨AB.refl _ _,rfl⟩ ?_ ?_).mono ?_
 ·grind [JP]
 ·rintro i hi W Y ho ⟨t,e⟩ J hne W0 X;have hf:=hF W0 (t.trans (X.touch _));have N:=A6 hc;have V:=((t.trans (X.touch _)).cell N hfb 0).trans hc;refine Qa (XoZ hf V rs[i]) λW' Z=>?_;have hb:=ZQ hf.good.1 hf.good.2 fr rs[i];refine⟨_,rfl,(J.gr X).gr Z,λW'' t''=>⟨((t.trans (X.touch _)).trans (Z.touch _)).trans t'',?_⟩⟩
  grind [JP,Int.max_eq_left]
 simp_all
end
def AI(L:List Ob)(i:Nat):Nat:=(EO L i).getD 0
theorem YZF(hj:j<L.length)(hm:m<L[j].2):AI L (AC (L.take j)+m)=L[j].1+m:=by
 unfold AI;grind [XEK]
theorem PM(h:i<AC L):∃hj:CC L i<L.length,∃m,m<(L[CC L i]'hj).2/\i=AC (L.take (CC L i))+m/\AI L i=(L[CC L i]'hj).1+m:=by
 obtain⟨hj,m,h1,h2,h3⟩:=VBJ h;exact⟨hj,m,h1,h2,by unfold AI;rw[h3];rfl⟩
theorem Y3d:JQ L (i:Int)=(AI L i:Int):=by
 unfold JQ AI
 grind
theorem NS{base:Nat}(h:i<AC L):CZ L base ((base+i:Nat):Int)=(AI L i:Int)/\GN L base ((base+i:Nat):Int)=0:=by
 have X:inF L base ((base+i:Nat):Int)=true:=F6.2 Ω;unfold CZ GN;rw[X,θ rfl,θ rfl,show ((base+i:Nat):Int)-(base:Int)=(i:Int)by omega]
 grind [Y3d]
theorem YYc(hg:AS n L)(hik:i<k)(hk:k<AC L):AI L i<AI L k:=by
 obtain⟨hj,m,h1,h2,h3⟩:=PM (L:=L) (i:=i) Ω;obtain⟨X,m',h1',h2',Y⟩:=PM hk;rw[h3,Y];rcases ζS (CC L i) (CC L k)with h|h|h
 ·have:=hg.at hj X h;omega
 ·grind
 ·have e1:=F4 (L:=L) X
  have e2:AC (L.take (CC L k+1))<=AC (L.take (CC L i)):=by
   have:L.take (CC L k+1)=(L.take (CC L i)).take (CC L k+1):=by grind
   grind [Zut]
  omega
theorem Z8c(hf:∀o∈L,fr<=o.1/\o.1+o.2<=tp)(hi:i<AC L):fr<=AI L i/\AI L i<tp:=by
 obtain⟨hj,m,h1,h2,h3⟩:=PM hi
 grind
theorem QFu(hg:AS n L)(hi:i<AC L):BD L (AI L i:Nat)=CC L i:=by
 obtain⟨hj,m,h1,h2,h3⟩:=PM hi;obtain⟨j,X,e1,e2,e3,e4,-⟩:=Zeb hg (base:=((0:Nat):Int)) (b:=(i:Int)) (F6.2 Ω);have hs:=(NS (base:=0) hi).1;rw[ζ6]at hs;rw[hs]at e2 e3 e4
 have:CC L i=j:=by
  rcases hg.disj (χ hj) (χ X)with e|e|e
  ·rcases ζS (CC L i) j with h|h|h
   ·have:=hg.at hj X h;omega
   ·exact h
   ·have:=hg.at X hj h;omega
  ·omega
  ·omega
 omega
def cvH(L:List Ob)(tb:Nat)(h:Hdr)(m x:Nat):Nat:=if (1<=m/\(m:Int)<=h.p)/\x≠0 then (toV L tb (x:Nat)).toNat else x
structure Sl where
 n:Nat
 pg:Nat
 cf:Cf
 L:List Ob
 hd:Nat->Hdr
 c:Nat->Nat
 mv:List Bool
variable{s:Sl}
def Sl.mvd(s:Sl):Nat:=cnt (at_ s.mv) s.mv.length
def Sl.ft(s:Sl):Nat:=first (λk=>!at_ s.mv k) s.mv.length
def Sl.lf(s:Sl):Nat:=s.mv.length-s.mvd
def Sl.is(s:Sl)(i:Nat):Bool:=at_ s.mv (i/s.cf.bk)
def Sl.off(s:Sl)(i:Nat):Nat:=i-AC (s.L.take (CC s.L i))
def Sl.hdr(s:Sl)(i:Nat):Hdr:=s.hd (s.L.getD (CC s.L i) (0,0)).1
def Sl.cv(s:Sl)(i x:Nat):Nat:=cvH s.L s.cf.to (s.hdr i) (s.off i) x
def Sl.ptr(s:Sl)(i:Nat):Prop:=1<=s.off i/\(s.off i:Int)<=(s.hdr i).p
structure BJ(s:Sl):Prop where
 pg:1<=s.pg/\s.pg<=256
 n2:s.n<=524288
 cf:IY s.pg s.n s.cf
 good:AS s.n s.L
 inn:∀o∈s.L,s.cf.fr<=o.1/\o.1+o.2<=s.cf.tp
 fit:s.cf.to+AC s.L<=s.cf.lm
 hd:∀j (hj:j<s.L.length),∃p f k:Nat,s.hd s.L[j].1=⟨p,f,k⟩/\p+f+k<=255/\s.L[j].2=1+p+f+k
 len:s.mv.length=nbl (AC s.L) s.cf.bk
theorem BJ.bk(h:BJ s):1<=s.cf.bk/\s.cf.bk<=1024:=by have:=DR h.cf.bk;omega
theorem BJ.N_le(h:BJ s):AC s.L<=s.n:=GJ h.good
theorem V6P(hp:1<=p)(hb:b%p=0)(h:a<b):a/p<b/p:=by
 have h1:=ζo b p;rw[ζC Ω,ζA];omega
theorem XSg(hB:1<=B):n<=upN n B/\upN n B%B=0:=by
 unfold upN;have h1:=ζo (n+B-1) B;have h2:=ζN (n+B-1) (show 0<B by omega)
 grind [ζA,Nat.mul_mod_left]
theorem BJ.apart(h:BJ s)(ha:s.cf.fr<=a/\a<s.cf.tp)(hb:s.cf.to<=b/\b<s.cf.lm):a/s.pg≠b/s.pg:=by
 have hu:=XSg (n:=s.cf.tp) h.pg.1
 have hn:s.cf.lm<=s.cf.fr\/upN s.cf.tp s.pg<=s.cf.to:=by
  have:=h.cf.ap;omega
 rcases hn with e|e
 ·have h1:=V6P h.pg.1 h.cf.al hb.2;have h2:=ζc (c:=s.pg) (ω e ha.1);omega
 ·have h1:=V6P (a:=a) h.pg.1 hu.2 Ω;have h2:=ζc (c:=s.pg) (ω e hb.1);omega
theorem BJ.srcs(h:BJ s)(hi:i<AC s.L):s.cf.fr<=AI s.L i/\AI s.L i<s.cf.tp/\AI s.L i<s.n:=by
 have h1:=Z8c h.inn hi;have h2:=h.cf.tn;omega
theorem BJ.dsts(h:BJ s)(hi:i<AC s.L):s.cf.to+i<s.cf.lm/\s.cf.to+i<s.n:=by
 have h1:=h.fit;have h2:=h.cf.ln;omega
theorem BJ.obj(h:BJ s)(hi:i<AC s.L):∃j,∃hj:j<s.L.length,∃m p f k:Nat,CC s.L i=j/\m<s.L[j].2/\i=AC (s.L.take j)+m/\AI s.L i=s.L[j].1+m/\s.off i=m/\s.hdr i=s.hd s.L[j].1/\s.hd s.L[j].1=⟨p,f,k⟩/\p+f+k<=255/\s.L[j].2=1+p+f+k:=by
 obtain⟨hj,m,h1,h2,h3⟩:=PM hi;obtain⟨p,f,k,e1,e2,e3⟩:=h.hd _ hj;refine⟨CC s.L i,hj,m,p,f,k,rfl,h1,h2,h3,by unfold Sl.off;omega,?_,e1,e2,e3⟩;unfold Sl.hdr
 grind
theorem BJ.blk(h:BJ s)(hi:i<AC s.L):i/s.cf.bk<s.mv.length:=by
 rw[h.len,JU h.bk.1];have:=ζn i s.cf.bk;omega
theorem BJ.mv(h:BJ s)(l:List Bool)(hl:l.length=s.mv.length):BJ {s with mv:=l}:=
 ⟨h.pg,h.n2,h.cf,h.good,h.inn,h.fit,h.hd,hl.trans h.len⟩
theorem Xxa(L:List Ob)(tb:Nat)(a:Int):0<=toV L tb a:=by
 unfold toV
 split
 ·have:=X4 L 0 a;omega
 omega
theorem BJ.to_lt(h:BJ s)(a:Int):toV s.L s.cf.to a<4294967296:=by
 unfold toV
 split
 ·have h1:=ZU h.good (by have:=h.n2;omega) a;have h2:=h.cf.lm;have h3:=h.cf.ln;have h4:=h.n2;omega
 ·omega
theorem BJ.cv_lt(h:BJ s)(i:Nat)(hx:x<18446744073709551616):s.cv i x<18446744073709551616:=by
 unfold Sl.cv cvH
 split
 ·have:=h.to_lt (x:Nat);omega
 ·exact hx
structure EV(s:Sl)(D U:Nat->Bool)(v:Vm):Prop where
 ok:AH v
 n:v.n=s.n
 pg:v.pl.pg=s.pg
 src:∀i,i<AC s.L->U i=true->v.ldE (AI s.L i:Nat)=0/\s.cv i (v.ldV (AI s.L i:Nat))=s.c i/\(s.ptr i->v.ldV (AI s.L i:Nat)<=2147483647)
 dst:∀i,i<AC s.L->D i=true->v.ldE ((s.cf.to+i:Nat):Int)=0/\v.ldV ((s.cf.to+i:Nat):Int)=s.c i
structure BV(s:Sl)(v:Vm):Prop where
 st:BJ s
 mid:EV s s.is (λi=>!s.is i) v
def Sl.inB(s:Sl)(k i:Nat):Bool:=i/s.cf.bk==k
def Sl.lo(s:Sl)(k:Nat):Nat:=k*s.cf.bk
def Sl.hi(s:Sl)(k:Nat):Nat:=min (k*s.cf.bk+s.cf.bk) (AC s.L)
theorem BJ.inB(h:BJ s)(hi:i<AC s.L):s.inB k i=true↔s.lo k<=i/\i<s.hi k:=by
 unfold Sl.inB Sl.lo Sl.hi;have hb:=h.bk.1;have h1:=ζo i s.cf.bk;have h2:=ζN i (show 0<s.cf.bk by omega);rw[ξk]
 grind [ζA,Nat.div_eq_of_lt_le,ξd]
theorem BJ.lohi(h:BJ s)(hk:k<s.mv.length):s.lo k<s.hi k/\s.hi k<=s.lo k+s.cf.bk/\s.hi k<=AC s.L:=by
 rw[h.len,JU h.bk.1]at hk;have:=h.bk.1;unfold Sl.lo Sl.hi;omega
theorem Sl.is_put(hk:k<s.mv.length)(i:Nat):({s with mv:=s.mv.set k true}:Sl).is i=(s.is i||s.inB k i):=by
 unfold Sl.is Sl.inB;rw[GU hk]
 grind
theorem YQS(hi:i<n):cnt (λj=>j==i) n=1:=by
 have e:cnt (λj=>j==i) n=cnt (λj=>decide (i<=j/\j<i+1)) n:=C2 λj _=>by
  grind
 rw[e,U9 i (i+1) n Ω Ω];omega
theorem XR{f:Nat->Bool}(hi:i<n)(h:f i=false):cnt (λj=>f j||j==i) n=cnt f n+1:=by
 rw[NI (λj=>by grind) n,YQS hi]
theorem V7q{f:Nat->Bool}(hi:i<n)(h:f i=true):cnt (λj=>f j&&!(j==i)) n+1=cnt f n:=by
 rw[<-XR (f:=λj=>f j&&!(j==i)) hi (by simp)];refine C2 λj _=>?_;by_cases e:j=i
 ·simp_all
 grind
def Sl.on(s:Sl)(U:Nat->Bool)(q:Nat):Nat:=cnt (λi=>U i&&(AI s.L i/s.pg==q)) (AC s.L)
def but(U:Nat->Bool)(i:Nat):Nat->Bool:=λj=>U j&&!(j==i)
theorem VR(h:j≠i):but U i j=U j:=by
 have e':(j==i)=false:=ζl.2 h;simp[but,e']
theorem J3l:but U i i=false:=by simp[but]
theorem Sl.on_but(hi:i<AC s.L)(h:U i=true):s.on (but U i) q+(if AI s.L i/s.pg=q then 1 else 0)=s.on U q:=by
 unfold Sl.on but;by_cases e:AI s.L i/s.pg=q
 ·rw[θ e,<-V7q (f:=λi=>U i&&(AI s.L i/s.pg==q)) hi (by simp[h,e])]
  grind
 grind
theorem Sl.on_le(s:Sl)(U:Nat->Bool)(q:Nat):s.on U q<=AC s.L:=EY _ _
theorem Sl.on_zero(h:s.on U q=0)(hj:j<AC s.L)(hU:U j=true):AI s.L j/s.pg≠q:=by
 have:=XK h j hj
 simp_all
theorem Sl.on_pos(hj:i<AC s.L)(hU:U i=true)(he:AI s.L i/s.pg=q):1<=s.on U q:=by
 rcases ζF (s.on U q)with h|h
 ·exact absurd he (Sl.on_zero h hj hU)
 ·exact h
theorem Sl.on_iff:s.on U q=0↔∀j,j<AC s.L->U j=true->AI s.L j/s.pg≠q:=
 ⟨λh _ hj hU=>Sl.on_zero h hj hU,λh=>IM λj hj=>by
  simp_all⟩
theorem Sl.on_congr(h:∀j,j<AC s.L->U j=V j):s.on U q=s.on V q:=C2 λj hj=>by rw[h j hj]
theorem EV.congr{D':Nat->Bool}(h:EV s D U v)(hD:∀i,i<AC s.L->D' i=true->D i=true)(hU:∀i,i<AC s.L->U' i=true->U i=true):EV s D' U' v:=
 ⟨h.ok,h.n,h.pg,λi hi hu=>h.src i hi (hU i hi hu),λi hi hd=>h.dst i hi (hD i hi hd)⟩
theorem EV.mvd(h:EV s D U v)(l:List Bool):EV {s with mv:=l} D U v:=⟨h.ok,h.n,h.pg,h.src,h.dst⟩
theorem EV.grow(hs:BJ s)(h:EV s D U v)(g:B8 v v1 F):EV s D U v1:=by
 refine⟨g.ok,g.n.trans h.n,g.pg.trans h.pg,λi hi hu=>?_,λi hi hd=>?_⟩
 ·obtain⟨h1,h2,h3⟩:=h.src i hi hu;have hl:=(hs.srcs hi).2.2;rw[<-h.n]at hl;rw[g.ldV_all h.ok hl,g.ldE h.ok hl]
  simp_all
 ·obtain⟨h1,h2⟩:=h.dst i hi hd;have hl:=(hs.dsts hi).2;rw[<-h.n]at hl;rw[g.ldV_all h.ok hl,g.ldE h.ok hl];omega
theorem EV.put(hs:BJ s)(h:EV s D U v)(hi:i<AC s.L)(hl:v.ldE ((s.cf.to+i:Nat):Int)=0)(hx:x=s.c i)(hx2:x<18446744073709551616):EV s (λj=>D j||j==i) U (v.st ((s.cf.to+i:Nat):Int) x):=by
 have X:=h.ok.st_ldV x hl;refine⟨h.ok.st _ hx2,(BW.st v _ x).n.trans h.n,(BW.st v _ x).pg.trans h.pg,λj hj hu=>?_,λj hj hd=>?_⟩
 ·obtain⟨h1,h2,h3⟩:=h.src j hj hu;have ha:(((s.cf.to+i:Nat):Int)≠(AI s.L j:Nat)):=λe=>hs.apart ⟨(hs.srcs hj).1,(hs.srcs hj).2.1⟩ ⟨ζT _ i,(hs.dsts hi).1⟩ (by grind);rw[GO,X,ψ ha]
  simp_all
 ·rw[GO,X];by_cases e:i=j
  ·simp_all
  ·rw[ψ Ω];exact h.dst j hj (by grind)
structure GE(s:Sl)(D U:Nat->Bool)(lo hi:Nat)(v1 v':Vm)(m:Nat):Prop where
 mid:EV s (λj=>D j||(decide (lo<=j)&&decide (j<lo+m))) U v'
 sm:BW v1 v'
 oth:∀a:Nat,(a<s.cf.to+lo\/s.cf.to+hi<=a)->v'.ldV a=v1.ldV a
theorem GE.zero(h:EV s D U v)(lo hi:Nat):GE s D U lo hi v v 0:=
 ⟨h.congr (λi _ hd=>by
  grind) (λ_ _ h=>h),BW.refl v,λ_ _=>rfl⟩
theorem GE.step(hs:BJ s){lo hi:Nat}(h:GE s D U lo hi v1 v' m)(hm:lo+m<hi)(hhi:hi<=AC s.L)(hl:v1.ldE ((s.cf.to+(lo+m):Nat):Int)=0)(hx:x=s.c (lo+m))(hx2:x<18446744073709551616):
  GE s D U lo hi v1 (v'.st ((s.cf.to+(lo+m):Nat):Int) x) (m+1):=by
 have X:v'.ldE ((s.cf.to+(lo+m):Nat):Int)=0:=by rw[h.sm.ldE];exact hl
 refine⟨(h.mid.put hs Ω X hx hx2).congr (λi _ hd=>?_) (λ_ _ h=>h),h.sm.trans (BW.st _ _ _),λa ha=>?_⟩
 ·grind
 ·rw[h.mid.ok.st_ldV x X,ψ Ω];exact h.oth a ha
structure F2(s:Sl)(D U0 U:Nat->Bool)(v1 v':Vm):Prop where
 mid:EV s D U v'
 le:∀i,i<AC s.L->U i=true->U0 i=true
 rm:v'.pl.rm=v1.pl.rm
 map:∀p,p<v1.pt.length->(v'.pt.getD p 0≠0↔v1.pt.getD p 0≠0/\¬ ∃i,i<AC s.L/\U0 i=true/\U i=false/\AI s.L i/s.pg=p/\s.on U p=0)
 oth:∀a:Nat,a<s.n->(∀i,i<AC s.L->AI s.L i/s.pg≠a/s.pg)->v'.ldV a=v1.ldV a/\v'.ldE a=v1.ldE a
theorem F2.zero(h:EV s D U v):F2 s D U U v v:=
 ⟨h,λ_ _ h=>h,rfl,λp _=>⟨λh=>⟨h,λ⟨i,_,h1,h2,_⟩=>by simp_all⟩,λh=>h.1⟩,λ_ _ _=>⟨rfl,rfl⟩⟩
theorem F2.keep(h:F2 s D U0 U v1 v')(hi:i<AC s.L)(hU:U i=true)(hz:s.on (but U i) (AI s.L i/s.pg)≠0):F2 s D U0 (but U i) v1 v':=by
 have X:∀j,but U i j=true->U j=true:=λj h=>by exact(ξa.1 h).1
 refine⟨h.mid.congr (λ_ _ h=>h) (λj _ hj=>X j hj),λj hj hu=>h.le j hj (X j hu),h.rm,λp hp=>(h.map p hp).trans (and_congr_right λ_=>not_congr ?_),h.oth⟩;have Y:=λq=>Sl.on_but (s:=s) (U:=U) (i:=i) (q:=q) hi hU;constructor
 ·grind
 ·rintro⟨j,hj,h1,h2,h3,h4⟩;have Z:AI s.L i/s.pg≠p:=λe=>by simp_all
  have J:j≠i:=λe=>by simp_all
  have:=Y p;rw[ψ Z]at this;exact⟨j,hj,h1,by rw[VR J]at h2;exact h2,h3,by omega⟩
theorem ZdX(h:frE v.pt (p:Int)=0)(k:Nat):(v.um (p:Int)).pt.getD k 0≠0↔v.pt.getD k 0≠0/\k≠p:=by
 unfold Vm.um
 grind
theorem F2.drop(hs:BJ s)(h:F2 s D U0 U v1 v')(hi:i<AC s.L)(hU:U i=true)(hz:s.on (but U i) (AI s.L i/s.pg)=0):F2 s D U0 (but U i) v1 (v'.um ((AI s.L i/s.pg:Nat):Int)):=by
 have O:∀j,but U i j=true->U j=true:=λj h=>by exact(ξa.1 h).1
 have hk:=h.mid.ok;obtain⟨m1,m2,m3⟩:=h.mid.src i hi hU;have N:=hs.srcs hi
 have Z:frE v'.pt ((AI s.L i/s.pg:Nat):Int)=0:=by
  unfold Vm.ldE at m1;rw[θ ⟨by omega,by omega⟩,h.mid.pg]at m1;exact m1
 have J:∀a:Nat,a<s.n->a/s.pg≠AI s.L i/s.pg->(v'.um ((AI s.L i/s.pg:Nat):Int)).ldE a=v'.ldE a/\(v'.um ((AI s.L i/s.pg:Nat):Int)).ldV a=v'.ldV a:=λa ha hne=>by
  have V:a/v'.pl.pg≠AI s.L i/s.pg:=by rw[h.mid.pg];exact hne
  exact⟨by rw[hk.um_ldE Z (by rw[h.mid.n];exact ha),ψ V],hk.um_ldV Z (by rw[h.mid.n];exact ha) V⟩
 have Y:(v'.um ((AI s.L i/s.pg:Nat):Int)).n=v'.n/\(v'.um ((AI s.L i/s.pg:Nat):Int)).pl.pg=v'.pl.pg/\(v'.um ((AI s.L i/s.pg:Nat):Int)).pl.rm=v'.pl.rm:=by
  unfold Vm.um
  split <;> exact⟨rfl,rfl,rfl⟩
 have I:=λq=>Sl.on_but (s:=s) (U:=U) (i:=i) (q:=q) hi hU;refine⟨⟨hk.um _,Y.1.trans h.mid.n,Y.2.1.trans h.mid.pg,λj hj hu=>?_,λj hj hd=>?_⟩,λj hj hu=>h.le j hj (O j hu),Y.2.2.trans h.rm,λp hp=>?_,λa ha hf=>?_⟩
 ·obtain⟨e1,e2⟩:=J (AI s.L j) (hs.srcs hj).2.2 (Sl.on_zero hz hj hu);rw[e1,e2];exact h.mid.src j hj (O j hu)
 ·obtain⟨e1,e2⟩:=J (s.cf.to+j) (hs.dsts hj).2 (λe=>hs.apart ⟨N.1,N.2.1⟩ ⟨ζT _ j,(hs.dsts hj).1⟩ e.symm);rw[e1,e2];exact h.mid.dst j hj hd
 ·rw[ZdX Z,h.map p hp,and_assoc];refine and_congr_right λ_=>?_;have:=I p;constructor
  ·rintro⟨g1,g2⟩ ⟨j,hj,h1,h2,h3,h4⟩;by_cases X:j=i
   ·subst X;exact g2 h3.symm
   ·rw[VR X]at h2;rw[ψ (λe=>g2 e.symm)]at this;exact g1 ⟨j,hj,h1,h2,h3,by omega⟩
  ·intro g;refine⟨λ⟨j,hj,h1,h2,h3,h4⟩=>?_,λe=>?_⟩
   ·have X:j≠i:=λe=>by subst e;rw[hU]at h2;cases h2
    exact g ⟨j,hj,h1,by rw[VR X];exact h2,h3,by omega⟩
   ·subst e;exact g ⟨i,hi,h.le i hi hU,J3l,rfl,hz⟩
 ·obtain⟨e1,e2⟩:=J a ha (λe=>hf i hi e.symm);rw[e1,e2];exact h.oth a ha hf
structure OH(s:Sl)(k:Nat)(v v':Vm):Prop where
 ok:BV {s with mv:=s.mv.set k true} v'
 rm:v'.pl.rm=v.pl.rm
 map:∀p,p<v.pt.length->(v'.pt.getD p 0≠0↔(v.pt.getD p 0≠0\/((s.cf.to+s.lo k)/s.pg<=p/\p<=(s.cf.to+s.hi k-1)/s.pg))/\¬ ∃i,i<AC s.L/\s.inB k i=true/\AI s.L i/s.pg=p/\∀j,j<AC s.L->AI s.L j/s.pg=p->s.is j=true\/s.inB k j=true)
 oth:∀a:Nat,a<s.n->(a<s.cf.to+s.lo k\/s.cf.to+s.hi k<=a)->(∀i,i<AC s.L->AI s.L i/s.pg≠a/s.pg)->v'.ldV a=v.ldV a/\(v.ldE a=0->v'.ldE a=0)
theorem VWG(_:AH v){t:Nat}(hft:f<t)(_ht:t<=v.n):p∈CB v ((f:Int)/(v.pl.pg:Int)).toNat (C5 v f t)↔(f/v.pl.pg<=p/\p<=(t-1)/v.pl.pg)/\v.pt.getD p 0=0:=by
 have e1:((f:Int)/(v.pl.pg:Int)).toNat=f/v.pl.pg:=by grind
 have e2:((t:Int)-1)/(v.pl.pg:Int)=(((t-1)/v.pl.pg:Nat):Int):=by grind
 have h1:f/v.pl.pg<=(t-1)/v.pl.pg:=ζc Ω;rw[QO,e1];unfold C5;omega
theorem OH.of(h:BV s v)(hk:k<s.mv.length)(_hm:at_ s.mv k=false)(hE:BN v ((s.cf.to+s.lo k:Nat):Int) ((s.cf.to+s.hi k:Nat):Int)=0)(hG:B8 v v1 (CA v ((s.cf.to+s.lo k:Nat):Int) ((s.cf.to+s.hi k:Nat):Int)))
  (hC:GE s s.is (λi=>!s.is i) (s.lo k) (s.hi k) v1 v2 (s.hi k-s.lo k))  (hD:∀i,i<AC s.L->D i=(s.is i||s.inB k i)) (hU:∀i,i<AC s.L->U i=!(s.is i||s.inB k i)) (hR:F2 s D (λi=>!s.is i) U v2 v'):OH s k v v':=by
 have hs:=h.st;have hlh:=hs.lohi hk;have X:s.cf.to+s.hi k<=v.n:=by have:=hs.fit;have:=hs.cf.ln;rw[h.mid.n];omega
 have Y:s.cf.to+s.lo k<s.cf.to+s.hi k:=Ω
 have hF:∀p,p∈CA v ((s.cf.to+s.lo k:Nat):Int) ((s.cf.to+s.hi k:Nat):Int)↔((s.cf.to+s.lo k)/s.pg<=p/\p<=(s.cf.to+s.hi k-1)/s.pg)/\v.pt.getD p 0=0:=λp=>by
  unfold CA;rw[θ ⟨hE,by omega⟩,VWG h.mid.ok Y X,h.mid.pg]
 have hl2:v2.pt.length=v.pt.length:=by rw[hC.sm.pt,hG.len h.mid.ok]
 refine⟨⟨hs.mv _ (ζa ..),(hR.mid.mvd _).congr (λi hi hd=>?_) (λi hi hu=>?_)⟩,hR.rm.trans (hC.sm.rm.trans hG.rm),λp hp=>?_,λa ha hab hsr=>?_⟩
 ·rw[hD i hi,<-Sl.is_put hk];exact hd
 ·rw[hU i hi,<-Sl.is_put hk];exact hu
 ·rw[hR.map p Ω,hC.sm.pt,hG.ma p hp,hF]
  have e:(v.pt.getD p 0≠0\/((s.cf.to+s.lo k)/s.pg<=p/\p<=(s.cf.to+s.hi k-1)/s.pg)/\v.pt.getD p 0=0)↔(v.pt.getD p 0≠0\/((s.cf.to+s.lo k)/s.pg<=p/\p<=(s.cf.to+s.hi k-1)/s.pg)):=by
   constructor
   ·rintro(a|⟨a,-⟩)
    ·exact .inl a
    ·exact .inr a
   ·rintro(a|a)
    ·exact .inl a
    ·by_cases h0:v.pt.getD p 0=0
     ·exact .inr ⟨a,h0⟩
     ·exact .inl h0
  rw[e];refine and_congr_right λ_=>not_congr ?_;constructor
  ·rintro⟨i,hi,h1,h2,h3,h4⟩;refine⟨i,hi,?_,h3,λj hj he=>?_⟩
   ·cases e1:s.is i <;> cases e2:s.inB k i <;> simp_all
   ·have:=mt (Sl.on_zero h4 hj) (λg=>g he);cases e1:s.is j <;> cases e2:s.inB k j <;> simp_all
  ·rintro⟨i,hi,h1,h3,h4⟩;refine⟨i,hi,?_,by rw[hU i hi,h1];simp,h3,Sl.on_iff.2 λj hj hu he=>?_⟩
   ·have:i/s.cf.bk=k:=by simpa[Sl.inB]using h1
    unfold Sl.is;rw[this,_hm];rfl
   ·rw[hU j hj]at hu;rcases h4 j hj he with h|h <;> simp[h]at hu
 ·obtain⟨e1,e2⟩:=hR.oth a ha hsr;have e3:=hC.oth a hab;have e4:=hG.ldV_all h.mid.ok (a:=a) (by rw[h.mid.n];exact ha);have e5:=hG.ldE h.mid.ok (a:=a) (by rw[h.mid.n];exact ha);rw[e1,e3,e4,e2,hC.sm.ldE,e5];exact⟨rfl,λh=>by rw[h];split <;> rfl⟩
open Go.Shelf
structure CH where
 F:Nat
 G:Nat
 p:Nat
 m:Nat
 p1:Nat
 b1:Nat
 p2:Nat
 b2:Nat
 bs:Nat
 bm:Nat
 cm:Nat
 bw:Nat
variable{z:CH}
def bls(l:List Bool):List Value:=l.map Value.bool
theorem LP(h:i<l.length):(bls l)[i]?=some (.bool (at_ l i)):=by simp[bls,at_,h]
theorem QPU(l:List Bool)(i:Nat)(b:Bool):(bls l).set i (.bool b)=bls (l.set i b):=by simp[bls]
def Qa0(q:Nat)(c:Cf)(z:CH)(nb lf ft ah:Nat):List Value:=
 [pP q,iI c.fr,iI c.tp,iI c.to,iI c.lm,iI c.bk,iI c.st,iI c.ah,
  pP z.p,pP z.m,.slice (some ⟨z.bm,0,none⟩) nb z.cm,iI lf,iI ft,iI ah,.map (some z.bw),.map (some z.bs)]
def QS(w:World)(b:Nat)(s:Sl):Prop:=∃n f,BH prog 3 w b n f/\∀j (h:j<s.L.length),f (s.L[j].1:Nat)=some (AO (s.hd s.L[j].1))
def LU(w:World)(b:Nat)(s:Sl)(U:Nat->Bool):Prop:=∃n f,BH prog 3 w b n f/\n+cnt U (AC s.L)<=2*AC s.L/\∀q:Nat,(f (q:Nat)).getD (iI 0)=iI (s.on U q:Nat)
theorem QS.touch(h:QS w b s)(t:AB T w w')(hT:¬T b):QS w' b s:=by
 obtain⟨n,f,h1,h2⟩:=h;exact⟨n,f,h1.touch t hT,h2⟩
theorem LU.touch(h:LU w b s U)(t:AB T w w')(hT:¬T b):LU w' b s U:=by
 obtain⟨n,f,h1,h2⟩:=h;exact⟨n,f,h1.touch t hT,h2⟩
structure SB(w:World)(R:Nat->Prop)(y:Nat)(z:CH):Prop where
 o1:z.m<z.F
 o2:z.p1<z.F
 o3:z.b1<z.F
 o4:z.p2<z.F
 o5:z.b2<z.F
 o6:z.F<=z.G
 o7:z.G<=w.heap.size
 g1:z.G<=y
 g2:z.G<=z.bm
 g3:z.G<=z.bw
 g4:z.G<=z.bs
 n1:y≠z.bm
 n2:y≠z.bw
 n3:y≠z.bs
 n4:z.bm≠z.bw
 n5:z.bm≠z.bs
 n6:z.bw≠z.bs
 r1:R y
 r2:R z.bm
 r3:R z.bw
 r4:R z.bs
 r5:R z.m
 r6:R z.p1
 r7:R z.b1
 r8:R z.p2
 r9:R z.b2
 rr:∀k,z.F<=k->k<z.G->R k
 lt:∀k,R k->k<w.heap.size
structure BL(w:World)(R:Nat->Prop)(y q:Nat)(z:CH)(s:Sl)(U:Nat->Bool)(ml:List Bool)(lf ft ah:Nat):Prop where
 od:SB w R y z
 rc:Rec w y 213 (Qa0 q s.cf z ml.length lf ft ah)
 pl:∀W,AB (λi=>i<z.F\/z.G<=i) w W->Pln W z.F z.p s.n s.cf.bk s.cf.to s.L
 ex:Ext w z.m z.p1 z.b1 z.p2 z.b2 s.n s.L
 sh:QS w z.bs s
 wd:LU w z.bw s U
 mv:w.ownsRow 0 4 1 (.slice (some ⟨z.bm,0,none⟩) ml.length z.cm) ml.length (bls ml)
abbrev Cyc(w:World)(R:Nat->Prop)(y q:Nat)(z:CH)(s:Sl):Prop:=BL w R y q z s (λi=>!s.is i) s.mv s.lf s.ft (s.mvd-s.ft)
section
variable{lf ft:Nat}
theorem SB.gr(h:SB w R y z)(hs:w.heap.size<=w'.heap.size):SB w' R y z:=
 ⟨h.o1,h.o2,h.o3,h.o4,h.o5,h.o6,ω h.o7 hs,h.g1,h.g2,h.g3,h.g4,h.n1,h.n2,h.n3,h.n4,h.n5,h.n6,h.r1,h.r2,h.r3,h.r4,h.r5,h.r6,h.r7,h.r8,h.r9,h.rr,λk hk=>ϑ (h.lt k hk) hs⟩
theorem BL.touch(h:BL w R y q z s U ml lf ft ah)(t:AB T w w')(hT:∀k,R k->¬T k):BL w' R y q z s U ml lf ft ah:=by
 have o:=h.od;refine⟨o.gr t.size,h.rc.touch t (hT _ o.r1),λW tW=>h.pl W ?_,h.ex.touch t (hT _ o.r5) (hT _ o.r6) (hT _ o.r7) (hT _ o.r8) (hT _ o.r9),h.sh.touch t (hT _ o.r4),h.wd.touch t (hT _ o.r3),AX h.mv t (λg hg=>by cases hg;exact hT _ o.r2)⟩;refine(t.mono (λi _ hi=>?_)).trans tW;rcases δ i z.F with h1|h1
 ·exact .inl h1
 ·rcases δ i z.G with h2|h2
  ·exact absurd hi (hT _ (o.rr i h1 h2))
  omega
theorem BL.gr(h:BL w R y q z s U ml lf ft ah)(g:Gr w w'):BL w' R y q z s U ml lf ft ah:=h.touch (g.touch (λ_=>False)) (λ_ _ h=>h)
theorem BL.setR(h:BL w R y q z s U ml lf ft ah){lf' ft' ah':Nat}(t:AB (λi=>i=y) w w')(hr:Rec w' y 213 (Qa0 q s.cf z ml.length lf' ft' ah')):BL w' R y q z s U ml lf' ft' ah':=by
 have o:=h.od;refine⟨o.gr t.size,hr,λW tW=>h.pl W ((t.mono (λi _ hi=>.inr (by rw[hi];exact o.g1))).trans tW),h.ex.touch t ?_ ?_ ?_ ?_ ?_,h.sh.touch t (λe=>o.n3 e.symm),h.wd.touch t (λe=>o.n2 e.symm),AX h.mv t (λg hg=>by cases hg;exact λe=>o.n1 e.symm)⟩
 all_goals (have:=o.o1;have:=o.o2;have:=o.o3;have:=o.o4;have:=o.o5;have:=o.o6;have:=o.g1;omega)
theorem BL.setW(h:BL w R y q z s U ml lf ft ah)(t:AB (λi=>i=z.bw) w w')(hw:LU w' z.bw s U'):BL w' R y q z s U' ml lf ft ah:=by
 have o:=h.od;refine⟨o.gr t.size,h.rc.touch t o.n2,λW tW=>h.pl W ((t.mono (λi _ hi=>.inr (by rw[hi];exact o.g3))).trans tW),h.ex.touch t ?_ ?_ ?_ ?_ ?_,h.sh.touch t (λe=>o.n6 e.symm),hw,AX h.mv t (λg hg=>by cases hg;exact o.n4)⟩
 all_goals (have:=o.o1;have:=o.o2;have:=o.o3;have:=o.o4;have:=o.o5;have:=o.o6;have:=o.g3;omega)
theorem BL.setM(h:BL w R y q z s U ml lf ft ah){ml':List Bool}(hl:ml'.length=ml.length)(t:AB (λi=>i=z.bm) w w')(hm:w'.ownsRow 0 4 1 (.slice (some ⟨z.bm,0,none⟩) ml'.length z.cm) ml'.length (bls ml')):BL w' R y q z s U ml' lf ft ah:=by
 have o:=h.od;refine⟨o.gr t.size,?_,λW tW=>h.pl W ((t.mono (λi _ hi=>.inr (by rw[hi];exact o.g2))).trans tW),h.ex.touch t ?_ ?_ ?_ ?_ ?_,h.sh.touch t (λe=>o.n5 e.symm),h.wd.touch t (λe=>o.n4 e.symm),hm⟩
 ·rw[hl];exact h.rc.touch t o.n1
 all_goals (have:=o.o1;have:=o.o2;have:=o.o3;have:=o.o4;have:=o.o5;have:=o.o6;have:=o.g2;omega)
theorem BL.plan(h:BL w R y q z s U ml lf ft ah):Pln w z.F z.p s.n s.cf.bk s.cf.to s.L:=h.pl w (AB.refl _ _)
theorem BL.same{s':Sl}(h:BL w R y q z s U ml lf ft ah)(h1:s'.n=s.n)(h2:s'.cf=s.cf)(h3:s'.L=s.L)(h4:s'.hd=s.hd)(h5:s'.pg=s.pg):BL w R y q z s' U ml lf ft ah:=by
 cases s;cases s';subst h1 h2 h3 h4 h5;exact⟨h.od,h.rc,h.pl,h.ex,h.sh,h.wd,h.mv⟩
end
section
variable{lf ft:Nat}
theorem XLA(hC:BL w R y q z s U ml lf ft ah)(a:Int):BB prog 190 #[pP y,iI a] w (iI (toV s.L s.cf.to a)):=by
 obtain⟨h1,h2,h3,f,c0,c1,hF⟩:=hC.plan;have x8:=hC.rc.cc 8;have Z:=(UG c0);have X:=(TB hF a);obtain⟨t,ht⟩:=ε (toV s.L s.cf.to a);obtain⟨te,Y⟩:=ε (toE s.L a);rw[<-ht,<-Y]at X;rw[<-ht];clear hC hF h1 h2 h3 c0 c1 ht Y;go_enter func190,ntmps190
 go_wp2_with(first|(go_at_call 187;refine AJ (Z) ?_)|(go_at_call 138;refine Qa (X) λw2 HG2=>?_))
 go_ret
 simp_all
theorem QOX(hs:p+f+k<=255):(BS ⟨p,f,k⟩ ((m:Int)-1)==1)=decide (1<=m/\m<=p):=by
 by_cases h:1<=m/\m<=p
 ·rw[φ h,S9 Ω (by grind) (by show (p:Int)<CD ⟨p,f,k⟩;rw[show CD ⟨p,f,k⟩=1+(p:Int)+f+k from θ (DM hs)];omega)];rfl
 grind [ζ,VgZ]
theorem Jmu(hs:p+f+k<=255)(hm:m<=4294967296)(w:World):BB prog 294 #[AO ⟨p,f,k⟩,iI m] w (.bool (decide (1<=m/\m<=p))):=by
 have Z:=(λ(W:World)=>S4 hs ((m:Int)-1) W);have V:=(QOX (f:=f) (k:=k) hs (m:=m));unfold AO at Z⊢;obtain⟨b,hb⟩:=ε (decide (1<=m/\m<=p));rw[<-hb]at V⊢;clear hb;have X:=Rec.new w 34 [iI p,iI f,iI k];go_enter func294,ntmps294;go_upto_region 1 with(fail);obtain⟨w2,Y⟩:=ε (w.alloc (.cells #[.int .i64 p,.int .i64 f,.int .i64 k] 34));have N:Gr w w2:=by rw[Y];exact(Gr.refl w).alloc _
 rw[<-Y]at X⊢;have y0:=X.cc 0;have y1:=X.cc 1;have y2:=X.cc 2;clear Y X;go_wp2_with(go_at_call 148;refine Qa (Z _) λw3 J=>?_;have HG3:=(N.trans J));go_ret
 simp_all
theorem Ji2(hC:BL w R y q z s U ml lf ft ah)(hst:BJ s)(hV:AE w S q v)(hs:p+f+k<=255)(ha:a=st+m)(hm:a<=4294967296)(hx:1<=m/\m<=p->v.ldV (a:Nat)<=2147483647):
  BB prog 265 #[pP y,iI a,iI st,AO ⟨p,f,k⟩] w (uU (cvH s.L s.cf.to ⟨p,f,k⟩ m (v.ldV (a:Nat)):Nat)):=by
 have Z:=(λ(W:World) (g:Gr w W)=>KX (hV.gr g) (a:Int));have O:=(λ(W:World)=>Jmu (f:=f) (k:=k) hs (m:=m) Ω W);have Xl:Hid (v.ldV (a:Nat)<18446744073709551616):=⟨hV.ok.ldV_lt _⟩;have Xn:=hst;have HR:=(Rec.new w 34 [iI p,iI f,iI k]);simp only[List.toArray]at HR;unfold AO at O;unfold AO;obtain⟨x,Xc⟩:=ε (v.ldV (a:Nat));rw[<-Xc]at hx Xl Z⊢;obtain⟨Xe,N⟩:=ε (cvH s.L s.cf.to ⟨p,f,k⟩ m x);have I:=ι N;rw[<-N];obtain⟨le,Xg⟩:=ε (v.ldE (a:Nat));rw[<-Xg]at Z;clear Xc Xg hV hst N;have Xk:(a:Int)-(st:Int)=(m:Int):=Ω
 clear ha;unfold BB;go_enter func265,ntmps265;go_upto_region 1 with(fail);obtain⟨w2,G⟩:=ε (w.alloc (.cells #[.int .i64 p,.int .i64 f,.int .i64 k] 34));have Y:Gr w w2:=by rw[G];exact(Gr.refl w).alloc _
 rw[<-G]at HR⊢;obtain⟨hb,Xf⟩:=ε w.heap.size;rw[<-Xf]at HR⊢;have x0:=(hC.rc.gr Y).cell (j:=0) rfl;have xl:=(hC.rc.gr Y).lt;clear G Xf;by_cases Xa:x=0
 ·subst Xa;have hcv:cvH s.L s.cf.to ⟨p,f,k⟩ m 0=0:=by unfold cvH;rw[ψ (λh=>h.2 rfl)]
  rw[<-I.o]at hcv;subst hcv;clear hx Xk;go_wp2_with(go_at_call 206;refine Qa (Z _ Y) λw3 X=>?_;have V:=(Y.trans X);clear X);go_ret;exact⟨rfl,V⟩
 ·have d2:((x:Int) !=0)=true:=by simp;exact Xa
  by_cases hp:1<=m/\m<=p
  ·rw[φ hp]at O;have Xb:=hx hp;have hcv:cvH s.L s.cf.to ⟨p,f,k⟩ m x=(toV s.L s.cf.to (x:Nat)).toNat:=by unfold cvH;rw[θ ⟨⟨hp.1,by show (m:Int)<=(p:Int);omega⟩,Xa⟩]
   rw[<-I.o]at hcv;subst hcv;have Xd:=(λ(W:World) (g:Gr w W)=>XLA (hC.gr g) (x:Int));have Xh:=Xxa s.L s.cf.to (x:Int);have Xm:=Xn.to_lt (x:Int);obtain⟨t,ht⟩:=ε (toV s.L s.cf.to (x:Int));rw[<-ht]at Xd Xh Xm;have hwy:IntKind.u64.wrap t=t:=by rw[ζG];omega
   have hwx:IntKind.i64.wrap (x:Int)=(x:Int):=ζp _ Ω;clear hx hp Xb
   go_wp2_with(first|(go_at_call 206;refine Qa (Z _ Y) λw3 X=>?_;have V:=(Y.trans X);have RR:=HR.gr X;obtain⟨y0,y1,y2,yl⟩:=RR.k3;clear X RR)|(go_at_call 294;refine Qa (O _) λw4 J=>?_;have E:=(V.trans J);clear J)|(go_at_call 190;refine Qa (Xd _ E) λw5 Xi=>?_;have Xj:=(E.trans Xi);clear Xi))
   go_ret;exact⟨by rw[<-ht,ξ2 Xh];rfl,Xj⟩
  ·rw[ζ hp]at O;have hcv:cvH s.L s.cf.to ⟨p,f,k⟩ m x=x:=by unfold cvH;rw[ψ (λh=>hp ⟨h.1.1,by have:(m:Int)<=(p:Int):=h.1.2;omega⟩)]
   rw[<-I.o]at hcv;subst hcv;clear hx hp
   go_wp2_with(first|(go_at_call 206;refine Qa (Z _ Y) λw3 X=>?_;have V:=(Y.trans X);have RR:=HR.gr X;obtain⟨y0,y1,y2,yl⟩:=RR.k3;clear X RR)|(go_at_call 294;refine Qa (O _) λw4 J=>?_;have E:=(V.trans J);clear J))
   go_ret;exact⟨rfl,E⟩
end
theorem JNO(w:World):(zeroValue 34).run prog w=.ok (.agg #[iI 0,iI 0,iI 0]) w:=by kernel_rfl
theorem QJG(h:QS w b s)(hj:j<s.L.length)(hb:s.L[j].1<=4294967296):
  (Instr.lookup 211 (.map (some b)) (iI (s.L[j].1:Nat)) false).run prog w=.ok (AO (s.hd s.L[j].1)) w:=by
 obtain⟨n,f,h1,h2⟩:=h;rw[h1.look GQ underlying211 underlying3 (JNO w) (WalkArith.wf_i64 Ω),h2 j hj];rfl
theorem VT(h:LU w b s U)(hb:q<=4294967296):
  (Instr.lookup 129 (.map (some b)) (iI q) false).run prog w=.ok (iI (s.on U q:Nat)) w:=by
 obtain⟨n,f,h1,-,h2⟩:=h;rw[h1.look GQ underlying129 underlying3 (OM w) (WalkArith.wf_i64 Ω),h2 q]
structure CpI(w wr:World)(S:Nat->Prop)(q:Nat)(s:Sl)(D U:Nat->Bool)(lo hi:Nat)(v1:Vm)(m hb:Nat)(p f k:Nat):Prop where
 t:AB S w wr
 vm:∃vx,AE wr (AD S w) q vx/\GE s D U lo hi v1 vx m
 h:Rec wr hb 34 [iI p,iI f,iI k]
def VF5(w:World)(S:Nat->Prop)(q:Nat)(s:Sl)(D U:Nat->Bool)(lo hi:Nat)(v1:Vm)(m:Nat)(e:Ending)(w':World):Prop:=
 e=.returned (.tuple #[])/\AB S w w'/\∃v'',AE w' (AD S w) q v''/\GE s D U lo hi v1 v'' m
def Obj(s:Sl)(a st sz p f k:Nat):Prop:=∃j,∃hj:j<s.L.length,st=s.L[j].1/\sz=s.L[j].2/\s.hd s.L[j].1=⟨p,f,k⟩/\st<=a/\a<st+sz
theorem QGb(hst:BJ s){sz:Nat}(hi:i<AC s.L)(ha:AI s.L i=a)(ho:Obj s a st sz p f k):s.off i=a-st/\s.hdr i=⟨p,f,k⟩/\p+f+k<=255:=by
 obtain⟨j,hj,rfl,rfl,h3,h4,h5⟩:=ho;obtain⟨j',X,m,p',f',k',e1,e2,e3,e4,e5,e6,e7,e8,e9⟩:=hst.obj hi
 have hjj:s.L[j]=s.L[j']:=by
  rcases hst.good.disj (χ hj) (χ X)with e|e|e
  ·exact e
  ·omega
  ·omega
 grind
theorem Zm8(hst:BJ s)(hi:i<AC s.L)(ha:AI s.L i=a):∃j,∃hj:j<s.L.length,∃p f k:Nat,BD s.L (a:Nat)=j/\s.hd s.L[j].1=⟨p,f,k⟩/\Obj s a s.L[j].1 s.L[j].2 p f k:=by
 obtain⟨j',X,m,p',f',k',e1,e2,e3,e4,e5,e6,e7,e8,e9⟩:=hst.obj hi;have:=QFu hst.good hi;rw[ha,e1]at this;exact⟨j',X,p',f',k',this,e7,j',X,rfl,rfl,e7,by omega,by omega⟩
section
variable{Uo:Nat->Bool}{lf ft:Nat}{lo hi:Nat}
theorem XAM(hC:BL w R y q z s U ml lf ft ah)(hst:BJ s)(hT:AQ w)(htS:¬S 1)(hV:AE w S q v')(hdis:∀k,R k->¬S k)(hcp:GE s D Uo lo hi v1 v' m)
  (hn:lo+m+n<=hi) (hhi:hi<=AC s.L) (hU:∀i,lo<=i->i<hi->Uo i=true) (hl:∀i,lo<=i->i<hi->v1.ldE ((s.cf.to+i:Nat):Int)=0) (hw:∀i,i<n->AI s.L (lo+m+i)=f+i):Calls prog 212 #[pP y,.agg #[iI f,iI ((s.cf.to+(lo+m):Nat):Int),iI n]] w (VF5 w S q s D Uo lo hi v1 (m+n)):=by
 have HC:=hC;have G:=hst;have HT:=hT;have Yp:=htS;have HV:=hV.cut;have Yf:=hdis;have Yx:=hcp;have HU:=hU;have HL:=hl;have HW:=hw;have HB:=(ξ hn hhi);have hn2:=hst.n2;have hNn:=hst.N_le
 have hfb:n=0\/f+n<=1048576:=by
  rcases ζF n with h|h
  ·exact .inl h
  ·right;have h1:=hw (n-1) Ω;have h2:=(hst.srcs (i:=lo+m+(n-1)) Ω).2.2;omega
 have Xe:s.cf.to+(lo+m)<=1048576:=by have:=hst.fit;have:=hst.cf.ln;omega
 obtain⟨t,ht⟩:=ε (s.cf.to+(lo+m));have Yo:=ι ht;have hnb:n<=1048576:=Ω
 rw[<-ht]at Xe⊢;clear hC hst hT htS hV hdis hcp hU hl hw ht hn hhi;have RP:=Rec.new w 295 [iI f,iI t,iI n];simp only[List.toArray]at RP;go_in;go_upto_region 2 with(fail);obtain⟨w1,Xm⟩:=ε (w.alloc (.cells #[.int .i64 f,.int .i64 t,.int .i64 n] 295));have Yk:Gr w w1:=by rw[Xm];exact(Gr.refl w).alloc _
 have Yw:w1.heap.size=w.heap.size+1:=by rw[Xm,π]
 have Yj:Rec w1 w.heap.size 295 [iI f,iI t,iI n]:=by rw[Xm];exact RP
 rw[<-Xm];clear Xm RP;have RH:=Rec.new w1 34 [iI 0,iI 0,iI 0];simp only[List.toArray]at RH;obtain⟨w2,Xs⟩:=ε (w1.alloc (.cells #[.int .i64 0,.int .i64 0,.int .i64 0] 34));have Ya:Gr w1 w2:=by rw[Xs];exact(Gr.refl w1).alloc _
 rw[<-Xs]at RH⊢;rw[Yw]at RH;have Xt:=Yj.gr Ya;have Yi:=(Yk.trans Ya);have HS2:Hid (w.heap.size+2=w2.heap.size):=⟨by rw[Xs,π];omega⟩;clear Xs Yk Ya Yj;have q2:=Xt.cc 2;have ql:=Xt.lt;have Xw:=ι Xt;have Yl:Hid (CpI w w2 S q s D Uo lo hi v1 (m+0) (w.heap.size+1) 0 0 0):=⟨⟨Yi.touch _,⟨v',HV.gr Yi,Yx⟩,RH⟩⟩;have Yg:=HC.od.lt;clear Xt RH;go_upto_region 3 with(fail);clear q2 ql
 go_loopw [4,5,12] (λs4 s5 s12 wr=>∃(i st sz p f' k:Nat),i<=n/\Hid (CpI w wr S q s D Uo lo hi v1 (m+i) (w.heap.size+1) p f' k)/\Hid ((i=0/\st=0/\sz=0)\/Obj s (f+i-1) st sz p f' k)/\Hid (Rec wr w.heap.size 295 [iI f,iI t,iI n])/\s4=iI st/\s5=iI sz/\s12=iI i) (λ_ _ s12 _=>n-(intOf s12).toNat)
 case atStart=>exact⟨0,0,0,0,0,0,ζe _,Yl,⟨.inl ⟨rfl,rfl,rfl⟩⟩,Xw,rfl,rfl,rfl⟩
 case round=>
  obtain⟨i,st,sz,ph,fh,kh,hin,HI,HO,O,rfl,rfl,rfl⟩:=hrel;clear Xw Yl;have hpl:=O.o.lt;by_cases Xz:i<n
  ·have Xr:=ι Xz;have hiI:(i:Int)<(n:Int):=Ω
   have hfi:f+i<=1048576:=Ω
   have Xd:=HW i Xz;have Xc:lo+m+i<AC s.L:=by have:=HB;omega
   have V:BL wr R y q z s U ml lf ft ah:=HC.touch HI.o.t Yf;have Xe:=HT.touch' HI.o.t Yp
   have Xy:Hid (∀(W:World) (st sz p f' k:Nat),AB (λb=>b=w.heap.size+1) wr W->Obj s (f+i) st sz p f' k->BB prog 265 #[pP y,iI ((f:Int)+(i:Int)),iI st,.agg #[iI p,iI f',iI k]] W (uU (s.c (lo+m+i):Nat))):=⟨λW st sz p f' k tW ho=>by
    obtain⟨vx,Xb,Xa⟩:=HI.o.vm;obtain⟨e1,e2,e3⟩:=QGb G Xc Xd ho;obtain⟨j,hj,-,-,-,o4,o5⟩:=ho;obtain⟨-,m2,m3⟩:=Xa.mid.src (lo+m+i) Xc (HU _ Ω (by have:=HB;omega));rw[Xd]at m2 m3;have:=Ji2 (f:=f') (k:=k) (V.touch tW (λb hb h=>by have:=Yg b hb;omega)) G (Xb.touch tW (λb hb _ h=>by have:=hb.2;omega)) (p:=p) e3 (a:=f+i) (st:=st) (m:=f+i-st) Ω Ω (λh=>m3 ⟨by rw[e1];exact h.1,by rw[e1,e2];show ((f+i-st:Nat):Int)<=(p:Int);omega⟩);unfold Sl.cv at m2;rw[e1,e2]at m2;rw[m2]at this
    exact this⟩
   have Xg:Hid (∀(W:World),AB (λb=>b=w.heap.size+1) wr W->Calls prog 207 #[pP q,iI ((t:Int)+(i:Int)),uU (s.c (lo+m+i):Nat)] W λe w'=>∃er,e=.returned (iI er)/\AB (AD S w) W w'/\∃vx,AE w' (AD S w) q vx/\GE s D Uo lo hi v1 vx (m+i+1)):=⟨λW tW=>by
    obtain⟨vx,Xb,Xa⟩:=HI.o.vm;obtain⟨-,m2,-⟩:=Xa.mid.src (lo+m+i) Xc (HU _ Ω (by have:=HB;omega));have Yn:s.c (lo+m+i)<18446744073709551616:=by rw[<-m2];exact G.cv_lt _ (Xb.ok.ldV_lt _)
    refine Qa (NT (Xb.touch tW (λb hb _ h=>by have:=hb.2;omega)) ((t:Int)+(i:Int)) Yn) λw'⟨ht,hv⟩=>?_;refine⟨_,rfl,ht,_,hv,?_⟩;have:=Xa.step G (by have:=HB;omega) HB.2 (HL _ Ω (by have:=HB;omega)) (x:=s.c (lo+m+i)) (by rw[ξv lo m i]) Yn;rw[show ((t:Int)+(i:Int))=((s.cf.to+(lo+(m+i)):Nat):Int)by rw[Yo.o];omega]
    exact this⟩
   have HK:Hid (∀(W:World) (p' Y k':Nat),AB (λb=>b=w.heap.size+1) wr W->Rec W (w.heap.size+1) 34 [iI p',iI Y,iI k']->(W.cell? ⟨y,0,none⟩=some (pP q)/\W.cell? ⟨w.heap.size,1,none⟩=some (iI t))/\W.cell? ⟨w.heap.size+1,0,none⟩=some (iI p')/\W.cell? ⟨w.heap.size+1,1,none⟩=some (iI Y)/\W.cell? ⟨w.heap.size+1,2,none⟩=some (iI k')):=⟨λW p' Y k' tW hr=>by
    have h1:=(V.touch tW (λb hb h=>by have:=Yg b hb;omega)).rc;have h2:=O.o.touch tW Ω
    exact⟨⟨h1.cc 0,h2.cc 1⟩,hr.cc 0,hr.cc 1,hr.cc 2⟩⟩
   have hsb:st+sz<=1048576:=by
    rcases HO.o with h|⟨j,hj,h1,h2,-⟩
    ·omega
    ·have:=(G.good.sz _ (χ hj)).2;omega
   have q0:=O.o.cc 0;have q1:=O.o.cc 1;obtain⟨c,hc⟩:=ε (s.c (lo+m+i));rw[<-hc]at Xy Xg;clear hc;by_cases Xq:st+sz<=f+i
   ·have d1:decide ((st:Int)+(sz:Int)<=(f:Int)+(i:Int))=true:=φ Ω;have d2:decide (st+sz<=f+i)=true:=φ Xq;obtain⟨j,hj,p',Y,k',g1,g2,g3⟩:=Zm8 G Xc Xd;have Xf:=ι (LX V.ex Xe ((f:Int)+(i:Int)));rw[show (f:Int)+(i:Int)=((f+i:Nat):Int)by omega,g1,PT hj]at Xf;have Xu:=QJG V.sh hj (by have:=(G.good.sz _ (χ hj)).2;omega);rw[g2]at Xu;unfold AO at Xu;have E:=ι g3;obtain⟨Yc,Xx⟩:=ε (s.L[j].1);obtain⟨Yd,Xv⟩:=ε (s.L[j].2);rw[<-Xx]at Xf E Xu;rw[<-Xv]at Xf E;rw[show ((f+i:Nat):Int)=(f:Int)+(i:Int)by omega]at Xf;have x3:=V.rc.cc 9;have x9:=V.rc.cc 15;have xl:=V.rc.lt;have Yv:=HI.o.h.cc 0;have Ys:=HI.o.h.cc 1;have Yt:=HI.o.h.cc 2;have Yu:=HI.o.h.free;have Yq:=HI.o.h.lt;have Ym:=ι (((HI.o.h.set 0 (iI p')).set 1 (iI Y)).set 2 (iI k'));clear Xq V Xe g1 g2 g3 Xx Xv Xd Xc;go_upto_region 9 with(go_at_call 252;refine AJ (Xf.o) ?_)
    have tB:AB (λb=>b=w.heap.size+1) wr (((wr.setCell ⟨w.heap.size+1,0,none⟩ (.int .i64 p')).setCell ⟨w.heap.size+1,1,none⟩ (.int .i64 Y)).setCell ⟨w.heap.size+1,2,none⟩ (.int .i64 k')):=
     (((AB.refl (λb=>b=w.heap.size+1) wr).setCell (a:=⟨w.heap.size+1,0,none⟩) (λ_=>rfl) _).setCell (a:=⟨w.heap.size+1,1,none⟩) (λ_=>rfl) _).setCell (a:=⟨w.heap.size+1,2,none⟩) (λ_=>rfl) _
    obtain⟨wB,Ye⟩:=ε (((wr.setCell ⟨w.heap.size+1,0,none⟩ (.int .i64 p')).setCell ⟨w.heap.size+1,1,none⟩ (.int .i64 Y)).setCell ⟨w.heap.size+1,2,none⟩ (.int .i64 k'));rw[<-Ye]at tB⊢;have Xl:Hid (Rec wB (w.heap.size+1) 34 [iI p',iI Y,iI k']):=⟨by rw[Ye];exact Ym.o⟩;have Z:=ι tB;have Xo:Hid (∀W,Gr wB W->(W.cell? ⟨y,0,none⟩=some (pP q)/\W.cell? ⟨w.heap.size,1,none⟩=some (iI t))/\W.cell? ⟨w.heap.size+1,0,none⟩=some (iI p')/\W.cell? ⟨w.heap.size+1,1,none⟩=some (iI Y)/\W.cell? ⟨w.heap.size+1,2,none⟩=some (iI k')):=⟨λW g=>HK.o W p' Y k' (Z.o.trans (g.touch _)) (Xl.o.gr g)⟩;clear Ye tB Ym Xu x3 x9 xl Yv Ys Yt Yu Yq q0 q1;obtain⟨Sx,X,HS⟩:=AA.start λW'=>((W'.cell? ⟨y,0,none⟩=some (pP q)/\W'.cell? ⟨w.heap.size,1,none⟩=some (iI t))/\W'.cell? ⟨w.heap.size+1,0,none⟩=some (iI p')/\W'.cell? ⟨w.heap.size+1,1,none⟩=some (iI Y)/\W'.cell? ⟨w.heap.size+1,2,none⟩=some (iI k'))
    have x1:=AA.fact X λ_ h=>h.1.1;have x2:=AA.fact X λ_ h=>h.1.2;have x3:=AA.fact X λ_ h=>h.2.1;have x4:=AA.fact X λ_ h=>h.2.2.1;have x5:=AA.fact X λ_ h=>h.2.2.2;have I:=HS.o (wB.drew) (Xo.o _ (Gr.refl wB).drew);have Xh:Inhabited (AA Sx):=⟨⟨_,I⟩⟩;clear X;refine BI Sx 13 [([0,1,2,3,4,5,6,7,8,9,10,11],12),([],13)] [] I ?_;refine AL ?_;go_wp2_with((go_at_call 265;refine Qa (Xy.o _ _ _ _ _ _ (Z.o.trans ((Gr.refl wB).drew.touch _)) E.o) λw4 Xj=>?_;have J:=ι ((Gr.refl wB).drew.trans Xj);clear Xj));refine⟨.inr (AA.of (HS.o _ (Xo.o _ J.o))),?_⟩;refine AL ?_;go_wp2_with((go_at_call 207;refine(Xg.o _ (Z.o.trans (J.o.touch _))).mono ?_;rintro e w5 ⟨er,rfl,Xk,Yb,Xn,Xi⟩;have N:=ι Xk;have Xp:=ι (ξ Xn Xi);clear Xk Xn Xi));refine⟨.inl trivial,?_⟩;refine CU ?_;clear x1 x2 x3 x4 x5 I Xh;clear HS Sx;go_wp2;go_roundw
    case rel=>
     have Yr:=N.o.size;refine⟨i+1,Yc,Yd,p',Y,k',Xr.o,⟨⟨(HI.o.t.trans' ((Z.o.trans (J.o.touch _)).mono (λb _ h=>h)) (λb hb h=>by omega)).trans' N.o (λb _ h=>h.1),⟨Yb,Xp.o.1,by rw[<-ξv];exact Xp.o.2⟩,((Xl.o.gr J.o).touch N.o (λh=>by have:=h.2;omega))⟩⟩,⟨.inr (by rw[show f+(i+1)-1=f+i by omega];exact E.o)⟩,⟨((O.o.touch Z.o Ω).gr J.o).touch N.o (λh=>by have:=h.2;omega)⟩,?_,?_,?_⟩
     ·go_num
     ·go_num
     ·go_num
    case measure=>have:=Xr.o;simp[intOf];omega
   ·have d1:decide ((st:Int)+(sz:Int)<=(f:Int)+(i:Int))=false:=ζ Ω;have d2:decide (st+sz<=f+i)=false:=ζ Xq
    have Yh:Obj s (f+i) st sz ph fh kh:=by
     rcases HO.o with h|⟨j,hj,h1,h2,h3,h4,h5⟩
     ·omega
     ·exact⟨j,hj,h1,h2,h3,by omega,by omega⟩
    have E:=ι Yh;have Z:Hid (AB (λb=>b=w.heap.size+1) wr wr):=⟨AB.refl _ _⟩;have Xl:=ι HI.o.h;have Xo:Hid (∀W,Gr wr W->(W.cell? ⟨y,0,none⟩=some (pP q)/\W.cell? ⟨w.heap.size,1,none⟩=some (iI t))/\W.cell? ⟨w.heap.size+1,0,none⟩=some (iI ph)/\W.cell? ⟨w.heap.size+1,1,none⟩=some (iI fh)/\W.cell? ⟨w.heap.size+1,2,none⟩=some (iI kh)):=⟨λW g=>HK.o W ph fh kh (Z.o.trans (g.touch _)) (Xl.o.gr g)⟩;clear Xq V Xe Xd Xc Yh;go_upto_region 9 with(fail);clear q0 q1;obtain⟨Sx,X,HS⟩:=AA.start λW'=>((W'.cell? ⟨y,0,none⟩=some (pP q)/\W'.cell? ⟨w.heap.size,1,none⟩=some (iI t))/\W'.cell? ⟨w.heap.size+1,0,none⟩=some (iI ph)/\W'.cell? ⟨w.heap.size+1,1,none⟩=some (iI fh)/\W'.cell? ⟨w.heap.size+1,2,none⟩=some (iI kh))
    have x1:=AA.fact X λ_ h=>h.1.1;have x2:=AA.fact X λ_ h=>h.1.2;have x3:=AA.fact X λ_ h=>h.2.1;have x4:=AA.fact X λ_ h=>h.2.2.1;have x5:=AA.fact X λ_ h=>h.2.2.2;have I:=HS.o (wr.drew) (Xo.o _ (Gr.refl wr).drew);have Xh:Inhabited (AA Sx):=⟨⟨_,I⟩⟩;clear X;refine BI Sx 13 [([0,1,2,3,4,5,6,7,8,9,10,11],12),([],13)] [] I ?_;refine AL ?_;go_wp2_with((go_at_call 265;refine Qa (Xy.o _ _ _ _ _ _ (Z.o.trans ((Gr.refl wr).drew.touch _)) E.o) λw4 Xj=>?_;have J:=ι ((Gr.refl wr).drew.trans Xj);clear Xj));refine⟨.inr (AA.of (HS.o _ (Xo.o _ J.o))),?_⟩;refine AL ?_;go_wp2_with((go_at_call 207;refine(Xg.o _ (Z.o.trans (J.o.touch _))).mono ?_;rintro e w5 ⟨er,rfl,Xk,Yb,Xn,Xi⟩;have N:=ι Xk;have Xp:=ι (ξ Xn Xi);clear Xk Xn Xi));refine⟨.inl trivial,?_⟩;refine CU ?_;clear x1 x2 x3 x4 x5 I Xh;clear HS Sx;go_wp2;go_roundw
    case rel=>
     have Yr:=N.o.size;refine⟨i+1,st,sz,ph,fh,kh,Xr.o,⟨⟨(HI.o.t.trans' ((Z.o.trans (J.o.touch _)).mono (λb _ h=>h)) (λb hb h=>by omega)).trans' N.o (λb _ h=>h.1),⟨Yb,Xp.o.1,by rw[<-ξv];exact Xp.o.2⟩,((Xl.o.gr J.o).touch N.o (λh=>by have:=h.2;omega))⟩⟩,⟨.inr (by rw[show f+(i+1)-1=f+i by omega];exact E.o)⟩,⟨((O.o.touch Z.o Ω).gr J.o).touch N.o (λh=>by have:=h.2;omega)⟩,?_,?_,?_⟩
     ·go_num
     ·go_num
     ·go_num
    case measure=>have:=Xr.o;simp[intOf];omega
  ·obtain rfl:i=n:=Ω
   have q2:=O.o.cc 2;clear Xz;go_wp2;refine ζk (ζh rfl _ _ _) rfl ?_;obtain⟨vx,Xb,Xa⟩:=HI.o.vm;exact⟨rfl,HI.o.t,vx,Xb,Xa⟩
end
def CT(U:Nat->Bool)(i n:Nat):Nat->Bool:=λj=>U j&&!(decide (i<=j)&&decide (j<i+n))
theorem TA(U:Nat->Bool)(i:Nat):CT U i 0=U:=by
 funext j
 unfold CT;by_cases h:i<=j
 ·simp_all
 simp_all
theorem PU(U:Nat->Bool)(i n:Nat):CT U i (n+1)=but (CT U i n) (i+n):=by
 funext j
 unfold but CT
 grind
theorem QWx(h:¬(i<=j/\j<i+n)):CT U i n j=U j:=by
 unfold CT
 grind
theorem VBH{f:Int->Option Value}(h1:n+cnt U (AC s.L)<=2*AC s.L)(h2:∀q:Nat,(f (q:Nat)).getD (iI 0)=iI (s.on U q:Nat))(hi:i<AC s.L)(hU:U i=true)
  (hx:x=s.on (but U i) (AI s.L i/s.pg)) (hm:BH prog 3 w b (n+1) (λy=>if y=((AI s.L i/s.pg:Nat):Int)then some (iI x)else f y)):LU w b s (but U i):=by
 refine⟨n+1,_,hm,?_,λq=>?_⟩
 ·have:=V7q (f:=U) hi hU;unfold but;omega
 ·have X:=Sl.on_but (s:=s) (U:=U) (i:=i) (q:=q) hi hU;by_cases e:AI s.L i/s.pg=q
  ·subst e;rw[θ rfl,hx];rfl
  ·rw[ψ e]at X;rw[ψ Ω,h2 q,<-X];rfl
def Zj0(w:World)(R S:Nat->Prop)(y q:Nat)(z:CH)(s:Sl)(D U0 U':Nat->Bool)(ml:List Bool)(lf ft ah:Nat)(v2:Vm)(e:Ending)(w':World):Prop:=
 e=.returned (.tuple #[])/\AB (λb=>b=z.bw\/S b) w w'/\BL w' R y q z s U' ml lf ft ah/\∃v'',AE w' (plus S w) q v''/\F2 s D U0 U' v2 v''
structure DrI(w wr:World)(R S:Nat->Prop)(y q:Nat)(z:CH)(s:Sl)(D U0 U':Nat->Bool)(ml:List Bool)(lf ft ah:Nat)(v2:Vm)(pb f tb n:Nat):Prop where
 t:AB (λb=>b=z.bw\/S b) w wr
 cy:BL wr R y q z s U' ml lf ft ah
 vm:∃Sj v'',(∀b,Sj b->(S b/\b<w.heap.size)\/pb<b)/\AE wr Sj q v''/\F2 s D U0 U' v2 v''
 pc:Rec wr pb 295 [iI f,iI tb,iI n]
section
variable{lf ft:Nat}{i0 t:Nat}
theorem JBl(hC:BL w R y q z s U ml lf ft ah)(hst:BJ s)(hV:AE w S q v')(hdis:∀k,R k->¬S k)(hdr:F2 s D U0 U v2 v')(hn1:1<=n)(hn:i0+n<=AC s.L)(hU:∀i,i<n->U (i0+i)=true)(hw:∀i,i<n->AI s.L (i0+i)=f+i):Calls prog 213 #[pP y,.agg #[.int .i64 f,.int .i64 t,.int .i64 n]] w (Zj0 w R S y q z s D U0 (CT U i0 n) ml lf ft ah v2):=by
 have Yy:=hst;have Xh:=hdis;have HU:=hU;have HW:=hw;have HB:=hn;have Yu:=hst.n2;have Yv:=hst.N_le;have Yn:=hst.pg
 have hfb:f+n<=1048576:=by
  have h1:=hw (n-1) Ω;have h2:=(hst.srcs (i:=i0+(n-1)) Ω).2.2;omega
 have RP:=Rec.new w 295 [.int .i64 f,.int .i64 t,.int .i64 n];simp only[List.toArray]at RP;obtain⟨w0,Xa⟩:=ε (w.alloc (.cells #[.int .i64 f,.int .i64 t,.int .i64 n] 295));have Xf:Gr w w0:=by rw[Xa];exact(Gr.refl w).alloc _
 have Xz:w0.heap.size=w.heap.size+1:=by rw[Xa,π]
 have Yh:Hid (DrI w w0 R S y q z s D U0 (CT U i0 0) ml lf ft ah v2 w.heap.size f t n):=⟨by
  rw[TA]
  exact⟨Xf.touch _,hC.gr Xf,⟨AD S w,v',λb hb=>.inl hb,hV.cut.gr Xf,hdr⟩,by rw[Xa];exact RP⟩⟩
 have Xo:=hC.od.lt;have HS0:=Xz;have Yl:n≠0->True:=λ_=>trivial;clear hC hst hV hdis hdr hU hw hn Xf Yl;obtain⟨pb,Xb⟩:=ε w.heap.size;have Z:=ι Xb;have Xe:Hid (DrI w w0 R S y q z s D U0 (CT U i0 0) ml lf ft ah v2 pb f t n):=⟨by rw[Xb];exact Yh.o⟩;go_in;go_upto_region 1 with(fail);rw[<-Xa,<-Xb];clear Xa RP Yh Xz Xb;have p0:=Xe.o.pc.cc 0;have pl:=Xe.o.pc.lt;go_upto_region 2 with(fail);clear p0 pl
 go_loopw [4] (λs4 wr=>∃j A:Nat,j<=n/\Hid (A=f+j)/\Hid (DrI w wr R S y q z s D U0 (CT U i0 j) ml lf ft ah v2 pb f t n)/\s4=.int .i64 A) (λs4 _=>f+n-(intOf s4).toNat)
 case atStart=>exact⟨0,f,ζe _,⟨rfl⟩,Xe,rfl⟩
 case round=>
  obtain⟨j,A,hj,HA,HI,rfl⟩:=hrel;clear Xe;have p0:=HI.o.pc.cc 0;have p2:=HI.o.pc.cc 2;have pl:=HI.o.pc.lt;by_cases O:j<n
  ·have Xc:=O;have Yt:(A:Int)<(f:Int)+(n:Int):=by have:=HA.o;omega
   have Ym:A<=1048576:=by have:=HA.o;omega
   obtain⟨Sj,vx,Xg,E,I⟩:=HI.o.vm;have J:=HI.o.cy;have Xv:=HW j O;have Xw:=HU j O;have Xt:i0+j<AC s.L:=by have:=HB;omega
   have Xr:CT U i0 j (i0+j)=true:=by rw[QWx Ω];exact Xw
   have Xi:=I.mid.pg;have Xu:=(λ(W:World) (g:Gr wr W)=>JS (E.gr g));rw[Xi]at Xu;obtain⟨pg,Y⟩:=ε s.pg;have HPGE:=ι Y;rw[<-Y]at Xu Yn;obtain⟨Q,hQ⟩:=ε (A/pg);have g1:((A:Int).tdiv (pg:Int))=(Q:Int):=by rw[hQ];rfl
   have g2:((A:Int)/(pg:Int))=(Q:Int):=by rw[hQ];rfl
   have hpg0:(pg:Int)≠0:=Ω
   have hQb:Q<=1048576:=by rw[hQ];exact ω (ζV _ _) Ym
   have Xm:AI s.L (i0+j)/s.pg=Q:=by rw[Xv,hQ,HA.o,Y]
   have HQ:=Xm;obtain⟨nw,fm,hm,hn1,Xj⟩:=J.wd;have Yg:=VT J.wd (q:=Q) Ω;have Xn:=Sl.on_but (s:=s) (U:=CT U i0 j) (i:=i0+j) (q:=Q) Xt Xr;rw[θ Xm]at Xn;obtain⟨N,hN⟩:=ε (s.on (CT U i0 j) Q);obtain⟨N',Xp⟩:=ε (s.on (but (CT U i0 j) (i0+j)) Q);have hNle:N<=1048576:=by rw[hN];have:=s.on_le (CT U i0 j) Q;omega
   rw[<-hN]at Yg;rw[<-hN,<-Xp]at Xn;have hNN:(N:Int)-1=(N':Int):=Ω
   have Yw:=hm;have Ye:=(ξ hn1 Xj);have Yo:Hid (nw<maxLen):=⟨by have h1:=hn1;have h2:=Yu;have h3:=Yv;unfold maxLen;omega⟩;have Yp:Hid ((Lit.int .i64 (Q:Int)).wf=true):=⟨WalkArith.wf_i64 Ω⟩;have HX:=ι (ξ Xt (ξ Xr Xp));have V:=ι Xg;have Yr:=ι E;have Xy:=ι I;have x0:=J.rc.cc 0;have x8:=J.rc.cc 14;have xl:=J.rc.lt;clear J Xv Xw Xt Xr Xi Y hQ Xm hm hn1 Xj Xn hN Xp Xg E I O
   go_upto_region 6 with(first|(go_at_call 129;refine AJ (Xu _ (Gr.refl wr)) ?_)|(at_mapUpdate;refine X8 _ rfl _ _ _ 129 rfl 3 3 GQ underlying129 underlying3 z.bw nw fm rfl Yw Yo.o (Q:Int) (.int .i64 (N':Int)) rfl rfl Yp.o ?_;intro w3 Ya Yj;have Yq:=ι Ya;have Xd:=ι Yj;clear Ya Yj))
   have X:BL w3 R y q z s (CT U i0 (j+1)) ml lf ft ah:=by
    rw[PU];refine HI.o.cy.setW Xd.o (VBH Ye.1 Ye.2 HX.o.1 HX.o.2.1 (x:=N') (by rw[HX.o.2.2,HQ]) ?_);rw[HQ];exact Yq.o
   have Xl:¬Sj z.bw:=λh=>by
    have h1:=Xo _ HI.o.cy.od.r3;rcases V.o _ h with h|h
    ·exact Xh _ HI.o.cy.od.r3 h.1
    ·have:=Z.o;omega
   have Yi:∀k,R k->¬Sj k:=λk hk h=>by
    have h1:=Xo _ hk;rcases V.o _ h with h|h
    ·exact Xh _ hk h.1
    ·have:=Z.o;omega
   have Xx:Hid (AE w3 Sj q vx):=⟨Yr.o.touch Xd.o (λb hb _ h=>Xl (h▸hb))⟩;have Yc:=ι X;have Ys:=ι Yi;have Xk:pb≠z.bw:=λh=>by have h1:=Xo _ HI.o.cy.od.r3;have:=Z.o;omega
   have Xq:=ι (HI.o.pc.touch Xd.o Xk);have y0:=X.rc.cc 0;have y8:=X.rc.cc 14;have yl:=X.rc.lt;have Yk:=VT X.wd (q:=Q) Ω;rw[PU,<-HX.o.2.2]at Yk;have G:Hid (AB (λb=>b=z.bw\/S b) w w3):=⟨HI.o.t.trans (Xd.o.mono (λb _ h=>.inl h))⟩;have Yd:Hid (A+1=f+(j+1)):=⟨by have:=HA.o;omega⟩;clear Yg x0 x8 xl X Xl Yi Xk p0 p2 pl;simp only[Act.put];by_cases hz:N'=0
   ·have d0:((N':Int)==0)=true:=by simp[hz]
    have HZ:=ι hz;clear hz;go_wp2_with(go_at_call 130;refine Qa (O4 Xx.o (Q:Int)) λw5⟨Yb,Yf⟩=>?_;have Xs:=ι Yb;have Yx:=ι Yf;clear Yb Yf);go_roundw
    case rel=>
     have hz3:=G.o.size;have hw3:pb<w3.heap.size:=Xq.o.lt;refine⟨j+1,A+1,Xc,Yd,⟨⟨G.o.trans' Xs.o (λb hb h=>?_),Yc.o.touch Xs.o Ys.o,⟨plus Sj w3,_,λb hb=>?_,Yx.o,?_⟩,Xq.o.touch Xs.o (λh=>?_)⟩⟩,by go_num⟩
     ·rcases V.o b h with h|h
      ·exact .inr h.1
      ·have:=Z.o;omega
     ·rcases hb with h|h
      ·exact V.o b h
      ·right;omega
     ·have:=Xy.o.drop Yy HX.o.1 HX.o.2.1 (by rw[HQ,<-HX.o.2.2];exact HZ.o);rw[HQ]at this;rw[PU];exact this
     ·rcases V.o _ h with h|h
      ·have:=Z.o;omega
      ·omega
    case measure=>have:=HA.o;have:=Xc;simp[intOf];omega
   ·have d0:((N':Int)==0)=false:=by simp;exact hz
    have HZ:=ι hz;clear hz;go_wp2;go_roundw
    case rel=>
     refine⟨j+1,A+1,Xc,Yd,⟨⟨G.o,Yc.o,⟨Sj,_,V.o,Xx.o,?_⟩,Xq.o⟩⟩,by go_num⟩;rw[PU];exact Xy.o.keep HX.o.1 HX.o.2.1 (by rw[HQ,<-HX.o.2.2];exact HZ.o)
    case measure=>have:=HA.o;have:=Xc;simp[intOf];omega
  ·obtain rfl:j=n:=Ω
   have Yt:¬(A:Int)<(f:Int)+(j:Int):=by have:=HA.o;omega
   clear O;go_wp2;refine ζk (ζh rfl _ _ _) rfl ?_;obtain⟨Sj,vx,Xg,E,I⟩:=HI.o.vm;exact⟨rfl,HI.o.t,HI.o.cy,vx,E.mono (λb hb=>(Xg b hb).imp (λh=>h.1) (λh=>by have:=Z.o;omega)),I⟩
end
def XU7(s:Sl)(v:Vm):Prop:=∀p,p<v.pt.length->(v.pt.getD p 0≠0↔(∃i,i<AC s.L/\AI s.L i/s.pg=p/\s.is i=false)\/(∃i,i<AC s.L/\(s.cf.to+i)/s.pg=p/\s.is i=true))
theorem JT{f g:Nat->Bool}(h:∀i,i<n->f i=true->g i=true):cnt f n<=cnt g n:=by
 induction n with
 | zero=>exact μ _
 | succ n ih=>
  rw[C1,C1];have h1:=ih (λi hi=>h i Ω);cases hf:f n <;> cases hg:g n <;> simp_all <;> omega
theorem ZS(f g:Nat->Bool)(n:Nat):cnt (λi=>f i||g i) n<=cnt f n+cnt g n:=by
 induction n with
 | zero=>exact μ _
 | succ n ih=>
  rw[C1,C1,C1];cases f n <;> cases g n <;> simp <;> omega
theorem UO(a b n:Nat):cnt (λi=>decide (a<=i/\i<b)) n<=b-a:=by
 induction n with
 | zero=>exact ζe _
 | succ n ih=>
  have key:cnt (λi=>decide (a<=i/\i<b)) (n+1)<=min (n+1) b-a:=by
   clear ih
   induction n with
   | zero=>
    grind [C1,MU,φ,ζ]
   | succ n ih=>
    grind [C1,φ,ζ]
  omega
theorem JuW(l:List Nat)(f:Nat->Nat->Bool)(h:∀k∈l,cnt (f k) n<=m):cnt (λi=>l.any λk=>f k i) n<=l.length*m:=by
 induction l with
 | nil=>
  grind [IM]
 | cons k r ih=>
  have h1:=ih (λj hj=>h j (ζB _ hj));have h2:=h k (ζu ..);have h3:=ZS (f k) (λi=>r.any λk=>f k i) n
  grind [ζD,ξd]
theorem QJ(hm:m<=l.length)(h:∀i,i<m->at_ l i=true):cnt (λk=>decide (m<=k)&&at_ l k) l.length+m=cnt (at_ l) l.length:=by
 have e:=NI (f:=λk=>decide (m<=k)&&at_ l k) (g:=λk=>decide (0<=k/\k<m)) (λi=>by
  simp_all) l.length
 rw[U9 0 m _ (ζe _) hm]at e
 grind [C2]
theorem JDN(h:BQ n=true):∃k:Nat,n=2 ^ k:=by
 simp[BQ]at h;have:n=1\/n=2\/n=4\/n=8\/n=16\/n=32\/n=64\/n=128\/n=256\/n=512\/n=1024:=Ω
 rcases this with rfl|rfl|rfl|rfl|rfl|rfl|rfl|rfl|rfl|rfl|rfl
 all_goals first|exact⟨0,rfl⟩|exact⟨1,rfl⟩|exact⟨2,rfl⟩|exact⟨3,rfl⟩|exact⟨4,rfl⟩|exact⟨5,rfl⟩|exact⟨6,rfl⟩|exact⟨7,rfl⟩|exact⟨8,rfl⟩|exact⟨9,rfl⟩|exact⟨10,rfl⟩
theorem Zs5(hB:BQ B=true)(hp:BQ pg=true)(j:Nat):∃a,∀i,i/B=j->a<=i/pg/\i/pg<a+max 1 (B/pg):=by
 obtain⟨k,rfl⟩:=JDN hB;obtain⟨l,rfl⟩:=JDN hp;have h2:0<2 ^ l:=Nat.two_pow_pos l;rcases δ k l with h|h
 ·obtain⟨d,rfl⟩:∃d,l=k+d:=⟨l-k,by omega⟩;refine⟨j/2 ^ d,λi hi=>?_⟩
  grind [Nat.pow_add,ψH]
 ·obtain⟨d,rfl⟩:∃d,k=l+d:=⟨k-l,by omega⟩;have e:2 ^ (l+d)/2 ^ l=2 ^ d:=by rw[Nat.pow_add,Nat.mul_div_cancel_left _ h2]
  have h3:0<2 ^ d:=Nat.two_pow_pos d;refine⟨j*2 ^ d,λi hi=>?_⟩;have h4:i/2 ^ l/2 ^ d=j:=by grind [ψH,Nat.pow_add]
  have h5:=ζo (i/2 ^ l) (2 ^ d);rw[h4,ζA]at h5;omega
theorem Y0i(h:AH v){p0 c:Nat}(hc:p0+c<=v.pt.length):cnt (λp=>(v.pt.getD p 0 !=0)||decide (p0<=p/\p<p0+c)) v.pt.length=v.pl.used+(CB v p0 c).length:=by
 induction c with
 | zero=>
  rw[h.us];refine C2 λp _=>?_
  grind
 | succ c ih=>
  have ih:=ih Ω;rw[SC];by_cases h0:v.pt.getD (p0+c) 0=0
  ·rw[θ h0,ζm,ξt,show v.pl.used+((CB v p0 c).length+1)=(v.pl.used+(CB v p0 c).length)+1 by omega,<-ih];have e:=XR (f:=λp=>(v.pt.getD p 0 !=0)||decide (p0<=p/\p<p0+c)) (i:=p0+c) (n:=v.pt.length) Ω (by simp_all)
   grind
  grind
theorem Sl.ft_le(s:Sl):s.ft<=s.mv.length:=IH _ _
theorem Sl.ft_on(s:Sl)(h:i<s.ft):at_ s.mv i=true:=by
 have:=JA (λk=>!at_ s.mv k) s.mv.length i h
 simp_all
theorem Sl.ft_off(s:Sl)(h:s.ft<s.mv.length):at_ s.mv s.ft=false:=by
 have:(!at_ s.mv s.ft)=true:=H7 (λk=>!at_ s.mv k) s.mv.length h
 simp_all
theorem JPr(hst:BJ s)(hk:k<s.mv.length):∃(P:List Pc) (M:Nat->Nat),JC s.L s.cf.bk s.cf.to k=P/\M 0=0/\M P.length=s.hi k-s.lo k/\∀i (h:i<P.length),∃f:Nat,1<=P[i].s/\P[i].f=f/\P[i].t=((s.cf.to+(s.lo k+M i):Nat):Int)/\M (i+1)=M i+P[i].s/\s.lo k+M i+P[i].s<=s.hi k/\∀j,j<P[i].s->AI s.L (s.lo k+M i+j)=f+j:=by
 have hlh:=hst.lohi hk
 have Z:EC s.L s.cf.bk (k:Int)=true:=by
  unfold EC;rw[φ Ω,φ (by rw[<-hst.len];omega)];rfl
 obtain⟨e1,e2,-⟩:=O8 (base:=(s.cf.to:Int)) Z;have ea:I8 s.L s.cf.bk s.cf.to k=((s.cf.to+s.lo k:Nat):Int):=by assumption
 have ez:J2 s.L s.cf.bk s.cf.to k=((s.cf.to+s.hi k:Nat):Int):=by
  rw[e2];unfold Sl.hi;omega
 obtain⟨P,hP⟩:=ε (JC s.L s.cf.bk s.cf.to k)
 have hP2:P=pcs (CZ s.L s.cf.to) ((s.cf.to+s.lo k:Nat):Int) (s.hi k-s.lo k):=by
  rw[hP];unfold JC
  grind
 have hr:NY (CZ s.L s.cf.to) ((s.cf.to+s.lo k:Nat):Int) (s.hi k-s.lo k) P:=by grind [QBb]
 have X:=λi hi=>hr.ends _ i hi rfl;have h0:=XLy hr Ω;have hE:=VID P (((s.cf.to+s.lo k:Nat):Int)+((s.hi k-s.lo k:Nat):Int));obtain⟨T,hT⟩:=ε (LC P (((s.cf.to+s.lo k:Nat):Int)+((s.hi k-s.lo k:Nat):Int)):Nat->Int);rw[<-hT]at h0 hE;refine⟨P,λi=>(T i-((s.cf.to+s.lo k:Nat):Int)).toNat,hP.symm,by simp_all,by grind,λi hi=>?_⟩;obtain⟨g1,g2⟩:=X i hi;have h1:T i=P[i].t:=by rw[hT];exact ZV hi
 have h2:T (i+1)=P[i].t+P[i].s:=by rw[hT];exact Xv7 hr hi
 have hw:=hr.word _ (χ hi);have hp:=hr.pos _ (χ hi);obtain⟨m,hm⟩:∃m:Nat,P[i].t=((s.cf.to+(s.lo k+m):Nat):Int):=⟨(P[i].t-((s.cf.to+s.lo k:Nat):Int)).toNat,by omega⟩
 have Y:∀j,j<P[i].s->(AI s.L (s.lo k+m+j):Int)=P[i].f+j:=λj hj=>by
  rw[<-hw j hj,hm,show ((s.cf.to+(s.lo k+m):Nat):Int)+(j:Int)=((s.cf.to+(s.lo k+m+j):Nat):Int)by omega];exact(NS Ω).1.symm
 have hf0:=Y 0 Ω;refine⟨P[i].f.toNat,hp,by omega,?_,?_,?_,λj hj=>?_⟩
 ·dsimp only;omega
 ·dsimp only;omega
 ·dsimp only;omega
 ·have:=Y j hj;dsimp only;rw[h1,show (P[i].t-((s.cf.to+s.lo k:Nat):Int)).toNat=m by omega];omega
theorem JDv(U:Nat->Bool)(i n m:Nat):CT (CT U i n) (i+n) m=CT U i (n+m):=by
 induction m with
 | zero=>rw[TA];rfl
 | succ m ih=>grind [PU,ξv]
theorem I0.touch(h:I0 w A P)(t:AB T w w')(hT:∀a,A=some a->¬T a.block):I0 w' A P:=λi hi=>by
 obtain⟨g,rfl,h1,h2,h3,h4⟩:=h i hi;have hg:=hT _ rfl;exact⟨g,rfl,ϑ h1 t.size,(t.cell h1 hg _).trans h2,(t.cell h1 hg _).trans h3,(t.cell h1 hg _).trans h4⟩
theorem BL.cu{lf ft:Nat}(h:BL w R y q z s U ml lf ft ah)(hU:∀j,j<AC s.L->U j=V j):BL w R y q z s V ml lf ft ah:=by
 refine⟨h.od,h.rc,h.pl,h.ex,h.sh,?_,h.mv⟩;obtain⟨n,f,h1,h2,h3⟩:=h.wd;exact⟨n,f,h1,by grind [C2],λq=>by rw[<-Sl.on_congr hU];exact h3 q⟩
def MX(w:World)(b o:Nat):Nat:=match w.cell? ⟨b,o,none⟩with|some v=>(intOf v).toNat|none=>0
def Z3(w:World)(R S:Nat->Prop)(y q:Nat)(z:CH)(s:Sl)(k:Nat)(v:Vm)(e:Ending)(w':World):Prop:=
 e=.returned (iI 0)/\AB (λb=>R b\/S b) w w'/\Cyc w' R y q z {s with mv:=s.mv.set k true}/\∃v',AE w' (plus S w) q v'/\OH s k v v'
structure MvC(w w2 wr:World)(R S S2:Nat->Prop)(y q:Nat)(z:CH)(s:Sl)(k m:Nat)(v1:Vm)(g:Nat)(P:List Pc):Prop where
 t:AB (λb=>R b\/S b) w wr
 t2:AB S2 w2 wr
 cy:Cyc wr R y q z s
 vm:∃vx,AE wr S2 q vx/\GE s s.is (λi=>!s.is i) (s.lo k) (s.hi k) v1 vx m
 pc:I0 wr (some ⟨g,0,none⟩) P
structure MvD(w w4 wr:World)(R S S2:Nat->Prop)(y q:Nat)(z:CH)(s:Sl)(k m:Nat)(v2:Vm)(g:Nat)(P:List Pc):Prop where
 t:AB (λb=>R b\/S b) w wr
 sz:w4.heap.size<=wr.heap.size
 cy:BL wr R y q z s (CT (λi=>!s.is i) (s.lo k) m) s.mv s.lf s.ft (s.mvd-s.ft)
 vm:∃Sj vx,(∀b,Sj b->S2 b\/w4.heap.size<=b)/\AE wr Sj q vx/\F2 s (λj=>s.is j||(decide (s.lo k<=j)&&decide (j<s.lo k+(s.hi k-s.lo k)))) (λi=>!s.is i) (CT (λi=>!s.is i) (s.lo k) m) v2 vx
 pc:I0 wr (some ⟨g,0,none⟩) P
structure MvF(w8 wr:World)(R:Nat->Prop)(y q:Nat)(z:CH)(s:Sl)(U:Nat->Bool)(ml:List Bool)(l1 sm fc ac:Nat):Prop where
 cy:BL wr R y q z s U ml l1 fc ac
 t:AB (λi=>i=y) w8 wr
 on:∀i,i<fc->at_ ml i=true
 sum:ac+fc=sm
 le:fc<=ml.length
structure MvK(w w2:World)(R S S2:Nat->Prop)(s:Sl)(k:Nat)(v1:Vm)(P:List Pc)(M:Nat->Nat):Prop where
 st:BJ s
 hk:k<s.mv.length
 hm:at_ s.mv k=false
 pc:∀i (h:i<P.length),∃f:Nat,1<=P[i].s/\P[i].f=f/\P[i].t=((s.cf.to+(s.lo k+M i):Nat):Int)/\M (i+1)=M i+P[i].s/\s.lo k+M i+P[i].s<=s.hi k/\∀j,j<P[i].s->AI s.L (s.lo k+M i+j)=f+j
 ld:∀i,s.lo k<=i->i<s.hi k->v1.ldE ((s.cf.to+i:Nat):Int)=0
 tb:AQ w
 tS:¬S 1
 tR:¬R 1
 s2:∀b,S2 b->(S b/\b<w.heap.size\/w.heap.size<=b)/\b<w2.heap.size
 dis:∀k,R k->¬S k
 rl:∀k,R k->k<w.heap.size
 ww:w.heap.size<=w2.heap.size
section
variable{w2 w4:World}{S2:Nat->Prop}{M:Nat->Nat}
theorem MvK.un(h:MvK w w2 R S S2 s k v1 P M)(h1:s.lo k<=i)(h2:i<s.hi k):s.is i=false:=by
 have hN:=(h.st.lohi h.hk).2.2;have:i/s.cf.bk=k:=by simpa[Sl.inB]using (h.st.inB (k:=k) (i:=i) Ω).2 ⟨h1,h2⟩
 unfold Sl.is;rw[this];exact h.hm
theorem MvK.r2(h:MvK w w2 R S S2 s k v1 P M):∀b,R b->¬S2 b:=λb hb h2=>by
 have:=h.rl b hb;rcases(h.s2 b h2).1 with h'|h'
 ·exact h.dis b hb h'.1
 ·omega
theorem MvK.t2(h:MvK w w2 R S S2 s k v1 P M):¬S2 1:=λh2=>by
 have:=h.tb.lt;rcases(h.s2 _ h2).1 with h'|h'
 ·exact h.tS h'.1
 ·omega
theorem MvK.copy(h:MvK w w2 R S S2 s k v1 P M)(hg:w2.heap.size<=g)(hi:i<P.length)(hI:MvC w w2 wr R S S2 y q z s k (M i) v1 g P)(gW:Gr wr W):
  ∃f t:Nat,P[i].f=f/\P[i].t=t/\Calls prog 212 #[pP y,.agg #[iI f,iI t,iI (P[i].s:Nat)]] W λe w'=>e=.returned (.tuple #[])/\MvC w w2 w' R S S2 y q z s k (M (i+1)) v1 g P:=by
 obtain⟨f,h1,h2,h3,h4,h5,h6⟩:=h.pc i hi;obtain⟨vx,Z,J⟩:=hI.vm;have hN:=(h.st.lohi h.hk).2.2;have X:AQ W:=(h.tb.touch' hI.t (λh'=>h'.elim h.tR h.tS)).touch' (gW.touch (λ_=>False)) (λh=>h);refine⟨f,_,h2,h3,(XAM (hI.cy.gr gW) h.st X h.t2 (Z.gr gW) h.r2 J h5 hN (λi a b=>by simp[h.un a b]) h.ld h6).mono ?_⟩;rintro e w' ⟨rfl,ht,Y,hv,hp⟩;refine⟨rfl,(hI.t.trans (gW.touch _)).trans' ht (λb hb hs=>?_),(hI.t2.trans (gW.touch _)).trans ht,(hI.cy.gr gW).touch ht h.r2,⟨Y,hv.mono (λb hb=>hb.1),by simp_all⟩,(hI.pc.gr gW).touch ht (λa ha hs=>?_)⟩
 ·rcases(h.s2 b hs).1 with h'|h'
  ·simp_all
  ·omega
 ·cases ha;have:g<w2.heap.size:=(h.s2 _ hs).2;omega
theorem MvK.drain(h:MvK w w2 R S S2 s k v1 P M)(_hw:w2.heap.size<=w4.heap.size)(h0:w.heap.size<=w4.heap.size)(hg:w2.heap.size<=g/\g<w4.heap.size)(hi:i<P.length)(hI:MvD w w4 wr R S S2 y q z s k (M i) v2 g P)(gW:Gr wr W):
  ∃f t:Nat,P[i].f=f/\P[i].t=t/\Calls prog 213 #[pP y,.agg #[iI f,iI t,iI (P[i].s:Nat)]] W λe w'=>e=.returned (.tuple #[])/\MvD w w4 w' R S S2 y q z s k (M (i+1)) v2 g P:=by
 obtain⟨f,h1,h2,h3,h4,h5,h6⟩:=h.pc i hi;obtain⟨Sj,vx,X,V,Z⟩:=hI.vm;have hN:=(h.st.lohi h.hk).2.2;have hz:=gW.size;have hzr:=hI.sz
 have Y:∀b,R b->¬Sj b:=λb hb hs=>by
  have:=h.rl b hb;rcases X b hs with h'|h'
  ·exact h.r2 b hb h'
  ·omega
 refine⟨f,_,h2,h3,(JBl (hI.cy.gr gW) h.st (V.gr gW) Y Z h1 Ω (λj hj=>?_) h6).mono ?_⟩
 ·rw[QWx Ω];simp[h.un (i:=s.lo k+M i+j) Ω Ω]
 ·rintro e w' ⟨rfl,ht,hc,J,hv,hp⟩;rw[JDv,<-h4]at hc hp;refine⟨rfl,(hI.t.trans (gW.touch _)).trans' ht (λb hb hs=>?_),by have:=ht.size;omega,hc,⟨plus Sj W,J,λb hb=>?_,hv,hp⟩,(hI.pc.gr gW).touch ht (λa ha hs=>?_)⟩
  ·rcases hs with hs|hs
   ·left;rw[hs];exact hI.cy.od.r3
   ·rcases X b hs with h'|h'
    ·rcases(h.s2 b h').1 with N|N
     ·simp_all
     ·omega
    ·omega
  ·rcases hb with hb|hb
   ·simp_all
   omega
  ·cases ha;rcases hs with hs|hs
   ·have h1:=h.rl _ hI.cy.od.r3;have hs:g=z.bw:=hs;have:=h.ww;omega
   ·rcases X _ hs with h'|h'
    ·have:g<w2.heap.size:=(h.s2 _ h').2;omega
    grind
end
theorem ZS2(hC:Cyc w R y q z s)(hO:BV s v)(hT:AQ w)(htS:¬S 1)(htR:¬R 1)(hV:AE w S q v)(hdis:∀k,R k->¬S k)(hk:k<s.mv.length)(hkm:at_ s.mv k=false)
  (hE:BN v ((s.cf.to+s.lo k:Nat):Int) ((s.cf.to+s.hi k:Nat):Int)=0):Calls prog 140 #[pP y,iI k] w (Z3 w R S y q z s k v):=by
 have Y:=hO.st;have Jk:=Y.lohi hk;obtain⟨P,M,eP,M0,M1,hM⟩:=JPr Y hk
 have Zp:0<P.length:=by
  rcases ζF P.length with h|h
  ·rw[h,M0]at M1;omega
  ·exact h
 have Ul:=Y.n2;have Zf:s.cf.to+s.hi k<=v.n:=by have:=Y.fit;have:=Y.cf.ln;rw[hO.mid.n];omega
 have Jn:v.n<=524288:=by rw[hO.mid.n];exact Ul
 have Jh:EC s.L s.cf.bk (k:Int)=true:=by
  unfold EC;rw[φ Ω,φ (by rw[<-Y.len];omega)];rfl
 obtain⟨r1,r2,r3⟩:=O8 (base:=(s.cf.to:Int)) Jh;have ea:I8 s.L s.cf.bk s.cf.to k=((s.cf.to+s.lo k:Nat):Int):=by rw[r1];unfold Sl.lo;push_cast;rfl
 have ez:J2 s.L s.cf.bk s.cf.to k=((s.cf.to+s.hi k:Nat):Int):=by
  rw[r2];unfold Sl.hi;rw[show (k:Int)*(s.cf.bk:Int)=((k*s.cf.bk:Nat):Int)by push_cast;rfl];omega
 have hPl:P.length<=1048576:=by
  have:=ZbI Y.good Ω Y.bk.1 (base:=s.cf.to) (by have:=Y.cf.lm;have:=Y.cf.ln;omega) (k:Int);rw[eP]at this;have:=Y.bk.2;omega
 have Ua:s.mvd+s.lf=s.mv.length:=by
  unfold Sl.lf;have:s.mvd<=s.mv.length:=EY _ _;omega
 have hml:s.mv.length<=1048576:=by rw[Y.len];have:=NB (n:=AC s.L) Y.bk.1;have:=Y.N_le;omega
 have Xx:({s with mv:=s.mv.set k true}:Sl).mvd=s.mvd+1:=by
  show cnt (at_ (s.mv.set k true)) (s.mv.set k true).length=_
  rw[ζa,KM hk hkm];rfl
 have Yd:=(λ(W:World) (g:Gr w W)=>WV (hC.gr g).plan (k:Int));rw[ea,ez,r3]at Yd;have Ye:=(λ(W:World) (g:Gr w W)=>TD (hV.cut.gr g) (s.cf.to+s.lo k) (s.cf.to+s.hi k) Zf Ω);rw[hE]at Ye;have HC:=hC;have HO:=hO;have HT:=hT;have Xu:=(ξ htS htR);have HV:=hV;have Xz:=hdis;have HK:=(ξ hk (ξ hkm hE));have HP:=(ξ eP (ξ M0 (ξ M1 r3)));have HM:=hM;have Xs:=(ξ Ua Xx);have Zn:=ι hC.od.lt;obtain⟨af,Yi⟩:=ε (s.cf.to+s.lo k);obtain⟨az,Yq⟩:=ε (s.cf.to+s.hi k);have Xp:=ι (ξ Yi Yq);rw[<-Yi,<-Yq]at Ye Yd;have x0:=hC.rc.cc 0;have x8:=hC.rc.cc 8;have xl:=hC.rc.lt;clear hC hO Y hT htS htR hV hdis hk hkm hE eP M0 M1 hM Jh r1 r2 r3 ea ez Yi Yq Zf Jn Jk Xx;go_in
 go_upto_region 5 with(first|(go_at_call 210;refine Qa (Yd _ (Gr.refl w)) λw1 Xm=>?_;have Xv:=ι Xm;have y0:=(HC.gr Xm).rc.cell (j:=0) rfl;have yl:=(HC.gr Xm).rc.lt;clear Xm)|(go_at_call 125;refine Qa (Ye _ Xv.o) λw2⟨Ja,v1,Xj,Zm⟩=>?_;have Yg:=ι Ja;have Yj:=ι Xj;have Uf:=ι Zm;clear Ja Xj Zm))
 clear x0 x8 xl y0 yl;obtain⟨S2,Yr⟩:=ε (AD (plus (AD S w) w1) w2);have hz1:=Xv.o.size;have hz2:=Yg.o.size
 have Ju:Hid (∀b,S2 b->(S b/\b<w.heap.size\/w.heap.size<=b)/\b<w2.heap.size):=⟨λb hb=>by
  rw[Yr]at hb
  exact⟨hb.1.imp id (λh=>by omega),hb.2⟩⟩
 have Jz:Hid (AE w2 S2 q v1):=⟨by rw[Yr];exact Uf.o.cut⟩;have Xn:Hid (Cyc w2 R y q z s):=⟨(HC.gr Xv.o).touch Yg.o (λb hb h=>Xz b hb h.1)⟩;have Xw:Hid (AB (λb=>R b\/S b) w w2):=⟨(Xv.o.touch _).trans (Yg.o.mono (λb _ h=>.inr h.1))⟩;have Zs:Hid (AQ w2):=⟨HT.touch' Xw.o (λh=>h.elim Xu.2 Xu.1)⟩
 have Xc:Hid (MvK w w2 R S S2 s k v1 P M):=⟨⟨HO.st,HK.1,HK.2.1,HM,λi h1 h2=>by
  have e:=Yj.o;rw[Xp.o.1,Xp.o.2]at e;have h3:=HO.st.lohi HK.1;have h4:=HO.st.dsts (i:=s.hi k-1) Ω;have h5:=HO.mid.n
  exact XB HO.mid.ok Ω HK.2.2 e Ω Ω,HT,Xu.1,Xu.2,Ju.o,Xz,Zn.o,by omega⟩⟩
 have Ji:Hid (GE s s.is (λi=>!s.is i) (s.lo k) (s.hi k) v1 v1 (M 0)):=⟨by rw[HP.2.1];exact GE.zero (HO.mid.grow HO.st Yj.o) _ _⟩;have Zv:=ι (Y4j Xn.o.plan Zs.o (k:Int));rw[HP.1,HP.2.2.2]at Zv;have Zi:=ι Zp;have u8:=Xn.o.rc.cc 8;have ul:=Xn.o.rc.lt;clear Yr Zp;go_upto_region 6 with(go_at_call 211;refine(Zv.o).mono ?_;rintro e w3 ⟨A,cp,rfl,Zo,Yu,Ya⟩;obtain⟨g,rfl,I,-⟩:=Yu 0 Zi.o;have Xt:=ι Zo;have Jx:=ι Yu;have Xk:Hid (w2.heap.size<=g/\g<w3.heap.size):=⟨⟨Ya _ rfl,I⟩⟩;clear Zo Yu Ya I);clear u8 ul;have Jg:Hid (MvC w w2 w3 R S S2 y q z s k (M 0) v1 g P):=⟨⟨Xw.o.trans (Xt.o.touch _),Xt.o.touch _,Xn.o.gr Xt.o,⟨v1,Jz.o.gr Xt.o,Ji.o⟩,Jx.o⟩⟩;go_upto_region 7 with(fail)
 go_loopw [46] (λs46 wr=>∃i:Nat,i<=P.length/\Hid (MvC w w2 wr R S S2 y q z s k (M i) v1 g P)/\s46=iI i) (λs46 _=>P.length-(intOf s46).toNat)
 case atStart=>exact⟨0,ζe _,Jg,rfl⟩
 case round=>
  obtain⟨i,hi,HI,rfl⟩:=hrel;clear Jg;by_cases X:i<P.length
  ·have V:=ι X;have Uk:(i:Int)<(P.length:Int):=Ω
   obtain⟨g',Xh,I,k0,k1,k2⟩:=HI.o.pc i X;cases Xh;obtain⟨f,t,ef,et,-⟩:=Xc.o.copy Xk.o.1 X HI.o (Gr.refl wr)
   have Xa:Hid (∀W,Gr wr W->Calls prog 212 #[pP y,.agg #[iI f,iI t,iI (P[i].s:Nat)]] W λe w'=>e=.returned (.tuple #[])/\MvC w w2 w' R S S2 y q z s k (M (i+1)) v1 g P):=⟨λW gW=>by
    obtain⟨f',t',Ys,Yf,h⟩:=Xc.o.copy Xk.o.1 X HI.o gW;rw[ef]at Ys;rw[et]at Yf;obtain rfl:f=f':=Ω
    obtain rfl:t=t':=Ω
    exact h⟩
   obtain⟨n,hn⟩:=ε (P[i].s);rw[ef]at k0;rw[et]at k1;rw[<-hn]at k2 Xa;clear hn ef et X;have Z:=ι (Rec.new wr 295 [iI f,iI t,iI n]);simp only[List.toArray]at Z;go_upto_region 9 with(fail);obtain⟨wA,O⟩:=ε (wr.alloc (.cells #[.int .i64 f,.int .i64 t,.int .i64 n] 295));have Xg:Gr wr wA:=by rw[O];exact(Gr.refl wr).alloc _
   have hR:=Z.o;rw[show wr.alloc (.cells ([.int .i64 f,.int .i64 t,.int .i64 n]:List Value).toArray 295)=wA from O.symm]at hR;rw[<-O];have Yh:=ι Xg;obtain⟨b0,b1,b2,bl⟩:=hR.k3;clear O Xg Z hR k0 k1 k2 I;go_wp2_with(go_at_call 212;refine Qb (Xa.o _ Yh.o) λw5 Yw=>?_);go_roundw
   case rel=>exact⟨i+1,V.o,Yw,by go_num⟩
   case measure=>have:=V.o;simp[intOf];omega
  ·obtain rfl:i=P.length:=Ω
   clear X;obtain⟨w4,rfl⟩:=ε (wr:World);obtain⟨v2,Zx,Zr⟩:=HI.o.vm;have Uc:=ι Zx;have Zk:=ι Zr;have Je:=HI.o.t2.size
   have Jj:Hid (MvD w w4 w4 R S S2 y q z s k (M 0) v2 g P):=⟨⟨HI.o.t,μ _,by rw[HP.2.1,TA];exact HI.o.cy,⟨S2,v2,λb hb=>.inl hb,Uc.o,by
    rw[HP.2.1,TA];have:=Zk.o.mid;rw[HP.2.2.1]at this
    exact F2.zero this⟩,HI.o.pc⟩⟩
   have Ze:g<w4.heap.size:=by
    obtain⟨g',Xh,I,-⟩:=HI.o.pc 0 Zi.o;cases Xh;exact I
   have Zq:=ι Ze;clear Zx Zr Ze;go_upto_region 12 with(fail)
   go_loopw [56] (λs56 wr=>∃i:Nat,i<=P.length/\Hid (MvD w w4 wr R S S2 y q z s k (M i) v2 g P)/\s56=iI i) (λs56 _=>P.length-(intOf s56).toNat)
   case atStart=>exact⟨0,ζe _,Jj,rfl⟩
   case round=>
    obtain⟨i,hi,HD,rfl⟩:=hrel;clear Jj;by_cases X:i<P.length
    ·have V:=ι X;have Uk:(i:Int)<(P.length:Int):=Ω
     obtain⟨g',Xh,I,k0,k1,k2⟩:=HD.o.pc i X;cases Xh;obtain⟨f,t,ef,et,-⟩:=Xc.o.drain Je Ω ⟨Xk.o.1,Zq.o⟩ X HD.o (Gr.refl wr)
     have Xa:Hid (∀W,Gr wr W->Calls prog 213 #[pP y,.agg #[iI f,iI t,iI (P[i].s:Nat)]] W λe w'=>e=.returned (.tuple #[])/\MvD w w4 w' R S S2 y q z s k (M (i+1)) v2 g P):=⟨λW gW=>by
      obtain⟨f',t',Ys,Yf,h⟩:=Xc.o.drain Je Ω ⟨Xk.o.1,Zq.o⟩ X HD.o gW;rw[ef]at Ys;rw[et]at Yf;obtain rfl:f=f':=Ω
      obtain rfl:t=t':=Ω
      exact h⟩
     obtain⟨n,hn⟩:=ε (P[i].s);rw[ef]at k0;rw[et]at k1;rw[<-hn]at k2 Xa;clear hn ef et X;have Z:=ι (Rec.new wr 295 [iI f,iI t,iI n]);simp only[List.toArray]at Z;go_upto_region 14 with(fail);obtain⟨wA,O⟩:=ε (wr.alloc (.cells #[.int .i64 f,.int .i64 t,.int .i64 n] 295));have Xg:Gr wr wA:=by rw[O];exact(Gr.refl wr).alloc _
     have hR:=Z.o;rw[show wr.alloc (.cells ([.int .i64 f,.int .i64 t,.int .i64 n]:List Value).toArray 295)=wA from O.symm]at hR;rw[<-O];have Yh:=ι Xg;obtain⟨b0,b1,b2,bl⟩:=hR.k3;clear O Xg Z hR k0 k1 k2 I;go_wp2_with(go_at_call 213;refine Qb (Xa.o _ Yh.o) λw5 Yw=>?_);go_roundw
     case rel=>exact⟨i+1,V.o,Yw,by go_num⟩
     case measure=>have:=V.o;simp[intOf];omega
    ·obtain rfl:i=P.length:=Ω
     clear X;obtain⟨w6,rfl⟩:=ε (wr:World);obtain⟨Sj,vx,Jm,Zg,Yo⟩:=HD.o.vm;have E:=HD.o.cy;have hz6:=HD.o.sz;rw[HP.2.2.1]at E Yo;have hkI:(k:Int)<(s.mv.length:Int):=by have:=HK.1;omega
     have c4:=E.rc.cc 10;have cl:=E.rc.lt;have m0:=BU E.mv (LP HK.1);have mf:=GG E.mv;have Uh:=(A9 E.mv rfl).2;have Xd:=ι E;have Jp:=ι Zg;have Jo:=ι Yo;have Jf:=ι Jm
     have Xr:∀b,R b->¬Sj b:=λb hb h=>by
      have:=Zn.o b hb;rcases Jf.o b h with h|h
      ·exact Xc.o.r2 b hb h
      ·omega
     have Zw:=ι Xr;clear E Zg Yo Jm Xr;go_upto_region 17 with(fail);have Xl:=(World.ownsRow.stored Xd.o.mv k (.bool true)).1;rw[QPU]at Xl;obtain⟨w7,Yx⟩:=ε (w6.setCell ⟨z.bm,k,none⟩ (.bool true));have Yv:AB (λi=>i=z.bm) w6 w7:=by rw[Yx];exact(AB.refl (λi=>i=z.bm) w6).setCell (a:=⟨z.bm,k,none⟩) (λ_=>rfl) _
     rw[<-Yx]at Xl⊢;have Xb:BL w7 R y q z s (CT (λi=>!s.is i) (s.lo k) (s.hi k-s.lo k)) (s.mv.set k true) s.lf s.ft (s.mvd-s.ft):=Xd.o.setM (ζa ..) Yv (by rw[ζa];exact Xl);have Ud:=ι Yv;have Yb:=ι Xb;have e5:=Xb.rc.cc 11;have ef:=Xb.rc.free;have el:=Xb.rc.lt;clear Yx Xl Yv Xb c4 cl m0 mf Uh
     have Zh:s.mvd<s.mv.length:=by
      have:=Xs.2;have h2:({s with mv:=s.mv.set k true}:Sl).mvd<=(s.mv.set k true).length:=EY _ _;rw[ζa]at h2;omega
     have Zu:s.ft<=s.mvd:=by
      have:=QJ (l:=s.mv) (m:=s.ft) s.ft_le (λi hi=>s.ft_on hi)
      show s.ft<=cnt (at_ s.mv) s.mv.length
      omega
     obtain⟨l1,Zj⟩:∃l1,s.lf=l1+1:=⟨s.lf-1,by omega⟩;have Ub:(s.lf:Int)-1=(l1:Int):=Ω
     have Jw:=ι Zj;have Zd:=ι (ξ Zh Zu);have Jq:s.lf<=1048576:=Ω
     clear Zj Zh Zu;go_upto_region 18 with(fail);obtain⟨w8,Ym⟩:=ε (w7.setCell ⟨y,11,none⟩ (.int .i64 l1));have Yt:AB (λi=>i=y) w7 w8:=by rw[Ym];exact(AB.refl (λi=>i=y) w7).setCell (a:=⟨y,11,none⟩) (λ_=>rfl) _
     have Yk:=Yb.o.rc.set 11 (iI l1);rw[<-Ym]at Yk⊢;have G:BL w8 R y q z s (CT (λi=>!s.is i) (s.lo k) (s.hi k-s.lo k)) (s.mv.set k true) l1 s.ft (s.mvd-s.ft):=Yb.o.setR Yt Yk;have Jv:=ι Yt;have Xy:=ι G;have g7:=G.rc.cc 13;have gf:=G.rc.free;have gl:=G.rc.lt;obtain⟨a0,Yy⟩:=ε (s.mvd-s.ft);rw[<-Yy]at g7;have ha0b:a0<=1048576:=Ω
     have Ue:=ι Yy;clear Ym Yk Yt G e5 ef el Ub Jq Yy;go_upto_region 19 with(fail);obtain⟨w9,Yc⟩:=ε (w8.setCell ⟨y,13,none⟩ (.int .i64 ((a0:Int)+1)));have Zb:AB (λi=>i=y) w8 w9:=by rw[Yc];exact(AB.refl (λi=>i=y) w8).setCell (a:=⟨y,13,none⟩) (λ_=>rfl) _
     have Yz:=Xy.o.rc.set 13 (iI ((a0:Int)+1));rw[<-Yc]at Yz⊢;have Zz:Hid (BL w9 R y q z s (CT (λi=>!s.is i) (s.lo k) (s.hi k-s.lo k)) (s.mv.set k true) l1 s.ft (a0+1)):=⟨Xy.o.setR Zb Yz⟩;have Jy:=ι Zb;have N:(s.mv.set k true).length=s.mv.length:=ζa ..;obtain⟨ml,J⟩:=ε (s.mv.set k true);have Yn:=ι J;obtain⟨Ux,Yp⟩:=ε (CT (λi=>!s.is i) (s.lo k) (s.hi k-s.lo k));have Js:=ι Yp
     have Zy:Hid (MvF w9 w9 R y q z s Ux ml l1 (s.mvd+1) s.ft (a0+1)):=⟨by rw[Yp,J];exact Zz.o,AB.refl _ _,λi hi=>by
      have h1:=s.ft_on hi
      rw[J,GU HK.1,h1];split <;> rfl,by have h1:=Ue.o;have h2:=Zd.o;omega,by rw[J,N];exact s.ft_le⟩
     rw[<-J]at N;have hmlb:ml.length<=1048576:=Ω
     have HFT:=ι s.ft_le;have HL2:=ι N;have hsm:s.mvd<=1048576:=by have:=Zd.o;omega
     have Zt:Hid (∀(wr:World) (fc ac nq:Nat),MvF w9 wr R y q z s Ux ml l1 (s.mvd+1) fc ac->first (λk=>!at_ ml k) ml.length=fc->Z3 w R S y q z s k v (.returned (iI 0)) (wr.drewN nq)):=⟨λwr fc ac nq hf hx=>by
      have hy:=Xd.o.od.r1;have Jc:=Xd.o.od.r2;have Y:=HO.st;have Jk:=Y.lohi HK.1;have tw:AB (λi=>i=y\/i=z.bm) w6 (wr.drewN nq):=((((Ud.o.mono (λb _ h=>.inr h)).trans (Jv.o.mono (λb _ h=>.inl h))).trans (Jy.o.mono (λb _ h=>.inl h))).trans (hf.t.mono (λb _ h=>.inl h))).trans (((Gr.refl wr).drewN nq).touch _)
      have Xr:∀b,b=y\/b=z.bm->¬Sj b:=λb hb h=>by
       rcases hb with rfl|rfl
       ·exact Zw.o _ hy h
       ·exact Zw.o _ Jc h
      have hwn:=Xc.o.ww;have Xj:=Yj.o;rw[Xp.o.1,Xp.o.2]at Xj;have Zc:=Zk.o;rw[HP.2.2.1]at Zc
      have Jb:∀j,j<AC s.L->CT (λi=>!s.is i) (s.lo k) (s.hi k-s.lo k) j=!(s.is j||s.inB k j):=λj hj=>by
       have h1:=Y.inB (k:=k) hj;unfold CT;cases hb:s.inB k j with
       | true=>
        obtain⟨h2,h3⟩:=h1.1 hb;rw[φ h2,φ Ω];simp
       | false=>
        have h4:¬(s.lo k<=j/\j<s.hi k):=λh=>by rw[h1.2 h]at hb;cases hb
        by_cases h5:s.lo k<=j
        ·rw[ζ (show ¬j<s.lo k+(s.hi k-s.lo k)by omega)];simp
        ·rw[ζ h5];simp
      have Uj:=OH.of HO HK.1 HK.2.1 HK.2.2 Xj Zc (D:=λj=>s.is j||(decide (s.lo k<=j)&&decide (j<s.lo k+(s.hi k-s.lo k)))) (λj hj=>by
       have h1:=Y.inB (k:=k) hj;cases hb:s.inB k j with
       | true=>
        obtain⟨h2,h3⟩:=h1.1 hb;rw[φ h2,φ Ω];rfl
       | false=>
        have h4:¬(s.lo k<=j/\j<s.hi k):=λh=>by rw[h1.2 h]at hb;cases hb
        by_cases h5:s.lo k<=j
        ·rw[ζ (show ¬j<s.lo k+(s.hi k-s.lo k)by omega),ψW]
        ·rw[ζ h5,Bool.false_and]) Jb Jo.o
      refine⟨rfl,?_,?_,vx,?_,Uj⟩
      ·exact HD.o.t.trans (tw.mono (λb _ h=>by
        rcases h with rfl|rfl
        ·exact .inl hy
        ·exact .inl Jc))
      ·have h1:BL (wr.drewN nq) R y q z s (λi=>!({s with mv:=s.mv.set k true}:Sl).is i) ml l1 fc ac:=(hf.cy.gr ((Gr.refl wr).drewN nq)).cu (λj hj=>by rw[Js.o,Jb j hj,Sl.is_put HK.1]);have e1:({s with mv:=s.mv.set k true}:Sl).ft=fc:=by rw[<-hx,Yn.o];rfl
       have e2:({s with mv:=s.mv.set k true}:Sl).mvd=s.mvd+1:=Xs.2
       have e3:({s with mv:=s.mv.set k true}:Sl).lf=l1:=by
        show (s.mv.set k true).length-({s with mv:=s.mv.set k true}:Sl).mvd=l1
        rw[e2,ζa];have:=Xs.1;have:=Jw.o;omega
       have e4:s.mvd+1-fc=ac:=by have:=hf.sum;omega
       show BL _ R y q z {s with mv:=s.mv.set k true} _ (s.mv.set k true) _ _ _
       rw[e1,e2,e3,e4];rw[Yn.o]at h1;exact h1.same rfl rfl rfl rfl rfl
      ·refine(Jp.o.touch tw (λb hb _ h=>Xr b h hb)).mono (λb hb=>?_);rcases Jf.o b hb with h|h
       ·rcases(Xc.o.s2 b h).1 with h|h
        ·exact .inl h.1
        ·exact .inr h
       ·right;omega⟩
     clear Yc Yz Zb g7 gf gl J Yp N
     go_loopw [] (λwr=>∃fc ac:Nat,Hid (MvF w9 wr R y q z s Ux ml l1 (s.mvd+1) fc ac)) (λwr=>ml.length-MX wr y 12)
     case atStart=>exact⟨s.ft,a0+1,Zy⟩
     case round=>
      obtain⟨fc,ac,HF⟩:=hrel;clear Zy;have q4:=HF.o.cy.rc.cc 10;have q6:=HF.o.cy.rc.cc 12;have q7:=HF.o.cy.rc.cc 13;have qf:=HF.o.cy.rc.free;have ql:=HF.o.cy.rc.lt;by_cases X:fc<ml.length
      ·have Xo:(fc:Int)<(ml.length:Int):=Ω
       have d0:decide ((fc:Int)<(ml.length:Int))=true:=φ Xo;have n0:=BU HF.o.cy.mv (LP X);have nl:=(A9 HF.o.cy.mv rfl).2;have V:=ι X;clear X;by_cases hb:at_ ml fc=true
       ·rw[hb]at n0;have HB:=ι hb
        have Ui:1<=ac:=by
         have h1:=QJ (l:=ml) (m:=fc+1) V.o (λj hj=>by
          rcases δ j fc with h|h
          ·exact HF.o.on j h
          ·obtain rfl:j=fc:=Ω
           exact HB.o)
         have h2:cnt (at_ ml) ml.length=s.mvd+1:=by
          have:=Xs.2;rw[Yn.o];exact this
         have h3:=HF.o.sum;omega
        have hsum:ac<=1048577:=by have:=HF.o.sum;omega
        obtain⟨a1,rfl⟩:∃a1,ac=a1+1:=⟨ac-1,by omega⟩;have ha1:((a1+1:Nat):Int)-1=(a1:Int):=Ω
        have Jl:(fc:Int)+1=((fc+1:Nat):Int):=Ω
        have Jr:=ι Jl;clear hb Jl Ui;go_upto_region 19 with(fail);go_quiet (fail);have Xf:=ι (HF.o.cy.gr ((Gr.refl wr).drewN nq));have Zl:Hid (AB (λi=>i=y) w9 (wr.drewN nq)):=⟨HF.o.t.trans (((Gr.refl wr).drewN nq).touch _)⟩;obtain⟨wq,Jd⟩:=ε (wr.drewN nq);rw[<-Jd]at Xf Zl⊢;have g6:=Xf.o.rc.cc 12;have gf:=Xf.o.rc.free;have gl:=Xf.o.rc.lt;clear Jd q4 q6 q7 qf ql n0 nl d0;go_upto_region 21 with(fail);obtain⟨wp,Za⟩:=ε (wq.setCell ⟨y,12,none⟩ (.int .i64 ((fc:Int)+1)));have tp:AB (λi=>i=y) wq wp:=by rw[Za];exact(AB.refl (λi=>i=y) wq).setCell (a:=⟨y,12,none⟩) (λ_=>rfl) _
        have Xq:=Xf.o.rc.set 12 (iI ((fc:Int)+1));rw[<-Za]at Xq⊢;rw[Jr.o]at Xq;have Xe:Hid (BL wp R y q z s Ux ml l1 (fc+1) (a1+1)):=⟨Xf.o.setR tp Xq⟩;have Ug:=ι tp;have g7:=Xe.o.rc.cc 13;have gf2:=Xe.o.rc.free;have gl2:=Xe.o.rc.lt;clear Za tp Xq g6 gf gl;go_wp2;go_roundw
        case rel=>
         have tz:AB (λi=>i=y) wp (wp.setCell ⟨y,13,none⟩ (.int .i64 a1)):=(AB.refl (λi=>i=y) wp).setCell (a:=⟨y,13,none⟩) (λ_=>rfl) _;have Jt:=Xe.o.rc.set 13 (iI a1);refine⟨fc+1,a1,⟨⟨Xe.o.setR tz Jt,(Zl.o.trans Ug.o).trans tz,λj hj=>?_,by have:=HF.o.sum;omega,V.o⟩⟩⟩;rcases δ j fc with h|h
         ·exact HF.o.on j h
         ·obtain rfl:j=fc:=Ω
          exact HB.o
        case measure=>
         have c1:=HF.o.cy.rc.cc 12;have c2:=(Xe.o.rc.set 13 (iI a1)).cell (j:=12) rfl;unfold MX;rw[c1,c2];have:=V.o;simp[intOf];omega
       ·have Yl:at_ ml fc=false:=by simpa using hb
        rw[Yl]at n0;have HB:=ι Yl;have HX:Hid (first (λk=>!at_ ml k) ml.length=fc):=⟨GW HF.o.le (λi hi=>by rw[HF.o.on i hi];rfl) (λ_=>by rw[HB.o];rfl)⟩;clear hb Yl;go_wp2;go_quiet (fail);go_wp2;go_ret;exact Zt.o _ _ _ _ HF.o HX.o
      ·have Xo:¬(fc:Int)<(ml.length:Int):=Ω
       have d0:decide ((fc:Int)<(ml.length:Int))=false:=ζ Xo;have d1:decide (fc<ml.length)=false:=ζ X;have HX:Hid (first (λk=>!at_ ml k) ml.length=fc):=⟨GW HF.o.le (λi hi=>by rw[HF.o.on i hi];rfl) (λh=>absurd h X)⟩;clear X Xo;go_wp2;go_quiet (fail);go_wp2;go_ret;exact Zt.o _ _ _ _ HF.o HX.o
section
variable{lf ft:Nat}
theorem QXi(hC:BL w R y q z s U ml lf ft ah):cQ 76 #[pP y] w (iI ml.length):=by
 have c0:=hC.rc.cc 10;go_enter func76,ntmps76;go_wp2;go_ret
 simp_all
theorem VWU(hC:BL w R y q z s U ml lf ft ah):cQ 75 #[pP y] w (iI lf):=by
 have c0:=hC.rc.cc 11;go_enter func75,ntmps75;go_wp2;go_ret
 simp_all
theorem ViW(hC:BL w R y q z s U ml lf ft ah):cQ 141 #[pP y] w (.bool (decide (lf=0))):=by
 have HL:=(VWU hC);have hd:((lf:Int)==0)=decide (lf=0):=by grind
 go_enter func141,ntmps141;go_wp2_with(go_at_call 75;refine AJ (HL) ?_);go_ret
 simp_all
theorem YCd(hC:BL w R y q z s U ml lf ft ah):BB prog 122 #[pP y] w (iI ((s.cf.to:Int)+(AC s.L:Nat))):=by
 obtain⟨h1,h2,h3,f,c0,c1,hF⟩:=hC.plan;have x8:=hC.rc.cc 8;have X:=(UG c0);have Z:=(OR hF);go_enter func122,ntmps122
 go_wp2_with(first|(go_at_call 187;refine AJ (X) ?_)|(go_at_call 134;refine Qa (Z) λw2 HG2=>?_))
 go_ret
 simp_all
end
def ftL(l:List Bool):Nat:=first (λk=>!at_ l k) l.length
def CI(l:List Bool):Nat:=cnt (at_ l) l.length
def C7(l:List Bool):List Bool:=if ftL l<l.length then l.set (ftL l) true else l
def II(A k:Nat):Nat->List Bool->List Bool
 | 0,l=>l
 | n+1,l=>if ftL l<k/\A<=CI l-ftL l then II A k n (C7 l)else l
def J8(A k:Nat)(l:List Bool):List Bool:=if at_ l k then l else (II A k k l).set k true
theorem TR(l:List Bool):(C7 l).length=l.length:=by unfold C7;grind
theorem JSM(A k n:Nat)(l:List Bool):(II A k n l).length=l.length:=by
 induction n generalizing l with
 | zero=>rfl
 | succ n ih=>unfold II;grind [TR]
theorem MK(h:i<ftL l):at_ l i=true:=by
 have:=JA (λk=>!at_ l k) l.length i h
 simp_all
theorem JVx(h:at_ l k=false):ftL l<=k:=by
 grind [δ,MK]
theorem Vhb(h:ftL l<l.length):ftL l<ftL (C7 l):=by
 unfold C7;rw[θ h];rcases δ (ftL l) (ftL (l.set (ftL l) true))with g|g
 ·exact g
 ·exfalso;have h1:(!at_ (l.set (ftL l) true) (ftL (l.set (ftL l) true)))=true:=H7 (λk=>!at_ (l.set (ftL l) true) k) _ (show ftL (l.set (ftL l) true)<_ by grind)
  grind [GU,MK]
theorem Zk8(h:at_ l k=false)(hk:ftL l<k):at_ (C7 l) k=false:=by
 unfold C7
 split
 ·rename_i g;rw[GU g,ψ Ω];exact h
 ·exact h
structure SlJ(A:Sl->Vm->Prop):Prop where
 need:∀s v k,BV s v->A s v->k<s.mv.length->at_ s.mv k=false->(k=s.ft\/s.mvd-s.ft<s.cf.ah)->BN v ((s.cf.to+s.lo k:Nat):Int) ((s.cf.to+s.hi k:Nat):Int)=0
 step:∀s v k v',BV s v->A s v->k<s.mv.length->at_ s.mv k=false->(k=s.ft\/s.mvd-s.ft<s.cf.ah)->OH s k v v'->A {s with mv:=s.mv.set k true} v'
structure KP(w w':World)(R S:Nat->Prop)(y q:Nat)(z:CH)(A:Sl->Vm->Prop)(s':Sl)(v':Vm):Prop where
 t:AB (λb=>R b\/S b) w w'
 cy:Cyc w' R y q z s'
 vm:AE w' (plus S w) q v'
 ok:BV s' v'
 j:A s' v'
def Sl.step(s:Sl):Sl:={s with mv:=C7 s.mv}
def Sl.tch(s:Sl)(a:Int):Sl:={s with mv:=if inF s.L s.cf.to a then J8 s.cf.ah ((a-s.cf.to).toNat/s.cf.bk) s.mv else s.mv}
theorem Sl.lf_zero(s:Sl):s.lf=0↔¬s.ft<s.mv.length:=by
 have h1:=QJ (l:=s.mv) (m:=s.ft) s.ft_le (λi hi=>s.ft_on hi);have h2:s.mvd<=s.mv.length:=EY _ _;have h3:s.mvd=cnt (at_ s.mv) s.mv.length:=rfl;constructor
 ·intro h hf;have h4:=s.ft_off hf;have h5:=KM hf h4;have h6:cnt (at_ (s.mv.set s.ft true)) s.mv.length<=s.mv.length:=EY _ _;unfold Sl.lf at h;omega
 ·unfold Sl.lf;omega
section
variable{A:Sl->Vm->Prop}
def ZH(w:World)(R S:Nat->Prop)(y q:Nat)(z:CH)(A:Sl->Vm->Prop)(s:Sl)(e:Ending)(w':World):Prop:=
 ∃v',e=.returned (.tuple #[.bool (decide (s.ft<s.mv.length)),iI 0])/\KP w w' R S y q z A s.step v'
theorem Z6(hJ:SlJ A)(hC:Cyc w R y q z s)(hO:BV s v)(hA:A s v)(hT:AQ w)(htS:¬S 1)(htR:¬R 1)(hV:AE w S q v)(hdis:∀k,R k->¬S k):Calls prog 61 #[pP y] w (ZH w R S y q z A s):=by
 have X:=s.lf_zero;have c5:=hC.rc.cc 11;have c6:=hC.rc.cc 12;have cl:=hC.rc.lt;by_cases hf:s.ft<s.mv.length
 ·have hk:=s.ft_off hf;have HM:=(ZS2 hC hO hT htS htR hV hdis hf hk (hJ.need s v s.ft hO hA hf hk (.inl rfl)))
  have HR:Hid (∀w',Z3 w R S y q z s s.ft v (.returned (iI 0)) w'->ZH w R S y q z A s (.returned (.tuple #[.bool true,iI 0])) w'):=⟨λw' ⟨_,ht,hc,v',hv,hm⟩=>by
   have e:s.step={s with mv:=s.mv.set s.ft true}:=by
    unfold Sl.step C7;rw[θ (show ftL s.mv<s.mv.length from hf)];rfl
   refine⟨v',by rw[φ hf],ht,?_,hv,?_,?_⟩
   ·rw[e];exact hc
   ·rw[e];exact hm.ok
   ·rw[e];exact hJ.step s v s.ft v' hO hA hf hk (.inl rfl) hm⟩
  have hl0:s.lf≠0:=λh=>X.1 h hf;have d0:((s.lf:Int)==0)=false:=by simp;omega
  go_in;go_wp2_with(go_at_call 140;refine Qa (HM) λw1 Y=>?_);go_ret2;exact HR.o _ ⟨rfl,Y⟩
 ·have HR:Hid (ZH w R S y q z A s (.returned (.tuple #[.bool false,iI 0])) w):=⟨by
   have e:s.step=s:=by
    unfold Sl.step C7;rw[ψ (show ¬ftL s.mv<s.mv.length from hf)]
   refine⟨v,by rw[ζ hf],AB.refl _ _,?_,hV.mono (λ_ h=>.inl h),?_,?_⟩
   ·rw[e];exact hC
   ·rw[e];exact hO
   ·rw[e];exact hA⟩
  go_in;go_wp2;go_ret2;exact HR.o
def XP(w:World)(R S:Nat->Prop)(y q:Nat)(z:CH)(A:Sl->Vm->Prop)(s:Sl)(a:Int)(e:Ending)(w':World):Prop:=
 ∃v',e=.returned (iI 0)/\KP w w' R S y q z A (s.tch a) v'
structure MC(w wr:World)(R S:Nat->Prop)(y q:Nat)(z:CH)(A:Sl->Vm->Prop)(s:Sl)(k n:Nat)(l:List Bool):Prop where
 t:AB (λb=>R b\/S b) w wr
 cy:Cyc wr R y q z {s with mv:=l}
 vm:∃Sj v',(∀b,Sj b->(S b/\b<w.heap.size)\/w.heap.size<=b)/\AE wr Sj q v'/\BV {s with mv:=l} v'/\A {s with mv:=l} v'
 len:l.length=s.mv.length
 un:at_ l k=false
 run:II s.cf.ah k n l=II s.cf.ah k k s.mv
 n:k-ftL l<=n
theorem MC.step(h:MC w wr R S y q z A s k n l)(hJ:SlJ A)(g:Gr wr W)(hT:AQ w)(htS:¬S 1)(htR:¬R 1)(hdis:∀k,R k->¬S k)(hlt:∀k,R k->k<w.heap.size)(hk:k<s.mv.length)(h1:ftL l<k)(h2:s.cf.ah<=CI l-ftL l):Calls prog 61 #[pP y] W λe w'=>e=.returned (.tuple #[.bool true,iI 0])/\∃n',MC w w' R S y q z A s k n' (C7 l)/\ftL l<ftL (C7 l):=by
 obtain⟨Sj,v',V,hv,ho,ha⟩:=h.vm;have hz:=h.t.size;have hf:ftL l<l.length:=by rw[h.len];omega
 have J:AQ W:=(hT.touch' h.t (λh'=>h'.elim htR htS)).touch' (g.touch (λ_=>False)) (λh=>h);have htl:=hT.lt;refine(Z6 hJ (h.cy.gr g) ho ha J (λh'=>?_) htR (hv.gr g) (λb hb h'=>?_)).mono ?_
 ·grind
 ·grind
 ·rintro e w' ⟨Z,rfl,X⟩;have hgz:=g.size;have Y:=Vhb hf;obtain⟨n',rfl⟩:∃n',n=n' + 1:=⟨n-1,by have:=h.n;omega⟩;refine⟨by rw[show decide (({s with mv:=l}:Sl).ft<({s with mv:=l}:Sl).mv.length)=true from φ hf],n',⟨?_,X.cy,⟨plus Sj W,Z,λb hb=>?_,X.vm,X.ok,X.j⟩,by rw[TR];exact h.len,Zk8 h.un h1,?_,by have:=h.n;omega⟩,Y⟩
  ·refine(h.t.trans (g.touch _)).trans' X.t (λb hb hs=>?_)
   grind
  ·rcases hb with h|h
   ·exact V b h
   omega
  ·rw[<-h.run]
   show _=(if ftL l<k/\s.cf.ah<=CI l-ftL l then II s.cf.ah k n' (C7 l)else l)
   simp_all
theorem MC.fin{a:Int}(h:MC w wr R S y q z A s k n l)(hJ:SlJ A)(g:Gr wr W)(hT:AQ w)(htS:¬S 1)(htR:¬R 1)(hdis:∀k,R k->¬S k)(hlt:∀k,R k->k<w.heap.size)(hk:k<s.mv.length)(hm:at_ s.mv k=false)(hc:¬(ftL l<k/\s.cf.ah<=CI l-ftL l))(he:s.tch a={s with mv:=J8 s.cf.ah k s.mv}):Calls prog 140 #[pP y,iI k] W λe w'=>e=.returned (iI 0)/\XP w R S y q z A s a (.returned (iI 0)) w':=by
 obtain⟨Sj,v',O,hv,ho,ha⟩:=h.vm;have hz:=h.t.size;have hgz:=g.size;have N:AQ W:=(hT.touch' h.t (λh'=>h'.elim htR htS)).touch' (g.touch (λ_=>False)) (λh=>h);have htl:=hT.lt;have X:k<({s with mv:=l}:Sl).mv.length:=by rw[h.len];exact hk
 have hfk:=JVx h.un
 have Z:k=({s with mv:=l}:Sl).ft\/({s with mv:=l}:Sl).mvd-({s with mv:=l}:Sl).ft<({s with mv:=l}:Sl).cf.ah:=by
  rcases δ (ftL l) k with h'|h'
  ·right
   show CI l-ftL l<s.cf.ah
   omega
  ·left
   show k=ftL l
   omega
 refine(ZS2 (h.cy.gr g) ho N (λh'=>?_) htR (hv.gr g) (λb hb h'=>?_) X h.un (hJ.need _ _ k ho ha X h.un Z)).mono ?_
 ·grind
 ·grind
 ·rintro e w' ⟨rfl,ht,hcy,Y,V,J⟩
  have er:II s.cf.ah k n l=l:=by
   cases n with
   | zero=>rfl
   | succ n=>unfold II;grind
  have et:s.tch a={s with mv:=l.set k true}:=by
   rw[he];unfold J8;rw[ψ (by simp_all),<-h.run,er]
  refine⟨rfl,Y,rfl,?_,by simp_all,V.mono (λb hb=>?_),by rw[et];exact J.ok,by rw[et];exact hJ.step _ _ k Y ho ha X h.un Z J⟩
  ·refine(h.t.trans (g.touch _)).trans' ht (λb hb hs=>?_)
   grind
  ·rcases hb with h|h
   ·rcases O b h with h|h
    ·exact .inl h.1
    ·exact .inr h
   ·right;omega
theorem Qym(hJ:SlJ A)(hC:Cyc w R y q z s)(hO:BV s v)(hA:A s v)(hT:AQ w)(htS:¬S 1)(htR:¬R 1)(hV:AE w S q v)(hdis:∀k,R k->¬S k)(a:Int)(ha:a<=9223372036854775807):Calls prog 326 #[pP y,iI a] w (XP w R S y q z A s a):=by
 have N:=(ZAe hC.plan hT a ha);have c8:=hC.rc.cc 8;have cl:=hC.rc.lt;have E:Hid (s.tch a=s->XP w R S y q z A s a (.returned (iI 0)) w):=⟨λe=>⟨v,rfl,AB.refl _ _,by rw[e];exact hC,hV.mono (λ_ h=>.inl h),by rw[e];exact hO,by rw[e];exact hA⟩⟩;cases hin:inF s.L s.cf.to a with
 | false=>
  have e:s.tch a=s:=by unfold Sl.tch;rw[hin];rfl
  have HE:=(E.o e);obtain⟨-,-,e3⟩:=N4 hin;rw[e3]at N;obtain⟨bv,Xn⟩:=ε (IN s.L s.cf.to s.cf.bk a);rw[<-Xn]at N;clear hC hO hA hT htS htR hV hdis hJ hin e e3 Xn E;go_in;go_wp2_with(go_at_call 327;refine Qa (N) λw1 Y=>?_);go_ret;obtain⟨v',e1,h⟩:=HE;exact⟨v',rfl,h.t.trans (Y.touch _),h.cy.gr Y,h.vm.gr Y,h.ok,h.j⟩
 | true=>
  have Z:=hO.st;obtain⟨i,rfl⟩:∃i:Nat,a=((s.cf.to+i:Nat):Int):=⟨(a-s.cf.to).toNat,by have:=(F6.1 hin).1;omega⟩;have Xd:i<AC s.L:=by have:=(F6.1 hin).2;omega
  obtain⟨k,hk⟩:=ε (i/s.cf.bk);have G:k<s.mv.length:=by rw[hk];exact Z.blk Xd
  have Xs:IN s.L s.cf.to s.cf.bk ((s.cf.to+i:Nat):Int)=(k:Int):=by
   unfold IN;rw[hin,θ rfl,show ((s.cf.to+i:Nat):Int)-(s.cf.to:Int)=(i:Int)by omega,hk];rfl
  rw[Xs,(NS Xd).2]at N
  have J:s.tch ((s.cf.to+i:Nat):Int)={s with mv:=J8 s.cf.ah k s.mv}:=by
   unfold Sl.tch;rw[hin,θ rfl,show (((s.cf.to+i:Nat):Int)-(s.cf.to:Int)).toNat=i by omega,<-hk]
  have Xu:(k:Int)<(s.mv.length:Int):=Ω
  have hml:s.mv.length<=1048576:=by rw[Z.len];have:=NB (n:=AC s.L) Z.bk.1;have:=Z.N_le;have:=Z.n2;omega
  have Xz:=(F6.1 hin);have O:=J;obtain⟨a,Xg⟩:=ε (((s.cf.to+i:Nat):Int):Int);rw[<-Xg]at N E J O⊢;clear hin hk Xs Xz;by_cases hm:at_ s.mv k=true
  ·have e:s.tch a=s:=by
    rw[J];unfold J8;rw[θ hm]
   have HE:=(E.o e);have HX:=(λ(W:World) (g:Gr w W)=>(hC.gr g).rc.cell (j:=10) rfl);have Xh:=(λ(W:World) (g:Gr w W)=>(hC.gr g).rc.lt);have Xa:=(λ(W:World) (g:Gr w W)=>BU (hC.gr g).mv (LP G));have Xf:=(λ(W:World) (g:Gr w W)=>(A9 (hC.gr g).mv rfl).2);rw[hm]at Xa;clear hC hO hA hT htS htR hV hdis hJ Z Xd Xg J O e E hm G;go_in;go_wp2_with(go_at_call 327;refine Qa (N) λw1 X=>?_;have Y:=X;have y4:=HX _ X;have yl:=Xh _ X;have y5:=Xa _ X;have y6:=Xf _ X;clear X);go_ret;obtain⟨v',e1,h⟩:=HE;exact⟨v',rfl,h.t.trans (Y.touch _),h.cy.gr Y,h.vm.gr Y,h.ok,h.j⟩
  ·have hm:at_ s.mv k=false:=by simpa using hm
   have HX:=(λ(W:World) (g:Gr w W)=>(hC.gr g).rc.cell (j:=10) rfl);have Xh:=(λ(W:World) (g:Gr w W)=>(hC.gr g).rc.lt);have Xa:=(λ(W:World) (g:Gr w W)=>BU (hC.gr g).mv (LP G));have Xf:=(λ(W:World) (g:Gr w W)=>(A9 (hC.gr g).mv rfl).2);rw[hm]at Xa;have Ya:Hid (∀W,Gr w W->MC w W R S y q z A s k k s.mv):=⟨λW g=>⟨g.touch _,hC.gr g,⟨AD S w,v,λb hb=>.inl hb,hV.cut.gr g,hO,hA⟩,rfl,hm,rfl,by omega⟩⟩;have HS:=(ξ hT (ξ htS (ξ htR (ξ hdis (ξ hC.od.lt G)))));have HJ:=hJ;have hahb:s.cf.ah<=16:=Z.cf.ah;have HM:=hm;clear hC hO hA hT htS htR hV hdis hJ Z Xd Xg J E hm G;go_in;go_upto_region 6 with(go_at_call 327;refine Qa (N) λw1 X=>?_;have Y:=X;have y4:=HX _ X;have yl:=Xh _ X;have y5:=Xa _ X;have y6:=Xf _ X;clear X);clear y4 yl y5 y6 c8 cl
   go_loopw [] (λwr=>∃(n:Nat) (l:List Bool),Hid (MC w wr R S y q z A s k n l)) (λwr=>k-MX wr y 12)
   case atStart=>exact⟨k,s.mv,⟨Ya.o _ Y⟩⟩
   case round=>
    obtain⟨n,l,HI⟩:=hrel;have q6:wr.cell? ⟨y,12,none⟩=some (iI (ftL l:Nat)):=HI.o.cy.rc.cc 12;have q7:wr.cell? ⟨y,13,none⟩=some (iI (CI l-ftL l:Nat)):=HI.o.cy.rc.cc 13;have qa:=HI.o.cy.rc.cc 7;have ql:=HI.o.cy.rc.lt;obtain⟨fc,Xc⟩:=ε (ftL l);obtain⟨ac,Xe⟩:=ε (CI l-fc);have Xv:=ι Xc;rw[<-Xc]at q6 q7;rw[<-Xe]at q7;have Xr:Hid (ac=CI l-ftL l):=⟨by rw[Xe,Xc]⟩;clear Xc Xe;by_cases V:fc<k
    ·have Xt:(fc:Int)<(k:Int):=Ω
     have d0:decide ((fc:Int)<(k:Int))=true:=φ Xt;have Xx:decide (fc<k)=true:=φ V;by_cases I:s.cf.ah<=ac
     ·have d1:decide ((s.cf.ah:Int)<=(ac:Int))=true:=φ Ω;have Xw:decide (s.cf.ah<=ac)=true:=φ I;have Xk:Hid (ftL l<k/\s.cf.ah<=CI l-ftL l):=⟨by rw[<-Xv.o];exact V,by rw[<-Xr.o];exact I⟩;clear V I;go_wp2;go_quiet (fail);have Yb:=(HI.o.step HJ ((Gr.refl wr).drewN nq) HS.1 HS.2.1 HS.2.2.1 HS.2.2.2.1 HS.2.2.2.2.1 HS.2.2.2.2.2 Xk.o.1 Xk.o.2);go_wp2_with(go_at_call 61;refine Qa (Yb) λw5⟨n',Xo,Xq⟩=>?_;have Xp:=ι Xo;have Xy:=Xq;clear Xo Xq);go_roundw
      case rel=>exact⟨n',C7 l,Xp⟩
      case measure=>
       have c1:wr.cell? ⟨y,12,none⟩=some (iI (ftL l:Nat)):=HI.o.cy.rc.cc 12;have c2:w5.cell? ⟨y,12,none⟩=some (iI (ftL (C7 l):Nat)):=Xp.o.cy.rc.cc 12;have:=Xy;have:=Xk.o.1;unfold MX;rw[c1,c2];simp[intOf];omega
     ·have d1:decide ((s.cf.ah:Int)<=(ac:Int))=false:=ζ Ω;have Xw:decide (s.cf.ah<=ac)=false:=ζ I;have Xl:Hid (¬(ftL l<k/\s.cf.ah<=CI l-ftL l)):=⟨λh=>I (by rw[Xr.o];exact h.2)⟩;clear V I;go_wp2;have n0:=BU HI.o.cy.mv (LP (show k<l.length by rw[HI.o.len];exact HS.2.2.2.2.2));rw[HI.o.un]at n0;have n4:=HI.o.cy.rc.cc 10;have nl:=(A9 HI.o.cy.mv rfl).2;have Xm:(k:Int)<(({s with mv:=l}:Sl).mv.length:Int):=by show (k:Int)<(l.length:Int);rw[HI.o.len];exact Xu
      go_quiet (fail);have Xj:=(HI.o.fin HJ ((Gr.refl wr).drewN nq) HS.1 HS.2.1 HS.2.2.1 HS.2.2.2.1 HS.2.2.2.2.1 HS.2.2.2.2.2 HM Xl.o O);go_wp2_with(go_at_call 140;refine Qa (Xj) λw5 Xi=>?_);go_ret;exact Xi
    ·have d0:decide ((fc:Int)<(k:Int))=false:=ζ Ω;have Xx:decide (fc<k)=false:=ζ V;have Xl:Hid (¬(ftL l<k/\s.cf.ah<=CI l-ftL l)):=⟨λh=>V (by rw[Xv.o];exact h.1)⟩;clear V;go_wp2;have n0:=BU HI.o.cy.mv (LP (show k<l.length by rw[HI.o.len];exact HS.2.2.2.2.2));rw[HI.o.un]at n0;have n4:=HI.o.cy.rc.cc 10;have nl:=(A9 HI.o.cy.mv rfl).2;have Xm:(k:Int)<(({s with mv:=l}:Sl).mv.length:Int):=by show (k:Int)<(l.length:Int);rw[HI.o.len];exact Xu
     go_quiet (fail);have Xj:=(HI.o.fin HJ ((Gr.refl wr).drewN nq) HS.1 HS.2.1 HS.2.2.1 HS.2.2.2.1 HS.2.2.2.2.1 HS.2.2.2.2.2 HM Xl.o O);go_wp2_with(go_at_call 140;refine Qa (Xj) λw5 Xi=>?_);go_ret;exact Xi
end
end Go.Proofs.YtcihfnpokdbfpaaGreatDoor
