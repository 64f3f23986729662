/- Part 8 of what Trees leans on: my own lemmas, merged by shake.py. -/
import Derived.Test.YtbdimhlaaoadgaaGreatDoorTreesG
import Derived.Deep.CutBlock
import Derived.Deep.DeepCutAuto
namespace Go.Proofs.YtbdimhlaaoadgaaGreatDoor
open _root_.Go.Proofs.Tryz
set_option maxHeartbeats 6400000
set_option maxRecDepth 100000
open Go.RowKit Word
variable{room:Int}{l ml:List Bool}{rs:List Int}{F:List Nat}{L:List Ob}{P:List Pc}{B M a ah b cp f fb fr g i j k m n p pg q r st tp x y:Nat}{D U U' U0 V:Nat->Bool}{R S T:Nat->Prop}{A:Option Addr}{v v' v1 v2:Vm}{W w w' wr:World}
def kl(p f k:Nat):List Int:=List.replicate p 1++List.replicate f 2++List.replicate k 3
structure YZ(M:Nat)(v:Vm):Prop where
 ok:AF v
 n:v.n=M
 al:∀a:Nat,a<M->v.ldE a=0
 m1:1<=M
def mpN(v:Vm):Nat->Vm
 | 0=>v
 | k+1=>(mpN v k).mp (k:Nat)
theorem YqK(h:AF v)(hu:v.pl.used=0)(hl:∀p,p<v.pt.length->v.pt.getD p 0=0)(hr:v.pt.length<=v.pl.rm)(hk:k<=v.pt.length):BW v (mpN v k) (List.range k):=by
 induction k with
 | zero=>exact BW.refl h
 | succ k ih=>
  have ih:=ih Ω;have hln:=ih.len h
  have hz:(mpN v k).pt.getD k 0=0:=by
   have:=ih.ma k Ω
   grind
  have hE:(mpN v k).mpE (k:Nat)=0:=by
   unfold Vm.mpE;have h1:pgE (mpN v k).pt (k:Nat)=0:=by exact φ Ω
   have h2:=ih.us;rw[List.length_range,hu]at h2;rw[ξ (λh=>h h1),χ,ξ (λh=>h hz),ξ];rw[ih.rm];omega
  rw[ψx];exact ih.mp h hE
def stN(v:Vm)(f:Nat->Nat):Nat->Vm
 | 0=>v
 | k+1=>(stN v f k).st (k:Nat) (f k)
structure J4R(v v':Vm)(f:Nat->Nat)(k:Nat):Prop where
 ok:AF v'
 sm:BR v v'
 vl:∀a:Nat,a<k->v'.ldV a=f a
theorem VYd(h:AF v)(hl:∀a:Nat,a<v.n->v.ldE a=0){f:Nat->Nat}(hf:∀a,f a<18446744073709551616)(hk:k<=v.n):J4R v (stN v f k) f k:=by
 induction k with
 | zero=>exact⟨h,BR.refl v,λa ha=>absurd ha (ζA _)⟩
 | succ k ih=>
  have ih:=ih Ω;have hE:(stN v f k).ldE (k:Nat)=0:=by rw[ih.sm.ldE];grind
  refine⟨ih.ok.st _ (hf k),ih.sm.trans (BR.st _ _ _),λa ha=>?_⟩
  show ((stN v f k).st (k:Nat) (f k)).ldV a=_
  rw[ih.ok.st_ldV _ hE];by_cases e:(k:Int)=a
  ·grind
  ·rw[ξ e];exact ih.vl a Ω
theorem Qrk(h1:1<=n)(h2:n<=4096){f:Nat->Nat}(hf:∀a,f a<18446744073709551616):∃u:Vm,YZ n u/\∀a:Nat,a<n->u.ldV a=f a:=by
 have Y:AF (Vm.new n 1 n):=AF.new (by unfold E5;simp;omega) (by decide) h1 Ω (Nat.mod_one n);have X:(Vm.new n 1 n).pt.length=n:=by show (List.replicate (n/1) 0).length=n;rw[ζT,Nat.div_one]
 have hm:=YqK Y rfl (λp hp=>by show (List.replicate (n/1) 0).getD p 0=0;exact N9 _ _) (by rw[X];exact ϑ _) (k:=n) (by rw[X];exact ϑ _);have hn:(mpN (Vm.new n 1 n) n).n=n:=hm.n
 have hl:∀a:Nat,a<n->(mpN (Vm.new n 1 n) n).ldE a=0:=λa ha=>by
  rw[hm.ldE Y (show a<(Vm.new n 1 n).n from ha),φ];rw[ξo]
  show a/1<n
  rw[Nat.div_one];exact ha
 have hs:=VYd hm.ok (λa ha=>hl a (by rw[hn]at ha;exact ha)) hf (k:=n) (by rw[hn];exact ϑ _);exact⟨_,⟨hs.ok,hs.sm.n.trans hn,λa ha=>by rw[hs.sm.ldE];exact hl a ha,h1⟩,hs.vl⟩
theorem QG(hS:DP v rs n){a:Int}(ha:Rch v rs a):
  ∃b p f k:Nat,a=b/\v.rdE a=0/\v.rdH a=⟨p,f,k⟩/\p+f+k<=255/\(b:Int)+(1+p+f+k)<=n/\0<b/\v.osz a=1+(p:Int)+f+k ∧
   ∀m:Nat,m<p->v.ldE (a+1+m)=0/\v.ldV (a+1+m)<=2147483647/\(v.ldV (a+1+m)≠0->Rch v rs (v.ldV (a+1+m):Nat)):=by
 have X:=hS.rd a ha;obtain⟨h0,-,p,f,k,hh,hs⟩:=F3 X;obtain⟨b,rfl⟩:∃b:Nat,a=b:=⟨a.toNat,by omega⟩;have ho:v.osz b=1+(p:Int)+f+k:=by unfold Vm.osz;rw[hh];exact φ (EG hs)
 have hin:=hS.rm b ha;refine⟨b,p,f,k,rfl,X,hh,hs,by omega,by omega,ho,λm hm=>?_⟩;have Y:(m:Int)<(v.rdH b).p:=by simp_all
 have Z:=hS.pt b ha m Y;have he:=J7 Z;refine⟨he.2.2.1,he.2.1,λh0=>?_⟩;exact ha.step ⟨X,m,Y,Z,by omega,by rw[he.1]⟩
section
variable{A0:Option Addr}{cr:Nat}
end
def pkW(v:Vm)(L:List Ob)(fr a m:Nat):Nat:=if (1<=m/\(m:Int)<=(v.rdH a).p)/\v.ldV ((a:Int)+m)≠0 then (toV L fr (v.ldV ((a:Int)+m):Nat)).toNat else v.ldV ((a:Int)+m)
def IW(v:Vm)(L:List Ob)(fr:Nat):List Ob->List Nat
 | []=>[]
 | o :: r=>(List.range o.2).map (pkW v L fr o.1)++IW v L fr r
theorem Ywe(v:Vm)(L:List Ob)(fr:Nat)(P:List Ob)(hj:j<P.length)(hm:m<P[j].2):(IW v L fr P).getD (sizes (P.take j)+m) 0=pkW v L fr P[j].1 m:=by
 induction P generalizing j with
 | nil=>simp at hj
 | cons o r ih=>
  cases j with
  | zero=>
   have hm:m<o.2:=hm;simp only[List.take_zero,sizes,ξt,IW,ψu]
   grind
  | succ j=>
   have X:j<r.length:=by grind
   have:=ih X (by simp_all);simp only[ξN,sizes,IW,ψv];rw[<-this,ω,ζ2 (by simp;omega),ω];congr 2
   grind
theorem SR(hg:AP n L)(hf:∀o∈L,fr<=o.1)(hj:j<L.length):fr+sizes (L.take j)<=L[j].1:=by
 induction j with
 | zero=>simpa[sizes]using hf _ (μ hj)
 | succ j ih=>
  have h1:=ih Ω;have h2:=hg.at Ω hj (ξQ j)
  grind [FD]
theorem Jc5{a:Int}(h1:v'.ldE a=v.ldE a)(h2:v'.ldV a=v.ldV a):v'.rdE a=v.rdE a/\v'.rdH a=v.rdH a:=by
 unfold Vm.rdE Vm.rdH
 simp_all
structure Pkd(v v':Vm)(L:List Ob)(fr k:Nat):Prop where
 ok:AF v'
 sm:BR v v'
 o:∀b:Nat,(b<fr\/fr+k<=b)->v'.ldV b=v.ldV b
 row:∀i,i<k->v'.ldV ((fr+i:Nat):Int)=(IW v L fr L).getD i 0
theorem Pkd.zero(h:AF v)(L:List Ob)(fr:Nat):Pkd v v L fr 0:=⟨h,BR.refl v,λ_ _=>rfl,λ_ h=>absurd h (ζA _)⟩
theorem Pkd.step(h:Pkd v v' L fr k)(hl:v.ldE ((fr+k:Nat):Int)=0)(hx:x=(IW v L fr L).getD k 0)(hx2:x<18446744073709551616):Pkd v (v'.st ((fr+k:Nat):Int) x) L fr (k+1):=by
 have Y:v'.ldE ((fr+k:Nat):Int)=0:=by rw[h.sm.ldE];exact hl
 have X:=h.ok.st_ldV x Y;refine⟨h.ok.st _ hx2,h.sm.trans (BR.st _ _ _),λb hb=>?_,λi hi=>?_⟩
 ·rw[X,ξ Ω];exact h.o b Ω
 ·rw[X];by_cases e:i=k
  ·simp_all
  ·rw[ξ Ω];exact h.row i Ω
structure EK(v:Vm)(rs:List Int)(L:List Ob)(fr tp:Nat):Prop where
 ok:AF v
 mks:BM v rs v.n L
 inn:∀o∈L,fr<=o.1/\o.1+o.2<=tp
 fr1:1<=fr
 tpn:tp<=v.n
 lds:∀a:Nat,fr<=a->a<fr+sizes L->v.ldE a=0
theorem EK.le(c:EK v rs L fr tp)(hj:j<L.length):fr+sizes (L.take j)<=L[j].1:=SR c.mks.mkd.good (λo ho=>(c.inn o ho).1) hj
theorem EK.sz(_c:EK v rs L fr tp)(hj:j<L.length):sizes (L.take (j+1))=sizes (L.take j)+L[j].2/\sizes (L.take j)+L[j].2<=sizes L:=by
 exact⟨FD hj,JX hj⟩
theorem Pkd.src(c:EK v rs L fr tp)(hj:j<L.length)(h:Pkd v v' L fr (sizes (L.take j)+m)):v'.ldV ((L[j].1+m:Nat):Int)=v.ldV ((L[j].1+m:Nat):Int)/\v'.ldE ((L[j].1+m:Nat):Int)=v.ldE ((L[j].1+m:Nat):Int):=by
 have:=c.le hj;exact⟨h.o _ Ω,h.sm.ldE _⟩
theorem Pkd.hdr(c:EK v rs L fr tp)(hj:j<L.length)(h:Pkd v v' L fr (sizes (L.take j))):v'.rdE (L[j].1:Nat)=0/\v'.rdH (L[j].1:Nat)=v.rdH (L[j].1:Nat):=by
 obtain⟨h1,h2⟩:=Pkd.src (m:=0) c hj h;obtain⟨e1,e2⟩:=Jc5 h2 h1;exact⟨e1.trans (c.mks.mkd.ats _ (μ hj)).2.1,e2⟩
theorem EK.hd(c:EK v rs L fr tp)(hj:j<L.length):∃p f k:Nat,v.rdH (L[j].1:Nat)=⟨p,f,k⟩/\p+f+k<=255/\L[j].2=1+p+f+k:=by
 obtain⟨h1,h2,h3⟩:=c.mks.mkd.ats _ (μ hj);obtain⟨b,p,f,k,he,-,hh,hs,-,-,hz,-⟩:=QG c.mks.sound h1
 grind
theorem Z4(c:EK v rs L fr tp){a:Int}(ha:Hs L a):∃j,∃hj:j<L.length,(L[j].1:Int)=a/\toV L fr a=((fr+sizes (L.take j):Nat):Int):=by
 obtain⟨o,ho,he⟩:=ha;obtain⟨j,hj,rfl⟩:=ζo ho;refine⟨j,hj,he,?_⟩;have h1:=(c.mks.mkd.good.sz _ (μ hj)).1;have:=(SO c.mks.mkd.good (base:=fr) hj (a:=a) Ω Ω).1;omega
theorem Vco(c:EK v rs L fr tp):toV L fr 0=0:=by
 have h:¬A9 L 0<L.length:=λh=>by
  have h1:=IN h;have h2:=(c.inn _ (μ h)).1;have:=c.fr1;omega
 exact(O7 h).1
theorem EK.ptr(c:EK v rs L fr tp)(hj:j<L.length)(h1:1<=m)(h2:(m:Int)<=(v.rdH (L[j].1:Nat)).p):v.ldV ((L[j].1+m:Nat):Int)<=2147483647/\(v.ldV ((L[j].1+m:Nat):Int)≠0->Hs L (v.ldV ((L[j].1+m:Nat):Int):Nat)):=by
 obtain⟨hr,-,-⟩:=c.mks.mkd.ats _ (μ hj);obtain⟨b,p,f,k,he,-,hh,hs,-,-,hz,hp⟩:=QG c.mks.sound hr;rw[hh]at h2;have:=hp (m-1) (by grind);rw[show ((L[j].1:Nat):Int)+1+((m-1:Nat):Int)=((L[j].1+m:Nat):Int)by omega]at this;exact⟨this.2.1,λh0=>c.mks.all _ (this.2.2 h0)⟩
theorem XQ(v:Vm)(L:List Ob)(fr a m:Nat)(hx:v.ldV ((a+m:Nat):Int)=x):pkW v L fr a m=if (1<=m/\(m:Int)<=(v.rdH a).p)/\x≠0 then (toV L fr (x:Nat)).toNat else x:=by
 unfold pkW
 simp_all
theorem EK.pkW_lt(c:EK v rs L fr tp)(hj:j<L.length):pkW v L fr L[j].1 m<18446744073709551616:=by
 rw[XQ v L fr _ m rfl];have hx:=c.ok.ldV_lt ((L[j].1+m:Nat):Int)
 split
 ·rename_i h;obtain⟨i,hi,-,e⟩:=Z4 c ((c.ptr hj h.1.1 h.1.2).2 h.2);have:=(c.sz hi).2;have:=FT c.mks.mkd.good;have:=c.ok.n2;have:=c.tpn;have:=c.inn _ (μ hi);omega
 ·exact hx
section
variable{F:Nat}
def Qp6(w:World)(S:Nat->Prop)(q:Nat)(v:Vm)(L:List Ob)(fr k:Nat)(e:Ending)(w':World):Prop:=
 e=.returned (.tuple #[])/\AB (AC S w) w w'/\∃v'',AD w' (AC S w) q v''/\Pkd v v'' L fr k
theorem VgZ{i:Int}(h:¬(0<=i/\i<p)):BO ⟨p,f,k⟩ i≠1:=by
 unfold BO
 grind
theorem Q2p(hV:AD w S q v')(hF:∀W,AB (AC S w) w W->Fwd W F f n B fr L)(c:EK v rs L fr tp)(hj:j<L.length)(hp:Pkd v v' L fr (sizes (L.take j))):
  Calls prog 161 #[pP q,pP f,iI (L[j].1:Nat),iI (L[j].2:Nat)] w (Qp6 w S q v L fr (sizes (L.take j)+L[j].2)):=by
 obtain⟨p,ff,k,hh,hs,hz⟩:=c.hd hj;have Yh:=c.le hj;have Yl:=(c.inn _ (μ hj)).2;have htpn:=c.tpn;have hn2:=c.ok.n2;have Xk:=hp.hdr c hj;rw[hh]at Xk;obtain⟨A,hA⟩:∃A,A=L[j].1:=⟨_,rfl⟩;obtain⟨Z,hZ⟩:∃Z,Z=L[j].2:=⟨_,rfl⟩;obtain⟨K,hK⟩:∃K,K=sizes (L.take j):=⟨_,rfl⟩
 have Yz:Hid (toV L fr (A:Nat)=((fr+K:Nat):Int)):=⟨by
  rw[hA,hK];have h1:=(c.mks.mkd.good.sz _ (μ hj)).1;have:=(SO c.mks.mkd.good (base:=fr) hj (a:=((L[j].1:Nat):Int)) Ω Ω).1;rw[this];push_cast
  omega⟩
 have HV:=hV.cut;have HF:=hF;have HC:=ι c;have HJ:=ι hj;have Xc:=ι (ψ hA (ψ hZ hK));have HP:=ι hp;have HH:Hid (v.rdH (A:Nat)=⟨p,ff,k⟩):=⟨by rw[hA];exact hh⟩;have Xg:=ι (λ(W:World) (g:Gr w W)=>PS (HV.gr g) (A:Int));rw[<-hA]at Xk;rw[Xk.1,Xk.2]at Xg;have Xo:=ι (λ(W:World) (t:AB (AC S w) w W)=>RA (hF W t) (A:Int));rw[Yz.o]at Xo;obtain⟨te,Yj⟩:∃te,te=toE L (A:Int):=⟨_,rfl⟩;rw[<-Yj]at Xo;have Xp:=ι (λ(W:World) (i:Int)=>VQ hs i W);have Xl:=ι (λW=>Rec.new W 64 [iI p,iI ff,iI k]);simp only[List.toArray]at Xl;unfold AM at Xg Xp;unfold spV at Xg;have Yu:Hid (∀m,m<Z->(IW v L fr L).getD (K+m) 0=pkW v L fr A m):=⟨λm hm=>by rw[hK,hA];exact Ywe v L fr L hj (by rw[<-hZ];exact hm)⟩;rw[<-hA]at Yh Yl;rw[<-hZ]at Yl hz;rw[<-hK]at Yh HP;rw[<-hA,<-hZ,<-hK];clear hV hF c hp hh hA hZ hK Xk Yj hz;go_enter func161,ntmps161;go_upto_region 1 with(go_at_call 93;refine(Xg.o _ (Gr.refl w)).mono ?_;rintro e w1 ⟨rfl,Ys⟩;have Yd:=ι Ys;clear Ys);obtain⟨w2,Xz⟩:∃w2,w2=w1.alloc (.cells #[.int .i64 p,.int .i64 ff,.int .i64 k] 64):=⟨_,rfl⟩;have R2:=Xl.o w1;obtain⟨hq,Yg⟩:∃hq,hq=w1.heap.size:=⟨_,rfl⟩;have Ya:Hid (¬AC S w hq):=⟨λh=>by have:=h.2;have:=Yd.o.size;omega⟩;have Yo:Gr w w2:=by rw[Xz];exact Yd.o.alloc _
 rw[<-Yg]at R2⊢;rw[<-Xz]at R2⊢;have Ye:=ι R2;have Yc:=ι Yo;clear Xz Yg Yd R2 Yo Xl Xg;go_upto_region 2 with(go_at_call 163;refine(Xo.o _ (Yc.o.touch _)).mono ?_;rintro e w3 ⟨rfl,Xv⟩;have Yk:=ι (Ye.o.gr Xv);have Xu:=ι (Yc.o.trans Xv);clear Xv);have Yp:=ι (HV.gr Xu.o);have Yr:Hid (AB (AC S w) w w3):=⟨Xu.o.touch _⟩;clear Yc Ye Xo Xu;go_wp2_with(fail)
 go_loopw [31] (λs31 wr=>∃(i:Nat) (vx:Vm),i<=Z/\Hid (AD wr (AC S w) q vx/\Pkd v vx L fr (K+i))/\Hid (AB (AC S w) w wr)/\Hid (Rec wr hq 64 [iI p,iI ff,iI k])/\s31=iI i) (λs31 _=>Z-(intOf s31).toNat)
 case atStart=>exact⟨0,v',ζf _,⟨⟨Yp.o,HP.o⟩⟩,Yr,Yk,rfl⟩
 case round=>
  obtain⟨i,vx,hi,G,Xj,Y,rfl⟩:=hrel;clear Yp Yr Yk;by_cases Xy:i<Z
  ·have hiI:(i:Int)<(Z:Int):=Ω
   have Xd:=ι Xy;have Yq:(A:Int)+(i:Int)=((A+i:Nat):Int):=by push_cast;rfl
   have Yf:((fr+K:Nat):Int)+(i:Int)=((fr+(K+i):Nat):Int):=by push_cast;omega
   have Xe:=Pkd.src (m:=i) HC.o HJ.o (by rw[<-Xc.o.2.2];exact G.o.2);rw[<-Xc.o.1]at Xe;have Xb:=ι (JV G.o.1 ((A+i:Nat):Int));rw[Xe.1,Xe.2]at Xb;obtain⟨el,Ym⟩:∃el,el=v.ldE ((A+i:Nat):Int):=⟨_,rfl⟩;rw[<-Ym]at Xb;have Yy:Hid (v.ldV ((A+i:Nat):Int)<18446744073709551616):=⟨HC.o.ok.ldV_lt _⟩;have Yb:Hid (pkW v L fr A i<18446744073709551616):=⟨by rw[Xc.o.1];exact HC.o.pkW_lt HJ.o⟩
   have Yt:Hid (1<=i->i<=p->v.ldV ((A+i:Nat):Int)<=2147483647/\(v.ldV ((A+i:Nat):Int)≠0->Hs L (v.ldV ((A+i:Nat):Int):Nat))):=⟨λh1 h2=>by
    rw[Xc.o.1]
    exact HC.o.ptr HJ.o h1 (by rw[<-Xc.o.1,HH.o];show (i:Int)<=(p:Int);omega)⟩
   have Xw:Hid (∀(W:World),AB (AC S w) wr W->AD W (AC S w) q vx->∀y:Nat,y=pkW v L fr A i->Calls prog 217 #[pP q,iI (((fr+K:Nat):Int)+(i:Int)),uU y] W λe w'=>∃er,e=.returned (iI er)/\AB (AC S w) W w'/\∃v'',AD w' (AC S w) q v''/\Pkd v v'' L fr (K+(i+1))):=⟨λW t hW y hy=>by
    rw[Yf];refine(MF hW _ (x:=y) (by rw[hy];exact Yb.o)).mono ?_;rintro e w' ⟨rfl,ht,hv⟩;refine⟨_,rfl,ht,_,hv,?_⟩
    have:=G.o.2.step (HC.o.lds _ Ω (by
     have h1:=(HC.o.sz HJ.o).2;rw[<-Xc.o.2.1,<-Xc.o.2.2]at h1
     omega)) (x:=y) (by rw[hy];exact(Yu.o i Xd.o).symm) (by rw[hy];exact Yb.o)
    exact this⟩
   have Xs:Hid (∀(W:World) (a:Int),AB (AC S w) wr W->Hs L a->∃y:Nat,toV L fr a=(y:Int)/\Calls prog 163 #[pP f,iI a] W λe w'=>∃er,e=.returned (.tuple #[iI y,iI er])/\Gr W w'):=⟨λW a t ha=>by
    obtain⟨j',hj',-,e⟩:=Z4 HC.o ha;refine⟨fr+sizes (L.take j'),e,?_⟩;have:=RA (HF W (Xj.o.trans t)) a;rw[e]at this;refine this.mono ?_;rintro e w' ⟨rfl,hg⟩
    exact⟨_,rfl,hg⟩⟩
   have Xn:Hid (pkW v L fr A i=if (1<=i/\(i:Int)<=(p:Int))/\v.ldV ((A+i:Nat):Int)≠0 then (toV L fr (v.ldV ((A+i:Nat):Int):Nat)).toNat else v.ldV ((A+i:Nat):Int)):=⟨by rw[XQ v L fr A i rfl,HH.o]⟩;obtain⟨x,hx⟩:∃x,x=v.ldV ((A+i:Nat):Int):=⟨_,rfl⟩;rw[<-hx]at Xb Yy Yt Xn;rw[<-Yq]at Xb;clear Yq Yf Xe hx Xy Ym;have Za:(i:Int)-1=((i:Int)-1):=rfl;clear Za;have hib:(i:Int)<=524288:=Ω
   by_cases N:1<=i/\i<=p
   ·have Xr:Hid (BO ⟨p,ff,k⟩ ((i:Int)-1)=1):=⟨Q8 Ω (by show (i:Int)-1<(p:Int);omega) (by show (p:Int)<CF ⟨p,ff,k⟩;rw[show CF ⟨p,ff,k⟩=1+(p:Int)+ff+k from φ (EG hs)];omega)⟩;obtain⟨Xt,Xm⟩:=Yt.o N.1 N.2;by_cases Xf:x=0
    ·subst Xf;have HY:Hid (0=pkW v L fr A i):=⟨by rw[Xn.o,ξ (λh=>h.2 rfl)]⟩;clear N Xt Xm
     go_wp2_with(first
      | (go_at_call 216;refine Xb.o.mono ?_;rintro e w4 ⟨rfl,X⟩;have y0:=(Y.o.gr X).cell (j:=0) rfl;have y1:=(Y.o.gr X).cell (j:=1) rfl;have y2:=(Y.o.gr X).cell (j:=2) rfl;have yl:=(Y.o.gr X).lt;have Xi:=ι X;clear X)
      | (go_at_call 143;refine(Xp.o _ _).mono ?_;rintro e w5 ⟨rfl,Xa⟩;rw[Xr.o];have J:=ι (Xi.o.trans Xa);clear Xa)
      | (go_at_call 217;refine(Xw.o _ ((J.o).touch _) (G.o.1.gr (J.o)) 0 HY.o).mono ?_;rintro e w7 ⟨er,rfl,V,v7,I,E⟩;have O:=ι V;have Xh:=ι (ψ I E);clear V I E))
     go_round
     case rel=>exact⟨i+1,v7,Xd.o,Xh,⟨(Xj.o.trans ((J.o).touch _)).trans O.o⟩,⟨(Y.o.gr (J.o)).touch O.o Ya.o⟩,by go_num⟩
     case measure=>have:=Xd.o;simp[intOf];omega
    ·obtain⟨y,hy,-⟩:=Xs.o wr (x:Int) (AB.refl _ _) (Xm Xf);have HY:Hid (y=pkW v L fr A i):=⟨by rw[Xn.o,φ ⟨⟨N.1,by omega⟩,Xf⟩,hy];rfl⟩
     have Yw:Hid (∀(W:World),AB (AC S w) wr W->Calls prog 163 #[pP f,iI (x:Nat)] W λe w'=>∃er,e=.returned (.tuple #[iI y,iI er])/\Gr W w'):=⟨λW t=>by
      obtain⟨y',Yv,h⟩:=Xs.o W (x:Int) t (Xm Xf);rw[hy]at Yv;obtain rfl:y=y':=Ω
      exact h⟩
     have Yx:Hid (y<18446744073709551616):=⟨by rw[HY.o];exact Yb.o⟩;have hwy:IntKind.u64.wrap (y:Int)=(y:Int):=by have:=Yx.o;rw[ξy];omega
     have hwx:IntKind.i64.wrap (x:Int)=(x:Int):=ζw _ Ω;have d2:((x:Int) !=0)=true:=by simp;exact Xf
     clear N Xt Xm Xf hy
     go_wp2_with(first
      | (go_at_call 216;refine Xb.o.mono ?_;rintro e w4 ⟨rfl,X⟩;have y0:=(Y.o.gr X).cell (j:=0) rfl;have y1:=(Y.o.gr X).cell (j:=1) rfl;have y2:=(Y.o.gr X).cell (j:=2) rfl;have yl:=(Y.o.gr X).lt;have Xi:=ι X;clear X)
      | (go_at_call 143;refine(Xp.o _ _).mono ?_;rintro e w5 ⟨rfl,Xa⟩;rw[Xr.o];have J:=ι (Xi.o.trans Xa);clear Xa)
      | (go_at_call 163;refine(Yw.o _ (J.o.touch _)).mono ?_;rintro e w6 ⟨er6,rfl,Yn⟩;have Xq:=ι (J.o.trans Yn);clear Yn)
      | (go_at_call 217;refine(Xw.o _ ((Xq.o).touch _) (G.o.1.gr (Xq.o)) y HY.o).mono ?_;rintro e w7 ⟨er,rfl,V,v7,I,E⟩;have O:=ι V;have Xh:=ι (ψ I E);clear V I E))
     go_round
     case rel=>exact⟨i+1,v7,Xd.o,Xh,⟨(Xj.o.trans ((Xq.o).touch _)).trans O.o⟩,⟨(Y.o.gr (Xq.o)).touch O.o Ya.o⟩,by go_num⟩
     case measure=>have:=Xd.o;simp[intOf];omega
   ·obtain⟨kd,Xx⟩:∃kd,kd=BO ⟨p,ff,k⟩ ((i:Int)-1):=⟨_,rfl⟩;have Xr:Hid (BO ⟨p,ff,k⟩ ((i:Int)-1)=kd):=⟨Xx.symm⟩;have Yi:kd≠1:=by rw[Xx];exact VgZ (λh=>N ⟨by omega,by omega⟩)
    have d1:(kd==1)=false:=by simpa using Yi
    have HY:Hid (x=pkW v L fr A i):=⟨by rw[Xn.o,ξ (λh=>N ⟨h.1.1,by have:=h.1.2;omega⟩)]⟩;clear N Xx Yi
    go_wp2_with(first
     | (go_at_call 216;refine Xb.o.mono ?_;rintro e w4 ⟨rfl,X⟩;have y0:=(Y.o.gr X).cell (j:=0) rfl;have y1:=(Y.o.gr X).cell (j:=1) rfl;have y2:=(Y.o.gr X).cell (j:=2) rfl;have yl:=(Y.o.gr X).lt;have Xi:=ι X;clear X)
     | (go_at_call 143;refine(Xp.o _ _).mono ?_;rintro e w5 ⟨rfl,Xa⟩;rw[Xr.o];have J:=ι (Xi.o.trans Xa);clear Xa)
     | (go_at_call 217;refine(Xw.o _ ((J.o).touch _) (G.o.1.gr (J.o)) x HY.o).mono ?_;rintro e w7 ⟨er,rfl,V,v7,I,E⟩;have O:=ι V;have Xh:=ι (ψ I E);clear V I E))
    go_round
    case rel=>exact⟨i+1,v7,Xd.o,Xh,⟨(Xj.o.trans ((J.o).touch _)).trans O.o⟩,⟨(Y.o.gr (J.o)).touch O.o Ya.o⟩,by go_num⟩
    case measure=>have:=Xd.o;simp[intOf];omega
  ·obtain rfl:i=Z:=Ω
   clear Xy;go_wp2;refine ζz (ζl rfl _ _ _) rfl ?_;exact⟨rfl,Xj.o,vx,G.o.1,G.o.2⟩
end
def JL(n fr tp room:Int):Bool:=decide (1<=fr)&&decide (fr<=tp)&&decide (tp<=n)&&decide (1<=room)&&decide (room<=4096)
theorem SJ{n fr tp:Int}:JL n fr tp room=true↔1<=fr/\fr<=tp/\tp<=n/\1<=room/\room<=4096:=by
 unfold JL
 grind
theorem PT{n fr tp:Int}(h:¬(1<=fr/\fr<=tp/\tp<=n/\1<=room/\room<=4096)):JL n fr tp room=false:=by
 cases hb:JL n fr tp room with
 | false=>rfl
 | true=>exact absurd (SJ.1 hb) h
theorem ZdZ(rv:Value)(fr tp room:Int)(w:World):cQ 156 #[.pointer none,rv,iI fr,iI tp,iI room] w (iI 9):=by
 go_enter func156,ntmps156;go_wp2_with(go_at_call 67;refine(Jus _).mono ?_;rintro e w1 ⟨rfl,rfl⟩);go_ret;exact⟨rfl,rfl⟩
theorem JGL(hV:AD w S q v)(hn:v.n≠0)(hR:AW w r g rs)(fr tp room:Int):cQ 156 #[pP q,pP r,iI fr,iI tp,iI room] w (iI (if JL v.n fr tp room then 0 else 5)):=by
 have X:=(I8 hV);have Z:=(XO hR);have Y:rs.length≠0:=λe=>hR.ne (ζy e);obtain⟨l,hl⟩:∃l,l=rs.length:=⟨_,rfl⟩;obtain⟨n,J⟩:∃n,n=v.n:=⟨_,rfl⟩;rw[<-hl]at Z Y;rw[<-J]at X hn⊢;have d0:((n:Int)==0)=false:=by simp;exact hn
 have d9:((l:Int)==0)=false:=by simp;exact Y
 obtain⟨z,hz⟩:∃z:Int,z=if JL n fr tp room then 0 else 5:=⟨_,rfl⟩
 rw[<-hz];have HZ:=ι hz;clear hR hl J hn Y hz;go_enter func156,ntmps156
 go_upto_region 3 with(first
  | (go_at_call 67;refine X.mono ?_;rintro e w1 ⟨rfl,rfl⟩)
  | (go_at_call 188;refine Z.mono ?_;rintro e w1 ⟨rfl,rfl⟩))
 by_cases h1:fr<1
 ·have HE:=(PT (n:=n) (fr:=fr) (tp:=tp) (room:=room) Ω);go_wp2;go_ret;exact⟨AS (by rw[HZ.o,HE];rfl),rfl⟩
 ·by_cases h2:tp<fr
  ·have HE:=(PT (n:=n) (fr:=fr) (tp:=tp) (room:=room) Ω);go_wp2;go_ret;exact⟨AS (by rw[HZ.o,HE];rfl),rfl⟩
  ·by_cases h3:(n:Int)<tp
   ·have HE:=(PT (n:=n) (fr:=fr) (tp:=tp) (room:=room) Ω);go_wp2_with(go_at_call 67;refine X.mono ?_;rintro e w1 ⟨rfl,rfl⟩);go_ret;exact⟨AS (by rw[HZ.o,HE];rfl),rfl⟩
   ·by_cases h4:room<1
    ·have HE:=(PT (n:=n) (fr:=fr) (tp:=tp) (room:=room) Ω);go_wp2_with(go_at_call 67;refine X.mono ?_;rintro e w1 ⟨rfl,rfl⟩);go_ret;exact⟨AS (by rw[HZ.o,HE];rfl),rfl⟩
    ·by_cases h5:4096<room
     ·have HE:=(PT (n:=n) (fr:=fr) (tp:=tp) (room:=room) Ω);go_wp2_with(go_at_call 67;refine X.mono ?_;rintro e w1 ⟨rfl,rfl⟩);go_ret;exact⟨AS (by rw[HZ.o,HE];rfl),rfl⟩
     ·have HE:=((SJ (n:=n) (fr:=fr) (tp:=tp) (room:=room)).2 Ω);go_wp2_with(go_at_call 67;refine X.mono ?_;rintro e w1 ⟨rfl,rfl⟩);go_ret;exact⟨AS (by rw[HZ.o,HE];rfl),rfl⟩
theorem YsB(o:Ob)(f t:Int):0<=over o f t:=by unfold over;omega
theorem WC(L:List Ob)(f t:Int):0<=A8 L f t:=by
 induction L with
 | nil=>exact ψB _
 | cons o r ih=>have:=YsB o f t;show 0<=over o f t+A8 r f t;omega
theorem JQq(hg:∀o∈L,1<=o.2/\o.1+o.2<=n):A8 L tp n=0↔∀o∈L,o.1+o.2<=tp:=by
 induction L with
 | nil=>exact⟨(λ_ _ h=>by cases h),λ_=>rfl⟩
 | cons o r ih=>
  have h1:=YsB o tp n;have h2:=WC r tp n;have h3:=hg o (ζa ..);have ih:=ih (λq hq=>hg q (τ _ hq));have e:A8 (o :: r) tp n=over o tp n+A8 r tp n:=rfl;constructor
  ·intro h q hq;rcases ζi.1 hq with rfl|hq
   ·have h4:over q tp n=0:=Ω
    unfold over at h4;omega
   grind
  ·intro h;have h4:=ih.2 (λq hq=>h q (τ _ hq));have h5:=h o (ζa ..);have h6:over o tp n=0:=by unfold over;omega
   omega
theorem XAy{o:Ob}{r:List Ob}(hg:AP n (o :: r))(h:fr<=o.1):∀q∈o :: r,fr<=q.1:=λq hq=>by
 rcases ζi.1 hq with rfl|hq
 ·exact h
 ·have:=(ξh.1 hg.pw).1 q hq;omega
def EU(v:Vm)(rs:List Int)(fr tp:Int)(L:List Ob):Prop:=BM v rs v.n L/\∀o∈L,fr<=(o.1:Int)/\(o.1:Int)+o.2<=tp
def Zt3(w:World)(S:Nat->Prop)(q:Nat)(v:Vm)(rs:List Int)(fr tp:Nat)(e:Ending)(w':World):Prop:=
 AB S w w'/\AD w' (AC S w) q v ∧
  ∃L m p1 b1 p2 b2,EU v rs fr tp L/\e=.returned (.tuple #[pP m,iI 0])/\Ext w' m p1 b1 p2 b2 v.n L/\w.heap.size<=m/\w.heap.size<=p1/\w.heap.size<=b1/\w.heap.size<=p2/\w.heap.size<=b2
theorem Jf0(hV:AD w S q v)(hn:v.n≠0)(hR:AW w r g rs)(hT:AO w)(htS:¬S 1)(fr tp room:Nat)(htp:tp<=v.n)(hr1:1<=room)(hr2:room<=4096)(hin:∃L,EU v rs fr tp L):
  Calls prog 157 #[pP q,pP r,iI fr,iI tp,iI room] w (Zt3 w S q v rs fr tp):=by
 obtain⟨L0,Xd⟩:=hin;have I:=ι Xd;have Yp:=ι Xd.1.sound;clear Xd;have HV:=hV.cut;have HR:=hR;have HT:=hT;have Xz:=htS;have Yq:=hV.ok.n2;have htl:=hT.lt;have HX:=(λW=>OQ v.n Ω Ω W);have Xo:=hR.le;have Xy:=(λ(W:World) (g:Gr w W)=>I8 (HV.gr g));have Yk:=Xo;obtain⟨n,Xi⟩:∃n,n=v.n:=⟨_,rfl⟩;have X:=ι Xi;rw[<-Xi]at HX Xy htp Yq;clear hV hR hT htS hn Xo Xi;go_enter func157,ntmps157
 go_upto_region 2 with(first
  | (go_at_call 67;refine(Xy _ (Gr.refl w)).mono ?_;rintro e w1 ⟨rfl,rfl⟩)
  | (go_at_call 66;refine(HX _).mono ?_;rintro e w3 ⟨m,p1,b1,p2,b2,rfl,Xp,Yh,Xw,Xx,Yg,Ye,Xr⟩;have Xa:=ι Xp;have N:=ι Yh;have HB:=ι (ψ Xw (ψ Xx (ψ Yg (ψ Ye Xr))));clear Xp Yh Xw Xx Yg Ye Xr))
 have G:Hid (∀i,AR m b1 b2 i->w.heap.size<=i/\i<w3.heap.size):=⟨λi hi=>by
  have h1:=N.o.hm;have h2:=N.o.v1.hb;have h3:=N.o.v2.hb;have h4:=HB.o
  rcases hi with rfl|rfl|rfl <;> omega⟩
 have Xk:=ι (λ(W:World) (g:Gr w3 W)=>S9 (HR.gr (Xa.o.trans g)))
 have Xj:Hid (∀(W:World) (g1 cp:Nat),Gr w3 W->w3.heap.size<=g1->W.ownsRow 0 3 1 (.slice (some ⟨g1,0,none⟩) rs.length cp) rs.length (zs rs)->Calls prog 68 #[.iface 91 (pP q),.slice (some ⟨g1,0,none⟩) rs.length cp,pP m,iI room] W λe w'=>
   AB (λi=>AR m b1 b2 i\/AC S w i) W w'/\AD w' (AC S w) q v/\∃(L:List Ob) (rv vi:Int),e=.returned (.tuple #[.agg #[iI (L.length:Nat),iI (sizes L:Nat),iI rv,iI vi],iI 0])/\Ext w' m p1 b1 p2 b2 n L/\BM v rs n L):=⟨λW g1 cp hg hg1 ho=>by
  have Yc:=Xa.o.trans hg;refine(UV (by rw[X.o];exact Yp.o) (HV.gr Yc) (N.o.gr hg) (Yc.tab HT.lt HT) (λi hi=>?_) (by unfold maxLen;have:=Yk;omega) (λi hi h=>by have:=(G.o i h).1;have:=hi.2;omega) (λh=>by have:=h.2;have:=HB.o;omega) (λh=>by have:=h.2;have:=HB.o;omega) (λh=>Xz h.1) (λh=>by have:=(G.o _ h).1;have:=HT.lt;omega) (room:=(room:Int)) Ω).mono ?_
  ·exact⟨g1,0,rfl,(BE ho rfl).2,λh=>by have:=(G.o _ h).2;omega,by rw[ξt];exact BS ho (L5 hi)⟩
  ·rintro e w' ⟨ht,hv,L,r',vi,rfl,he,hm,-⟩
   exact⟨ht,hv,L,r',vi,rfl,he,hm⟩⟩
 have Yr:Hid (∀W1 W2,Gr w3 W1->AB (λi=>AR m b1 b2 i\/AC S w i) W1 W2->AB S w W2):=⟨λW1 W2 h1 h2=>((Xa.o.trans h1).touch _).trans' h2 (λb hb h=>h.elim (λh=>by have:=(G.o b h).1;omega) (λh=>h.1))⟩
 go_upto_region 3 with(first
  | (go_at_call 69;refine(Xk.o _ (Gr.refl w3)).mono ?_;rintro e w4 ⟨g1,c1,rfl,Xl,Ya,Xq⟩;have Xn:=ι Xl;have Ym:=ι Xq;have Yl:=ι Ya;clear Xl Xq Ya)
  | (go_at_call 68;refine(Xj.o _ g1 c1 Xn.o Yl.o Ym.o).mono ?_;rintro e w5 ⟨Xu,Yf,L,rv,vi,rfl,Xt,Xm⟩;(have Yi:=ι (Yr.o _ _ Xn.o Xu);have Ys:=ι Yf;clear Xu Yf)))
 ·have E:=ι Xm;have HZ:Hid (w.heap.size<=w5.heap.size):=⟨Yi.o.size⟩;obtain⟨w6,Xg⟩:∃w6,w6=w5.alloc (.cells #[.int .i64 (L.length:Nat),.int .i64 (sizes L:Nat),.int .i64 rv,.int .i64 vi] 124):=⟨_,rfl⟩;have O:Gr w5 w6:=by rw[Xg];exact(Gr.refl w5).alloc _
  have J:=ι (Xt.gr O);have Xc:Hid (AB S w w6):=⟨Yi.o.trans (O.touch _)⟩;have Xh:=ι (Ys.o.gr O);have Yd:Hid (AO w6):=⟨HT.touch' Xc.o Xz⟩;rw[<-Xg];have V:=ι (I8 Xh.o);rw[<-X.o]at V;have Yj:=ι (λ(f:Int) (t:Int) (hf:f<=9223372036854775807) (ht:-9223372036854775808<=t)=>QS1 J.o Yd.o f t hf ht);have Y:=ι (MD J.o Yd.o 0);clear Xg O Xt Xm;cases L with
  | nil=>
   rw[MG (by simp)]at Y;have Z:=ι (Yj.o tp n Ω Ω);rw[show A8 [] (tp:Int) (n:Int)=0 from rfl]at Z
   go_wp2_with(first
    | (go_at_call 208;refine Y.o.mono ?_;rintro e w7 ⟨rfl,rfl⟩)
    | (go_at_call 67;refine V.o.mono ?_;rintro e w7 ⟨rfl,rfl⟩)
    | (go_at_call 209;refine Z.o.mono ?_;rintro e w7 ⟨rfl,rfl⟩))
   go_ret2;exact⟨Xc.o,Xh.o,[],m,p1,b1,p2,b2,⟨by rw[<-X.o];exact E.o,λ_ h=>by cases h⟩,BP rfl rfl,by rw[<-X.o];exact J.o,HB.o⟩
  | cons o rr=>
   have Xs:BA (o :: rr) 0=0:=MH (ζf _) (λi _ h=>absurd h (ζA _)) (λ_=>by omega);rw[Xs,OC (by simp)]at Y;simp only[ψu]at Y;have hg:=J.o.good;obtain⟨os,Xe⟩:∃os,os=o.1:=⟨_,rfl⟩;obtain⟨oz,Yb⟩:∃oz,oz=o.2:=⟨_,rfl⟩;rw[<-Xe,<-Yb]at Y;have HOS:=ι Xe;have HGD:=ι hg;by_cases Xv:os<fr
   ·have h1:=I.o.1;rw[<-X.o]at h1;have e:=h1.unique E.o;subst e;have:=(I.o.2 o (ζa ..)).1;omega
   ·have e1:decide ((os:Int)<(fr:Int))=false:=ζ Ω;have e9:decide (os<fr)=false:=ζ Xv;have Yo:=ι (XAy hg (fr:=fr) Ω);have Xf:=ι (JQq (tp:=tp) hg.sz);have Z:=ι (Yj.o tp n Ω Ω);obtain⟨ov,Xb⟩:∃ov,ov=A8 (o :: rr) (tp:Int) (n:Int):=⟨_,rfl⟩;have hov0:0<=ov:=by rw[Xb];exact WC _ _ _
    rw[<-Xb]at Z Xf;clear Xv Xe Yb hg Xs Xb;by_cases hz:ov=0
    ·have e2:decide (0<ov)=false:=ζ Ω;have Yn:=ι hz;clear hz
     go_wp2_with(first
      | (go_at_call 208;refine Y.o.mono ?_;rintro e w7 ⟨rfl,rfl⟩)
      | (go_at_call 67;refine V.o.mono ?_;rintro e w7 ⟨rfl,rfl⟩)
      | (go_at_call 209;refine Z.o.mono ?_;rintro e w7 ⟨rfl,rfl⟩))
     go_ret2;refine⟨Xc.o,Xh.o,o :: rr,m,p1,b1,p2,b2,⟨by rw[<-X.o];exact E.o,λq hq=>?_⟩,BP rfl rfl,by rw[<-X.o];exact J.o,HB.o⟩;have:=Yo.o q hq;have:=Xf.o.1 Yn.o q hq;omega
    ·have h1:=I.o.1;rw[<-X.o]at h1;have e:=h1.unique E.o;subst e;exact absurd (Xf.o.2 λq hq=>by have:=(I.o.2 q hq).2;omega) hz
theorem BW.ldV_all(h:BW v v' F)(hv:AF v)(ha:a<v.n):v'.ldV a=v.ldV a:=by
 rw[h.vl a ha];by_cases hf:a/v.pl.pg∈F
 ·rw[φ hf];have:v.ldE a=12:=by rw[hv.ldE_of ha,φ (h.un _ hf).2]
  unfold Vm.ldV
  simp_all
 simp_all
theorem YNw(h:AF v)(hI:EU v rs fr tp L)(h1:1<=fr)(h2:fr<=tp)(h3:tp<=v.n)(hE:BK v fr ((fr+sizes L:Nat):Int)=0)(hG:BW v v1 (BY v fr ((fr+sizes L:Nat):Int))):EK v1 rs L fr tp/\fr+sizes L<=tp:=by
 have hw:=hG.wider h;have X:∀o∈L,fr<=o.1/\o.1+o.2<=tp:=λo ho=>by have:=hI.2 o ho;omega
 have Y:fr+sizes L<=tp:=by
  rcases ζJ L.length with h0|h0
  ·have:L=[]:=ζy h0;subst this
   assumption
  ·have hj:L.length-1<L.length:=Ω
   have e1:=SR hI.1.mkd.good (λo ho=>(X o ho).1) hj;have e2:=X _ (μ hj);have e3:=FD hj
   grind
 exact⟨⟨hG.ok,by rw[hG.n];exact hw.marks hI.1,X,h1,by rw[hG.n];exact h3,λa ha hb=>VH h Ω hE hG ha hb⟩,Y⟩
def JB(nt pg:Nat):Nat:=(nt+pg-1)/pg
theorem M8{nt:Nat}(hp:1<=pg):nt<=q*pg↔JB nt pg<=q:=by
 unfold JB;have h1:=ζx (nt+pg-1) pg;have h2:=ξV (nt+pg-1) (show 0<pg by omega);constructor
 ·intro h;have h3:nt+pg-1<(q+1)*pg:=by grind
  have:=(ζ7 (show 0<pg by omega)).2 h3;omega
 ·intro h;have h3:=ζm pg h
  grind
structure GK(v:Vm)(rs:List Int)(fr tp:Nat)(L:List Ob)(v1 v2:Vm)(j:Nat):Prop where
 gr:BW v v1 (BY v fr ((fr+sizes L:Nat):Int))
 cx:EK v1 rs L fr tp
 st:Pkd v1 v2 L fr (sizes L)
 q1:∀i,i<j->(fr/v.pl.pg+i)*v.pl.pg<tp
 q2:tp<=(fr/v.pl.pg+j)*v.pl.pg
def EX(v v2:Vm)(fr nt j:Nat):Vm:=umN v2 (JB nt v.pl.pg) (fr/v.pl.pg+j-JB nt v.pl.pg)
section
theorem YrC(hV:AD w S q v)(f t:Nat)(ht:t<=v.n)(hft:f<=t):Calls prog 150 #[pP q,iI f,iI t] w λe w'=>e=.returned (iI (BK v f t))/\AB S w w'/\I9 w' (plus S w) q v (BY v f t):=by
 rcases υ f t with h|h
 ·grind [RD]
 ·obtain rfl:f=t:=Ω
  obtain⟨e1,e2⟩:=VGS (v:=v) (f:=f) ht;rw[e1,e2];refine(Z3 hV f f ht (ϑ _)).mono ?_;rintro e w' ⟨rfl,hg⟩;refine⟨rfl,hg.touch _,v,?_,(hV.gr hg).mono (λ_ h=>.inl h)⟩;exact⟨hV.ok,rfl,rfl,rfl,rfl,ξi,(λ_ h=>by cases h),(λ_ _=>by simp),λ_ _=>by simp⟩
theorem X4(hg:AP n L)(hn:n<=1048576)(base:Nat)(a:Int):0<=toV L base a:=by
 unfold toV
 split
 ·have:=(X8 hg hn a).1;omega
 omega
variable{F:Nat}
theorem XoZ(hF:Fwd w F f n B fr L)(hc:w.cell? ⟨fb,0,none⟩=some (pP f))(a:Int):Calls prog 162 #[iI a,pP fb] w λe w'=>e=.returned (iI (toV L fr a))/\Gr w w':=by
 have HT:=(RA hF a);go_enter func162,ntmps162;go_wp2_with(go_at_call 163;refine(HT).mono ?_;rintro e w1 ⟨rfl,X⟩;have HG1:=X);go_ret
 simp_all
theorem ZKw(hF:∀W,AB (λb=>b=g) w W->Fwd W F f n B fr L)(hc:w.cell? ⟨fb,0,none⟩=some (pP f))(hfb:fb≠g)(hR:AW w r g rs)(h0:toV L fr 0=0):
  Calls prog 151 #[pP r,.func (.func 162) #[] #[pP fb]] w λe w'=>e=.returned (.tuple #[])/\AB (λb=>b=g) w w'/\AW w' r g (rs.map (toV L fr)):=by
 refine(X7 (F:=162) (pre:=#[]) (caps:=#[pP fb]) (λi W out=>AB (λb=>b=g) w W/\out=(rs.take i).map (toV L fr)) (λ_ _=>by kernel_rfl) hR ⟨AB.refl _ _,rfl⟩ ?_ ?_).mono ?_
 ·grind [IX]
 ·rintro i hi W out ho ⟨t,e⟩ Z hne W0 X;have hf:=hF W0 (t.trans (X.touch _));have V:=AV hc;have J:=((t.trans (X.touch _)).cell V hfb 0).trans hc;refine(XoZ hf J rs[i]).mono ?_;rintro e' W' ⟨rfl,Y⟩;have hb:=X4 hf.good.1 hf.good.2 fr rs[i];refine⟨_,rfl,(Z.gr X).gr Y,λW'' t''=>⟨((t.trans (X.touch _)).trans (Y.touch _)).trans t'',?_⟩⟩
  grind [IX,Int.max_eq_left]
 simp_all
end
def AH(L:List Ob)(i:Nat):Nat:=(D0 L i).getD 0
theorem YZF(hj:j<L.length)(hm:m<L[j].2):AH L (sizes (L.take j)+m)=L[j].1+m:=by
 unfold AH;grind [XEK]
theorem N4(h:i<sizes L):∃hj:B7 L i<L.length,∃m,m<(L[B7 L i]'hj).2/\i=sizes (L.take (B7 L i))+m/\AH L i=(L[B7 L i]'hj).1+m:=by
 obtain⟨hj,m,h1,h2,h3⟩:=VBJ h;exact⟨hj,m,h1,h2,by unfold AH;rw[h3];rfl⟩
theorem Y3d:IY L (i:Int)=(AH L i:Int):=by
 unfold IY AH
 grind
theorem ME{base:Nat}(h:i<sizes L):CQ L base ((base+i:Nat):Int)=(AH L i:Int)/\FZ L base ((base+i:Nat):Int)=0:=by
 have X:inF L base ((base+i:Nat):Int)=true:=FG.2 Ω;unfold CQ FZ;rw[X,φ rfl,φ rfl,show ((base+i:Nat):Int)-(base:Int)=(i:Int)by omega]
 grind [Y3d]
theorem YYc(hg:AP n L)(hik:i<k)(hk:k<sizes L):AH L i<AH L k:=by
 obtain⟨hj,m,h1,h2,h3⟩:=N4 (L:=L) (i:=i) Ω;obtain⟨X,m',h1',h2',Y⟩:=N4 hk;rw[h3,Y];rcases ζZ (B7 L i) (B7 L k)with h|h|h
 ·have:=hg.at hj X h;omega
 ·grind
 ·have e1:=FD (L:=L) X
  have e2:sizes (L.take (B7 L k+1))<=sizes (L.take (B7 L i)):=by
   have:L.take (B7 L k+1)=(L.take (B7 L i)).take (B7 L k+1):=by grind
   grind [Zut]
  omega
theorem Z8c(hf:∀o∈L,fr<=o.1/\o.1+o.2<=tp)(hi:i<sizes L):fr<=AH L i/\AH L i<tp:=by
 obtain⟨hj,m,h1,h2,h3⟩:=N4 hi
 grind
theorem QFu(hg:AP n L)(hi:i<sizes L):A9 L (AH L i:Nat)=B7 L i:=by
 obtain⟨hj,m,h1,h2,h3⟩:=N4 hi;obtain⟨j,X,e1,e2,e3,e4,-⟩:=Zeb hg (base:=((0:Nat):Int)) (b:=(i:Int)) (FG.2 Ω);have hs:=(ME (base:=0) hi).1;rw[ξt]at hs;rw[hs]at e2 e3 e4
 have:B7 L i=j:=by
  rcases hg.disj (μ hj) (μ X)with e|e|e
  ·rcases ζZ (B7 L i) j with h|h|h
   ·have:=hg.at hj X h;omega
   ·exact h
   ·have:=hg.at X hj h;omega
  ·omega
  ·omega
 omega
def cvH(L:List Ob)(tb:Nat)(h:Hdr)(m x:Nat):Nat:=if (1<=m/\(m:Int)<=h.p)/\x≠0 then (toV L tb (x:Nat)).toNat else x
structure Sl where
 n:Nat
 pg:Nat
 cf:Cf
 L:List Ob
 hd:Nat->Hdr
 c:Nat->Nat
 mv:List Bool
variable{s:Sl}
def Sl.mvd(s:Sl):Nat:=cnt (at_ s.mv) s.mv.length
def Sl.ft(s:Sl):Nat:=first (λk=>!at_ s.mv k) s.mv.length
def Sl.lf(s:Sl):Nat:=s.mv.length-s.mvd
def Sl.is(s:Sl)(i:Nat):Bool:=at_ s.mv (i/s.cf.bk)
def Sl.off(s:Sl)(i:Nat):Nat:=i-sizes (s.L.take (B7 s.L i))
def Sl.hdr(s:Sl)(i:Nat):Hdr:=s.hd (s.L.getD (B7 s.L i) (0,0)).1
def Sl.cv(s:Sl)(i x:Nat):Nat:=cvH s.L s.cf.to (s.hdr i) (s.off i) x
def Sl.ptr(s:Sl)(i:Nat):Prop:=1<=s.off i/\(s.off i:Int)<=(s.hdr i).p
structure BD(s:Sl):Prop where
 pg:1<=s.pg/\s.pg<=256
 n2:s.n<=524288
 cf:G9 s.pg s.n s.cf
 good:AP s.n s.L
 inn:∀o∈s.L,s.cf.fr<=o.1/\o.1+o.2<=s.cf.tp
 fit:s.cf.to+sizes s.L<=s.cf.lm
 hd:∀j (hj:j<s.L.length),∃p f k:Nat,s.hd s.L[j].1=⟨p,f,k⟩/\p+f+k<=255/\s.L[j].2=1+p+f+k
 len:s.mv.length=nbl (sizes s.L) s.cf.bk
theorem BD.bk(h:BD s):1<=s.cf.bk/\s.cf.bk<=1024:=by have:=DD h.cf.bk;omega
theorem BD.N_le(h:BD s):sizes s.L<=s.n:=FT h.good
theorem V6P(hp:1<=p)(hb:b%p=0)(h:a<b):a/p<b/p:=by
 have h1:=ζx b p;rw[ζ7 Ω,ζ3];omega
theorem XSg(hB:1<=B):n<=upN n B/\upN n B%B=0:=by
 unfold upN;have h1:=ζx (n+B-1) B;have h2:=ξV (n+B-1) (show 0<B by omega)
 grind [ζ3,Nat.mul_mod_left]
theorem BD.apart(h:BD s)(ha:s.cf.fr<=a/\a<s.cf.tp)(hb:s.cf.to<=b/\b<s.cf.lm):a/s.pg≠b/s.pg:=by
 have hu:=XSg (n:=s.cf.tp) h.pg.1
 have hn:s.cf.lm<=s.cf.fr\/upN s.cf.tp s.pg<=s.cf.to:=by
  have:=h.cf.ap;omega
 rcases hn with e|e
 ·have h1:=V6P h.pg.1 h.cf.al hb.2;have h2:=ζc (c:=s.pg) (β e ha.1);omega
 ·have h1:=V6P (a:=a) h.pg.1 hu.2 Ω;have h2:=ζc (c:=s.pg) (β e hb.1);omega
theorem BD.srcs(h:BD s)(hi:i<sizes s.L):s.cf.fr<=AH s.L i/\AH s.L i<s.cf.tp/\AH s.L i<s.n:=by
 have h1:=Z8c h.inn hi;have h2:=h.cf.tn;omega
theorem BD.dsts(h:BD s)(hi:i<sizes s.L):s.cf.to+i<s.cf.lm/\s.cf.to+i<s.n:=by
 have h1:=h.fit;have h2:=h.cf.ln;omega
theorem BD.obj(h:BD s)(hi:i<sizes s.L):∃j,∃hj:j<s.L.length,∃m p f k:Nat,B7 s.L i=j/\m<s.L[j].2/\i=sizes (s.L.take j)+m/\AH s.L i=s.L[j].1+m/\s.off i=m/\s.hdr i=s.hd s.L[j].1/\s.hd s.L[j].1=⟨p,f,k⟩/\p+f+k<=255/\s.L[j].2=1+p+f+k:=by
 obtain⟨hj,m,h1,h2,h3⟩:=N4 hi;obtain⟨p,f,k,e1,e2,e3⟩:=h.hd _ hj;refine⟨B7 s.L i,hj,m,p,f,k,rfl,h1,h2,h3,by unfold Sl.off;omega,?_,e1,e2,e3⟩;unfold Sl.hdr
 grind
theorem BD.blk(h:BD s)(hi:i<sizes s.L):i/s.cf.bk<s.mv.length:=by
 rw[h.len,I3 h.bk.1];have:=ζn i s.cf.bk;omega
theorem BD.mv(h:BD s)(l:List Bool)(hl:l.length=s.mv.length):BD {s with mv:=l}:=
 ⟨h.pg,h.n2,h.cf,h.good,h.inn,h.fit,h.hd,hl.trans h.len⟩
theorem Xxa(L:List Ob)(tb:Nat)(a:Int):0<=toV L tb a:=by
 unfold toV
 split
 ·have:=WC L 0 a;omega
 omega
theorem BD.to_lt(h:BD s)(a:Int):toV s.L s.cf.to a<4294967296:=by
 unfold toV
 split
 ·have h1:=X8 h.good (by have:=h.n2;omega) a;have h2:=h.cf.lm;have h3:=h.cf.ln;have h4:=h.n2;omega
 ·omega
theorem BD.cv_lt(h:BD s)(i:Nat)(hx:x<18446744073709551616):s.cv i x<18446744073709551616:=by
 unfold Sl.cv cvH
 split
 ·have:=h.to_lt (x:Nat);omega
 ·exact hx
structure EF(s:Sl)(D U:Nat->Bool)(v:Vm):Prop where
 ok:AF v
 n:v.n=s.n
 pg:v.pl.pg=s.pg
 src:∀i,i<sizes s.L->U i=true->v.ldE (AH s.L i:Nat)=0/\s.cv i (v.ldV (AH s.L i:Nat))=s.c i/\(s.ptr i->v.ldV (AH s.L i:Nat)<=2147483647)
 dst:∀i,i<sizes s.L->D i=true->v.ldE ((s.cf.to+i:Nat):Int)=0/\v.ldV ((s.cf.to+i:Nat):Int)=s.c i
structure BQ(s:Sl)(v:Vm):Prop where
 st:BD s
 mid:EF s s.is (λi=>!s.is i) v
def Sl.inB(s:Sl)(k i:Nat):Bool:=i/s.cf.bk==k
def Sl.lo(s:Sl)(k:Nat):Nat:=k*s.cf.bk
def Sl.hi(s:Sl)(k:Nat):Nat:=min (k*s.cf.bk+s.cf.bk) (sizes s.L)
theorem BD.inB(h:BD s)(hi:i<sizes s.L):s.inB k i=true↔s.lo k<=i/\i<s.hi k:=by
 unfold Sl.inB Sl.lo Sl.hi;have hb:=h.bk.1;have h1:=ζx i s.cf.bk;have h2:=ξV i (show 0<s.cf.bk by omega);rw[ξa]
 grind [ζ3,Nat.div_eq_of_lt_le,ξp]
theorem BD.lohi(h:BD s)(hk:k<s.mv.length):s.lo k<s.hi k/\s.hi k<=s.lo k+s.cf.bk/\s.hi k<=sizes s.L:=by
 rw[h.len,I3 h.bk.1]at hk;have:=h.bk.1;unfold Sl.lo Sl.hi;omega
theorem Sl.is_put(hk:k<s.mv.length)(i:Nat):({s with mv:=s.mv.set k true}:Sl).is i=(s.is i||s.inB k i):=by
 unfold Sl.is Sl.inB;rw[F9 hk]
 grind
theorem YQS(hi:i<n):cnt (λj=>j==i) n=1:=by
 have e:cnt (λj=>j==i) n=cnt (λj=>decide (i<=j/\j<i+1)) n:=CT λj _=>by
  grind
 rw[e,TJ i (i+1) n Ω Ω];omega
theorem VX{f:Nat->Bool}(hi:i<n)(h:f i=false):cnt (λj=>f j||j==i) n=cnt f n+1:=by
 rw[L6 (λj=>by grind) n,YQS hi]
theorem V7q{f:Nat->Bool}(hi:i<n)(h:f i=true):cnt (λj=>f j&&!(j==i)) n+1=cnt f n:=by
 rw[<-VX (f:=λj=>f j&&!(j==i)) hi (by simp)];refine CT λj _=>?_;by_cases e:j=i
 ·simp_all
 grind
def Sl.on(s:Sl)(U:Nat->Bool)(q:Nat):Nat:=cnt (λi=>U i&&(AH s.L i/s.pg==q)) (sizes s.L)
def but(U:Nat->Bool)(i:Nat):Nat->Bool:=λj=>U j&&!(j==i)
theorem TZ(h:j≠i):but U i j=U j:=by
 have e':(j==i)=false:=ζD.2 h;simp[but,e']
theorem J3l:but U i i=false:=by simp[but]
theorem Sl.on_but(hi:i<sizes s.L)(h:U i=true):s.on (but U i) q+(if AH s.L i/s.pg=q then 1 else 0)=s.on U q:=by
 unfold Sl.on but;by_cases e:AH s.L i/s.pg=q
 ·rw[φ e,<-V7q (f:=λi=>U i&&(AH s.L i/s.pg==q)) hi (by simp[h,e])]
  grind
 grind
theorem Sl.on_le(s:Sl)(U:Nat->Bool)(q:Nat):s.on U q<=sizes s.L:=EJ _ _
theorem Sl.on_zero(h:s.on U q=0)(hj:j<sizes s.L)(hU:U j=true):AH s.L j/s.pg≠q:=by
 have:=VP h j hj
 simp_all
theorem Sl.on_pos(hj:i<sizes s.L)(hU:U i=true)(he:AH s.L i/s.pg=q):1<=s.on U q:=by
 rcases ζJ (s.on U q)with h|h
 ·exact absurd he (Sl.on_zero h hj hU)
 ·exact h
theorem Sl.on_iff:s.on U q=0↔∀j,j<sizes s.L->U j=true->AH s.L j/s.pg≠q:=
 ⟨λh _ hj hU=>Sl.on_zero h hj hU,λh=>GZ λj hj=>by
  simp_all⟩
theorem Sl.on_congr(h:∀j,j<sizes s.L->U j=V j):s.on U q=s.on V q:=CT λj hj=>by rw[h j hj]
theorem EF.congr{D':Nat->Bool}(h:EF s D U v)(hD:∀i,i<sizes s.L->D' i=true->D i=true)(hU:∀i,i<sizes s.L->U' i=true->U i=true):EF s D' U' v:=
 ⟨h.ok,h.n,h.pg,λi hi hu=>h.src i hi (hU i hi hu),λi hi hd=>h.dst i hi (hD i hi hd)⟩
theorem EF.mvd(h:EF s D U v)(l:List Bool):EF {s with mv:=l} D U v:=⟨h.ok,h.n,h.pg,h.src,h.dst⟩
theorem EF.grow(hs:BD s)(h:EF s D U v)(g:BW v v1 F):EF s D U v1:=by
 refine⟨g.ok,g.n.trans h.n,g.pg.trans h.pg,λi hi hu=>?_,λi hi hd=>?_⟩
 ·obtain⟨h1,h2,h3⟩:=h.src i hi hu;have hl:=(hs.srcs hi).2.2;rw[<-h.n]at hl;rw[g.ldV_all h.ok hl,g.ldE h.ok hl]
  simp_all
 ·obtain⟨h1,h2⟩:=h.dst i hi hd;have hl:=(hs.dsts hi).2;rw[<-h.n]at hl;rw[g.ldV_all h.ok hl,g.ldE h.ok hl];omega
theorem EF.put(hs:BD s)(h:EF s D U v)(hi:i<sizes s.L)(hl:v.ldE ((s.cf.to+i:Nat):Int)=0)(hx:x=s.c i)(hx2:x<18446744073709551616):EF s (λj=>D j||j==i) U (v.st ((s.cf.to+i:Nat):Int) x):=by
 have X:=h.ok.st_ldV x hl;refine⟨h.ok.st _ hx2,(BR.st v _ x).n.trans h.n,(BR.st v _ x).pg.trans h.pg,λj hj hu=>?_,λj hj hd=>?_⟩
 ·obtain⟨h1,h2,h3⟩:=h.src j hj hu;have ha:(((s.cf.to+i:Nat):Int)≠(AH s.L j:Nat)):=λe=>hs.apart ⟨(hs.srcs hj).1,(hs.srcs hj).2.1⟩ ⟨ζS _ i,(hs.dsts hi).1⟩ (by grind);rw[F2,X,ξ ha]
  simp_all
 ·rw[F2,X];by_cases e:i=j
  ·simp_all
  ·rw[ξ Ω];exact h.dst j hj (by grind)
structure FO(s:Sl)(D U:Nat->Bool)(lo hi:Nat)(v1 v':Vm)(m:Nat):Prop where
 mid:EF s (λj=>D j||(decide (lo<=j)&&decide (j<lo+m))) U v'
 sm:BR v1 v'
 oth:∀a:Nat,(a<s.cf.to+lo\/s.cf.to+hi<=a)->v'.ldV a=v1.ldV a
theorem FO.zero(h:EF s D U v)(lo hi:Nat):FO s D U lo hi v v 0:=
 ⟨h.congr (λi _ hd=>by
  grind) (λ_ _ h=>h),BR.refl v,λ_ _=>rfl⟩
theorem FO.step(hs:BD s){lo hi:Nat}(h:FO s D U lo hi v1 v' m)(hm:lo+m<hi)(hhi:hi<=sizes s.L)(hl:v1.ldE ((s.cf.to+(lo+m):Nat):Int)=0)(hx:x=s.c (lo+m))(hx2:x<18446744073709551616):
  FO s D U lo hi v1 (v'.st ((s.cf.to+(lo+m):Nat):Int) x) (m+1):=by
 have X:v'.ldE ((s.cf.to+(lo+m):Nat):Int)=0:=by rw[h.sm.ldE];exact hl
 refine⟨(h.mid.put hs Ω X hx hx2).congr (λi _ hd=>?_) (λ_ _ h=>h),h.sm.trans (BR.st _ _ _),λa ha=>?_⟩
 ·grind
 ·rw[h.mid.ok.st_ldV x X,ξ Ω];exact h.oth a ha
structure FA(s:Sl)(D U0 U:Nat->Bool)(v1 v':Vm):Prop where
 mid:EF s D U v'
 le:∀i,i<sizes s.L->U i=true->U0 i=true
 rm:v'.pl.rm=v1.pl.rm
 map:∀p,p<v1.pt.length->(v'.pt.getD p 0≠0↔v1.pt.getD p 0≠0/\¬ ∃i,i<sizes s.L/\U0 i=true/\U i=false/\AH s.L i/s.pg=p/\s.on U p=0)
 oth:∀a:Nat,a<s.n->(∀i,i<sizes s.L->AH s.L i/s.pg≠a/s.pg)->v'.ldV a=v1.ldV a/\v'.ldE a=v1.ldE a
theorem FA.zero(h:EF s D U v):FA s D U U v v:=
 ⟨h,λ_ _ h=>h,rfl,λp _=>⟨λh=>⟨h,λ⟨i,_,h1,h2,_⟩=>by simp_all⟩,λh=>h.1⟩,λ_ _ _=>⟨rfl,rfl⟩⟩
theorem FA.keep(h:FA s D U0 U v1 v')(hi:i<sizes s.L)(hU:U i=true)(hz:s.on (but U i) (AH s.L i/s.pg)≠0):FA s D U0 (but U i) v1 v':=by
 have X:∀j,but U i j=true->U j=true:=λj h=>by exact(ζY.1 h).1
 refine⟨h.mid.congr (λ_ _ h=>h) (λj _ hj=>X j hj),λj hj hu=>h.le j hj (X j hu),h.rm,λp hp=>(h.map p hp).trans (and_congr_right λ_=>not_congr ?_),h.oth⟩;have Y:=λq=>Sl.on_but (s:=s) (U:=U) (i:=i) (q:=q) hi hU;constructor
 ·grind
 ·rintro⟨j,hj,h1,h2,h3,h4⟩;have Z:AH s.L i/s.pg≠p:=λe=>by simp_all
  have J:j≠i:=λe=>by simp_all
  have:=Y p;rw[ξ Z]at this;exact⟨j,hj,h1,by rw[TZ J]at h2;exact h2,h3,by omega⟩
theorem ZdX(h:frE v.pt (p:Int)=0)(k:Nat):(v.um (p:Int)).pt.getD k 0≠0↔v.pt.getD k 0≠0/\k≠p:=by
 unfold Vm.um
 grind
theorem FA.drop(hs:BD s)(h:FA s D U0 U v1 v')(hi:i<sizes s.L)(hU:U i=true)(hz:s.on (but U i) (AH s.L i/s.pg)=0):FA s D U0 (but U i) v1 (v'.um ((AH s.L i/s.pg:Nat):Int)):=by
 have N:∀j,but U i j=true->U j=true:=λj h=>by exact(ζY.1 h).1
 have hk:=h.mid.ok;obtain⟨m1,m2,m3⟩:=h.mid.src i hi hU;have V:=hs.srcs hi
 have Y:frE v'.pt ((AH s.L i/s.pg:Nat):Int)=0:=by
  unfold Vm.ldE at m1;rw[φ ⟨by omega,by omega⟩,h.mid.pg]at m1;exact m1
 have Z:∀a:Nat,a<s.n->a/s.pg≠AH s.L i/s.pg->(v'.um ((AH s.L i/s.pg:Nat):Int)).ldE a=v'.ldE a/\(v'.um ((AH s.L i/s.pg:Nat):Int)).ldV a=v'.ldV a:=λa ha hne=>by
  have O:a/v'.pl.pg≠AH s.L i/s.pg:=by rw[h.mid.pg];exact hne
  exact⟨by rw[hk.um_ldE Y (by rw[h.mid.n];exact ha),ξ O],hk.um_ldV Y (by rw[h.mid.n];exact ha) O⟩
 have J:(v'.um ((AH s.L i/s.pg:Nat):Int)).n=v'.n/\(v'.um ((AH s.L i/s.pg:Nat):Int)).pl.pg=v'.pl.pg/\(v'.um ((AH s.L i/s.pg:Nat):Int)).pl.rm=v'.pl.rm:=by
  unfold Vm.um
  split <;> exact⟨rfl,rfl,rfl⟩
 have I:=λq=>Sl.on_but (s:=s) (U:=U) (i:=i) (q:=q) hi hU;refine⟨⟨hk.um _,J.1.trans h.mid.n,J.2.1.trans h.mid.pg,λj hj hu=>?_,λj hj hd=>?_⟩,λj hj hu=>h.le j hj (N j hu),J.2.2.trans h.rm,λp hp=>?_,λa ha hf=>?_⟩
 ·obtain⟨e1,e2⟩:=Z (AH s.L j) (hs.srcs hj).2.2 (Sl.on_zero hz hj hu);rw[e1,e2];exact h.mid.src j hj (N j hu)
 ·obtain⟨e1,e2⟩:=Z (s.cf.to+j) (hs.dsts hj).2 (λe=>hs.apart ⟨V.1,V.2.1⟩ ⟨ζS _ j,(hs.dsts hj).1⟩ e.symm);rw[e1,e2];exact h.mid.dst j hj hd
 ·rw[ZdX Y,h.map p hp,and_assoc];refine and_congr_right λ_=>?_;have:=I p;constructor
  ·rintro⟨g1,g2⟩ ⟨j,hj,h1,h2,h3,h4⟩;by_cases X:j=i
   ·subst X;exact g2 h3.symm
   ·rw[TZ X]at h2;rw[ξ (λe=>g2 e.symm)]at this;exact g1 ⟨j,hj,h1,h2,h3,by omega⟩
  ·intro g;refine⟨λ⟨j,hj,h1,h2,h3,h4⟩=>?_,λe=>?_⟩
   ·have X:j≠i:=λe=>by subst e;rw[hU]at h2;cases h2
    exact g ⟨j,hj,h1,by rw[TZ X];exact h2,h3,by omega⟩
   ·subst e;exact g ⟨i,hi,h.le i hi hU,J3l,rfl,hz⟩
 ·obtain⟨e1,e2⟩:=Z a ha (λe=>hf i hi e.symm);rw[e1,e2];exact h.oth a ha hf
structure M4(s:Sl)(k:Nat)(v v':Vm):Prop where
 ok:BQ {s with mv:=s.mv.set k true} v'
 rm:v'.pl.rm=v.pl.rm
 map:∀p,p<v.pt.length->(v'.pt.getD p 0≠0↔(v.pt.getD p 0≠0\/((s.cf.to+s.lo k)/s.pg<=p/\p<=(s.cf.to+s.hi k-1)/s.pg))/\¬ ∃i,i<sizes s.L/\s.inB k i=true/\AH s.L i/s.pg=p/\∀j,j<sizes s.L->AH s.L j/s.pg=p->s.is j=true\/s.inB k j=true)
 oth:∀a:Nat,a<s.n->(a<s.cf.to+s.lo k\/s.cf.to+s.hi k<=a)->(∀i,i<sizes s.L->AH s.L i/s.pg≠a/s.pg)->v'.ldV a=v.ldV a/\(v.ldE a=0->v'.ldE a=0)
theorem VWG(_:AF v){t:Nat}(hft:f<t)(_ht:t<=v.n):p∈BZ v ((f:Int)/(v.pl.pg:Int)).toNat (CW v f t)↔(f/v.pl.pg<=p/\p<=(t-1)/v.pl.pg)/\v.pt.getD p 0=0:=by
 have e1:((f:Int)/(v.pl.pg:Int)).toNat=f/v.pl.pg:=by grind
 have e2:((t:Int)-1)/(v.pl.pg:Int)=(((t-1)/v.pl.pg:Nat):Int):=by grind
 have h1:f/v.pl.pg<=(t-1)/v.pl.pg:=ζc Ω;rw[PA,e1];unfold CW;omega
theorem M4.of(h:BQ s v)(hk:k<s.mv.length)(_hm:at_ s.mv k=false)(hE:BK v ((s.cf.to+s.lo k:Nat):Int) ((s.cf.to+s.hi k:Nat):Int)=0)(hG:BW v v1 (BY v ((s.cf.to+s.lo k:Nat):Int) ((s.cf.to+s.hi k:Nat):Int)))
  (hC:FO s s.is (λi=>!s.is i) (s.lo k) (s.hi k) v1 v2 (s.hi k-s.lo k))  (hD:∀i,i<sizes s.L->D i=(s.is i||s.inB k i)) (hU:∀i,i<sizes s.L->U i=!(s.is i||s.inB k i)) (hR:FA s D (λi=>!s.is i) U v2 v'):M4 s k v v':=by
 have hs:=h.st;have hlh:=hs.lohi hk;have X:s.cf.to+s.hi k<=v.n:=by have:=hs.fit;have:=hs.cf.ln;rw[h.mid.n];omega
 have Y:s.cf.to+s.lo k<s.cf.to+s.hi k:=Ω
 have hF:∀p,p∈BY v ((s.cf.to+s.lo k:Nat):Int) ((s.cf.to+s.hi k:Nat):Int)↔((s.cf.to+s.lo k)/s.pg<=p/\p<=(s.cf.to+s.hi k-1)/s.pg)/\v.pt.getD p 0=0:=λp=>by
  unfold BY;rw[φ ⟨hE,by omega⟩,VWG h.mid.ok Y X,h.mid.pg]
 have hl2:v2.pt.length=v.pt.length:=by rw[hC.sm.pt,hG.len h.mid.ok]
 refine⟨⟨hs.mv _ (ζb ..),(hR.mid.mvd _).congr (λi hi hd=>?_) (λi hi hu=>?_)⟩,hR.rm.trans (hC.sm.rm.trans hG.rm),λp hp=>?_,λa ha hab hsr=>?_⟩
 ·rw[hD i hi,<-Sl.is_put hk];exact hd
 ·rw[hU i hi,<-Sl.is_put hk];exact hu
 ·rw[hR.map p Ω,hC.sm.pt,hG.ma p hp,hF]
  have e:(v.pt.getD p 0≠0\/((s.cf.to+s.lo k)/s.pg<=p/\p<=(s.cf.to+s.hi k-1)/s.pg)/\v.pt.getD p 0=0)↔(v.pt.getD p 0≠0\/((s.cf.to+s.lo k)/s.pg<=p/\p<=(s.cf.to+s.hi k-1)/s.pg)):=by
   constructor
   ·rintro(a|⟨a,-⟩)
    ·exact .inl a
    ·exact .inr a
   ·rintro(a|a)
    ·exact .inl a
    ·by_cases h0:v.pt.getD p 0=0
     ·exact .inr ⟨a,h0⟩
     ·exact .inl h0
  rw[e];refine and_congr_right λ_=>not_congr ?_;constructor
  ·rintro⟨i,hi,h1,h2,h3,h4⟩;refine⟨i,hi,?_,h3,λj hj he=>?_⟩
   ·cases e1:s.is i <;> cases e2:s.inB k i <;> simp_all
   ·have:=mt (Sl.on_zero h4 hj) (λg=>g he);cases e1:s.is j <;> cases e2:s.inB k j <;> simp_all
  ·rintro⟨i,hi,h1,h3,h4⟩;refine⟨i,hi,?_,by rw[hU i hi,h1];simp,h3,Sl.on_iff.2 λj hj hu he=>?_⟩
   ·have:i/s.cf.bk=k:=by simpa[Sl.inB]using h1
    unfold Sl.is;rw[this,_hm];rfl
   ·rw[hU j hj]at hu;rcases h4 j hj he with h|h <;> simp[h]at hu
 ·obtain⟨e1,e2⟩:=hR.oth a ha hsr;have e3:=hC.oth a hab;have e4:=hG.ldV_all h.mid.ok (a:=a) (by rw[h.mid.n];exact ha);have e5:=hG.ldE h.mid.ok (a:=a) (by rw[h.mid.n];exact ha);rw[e1,e3,e4,e2,hC.sm.ldE,e5];exact⟨rfl,λh=>by rw[h];split <;> rfl⟩
open Go.Shelf
structure CB where
 F:Nat
 G:Nat
 p:Nat
 m:Nat
 p1:Nat
 b1:Nat
 p2:Nat
 b2:Nat
 bs:Nat
 bm:Nat
 cm:Nat
 bw:Nat
variable{z:CB}
def bls(l:List Bool):List Value:=l.map Value.bool
theorem KK(h:i<l.length):(bls l)[i]?=some (.bool (at_ l i)):=by simp[bls,at_,h]
theorem QPU(l:List Bool)(i:Nat)(b:Bool):(bls l).set i (.bool b)=bls (l.set i b):=by simp[bls]
def Qa0(q:Nat)(c:Cf)(z:CB)(nb lf ft ah:Nat):List Value:=
 [pP q,iI c.fr,iI c.tp,iI c.to,iI c.lm,iI c.bk,iI c.st,iI c.ah,
  pP z.p,pP z.m,.slice (some ⟨z.bm,0,none⟩) nb z.cm,iI lf,iI ft,iI ah,.map (some z.bw),.map (some z.bs)]
def PE(w:World)(b:Nat)(s:Sl):Prop:=∃n f,BH prog 3 w b n f/\∀j (h:j<s.L.length),f (s.L[j].1:Nat)=some (AM (s.hd s.L[j].1))
def KQ(w:World)(b:Nat)(s:Sl)(U:Nat->Bool):Prop:=∃n f,BH prog 3 w b n f/\n+cnt U (sizes s.L)<=2*sizes s.L/\∀q:Nat,(f (q:Nat)).getD (iI 0)=iI (s.on U q:Nat)
theorem PE.touch(h:PE w b s)(t:AB T w w')(hT:¬T b):PE w' b s:=by
 obtain⟨n,f,h1,h2⟩:=h;exact⟨n,f,h1.touch t hT,h2⟩
theorem KQ.touch(h:KQ w b s U)(t:AB T w w')(hT:¬T b):KQ w' b s U:=by
 obtain⟨n,f,h1,h2⟩:=h;exact⟨n,f,h1.touch t hT,h2⟩
structure QJ(w:World)(R:Nat->Prop)(y:Nat)(z:CB):Prop where
 o1:z.m<z.F
 o2:z.p1<z.F
 o3:z.b1<z.F
 o4:z.p2<z.F
 o5:z.b2<z.F
 o6:z.F<=z.G
 o7:z.G<=w.heap.size
 g1:z.G<=y
 g2:z.G<=z.bm
 g3:z.G<=z.bw
 g4:z.G<=z.bs
 n1:y≠z.bm
 n2:y≠z.bw
 n3:y≠z.bs
 n4:z.bm≠z.bw
 n5:z.bm≠z.bs
 n6:z.bw≠z.bs
 r1:R y
 r2:R z.bm
 r3:R z.bw
 r4:R z.bs
 r5:R z.m
 r6:R z.p1
 r7:R z.b1
 r8:R z.p2
 r9:R z.b2
 rr:∀k,z.F<=k->k<z.G->R k
 lt:∀k,R k->k<w.heap.size
structure BI(w:World)(R:Nat->Prop)(y q:Nat)(z:CB)(s:Sl)(U:Nat->Bool)(ml:List Bool)(lf ft ah:Nat):Prop where
 od:QJ w R y z
 rc:Rec w y 201 (Qa0 q s.cf z ml.length lf ft ah)
 pl:∀W,AB (λi=>i<z.F\/z.G<=i) w W->Pln W z.F z.p s.n s.cf.bk s.cf.to s.L
 ex:Ext w z.m z.p1 z.b1 z.p2 z.b2 s.n s.L
 sh:PE w z.bs s
 wd:KQ w z.bw s U
 mv:w.ownsRow 0 4 1 (.slice (some ⟨z.bm,0,none⟩) ml.length z.cm) ml.length (bls ml)
abbrev Cyc(w:World)(R:Nat->Prop)(y q:Nat)(z:CB)(s:Sl):Prop:=BI w R y q z s (λi=>!s.is i) s.mv s.lf s.ft (s.mvd-s.ft)
section
variable{lf ft:Nat}
theorem QJ.gr(h:QJ w R y z)(hs:w.heap.size<=w'.heap.size):QJ w' R y z:=
 ⟨h.o1,h.o2,h.o3,h.o4,h.o5,h.o6,β h.o7 hs,h.g1,h.g2,h.g3,h.g4,h.n1,h.n2,h.n3,h.n4,h.n5,h.n6,h.r1,h.r2,h.r3,h.r4,h.r5,h.r6,h.r7,h.r8,h.r9,h.rr,λk hk=>κ (h.lt k hk) hs⟩
theorem BI.touch(h:BI w R y q z s U ml lf ft ah)(t:AB T w w')(hT:∀k,R k->¬T k):BI w' R y q z s U ml lf ft ah:=by
 have o:=h.od;refine⟨o.gr t.size,h.rc.touch t (hT _ o.r1),λW tW=>h.pl W ?_,h.ex.touch t (hT _ o.r5) (hT _ o.r6) (hT _ o.r7) (hT _ o.r8) (hT _ o.r9),h.sh.touch t (hT _ o.r4),h.wd.touch t (hT _ o.r3),BX h.mv t (λg hg=>by cases hg;exact hT _ o.r2)⟩;refine(t.mono (λi _ hi=>?_)).trans tW;rcases υ i z.F with h1|h1
 ·exact .inl h1
 ·rcases υ i z.G with h2|h2
  ·exact absurd hi (hT _ (o.rr i h1 h2))
  omega
theorem BI.gr(h:BI w R y q z s U ml lf ft ah)(g:Gr w w'):BI w' R y q z s U ml lf ft ah:=h.touch (g.touch (λ_=>False)) (λ_ _ h=>h)
theorem BI.setR(h:BI w R y q z s U ml lf ft ah){lf' ft' ah':Nat}(t:AB (λi=>i=y) w w')(hr:Rec w' y 201 (Qa0 q s.cf z ml.length lf' ft' ah')):BI w' R y q z s U ml lf' ft' ah':=by
 have o:=h.od;refine⟨o.gr t.size,hr,λW tW=>h.pl W ((t.mono (λi _ hi=>.inr (by rw[hi];exact o.g1))).trans tW),h.ex.touch t ?_ ?_ ?_ ?_ ?_,h.sh.touch t (λe=>o.n3 e.symm),h.wd.touch t (λe=>o.n2 e.symm),BX h.mv t (λg hg=>by cases hg;exact λe=>o.n1 e.symm)⟩
 all_goals (have:=o.o1;have:=o.o2;have:=o.o3;have:=o.o4;have:=o.o5;have:=o.o6;have:=o.g1;omega)
theorem BI.setW(h:BI w R y q z s U ml lf ft ah)(t:AB (λi=>i=z.bw) w w')(hw:KQ w' z.bw s U'):BI w' R y q z s U' ml lf ft ah:=by
 have o:=h.od;refine⟨o.gr t.size,h.rc.touch t o.n2,λW tW=>h.pl W ((t.mono (λi _ hi=>.inr (by rw[hi];exact o.g3))).trans tW),h.ex.touch t ?_ ?_ ?_ ?_ ?_,h.sh.touch t (λe=>o.n6 e.symm),hw,BX h.mv t (λg hg=>by cases hg;exact o.n4)⟩
 all_goals (have:=o.o1;have:=o.o2;have:=o.o3;have:=o.o4;have:=o.o5;have:=o.o6;have:=o.g3;omega)
theorem BI.setM(h:BI w R y q z s U ml lf ft ah){ml':List Bool}(hl:ml'.length=ml.length)(t:AB (λi=>i=z.bm) w w')(hm:w'.ownsRow 0 4 1 (.slice (some ⟨z.bm,0,none⟩) ml'.length z.cm) ml'.length (bls ml')):BI w' R y q z s U ml' lf ft ah:=by
 have o:=h.od;refine⟨o.gr t.size,?_,λW tW=>h.pl W ((t.mono (λi _ hi=>.inr (by rw[hi];exact o.g2))).trans tW),h.ex.touch t ?_ ?_ ?_ ?_ ?_,h.sh.touch t (λe=>o.n5 e.symm),h.wd.touch t (λe=>o.n4 e.symm),hm⟩
 ·rw[hl];exact h.rc.touch t o.n1
 all_goals (have:=o.o1;have:=o.o2;have:=o.o3;have:=o.o4;have:=o.o5;have:=o.o6;have:=o.g2;omega)
theorem BI.plan(h:BI w R y q z s U ml lf ft ah):Pln w z.F z.p s.n s.cf.bk s.cf.to s.L:=h.pl w (AB.refl _ _)
theorem BI.same{s':Sl}(h:BI w R y q z s U ml lf ft ah)(h1:s'.n=s.n)(h2:s'.cf=s.cf)(h3:s'.L=s.L)(h4:s'.hd=s.hd)(h5:s'.pg=s.pg):BI w R y q z s' U ml lf ft ah:=by
 cases s;cases s';subst h1 h2 h3 h4 h5;exact⟨h.od,h.rc,h.pl,h.ex,h.sh,h.wd,h.mv⟩
end
section
variable{lf ft:Nat}
theorem XLA(hC:BI w R y q z s U ml lf ft ah)(a:Int):A4 prog 195 #[pP y,iI a] w (iI (toV s.L s.cf.to a)):=by
 obtain⟨h1,h2,h3,f,c0,c1,hF⟩:=hC.plan;have x8:=hC.rc.cc 8;have Z:=(SP c0);have X:=(RA hF a);obtain⟨t,ht⟩:∃t,t=toV s.L s.cf.to a:=⟨_,rfl⟩;obtain⟨te,Y⟩:∃te,te=toE s.L a:=⟨_,rfl⟩;rw[<-ht,<-Y]at X;rw[<-ht];clear hC hF h1 h2 h3 c0 c1 ht Y;go_enter func195,ntmps195
 go_wp2_with(first
  | (go_at_call 192;refine AK (Z) ?_)
  | (go_at_call 163;refine(X).mono ?_;rintro e w2 ⟨rfl,J⟩;have HG2:=J))
 go_ret
 simp_all
theorem QOX(hs:p+f+k<=255):(BO ⟨p,f,k⟩ ((m:Int)-1)==1)=decide (1<=m/\m<=p):=by
 by_cases h:1<=m/\m<=p
 ·rw[θ h,Q8 Ω (by grind) (by show (p:Int)<CF ⟨p,f,k⟩;rw[show CF ⟨p,f,k⟩=1+(p:Int)+f+k from φ (EG hs)];omega)];rfl
 grind [ζ,VgZ]
theorem Jmu(hs:p+f+k<=255)(hm:m<=4294967296)(w:World):A4 prog 262 #[AM ⟨p,f,k⟩,iI m] w (.bool (decide (1<=m/\m<=p))):=by
 have Z:=(λ(W:World)=>VQ hs ((m:Int)-1) W);have V:=(QOX (f:=f) (k:=k) hs (m:=m));unfold AM at Z⊢;obtain⟨b,hb⟩:∃b,b=decide (1<=m/\m<=p):=⟨_,rfl⟩;rw[<-hb]at V⊢;clear hb;have X:=Rec.new w 64 [iI p,iI f,iI k];go_enter func262,ntmps262;go_upto_region 1 with(fail);obtain⟨w2,Y⟩:∃w2,w2=w.alloc (.cells #[.int .i64 p,.int .i64 f,.int .i64 k] 64):=⟨_,rfl⟩;have N:Gr w w2:=by rw[Y];exact(Gr.refl w).alloc _
 rw[<-Y]at X⊢;have y0:=X.cc 0;have y1:=X.cc 1;have y2:=X.cc 2;clear Y X;go_wp2_with(go_at_call 143;refine(Z _).mono ?_;rintro e w3 ⟨rfl,J⟩;have HG3:=(N.trans J));go_ret
 simp_all
theorem ZK(hC:BI w R y q z s U ml lf ft ah)(hst:BD s)(hV:AD w S q v)(hs:p+f+k<=255)(ha:a=st+m)(hm:a<=4294967296)(hx:1<=m/\m<=p->v.ldV (a:Nat)<=2147483647):
  A4 prog 223 #[pP y,iI a,iI st,AM ⟨p,f,k⟩] w (uU (cvH s.L s.cf.to ⟨p,f,k⟩ m (v.ldV (a:Nat)):Nat)):=by
 have V:=(λ(W:World) (g:Gr w W)=>JV (hV.gr g) (a:Int));have I:=(λ(W:World)=>Jmu (f:=f) (k:=k) hs (m:=m) Ω W);have Xl:Hid (v.ldV (a:Nat)<18446744073709551616):=⟨hV.ok.ldV_lt _⟩;have Xk:=hst;have HR:=(Rec.new w 64 [iI p,iI f,iI k]);simp only[List.toArray]at HR;unfold AM at I;unfold AM;obtain⟨x,Xb⟩:∃x,x=v.ldV (a:Nat):=⟨_,rfl⟩;rw[<-Xb]at hx Xl V⊢;obtain⟨Xc,O⟩:∃Xc,Xc=cvH s.L s.cf.to ⟨p,f,k⟩ m x:=⟨_,rfl⟩;have N:=ι O;rw[<-O];obtain⟨le,Xd⟩:∃le,le=v.ldE (a:Nat):=⟨_,rfl⟩;rw[<-Xd]at V;clear Xb Xd hV hst O;have Xm:(a:Int)-(st:Int)=(m:Int):=Ω
 clear ha;unfold A4;go_enter func223,ntmps223;go_upto_region 1 with(fail);obtain⟨w2,Xa⟩:∃w2,w2=w.alloc (.cells #[.int .i64 p,.int .i64 f,.int .i64 k] 64):=⟨_,rfl⟩;have Y:Gr w w2:=by rw[Xa];exact(Gr.refl w).alloc _
 rw[<-Xa]at HR⊢;obtain⟨hb,Xh⟩:∃hb,hb=w.heap.size:=⟨_,rfl⟩;rw[<-Xh]at HR⊢;have x0:=(hC.rc.gr Y).cell (j:=0) rfl;have xl:=(hC.rc.gr Y).lt;clear Xa Xh;by_cases G:x=0
 ·subst G;have hcv:cvH s.L s.cf.to ⟨p,f,k⟩ m 0=0:=by unfold cvH;rw[ξ (λh=>h.2 rfl)]
  rw[<-N.o]at hcv;subst hcv;clear hx Xm;go_wp2_with(go_at_call 216;refine(V _ Y).mono ?_;rintro e w3 ⟨rfl,X⟩;have Z:=(Y.trans X);clear X);go_ret;exact⟨rfl,Z⟩
 ·have d2:((x:Int) !=0)=true:=by simp;exact G
  by_cases hp:1<=m/\m<=p
  ·rw[θ hp]at I;have Xg:=hx hp;have hcv:cvH s.L s.cf.to ⟨p,f,k⟩ m x=(toV s.L s.cf.to (x:Nat)).toNat:=by unfold cvH;rw[φ ⟨⟨hp.1,by show (m:Int)<=(p:Int);omega⟩,G⟩]
   rw[<-N.o]at hcv;subst hcv;have Xe:=(λ(W:World) (g:Gr w W)=>XLA (hC.gr g) (x:Int));have Xf:=Xxa s.L s.cf.to (x:Int);have Xj:=Xk.to_lt (x:Int);obtain⟨t,ht⟩:∃t,t=toV s.L s.cf.to (x:Int):=⟨_,rfl⟩;rw[<-ht]at Xe Xf Xj;have hwy:IntKind.u64.wrap t=t:=by rw[ξy];omega
   have hwx:IntKind.i64.wrap (x:Int)=(x:Int):=ζw _ Ω;clear hx hp Xg
   go_wp2_with(first
    | (go_at_call 216;refine(V _ Y).mono ?_;rintro e w3 ⟨rfl,X⟩;have Z:=(Y.trans X);have RR:=HR.gr X;obtain⟨y0,y1,y2,yl⟩:=RR.k3;clear X RR)
    | (go_at_call 262;refine(I _).mono ?_;rintro e w4 ⟨rfl,J⟩;have E:=(Z.trans J);clear J)
    | (go_at_call 195;refine(Xe _ E).mono ?_;rintro e w5 ⟨rfl,Xi⟩;have Xn:=(E.trans Xi);clear Xi))
   go_ret;exact⟨by rw[<-ht,ξw Xf];rfl,Xn⟩
  ·rw[ζ hp]at I;have hcv:cvH s.L s.cf.to ⟨p,f,k⟩ m x=x:=by unfold cvH;rw[ξ (λh=>hp ⟨h.1.1,by have:(m:Int)<=(p:Int):=h.1.2;omega⟩)]
   rw[<-N.o]at hcv;subst hcv;clear hx hp
   go_wp2_with(first
    | (go_at_call 216;refine(V _ Y).mono ?_;rintro e w3 ⟨rfl,X⟩;have Z:=(Y.trans X);have RR:=HR.gr X;obtain⟨y0,y1,y2,yl⟩:=RR.k3;clear X RR)
    | (go_at_call 262;refine(I _).mono ?_;rintro e w4 ⟨rfl,J⟩;have E:=(Z.trans J);clear J))
   go_ret;exact⟨rfl,E⟩
end
theorem JNO(w:World):(zeroValue 64).run prog w=.ok (.agg #[iI 0,iI 0,iI 0]) w:=by kernel_rfl
theorem QJG(h:PE w b s)(hj:j<s.L.length)(hb:s.L[j].1<=4294967296):
  (Instr.lookup 199 (.map (some b)) (iI (s.L[j].1:Nat)) false).run prog w=.ok (AM (s.hd s.L[j].1)) w:=by
 obtain⟨n,f,h1,h2⟩:=h;rw[h1.look JK underlying199 underlying3 (JNO w) (WalkArith.wf_i64 Ω),h2 j hj];rfl
theorem T8(h:KQ w b s U)(hb:q<=4294967296):
  (Instr.lookup 148 (.map (some b)) (iI q) false).run prog w=.ok (iI (s.on U q:Nat)) w:=by
 obtain⟨n,f,h1,-,h2⟩:=h;rw[h1.look JK underlying148 underlying3 (XW w) (WalkArith.wf_i64 Ω),h2 q]
structure CpI(w wr:World)(S:Nat->Prop)(q:Nat)(s:Sl)(D U:Nat->Bool)(lo hi:Nat)(v1:Vm)(m hb:Nat)(p f k:Nat):Prop where
 t:AB S w wr
 vm:∃vx,AD wr (AC S w) q vx/\FO s D U lo hi v1 vx m
 h:Rec wr hb 64 [iI p,iI f,iI k]
def VF5(w:World)(S:Nat->Prop)(q:Nat)(s:Sl)(D U:Nat->Bool)(lo hi:Nat)(v1:Vm)(m:Nat)(e:Ending)(w':World):Prop:=
 e=.returned (.tuple #[])/\AB S w w'/\∃v'',AD w' (AC S w) q v''/\FO s D U lo hi v1 v'' m
def Obj(s:Sl)(a st sz p f k:Nat):Prop:=∃j,∃hj:j<s.L.length,st=s.L[j].1/\sz=s.L[j].2/\s.hd s.L[j].1=⟨p,f,k⟩/\st<=a/\a<st+sz
theorem QGb(hst:BD s){sz:Nat}(hi:i<sizes s.L)(ha:AH s.L i=a)(ho:Obj s a st sz p f k):s.off i=a-st/\s.hdr i=⟨p,f,k⟩/\p+f+k<=255:=by
 obtain⟨j,hj,rfl,rfl,h3,h4,h5⟩:=ho;obtain⟨j',X,m,p',f',k',e1,e2,e3,e4,e5,e6,e7,e8,e9⟩:=hst.obj hi
 have hjj:s.L[j]=s.L[j']:=by
  rcases hst.good.disj (μ hj) (μ X)with e|e|e
  ·exact e
  ·omega
  ·omega
 grind
theorem Zm8(hst:BD s)(hi:i<sizes s.L)(ha:AH s.L i=a):∃j,∃hj:j<s.L.length,∃p f k:Nat,A9 s.L (a:Nat)=j/\s.hd s.L[j].1=⟨p,f,k⟩/\Obj s a s.L[j].1 s.L[j].2 p f k:=by
 obtain⟨j',X,m,p',f',k',e1,e2,e3,e4,e5,e6,e7,e8,e9⟩:=hst.obj hi;have:=QFu hst.good hi;rw[ha,e1]at this;exact⟨j',X,p',f',k',this,e7,j',X,rfl,rfl,e7,by omega,by omega⟩
section
variable{Uo:Nat->Bool}{lf ft:Nat}{lo hi:Nat}
theorem XAM(hC:BI w R y q z s U ml lf ft ah)(hst:BD s)(hT:AO w)(htS:¬S 1)(hV:AD w S q v')(hdis:∀k,R k->¬S k)(hcp:FO s D Uo lo hi v1 v' m)
  (hn:lo+m+n<=hi) (hhi:hi<=sizes s.L) (hU:∀i,lo<=i->i<hi->Uo i=true) (hl:∀i,lo<=i->i<hi->v1.ldE ((s.cf.to+i:Nat):Int)=0) (hw:∀i,i<n->AH s.L (lo+m+i)=f+i):
  Calls prog 171 #[pP y,.agg #[iI f,iI ((s.cf.to+(lo+m):Nat):Int),iI n]] w (VF5 w S q s D Uo lo hi v1 (m+n)):=by
 have HC:=hC;have E:=hst;have HT:=hT;have Yx:=htS;have HV:=hV.cut;have Yj:=hdis;have Yu:=hcp;have HU:=hU;have HL:=hl;have HW:=hw;have HB:=(ψ hn hhi);have hn2:=hst.n2;have hNn:=hst.N_le
 have hfb:n=0\/f+n<=1048576:=by
  rcases ζJ n with h|h
  ·exact .inl h
  ·right;have h1:=hw (n-1) Ω;have h2:=(hst.srcs (i:=lo+m+(n-1)) Ω).2.2;omega
 have Xh:s.cf.to+(lo+m)<=1048576:=by have:=hst.fit;have:=hst.cf.ln;omega
 obtain⟨t,ht⟩:∃t,t=s.cf.to+(lo+m):=⟨_,rfl⟩;have Ys:=ι ht;have hnb:n<=1048576:=Ω
 rw[<-ht]at Xh⊢;clear hC hst hT htS hV hdis hcp hU hl hw ht hn hhi;have RP:=Rec.new w 260 [iI f,iI t,iI n];simp only[List.toArray]at RP;go_enter func171,ntmps171;go_upto_region 2 with(fail);obtain⟨w1,Xk⟩:∃w1,w1=w.alloc (.cells #[.int .i64 f,.int .i64 t,.int .i64 n] 260):=⟨_,rfl⟩;have Yl:Gr w w1:=by rw[Xk];exact(Gr.refl w).alloc _
 have Yq:w1.heap.size=w.heap.size+1:=by rw[Xk,γ]
 have Yk:Rec w1 w.heap.size 260 [iI f,iI t,iI n]:=by rw[Xk];exact RP
 rw[<-Xk];clear Xk RP;have RH:=Rec.new w1 64 [iI 0,iI 0,iI 0];simp only[List.toArray]at RH;obtain⟨w2,Xr⟩:∃w2,w2=w1.alloc (.cells #[.int .i64 0,.int .i64 0,.int .i64 0] 64):=⟨_,rfl⟩;have Yb:Gr w1 w2:=by rw[Xr];exact(Gr.refl w1).alloc _
 rw[<-Xr]at RH⊢;rw[Yq]at RH;have Xt:=Yk.gr Yb;have Ym:=(Yl.trans Yb);have HS2:Hid (w.heap.size+2=w2.heap.size):=⟨by rw[Xr,γ];omega⟩;clear Xr Yl Yb Yk;have q2:=Xt.cc 2;have ql:=Xt.lt;have Xv:=ι Xt;have Yi:Hid (CpI w w2 S q s D Uo lo hi v1 (m+0) (w.heap.size+1) 0 0 0):=⟨⟨Ym.touch _,⟨v',HV.gr Ym,Yu⟩,RH⟩⟩;have Yn:=HC.od.lt;clear Xt RH;go_upto_region 3 with(fail);clear q2 ql
 go_loopw [4,5,12] (λs4 s5 s12 wr=>∃(i st sz p f' k:Nat),i<=n/\Hid (CpI w wr S q s D Uo lo hi v1 (m+i) (w.heap.size+1) p f' k)/\Hid ((i=0/\st=0/\sz=0)\/Obj s (f+i-1) st sz p f' k)/\Hid (Rec wr w.heap.size 260 [iI f,iI t,iI n])/\s4=iI st/\s5=iI sz/\s12=iI i) (λ_ _ s12 _=>n-(intOf s12).toNat)
 case atStart=>exact⟨0,0,0,0,0,0,ζf _,Yi,⟨.inl ⟨rfl,rfl,rfl⟩⟩,Xv,rfl,rfl,rfl⟩
 case round=>
  obtain⟨i,st,sz,ph,fh,kh,hin,HI,HO,O,rfl,rfl,rfl⟩:=hrel;clear Xv Yi;have hpl:=O.o.lt;by_cases Yd:i<n
  ·have Xs:=ι Yd;have hiI:(i:Int)<(n:Int):=Ω
   have hfi:f+i<=1048576:=Ω
   have Xl:=HW i Yd;have Xb:lo+m+i<sizes s.L:=by have:=HB;omega
   have V:BI wr R y q z s U ml lf ft ah:=HC.touch HI.o.t Yj;have Xh:=HT.touch' HI.o.t Yx
   have Ye:Hid (∀(W:World) (st sz p f' k:Nat),AB (λb=>b=w.heap.size+1) wr W->Obj s (f+i) st sz p f' k->A4 prog 223 #[pP y,iI ((f:Int)+(i:Int)),iI st,.agg #[iI p,iI f',iI k]] W (uU (s.c (lo+m+i):Nat))):=⟨λW st sz p f' k tW ho=>by
    obtain⟨vx,Xc,Xa⟩:=HI.o.vm;obtain⟨e1,e2,e3⟩:=QGb E Xb Xl ho;obtain⟨j,hj,-,-,-,o4,o5⟩:=ho;obtain⟨-,m2,m3⟩:=Xa.mid.src (lo+m+i) Xb (HU _ Ω (by have:=HB;omega));rw[Xl]at m2 m3;have:=ZK (f:=f') (k:=k) (V.touch tW (λb hb h=>by have:=Yn b hb;omega)) E (Xc.touch tW (λb hb _ h=>by have:=hb.2;omega)) (p:=p) e3 (a:=f+i) (st:=st) (m:=f+i-st) Ω Ω (λh=>m3 ⟨by rw[e1];exact h.1,by rw[e1,e2];show ((f+i-st:Nat):Int)<=(p:Int);omega⟩);unfold Sl.cv at m2;rw[e1,e2]at m2;rw[m2]at this
    exact this⟩
   have Xi:Hid (∀(W:World),AB (λb=>b=w.heap.size+1) wr W->Calls prog 217 #[pP q,iI ((t:Int)+(i:Int)),uU (s.c (lo+m+i):Nat)] W λe w'=>∃er,e=.returned (iI er)/\AB (AC S w) W w'/\∃vx,AD w' (AC S w) q vx/\FO s D Uo lo hi v1 vx (m+i+1)):=⟨λW tW=>by
    obtain⟨vx,Xc,Xa⟩:=HI.o.vm;obtain⟨-,m2,-⟩:=Xa.mid.src (lo+m+i) Xb (HU _ Ω (by have:=HB;omega));have Yh:s.c (lo+m+i)<18446744073709551616:=by rw[<-m2];exact E.cv_lt _ (Xc.ok.ldV_lt _)
    refine(MF (Xc.touch tW (λb hb _ h=>by have:=hb.2;omega)) ((t:Int)+(i:Int)) Yh).mono ?_;rintro e w' ⟨rfl,ht,hv⟩;refine⟨_,rfl,ht,_,hv,?_⟩;have:=Xa.step E (by have:=HB;omega) HB.2 (HL _ Ω (by have:=HB;omega)) (x:=s.c (lo+m+i)) (by rw[ξF lo m i]) Yh;rw[show ((t:Int)+(i:Int))=((s.cf.to+(lo+(m+i)):Nat):Int)by rw[Ys.o];omega]
    exact this⟩
   have HK:Hid (∀(W:World) (p' Y k':Nat),AB (λb=>b=w.heap.size+1) wr W->Rec W (w.heap.size+1) 64 [iI p',iI Y,iI k']->(W.cell? ⟨y,0,none⟩=some (pP q)/\W.cell? ⟨w.heap.size,1,none⟩=some (iI t))/\W.cell? ⟨w.heap.size+1,0,none⟩=some (iI p')/\W.cell? ⟨w.heap.size+1,1,none⟩=some (iI Y)/\W.cell? ⟨w.heap.size+1,2,none⟩=some (iI k')):=⟨λW p' Y k' tW hr=>by
    have h1:=(V.touch tW (λb hb h=>by have:=Yn b hb;omega)).rc;have h2:=O.o.touch tW Ω
    exact⟨⟨h1.cc 0,h2.cc 1⟩,hr.cc 0,hr.cc 1,hr.cc 2⟩⟩
   have hsb:st+sz<=1048576:=by
    rcases HO.o with h|⟨j,hj,h1,h2,-⟩
    ·omega
    ·have:=(E.good.sz _ (μ hj)).2;omega
   have q0:=O.o.cc 0;have q1:=O.o.cc 1;obtain⟨c,hc⟩:∃c,c=s.c (lo+m+i):=⟨_,rfl⟩;rw[<-hc]at Ye Xi;clear hc;by_cases Xq:st+sz<=f+i
   ·have d1:decide ((st:Int)+(sz:Int)<=(f:Int)+(i:Int))=true:=θ Ω;have d2:decide (st+sz<=f+i)=true:=θ Xq;obtain⟨j,hj,p',Y,k',g1,g2,g3⟩:=Zm8 E Xb Xl;have Xp:=ι (KV V.ex Xh ((f:Int)+(i:Int)));rw[show (f:Int)+(i:Int)=((f+i:Nat):Int)by omega,g1,OC hj]at Xp;have Xu:=QJG V.sh hj (by have:=(E.good.sz _ (μ hj)).2;omega);rw[g2]at Xu;unfold AM at Xu;have G:=ι g3;obtain⟨Xy,Xx⟩:∃Xy,Xy=s.L[j].1:=⟨_,rfl⟩;obtain⟨Xz,Xw⟩:∃Xz,Xz=s.L[j].2:=⟨_,rfl⟩;rw[<-Xx]at Xp G Xu;rw[<-Xw]at Xp G;rw[show ((f+i:Nat):Int)=(f:Int)+(i:Int)by omega]at Xp;have x3:=V.rc.cc 9;have x9:=V.rc.cc 15;have xl:=V.rc.lt;have Yp:=HI.o.h.cc 0;have Yr:=HI.o.h.cc 1;have Yw:=HI.o.h.cc 2;have Yt:=HI.o.h.free;have Yv:=HI.o.h.lt;have Yf:=ι (((HI.o.h.set 0 (iI p')).set 1 (iI Y)).set 2 (iI k'));clear Xq V Xh g1 g2 g3 Xx Xw Xl Xb;go_upto_region 9 with(go_at_call 222;refine AK (Xp.o) ?_)
    have tB:AB (λb=>b=w.heap.size+1) wr (((wr.setCell ⟨w.heap.size+1,0,none⟩ (.int .i64 p')).setCell ⟨w.heap.size+1,1,none⟩ (.int .i64 Y)).setCell ⟨w.heap.size+1,2,none⟩ (.int .i64 k')):=
     (((AB.refl (λb=>b=w.heap.size+1) wr).setCell (a:=⟨w.heap.size+1,0,none⟩) (λ_=>rfl) _).setCell (a:=⟨w.heap.size+1,1,none⟩) (λ_=>rfl) _).setCell (a:=⟨w.heap.size+1,2,none⟩) (λ_=>rfl) _
    obtain⟨wB,Ya⟩:∃wB,wB=((wr.setCell ⟨w.heap.size+1,0,none⟩ (.int .i64 p')).setCell ⟨w.heap.size+1,1,none⟩ (.int .i64 Y)).setCell ⟨w.heap.size+1,2,none⟩ (.int .i64 k'):=⟨_,rfl⟩;rw[<-Ya]at tB⊢;have Xe:Hid (Rec wB (w.heap.size+1) 64 [iI p',iI Y,iI k']):=⟨by rw[Ya];exact Yf.o⟩;have J:=ι tB;have Xf:Hid (∀W,Gr wB W->(W.cell? ⟨y,0,none⟩=some (pP q)/\W.cell? ⟨w.heap.size,1,none⟩=some (iI t))/\W.cell? ⟨w.heap.size+1,0,none⟩=some (iI p')/\W.cell? ⟨w.heap.size+1,1,none⟩=some (iI Y)/\W.cell? ⟨w.heap.size+1,2,none⟩=some (iI k')):=⟨λW g=>HK.o W p' Y k' (J.o.trans (g.touch _)) (Xe.o.gr g)⟩;clear Ya tB Yf Xu x3 x9 xl Yp Yr Yw Yt Yv q0 q1;obtain⟨Sx,X,HS⟩:=AA.start λW'=>((W'.cell? ⟨y,0,none⟩=some (pP q)/\W'.cell? ⟨w.heap.size,1,none⟩=some (iI t))/\W'.cell? ⟨w.heap.size+1,0,none⟩=some (iI p')/\W'.cell? ⟨w.heap.size+1,1,none⟩=some (iI Y)/\W'.cell? ⟨w.heap.size+1,2,none⟩=some (iI k'))
    have x1:=AA.fact X λ_ h=>h.1.1;have x2:=AA.fact X λ_ h=>h.1.2;have x3:=AA.fact X λ_ h=>h.2.1;have x4:=AA.fact X λ_ h=>h.2.2.1;have x5:=AA.fact X λ_ h=>h.2.2.2;have I:=HS.o (wB.drew) (Xf.o _ (Gr.refl wB).drew);have Xm:Inhabited (AA Sx):=⟨⟨_,I⟩⟩;clear X;refine AI Sx 13 [([0,1,2,3,4,5,6,7,8,9,10,11],12),([],13)] [] I ?_;refine AE ?_;go_wp2_with((go_at_call 223;refine(Ye.o _ _ _ _ _ _ (J.o.trans ((Gr.refl wB).drew.touch _)) G.o).mono ?_;rintro e w4 ⟨rfl,Xd⟩;have Z:=ι ((Gr.refl wB).drew.trans Xd);clear Xd));refine⟨.inr (AA.of (HS.o _ (Xf.o _ Z.o))),?_⟩;refine AE ?_;go_wp2_with((go_at_call 217;refine(Xi.o _ (J.o.trans (Z.o.touch _))).mono ?_;rintro e w5 ⟨er,rfl,Xj,Yc,Xo,Xg⟩;have N:=ι Xj;have Xn:=ι (ψ Xo Xg);clear Xj Xo Xg));refine⟨.inl trivial,?_⟩;refine AL ?_;clear x1 x2 x3 x4 x5 I Xm;clear HS Sx;go_wp2;go_roundw
    case rel=>
     have Yo:=N.o.size;refine⟨i+1,Xy,Xz,p',Y,k',Xs.o,⟨⟨(HI.o.t.trans' ((J.o.trans (Z.o.touch _)).mono (λb _ h=>h)) (λb hb h=>by omega)).trans' N.o (λb _ h=>h.1),⟨Yc,Xn.o.1,by rw[<-ξF];exact Xn.o.2⟩,((Xe.o.gr Z.o).touch N.o (λh=>by have:=h.2;omega))⟩⟩,⟨.inr (by rw[show f+(i+1)-1=f+i by omega];exact G.o)⟩,⟨((O.o.touch J.o Ω).gr Z.o).touch N.o (λh=>by have:=h.2;omega)⟩,?_,?_,?_⟩
     ·go_num
     ·go_num
     ·go_num
    case measure=>have:=Xs.o;simp[intOf];omega
   ·have d1:decide ((st:Int)+(sz:Int)<=(f:Int)+(i:Int))=false:=ζ Ω;have d2:decide (st+sz<=f+i)=false:=ζ Xq
    have Yg:Obj s (f+i) st sz ph fh kh:=by
     rcases HO.o with h|⟨j,hj,h1,h2,h3,h4,h5⟩
     ·omega
     ·exact⟨j,hj,h1,h2,h3,by omega,by omega⟩
    have G:=ι Yg;have J:Hid (AB (λb=>b=w.heap.size+1) wr wr):=⟨AB.refl _ _⟩;have Xe:=ι HI.o.h;have Xf:Hid (∀W,Gr wr W->(W.cell? ⟨y,0,none⟩=some (pP q)/\W.cell? ⟨w.heap.size,1,none⟩=some (iI t))/\W.cell? ⟨w.heap.size+1,0,none⟩=some (iI ph)/\W.cell? ⟨w.heap.size+1,1,none⟩=some (iI fh)/\W.cell? ⟨w.heap.size+1,2,none⟩=some (iI kh)):=⟨λW g=>HK.o W ph fh kh (J.o.trans (g.touch _)) (Xe.o.gr g)⟩;clear Xq V Xh Xl Xb Yg;go_upto_region 9 with(fail);clear q0 q1;obtain⟨Sx,X,HS⟩:=AA.start λW'=>((W'.cell? ⟨y,0,none⟩=some (pP q)/\W'.cell? ⟨w.heap.size,1,none⟩=some (iI t))/\W'.cell? ⟨w.heap.size+1,0,none⟩=some (iI ph)/\W'.cell? ⟨w.heap.size+1,1,none⟩=some (iI fh)/\W'.cell? ⟨w.heap.size+1,2,none⟩=some (iI kh))
    have x1:=AA.fact X λ_ h=>h.1.1;have x2:=AA.fact X λ_ h=>h.1.2;have x3:=AA.fact X λ_ h=>h.2.1;have x4:=AA.fact X λ_ h=>h.2.2.1;have x5:=AA.fact X λ_ h=>h.2.2.2;have I:=HS.o (wr.drew) (Xf.o _ (Gr.refl wr).drew);have Xm:Inhabited (AA Sx):=⟨⟨_,I⟩⟩;clear X;refine AI Sx 13 [([0,1,2,3,4,5,6,7,8,9,10,11],12),([],13)] [] I ?_;refine AE ?_;go_wp2_with((go_at_call 223;refine(Ye.o _ _ _ _ _ _ (J.o.trans ((Gr.refl wr).drew.touch _)) G.o).mono ?_;rintro e w4 ⟨rfl,Xd⟩;have Z:=ι ((Gr.refl wr).drew.trans Xd);clear Xd));refine⟨.inr (AA.of (HS.o _ (Xf.o _ Z.o))),?_⟩;refine AE ?_;go_wp2_with((go_at_call 217;refine(Xi.o _ (J.o.trans (Z.o.touch _))).mono ?_;rintro e w5 ⟨er,rfl,Xj,Yc,Xo,Xg⟩;have N:=ι Xj;have Xn:=ι (ψ Xo Xg);clear Xj Xo Xg));refine⟨.inl trivial,?_⟩;refine AL ?_;clear x1 x2 x3 x4 x5 I Xm;clear HS Sx;go_wp2;go_roundw
    case rel=>
     have Yo:=N.o.size;refine⟨i+1,st,sz,ph,fh,kh,Xs.o,⟨⟨(HI.o.t.trans' ((J.o.trans (Z.o.touch _)).mono (λb _ h=>h)) (λb hb h=>by omega)).trans' N.o (λb _ h=>h.1),⟨Yc,Xn.o.1,by rw[<-ξF];exact Xn.o.2⟩,((Xe.o.gr Z.o).touch N.o (λh=>by have:=h.2;omega))⟩⟩,⟨.inr (by rw[show f+(i+1)-1=f+i by omega];exact G.o)⟩,⟨((O.o.touch J.o Ω).gr Z.o).touch N.o (λh=>by have:=h.2;omega)⟩,?_,?_,?_⟩
     ·go_num
     ·go_num
     ·go_num
    case measure=>have:=Xs.o;simp[intOf];omega
  ·obtain rfl:i=n:=Ω
   have q2:=O.o.cc 2;clear Yd;go_wp2;refine ζz (ζl rfl _ _ _) rfl ?_;obtain⟨vx,Xc,Xa⟩:=HI.o.vm;exact⟨rfl,HI.o.t,vx,Xc,Xa⟩
end
def CK(U:Nat->Bool)(i n:Nat):Nat->Bool:=λj=>U j&&!(decide (i<=j)&&decide (j<i+n))
theorem Q9(U:Nat->Bool)(i:Nat):CK U i 0=U:=by
 funext j
 unfold CK;by_cases h:i<=j
 ·simp_all
 simp_all
theorem OD(U:Nat->Bool)(i n:Nat):CK U i (n+1)=but (CK U i n) (i+n):=by
 funext j
 unfold but CK
 grind
theorem QWx(h:¬(i<=j/\j<i+n)):CK U i n j=U j:=by
 unfold CK
 grind
theorem VBH{f:Int->Option Value}(h1:n+cnt U (sizes s.L)<=2*sizes s.L)(h2:∀q:Nat,(f (q:Nat)).getD (iI 0)=iI (s.on U q:Nat))(hi:i<sizes s.L)(hU:U i=true)
  (hx:x=s.on (but U i) (AH s.L i/s.pg)) (hm:BH prog 3 w b (n+1) (λy=>if y=((AH s.L i/s.pg:Nat):Int)then some (iI x)else f y)):KQ w b s (but U i):=by
 refine⟨n+1,_,hm,?_,λq=>?_⟩
 ·have:=V7q (f:=U) hi hU;unfold but;omega
 ·have X:=Sl.on_but (s:=s) (U:=U) (i:=i) (q:=q) hi hU;by_cases e:AH s.L i/s.pg=q
  ·subst e;rw[φ rfl,hx];rfl
  ·rw[ξ e]at X;rw[ξ Ω,h2 q,<-X];rfl
def Zj0(w:World)(R S:Nat->Prop)(y q:Nat)(z:CB)(s:Sl)(D U0 U':Nat->Bool)(ml:List Bool)(lf ft ah:Nat)(v2:Vm)(e:Ending)(w':World):Prop:=
 e=.returned (.tuple #[])/\AB (λb=>b=z.bw\/S b) w w'/\BI w' R y q z s U' ml lf ft ah/\∃v'',AD w' (plus S w) q v''/\FA s D U0 U' v2 v''
structure DrI(w wr:World)(R S:Nat->Prop)(y q:Nat)(z:CB)(s:Sl)(D U0 U':Nat->Bool)(ml:List Bool)(lf ft ah:Nat)(v2:Vm)(pb f tb n:Nat):Prop where
 t:AB (λb=>b=z.bw\/S b) w wr
 cy:BI wr R y q z s U' ml lf ft ah
 vm:∃Sj v'',(∀b,Sj b->(S b/\b<w.heap.size)\/pb<b)/\AD wr Sj q v''/\FA s D U0 U' v2 v''
 pc:Rec wr pb 260 [iI f,iI tb,iI n]
section
variable{lf ft:Nat}{i0 t:Nat}
theorem JBl(hC:BI w R y q z s U ml lf ft ah)(hst:BD s)(hV:AD w S q v')(hdis:∀k,R k->¬S k)(hdr:FA s D U0 U v2 v')(hn1:1<=n)(hn:i0+n<=sizes s.L)(hU:∀i,i<n->U (i0+i)=true)(hw:∀i,i<n->AH s.L (i0+i)=f+i):
  Calls prog 172 #[pP y,.agg #[.int .i64 f,.int .i64 t,.int .i64 n]] w (Zj0 w R S y q z s D U0 (CK U i0 n) ml lf ft ah v2):=by
 have Yr:=hst;have Xk:=hdis;have HU:=hU;have HW:=hw;have HB:=hn;have Yv:=hst.n2;have Yn:=hst.N_le;have Ym:=hst.pg
 have hfb:f+n<=1048576:=by
  have h1:=hw (n-1) Ω;have h2:=(hst.srcs (i:=i0+(n-1)) Ω).2.2;omega
 have RP:=Rec.new w 260 [.int .i64 f,.int .i64 t,.int .i64 n];simp only[List.toArray]at RP;obtain⟨w0,Xa⟩:∃w0,w0=w.alloc (.cells #[.int .i64 f,.int .i64 t,.int .i64 n] 260):=⟨_,rfl⟩;have Xd:Gr w w0:=by rw[Xa];exact(Gr.refl w).alloc _
 have Yh:w0.heap.size=w.heap.size+1:=by rw[Xa,γ]
 have Yb:Hid (DrI w w0 R S y q z s D U0 (CK U i0 0) ml lf ft ah v2 w.heap.size f t n):=⟨by
  rw[Q9]
  exact⟨Xd.touch _,hC.gr Xd,⟨AC S w,v',λb hb=>.inl hb,hV.cut.gr Xd,hdr⟩,by rw[Xa];exact RP⟩⟩
 have Xu:=hC.od.lt;have HS0:=Yh;have Ys:n≠0->True:=λ_=>trivial;clear hC hst hV hdis hdr hU hw hn Xd Ys;obtain⟨pb,Xg⟩:∃pb,pb=w.heap.size:=⟨_,rfl⟩;have Z:=ι Xg;have Xc:Hid (DrI w w0 R S y q z s D U0 (CK U i0 0) ml lf ft ah v2 pb f t n):=⟨by rw[Xg];exact Yb.o⟩;go_enter func172,ntmps172;go_upto_region 1 with(fail);rw[<-Xa,<-Xg];clear Xa RP Yb Yh Xg;have p0:=Xc.o.pc.cc 0;have pl:=Xc.o.pc.lt;go_upto_region 2 with(fail);clear p0 pl
 go_loopw [4] (λs4 wr=>∃j A:Nat,j<=n/\Hid (A=f+j)/\Hid (DrI w wr R S y q z s D U0 (CK U i0 j) ml lf ft ah v2 pb f t n)/\s4=.int .i64 A) (λs4 _=>f+n-(intOf s4).toNat)
 case atStart=>exact⟨0,f,ζf _,⟨rfl⟩,Xc,rfl⟩
 case round=>
  obtain⟨j,A,hj,HA,HI,rfl⟩:=hrel;clear Xc;have p0:=HI.o.pc.cc 0;have p2:=HI.o.pc.cc 2;have pl:=HI.o.pc.lt;by_cases I:j<n
  ·have Xe:=I;have Yt:(A:Int)<(f:Int)+(n:Int):=by have:=HA.o;omega
   have Yl:A<=1048576:=by have:=HA.o;omega
   obtain⟨Sj,vx,Xb,G,E⟩:=HI.o.vm;have V:=HI.o.cy;have Yf:=HW j I;have Xx:=HU j I;have Xq:i0+j<sizes s.L:=by have:=HB;omega
   have Xr:CK U i0 j (i0+j)=true:=by rw[QWx Ω];exact Xx
   have Xh:=E.mid.pg;have Xs:=(λ(W:World) (g:Gr wr W)=>I0 (G.gr g));rw[Xh]at Xs;obtain⟨pg,Y⟩:∃pg,pg=s.pg:=⟨_,rfl⟩;have HPGE:=ι Y;rw[<-Y]at Xs Ym;obtain⟨Q,hQ⟩:∃Q,Q=A/pg:=⟨_,rfl⟩;have g1:((A:Int).tdiv (pg:Int))=(Q:Int):=by rw[hQ];rfl
   have g2:((A:Int)/(pg:Int))=(Q:Int):=by rw[hQ];rfl
   have hpg0:(pg:Int)≠0:=Ω
   have hQb:Q<=1048576:=by rw[hQ];exact β (ζ8 _ _) Yl
   have Xn:AH s.L (i0+j)/s.pg=Q:=by rw[Yf,hQ,HA.o,Y]
   have HQ:=Xn;obtain⟨nw,fm,hm,hn1,Xl⟩:=V.wd;have Yj:=T8 V.wd (q:=Q) Ω;have Xp:=Sl.on_but (s:=s) (U:=CK U i0 j) (i:=i0+j) (q:=Q) Xq Xr;rw[φ Xn]at Xp;obtain⟨N,hN⟩:∃N,N=s.on (CK U i0 j) Q:=⟨_,rfl⟩;obtain⟨N',Xm⟩:∃N',N'=s.on (but (CK U i0 j) (i0+j)) Q:=⟨_,rfl⟩;have hNle:N<=1048576:=by rw[hN];have:=s.on_le (CK U i0 j) Q;omega
   rw[<-hN]at Yj;rw[<-hN,<-Xm]at Xp;have hNN:(N:Int)-1=(N':Int):=Ω
   have Yy:=hm;have Yg:=(ψ hn1 Xl);have Yp:Hid (nw<maxLen):=⟨by have h1:=hn1;have h2:=Yv;have h3:=Yn;unfold maxLen;omega⟩;have Yq:Hid ((Lit.int .i64 (Q:Int)).wf=true):=⟨WalkArith.wf_i64 Ω⟩;have HX:=ι (ψ Xq (ψ Xr Xm));have J:=ι Xb;have Yw:=ι G;have Xy:=ι E;have x0:=V.rc.cc 0;have x8:=V.rc.cc 14;have xl:=V.rc.lt;clear V Yf Xx Xq Xr Xh Y hQ Xn hm hn1 Xl Xp hN Xm Xb G E I
   go_upto_region 6 with(first
    | (go_at_call 154;refine AK (Xs _ (Gr.refl wr)) ?_)
    | (at_mapUpdate;refine X9l _ rfl _ _ _ 148 rfl 3 3 JK underlying148 underlying3 z.bw nw fm rfl Yy Yp.o (Q:Int) (.int .i64 (N':Int)) rfl rfl Yq.o ?_;intro w3 Xv Xw;have Yu:=ι Xv;have Xf:=ι Xw;clear Xv Xw))
   have X:BI w3 R y q z s (CK U i0 (j+1)) ml lf ft ah:=by
    rw[OD];refine HI.o.cy.setW Xf.o (VBH Yg.1 Yg.2 HX.o.1 HX.o.2.1 (x:=N') (by rw[HX.o.2.2,HQ]) ?_);rw[HQ];exact Yu.o
   have Xi:¬Sj z.bw:=λh=>by
    have h1:=Xu _ HI.o.cy.od.r3;rcases J.o _ h with h|h
    ·exact Xk _ HI.o.cy.od.r3 h.1
    ·have:=Z.o;omega
   have Ya:∀k,R k->¬Sj k:=λk hk h=>by
    have h1:=Xu _ hk;rcases J.o _ h with h|h
    ·exact Xk _ hk h.1
    ·have:=Z.o;omega
   have Ye:Hid (AD w3 Sj q vx):=⟨Yw.o.touch Xf.o (λb hb _ h=>Xi (h▸hb))⟩;have Xz:=ι X;have Yo:=ι Ya;have Xj:pb≠z.bw:=λh=>by have h1:=Xu _ HI.o.cy.od.r3;have:=Z.o;omega
   have Xo:=ι (HI.o.pc.touch Xf.o Xj);have y0:=X.rc.cc 0;have y8:=X.rc.cc 14;have yl:=X.rc.lt;have Yi:=T8 X.wd (q:=Q) Ω;rw[OD,<-HX.o.2.2]at Yi;have O:Hid (AB (λb=>b=z.bw\/S b) w w3):=⟨HI.o.t.trans (Xf.o.mono (λb _ h=>.inl h))⟩;have Yd:Hid (A+1=f+(j+1)):=⟨by have:=HA.o;omega⟩;clear Yj x0 x8 xl X Xi Ya Xj p0 p2 pl;simp only[Act.put];by_cases hz:N'=0
   ·have d0:((N':Int)==0)=true:=by simp[hz]
    have HZ:=ι hz;clear hz;go_wp2_with(go_at_call 155;refine(NN Ye.o (Q:Int)).mono ?_;rintro e w5 ⟨rfl,Yc,Yk⟩;have Xt:=ι Yc;have Yx:=ι Yk;clear Yc Yk);go_roundw
    case rel=>
     have hz3:=O.o.size;have hw3:pb<w3.heap.size:=Xo.o.lt;refine⟨j+1,A+1,Xe,Yd,⟨⟨O.o.trans' Xt.o (λb hb h=>?_),Xz.o.touch Xt.o Yo.o,⟨plus Sj w3,_,λb hb=>?_,Yx.o,?_⟩,Xo.o.touch Xt.o (λh=>?_)⟩⟩,by go_num⟩
     ·rcases J.o b h with h|h
      ·exact .inr h.1
      ·have:=Z.o;omega
     ·rcases hb with h|h
      ·exact J.o b h
      ·right;omega
     ·have:=Xy.o.drop Yr HX.o.1 HX.o.2.1 (by rw[HQ,<-HX.o.2.2];exact HZ.o);rw[HQ]at this;rw[OD];exact this
     ·rcases J.o _ h with h|h
      ·have:=Z.o;omega
      ·omega
    case measure=>have:=HA.o;have:=Xe;simp[intOf];omega
   ·have d0:((N':Int)==0)=false:=by simp;exact hz
    have HZ:=ι hz;clear hz;go_wp2;go_roundw
    case rel=>
     refine⟨j+1,A+1,Xe,Yd,⟨⟨O.o,Xz.o,⟨Sj,_,J.o,Ye.o,?_⟩,Xo.o⟩⟩,by go_num⟩;rw[OD];exact Xy.o.keep HX.o.1 HX.o.2.1 (by rw[HQ,<-HX.o.2.2];exact HZ.o)
    case measure=>have:=HA.o;have:=Xe;simp[intOf];omega
  ·obtain rfl:j=n:=Ω
   have Yt:¬(A:Int)<(f:Int)+(j:Int):=by have:=HA.o;omega
   clear I;go_wp2;refine ζz (ζl rfl _ _ _) rfl ?_;obtain⟨Sj,vx,Xb,G,E⟩:=HI.o.vm;exact⟨rfl,HI.o.t,HI.o.cy,vx,G.mono (λb hb=>(Xb b hb).imp (λh=>h.1) (λh=>by have:=Z.o;omega)),E⟩
end
def XU7(s:Sl)(v:Vm):Prop:=∀p,p<v.pt.length->(v.pt.getD p 0≠0↔(∃i,i<sizes s.L/\AH s.L i/s.pg=p/\s.is i=false)\/(∃i,i<sizes s.L/\(s.cf.to+i)/s.pg=p/\s.is i=true))
theorem I2{f g:Nat->Bool}(h:∀i,i<n->f i=true->g i=true):cnt f n<=cnt g n:=by
 induction n with
 | zero=>exact ϑ _
 | succ n ih=>
  rw[CS,CS];have h1:=ih (λi hi=>h i Ω);cases hf:f n <;> cases hg:g n <;> simp_all <;> omega
theorem X6(f g:Nat->Bool)(n:Nat):cnt (λi=>f i||g i) n<=cnt f n+cnt g n:=by
 induction n with
 | zero=>exact ϑ _
 | succ n ih=>
  rw[CS,CS,CS];cases f n <;> cases g n <;> simp <;> omega
theorem SY(a b n:Nat):cnt (λi=>decide (a<=i/\i<b)) n<=b-a:=by
 induction n with
 | zero=>exact ζf _
 | succ n ih=>
  have key:cnt (λi=>decide (a<=i/\i<b)) (n+1)<=min (n+1) b-a:=by
   clear ih
   induction n with
   | zero=>
    grind [CS,LP,θ,ζ]
   | succ n ih=>
    grind [CS,θ,ζ]
  omega
theorem JuW(l:List Nat)(f:Nat->Nat->Bool)(h:∀k∈l,cnt (f k) n<=m):cnt (λi=>l.any λk=>f k i) n<=l.length*m:=by
 induction l with
 | nil=>
  grind [GZ]
 | cons k r ih=>
  have h1:=ih (λj hj=>h j (τ _ hj));have h2:=h k (ζa ..);have h3:=X6 (f k) (λi=>r.any λk=>f k i) n
  grind [ζu,ξp]
theorem OY(hm:m<=l.length)(h:∀i,i<m->at_ l i=true):cnt (λk=>decide (m<=k)&&at_ l k) l.length+m=cnt (at_ l) l.length:=by
 have e:=L6 (f:=λk=>decide (m<=k)&&at_ l k) (g:=λk=>decide (0<=k/\k<m)) (λi=>by
  simp_all) l.length
 rw[TJ 0 m _ (ζf _) hm]at e
 grind [CT]
theorem YQ(h:BL n=true):∃k:Nat,n=2 ^ k:=by
 simp[BL]at h;have:n=1\/n=2\/n=4\/n=8\/n=16\/n=32\/n=64\/n=128\/n=256\/n=512\/n=1024:=Ω
 rcases this with rfl|rfl|rfl|rfl|rfl|rfl|rfl|rfl|rfl|rfl|rfl
 all_goals first|exact⟨0,rfl⟩|exact⟨1,rfl⟩|exact⟨2,rfl⟩|exact⟨3,rfl⟩|exact⟨4,rfl⟩|exact⟨5,rfl⟩|exact⟨6,rfl⟩|exact⟨7,rfl⟩|exact⟨8,rfl⟩|exact⟨9,rfl⟩|exact⟨10,rfl⟩
theorem Zs5(hB:BL B=true)(hp:BL pg=true)(j:Nat):∃a,∀i,i/B=j->a<=i/pg/\i/pg<a+max 1 (B/pg):=by
 obtain⟨k,rfl⟩:=YQ hB;obtain⟨l,rfl⟩:=YQ hp;have h2:0<2 ^ l:=Nat.two_pow_pos l;rcases υ k l with h|h
 ·obtain⟨d,rfl⟩:∃d,l=k+d:=⟨l-k,by omega⟩;refine⟨j/2 ^ d,λi hi=>?_⟩
  grind [Nat.pow_add,Nat.div_div_eq_div_mul]
 ·obtain⟨d,rfl⟩:∃d,k=l+d:=⟨k-l,by omega⟩;have e:2 ^ (l+d)/2 ^ l=2 ^ d:=by rw[Nat.pow_add,Nat.mul_div_cancel_left _ h2]
  have h3:0<2 ^ d:=Nat.two_pow_pos d;refine⟨j*2 ^ d,λi hi=>?_⟩;have h4:i/2 ^ l/2 ^ d=j:=by grind [Nat.div_div_eq_div_mul,Nat.pow_add]
  have h5:=ζx (i/2 ^ l) (2 ^ d);rw[h4,ζ3]at h5;omega
theorem Y0i(h:AF v){p0 c:Nat}(hc:p0+c<=v.pt.length):cnt (λp=>(v.pt.getD p 0 !=0)||decide (p0<=p/\p<p0+c)) v.pt.length=v.pl.used+(BZ v p0 c).length:=by
 induction c with
 | zero=>
  rw[h.us];refine CT λp _=>?_
  grind
 | succ c ih=>
  have ih:=ih Ω;rw[QK];by_cases h0:v.pt.getD (p0+c) 0=0
  ·rw[φ h0,ζr,ξm,show v.pl.used+((BZ v p0 c).length+1)=(v.pl.used+(BZ v p0 c).length)+1 by omega,<-ih];have e:=VX (f:=λp=>(v.pt.getD p 0 !=0)||decide (p0<=p/\p<p0+c)) (i:=p0+c) (n:=v.pt.length) Ω (by simp_all)
   grind
  grind
theorem Sl.ft_le(s:Sl):s.ft<=s.mv.length:=GU _ _
theorem Sl.ft_on(s:Sl)(h:i<s.ft):at_ s.mv i=true:=by
 have:=IG (λk=>!at_ s.mv k) s.mv.length i h
 simp_all
theorem Sl.ft_off(s:Sl)(h:s.ft<s.mv.length):at_ s.mv s.ft=false:=by
 have:(!at_ s.mv s.ft)=true:=GL (λk=>!at_ s.mv k) s.mv.length h
 simp_all
theorem JPr(hst:BD s)(hk:k<s.mv.length):∃(P:List Pc) (M:Nat->Nat),II s.L s.cf.bk s.cf.to k=P/\M 0=0/\M P.length=s.hi k-s.lo k/\∀i (h:i<P.length),∃f:Nat,1<=P[i].s/\P[i].f=f/\P[i].t=((s.cf.to+(s.lo k+M i):Nat):Int)/\M (i+1)=M i+P[i].s/\s.lo k+M i+P[i].s<=s.hi k/\∀j,j<P[i].s->AH s.L (s.lo k+M i+j)=f+j:=by
 have hlh:=hst.lohi hk
 have Z:DO s.L s.cf.bk (k:Int)=true:=by
  unfold DO;rw[θ Ω,θ (by rw[<-hst.len];omega)];rfl
 obtain⟨e1,e2,-⟩:=NR (base:=(s.cf.to:Int)) Z;have ea:ID s.L s.cf.bk s.cf.to k=((s.cf.to+s.lo k:Nat):Int):=by assumption
 have ez:JA s.L s.cf.bk s.cf.to k=((s.cf.to+s.hi k:Nat):Int):=by
  rw[e2];unfold Sl.hi;omega
 obtain⟨P,hP⟩:∃P,P=II s.L s.cf.bk s.cf.to k:=⟨_,rfl⟩
 have hP2:P=pcs (CQ s.L s.cf.to) ((s.cf.to+s.lo k:Nat):Int) (s.hi k-s.lo k):=by
  rw[hP];unfold II
  grind
 have hr:ML (CQ s.L s.cf.to) ((s.cf.to+s.lo k:Nat):Int) (s.hi k-s.lo k) P:=by grind [QBb]
 have X:=λi hi=>hr.ends _ i hi rfl;have h0:=XLy hr Ω;have hE:=VID P (((s.cf.to+s.lo k:Nat):Int)+((s.hi k-s.lo k:Nat):Int));obtain⟨T,hT⟩:∃T:Nat->Int,T=J2 P (((s.cf.to+s.lo k:Nat):Int)+((s.hi k-s.lo k:Nat):Int)):=⟨_,rfl⟩;rw[<-hT]at h0 hE;refine⟨P,λi=>(T i-((s.cf.to+s.lo k:Nat):Int)).toNat,hP.symm,by simp_all,by grind,λi hi=>?_⟩;obtain⟨g1,g2⟩:=X i hi;have h1:T i=P[i].t:=by rw[hT];exact YA hi
 have h2:T (i+1)=P[i].t+P[i].s:=by rw[hT];exact Xv7 hr hi
 have hw:=hr.word _ (μ hi);have hp:=hr.pos _ (μ hi);obtain⟨m,hm⟩:∃m:Nat,P[i].t=((s.cf.to+(s.lo k+m):Nat):Int):=⟨(P[i].t-((s.cf.to+s.lo k:Nat):Int)).toNat,by omega⟩
 have Y:∀j,j<P[i].s->(AH s.L (s.lo k+m+j):Int)=P[i].f+j:=λj hj=>by
  rw[<-hw j hj,hm,show ((s.cf.to+(s.lo k+m):Nat):Int)+(j:Int)=((s.cf.to+(s.lo k+m+j):Nat):Int)by omega];exact(ME Ω).1.symm
 have hf0:=Y 0 Ω;refine⟨P[i].f.toNat,hp,by omega,?_,?_,?_,λj hj=>?_⟩
 ·dsimp only;omega
 ·dsimp only;omega
 ·dsimp only;omega
 ·have:=Y j hj;dsimp only;rw[h1,show (P[i].t-((s.cf.to+s.lo k:Nat):Int)).toNat=m by omega];omega
theorem JDv(U:Nat->Bool)(i n m:Nat):CK (CK U i n) (i+n) m=CK U i (n+m):=by
 induction m with
 | zero=>rw[Q9];rfl
 | succ m ih=>grind [OD,ξF]
theorem H8.touch(h:H8 w A P)(t:AB T w w')(hT:∀a,A=some a->¬T a.block):H8 w' A P:=λi hi=>by
 obtain⟨g,rfl,h1,h2,h3,h4⟩:=h i hi;have hg:=hT _ rfl;exact⟨g,rfl,κ h1 t.size,(t.cell h1 hg _).trans h2,(t.cell h1 hg _).trans h3,(t.cell h1 hg _).trans h4⟩
theorem BI.cu{lf ft:Nat}(h:BI w R y q z s U ml lf ft ah)(hU:∀j,j<sizes s.L->U j=V j):BI w R y q z s V ml lf ft ah:=by
 refine⟨h.od,h.rc,h.pl,h.ex,h.sh,?_,h.mv⟩;obtain⟨n,f,h1,h2,h3⟩:=h.wd;exact⟨n,f,h1,by grind [CT],λq=>by rw[<-Sl.on_congr hU];exact h3 q⟩
def LS(w:World)(b o:Nat):Nat:=match w.cell? ⟨b,o,none⟩with|some v=>(intOf v).toNat|none=>0
def YL(w:World)(R S:Nat->Prop)(y q:Nat)(z:CB)(s:Sl)(k:Nat)(v:Vm)(e:Ending)(w':World):Prop:=
 e=.returned (iI 0)/\AB (λb=>R b\/S b) w w'/\Cyc w' R y q z {s with mv:=s.mv.set k true}/\∃v',AD w' (plus S w) q v'/\M4 s k v v'
structure MvC(w w2 wr:World)(R S S2:Nat->Prop)(y q:Nat)(z:CB)(s:Sl)(k m:Nat)(v1:Vm)(g:Nat)(P:List Pc):Prop where
 t:AB (λb=>R b\/S b) w wr
 t2:AB S2 w2 wr
 cy:Cyc wr R y q z s
 vm:∃vx,AD wr S2 q vx/\FO s s.is (λi=>!s.is i) (s.lo k) (s.hi k) v1 vx m
 pc:H8 wr (some ⟨g,0,none⟩) P
structure MvD(w w4 wr:World)(R S S2:Nat->Prop)(y q:Nat)(z:CB)(s:Sl)(k m:Nat)(v2:Vm)(g:Nat)(P:List Pc):Prop where
 t:AB (λb=>R b\/S b) w wr
 sz:w4.heap.size<=wr.heap.size
 cy:BI wr R y q z s (CK (λi=>!s.is i) (s.lo k) m) s.mv s.lf s.ft (s.mvd-s.ft)
 vm:∃Sj vx,(∀b,Sj b->S2 b\/w4.heap.size<=b)/\AD wr Sj q vx/\FA s (λj=>s.is j||(decide (s.lo k<=j)&&decide (j<s.lo k+(s.hi k-s.lo k)))) (λi=>!s.is i) (CK (λi=>!s.is i) (s.lo k) m) v2 vx
 pc:H8 wr (some ⟨g,0,none⟩) P
structure MvF(w8 wr:World)(R:Nat->Prop)(y q:Nat)(z:CB)(s:Sl)(U:Nat->Bool)(ml:List Bool)(l1 sm fc ac:Nat):Prop where
 cy:BI wr R y q z s U ml l1 fc ac
 t:AB (λi=>i=y) w8 wr
 on:∀i,i<fc->at_ ml i=true
 sum:ac+fc=sm
 le:fc<=ml.length
structure MvK(w w2:World)(R S S2:Nat->Prop)(s:Sl)(k:Nat)(v1:Vm)(P:List Pc)(M:Nat->Nat):Prop where
 st:BD s
 hk:k<s.mv.length
 hm:at_ s.mv k=false
 pc:∀i (h:i<P.length),∃f:Nat,1<=P[i].s/\P[i].f=f/\P[i].t=((s.cf.to+(s.lo k+M i):Nat):Int)/\M (i+1)=M i+P[i].s/\s.lo k+M i+P[i].s<=s.hi k/\∀j,j<P[i].s->AH s.L (s.lo k+M i+j)=f+j
 ld:∀i,s.lo k<=i->i<s.hi k->v1.ldE ((s.cf.to+i:Nat):Int)=0
 tb:AO w
 tS:¬S 1
 tR:¬R 1
 s2:∀b,S2 b->(S b/\b<w.heap.size\/w.heap.size<=b)/\b<w2.heap.size
 dis:∀k,R k->¬S k
 rl:∀k,R k->k<w.heap.size
 ww:w.heap.size<=w2.heap.size
section
variable{w2 w4:World}{S2:Nat->Prop}{M:Nat->Nat}
theorem MvK.un(h:MvK w w2 R S S2 s k v1 P M)(h1:s.lo k<=i)(h2:i<s.hi k):s.is i=false:=by
 have hN:=(h.st.lohi h.hk).2.2;have:i/s.cf.bk=k:=by simpa[Sl.inB]using (h.st.inB (k:=k) (i:=i) Ω).2 ⟨h1,h2⟩
 unfold Sl.is;rw[this];exact h.hm
theorem MvK.r2(h:MvK w w2 R S S2 s k v1 P M):∀b,R b->¬S2 b:=λb hb h2=>by
 have:=h.rl b hb;rcases(h.s2 b h2).1 with h'|h'
 ·exact h.dis b hb h'.1
 ·omega
theorem MvK.t2(h:MvK w w2 R S S2 s k v1 P M):¬S2 1:=λh2=>by
 have:=h.tb.lt;rcases(h.s2 _ h2).1 with h'|h'
 ·exact h.tS h'.1
 ·omega
theorem MvK.copy(h:MvK w w2 R S S2 s k v1 P M)(hg:w2.heap.size<=g)(hi:i<P.length)(hI:MvC w w2 wr R S S2 y q z s k (M i) v1 g P)(gW:Gr wr W):
  ∃f t:Nat,P[i].f=f/\P[i].t=t/\Calls prog 171 #[pP y,.agg #[iI f,iI t,iI (P[i].s:Nat)]] W λe w'=>e=.returned (.tuple #[])/\MvC w w2 w' R S S2 y q z s k (M (i+1)) v1 g P:=by
 obtain⟨f,h1,h2,h3,h4,h5,h6⟩:=h.pc i hi;obtain⟨vx,Z,J⟩:=hI.vm;have hN:=(h.st.lohi h.hk).2.2;have X:AO W:=(h.tb.touch' hI.t (λh'=>h'.elim h.tR h.tS)).touch' (gW.touch (λ_=>False)) (λh=>h);refine⟨f,_,h2,h3,(XAM (hI.cy.gr gW) h.st X h.t2 (Z.gr gW) h.r2 J h5 hN (λi a b=>by simp[h.un a b]) h.ld h6).mono ?_⟩;rintro e w' ⟨rfl,ht,Y,hv,hp⟩;refine⟨rfl,(hI.t.trans (gW.touch _)).trans' ht (λb hb hs=>?_),(hI.t2.trans (gW.touch _)).trans ht,(hI.cy.gr gW).touch ht h.r2,⟨Y,hv.mono (λb hb=>hb.1),by simp_all⟩,(hI.pc.gr gW).touch ht (λa ha hs=>?_)⟩
 ·rcases(h.s2 b hs).1 with h'|h'
  ·simp_all
  ·omega
 ·cases ha;have:g<w2.heap.size:=(h.s2 _ hs).2;omega
theorem MvK.drain(h:MvK w w2 R S S2 s k v1 P M)(_hw:w2.heap.size<=w4.heap.size)(h0:w.heap.size<=w4.heap.size)(hg:w2.heap.size<=g/\g<w4.heap.size)(hi:i<P.length)(hI:MvD w w4 wr R S S2 y q z s k (M i) v2 g P)(gW:Gr wr W):
  ∃f t:Nat,P[i].f=f/\P[i].t=t/\Calls prog 172 #[pP y,.agg #[iI f,iI t,iI (P[i].s:Nat)]] W λe w'=>e=.returned (.tuple #[])/\MvD w w4 w' R S S2 y q z s k (M (i+1)) v2 g P:=by
 obtain⟨f,h1,h2,h3,h4,h5,h6⟩:=h.pc i hi;obtain⟨Sj,vx,X,Y,N⟩:=hI.vm;have hN:=(h.st.lohi h.hk).2.2;have hz:=gW.size;have hzr:=hI.sz
 have J:∀b,R b->¬Sj b:=λb hb hs=>by
  have:=h.rl b hb;rcases X b hs with h'|h'
  ·exact h.r2 b hb h'
  ·omega
 refine⟨f,_,h2,h3,(JBl (hI.cy.gr gW) h.st (Y.gr gW) J N h1 Ω (λj hj=>?_) h6).mono ?_⟩
 ·rw[QWx Ω];simp[h.un (i:=s.lo k+M i+j) Ω Ω]
 ·rintro e w' ⟨rfl,ht,hc,V,hv,hp⟩;rw[JDv,<-h4]at hc hp;refine⟨rfl,(hI.t.trans (gW.touch _)).trans' ht (λb hb hs=>?_),by have:=ht.size;omega,hc,⟨plus Sj W,V,λb hb=>?_,hv,hp⟩,(hI.pc.gr gW).touch ht (λa ha hs=>?_)⟩
  ·rcases hs with hs|hs
   ·left;rw[hs];exact hI.cy.od.r3
   ·rcases X b hs with h'|h'
    ·rcases(h.s2 b h').1 with Z|Z
     ·simp_all
     ·omega
    ·omega
  ·rcases hb with hb|hb
   ·simp_all
   omega
  ·cases ha;rcases hs with hs|hs
   ·have h1:=h.rl _ hI.cy.od.r3;have hs:g=z.bw:=hs;have:=h.ww;omega
   ·rcases X _ hs with h'|h'
    ·have:g<w2.heap.size:=(h.s2 _ h').2;omega
    grind
end
theorem ZS2(hC:Cyc w R y q z s)(hO:BQ s v)(hT:AO w)(htS:¬S 1)(htR:¬R 1)(hV:AD w S q v)(hdis:∀k,R k->¬S k)(hk:k<s.mv.length)(hkm:at_ s.mv k=false)
  (hE:BK v ((s.cf.to+s.lo k:Nat):Int) ((s.cf.to+s.hi k:Nat):Int)=0):
  Calls prog 120 #[pP y,iI k] w (YL w R S y q z s k v):=by
 have Y:=hO.st;have Ja:=Y.lohi hk;obtain⟨P,M,eP,M0,M1,hM⟩:=JPr Y hk
 have Zt:0<P.length:=by
  rcases ζJ P.length with h|h
  ·rw[h,M0]at M1;omega
  ·exact h
 have Jp:=Y.n2;have Jl:s.cf.to+s.hi k<=v.n:=by have:=Y.fit;have:=Y.cf.ln;rw[hO.mid.n];omega
 have Ua:v.n<=524288:=by rw[hO.mid.n];exact Jp
 have Jj:DO s.L s.cf.bk (k:Int)=true:=by
  unfold DO;rw[θ Ω,θ (by rw[<-Y.len];omega)];rfl
 obtain⟨r1,r2,r3⟩:=NR (base:=(s.cf.to:Int)) Jj;have ea:ID s.L s.cf.bk s.cf.to k=((s.cf.to+s.lo k:Nat):Int):=by rw[r1];unfold Sl.lo;push_cast;rfl
 have ez:JA s.L s.cf.bk s.cf.to k=((s.cf.to+s.hi k:Nat):Int):=by
  rw[r2];unfold Sl.hi;rw[show (k:Int)*(s.cf.bk:Int)=((k*s.cf.bk:Nat):Int)by push_cast;rfl];omega
 have hPl:P.length<=1048576:=by
  have:=ZbI Y.good Ω Y.bk.1 (base:=s.cf.to) (by have:=Y.cf.lm;have:=Y.cf.ln;omega) (k:Int);rw[eP]at this;have:=Y.bk.2;omega
 have Uh:s.mvd+s.lf=s.mv.length:=by
  unfold Sl.lf;have:s.mvd<=s.mv.length:=EJ _ _;omega
 have hml:s.mv.length<=1048576:=by rw[Y.len];have:=LY (n:=sizes s.L) Y.bk.1;have:=Y.N_le;omega
 have Yb:({s with mv:=s.mv.set k true}:Sl).mvd=s.mvd+1:=by
  show cnt (at_ (s.mv.set k true)) (s.mv.set k true).length=_
  rw[ζb,JO hk hkm];rfl
 have Za:=(λ(W:World) (g:Gr w W)=>U9 (hC.gr g).plan (k:Int));rw[ea,ez,r3]at Za;have Yc:=(λ(W:World) (g:Gr w W)=>RD (hV.cut.gr g) (s.cf.to+s.lo k) (s.cf.to+s.hi k) Jl Ω);rw[hE]at Yc;have HC:=hC;have HO:=hO;have HT:=hT;have Xn:=(ψ htS htR);have HV:=hV;have Xz:=hdis;have HK:=(ψ hk (ψ hkm hE));have HP:=(ψ eP (ψ M0 (ψ M1 r3)));have HM:=hM;have Xt:=(ψ Uh Yb);have Zo:=ι hC.od.lt;obtain⟨af,Ye⟩:∃af,af=s.cf.to+s.lo k:=⟨_,rfl⟩;obtain⟨az,Ym⟩:∃az,az=s.cf.to+s.hi k:=⟨_,rfl⟩;have Xm:=ι (ψ Ye Ym);rw[<-Ye,<-Ym]at Yc Za;have x0:=hC.rc.cc 0;have x8:=hC.rc.cc 8;have xl:=hC.rc.lt;clear hC hO Y hT htS htR hV hdis hk hkm hE eP M0 M1 hM Jj r1 r2 r3 ea ez Ye Ym Jl Ua Ja Yb;go_enter func120,ntmps120
 go_upto_region 5 with(first
  | (go_at_call 169;refine(Za _ (Gr.refl w)).mono ?_;rintro e w1 ⟨rfl,Xr⟩;have Xv:=ι Xr;have y0:=(HC.gr Xr).rc.cell (j:=0) rfl;have yl:=(HC.gr Xr).rc.lt;clear Xr)
  | (go_at_call 150;refine(Yc _ Xv.o).mono ?_;rintro e w2 ⟨rfl,Jc,v1,Xj,Je⟩;have Yx:=ι Jc;have Yp:=ι Xj;have Js:=ι Je;clear Jc Xj Je))
 clear x0 x8 xl y0 yl;obtain⟨S2,Yd⟩:∃S2,S2=AC (plus (AC S w) w1) w2:=⟨_,rfl⟩;have hz1:=Xv.o.size;have hz2:=Yx.o.size
 have Jq:Hid (∀b,S2 b->(S b/\b<w.heap.size\/w.heap.size<=b)/\b<w2.heap.size):=⟨λb hb=>by
  rw[Yd]at hb
  exact⟨hb.1.imp id (λh=>by omega),hb.2⟩⟩
 have Jw:Hid (AD w2 S2 q v1):=⟨by rw[Yd];exact Js.o.cut⟩;have Xo:Hid (Cyc w2 R y q z s):=⟨(HC.gr Xv.o).touch Yx.o (λb hb h=>Xz b hb h.1)⟩;have Ya:Hid (AB (λb=>R b\/S b) w w2):=⟨(Xv.o.touch _).trans (Yx.o.mono (λb _ h=>.inr h.1))⟩;have Zv:Hid (AO w2):=⟨HT.touch' Ya.o (λh=>h.elim Xn.2 Xn.1)⟩
 have Xc:Hid (MvK w w2 R S S2 s k v1 P M):=⟨⟨HO.st,HK.1,HK.2.1,HM,λi h1 h2=>by
  have e:=Yp.o;rw[Xm.o.1,Xm.o.2]at e;have h3:=HO.st.lohi HK.1;have h4:=HO.st.dsts (i:=s.hi k-1) Ω;have h5:=HO.mid.n
  exact VH HO.mid.ok Ω HK.2.2 e Ω Ω,HT,Xn.1,Xn.2,Jq.o,Xz,Zo.o,by omega⟩⟩
 have Zu:Hid (FO s s.is (λi=>!s.is i) (s.lo k) (s.hi k) v1 v1 (M 0)):=⟨by rw[HP.2.1];exact FO.zero (HO.mid.grow HO.st Yp.o) _ _⟩;have Jh:=ι (Y4j Xo.o.plan Zv.o (k:Int));rw[HP.1,HP.2.2.2]at Jh;have Zk:=ι Zt;have u8:=Xo.o.rc.cc 8;have ul:=Xo.o.rc.lt;clear Yd Zt;go_upto_region 6 with(go_at_call 170;refine(Jh.o).mono ?_;rintro e w3 ⟨A,cp,rfl,Ze,Yo,Xy⟩;obtain⟨g,rfl,Xb,-⟩:=Yo 0 Zk.o;have Xs:=ι Ze;have Ju:=ι Yo;have Xl:Hid (w2.heap.size<=g/\g<w3.heap.size):=⟨⟨Xy _ rfl,Xb⟩⟩;clear Ze Yo Xy Xb);clear u8 ul;have Zz:Hid (MvC w w2 w3 R S S2 y q z s k (M 0) v1 g P):=⟨⟨Ya.o.trans (Xs.o.touch _),Xs.o.touch _,Xo.o.gr Xs.o,⟨v1,Jw.o.gr Xs.o,Zu.o⟩,Ju.o⟩⟩;go_upto_region 7 with(fail)
 go_loopw [46] (λs46 wr=>∃i:Nat,i<=P.length/\Hid (MvC w w2 wr R S S2 y q z s k (M i) v1 g P)/\s46=iI i) (λs46 _=>P.length-(intOf s46).toNat)
 case atStart=>exact⟨0,ζf _,Zz,rfl⟩
 case round=>
  obtain⟨i,hi,HI,rfl⟩:=hrel;clear Zz;by_cases X:i<P.length
  ·have O:=ι X;have Uf:(i:Int)<(P.length:Int):=Ω
   obtain⟨g',Xh,Xb,k0,k1,k2⟩:=HI.o.pc i X;cases Xh;obtain⟨f,t,ef,et,-⟩:=Xc.o.copy Xl.o.1 X HI.o (Gr.refl wr)
   have E:Hid (∀W,Gr wr W->Calls prog 171 #[pP y,.agg #[iI f,iI t,iI (P[i].s:Nat)]] W λe w'=>e=.returned (.tuple #[])/\MvC w w2 w' R S S2 y q z s k (M (i+1)) v1 g P):=⟨λW gW=>by
    obtain⟨f',t',Yg,Yq,h⟩:=Xc.o.copy Xl.o.1 X HI.o gW;rw[ef]at Yg;rw[et]at Yq;obtain rfl:f=f':=Ω
    obtain rfl:t=t':=Ω
    exact h⟩
   obtain⟨n,hn⟩:∃n,n=P[i].s:=⟨_,rfl⟩;rw[ef]at k0;rw[et]at k1;rw[<-hn]at k2 E;clear hn ef et X;have Z:=ι (Rec.new wr 260 [iI f,iI t,iI n]);simp only[List.toArray]at Z;go_upto_region 9 with(fail);obtain⟨wA,N⟩:∃wA,wA=wr.alloc (.cells #[.int .i64 f,.int .i64 t,.int .i64 n] 260):=⟨_,rfl⟩;have Xg:Gr wr wA:=by rw[N];exact(Gr.refl wr).alloc _
   have hR:=Z.o;rw[show wr.alloc (.cells ([.int .i64 f,.int .i64 t,.int .i64 n]:List Value).toArray 260)=wA from N.symm]at hR;rw[<-N];have Yj:=ι Xg;obtain⟨b0,b1,b2,bl⟩:=hR.k3;clear N Xg Z hR k0 k1 k2 Xb;go_wp2_with(go_at_call 171;refine(E.o _ Yj.o).mono ?_;rintro e w5 ⟨rfl,Xi⟩;have Yy:=ι Xi;clear Xi);go_roundw
   case rel=>exact⟨i+1,O.o,Yy,by go_num⟩
   case measure=>have:=O.o;simp[intOf];omega
  ·obtain rfl:i=P.length:=Ω
   clear X;obtain⟨w4,rfl⟩:∃w4:World,w4=wr:=⟨_,rfl⟩;obtain⟨v2,Jd,Zx⟩:=HI.o.vm;have Ui:=ι Jd;have Zg:=ι Zx;have Jm:=HI.o.t2.size
   have Jf:Hid (MvD w w4 w4 R S S2 y q z s k (M 0) v2 g P):=⟨⟨HI.o.t,ϑ _,by rw[HP.2.1,Q9];exact HI.o.cy,⟨S2,v2,λb hb=>.inl hb,Ui.o,by
    rw[HP.2.1,Q9];have:=Zg.o.mid;rw[HP.2.2.1]at this
    exact FA.zero this⟩,HI.o.pc⟩⟩
   have Zm:g<w4.heap.size:=by
    obtain⟨g',Xh,Xb,-⟩:=HI.o.pc 0 Zk.o;cases Xh;exact Xb
   have Zr:=ι Zm;clear Jd Zx Zm;go_upto_region 12 with(fail)
   go_loopw [56] (λs56 wr=>∃i:Nat,i<=P.length/\Hid (MvD w w4 wr R S S2 y q z s k (M i) v2 g P)/\s56=iI i) (λs56 _=>P.length-(intOf s56).toNat)
   case atStart=>exact⟨0,ζf _,Jf,rfl⟩
   case round=>
    obtain⟨i,hi,HD,rfl⟩:=hrel;clear Jf;by_cases X:i<P.length
    ·have O:=ι X;have Uf:(i:Int)<(P.length:Int):=Ω
     obtain⟨g',Xh,Xb,k0,k1,k2⟩:=HD.o.pc i X;cases Xh;obtain⟨f,t,ef,et,-⟩:=Xc.o.drain Jm Ω ⟨Xl.o.1,Zr.o⟩ X HD.o (Gr.refl wr)
     have E:Hid (∀W,Gr wr W->Calls prog 172 #[pP y,.agg #[iI f,iI t,iI (P[i].s:Nat)]] W λe w'=>e=.returned (.tuple #[])/\MvD w w4 w' R S S2 y q z s k (M (i+1)) v2 g P):=⟨λW gW=>by
      obtain⟨f',t',Yg,Yq,h⟩:=Xc.o.drain Jm Ω ⟨Xl.o.1,Zr.o⟩ X HD.o gW;rw[ef]at Yg;rw[et]at Yq;obtain rfl:f=f':=Ω
      obtain rfl:t=t':=Ω
      exact h⟩
     obtain⟨n,hn⟩:∃n,n=P[i].s:=⟨_,rfl⟩;rw[ef]at k0;rw[et]at k1;rw[<-hn]at k2 E;clear hn ef et X;have Z:=ι (Rec.new wr 260 [iI f,iI t,iI n]);simp only[List.toArray]at Z;go_upto_region 14 with(fail);obtain⟨wA,N⟩:∃wA,wA=wr.alloc (.cells #[.int .i64 f,.int .i64 t,.int .i64 n] 260):=⟨_,rfl⟩;have Xg:Gr wr wA:=by rw[N];exact(Gr.refl wr).alloc _
     have hR:=Z.o;rw[show wr.alloc (.cells ([.int .i64 f,.int .i64 t,.int .i64 n]:List Value).toArray 260)=wA from N.symm]at hR;rw[<-N];have Yj:=ι Xg;obtain⟨b0,b1,b2,bl⟩:=hR.k3;clear N Xg Z hR k0 k1 k2 Xb;go_wp2_with(go_at_call 172;refine(E.o _ Yj.o).mono ?_;rintro e w5 ⟨rfl,Xi⟩;have Yy:=ι Xi;clear Xi);go_roundw
     case rel=>exact⟨i+1,O.o,Yy,by go_num⟩
     case measure=>have:=O.o;simp[intOf];omega
    ·obtain rfl:i=P.length:=Ω
     clear X;obtain⟨w6,rfl⟩:∃w6:World,w6=wr:=⟨_,rfl⟩;obtain⟨Sj,vx,Zd,Zn,Yh⟩:=HD.o.vm;have I:=HD.o.cy;have hz6:=HD.o.sz;rw[HP.2.2.1]at I Yh;have hkI:(k:Int)<(s.mv.length:Int):=by have:=HK.1;omega
     have c4:=I.rc.cc 10;have cl:=I.rc.lt;have m0:=BS I.mv (KK HK.1);have mf:=FF I.mv;have Ub:=(BE I.mv rfl).2;have Xd:=ι I;have Jy:=ι Zn;have Ud:=ι Yh;have Zy:=ι Zd
     have Xp:∀b,R b->¬Sj b:=λb hb h=>by
      have:=Zo.o b hb;rcases Zy.o b h with h|h
      ·exact Xc.o.r2 b hb h
      ·omega
     have Zh:=ι Xp;clear I Zn Yh Zd Xp;go_upto_region 17 with(fail);have Xk:=(World.ownsRow.stored Xd.o.mv k (.bool true)).1;rw[QPU]at Xk;obtain⟨w7,Yi⟩:∃w7,w7=w6.setCell ⟨z.bm,k,none⟩ (.bool true):=⟨_,rfl⟩;have Yr:AB (λi=>i=z.bm) w6 w7:=by rw[Yi];exact(AB.refl (λi=>i=z.bm) w6).setCell (a:=⟨z.bm,k,none⟩) (λ_=>rfl) _
     rw[<-Yi]at Xk⊢;have Xa:BI w7 R y q z s (CK (λi=>!s.is i) (s.lo k) (s.hi k-s.lo k)) (s.mv.set k true) s.lf s.ft (s.mvd-s.ft):=Xd.o.setM (ζb ..) Yr (by rw[ζb];exact Xk);have Jo:=ι Yr;have Xx:=ι Xa;have e5:=Xa.rc.cc 11;have ef:=Xa.rc.free;have el:=Xa.rc.lt;clear Yi Xk Yr Xa c4 cl m0 mf Ub
     have Zq:s.mvd<s.mv.length:=by
      have:=Xt.2;have h2:({s with mv:=s.mv.set k true}:Sl).mvd<=(s.mv.set k true).length:=EJ _ _;rw[ζb]at h2;omega
     have Zp:s.ft<=s.mvd:=by
      have:=OY (l:=s.mv) (m:=s.ft) s.ft_le (λi hi=>s.ft_on hi)
      show s.ft<=cnt (at_ s.mv) s.mv.length
      omega
     obtain⟨l1,Ji⟩:∃l1,s.lf=l1+1:=⟨s.lf-1,by omega⟩;have Ug:(s.lf:Int)-1=(l1:Int):=Ω
     have Uk:=ι Ji;have Jk:=ι (ψ Zq Zp);have Uj:s.lf<=1048576:=Ω
     clear Ji Zq Zp;go_upto_region 18 with(fail);obtain⟨w8,Yz⟩:∃w8,w8=w7.setCell ⟨y,11,none⟩ (.int .i64 l1):=⟨_,rfl⟩;have Yu:AB (λi=>i=y) w7 w8:=by rw[Yz];exact(AB.refl (λi=>i=y) w7).setCell (a:=⟨y,11,none⟩) (λ_=>rfl) _
     have Yl:=Xx.o.rc.set 11 (iI l1);rw[<-Yz]at Yl⊢;have G:BI w8 R y q z s (CK (λi=>!s.is i) (s.lo k) (s.hi k-s.lo k)) (s.mv.set k true) l1 s.ft (s.mvd-s.ft):=Xx.o.setR Yu Yl;have Jr:=ι Yu;have Xw:=ι G;have g7:=G.rc.cc 13;have gf:=G.rc.free;have gl:=G.rc.lt;obtain⟨a0,Yt⟩:∃a0,a0=s.mvd-s.ft:=⟨_,rfl⟩;rw[<-Yt]at g7;have ha0b:a0<=1048576:=Ω
     have Jz:=ι Yt;clear Yz Yl Yu G e5 ef el Ug Uj Yt;go_upto_region 19 with(fail);obtain⟨w9,Zb⟩:∃w9,w9=w8.setCell ⟨y,13,none⟩ (.int .i64 ((a0:Int)+1)):=⟨_,rfl⟩;have Yf:AB (λi=>i=y) w8 w9:=by rw[Zb];exact(AB.refl (λi=>i=y) w8).setCell (a:=⟨y,13,none⟩) (λ_=>rfl) _
     have Yk:=Xw.o.rc.set 13 (iI ((a0:Int)+1));rw[<-Zb]at Yk⊢;have Zs:Hid (BI w9 R y q z s (CK (λi=>!s.is i) (s.lo k) (s.hi k-s.lo k)) (s.mv.set k true) l1 s.ft (a0+1)):=⟨Xw.o.setR Yf Yk⟩;have Jx:=ι Yf;have V:(s.mv.set k true).length=s.mv.length:=ζb ..;obtain⟨ml,J⟩:∃ml,ml=s.mv.set k true:=⟨_,rfl⟩;have Yv:=ι J;obtain⟨Ux,Ys⟩:∃Ux,Ux=CK (λi=>!s.is i) (s.lo k) (s.hi k-s.lo k):=⟨_,rfl⟩;have Jv:=ι Ys
     have Zj:Hid (MvF w9 w9 R y q z s Ux ml l1 (s.mvd+1) s.ft (a0+1)):=⟨by rw[Ys,J];exact Zs.o,AB.refl _ _,λi hi=>by
      have h1:=s.ft_on hi
      rw[J,F9 HK.1,h1];split <;> rfl,by have h1:=Jz.o;have h2:=Jk.o;omega,by rw[J,V];exact s.ft_le⟩
     rw[<-J]at V;have hmlb:ml.length<=1048576:=Ω
     have HFT:=ι s.ft_le;have HL2:=ι V;have hsm:s.mvd<=1048576:=by have:=Jk.o;omega
     have Zw:Hid (∀(wr:World) (fc ac nq:Nat),MvF w9 wr R y q z s Ux ml l1 (s.mvd+1) fc ac->first (λk=>!at_ ml k) ml.length=fc->YL w R S y q z s k v (.returned (iI 0)) (wr.drewN nq)):=⟨λwr fc ac nq hf hx=>by
      have hy:=Xd.o.od.r1;have Jg:=Xd.o.od.r2;have Y:=HO.st;have Ja:=Y.lohi HK.1;have tw:AB (λi=>i=y\/i=z.bm) w6 (wr.drewN nq):=((((Jo.o.mono (λb _ h=>.inr h)).trans (Jr.o.mono (λb _ h=>.inl h))).trans (Jx.o.mono (λb _ h=>.inl h))).trans (hf.t.mono (λb _ h=>.inl h))).trans (((Gr.refl wr).drewN nq).touch _)
      have Xp:∀b,b=y\/b=z.bm->¬Sj b:=λb hb h=>by
       rcases hb with rfl|rfl
       ·exact Zh.o _ hy h
       ·exact Zh.o _ Jg h
      have hwn:=Xc.o.ww;have Xj:=Yp.o;rw[Xm.o.1,Xm.o.2]at Xj;have Zc:=Zg.o;rw[HP.2.2.1]at Zc
      have Zl:∀j,j<sizes s.L->CK (λi=>!s.is i) (s.lo k) (s.hi k-s.lo k) j=!(s.is j||s.inB k j):=λj hj=>by
       have h1:=Y.inB (k:=k) hj;unfold CK;cases hb:s.inB k j with
       | true=>
        obtain⟨h2,h3⟩:=h1.1 hb;rw[θ h2,θ Ω];simp
       | false=>
        have h4:¬(s.lo k<=j/\j<s.hi k):=λh=>by rw[h1.2 h]at hb;cases hb
        by_cases h5:s.lo k<=j
        ·rw[ζ (show ¬j<s.lo k+(s.hi k-s.lo k)by omega)];simp
        ·rw[ζ h5];simp
      have Ue:=M4.of HO HK.1 HK.2.1 HK.2.2 Xj Zc (D:=λj=>s.is j||(decide (s.lo k<=j)&&decide (j<s.lo k+(s.hi k-s.lo k)))) (λj hj=>by
       have h1:=Y.inB (k:=k) hj;cases hb:s.inB k j with
       | true=>
        obtain⟨h2,h3⟩:=h1.1 hb;rw[θ h2,θ Ω];rfl
       | false=>
        have h4:¬(s.lo k<=j/\j<s.hi k):=λh=>by rw[h1.2 h]at hb;cases hb
        by_cases h5:s.lo k<=j
        ·rw[ζ (show ¬j<s.lo k+(s.hi k-s.lo k)by omega),Bool.and_false]
        ·rw[ζ h5,Bool.false_and]) Zl Ud.o
      refine⟨rfl,?_,?_,vx,?_,Ue⟩
      ·exact HD.o.t.trans (tw.mono (λb _ h=>by
        rcases h with rfl|rfl
        ·exact .inl hy
        ·exact .inl Jg))
      ·have h1:BI (wr.drewN nq) R y q z s (λi=>!({s with mv:=s.mv.set k true}:Sl).is i) ml l1 fc ac:=(hf.cy.gr ((Gr.refl wr).drewN nq)).cu (λj hj=>by rw[Jv.o,Zl j hj,Sl.is_put HK.1]);have e1:({s with mv:=s.mv.set k true}:Sl).ft=fc:=by rw[<-hx,Yv.o];rfl
       have e2:({s with mv:=s.mv.set k true}:Sl).mvd=s.mvd+1:=Xt.2
       have e3:({s with mv:=s.mv.set k true}:Sl).lf=l1:=by
        show (s.mv.set k true).length-({s with mv:=s.mv.set k true}:Sl).mvd=l1
        rw[e2,ζb];have:=Xt.1;have:=Uk.o;omega
       have e4:s.mvd+1-fc=ac:=by have:=hf.sum;omega
       show BI _ R y q z {s with mv:=s.mv.set k true} _ (s.mv.set k true) _ _ _
       rw[e1,e2,e3,e4];rw[Yv.o]at h1;exact h1.same rfl rfl rfl rfl rfl
      ·refine(Jy.o.touch tw (λb hb _ h=>Xp b h hb)).mono (λb hb=>?_);rcases Zy.o b hb with h|h
       ·rcases(Xc.o.s2 b h).1 with h|h
        ·exact .inl h.1
        ·exact .inr h
       ·right;omega⟩
     clear Zb Yk Yf g7 gf gl J Ys V
     go_loopw [] (λwr=>∃fc ac:Nat,Hid (MvF w9 wr R y q z s Ux ml l1 (s.mvd+1) fc ac)) (λwr=>ml.length-LS wr y 12)
     case atStart=>exact⟨s.ft,a0+1,Zj⟩
     case round=>
      obtain⟨fc,ac,HF⟩:=hrel;clear Zj;have q4:=HF.o.cy.rc.cc 10;have q6:=HF.o.cy.rc.cc 12;have q7:=HF.o.cy.rc.cc 13;have qf:=HF.o.cy.rc.free;have ql:=HF.o.cy.rc.lt;by_cases X:fc<ml.length
      ·have Xq:(fc:Int)<(ml.length:Int):=Ω
       have d0:decide ((fc:Int)<(ml.length:Int))=true:=θ Xq;have n0:=BS HF.o.cy.mv (KK X);have nl:=(BE HF.o.cy.mv rfl).2;have O:=ι X;clear X;by_cases hb:at_ ml fc=true
       ·rw[hb]at n0;have HB:=ι hb
        have Uc:1<=ac:=by
         have h1:=OY (l:=ml) (m:=fc+1) O.o (λj hj=>by
          rcases υ j fc with h|h
          ·exact HF.o.on j h
          ·obtain rfl:j=fc:=Ω
           exact HB.o)
         have h2:cnt (at_ ml) ml.length=s.mvd+1:=by
          have:=Xt.2;rw[Yv.o];exact this
         have h3:=HF.o.sum;omega
        have hsum:ac<=1048577:=by have:=HF.o.sum;omega
        obtain⟨a1,rfl⟩:∃a1,ac=a1+1:=⟨ac-1,by omega⟩;have ha1:((a1+1:Nat):Int)-1=(a1:Int):=Ω
        have Zi:(fc:Int)+1=((fc+1:Nat):Int):=Ω
        have Jn:=ι Zi;clear hb Zi Uc;go_upto_region 19 with(fail);go_quiet (fail);have Xf:=ι (HF.o.cy.gr ((Gr.refl wr).drewN nq));have Jb:Hid (AB (λi=>i=y) w9 (wr.drewN nq)):=⟨HF.o.t.trans (((Gr.refl wr).drewN nq).touch _)⟩;obtain⟨wq,Zf⟩:∃wq,wq=wr.drewN nq:=⟨_,rfl⟩;rw[<-Zf]at Xf Jb⊢;have g6:=Xf.o.rc.cc 12;have gf:=Xf.o.rc.free;have gl:=Xf.o.rc.lt;clear Zf q4 q6 q7 qf ql n0 nl d0;go_upto_region 21 with(fail);obtain⟨wp,Yn⟩:∃wp,wp=wq.setCell ⟨y,12,none⟩ (.int .i64 ((fc:Int)+1)):=⟨_,rfl⟩;have tp:AB (λi=>i=y) wq wp:=by rw[Yn];exact(AB.refl (λi=>i=y) wq).setCell (a:=⟨y,12,none⟩) (λ_=>rfl) _
        have Xu:=Xf.o.rc.set 12 (iI ((fc:Int)+1));rw[<-Yn]at Xu⊢;rw[Jn.o]at Xu;have Xe:Hid (BI wp R y q z s Ux ml l1 (fc+1) (a1+1)):=⟨Xf.o.setR tp Xu⟩;have Ul:=ι tp;have g7:=Xe.o.rc.cc 13;have gf2:=Xe.o.rc.free;have gl2:=Xe.o.rc.lt;clear Yn tp Xu g6 gf gl;go_wp2;go_roundw
        case rel=>
         have tz:AB (λi=>i=y) wp (wp.setCell ⟨y,13,none⟩ (.int .i64 a1)):=(AB.refl (λi=>i=y) wp).setCell (a:=⟨y,13,none⟩) (λ_=>rfl) _;have Jt:=Xe.o.rc.set 13 (iI a1);refine⟨fc+1,a1,⟨⟨Xe.o.setR tz Jt,(Jb.o.trans Ul.o).trans tz,λj hj=>?_,by have:=HF.o.sum;omega,O.o⟩⟩⟩;rcases υ j fc with h|h
         ·exact HF.o.on j h
         ·obtain rfl:j=fc:=Ω
          exact HB.o
        case measure=>
         have c1:=HF.o.cy.rc.cc 12;have c2:=(Xe.o.rc.set 13 (iI a1)).cell (j:=12) rfl;unfold LS;rw[c1,c2];have:=O.o;simp[intOf];omega
       ·have Yw:at_ ml fc=false:=by simpa using hb
        rw[Yw]at n0;have HB:=ι Yw;have HX:Hid (first (λk=>!at_ ml k) ml.length=fc):=⟨GA HF.o.le (λi hi=>by rw[HF.o.on i hi];rfl) (λ_=>by rw[HB.o];rfl)⟩;clear hb Yw;go_wp2;go_quiet (fail);go_wp2;go_ret;exact Zw.o _ _ _ _ HF.o HX.o
      ·have Xq:¬(fc:Int)<(ml.length:Int):=Ω
       have d0:decide ((fc:Int)<(ml.length:Int))=false:=ζ Xq;have d1:decide (fc<ml.length)=false:=ζ X;have HX:Hid (first (λk=>!at_ ml k) ml.length=fc):=⟨GA HF.o.le (λi hi=>by rw[HF.o.on i hi];rfl) (λh=>absurd h X)⟩;clear X Xq;go_wp2;go_quiet (fail);go_wp2;go_ret;exact Zw.o _ _ _ _ HF.o HX.o
section
variable{lf ft:Nat}
theorem QXi(hC:BI w R y q z s U ml lf ft ah):cQ 122 #[pP y] w (iI ml.length):=by
 have c0:=hC.rc.cc 10;go_enter func122,ntmps122;go_wp2;go_ret
 simp_all
theorem VWU(hC:BI w R y q z s U ml lf ft ah):cQ 173 #[pP y] w (iI lf):=by
 have c0:=hC.rc.cc 11;go_enter func173,ntmps173;go_wp2;go_ret
 simp_all
theorem JiW(hC:BI w R y q z s U ml lf ft ah):cQ 121 #[pP y] w (.bool (decide (lf=0))):=by
 have HL:=(VWU hC);have hd:((lf:Int)==0)=decide (lf=0):=by grind
 go_enter func121,ntmps121;go_wp2_with(go_at_call 173;refine AK (HL) ?_);go_ret
 simp_all
theorem YCd(hC:BI w R y q z s U ml lf ft ah):A4 prog 141 #[pP y] w (iI ((s.cf.to:Int)+(sizes s.L:Nat))):=by
 obtain⟨h1,h2,h3,f,c0,c1,hF⟩:=hC.plan;have x8:=hC.rc.cc 8;have Y:=(SP c0);have X:=(NC hF);go_enter func141,ntmps141
 go_wp2_with(first
  | (go_at_call 192;refine AK (Y) ?_)
  | (go_at_call 159;refine(X).mono ?_;rintro e w2 ⟨rfl,Z⟩;have HG2:=Z))
 go_ret
 simp_all
end
def ftL(l:List Bool):Nat:=first (λk=>!at_ l k) l.length
def CD(l:List Bool):Nat:=cnt (at_ l) l.length
def CX(l:List Bool):List Bool:=if ftL l<l.length then l.set (ftL l) true else l
def GV(A k:Nat):Nat->List Bool->List Bool
 | 0,l=>l
 | n+1,l=>if ftL l<k/\A<=CD l-ftL l then GV A k n (CX l)else l
def JF(A k:Nat)(l:List Bool):List Bool:=if at_ l k then l else (GV A k k l).set k true
theorem R7(l:List Bool):(CX l).length=l.length:=by unfold CX;grind
theorem JSM(A k n:Nat)(l:List Bool):(GV A k n l).length=l.length:=by
 induction n generalizing l with
 | zero=>rfl
 | succ n ih=>unfold GV;grind [R7]
theorem LJ(h:i<ftL l):at_ l i=true:=by
 have:=IG (λk=>!at_ l k) l.length i h
 simp_all
theorem JVx(h:at_ l k=false):ftL l<=k:=by
 grind [υ,LJ]
theorem Vhb(h:ftL l<l.length):ftL l<ftL (CX l):=by
 unfold CX;rw[φ h];rcases υ (ftL l) (ftL (l.set (ftL l) true))with g|g
 ·exact g
 ·exfalso;have h1:(!at_ (l.set (ftL l) true) (ftL (l.set (ftL l) true)))=true:=GL (λk=>!at_ (l.set (ftL l) true) k) _ (show ftL (l.set (ftL l) true)<_ by grind)
  grind [F9,LJ]
theorem Zk8(h:at_ l k=false)(hk:ftL l<k):at_ (CX l) k=false:=by
 unfold CX
 split
 ·rename_i g;rw[F9 g,ξ Ω];exact h
 ·exact h
structure SlJ(A:Sl->Vm->Prop):Prop where
 need:∀s v k,BQ s v->A s v->k<s.mv.length->at_ s.mv k=false->(k=s.ft\/s.mvd-s.ft<s.cf.ah)->BK v ((s.cf.to+s.lo k:Nat):Int) ((s.cf.to+s.hi k:Nat):Int)=0
 step:∀s v k v',BQ s v->A s v->k<s.mv.length->at_ s.mv k=false->(k=s.ft\/s.mvd-s.ft<s.cf.ah)->M4 s k v v'->A {s with mv:=s.mv.set k true} v'
structure JP(w w':World)(R S:Nat->Prop)(y q:Nat)(z:CB)(A:Sl->Vm->Prop)(s':Sl)(v':Vm):Prop where
 t:AB (λb=>R b\/S b) w w'
 cy:Cyc w' R y q z s'
 vm:AD w' (plus S w) q v'
 ok:BQ s' v'
 j:A s' v'
def Sl.step(s:Sl):Sl:={s with mv:=CX s.mv}
def Sl.tch(s:Sl)(a:Int):Sl:={s with mv:=if inF s.L s.cf.to a then JF s.cf.ah ((a-s.cf.to).toNat/s.cf.bk) s.mv else s.mv}
theorem Sl.lf_zero(s:Sl):s.lf=0↔¬s.ft<s.mv.length:=by
 have h1:=OY (l:=s.mv) (m:=s.ft) s.ft_le (λi hi=>s.ft_on hi);have h2:s.mvd<=s.mv.length:=EJ _ _;have h3:s.mvd=cnt (at_ s.mv) s.mv.length:=rfl;constructor
 ·intro h hf;have h4:=s.ft_off hf;have h5:=JO hf h4;have h6:cnt (at_ (s.mv.set s.ft true)) s.mv.length<=s.mv.length:=EJ _ _;unfold Sl.lf at h;omega
 ·unfold Sl.lf;omega
section
variable{A:Sl->Vm->Prop}
def XY(w:World)(R S:Nat->Prop)(y q:Nat)(z:CB)(A:Sl->Vm->Prop)(s:Sl)(e:Ending)(w':World):Prop:=
 ∃v',e=.returned (.tuple #[.bool (decide (s.ft<s.mv.length)),iI 0])/\JP w w' R S y q z A s.step v'
theorem YN(hJ:SlJ A)(hC:Cyc w R y q z s)(hO:BQ s v)(hA:A s v)(hT:AO w)(htS:¬S 1)(htR:¬R 1)(hV:AD w S q v)(hdis:∀k,R k->¬S k):
  Calls prog 64 #[pP y] w (XY w R S y q z A s):=by
 have X:=s.lf_zero;have c5:=hC.rc.cc 11;have c6:=hC.rc.cc 12;have cl:=hC.rc.lt;by_cases hf:s.ft<s.mv.length
 ·have hk:=s.ft_off hf;have HM:=(ZS2 hC hO hT htS htR hV hdis hf hk (hJ.need s v s.ft hO hA hf hk (.inl rfl)))
  have HR:Hid (∀w',YL w R S y q z s s.ft v (.returned (iI 0)) w'->XY w R S y q z A s (.returned (.tuple #[.bool true,iI 0])) w'):=⟨λw' ⟨_,ht,hc,v',hv,hm⟩=>by
   have e:s.step={s with mv:=s.mv.set s.ft true}:=by
    unfold Sl.step CX;rw[φ (show ftL s.mv<s.mv.length from hf)];rfl
   refine⟨v',by rw[θ hf],ht,?_,hv,?_,?_⟩
   ·rw[e];exact hc
   ·rw[e];exact hm.ok
   ·rw[e];exact hJ.step s v s.ft v' hO hA hf hk (.inl rfl) hm⟩
  have hl0:s.lf≠0:=λh=>X.1 h hf;have d0:((s.lf:Int)==0)=false:=by simp;omega
  go_enter func64,ntmps64;go_wp2_with(go_at_call 120;refine(HM).mono ?_;rintro e w1 ⟨rfl,hm⟩;have Y:=hm);go_ret2;exact HR.o _ ⟨rfl,Y⟩
 ·have HR:Hid (XY w R S y q z A s (.returned (.tuple #[.bool false,iI 0])) w):=⟨by
   have e:s.step=s:=by
    unfold Sl.step CX;rw[ξ (show ¬ftL s.mv<s.mv.length from hf)]
   refine⟨v,by rw[ζ hf],AB.refl _ _,?_,hV.mono (λ_ h=>.inl h),?_,?_⟩
   ·rw[e];exact hC
   ·rw[e];exact hO
   ·rw[e];exact hA⟩
  go_enter func64,ntmps64;go_wp2;go_ret2;exact HR.o
def VV(w:World)(R S:Nat->Prop)(y q:Nat)(z:CB)(A:Sl->Vm->Prop)(s:Sl)(a:Int)(e:Ending)(w':World):Prop:=
 ∃v',e=.returned (iI 0)/\JP w w' R S y q z A (s.tch a) v'
structure LE(w wr:World)(R S:Nat->Prop)(y q:Nat)(z:CB)(A:Sl->Vm->Prop)(s:Sl)(k n:Nat)(l:List Bool):Prop where
 t:AB (λb=>R b\/S b) w wr
 cy:Cyc wr R y q z {s with mv:=l}
 vm:∃Sj v',(∀b,Sj b->(S b/\b<w.heap.size)\/w.heap.size<=b)/\AD wr Sj q v'/\BQ {s with mv:=l} v'/\A {s with mv:=l} v'
 len:l.length=s.mv.length
 un:at_ l k=false
 run:GV s.cf.ah k n l=GV s.cf.ah k k s.mv
 n:k-ftL l<=n
theorem LE.step(h:LE w wr R S y q z A s k n l)(hJ:SlJ A)(g:Gr wr W)(hT:AO w)(htS:¬S 1)(htR:¬R 1)(hdis:∀k,R k->¬S k)(hlt:∀k,R k->k<w.heap.size)(hk:k<s.mv.length)(h1:ftL l<k)(h2:s.cf.ah<=CD l-ftL l):
  Calls prog 64 #[pP y] W λe w'=>e=.returned (.tuple #[.bool true,iI 0])/\∃n',LE w w' R S y q z A s k n' (CX l)/\ftL l<ftL (CX l):=by
 obtain⟨Sj,v',Z,hv,ho,ha⟩:=h.vm;have hz:=h.t.size;have hf:ftL l<l.length:=by rw[h.len];omega
 have J:AO W:=(hT.touch' h.t (λh'=>h'.elim htR htS)).touch' (g.touch (λ_=>False)) (λh=>h);have htl:=hT.lt;refine(YN hJ (h.cy.gr g) ho ha J (λh'=>?_) htR (hv.gr g) (λb hb h'=>?_)).mono ?_
 ·grind
 ·grind
 ·rintro e w' ⟨V,rfl,X⟩;have hgz:=g.size;have Y:=Vhb hf;obtain⟨n',rfl⟩:∃n',n=n' + 1:=⟨n-1,by have:=h.n;omega⟩;refine⟨by rw[show decide (({s with mv:=l}:Sl).ft<({s with mv:=l}:Sl).mv.length)=true from θ hf],n',⟨?_,X.cy,⟨plus Sj W,V,λb hb=>?_,X.vm,X.ok,X.j⟩,by rw[R7];exact h.len,Zk8 h.un h1,?_,by have:=h.n;omega⟩,Y⟩
  ·refine(h.t.trans (g.touch _)).trans' X.t (λb hb hs=>?_)
   grind
  ·rcases hb with h|h
   ·exact Z b h
   omega
  ·rw[<-h.run]
   show _=(if ftL l<k/\s.cf.ah<=CD l-ftL l then GV s.cf.ah k n' (CX l)else l)
   simp_all
theorem LE.fin{a:Int}(h:LE w wr R S y q z A s k n l)(hJ:SlJ A)(g:Gr wr W)(hT:AO w)(htS:¬S 1)(htR:¬R 1)(hdis:∀k,R k->¬S k)(hlt:∀k,R k->k<w.heap.size)(hk:k<s.mv.length)(hm:at_ s.mv k=false)(hc:¬(ftL l<k/\s.cf.ah<=CD l-ftL l))(he:s.tch a={s with mv:=JF s.cf.ah k s.mv}):
  Calls prog 120 #[pP y,iI k] W λe w'=>e=.returned (iI 0)/\VV w R S y q z A s a (.returned (iI 0)) w':=by
 obtain⟨Sj,v',V,hv,ho,ha⟩:=h.vm;have hz:=h.t.size;have hgz:=g.size;have N:AO W:=(hT.touch' h.t (λh'=>h'.elim htR htS)).touch' (g.touch (λ_=>False)) (λh=>h);have htl:=hT.lt;have X:k<({s with mv:=l}:Sl).mv.length:=by rw[h.len];exact hk
 have hfk:=JVx h.un
 have J:k=({s with mv:=l}:Sl).ft\/({s with mv:=l}:Sl).mvd-({s with mv:=l}:Sl).ft<({s with mv:=l}:Sl).cf.ah:=by
  rcases υ (ftL l) k with h'|h'
  ·right
   show CD l-ftL l<s.cf.ah
   omega
  ·left
   show k=ftL l
   omega
 refine(ZS2 (h.cy.gr g) ho N (λh'=>?_) htR (hv.gr g) (λb hb h'=>?_) X h.un (hJ.need _ _ k ho ha X h.un J)).mono ?_
 ·grind
 ·grind
 ·rintro e w' ⟨rfl,ht,hcy,Y,O,Z⟩
  have er:GV s.cf.ah k n l=l:=by
   cases n with
   | zero=>rfl
   | succ n=>unfold GV;grind
  have et:s.tch a={s with mv:=l.set k true}:=by
   rw[he];unfold JF;rw[ξ (by simp_all),<-h.run,er]
  refine⟨rfl,Y,rfl,?_,by simp_all,O.mono (λb hb=>?_),by rw[et];exact Z.ok,by rw[et];exact hJ.step _ _ k Y ho ha X h.un J Z⟩
  ·refine(h.t.trans (g.touch _)).trans' ht (λb hb hs=>?_)
   grind
  ·rcases hb with h|h
   ·rcases V b h with h|h
    ·exact .inl h.1
    ·exact .inr h
   ·right;omega
theorem Qym(hJ:SlJ A)(hC:Cyc w R y q z s)(hO:BQ s v)(hA:A s v)(hT:AO w)(htS:¬S 1)(htR:¬R 1)(hV:AD w S q v)(hdis:∀k,R k->¬S k)(a:Int)(ha:a<=9223372036854775807):
  Calls prog 314 #[pP y,iI a] w (VV w R S y q z A s a):=by
 have N:=(ZAe hC.plan hT a ha);have c8:=hC.rc.cc 8;have cl:=hC.rc.lt;have E:Hid (s.tch a=s->VV w R S y q z A s a (.returned (iI 0)) w):=⟨λe=>⟨v,rfl,AB.refl _ _,by rw[e];exact hC,hV.mono (λ_ h=>.inl h),by rw[e];exact hO,by rw[e];exact hA⟩⟩;cases hin:inF s.L s.cf.to a with
 | false=>
  have e:s.tch a=s:=by unfold Sl.tch;rw[hin];rfl
  have HE:=(E.o e);obtain⟨-,-,e3⟩:=MN hin;rw[e3]at N;obtain⟨bv,Xt⟩:∃bv,bv=G0 s.L s.cf.to s.cf.bk a:=⟨_,rfl⟩;rw[<-Xt]at N;clear hC hO hA hT htS htR hV hdis hJ hin e e3 Xt E;go_enter func314,ntmps314;go_wp2_with(go_at_call 315;refine(N).mono ?_;rintro e w1 ⟨rfl,X⟩;have Y:=X;clear X);go_ret;obtain⟨v',e1,h⟩:=HE;exact⟨v',rfl,h.t.trans (Y.touch _),h.cy.gr Y,h.vm.gr Y,h.ok,h.j⟩
 | true=>
  have J:=hO.st;obtain⟨i,rfl⟩:∃i:Nat,a=((s.cf.to+i:Nat):Int):=⟨(a-s.cf.to).toNat,by have:=(FG.1 hin).1;omega⟩;have Xd:i<sizes s.L:=by have:=(FG.1 hin).2;omega
  obtain⟨k,hk⟩:∃k,k=i/s.cf.bk:=⟨_,rfl⟩;have Xa:k<s.mv.length:=by rw[hk];exact J.blk Xd
  have Xp:G0 s.L s.cf.to s.cf.bk ((s.cf.to+i:Nat):Int)=(k:Int):=by
   unfold G0;rw[hin,φ rfl,show ((s.cf.to+i:Nat):Int)-(s.cf.to:Int)=(i:Int)by omega,hk];rfl
  rw[Xp,(ME Xd).2]at N
  have Z:s.tch ((s.cf.to+i:Nat):Int)={s with mv:=JF s.cf.ah k s.mv}:=by
   unfold Sl.tch;rw[hin,φ rfl,show (((s.cf.to+i:Nat):Int)-(s.cf.to:Int)).toNat=i by omega,<-hk]
  have Xv:(k:Int)<(s.mv.length:Int):=Ω
  have hml:s.mv.length<=1048576:=by rw[J.len];have:=LY (n:=sizes s.L) J.bk.1;have:=J.N_le;have:=J.n2;omega
  have Yb:=(FG.1 hin);have O:=Z;obtain⟨a,Xe⟩:∃a:Int,a=((s.cf.to+i:Nat):Int):=⟨_,rfl⟩;rw[<-Xe]at N E Z O⊢;clear hin hk Xp Yb;by_cases hm:at_ s.mv k=true
  ·have e:s.tch a=s:=by
    rw[Z];unfold JF;rw[φ hm]
   have HE:=(E.o e);have HX:=(λ(W:World) (g:Gr w W)=>(hC.gr g).rc.cell (j:=10) rfl);have Xh:=(λ(W:World) (g:Gr w W)=>(hC.gr g).rc.lt);have Xb:=(λ(W:World) (g:Gr w W)=>BS (hC.gr g).mv (KK Xa));have Xi:=(λ(W:World) (g:Gr w W)=>(BE (hC.gr g).mv rfl).2);rw[hm]at Xb;clear hC hO hA hT htS htR hV hdis hJ J Xd Xe Z O e E hm Xa;go_enter func314,ntmps314;go_wp2_with(go_at_call 315;refine(N).mono ?_;rintro e w1 ⟨rfl,X⟩;have Y:=X;have y4:=HX _ X;have yl:=Xh _ X;have y5:=Xb _ X;have y6:=Xi _ X;clear X);go_ret;obtain⟨v',e1,h⟩:=HE;exact⟨v',rfl,h.t.trans (Y.touch _),h.cy.gr Y,h.vm.gr Y,h.ok,h.j⟩
  ·have hm:at_ s.mv k=false:=by simpa using hm
   have HX:=(λ(W:World) (g:Gr w W)=>(hC.gr g).rc.cell (j:=10) rfl);have Xh:=(λ(W:World) (g:Gr w W)=>(hC.gr g).rc.lt);have Xb:=(λ(W:World) (g:Gr w W)=>BS (hC.gr g).mv (KK Xa));have Xi:=(λ(W:World) (g:Gr w W)=>(BE (hC.gr g).mv rfl).2);rw[hm]at Xb;have Xz:Hid (∀W,Gr w W->LE w W R S y q z A s k k s.mv):=⟨λW g=>⟨g.touch _,hC.gr g,⟨AC S w,v,λb hb=>.inl hb,hV.cut.gr g,hO,hA⟩,rfl,hm,rfl,by omega⟩⟩;have HS:=(ψ hT (ψ htS (ψ htR (ψ hdis (ψ hC.od.lt Xa)))));have HJ:=hJ;have hahb:s.cf.ah<=16:=J.cf.ah;have HM:=hm;clear hC hO hA hT htS htR hV hdis hJ J Xd Xe Z E hm Xa;go_enter func314,ntmps314;go_upto_region 6 with(go_at_call 315;refine(N).mono ?_;rintro e w1 ⟨rfl,X⟩;have Y:=X;have y4:=HX _ X;have yl:=Xh _ X;have y5:=Xb _ X;have y6:=Xi _ X;clear X);clear y4 yl y5 y6 c8 cl
   go_loopw [] (λwr=>∃(n:Nat) (l:List Bool),Hid (LE w wr R S y q z A s k n l)) (λwr=>k-LS wr y 12)
   case atStart=>exact⟨k,s.mv,⟨Xz.o _ Y⟩⟩
   case round=>
    obtain⟨n,l,HI⟩:=hrel;have q6:wr.cell? ⟨y,12,none⟩=some (iI (ftL l:Nat)):=HI.o.cy.rc.cc 12;have q7:wr.cell? ⟨y,13,none⟩=some (iI (CD l-ftL l:Nat)):=HI.o.cy.rc.cc 13;have qa:=HI.o.cy.rc.cc 7;have ql:=HI.o.cy.rc.lt;obtain⟨fc,Xc⟩:∃fc,fc=ftL l:=⟨_,rfl⟩;obtain⟨ac,Xf⟩:∃ac,ac=CD l-fc:=⟨_,rfl⟩;have Xr:=ι Xc;rw[<-Xc]at q6 q7;rw[<-Xf]at q7;have Xn:Hid (ac=CD l-ftL l):=⟨by rw[Xf,Xc]⟩;clear Xc Xf;by_cases V:fc<k
    ·have Xq:(fc:Int)<(k:Int):=Ω
     have d0:decide ((fc:Int)<(k:Int))=true:=θ Xq;have Xx:decide (fc<k)=true:=θ V;by_cases I:s.cf.ah<=ac
     ·have d1:decide ((s.cf.ah:Int)<=(ac:Int))=true:=θ Ω;have Xw:decide (s.cf.ah<=ac)=true:=θ I;have Xg:Hid (ftL l<k/\s.cf.ah<=CD l-ftL l):=⟨by rw[<-Xr.o];exact V,by rw[<-Xn.o];exact I⟩;clear V I;go_wp2;go_quiet (fail);have Ya:=(HI.o.step HJ ((Gr.refl wr).drewN nq) HS.1 HS.2.1 HS.2.2.1 HS.2.2.2.1 HS.2.2.2.2.1 HS.2.2.2.2.2 Xg.o.1 Xg.o.2);go_wp2_with(go_at_call 64;refine(Ya).mono ?_;rintro e w5 ⟨rfl,n',Xu,Xm⟩;have Xs:=ι Xu;have Xy:=Xm;clear Xu Xm);go_roundw
      case rel=>exact⟨n',CX l,Xs⟩
      case measure=>
       have c1:wr.cell? ⟨y,12,none⟩=some (iI (ftL l:Nat)):=HI.o.cy.rc.cc 12;have c2:w5.cell? ⟨y,12,none⟩=some (iI (ftL (CX l):Nat)):=Xs.o.cy.rc.cc 12;have:=Xy;have:=Xg.o.1;unfold LS;rw[c1,c2];simp[intOf];omega
     ·have d1:decide ((s.cf.ah:Int)<=(ac:Int))=false:=ζ Ω;have Xw:decide (s.cf.ah<=ac)=false:=ζ I;have Xl:Hid (¬(ftL l<k/\s.cf.ah<=CD l-ftL l)):=⟨λh=>I (by rw[Xn.o];exact h.2)⟩;clear V I;go_wp2;have n0:=BS HI.o.cy.mv (KK (show k<l.length by rw[HI.o.len];exact HS.2.2.2.2.2));rw[HI.o.un]at n0;have n4:=HI.o.cy.rc.cc 10;have nl:=(BE HI.o.cy.mv rfl).2;have Xo:(k:Int)<(({s with mv:=l}:Sl).mv.length:Int):=by show (k:Int)<(l.length:Int);rw[HI.o.len];exact Xv
      go_quiet (fail);have Xk:=(HI.o.fin HJ ((Gr.refl wr).drewN nq) HS.1 HS.2.1 HS.2.2.1 HS.2.2.2.1 HS.2.2.2.2.1 HS.2.2.2.2.2 HM Xl.o O);go_wp2_with(go_at_call 120;refine(Xk).mono ?_;rintro e w5 ⟨rfl,G⟩;have Xj:=G;clear G);go_ret;exact Xj
    ·have d0:decide ((fc:Int)<(k:Int))=false:=ζ Ω;have Xx:decide (fc<k)=false:=ζ V;have Xl:Hid (¬(ftL l<k/\s.cf.ah<=CD l-ftL l)):=⟨λh=>V (by rw[Xr.o];exact h.1)⟩;clear V;go_wp2;have n0:=BS HI.o.cy.mv (KK (show k<l.length by rw[HI.o.len];exact HS.2.2.2.2.2));rw[HI.o.un]at n0;have n4:=HI.o.cy.rc.cc 10;have nl:=(BE HI.o.cy.mv rfl).2;have Xo:(k:Int)<(({s with mv:=l}:Sl).mv.length:Int):=by show (k:Int)<(l.length:Int);rw[HI.o.len];exact Xv
     go_quiet (fail);have Xk:=(HI.o.fin HJ ((Gr.refl wr).drewN nq) HS.1 HS.2.1 HS.2.2.1 HS.2.2.2.1 HS.2.2.2.2.1 HS.2.2.2.2.2 HM Xl.o O);go_wp2_with(go_at_call 120;refine(Xk).mono ?_;rintro e w5 ⟨rfl,G⟩;have Xj:=G;clear G);go_ret;exact Xj
end
end Go.Proofs.YtbdimhlaaoadgaaGreatDoor
