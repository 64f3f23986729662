/- Part 8 of what QueuePlays leans on: my own lemmas, merged by shake.py. -/
import Derived.Test.YtggjoonlcjjgkaaGreatDoorQueuePlaysG
import Derived.Deep.CutBlock
import Derived.Deep.DeepCutAuto
namespace Go.Proofs.YtggjoonlcjjgkaaGreatDoor
open _root_.Go.Proofs.Tryz
set_option maxHeartbeats 6400000
set_option maxRecDepth 100000
open Go.RowKit Word
variable{room:Int}{l ml:List Bool}{rs:List Int}{F:List Nat}{L:List Ob}{P:List Pc}{B M a ah b cp f fb fr g i j k m n p pg q r st tp x y:Nat}{D U U' U0 V:Nat->Bool}{R S T:Nat->Prop}{A:Option Addr}{v v' v1 v2:Vm}{W w w' wr:World}
def kl(p f k:Nat):List Int:=List.replicate p 1++List.replicate f 2++List.replicate k 3
structure YI(M:Nat)(v:Vm):Prop where
 ok:AE v
 n:v.n=M
 al:∀a:Nat,a<M->v.ldE a=0
 m1:1<=M
def mpN(v:Vm):Nat->Vm
 | 0=>v
 | k+1=>(mpN v k).mp (k:Nat)
theorem ZqK(h:AE v)(hu:v.pl.used=0)(hl:∀p,p<v.pt.length->v.pt.getD p 0=0)(hr:v.pt.length<=v.pl.rm)(hk:k<=v.pt.length):BY v (mpN v k) (List.range k):=by
 induction k with
 | zero=>exact BY.refl h
 | succ k ih=>
  have ih:=ih Ω;have hln:=ih.len h
  have hz:(mpN v k).pt.getD k 0=0:=by
   have:=ih.ma k Ω
   grind
  have hE:(mpN v k).mpE (k:Nat)=0:=by
   unfold Vm.mpE;have h1:pgE (mpN v k).pt (k:Nat)=0:=by exact θ Ω
   have h2:=ih.us;rw[List.length_range,hu]at h2;rw[φ (λh=>h h1),υ,φ (λh=>h hz),φ];rw[ih.rm];omega
  rw[ψs];exact ih.mp h hE
def stN(v:Vm)(f:Nat->Nat):Nat->Vm
 | 0=>v
 | k+1=>(stN v f k).st (k:Nat) (f k)
structure J4R(v v':Vm)(f:Nat->Nat)(k:Nat):Prop where
 ok:AE v'
 sm:BS v v'
 vl:∀a:Nat,a<k->v'.ldV a=f a
theorem VYd(h:AE v)(hl:∀a:Nat,a<v.n->v.ldE a=0){f:Nat->Nat}(hf:∀a,f a<18446744073709551616)(hk:k<=v.n):J4R v (stN v f k) f k:=by
 induction k with
 | zero=>exact⟨h,BS.refl v,λa ha=>absurd ha (ζC _)⟩
 | succ k ih=>
  have ih:=ih Ω;have hE:(stN v f k).ldE (k:Nat)=0:=by rw[ih.sm.ldE];grind
  refine⟨ih.ok.st _ (hf k),ih.sm.trans (BS.st _ _ _),λa ha=>?_⟩
  show ((stN v f k).st (k:Nat) (f k)).ldV a=_
  rw[ih.ok.st_ldV _ hE];by_cases e:(k:Int)=a
  ·grind
  ·rw[φ e];exact ih.vl a Ω
theorem Qrk(h1:1<=n)(h2:n<=4096){f:Nat->Nat}(hf:∀a,f a<18446744073709551616):∃u:Vm,YI n u/\∀a:Nat,a<n->u.ldV a=f a:=by
 have Y:AE (Vm.new n 1 n):=AE.new (by unfold E8;simp;omega) (by decide) h1 Ω (Nat.mod_one n);have X:(Vm.new n 1 n).pt.length=n:=by show (List.replicate (n/1) 0).length=n;rw[ζI,Nat.div_one]
 have hm:=ZqK Y rfl (λp hp=>by show (List.replicate (n/1) 0).getD p 0=0;exact NX _ _) (by rw[X];exact ϑ _) (k:=n) (by rw[X];exact ϑ _);have hn:(mpN (Vm.new n 1 n) n).n=n:=hm.n
 have hl:∀a:Nat,a<n->(mpN (Vm.new n 1 n) n).ldE a=0:=λa ha=>by
  rw[hm.ldE Y (show a<(Vm.new n 1 n).n from ha),θ];rw[ξj]
  show a/1<n
  rw[Nat.div_one];exact ha
 have hs:=VYd hm.ok (λa ha=>hl a (by rw[hn]at ha;exact ha)) hf (k:=n) (by rw[hn];exact ϑ _);exact⟨_,⟨hs.ok,hs.sm.n.trans hn,λa ha=>by rw[hs.sm.ldE];exact hl a ha,h1⟩,hs.vl⟩
theorem PY(hS:CH v rs n){a:Int}(ha:Rch v rs a):
  ∃b p f k:Nat,a=b/\v.rdE a=0/\v.rdH a=⟨p,f,k⟩/\p+f+k<=255/\(b:Int)+(1+p+f+k)<=n/\0<b/\v.osz a=1+(p:Int)+f+k ∧
   ∀m:Nat,m<p->v.ldE (a+1+m)=0/\v.ldV (a+1+m)<=2147483647/\(v.ldV (a+1+m)≠0->Rch v rs (v.ldV (a+1+m):Nat)):=by
 have X:=hS.rd a ha;obtain⟨h0,-,p,f,k,hh,hs⟩:=F5 X;obtain⟨b,rfl⟩:∃b:Nat,a=b:=⟨a.toNat,by omega⟩;have ho:v.osz b=1+(p:Int)+f+k:=by unfold Vm.osz;rw[hh];exact θ (EQ hs)
 have hin:=hS.rm b ha;refine⟨b,p,f,k,rfl,X,hh,hs,by omega,by omega,ho,λm hm=>?_⟩;have Y:(m:Int)<(v.rdH b).p:=by simp_all
 have Z:=hS.pt b ha m Y;have he:=JZ Z;refine⟨he.2.2.1,he.2.1,λh0=>?_⟩;exact ha.step ⟨X,m,Y,Z,by omega,by rw[he.1]⟩
section
variable{A0:Option Addr}{cr:Nat}
end
def pkW(v:Vm)(L:List Ob)(fr a m:Nat):Nat:=if (1<=m/\(m:Int)<=(v.rdH a).p)/\v.ldV ((a:Int)+m)≠0 then (toV L fr (v.ldV ((a:Int)+m):Nat)).toNat else v.ldV ((a:Int)+m)
def IP(v:Vm)(L:List Ob)(fr:Nat):List Ob->List Nat
 | []=>[]
 | o :: r=>(List.range o.2).map (pkW v L fr o.1)++IP v L fr r
theorem Ywe(v:Vm)(L:List Ob)(fr:Nat)(P:List Ob)(hj:j<P.length)(hm:m<P[j].2):(IP v L fr P).getD (sizes (P.take j)+m) 0=pkW v L fr P[j].1 m:=by
 induction P generalizing j with
 | nil=>simp at hj
 | cons o r ih=>
  cases j with
  | zero=>
   have hm:m<o.2:=hm;simp only[List.take_zero,sizes,ξq,IP,ψp]
   grind
  | succ j=>
   have X:j<r.length:=by grind
   have:=ih X (by simp_all);simp only[ξK,sizes,IP,ψq];rw[<-this,β,ζV (by simp;omega),β];congr 2
   grind
theorem RX(hg:AP n L)(hf:∀o∈L,fr<=o.1)(hj:j<L.length):fr+sizes (L.take j)<=L[j].1:=by
 induction j with
 | zero=>simpa[sizes]using hf _ (μ hj)
 | succ j ih=>
  have h1:=ih Ω;have h2:=hg.at Ω hj (ξM j)
  grind [FF]
theorem Jc5{a:Int}(h1:v'.ldE a=v.ldE a)(h2:v'.ldV a=v.ldV a):v'.rdE a=v.rdE a/\v'.rdH a=v.rdH a:=by
 unfold Vm.rdE Vm.rdH
 simp_all
structure Pkd(v v':Vm)(L:List Ob)(fr k:Nat):Prop where
 ok:AE v'
 sm:BS v v'
 o:∀b:Nat,(b<fr\/fr+k<=b)->v'.ldV b=v.ldV b
 row:∀i,i<k->v'.ldV ((fr+i:Nat):Int)=(IP v L fr L).getD i 0
theorem Pkd.zero(h:AE v)(L:List Ob)(fr:Nat):Pkd v v L fr 0:=⟨h,BS.refl v,λ_ _=>rfl,λ_ h=>absurd h (ζC _)⟩
theorem Pkd.step(h:Pkd v v' L fr k)(hl:v.ldE ((fr+k:Nat):Int)=0)(hx:x=(IP v L fr L).getD k 0)(hx2:x<18446744073709551616):Pkd v (v'.st ((fr+k:Nat):Int) x) L fr (k+1):=by
 have Y:v'.ldE ((fr+k:Nat):Int)=0:=by rw[h.sm.ldE];exact hl
 have X:=h.ok.st_ldV x Y;refine⟨h.ok.st _ hx2,h.sm.trans (BS.st _ _ _),λb hb=>?_,λi hi=>?_⟩
 ·rw[X,φ Ω];exact h.o b Ω
 ·rw[X];by_cases e:i=k
  ·simp_all
  ·rw[φ Ω];exact h.row i Ω
structure EK(v:Vm)(rs:List Int)(L:List Ob)(fr tp:Nat):Prop where
 ok:AE v
 mks:BK v rs v.n L
 inn:∀o∈L,fr<=o.1/\o.1+o.2<=tp
 fr1:1<=fr
 tpn:tp<=v.n
 lds:∀a:Nat,fr<=a->a<fr+sizes L->v.ldE a=0
theorem EK.le(c:EK v rs L fr tp)(hj:j<L.length):fr+sizes (L.take j)<=L[j].1:=RX c.mks.mkd.good (λo ho=>(c.inn o ho).1) hj
theorem EK.sz(_c:EK v rs L fr tp)(hj:j<L.length):sizes (L.take (j+1))=sizes (L.take j)+L[j].2/\sizes (L.take j)+L[j].2<=sizes L:=by
 exact⟨FF hj,JP hj⟩
theorem Pkd.src(c:EK v rs L fr tp)(hj:j<L.length)(h:Pkd v v' L fr (sizes (L.take j)+m)):v'.ldV ((L[j].1+m:Nat):Int)=v.ldV ((L[j].1+m:Nat):Int)/\v'.ldE ((L[j].1+m:Nat):Int)=v.ldE ((L[j].1+m:Nat):Int):=by
 have:=c.le hj;exact⟨h.o _ Ω,h.sm.ldE _⟩
theorem Pkd.hdr(c:EK v rs L fr tp)(hj:j<L.length)(h:Pkd v v' L fr (sizes (L.take j))):v'.rdE (L[j].1:Nat)=0/\v'.rdH (L[j].1:Nat)=v.rdH (L[j].1:Nat):=by
 obtain⟨h1,h2⟩:=Pkd.src (m:=0) c hj h;obtain⟨e1,e2⟩:=Jc5 h2 h1;exact⟨e1.trans (c.mks.mkd.ats _ (μ hj)).2.1,e2⟩
theorem EK.hd(c:EK v rs L fr tp)(hj:j<L.length):∃p f k:Nat,v.rdH (L[j].1:Nat)=⟨p,f,k⟩/\p+f+k<=255/\L[j].2=1+p+f+k:=by
 obtain⟨h1,h2,h3⟩:=c.mks.mkd.ats _ (μ hj);obtain⟨b,p,f,k,he,-,hh,hs,-,-,hz,-⟩:=PY c.mks.sound h1
 grind
theorem ZP(c:EK v rs L fr tp){a:Int}(ha:Hs L a):∃j,∃hj:j<L.length,(L[j].1:Int)=a/\toV L fr a=((fr+sizes (L.take j):Nat):Int):=by
 obtain⟨o,ho,he⟩:=ha;obtain⟨j,hj,rfl⟩:=ζm ho;refine⟨j,hj,he,?_⟩;have h1:=(c.mks.mkd.good.sz _ (μ hj)).1;have:=(RU c.mks.mkd.good (base:=fr) hj (a:=a) Ω Ω).1;omega
theorem Vco(c:EK v rs L fr tp):toV L fr 0=0:=by
 have h:¬A1 L 0<L.length:=λh=>by
  have h1:=IL h;have h2:=(c.inn _ (μ h)).1;have:=c.fr1;omega
 exact(OS h).1
theorem EK.ptr(c:EK v rs L fr tp)(hj:j<L.length)(h1:1<=m)(h2:(m:Int)<=(v.rdH (L[j].1:Nat)).p):v.ldV ((L[j].1+m:Nat):Int)<=2147483647/\(v.ldV ((L[j].1+m:Nat):Int)≠0->Hs L (v.ldV ((L[j].1+m:Nat):Int):Nat)):=by
 obtain⟨hr,-,-⟩:=c.mks.mkd.ats _ (μ hj);obtain⟨b,p,f,k,he,-,hh,hs,-,-,hz,hp⟩:=PY c.mks.sound hr;rw[hh]at h2;have:=hp (m-1) (by grind);rw[show ((L[j].1:Nat):Int)+1+((m-1:Nat):Int)=((L[j].1+m:Nat):Int)by omega]at this;exact⟨this.2.1,λh0=>c.mks.all _ (this.2.2 h0)⟩
theorem WW(v:Vm)(L:List Ob)(fr a m:Nat)(hx:v.ldV ((a+m:Nat):Int)=x):pkW v L fr a m=if (1<=m/\(m:Int)<=(v.rdH a).p)/\x≠0 then (toV L fr (x:Nat)).toNat else x:=by
 unfold pkW
 simp_all
theorem EK.pkW_lt(c:EK v rs L fr tp)(hj:j<L.length):pkW v L fr L[j].1 m<18446744073709551616:=by
 rw[WW v L fr _ m rfl];have hx:=c.ok.ldV_lt ((L[j].1+m:Nat):Int)
 split
 ·rename_i h;obtain⟨i,hi,-,e⟩:=ZP c ((c.ptr hj h.1.1 h.1.2).2 h.2);have:=(c.sz hi).2;have:=FW c.mks.mkd.good;have:=c.ok.n2;have:=c.tpn;have:=c.inn _ (μ hi);omega
 ·exact hx
section
variable{F:Nat}
def Qp6(w:World)(S:Nat->Prop)(q:Nat)(v:Vm)(L:List Ob)(fr k:Nat)(e:Ending)(w':World):Prop:=
 e=.returned (.tuple #[])/\AB (AD S w) w w'/\∃v'',AC w' (AD S w) q v''/\Pkd v v'' L fr k
theorem VgZ{i:Int}(h:¬(0<=i/\i<p)):BO ⟨p,f,k⟩ i≠1:=by
 unfold BO
 grind
theorem Q2p(hV:AC w S q v')(hF:∀W,AB (AD S w) w W->Fwd W F f n B fr L)(c:EK v rs L fr tp)(hj:j<L.length)(hp:Pkd v v' L fr (sizes (L.take j))):
  Calls prog 145 #[pP q,pP f,iI (L[j].1:Nat),iI (L[j].2:Nat)] w (Qp6 w S q v L fr (sizes (L.take j)+L[j].2)):=by
 obtain⟨p,ff,k,hh,hs,hz⟩:=c.hd hj;have Yi:=c.le hj;have Ys:=(c.inn _ (μ hj)).2;have htpn:=c.tpn;have hn2:=c.ok.n2;have Xl:=hp.hdr c hj;rw[hh]at Xl;obtain⟨A,hA⟩:∃A,A=L[j].1:=⟨_,rfl⟩;obtain⟨Z,hZ⟩:∃Z,Z=L[j].2:=⟨_,rfl⟩;obtain⟨K,hK⟩:∃K,K=sizes (L.take j):=⟨_,rfl⟩
 have Yy:Hid (toV L fr (A:Nat)=((fr+K:Nat):Int)):=⟨by
  rw[hA,hK];have h1:=(c.mks.mkd.good.sz _ (μ hj)).1;have:=(RU c.mks.mkd.good (base:=fr) hj (a:=((L[j].1:Nat):Int)) Ω Ω).1;rw[this];push_cast
  omega⟩
 have HV:=hV.cut;have HF:=hF;have HC:=ι c;have HJ:=ι hj;have Xd:=ι (ψ hA (ψ hZ hK));have HP:=ι hp;have HH:Hid (v.rdH (A:Nat)=⟨p,ff,k⟩):=⟨by rw[hA];exact hh⟩;have Xi:=ι (λ(W:World) (g:Gr w W)=>PC (HV.gr g) (A:Int));rw[<-hA]at Xl;rw[Xl.1,Xl.2]at Xi;have Xp:=ι (λ(W:World) (t:AB (AD S w) w W)=>QR (hF W t) (A:Int));rw[Yy.o]at Xp;obtain⟨te,Yf⟩:∃te,te=toE L (A:Int):=⟨_,rfl⟩;rw[<-Yf]at Xp;have Xm:=ι (λ(W:World) (i:Int)=>U8 hs i W);have Xj:=ι (λW=>Rec.new W 72 [iI p,iI ff,iI k]);simp only[List.toArray]at Xj;unfold AJ at Xi Xm;unfold spV at Xi;have Yx:Hid (∀m,m<Z->(IP v L fr L).getD (K+m) 0=pkW v L fr A m):=⟨λm hm=>by rw[hK,hA];exact Ywe v L fr L hj (by rw[<-hZ];exact hm)⟩;rw[<-hA]at Yi Ys;rw[<-hZ]at Ys hz;rw[<-hK]at Yi HP;rw[<-hA,<-hZ,<-hK];clear hV hF c hp hh hA hZ hK Xl Yf hz;go_enter func145,ntmps145;go_upto_region 1 with(go_at_call 104;refine(Xi.o _ (Gr.refl w)).mono ?_;rintro e w1 ⟨rfl,Yn⟩;have Ya:=ι Yn;clear Yn);obtain⟨w2,Xu⟩:∃w2,w2=w1.alloc (.cells #[.int .i64 p,.int .i64 ff,.int .i64 k] 72):=⟨_,rfl⟩;have R2:=Xj.o w1;obtain⟨hq,Yq⟩:∃hq,hq=w1.heap.size:=⟨_,rfl⟩;have Xz:Hid (¬AD S w hq):=⟨λh=>by have:=h.2;have:=Ya.o.size;omega⟩;have Yj:Gr w w2:=by rw[Xu];exact Ya.o.alloc _
 rw[<-Yq]at R2⊢;rw[<-Xu]at R2⊢;have Yp:=ι R2;have Xx:=ι Yj;clear Xu Yq Ya R2 Yj Xj Xi;go_upto_region 2 with(go_at_call 147;refine(Xp.o _ (Xx.o.touch _)).mono ?_;rintro e w3 ⟨rfl,Xy⟩;have Yr:=ι (Yp.o.gr Xy);have Yc:=ι (Xx.o.trans Xy);clear Xy);have Yh:=ι (HV.gr Yc.o);have Yg:Hid (AB (AD S w) w w3):=⟨Yc.o.touch _⟩;clear Xx Yp Xp Yc;go_wp2_with(fail)
 go_loopw [31] (λs31 wr=>∃(i:Nat) (vx:Vm),i<=Z/\Hid (AC wr (AD S w) q vx/\Pkd v vx L fr (K+i))/\Hid (AB (AD S w) w wr)/\Hid (Rec wr hq 72 [iI p,iI ff,iI k])/\s31=iI i) (λs31 _=>Z-(intOf s31).toNat)
 case atStart=>exact⟨0,v',ζc _,⟨⟨Yh.o,HP.o⟩⟩,Yg,Yr,rfl⟩
 case round=>
  obtain⟨i,vx,hi,V,Xk,Y,rfl⟩:=hrel;clear Yh Yg Yr;by_cases Xv:i<Z
  ·have hiI:(i:Int)<(Z:Int):=Ω
   have Xb:=ι Xv;have Ym:(A:Int)+(i:Int)=((A+i:Nat):Int):=by push_cast;rfl
   have Yl:((fr+K:Nat):Int)+(i:Int)=((fr+(K+i):Nat):Int):=by push_cast;omega
   have Xe:=Pkd.src (m:=i) HC.o HJ.o (by rw[<-Xd.o.2.2];exact V.o.2);rw[<-Xd.o.1]at Xe;have Xc:=ι (JN V.o.1 ((A+i:Nat):Int));rw[Xe.1,Xe.2]at Xc;obtain⟨el,Yo⟩:∃el,el=v.ldE ((A+i:Nat):Int):=⟨_,rfl⟩;rw[<-Yo]at Xc;have Yw:Hid (v.ldV ((A+i:Nat):Int)<18446744073709551616):=⟨HC.o.ok.ldV_lt _⟩;have Xw:Hid (pkW v L fr A i<18446744073709551616):=⟨by rw[Xd.o.1];exact HC.o.pkW_lt HJ.o⟩
   have Yk:Hid (1<=i->i<=p->v.ldV ((A+i:Nat):Int)<=2147483647/\(v.ldV ((A+i:Nat):Int)≠0->Hs L (v.ldV ((A+i:Nat):Int):Nat))):=⟨λh1 h2=>by
    rw[Xd.o.1]
    exact HC.o.ptr HJ.o h1 (by rw[<-Xd.o.1,HH.o];show (i:Int)<=(p:Int);omega)⟩
   have Yd:Hid (∀(W:World),AB (AD S w) wr W->AC W (AD S w) q vx->∀y:Nat,y=pkW v L fr A i->Calls prog 169 #[pP q,iI (((fr+K:Nat):Int)+(i:Int)),uU y] W λe w'=>∃er,e=.returned (iI er)/\AB (AD S w) W w'/\∃v'',AC w' (AD S w) q v''/\Pkd v v'' L fr (K+(i+1))):=⟨λW t hW y hy=>by
    rw[Yl];refine(KU hW _ (x:=y) (by rw[hy];exact Xw.o)).mono ?_;rintro e w' ⟨rfl,ht,hv⟩;refine⟨_,rfl,ht,_,hv,?_⟩
    have:=V.o.2.step (HC.o.lds _ Ω (by
     have h1:=(HC.o.sz HJ.o).2;rw[<-Xd.o.2.1,<-Xd.o.2.2]at h1
     omega)) (x:=y) (by rw[hy];exact(Yx.o i Xb.o).symm) (by rw[hy];exact Xw.o)
    exact this⟩
   have Xt:Hid (∀(W:World) (a:Int),AB (AD S w) wr W->Hs L a->∃y:Nat,toV L fr a=(y:Int)/\Calls prog 147 #[pP f,iI a] W λe w'=>∃er,e=.returned (.tuple #[iI y,iI er])/\Gr W w'):=⟨λW a t ha=>by
    obtain⟨j',hj',-,e⟩:=ZP HC.o ha;refine⟨fr+sizes (L.take j'),e,?_⟩;have:=QR (HF W (Xk.o.trans t)) a;rw[e]at this;refine this.mono ?_;rintro e w' ⟨rfl,hg⟩
    exact⟨_,rfl,hg⟩⟩
   have Xo:Hid (pkW v L fr A i=if (1<=i/\(i:Int)<=(p:Int))/\v.ldV ((A+i:Nat):Int)≠0 then (toV L fr (v.ldV ((A+i:Nat):Int):Nat)).toNat else v.ldV ((A+i:Nat):Int)):=⟨by rw[WW v L fr A i rfl,HH.o]⟩;obtain⟨x,hx⟩:∃x,x=v.ldV ((A+i:Nat):Int):=⟨_,rfl⟩;rw[<-hx]at Xc Yw Yk Xo;rw[<-Ym]at Xc;clear Ym Yl Xe hx Xv Yo;have Yz:(i:Int)-1=((i:Int)-1):=rfl;clear Yz;have hib:(i:Int)<=524288:=Ω
   by_cases Xa:1<=i/\i<=p
   ·have Xq:Hid (BO ⟨p,ff,k⟩ ((i:Int)-1)=1):=⟨QP Ω (by show (i:Int)-1<(p:Int);omega) (by show (p:Int)<CE ⟨p,ff,k⟩;rw[show CE ⟨p,ff,k⟩=1+(p:Int)+ff+k from θ (EQ hs)];omega)⟩;obtain⟨Xs,Xr⟩:=Yk.o Xa.1 Xa.2;by_cases Xf:x=0
    ·subst Xf;have HY:Hid (0=pkW v L fr A i):=⟨by rw[Xo.o,φ (λh=>h.2 rfl)]⟩;clear Xa Xs Xr
     go_wp2_with(first
      | (go_at_call 190;refine Xc.o.mono ?_;rintro e w4 ⟨rfl,X⟩;have y0:=(Y.o.gr X).cell (j:=0) rfl;have y1:=(Y.o.gr X).cell (j:=1) rfl;have y2:=(Y.o.gr X).cell (j:=2) rfl;have yl:=(Y.o.gr X).lt;have Xg:=ι X;clear X)
      | (go_at_call 191;refine(Xm.o _ _).mono ?_;rintro e w5 ⟨rfl,I⟩;rw[Xq.o];have J:=ι (Xg.o.trans I);clear I)
      | (go_at_call 169;refine(Yd.o _ ((J.o).touch _) (V.o.1.gr (J.o)) 0 HY.o).mono ?_;rintro e w7 ⟨er,rfl,O,v7,E,G⟩;have N:=ι O;have Xh:=ι (ψ E G);clear O E G))
     go_round
     case rel=>exact⟨i+1,v7,Xb.o,Xh,⟨(Xk.o.trans ((J.o).touch _)).trans N.o⟩,⟨(Y.o.gr (J.o)).touch N.o Xz.o⟩,by go_num⟩
     case measure=>have:=Xb.o;simp[intOf];omega
    ·obtain⟨y,hy,-⟩:=Xt.o wr (x:Int) (AB.refl _ _) (Xr Xf);have HY:Hid (y=pkW v L fr A i):=⟨by rw[Xo.o,θ ⟨⟨Xa.1,by omega⟩,Xf⟩,hy];rfl⟩
     have Yu:Hid (∀(W:World),AB (AD S w) wr W->Calls prog 147 #[pP f,iI (x:Nat)] W λe w'=>∃er,e=.returned (.tuple #[iI y,iI er])/\Gr W w'):=⟨λW t=>by
      obtain⟨y',Za,h⟩:=Xt.o W (x:Int) t (Xr Xf);rw[hy]at Za;obtain rfl:y=y':=Ω
      exact h⟩
     have Yv:Hid (y<18446744073709551616):=⟨by rw[HY.o];exact Xw.o⟩;have hwy:IntKind.u64.wrap (y:Int)=(y:Int):=by have:=Yv.o;rw[ξp];omega
     have hwx:IntKind.i64.wrap (x:Int)=(x:Int):=ζu _ Ω;have d2:((x:Int) !=0)=true:=by simp;exact Xf
     clear Xa Xs Xr Xf hy
     go_wp2_with(first
      | (go_at_call 190;refine Xc.o.mono ?_;rintro e w4 ⟨rfl,X⟩;have y0:=(Y.o.gr X).cell (j:=0) rfl;have y1:=(Y.o.gr X).cell (j:=1) rfl;have y2:=(Y.o.gr X).cell (j:=2) rfl;have yl:=(Y.o.gr X).lt;have Xg:=ι X;clear X)
      | (go_at_call 191;refine(Xm.o _ _).mono ?_;rintro e w5 ⟨rfl,I⟩;rw[Xq.o];have J:=ι (Xg.o.trans I);clear I)
      | (go_at_call 147;refine(Yu.o _ (J.o.touch _)).mono ?_;rintro e w6 ⟨er6,rfl,Yt⟩;have Xn:=ι (J.o.trans Yt);clear Yt)
      | (go_at_call 169;refine(Yd.o _ ((Xn.o).touch _) (V.o.1.gr (Xn.o)) y HY.o).mono ?_;rintro e w7 ⟨er,rfl,O,v7,E,G⟩;have N:=ι O;have Xh:=ι (ψ E G);clear O E G))
     go_round
     case rel=>exact⟨i+1,v7,Xb.o,Xh,⟨(Xk.o.trans ((Xn.o).touch _)).trans N.o⟩,⟨(Y.o.gr (Xn.o)).touch N.o Xz.o⟩,by go_num⟩
     case measure=>have:=Xb.o;simp[intOf];omega
   ·obtain⟨kd,Yb⟩:∃kd,kd=BO ⟨p,ff,k⟩ ((i:Int)-1):=⟨_,rfl⟩;have Xq:Hid (BO ⟨p,ff,k⟩ ((i:Int)-1)=kd):=⟨Yb.symm⟩;have Ye:kd≠1:=by rw[Yb];exact VgZ (λh=>Xa ⟨by omega,by omega⟩)
    have d1:(kd==1)=false:=by simpa using Ye
    have HY:Hid (x=pkW v L fr A i):=⟨by rw[Xo.o,φ (λh=>Xa ⟨h.1.1,by have:=h.1.2;omega⟩)]⟩;clear Xa Yb Ye
    go_wp2_with(first
     | (go_at_call 190;refine Xc.o.mono ?_;rintro e w4 ⟨rfl,X⟩;have y0:=(Y.o.gr X).cell (j:=0) rfl;have y1:=(Y.o.gr X).cell (j:=1) rfl;have y2:=(Y.o.gr X).cell (j:=2) rfl;have yl:=(Y.o.gr X).lt;have Xg:=ι X;clear X)
     | (go_at_call 191;refine(Xm.o _ _).mono ?_;rintro e w5 ⟨rfl,I⟩;rw[Xq.o];have J:=ι (Xg.o.trans I);clear I)
     | (go_at_call 169;refine(Yd.o _ ((J.o).touch _) (V.o.1.gr (J.o)) x HY.o).mono ?_;rintro e w7 ⟨er,rfl,O,v7,E,G⟩;have N:=ι O;have Xh:=ι (ψ E G);clear O E G))
    go_round
    case rel=>exact⟨i+1,v7,Xb.o,Xh,⟨(Xk.o.trans ((J.o).touch _)).trans N.o⟩,⟨(Y.o.gr (J.o)).touch N.o Xz.o⟩,by go_num⟩
    case measure=>have:=Xb.o;simp[intOf];omega
  ·obtain rfl:i=Z:=Ω
   clear Xv;go_wp2;refine ζt (ζk rfl _ _ _) rfl ?_;exact⟨rfl,Xk.o,vx,V.o.1,V.o.2⟩
end
def G4(n fr tp room:Int):Bool:=decide (1<=fr)&&decide (fr<=tp)&&decide (tp<=n)&&decide (1<=room)&&decide (room<=4096)
theorem RL{n fr tp:Int}:G4 n fr tp room=true↔1<=fr/\fr<=tp/\tp<=n/\1<=room/\room<=4096:=by
 unfold G4
 grind
theorem PD{n fr tp:Int}(h:¬(1<=fr/\fr<=tp/\tp<=n/\1<=room/\room<=4096)):G4 n fr tp room=false:=by
 cases hb:G4 n fr tp room with
 | false=>rfl
 | true=>exact absurd (RL.1 hb) h
theorem ZdZ(rv:Value)(fr tp room:Int)(w:World):cQ 140 #[.pointer none,rv,iI fr,iI tp,iI room] w (iI 9):=by
 go_enter func140,ntmps140;go_wp2_with(go_at_call 47;refine(Jus _).mono ?_;rintro e w1 ⟨rfl,rfl⟩);go_ret;exact⟨rfl,rfl⟩
theorem JGL(hV:AC w S q v)(hn:v.n≠0)(hR:AS w r g rs)(fr tp room:Int):cQ 140 #[pP q,pP r,iI fr,iI tp,iI room] w (iI (if G4 v.n fr tp room then 0 else 5)):=by
 have X:=(I9 hV);have Z:=(WU hR);have Y:rs.length≠0:=λe=>hR.ne (ζw e);obtain⟨l,hl⟩:∃l,l=rs.length:=⟨_,rfl⟩;obtain⟨n,J⟩:∃n,n=v.n:=⟨_,rfl⟩;rw[<-hl]at Z Y;rw[<-J]at X hn⊢;have d0:((n:Int)==0)=false:=by simp;exact hn
 have d9:((l:Int)==0)=false:=by simp;exact Y
 obtain⟨z,hz⟩:∃z:Int,z=if G4 n fr tp room then 0 else 5:=⟨_,rfl⟩
 rw[<-hz];have HZ:=ι hz;clear hR hl J hn Y hz;go_enter func140,ntmps140
 go_upto_region 3 with(first
  | (go_at_call 47;refine X.mono ?_;rintro e w1 ⟨rfl,rfl⟩)
  | (go_at_call 155;refine Z.mono ?_;rintro e w1 ⟨rfl,rfl⟩))
 by_cases h1:fr<1
 ·have HE:=(PD (n:=n) (fr:=fr) (tp:=tp) (room:=room) Ω);go_wp2;go_ret;exact⟨AM (by rw[HZ.o,HE];rfl),rfl⟩
 ·by_cases h2:tp<fr
  ·have HE:=(PD (n:=n) (fr:=fr) (tp:=tp) (room:=room) Ω);go_wp2;go_ret;exact⟨AM (by rw[HZ.o,HE];rfl),rfl⟩
  ·by_cases h3:(n:Int)<tp
   ·have HE:=(PD (n:=n) (fr:=fr) (tp:=tp) (room:=room) Ω);go_wp2_with(go_at_call 47;refine X.mono ?_;rintro e w1 ⟨rfl,rfl⟩);go_ret;exact⟨AM (by rw[HZ.o,HE];rfl),rfl⟩
   ·by_cases h4:room<1
    ·have HE:=(PD (n:=n) (fr:=fr) (tp:=tp) (room:=room) Ω);go_wp2_with(go_at_call 47;refine X.mono ?_;rintro e w1 ⟨rfl,rfl⟩);go_ret;exact⟨AM (by rw[HZ.o,HE];rfl),rfl⟩
    ·by_cases h5:4096<room
     ·have HE:=(PD (n:=n) (fr:=fr) (tp:=tp) (room:=room) Ω);go_wp2_with(go_at_call 47;refine X.mono ?_;rintro e w1 ⟨rfl,rfl⟩);go_ret;exact⟨AM (by rw[HZ.o,HE];rfl),rfl⟩
     ·have HE:=((RL (n:=n) (fr:=fr) (tp:=tp) (room:=room)).2 Ω);go_wp2_with(go_at_call 47;refine X.mono ?_;rintro e w1 ⟨rfl,rfl⟩);go_ret;exact⟨AM (by rw[HZ.o,HE];rfl),rfl⟩
theorem YsB(o:Ob)(f t:Int):0<=C4 o f t:=by unfold C4;omega
theorem VT(L:List Ob)(f t:Int):0<=AZ L f t:=by
 induction L with
 | nil=>exact ψi _
 | cons o r ih=>have:=YsB o f t;show 0<=C4 o f t+AZ r f t;omega
theorem JQq(hg:∀o∈L,1<=o.2/\o.1+o.2<=n):AZ L tp n=0↔∀o∈L,o.1+o.2<=tp:=by
 induction L with
 | nil=>exact⟨(λ_ _ h=>by cases h),λ_=>rfl⟩
 | cons o r ih=>
  have h1:=YsB o tp n;have h2:=VT r tp n;have h3:=hg o (ζh ..);have ih:=ih (λq hq=>hg q (ζl _ hq));have e:AZ (o :: r) tp n=C4 o tp n+AZ r tp n:=rfl;constructor
  ·intro h q hq;rcases ζD.1 hq with rfl|hq
   ·have h4:C4 q tp n=0:=Ω
    unfold C4 at h4;omega
   grind
  ·intro h;have h4:=ih.2 (λq hq=>h q (ζl _ hq));have h5:=h o (ζh ..);have h6:C4 o tp n=0:=by unfold C4;omega
   omega
theorem XAy{o:Ob}{r:List Ob}(hg:AP n (o :: r))(h:fr<=o.1):∀q∈o :: r,fr<=q.1:=λq hq=>by
 rcases ζD.1 hq with rfl|hq
 ·exact h
 ·have:=(ξd.1 hg.pw).1 q hq;omega
def FC(v:Vm)(rs:List Int)(fr tp:Int)(L:List Ob):Prop:=BK v rs v.n L/\∀o∈L,fr<=(o.1:Int)/\(o.1:Int)+o.2<=tp
def Zt3(w:World)(S:Nat->Prop)(q:Nat)(v:Vm)(rs:List Int)(fr tp:Nat)(e:Ending)(w':World):Prop:=
 AB S w w'/\AC w' (AD S w) q v ∧
  ((∃L m p1 b1 p2 b2,FC v rs fr tp L/\e=.returned (.tuple #[pP m,iI 0])/\Ext w' m p1 b1 p2 b2 v.n L/\w.heap.size<=m/\w.heap.size<=p1/\w.heap.size<=b1/\w.heap.size<=p2/\w.heap.size<=b2) ∨
   ((∀L,¬FC v rs fr tp L)/\e=.returned (.tuple #[.pointer none,iI 25])))
theorem Jf0(hV:AC w S q v)(hn:v.n≠0)(hR:AS w r g rs)(hT:AQ w)(htS:¬S 1)(fr tp room:Nat)(htp:tp<=v.n)(hr1:1<=room)(hr2:room<=4096):
  Calls prog 141 #[pP q,pP r,iI fr,iI tp,iI room] w (Zt3 w S q v rs fr tp):=by
 have HV:=hV.cut;have HR:=hR;have HT:=hT;have Yc:=htS;have Ym:=hV.ok.n2;have htl:=hT.lt;have HX:=(λW=>OF v.n Ω Ω W);have Xt:=hR.le;have Yd:=(λ(W:World) (g:Gr w W)=>I9 (HV.gr g));have Yn:=Xt;obtain⟨n,Xd⟩:∃n,n=v.n:=⟨_,rfl⟩;have X:=ι Xd;rw[<-Xd]at HX Yd htp Ym;clear hV hR hT htS hn Xt Xd;go_enter func141,ntmps141
 go_upto_region 2 with(first
  | (go_at_call 47;refine(Yd _ (Gr.refl w)).mono ?_;rintro e w1 ⟨rfl,rfl⟩)
  | (go_at_call 46;refine(HX _).mono ?_;rintro e w3 ⟨m,p1,b1,p2,b2,rfl,Ya,Yh,Yg,Yb,Xn,Yj,Xv⟩;have Xj:=ι Ya;have E:=ι Yh;have HB:=ι (ψ Yg (ψ Yb (ψ Xn (ψ Yj Xv))));clear Ya Yh Yg Yb Xn Yj Xv))
 have Xa:Hid (∀i,AN m b1 b2 i->w.heap.size<=i/\i<w3.heap.size):=⟨λi hi=>by
  have h1:=E.o.hm;have h2:=E.o.v1.hb;have h3:=E.o.v2.hb;have h4:=HB.o
  rcases hi with rfl|rfl|rfl <;> omega⟩
 have Xw:=ι (λ(W:World) (g:Gr w3 W)=>SJ (HR.gr (Xj.o.trans g)))
 have Xr:Hid (∀(W:World) (g1 cp:Nat),Gr w3 W->w3.heap.size<=g1->W.ownsRow 0 3 1 (.slice (some ⟨g1,0,none⟩) rs.length cp) rs.length (zs rs)->Calls prog 48 #[.iface 78 (pP q),.slice (some ⟨g1,0,none⟩) rs.length cp,pP m,iI room] W λe w'=>
   AB (λi=>AN m b1 b2 i\/AD S w i) W w'/\AC w' (AD S w) q v/\((∃(L:List Ob) (rv vi:Int),e=.returned (.tuple #[.agg #[iI (L.length:Nat),iI (sizes L:Nat),iI rv,iI vi],iI 0])/\Ext w' m p1 b1 p2 b2 n L/\BK v rs n L)\/(e=.returned (.tuple #[.agg #[iI 0,iI 0,iI 0,iI 0],iI 25])/\¬CH v rs n))):=⟨λW g1 cp hg hg1 ho=>by
  have Yf:=Xj.o.trans hg;refine(VZ (HV.gr Yf) (E.o.gr hg) (Yf.tab HT.lt HT) (λi hi=>?_) (by unfold maxLen;have:=Yn;omega) (λi hi h=>by have:=(Xa.o i h).1;have:=hi.2;omega) (λh=>by have:=h.2;have:=HB.o;omega) (λh=>by have:=h.2;have:=HB.o;omega) (λh=>Yc h.1) (λh=>by have:=(Xa.o _ h).1;have:=HT.lt;omega) (room:Int)).mono ?_
  ·exact⟨g1,0,rfl,(BE ho rfl).2,λh=>by have:=(Xa.o _ h).2;omega,by rw[ξq];exact BP ho (LW hi)⟩
  ·rintro e w' (⟨h,-⟩|⟨-,-,ht,hv,(⟨L,r',vi,rfl,he,hm,-⟩|⟨rfl,-,hs⟩)⟩)
   ·omega
   ·exact⟨ht,hv,.inl ⟨L,r',vi,rfl,he,hm⟩⟩
   ·exact⟨ht,hv,.inr ⟨rfl,hs⟩⟩⟩
 have Ys:Hid (∀W1 W2,Gr w3 W1->AB (λi=>AN m b1 b2 i\/AD S w i) W1 W2->AB S w W2):=⟨λW1 W2 h1 h2=>((Xj.o.trans h1).touch _).trans' h2 (λb hb h=>h.elim (λh=>by have:=(Xa.o b h).1;omega) (λh=>h.1))⟩
 go_upto_region 3 with(first
  | (go_at_call 49;refine(Xw.o _ (Gr.refl w3)).mono ?_;rintro e w4 ⟨g1,c1,rfl,Yk,Xp,Xx⟩;have Xq:=ι Yk;have Yl:=ι Xx;have Yq:=ι Xp;clear Yk Xx Xp)
  | (go_at_call 48;refine(Xr.o _ g1 c1 Xq.o Yq.o Yl.o).mono ?_;rintro e w5 ⟨Xz,Xo,(⟨L,rv,vi,rfl,Yi,Xm⟩|⟨rfl,Xs⟩)⟩ <;> (have Xl:=ι (Ys.o _ _ Xq.o Xz);have Ye:=ι Xo;clear Xz Xo)))
 ·have Xb:=ι Xm;have HZ:Hid (w.heap.size<=w5.heap.size):=⟨Xl.o.size⟩;obtain⟨w6,Xh⟩:∃w6,w6=w5.alloc (.cells #[.int .i64 (L.length:Nat),.int .i64 (sizes L:Nat),.int .i64 rv,.int .i64 vi] 97):=⟨_,rfl⟩;have Xc:Gr w5 w6:=by rw[Xh];exact(Gr.refl w5).alloc _
  have O:=ι (Yi.gr Xc);have I:Hid (AB S w w6):=⟨Xl.o.trans (Xc.touch _)⟩;have V:=ι (Ye.o.gr Xc);have Xu:Hid (AQ w6):=⟨HT.touch' I.o Yc⟩;rw[<-Xh];have Z:=ι (I9 V.o);rw[<-X.o]at Z;have Xy:=ι (λ(f:Int) (t:Int) (hf:f<=9223372036854775807) (ht:-9223372036854775808<=t)=>QS1 O.o Xu.o f t hf ht);have Y:=ι (L3 O.o Xu.o 0);clear Xh Xc Yi Xm;cases L with
  | nil=>
   rw[L7 (by simp)]at Y;have J:=ι (Xy.o tp n Ω Ω);rw[show AZ [] (tp:Int) (n:Int)=0 from rfl]at J
   go_wp2_with(first
    | (go_at_call 183;refine Y.o.mono ?_;rintro e w7 ⟨rfl,rfl⟩)
    | (go_at_call 47;refine Z.o.mono ?_;rintro e w7 ⟨rfl,rfl⟩)
    | (go_at_call 184;refine J.o.mono ?_;rintro e w7 ⟨rfl,rfl⟩))
   go_ret2;exact⟨I.o,V.o,.inl ⟨[],m,p1,b1,p2,b2,⟨by rw[<-X.o];exact Xb.o,λ_ h=>by cases h⟩,BL rfl rfl,by rw[<-X.o];exact O.o,HB.o⟩⟩
  | cons o rr=>
   have Xe:A9 (o :: rr) 0=0:=L8 (ζc _) (λi _ h=>absurd h (ζC _)) (λ_=>by omega);rw[Xe,NZ (by simp)]at Y;simp only[ψp]at Y;have hg:=O.o.good;obtain⟨os,G⟩:∃os,os=o.1:=⟨_,rfl⟩;obtain⟨oz,Xk⟩:∃oz,oz=o.2:=⟨_,rfl⟩;rw[<-G,<-Xk]at Y;have Yr:=ι G;have HGD:=ι hg;by_cases N:os<fr
   ·have e1:decide ((os:Int)<(fr:Int))=true:=ξ Ω;have e9:decide (os<fr)=true:=ξ N;have Yo:=ι N;clear N G Xk hg Xe;go_wp2_with(go_at_call 183;refine Y.o.mono ?_;rintro e w7 ⟨rfl,rfl⟩);go_ret2;refine⟨I.o,V.o,.inr ⟨λL' h=>?_,BL rfl rfl⟩⟩;have h1:=h.1;rw[<-X.o]at h1;have e:=h1.unique Xb.o;subst e;have:=(h.2 o (ζh ..)).1;have:=Yr.o;have:=Yo.o;omega
   ·have e1:decide ((os:Int)<(fr:Int))=false:=ζ Ω;have e9:decide (os<fr)=false:=ζ N;have Yt:=ι (XAy hg (fr:=fr) Ω);have Xi:=ι (JQq (tp:=tp) hg.sz);have J:=ι (Xy.o tp n Ω Ω);obtain⟨ov,Xf⟩:∃ov,ov=AZ (o :: rr) (tp:Int) (n:Int):=⟨_,rfl⟩;have hov0:0<=ov:=by rw[Xf];exact VT _ _ _
    rw[<-Xf]at J Xi;clear N G Xk hg Xe Xf;by_cases hz:ov=0
    ·have e2:decide (0<ov)=false:=ζ Ω;have Xg:=ι hz;clear hz
     go_wp2_with(first
      | (go_at_call 183;refine Y.o.mono ?_;rintro e w7 ⟨rfl,rfl⟩)
      | (go_at_call 47;refine Z.o.mono ?_;rintro e w7 ⟨rfl,rfl⟩)
      | (go_at_call 184;refine J.o.mono ?_;rintro e w7 ⟨rfl,rfl⟩))
     go_ret2;refine⟨I.o,V.o,.inl ⟨o :: rr,m,p1,b1,p2,b2,⟨by rw[<-X.o];exact Xb.o,λq hq=>?_⟩,BL rfl rfl,by rw[<-X.o];exact O.o,HB.o⟩⟩;have:=Yt.o q hq;have:=Xi.o.1 Xg.o q hq;omega
    ·have e2:decide (0<ov)=true:=ξ Ω;have Xg:=ι hz;clear hz
     go_wp2_with(first
      | (go_at_call 183;refine Y.o.mono ?_;rintro e w7 ⟨rfl,rfl⟩)
      | (go_at_call 47;refine Z.o.mono ?_;rintro e w7 ⟨rfl,rfl⟩)
      | (go_at_call 184;refine J.o.mono ?_;rintro e w7 ⟨rfl,rfl⟩))
     go_ret2;refine⟨I.o,V.o,.inr ⟨λL' h=>?_,BL rfl rfl⟩⟩;have h1:=h.1;rw[<-X.o]at h1;have e:=h1.unique Xb.o;subst e;exact Xg.o (Xi.o.2 λq hq=>by have:=(h.2 q hq).2;omega)
 ·have Yp:=ι Xs;clear Xs;go_wp2;go_ret2;refine⟨Xl.o.trans (((Gr.refl w5).alloc _).touch _),Ye.o.gr ((Gr.refl w5).alloc _),.inr ⟨λL' h=>Yp.o ?_,BL rfl rfl⟩⟩;rw[X.o];exact h.1.sound
theorem BY.ldV_all(h:BY v v' F)(hv:AE v)(ha:a<v.n):v'.ldV a=v.ldV a:=by
 rw[h.vl a ha];by_cases hf:a/v.pl.pg∈F
 ·rw[θ hf];have:v.ldE a=12:=by rw[hv.ldE_of ha,θ (h.un _ hf).2]
  unfold Vm.ldV
  simp_all
 simp_all
theorem YNw(h:AE v)(hI:FC v rs fr tp L)(h1:1<=fr)(h2:fr<=tp)(h3:tp<=v.n)(hE:BD v fr ((fr+sizes L:Nat):Int)=0)(hG:BY v v1 (BW v fr ((fr+sizes L:Nat):Int))):EK v1 rs L fr tp/\fr+sizes L<=tp:=by
 have hw:=hG.wider h;have X:∀o∈L,fr<=o.1/\o.1+o.2<=tp:=λo ho=>by have:=hI.2 o ho;omega
 have Y:fr+sizes L<=tp:=by
  rcases ζG L.length with h0|h0
  ·have:L=[]:=ζw h0;subst this
   assumption
  ·have hj:L.length-1<L.length:=Ω
   have e1:=RX hI.1.mkd.good (λo ho=>(X o ho).1) hj;have e2:=X _ (μ hj);have e3:=FF hj
   grind
 exact⟨⟨hG.ok,by rw[hG.n];exact hw.marks hI.1,X,h1,by rw[hG.n];exact h3,λa ha hb=>UR h Ω hE hG ha hb⟩,Y⟩
def I6(nt pg:Nat):Nat:=(nt+pg-1)/pg
theorem MS{nt:Nat}(hp:1<=pg):nt<=q*pg↔I6 nt pg<=q:=by
 unfold I6;have h1:=ζv (nt+pg-1) pg;have h2:=ξU (nt+pg-1) (show 0<pg by omega);constructor
 ·intro h;have h3:nt+pg-1<(q+1)*pg:=by grind
  have:=(ζ2 (show 0<pg by omega)).2 h3;omega
 ·intro h;have h3:=ζi pg h
  grind
structure GN(v:Vm)(rs:List Int)(fr tp:Nat)(L:List Ob)(v1 v2:Vm)(j:Nat):Prop where
 gr:BY v v1 (BW v fr ((fr+sizes L:Nat):Int))
 cx:EK v1 rs L fr tp
 st:Pkd v1 v2 L fr (sizes L)
 q1:∀i,i<j->(fr/v.pl.pg+i)*v.pl.pg<tp
 q2:tp<=(fr/v.pl.pg+j)*v.pl.pg
def EY(v v2:Vm)(fr nt j:Nat):Vm:=umN v2 (I6 nt v.pl.pg) (fr/v.pl.pg+j-I6 nt v.pl.pg)
def YYf(w:World)(S:Nat->Prop)(q r g:Nat)(v:Vm)(rs:List Int)(fr tp room:Int)(e:Ending)(w':World):Prop:=
 AB (λb=>b=g\/S b) w w' ∧
  ((G4 v.n fr tp room=false/\e=.returned (.tuple #[iI 0,iI 5])/\AC w' S q v/\AS w' r g rs) ∨
  (G4 v.n fr tp room=true ∧
   (((∀L,¬FC v rs fr tp L)/\e=.returned (.tuple #[iI 0,iI 25])/\AC w' S q v/\AS w' r g rs) ∨
   ∃(L:List Ob) (f t:Nat),FC v rs fr tp L/\fr=(f:Int)/\tp=(t:Int) ∧
    ((BD v f ((f+sizes L:Nat):Int)≠0/\e=.returned (.tuple #[iI 0,iI (BD v f ((f+sizes L:Nat):Int))])/\IC w' (plus S w) q v []/\AS w' r g rs) ∨
    (BD v f ((f+sizes L:Nat):Int)=0/\e=.returned (.tuple #[iI ((f+sizes L:Nat):Int),iI 0]) ∧
     ∃v1 v2 j,GN v rs f t L v1 v2 j/\AC w' (plus S w) q (EY v v2 f (f+sizes L) j)/\AS w' r g (rs.map (toV L f)))))))
section
theorem YrC(hV:AC w S q v)(f t:Nat)(ht:t<=v.n)(hft:f<=t):Calls prog 117 #[pP q,iI f,iI t] w λe w'=>e=.returned (iI (BD v f t))/\AB S w w'/\IC w' (plus S w) q v (BW v f t):=by
 rcases δ f t with h|h
 ·grind [QT]
 ·obtain rfl:f=t:=Ω
  obtain⟨e1,e2⟩:=VGS (v:=v) (f:=f) ht;rw[e1,e2];refine(ZO hV f f ht (ϑ _)).mono ?_;rintro e w' ⟨rfl,hg⟩;refine⟨rfl,hg.touch _,v,?_,(hV.gr hg).mono (λ_ h=>.inl h)⟩;exact⟨hV.ok,rfl,rfl,rfl,rfl,ξN,(λ_ h=>by cases h),(λ_ _=>by simp),λ_ _=>by simp⟩
theorem XK(hg:AP n L)(hn:n<=1048576)(base:Nat)(a:Int):0<=toV L base a:=by
 unfold toV
 split
 ·have:=(XQ hg hn a).1;omega
 omega
variable{F:Nat}
theorem XoZ(hF:Fwd w F f n B fr L)(hc:w.cell? ⟨fb,0,none⟩=some (pP f))(a:Int):Calls prog 146 #[iI a,pP fb] w λe w'=>e=.returned (iI (toV L fr a))/\Gr w w':=by
 have HT:=(QR hF a);go_enter func146,ntmps146;go_wp2_with(go_at_call 147;refine(HT).mono ?_;rintro e w1 ⟨rfl,X⟩;have HG1:=X);go_ret
 simp_all
theorem ZKw(hF:∀W,AB (λb=>b=g) w W->Fwd W F f n B fr L)(hc:w.cell? ⟨fb,0,none⟩=some (pP f))(hfb:fb≠g)(hR:AS w r g rs)(h0:toV L fr 0=0):
  Calls prog 135 #[pP r,.func (.func 146) #[] #[pP fb]] w λe w'=>e=.returned (.tuple #[])/\AB (λb=>b=g) w w'/\AS w' r g (rs.map (toV L fr)):=by
 refine(XP (F:=146) (pre:=#[]) (caps:=#[pP fb]) (λi W Z=>AB (λb=>b=g) w W/\Z=(rs.take i).map (toV L fr)) (λ_ _=>by kernel_rfl) hR ⟨AB.refl _ _,rfl⟩ ?_ ?_).mono ?_
 ·grind [IV]
 ·rintro i hi W Z ho ⟨t,e⟩ J hne W0 X;have hf:=hF W0 (t.trans (X.touch _));have V:=AT hc;have N:=((t.trans (X.touch _)).cell V hfb 0).trans hc;refine(XoZ hf N rs[i]).mono ?_;rintro e' W' ⟨rfl,Y⟩;have hb:=XK hf.good.1 hf.good.2 fr rs[i];refine⟨_,rfl,(J.gr X).gr Y,λW'' t''=>⟨((t.trans (X.touch _)).trans (Y.touch _)).trans t'',?_⟩⟩
  grind [IV,Int.max_eq_left]
 simp_all
end
def AG(L:List Ob)(i:Nat):Nat:=(EA L i).getD 0
theorem YZF(hj:j<L.length)(hm:m<L[j].2):AG L (sizes (L.take j)+m)=L[j].1+m:=by
 unfold AG;grind [XEK]
theorem NS(h:i<sizes L):∃hj:B7 L i<L.length,∃m,m<(L[B7 L i]'hj).2/\i=sizes (L.take (B7 L i))+m/\AG L i=(L[B7 L i]'hj).1+m:=by
 obtain⟨hj,m,h1,h2,h3⟩:=VBJ h;exact⟨hj,m,h1,h2,by unfold AG;rw[h3];rfl⟩
theorem Y3d:IW L (i:Int)=(AG L i:Int):=by
 unfold IW AG
 grind
theorem L5{base:Nat}(h:i<sizes L):CQ L base ((base+i:Nat):Int)=(AG L i:Int)/\F4 L base ((base+i:Nat):Int)=0:=by
 have X:inF L base ((base+i:Nat):Int)=true:=FH.2 Ω;unfold CQ F4;rw[X,θ rfl,θ rfl,show ((base+i:Nat):Int)-(base:Int)=(i:Int)by omega]
 grind [Y3d]
theorem YYc(hg:AP n L)(hik:i<k)(hk:k<sizes L):AG L i<AG L k:=by
 obtain⟨hj,m,h1,h2,h3⟩:=NS (L:=L) (i:=i) Ω;obtain⟨X,m',h1',h2',Y⟩:=NS hk;rw[h3,Y];rcases ζS (B7 L i) (B7 L k)with h|h|h
 ·have:=hg.at hj X h;omega
 ·grind
 ·have e1:=FF (L:=L) X
  have e2:sizes (L.take (B7 L k+1))<=sizes (L.take (B7 L i)):=by
   have:L.take (B7 L k+1)=(L.take (B7 L i)).take (B7 L k+1):=by grind
   grind [Zut]
  omega
theorem Z8c(hf:∀o∈L,fr<=o.1/\o.1+o.2<=tp)(hi:i<sizes L):fr<=AG L i/\AG L i<tp:=by
 obtain⟨hj,m,h1,h2,h3⟩:=NS hi
 grind
theorem QFu(hg:AP n L)(hi:i<sizes L):A1 L (AG L i:Nat)=B7 L i:=by
 obtain⟨hj,m,h1,h2,h3⟩:=NS hi;obtain⟨j,X,e1,e2,e3,e4,-⟩:=Zeb hg (base:=((0:Nat):Int)) (b:=(i:Int)) (FH.2 Ω);have hs:=(L5 (base:=0) hi).1;rw[ξq]at hs;rw[hs]at e2 e3 e4
 have:B7 L i=j:=by
  rcases hg.disj (μ hj) (μ X)with e|e|e
  ·rcases ζS (B7 L i) j with h|h|h
   ·have:=hg.at hj X h;omega
   ·exact h
   ·have:=hg.at X hj h;omega
  ·omega
  ·omega
 omega
def cvH(L:List Ob)(tb:Nat)(h:Hdr)(m x:Nat):Nat:=if (1<=m/\(m:Int)<=h.p)/\x≠0 then (toV L tb (x:Nat)).toNat else x
structure Sl where
 n:Nat
 pg:Nat
 cf:Cf
 L:List Ob
 hd:Nat->Hdr
 c:Nat->Nat
 mv:List Bool
variable{s:Sl}
def Sl.mvd(s:Sl):Nat:=cnt (at_ s.mv) s.mv.length
def Sl.ft(s:Sl):Nat:=first (λk=>!at_ s.mv k) s.mv.length
def Sl.lf(s:Sl):Nat:=s.mv.length-s.mvd
def Sl.is(s:Sl)(i:Nat):Bool:=at_ s.mv (i/s.cf.bk)
def Sl.off(s:Sl)(i:Nat):Nat:=i-sizes (s.L.take (B7 s.L i))
def Sl.hdr(s:Sl)(i:Nat):Hdr:=s.hd (s.L.getD (B7 s.L i) (0,0)).1
def Sl.cv(s:Sl)(i x:Nat):Nat:=cvH s.L s.cf.to (s.hdr i) (s.off i) x
def Sl.ptr(s:Sl)(i:Nat):Prop:=1<=s.off i/\(s.off i:Int)<=(s.hdr i).p
structure BC(s:Sl):Prop where
 pg:1<=s.pg/\s.pg<=256
 n2:s.n<=524288
 cf:H6 s.pg s.n s.cf
 good:AP s.n s.L
 inn:∀o∈s.L,s.cf.fr<=o.1/\o.1+o.2<=s.cf.tp
 fit:s.cf.to+sizes s.L<=s.cf.lm
 hd:∀j (hj:j<s.L.length),∃p f k:Nat,s.hd s.L[j].1=⟨p,f,k⟩/\p+f+k<=255/\s.L[j].2=1+p+f+k
 len:s.mv.length=nbl (sizes s.L) s.cf.bk
theorem BC.bk(h:BC s):1<=s.cf.bk/\s.cf.bk<=1024:=by have:=DI h.cf.bk;omega
theorem BC.N_le(h:BC s):sizes s.L<=s.n:=FW h.good
theorem V6P(hp:1<=p)(hb:b%p=0)(h:a<b):a/p<b/p:=by
 have h1:=ζv b p;rw[ζ2 Ω,ζW];omega
theorem XSg(hB:1<=B):n<=upN n B/\upN n B%B=0:=by
 unfold upN;have h1:=ζv (n+B-1) B;have h2:=ξU (n+B-1) (show 0<B by omega)
 grind [ζW,Nat.mul_mod_left]
theorem BC.apart(h:BC s)(ha:s.cf.fr<=a/\a<s.cf.tp)(hb:s.cf.to<=b/\b<s.cf.lm):a/s.pg≠b/s.pg:=by
 have hu:=XSg (n:=s.cf.tp) h.pg.1
 have hn:s.cf.lm<=s.cf.fr\/upN s.cf.tp s.pg<=s.cf.to:=by
  have:=h.cf.ap;omega
 rcases hn with e|e
 ·have h1:=V6P h.pg.1 h.cf.al hb.2;have h2:=ζa (c:=s.pg) (γ e ha.1);omega
 ·have h1:=V6P (a:=a) h.pg.1 hu.2 Ω;have h2:=ζa (c:=s.pg) (γ e hb.1);omega
theorem BC.srcs(h:BC s)(hi:i<sizes s.L):s.cf.fr<=AG s.L i/\AG s.L i<s.cf.tp/\AG s.L i<s.n:=by
 have h1:=Z8c h.inn hi;have h2:=h.cf.tn;omega
theorem BC.dsts(h:BC s)(hi:i<sizes s.L):s.cf.to+i<s.cf.lm/\s.cf.to+i<s.n:=by
 have h1:=h.fit;have h2:=h.cf.ln;omega
theorem BC.obj(h:BC s)(hi:i<sizes s.L):∃j,∃hj:j<s.L.length,∃m p f k:Nat,B7 s.L i=j/\m<s.L[j].2/\i=sizes (s.L.take j)+m/\AG s.L i=s.L[j].1+m/\s.off i=m/\s.hdr i=s.hd s.L[j].1/\s.hd s.L[j].1=⟨p,f,k⟩/\p+f+k<=255/\s.L[j].2=1+p+f+k:=by
 obtain⟨hj,m,h1,h2,h3⟩:=NS hi;obtain⟨p,f,k,e1,e2,e3⟩:=h.hd _ hj;refine⟨B7 s.L i,hj,m,p,f,k,rfl,h1,h2,h3,by unfold Sl.off;omega,?_,e1,e2,e3⟩;unfold Sl.hdr
 grind
theorem BC.blk(h:BC s)(hi:i<sizes s.L):i/s.cf.bk<s.mv.length:=by
 rw[h.len,I0 h.bk.1];have:=ζj i s.cf.bk;omega
theorem BC.mv(h:BC s)(l:List Bool)(hl:l.length=s.mv.length):BC {s with mv:=l}:=
 ⟨h.pg,h.n2,h.cf,h.good,h.inn,h.fit,h.hd,hl.trans h.len⟩
theorem Xxa(L:List Ob)(tb:Nat)(a:Int):0<=toV L tb a:=by
 unfold toV
 split
 ·have:=VT L 0 a;omega
 omega
theorem BC.to_lt(h:BC s)(a:Int):toV s.L s.cf.to a<4294967296:=by
 unfold toV
 split
 ·have h1:=XQ h.good (by have:=h.n2;omega) a;have h2:=h.cf.lm;have h3:=h.cf.ln;have h4:=h.n2;omega
 ·omega
theorem BC.cv_lt(h:BC s)(i:Nat)(hx:x<18446744073709551616):s.cv i x<18446744073709551616:=by
 unfold Sl.cv cvH
 split
 ·have:=h.to_lt (x:Nat);omega
 ·exact hx
structure EG(s:Sl)(D U:Nat->Bool)(v:Vm):Prop where
 ok:AE v
 n:v.n=s.n
 pg:v.pl.pg=s.pg
 src:∀i,i<sizes s.L->U i=true->v.ldE (AG s.L i:Nat)=0/\s.cv i (v.ldV (AG s.L i:Nat))=s.c i/\(s.ptr i->v.ldV (AG s.L i:Nat)<=2147483647)
 dst:∀i,i<sizes s.L->D i=true->v.ldE ((s.cf.to+i:Nat):Int)=0/\v.ldV ((s.cf.to+i:Nat):Int)=s.c i
structure BR(s:Sl)(v:Vm):Prop where
 st:BC s
 mid:EG s s.is (λi=>!s.is i) v
def Sl.inB(s:Sl)(k i:Nat):Bool:=i/s.cf.bk==k
def Sl.lo(s:Sl)(k:Nat):Nat:=k*s.cf.bk
def Sl.hi(s:Sl)(k:Nat):Nat:=min (k*s.cf.bk+s.cf.bk) (sizes s.L)
theorem BC.inB(h:BC s)(hi:i<sizes s.L):s.inB k i=true↔s.lo k<=i/\i<s.hi k:=by
 unfold Sl.inB Sl.lo Sl.hi;have hb:=h.bk.1;have h1:=ζv i s.cf.bk;have h2:=ξU i (show 0<s.cf.bk by omega);rw[ζ1]
 grind [ζW,Nat.div_eq_of_lt_le,ξk]
theorem BC.lohi(h:BC s)(hk:k<s.mv.length):s.lo k<s.hi k/\s.hi k<=s.lo k+s.cf.bk/\s.hi k<=sizes s.L:=by
 rw[h.len,I0 h.bk.1]at hk;have:=h.bk.1;unfold Sl.lo Sl.hi;omega
theorem Sl.is_put(hk:k<s.mv.length)(i:Nat):({s with mv:=s.mv.set k true}:Sl).is i=(s.is i||s.inB k i):=by
 unfold Sl.is Sl.inB;rw[GA hk]
 grind
theorem YQS(hi:i<n):cnt (λj=>j==i) n=1:=by
 have e:cnt (λj=>j==i) n=cnt (λj=>decide (i<=j/\j<i+1)) n:=CV λj _=>by
  grind
 rw[e,SS i (i+1) n Ω Ω];omega
theorem VG{f:Nat->Bool}(hi:i<n)(h:f i=false):cnt (λj=>f j||j==i) n=cnt f n+1:=by
 rw[LX (λj=>by grind) n,YQS hi]
theorem V7q{f:Nat->Bool}(hi:i<n)(h:f i=true):cnt (λj=>f j&&!(j==i)) n+1=cnt f n:=by
 rw[<-VG (f:=λj=>f j&&!(j==i)) hi (by simp)];refine CV λj _=>?_;by_cases e:j=i
 ·simp_all
 grind
def Sl.on(s:Sl)(U:Nat->Bool)(q:Nat):Nat:=cnt (λi=>U i&&(AG s.L i/s.pg==q)) (sizes s.L)
def but(U:Nat->Bool)(i:Nat):Nat->Bool:=λj=>U j&&!(j==i)
theorem TC(h:j≠i):but U i j=U j:=by
 have e':(j==i)=false:=ζy.2 h;simp[but,e']
theorem J3l:but U i i=false:=by simp[but]
theorem Sl.on_but(hi:i<sizes s.L)(h:U i=true):s.on (but U i) q+(if AG s.L i/s.pg=q then 1 else 0)=s.on U q:=by
 unfold Sl.on but;by_cases e:AG s.L i/s.pg=q
 ·rw[θ e,<-V7q (f:=λi=>U i&&(AG s.L i/s.pg==q)) hi (by simp[h,e])]
  grind
 grind
theorem Sl.on_le(s:Sl)(U:Nat->Bool)(q:Nat):s.on U q<=sizes s.L:=EJ _ _
theorem Sl.on_zero(h:s.on U q=0)(hj:j<sizes s.L)(hU:U j=true):AG s.L j/s.pg≠q:=by
 have:=U7 h j hj
 simp_all
theorem Sl.on_pos(hj:i<sizes s.L)(hU:U i=true)(he:AG s.L i/s.pg=q):1<=s.on U q:=by
 rcases ζG (s.on U q)with h|h
 ·exact absurd he (Sl.on_zero h hj hU)
 ·exact h
theorem Sl.on_iff:s.on U q=0↔∀j,j<sizes s.L->U j=true->AG s.L j/s.pg≠q:=
 ⟨λh _ hj hU=>Sl.on_zero h hj hU,λh=>GZ λj hj=>by
  simp_all⟩
theorem Sl.on_congr(h:∀j,j<sizes s.L->U j=V j):s.on U q=s.on V q:=CV λj hj=>by rw[h j hj]
theorem EG.congr{D':Nat->Bool}(h:EG s D U v)(hD:∀i,i<sizes s.L->D' i=true->D i=true)(hU:∀i,i<sizes s.L->U' i=true->U i=true):EG s D' U' v:=
 ⟨h.ok,h.n,h.pg,λi hi hu=>h.src i hi (hU i hi hu),λi hi hd=>h.dst i hi (hD i hi hd)⟩
theorem EG.mvd(h:EG s D U v)(l:List Bool):EG {s with mv:=l} D U v:=⟨h.ok,h.n,h.pg,h.src,h.dst⟩
theorem EG.grow(hs:BC s)(h:EG s D U v)(g:BY v v1 F):EG s D U v1:=by
 refine⟨g.ok,g.n.trans h.n,g.pg.trans h.pg,λi hi hu=>?_,λi hi hd=>?_⟩
 ·obtain⟨h1,h2,h3⟩:=h.src i hi hu;have hl:=(hs.srcs hi).2.2;rw[<-h.n]at hl;rw[g.ldV_all h.ok hl,g.ldE h.ok hl]
  simp_all
 ·obtain⟨h1,h2⟩:=h.dst i hi hd;have hl:=(hs.dsts hi).2;rw[<-h.n]at hl;rw[g.ldV_all h.ok hl,g.ldE h.ok hl];omega
theorem EG.put(hs:BC s)(h:EG s D U v)(hi:i<sizes s.L)(hl:v.ldE ((s.cf.to+i:Nat):Int)=0)(hx:x=s.c i)(hx2:x<18446744073709551616):EG s (λj=>D j||j==i) U (v.st ((s.cf.to+i:Nat):Int) x):=by
 have X:=h.ok.st_ldV x hl;refine⟨h.ok.st _ hx2,(BS.st v _ x).n.trans h.n,(BS.st v _ x).pg.trans h.pg,λj hj hu=>?_,λj hj hd=>?_⟩
 ·obtain⟨h1,h2,h3⟩:=h.src j hj hu;have ha:(((s.cf.to+i:Nat):Int)≠(AG s.L j:Nat)):=λe=>hs.apart ⟨(hs.srcs hj).1,(hs.srcs hj).2.1⟩ ⟨ζM _ i,(hs.dsts hi).1⟩ (by grind);rw[FN,X,φ ha]
  simp_all
 ·rw[FN,X];by_cases e:i=j
  ·simp_all
  ·rw[φ Ω];exact h.dst j hj (by grind)
structure FR(s:Sl)(D U:Nat->Bool)(lo hi:Nat)(v1 v':Vm)(m:Nat):Prop where
 mid:EG s (λj=>D j||(decide (lo<=j)&&decide (j<lo+m))) U v'
 sm:BS v1 v'
 oth:∀a:Nat,(a<s.cf.to+lo\/s.cf.to+hi<=a)->v'.ldV a=v1.ldV a
theorem FR.zero(h:EG s D U v)(lo hi:Nat):FR s D U lo hi v v 0:=
 ⟨h.congr (λi _ hd=>by
  grind) (λ_ _ h=>h),BS.refl v,λ_ _=>rfl⟩
theorem FR.step(hs:BC s){lo hi:Nat}(h:FR s D U lo hi v1 v' m)(hm:lo+m<hi)(hhi:hi<=sizes s.L)(hl:v1.ldE ((s.cf.to+(lo+m):Nat):Int)=0)(hx:x=s.c (lo+m))(hx2:x<18446744073709551616):
  FR s D U lo hi v1 (v'.st ((s.cf.to+(lo+m):Nat):Int) x) (m+1):=by
 have X:v'.ldE ((s.cf.to+(lo+m):Nat):Int)=0:=by rw[h.sm.ldE];exact hl
 refine⟨(h.mid.put hs Ω X hx hx2).congr (λi _ hd=>?_) (λ_ _ h=>h),h.sm.trans (BS.st _ _ _),λa ha=>?_⟩
 ·grind
 ·rw[h.mid.ok.st_ldV x X,φ Ω];exact h.oth a ha
structure FD(s:Sl)(D U0 U:Nat->Bool)(v1 v':Vm):Prop where
 mid:EG s D U v'
 le:∀i,i<sizes s.L->U i=true->U0 i=true
 rm:v'.pl.rm=v1.pl.rm
 map:∀p,p<v1.pt.length->(v'.pt.getD p 0≠0↔v1.pt.getD p 0≠0/\¬ ∃i,i<sizes s.L/\U0 i=true/\U i=false/\AG s.L i/s.pg=p/\s.on U p=0)
 oth:∀a:Nat,a<s.n->(∀i,i<sizes s.L->AG s.L i/s.pg≠a/s.pg)->v'.ldV a=v1.ldV a/\v'.ldE a=v1.ldE a
theorem FD.zero(h:EG s D U v):FD s D U U v v:=
 ⟨h,λ_ _ h=>h,rfl,λp _=>⟨λh=>⟨h,λ⟨i,_,h1,h2,_⟩=>by simp_all⟩,λh=>h.1⟩,λ_ _ _=>⟨rfl,rfl⟩⟩
theorem FD.keep(h:FD s D U0 U v1 v')(hi:i<sizes s.L)(hU:U i=true)(hz:s.on (but U i) (AG s.L i/s.pg)≠0):FD s D U0 (but U i) v1 v':=by
 have X:∀j,but U i j=true->U j=true:=λj h=>by exact(ζ7.1 h).1
 refine⟨h.mid.congr (λ_ _ h=>h) (λj _ hj=>X j hj),λj hj hu=>h.le j hj (X j hu),h.rm,λp hp=>(h.map p hp).trans (and_congr_right λ_=>not_congr ?_),h.oth⟩;have Z:=λq=>Sl.on_but (s:=s) (U:=U) (i:=i) (q:=q) hi hU;constructor
 ·grind
 ·rintro⟨j,hj,h1,h2,h3,h4⟩;have J:AG s.L i/s.pg≠p:=λe=>by simp_all
  have Y:j≠i:=λe=>by simp_all
  have:=Z p;rw[φ J]at this;exact⟨j,hj,h1,by rw[TC Y]at h2;exact h2,h3,by omega⟩
theorem ZdX(h:frE v.pt (p:Int)=0)(k:Nat):(v.um (p:Int)).pt.getD k 0≠0↔v.pt.getD k 0≠0/\k≠p:=by
 unfold Vm.um
 grind
theorem FD.drop(hs:BC s)(h:FD s D U0 U v1 v')(hi:i<sizes s.L)(hU:U i=true)(hz:s.on (but U i) (AG s.L i/s.pg)=0):FD s D U0 (but U i) v1 (v'.um ((AG s.L i/s.pg:Nat):Int)):=by
 have N:∀j,but U i j=true->U j=true:=λj h=>by exact(ζ7.1 h).1
 have hk:=h.mid.ok;obtain⟨m1,m2,m3⟩:=h.mid.src i hi hU;have O:=hs.srcs hi
 have Z:frE v'.pt ((AG s.L i/s.pg:Nat):Int)=0:=by
  unfold Vm.ldE at m1;rw[θ ⟨by omega,by omega⟩,h.mid.pg]at m1;exact m1
 have J:∀a:Nat,a<s.n->a/s.pg≠AG s.L i/s.pg->(v'.um ((AG s.L i/s.pg:Nat):Int)).ldE a=v'.ldE a/\(v'.um ((AG s.L i/s.pg:Nat):Int)).ldV a=v'.ldV a:=λa ha hne=>by
  have V:a/v'.pl.pg≠AG s.L i/s.pg:=by rw[h.mid.pg];exact hne
  exact⟨by rw[hk.um_ldE Z (by rw[h.mid.n];exact ha),φ V],hk.um_ldV Z (by rw[h.mid.n];exact ha) V⟩
 have Y:(v'.um ((AG s.L i/s.pg:Nat):Int)).n=v'.n/\(v'.um ((AG s.L i/s.pg:Nat):Int)).pl.pg=v'.pl.pg/\(v'.um ((AG s.L i/s.pg:Nat):Int)).pl.rm=v'.pl.rm:=by
  unfold Vm.um
  split <;> exact⟨rfl,rfl,rfl⟩
 have I:=λq=>Sl.on_but (s:=s) (U:=U) (i:=i) (q:=q) hi hU;refine⟨⟨hk.um _,Y.1.trans h.mid.n,Y.2.1.trans h.mid.pg,λj hj hu=>?_,λj hj hd=>?_⟩,λj hj hu=>h.le j hj (N j hu),Y.2.2.trans h.rm,λp hp=>?_,λa ha hf=>?_⟩
 ·obtain⟨e1,e2⟩:=J (AG s.L j) (hs.srcs hj).2.2 (Sl.on_zero hz hj hu);rw[e1,e2];exact h.mid.src j hj (N j hu)
 ·obtain⟨e1,e2⟩:=J (s.cf.to+j) (hs.dsts hj).2 (λe=>hs.apart ⟨O.1,O.2.1⟩ ⟨ζM _ j,(hs.dsts hj).1⟩ e.symm);rw[e1,e2];exact h.mid.dst j hj hd
 ·rw[ZdX Z,h.map p hp,and_assoc];refine and_congr_right λ_=>?_;have:=I p;constructor
  ·rintro⟨g1,g2⟩ ⟨j,hj,h1,h2,h3,h4⟩;by_cases X:j=i
   ·subst X;exact g2 h3.symm
   ·rw[TC X]at h2;rw[φ (λe=>g2 e.symm)]at this;exact g1 ⟨j,hj,h1,h2,h3,by omega⟩
  ·intro g;refine⟨λ⟨j,hj,h1,h2,h3,h4⟩=>?_,λe=>?_⟩
   ·have X:j≠i:=λe=>by subst e;rw[hU]at h2;cases h2
    exact g ⟨j,hj,h1,by rw[TC X];exact h2,h3,by omega⟩
   ·subst e;exact g ⟨i,hi,h.le i hi hU,J3l,rfl,hz⟩
 ·obtain⟨e1,e2⟩:=J a ha (λe=>hf i hi e.symm);rw[e1,e2];exact h.oth a ha hf
structure MP(s:Sl)(k:Nat)(v v':Vm):Prop where
 ok:BR {s with mv:=s.mv.set k true} v'
 rm:v'.pl.rm=v.pl.rm
 map:∀p,p<v.pt.length->(v'.pt.getD p 0≠0↔(v.pt.getD p 0≠0\/((s.cf.to+s.lo k)/s.pg<=p/\p<=(s.cf.to+s.hi k-1)/s.pg))/\¬ ∃i,i<sizes s.L/\s.inB k i=true/\AG s.L i/s.pg=p/\∀j,j<sizes s.L->AG s.L j/s.pg=p->s.is j=true\/s.inB k j=true)
 oth:∀a:Nat,a<s.n->(a<s.cf.to+s.lo k\/s.cf.to+s.hi k<=a)->(∀i,i<sizes s.L->AG s.L i/s.pg≠a/s.pg)->v'.ldV a=v.ldV a/\(v.ldE a=0->v'.ldE a=0)
theorem VWG(_:AE v){t:Nat}(hft:f<t)(_ht:t<=v.n):p∈BZ v ((f:Int)/(v.pl.pg:Int)).toNat (C0 v f t)↔(f/v.pl.pg<=p/\p<=(t-1)/v.pl.pg)/\v.pt.getD p 0=0:=by
 have e1:((f:Int)/(v.pl.pg:Int)).toNat=f/v.pl.pg:=by grind
 have e2:((t:Int)-1)/(v.pl.pg:Int)=(((t-1)/v.pl.pg:Nat):Int):=by grind
 have h1:f/v.pl.pg<=(t-1)/v.pl.pg:=ζa Ω;rw[OW,e1];unfold C0;omega
theorem MP.of(h:BR s v)(hk:k<s.mv.length)(_hm:at_ s.mv k=false)(hE:BD v ((s.cf.to+s.lo k:Nat):Int) ((s.cf.to+s.hi k:Nat):Int)=0)(hG:BY v v1 (BW v ((s.cf.to+s.lo k:Nat):Int) ((s.cf.to+s.hi k:Nat):Int)))
  (hC:FR s s.is (λi=>!s.is i) (s.lo k) (s.hi k) v1 v2 (s.hi k-s.lo k))  (hD:∀i,i<sizes s.L->D i=(s.is i||s.inB k i)) (hU:∀i,i<sizes s.L->U i=!(s.is i||s.inB k i)) (hR:FD s D (λi=>!s.is i) U v2 v'):MP s k v v':=by
 have hs:=h.st;have hlh:=hs.lohi hk;have Y:s.cf.to+s.hi k<=v.n:=by have:=hs.fit;have:=hs.cf.ln;rw[h.mid.n];omega
 have X:s.cf.to+s.lo k<s.cf.to+s.hi k:=Ω
 have hF:∀p,p∈BW v ((s.cf.to+s.lo k:Nat):Int) ((s.cf.to+s.hi k:Nat):Int)↔((s.cf.to+s.lo k)/s.pg<=p/\p<=(s.cf.to+s.hi k-1)/s.pg)/\v.pt.getD p 0=0:=λp=>by
  unfold BW;rw[θ ⟨hE,by omega⟩,VWG h.mid.ok X Y,h.mid.pg]
 have hl2:v2.pt.length=v.pt.length:=by rw[hC.sm.pt,hG.len h.mid.ok]
 refine⟨⟨hs.mv _ (η ..),(hR.mid.mvd _).congr (λi hi hd=>?_) (λi hi hu=>?_)⟩,hR.rm.trans (hC.sm.rm.trans hG.rm),λp hp=>?_,λa ha hab hsr=>?_⟩
 ·rw[hD i hi,<-Sl.is_put hk];exact hd
 ·rw[hU i hi,<-Sl.is_put hk];exact hu
 ·rw[hR.map p Ω,hC.sm.pt,hG.ma p hp,hF]
  have e:(v.pt.getD p 0≠0\/((s.cf.to+s.lo k)/s.pg<=p/\p<=(s.cf.to+s.hi k-1)/s.pg)/\v.pt.getD p 0=0)↔(v.pt.getD p 0≠0\/((s.cf.to+s.lo k)/s.pg<=p/\p<=(s.cf.to+s.hi k-1)/s.pg)):=by
   constructor
   ·rintro(a|⟨a,-⟩)
    ·exact .inl a
    ·exact .inr a
   ·rintro(a|a)
    ·exact .inl a
    ·by_cases h0:v.pt.getD p 0=0
     ·exact .inr ⟨a,h0⟩
     ·exact .inl h0
  rw[e];refine and_congr_right λ_=>not_congr ?_;constructor
  ·rintro⟨i,hi,h1,h2,h3,h4⟩;refine⟨i,hi,?_,h3,λj hj he=>?_⟩
   ·cases e1:s.is i <;> cases e2:s.inB k i <;> simp_all
   ·have:=mt (Sl.on_zero h4 hj) (λg=>g he);cases e1:s.is j <;> cases e2:s.inB k j <;> simp_all
  ·rintro⟨i,hi,h1,h3,h4⟩;refine⟨i,hi,?_,by rw[hU i hi,h1];simp,h3,Sl.on_iff.2 λj hj hu he=>?_⟩
   ·have:i/s.cf.bk=k:=by simpa[Sl.inB]using h1
    unfold Sl.is;rw[this,_hm];rfl
   ·rw[hU j hj]at hu;rcases h4 j hj he with h|h <;> simp[h]at hu
 ·obtain⟨e1,e2⟩:=hR.oth a ha hsr;have e3:=hC.oth a hab;have e4:=hG.ldV_all h.mid.ok (a:=a) (by rw[h.mid.n];exact ha);have e5:=hG.ldE h.mid.ok (a:=a) (by rw[h.mid.n];exact ha);rw[e1,e3,e4,e2,hC.sm.ldE,e5];exact⟨rfl,λh=>by rw[h];split <;> rfl⟩
open Go.Shelf
structure CB where
 F:Nat
 G:Nat
 p:Nat
 m:Nat
 p1:Nat
 b1:Nat
 p2:Nat
 b2:Nat
 bs:Nat
 bm:Nat
 cm:Nat
 bw:Nat
variable{z:CB}
def bls(l:List Bool):List Value:=l.map Value.bool
theorem J6(h:i<l.length):(bls l)[i]?=some (.bool (at_ l i)):=by simp[bls,at_,h]
theorem QPU(l:List Bool)(i:Nat)(b:Bool):(bls l).set i (.bool b)=bls (l.set i b):=by simp[bls]
def Qa0(q:Nat)(c:Cf)(z:CB)(nb lf ft ah:Nat):List Value:=
 [pP q,iI c.fr,iI c.tp,iI c.to,iI c.lm,iI c.bk,iI c.st,iI c.ah,
  pP z.p,pP z.m,.slice (some ⟨z.bm,0,none⟩) nb z.cm,iI lf,iI ft,iI ah,.map (some z.bw),.map (some z.bs)]
def O0(w:World)(b:Nat)(s:Sl):Prop:=∃n f,BI prog 3 w b n f/\∀j (h:j<s.L.length),f (s.L[j].1:Nat)=some (AJ (s.hd s.L[j].1))
def K9(w:World)(b:Nat)(s:Sl)(U:Nat->Bool):Prop:=∃n f,BI prog 3 w b n f/\n+cnt U (sizes s.L)<=2*sizes s.L/\∀q:Nat,(f (q:Nat)).getD (iI 0)=iI (s.on U q:Nat)
theorem O0.touch(h:O0 w b s)(t:AB T w w')(hT:¬T b):O0 w' b s:=by
 obtain⟨n,f,h1,h2⟩:=h;exact⟨n,f,h1.touch t hT,h2⟩
theorem K9.touch(h:K9 w b s U)(t:AB T w w')(hT:¬T b):K9 w' b s U:=by
 obtain⟨n,f,h1,h2⟩:=h;exact⟨n,f,h1.touch t hT,h2⟩
structure P4(w:World)(R:Nat->Prop)(y:Nat)(z:CB):Prop where
 o1:z.m<z.F
 o2:z.p1<z.F
 o3:z.b1<z.F
 o4:z.p2<z.F
 o5:z.b2<z.F
 o6:z.F<=z.G
 o7:z.G<=w.heap.size
 g1:z.G<=y
 g2:z.G<=z.bm
 g3:z.G<=z.bw
 g4:z.G<=z.bs
 n1:y≠z.bm
 n2:y≠z.bw
 n3:y≠z.bs
 n4:z.bm≠z.bw
 n5:z.bm≠z.bs
 n6:z.bw≠z.bs
 r1:R y
 r2:R z.bm
 r3:R z.bw
 r4:R z.bs
 r5:R z.m
 r6:R z.p1
 r7:R z.b1
 r8:R z.p2
 r9:R z.b2
 rr:∀k,z.F<=k->k<z.G->R k
 lt:∀k,R k->k<w.heap.size
structure BJ(w:World)(R:Nat->Prop)(y q:Nat)(z:CB)(s:Sl)(U:Nat->Bool)(ml:List Bool)(lf ft ah:Nat):Prop where
 od:P4 w R y z
 rc:Rec w y 149 (Qa0 q s.cf z ml.length lf ft ah)
 pl:∀W,AB (λi=>i<z.F\/z.G<=i) w W->Pln W z.F z.p s.n s.cf.bk s.cf.to s.L
 ex:Ext w z.m z.p1 z.b1 z.p2 z.b2 s.n s.L
 sh:O0 w z.bs s
 wd:K9 w z.bw s U
 mv:w.ownsRow 0 4 1 (.slice (some ⟨z.bm,0,none⟩) ml.length z.cm) ml.length (bls ml)
abbrev Cyc(w:World)(R:Nat->Prop)(y q:Nat)(z:CB)(s:Sl):Prop:=BJ w R y q z s (λi=>!s.is i) s.mv s.lf s.ft (s.mvd-s.ft)
section
variable{lf ft:Nat}
theorem P4.gr(h:P4 w R y z)(hs:w.heap.size<=w'.heap.size):P4 w' R y z:=
 ⟨h.o1,h.o2,h.o3,h.o4,h.o5,h.o6,γ h.o7 hs,h.g1,h.g2,h.g3,h.g4,h.n1,h.n2,h.n3,h.n4,h.n5,h.n6,h.r1,h.r2,h.r3,h.r4,h.r5,h.r6,h.r7,h.r8,h.r9,h.rr,λk hk=>κ (h.lt k hk) hs⟩
theorem BJ.touch(h:BJ w R y q z s U ml lf ft ah)(t:AB T w w')(hT:∀k,R k->¬T k):BJ w' R y q z s U ml lf ft ah:=by
 have o:=h.od;refine⟨o.gr t.size,h.rc.touch t (hT _ o.r1),λW tW=>h.pl W ?_,h.ex.touch t (hT _ o.r5) (hT _ o.r6) (hT _ o.r7) (hT _ o.r8) (hT _ o.r9),h.sh.touch t (hT _ o.r4),h.wd.touch t (hT _ o.r3),BV h.mv t (λg hg=>by cases hg;exact hT _ o.r2)⟩;refine(t.mono (λi _ hi=>?_)).trans tW;rcases δ i z.F with h1|h1
 ·exact .inl h1
 ·rcases δ i z.G with h2|h2
  ·exact absurd hi (hT _ (o.rr i h1 h2))
  omega
theorem BJ.gr(h:BJ w R y q z s U ml lf ft ah)(g:Gr w w'):BJ w' R y q z s U ml lf ft ah:=h.touch (g.touch (λ_=>False)) (λ_ _ h=>h)
theorem BJ.setR(h:BJ w R y q z s U ml lf ft ah){lf' ft' ah':Nat}(t:AB (λi=>i=y) w w')(hr:Rec w' y 149 (Qa0 q s.cf z ml.length lf' ft' ah')):BJ w' R y q z s U ml lf' ft' ah':=by
 have o:=h.od;refine⟨o.gr t.size,hr,λW tW=>h.pl W ((t.mono (λi _ hi=>.inr (by rw[hi];exact o.g1))).trans tW),h.ex.touch t ?_ ?_ ?_ ?_ ?_,h.sh.touch t (λe=>o.n3 e.symm),h.wd.touch t (λe=>o.n2 e.symm),BV h.mv t (λg hg=>by cases hg;exact λe=>o.n1 e.symm)⟩
 all_goals (have:=o.o1;have:=o.o2;have:=o.o3;have:=o.o4;have:=o.o5;have:=o.o6;have:=o.g1;omega)
theorem BJ.setW(h:BJ w R y q z s U ml lf ft ah)(t:AB (λi=>i=z.bw) w w')(hw:K9 w' z.bw s U'):BJ w' R y q z s U' ml lf ft ah:=by
 have o:=h.od;refine⟨o.gr t.size,h.rc.touch t o.n2,λW tW=>h.pl W ((t.mono (λi _ hi=>.inr (by rw[hi];exact o.g3))).trans tW),h.ex.touch t ?_ ?_ ?_ ?_ ?_,h.sh.touch t (λe=>o.n6 e.symm),hw,BV h.mv t (λg hg=>by cases hg;exact o.n4)⟩
 all_goals (have:=o.o1;have:=o.o2;have:=o.o3;have:=o.o4;have:=o.o5;have:=o.o6;have:=o.g3;omega)
theorem BJ.setM(h:BJ w R y q z s U ml lf ft ah){ml':List Bool}(hl:ml'.length=ml.length)(t:AB (λi=>i=z.bm) w w')(hm:w'.ownsRow 0 4 1 (.slice (some ⟨z.bm,0,none⟩) ml'.length z.cm) ml'.length (bls ml')):BJ w' R y q z s U ml' lf ft ah:=by
 have o:=h.od;refine⟨o.gr t.size,?_,λW tW=>h.pl W ((t.mono (λi _ hi=>.inr (by rw[hi];exact o.g2))).trans tW),h.ex.touch t ?_ ?_ ?_ ?_ ?_,h.sh.touch t (λe=>o.n5 e.symm),h.wd.touch t (λe=>o.n4 e.symm),hm⟩
 ·rw[hl];exact h.rc.touch t o.n1
 all_goals (have:=o.o1;have:=o.o2;have:=o.o3;have:=o.o4;have:=o.o5;have:=o.o6;have:=o.g2;omega)
theorem BJ.plan(h:BJ w R y q z s U ml lf ft ah):Pln w z.F z.p s.n s.cf.bk s.cf.to s.L:=h.pl w (AB.refl _ _)
theorem BJ.same{s':Sl}(h:BJ w R y q z s U ml lf ft ah)(h1:s'.n=s.n)(h2:s'.cf=s.cf)(h3:s'.L=s.L)(h4:s'.hd=s.hd)(h5:s'.pg=s.pg):BJ w R y q z s' U ml lf ft ah:=by
 cases s;cases s';subst h1 h2 h3 h4 h5;exact⟨h.od,h.rc,h.pl,h.ex,h.sh,h.wd,h.mv⟩
end
section
variable{lf ft:Nat}
theorem XLA(hC:BJ w R y q z s U ml lf ft ah)(a:Int):AY prog 162 #[pP y,iI a] w (iI (toV s.L s.cf.to a)):=by
 obtain⟨h1,h2,h3,f,c0,c1,hF⟩:=hC.plan;have x8:=hC.rc.cc 8;have Z:=(RV c0);have X:=(QR hF a);obtain⟨t,ht⟩:∃t,t=toV s.L s.cf.to a:=⟨_,rfl⟩;obtain⟨te,Y⟩:∃te,te=toE s.L a:=⟨_,rfl⟩;rw[<-ht,<-Y]at X;rw[<-ht];clear hC hF h1 h2 h3 c0 c1 ht Y;go_enter func162,ntmps162
 go_wp2_with(first
  | (go_at_call 159;refine AK (Z) ?_)
  | (go_at_call 147;refine(X).mono ?_;rintro e w2 ⟨rfl,J⟩;have HG2:=J))
 go_ret
 simp_all
theorem QOX(hs:p+f+k<=255):(BO ⟨p,f,k⟩ ((m:Int)-1)==1)=decide (1<=m/\m<=p):=by
 by_cases h:1<=m/\m<=p
 ·rw[ξ h,QP Ω (by grind) (by show (p:Int)<CE ⟨p,f,k⟩;rw[show CE ⟨p,f,k⟩=1+(p:Int)+f+k from θ (EQ hs)];omega)];rfl
 grind [ζ,VgZ]
theorem Jmu(hs:p+f+k<=255)(hm:m<=4294967296)(w:World):AY prog 205 #[AJ ⟨p,f,k⟩,iI m] w (.bool (decide (1<=m/\m<=p))):=by
 have Z:=(λ(W:World)=>U8 hs ((m:Int)-1) W);have J:=(QOX (f:=f) (k:=k) hs (m:=m));unfold AJ at Z⊢;obtain⟨b,hb⟩:∃b,b=decide (1<=m/\m<=p):=⟨_,rfl⟩;rw[<-hb]at J⊢;clear hb;have X:=Rec.new w 72 [iI p,iI f,iI k];go_enter func205,ntmps205;go_upto_region 1 with(fail);obtain⟨w2,Y⟩:∃w2,w2=w.alloc (.cells #[.int .i64 p,.int .i64 f,.int .i64 k] 72):=⟨_,rfl⟩;have V:Gr w w2:=by rw[Y];exact(Gr.refl w).alloc _
 rw[<-Y]at X⊢;have y0:=X.cc 0;have y1:=X.cc 1;have y2:=X.cc 2;clear Y X;go_wp2_with(go_at_call 191;refine(Z _).mono ?_;rintro e w3 ⟨rfl,N⟩;have HG3:=(V.trans N));go_ret
 simp_all
theorem Y6(hC:BJ w R y q z s U ml lf ft ah)(hst:BC s)(hV:AC w S q v)(hs:p+f+k<=255)(ha:a=st+m)(hm:a<=4294967296)(hx:1<=m/\m<=p->v.ldV (a:Nat)<=2147483647):
  AY prog 170 #[pP y,iI a,iI st,AJ ⟨p,f,k⟩] w (uU (cvH s.L s.cf.to ⟨p,f,k⟩ m (v.ldV (a:Nat)):Nat)):=by
 have J:=(λ(W:World) (g:Gr w W)=>JN (hV.gr g) (a:Int));have Z:=(λ(W:World)=>Jmu (f:=f) (k:=k) hs (m:=m) Ω W);have Xl:Hid (v.ldV (a:Nat)<18446744073709551616):=⟨hV.ok.ldV_lt _⟩;have Xm:=hst;have HR:=(Rec.new w 72 [iI p,iI f,iI k]);simp only[List.toArray]at HR;unfold AJ at Z;unfold AJ;obtain⟨x,Xc⟩:∃x,x=v.ldV (a:Nat):=⟨_,rfl⟩;rw[<-Xc]at hx Xl J⊢;obtain⟨Xe,O⟩:∃Xe,Xe=cvH s.L s.cf.to ⟨p,f,k⟩ m x:=⟨_,rfl⟩;have N:=ι O;rw[<-O];obtain⟨le,Xd⟩:∃le,le=v.ldE (a:Nat):=⟨_,rfl⟩;rw[<-Xd]at J;clear Xc Xd hV hst O;have Xk:(a:Int)-(st:Int)=(m:Int):=Ω
 clear ha;unfold AY;go_enter func170,ntmps170;go_upto_region 1 with(fail);obtain⟨w2,G⟩:∃w2,w2=w.alloc (.cells #[.int .i64 p,.int .i64 f,.int .i64 k] 72):=⟨_,rfl⟩;have Y:Gr w w2:=by rw[G];exact(Gr.refl w).alloc _
 rw[<-G]at HR⊢;obtain⟨hb,Xg⟩:∃hb,hb=w.heap.size:=⟨_,rfl⟩;rw[<-Xg]at HR⊢;have x0:=(hC.rc.gr Y).cell (j:=0) rfl;have xl:=(hC.rc.gr Y).lt;clear G Xg;by_cases Xa:x=0
 ·subst Xa;have hcv:cvH s.L s.cf.to ⟨p,f,k⟩ m 0=0:=by unfold cvH;rw[φ (λh=>h.2 rfl)]
  rw[<-N.o]at hcv;subst hcv;clear hx Xk;go_wp2_with(go_at_call 190;refine(J _ Y).mono ?_;rintro e w3 ⟨rfl,X⟩;have V:=(Y.trans X);clear X);go_ret;exact⟨rfl,V⟩
 ·have d2:((x:Int) !=0)=true:=by simp;exact Xa
  by_cases hp:1<=m/\m<=p
  ·rw[ξ hp]at Z;have Xb:=hx hp;have hcv:cvH s.L s.cf.to ⟨p,f,k⟩ m x=(toV s.L s.cf.to (x:Nat)).toNat:=by unfold cvH;rw[θ ⟨⟨hp.1,by show (m:Int)<=(p:Int);omega⟩,Xa⟩]
   rw[<-N.o]at hcv;subst hcv;have Xf:=(λ(W:World) (g:Gr w W)=>XLA (hC.gr g) (x:Int));have Xi:=Xxa s.L s.cf.to (x:Int);have Xj:=Xm.to_lt (x:Int);obtain⟨t,ht⟩:∃t,t=toV s.L s.cf.to (x:Int):=⟨_,rfl⟩;rw[<-ht]at Xf Xi Xj;have hwy:IntKind.u64.wrap t=t:=by rw[ξp];omega
   have hwx:IntKind.i64.wrap (x:Int)=(x:Int):=ζu _ Ω;clear hx hp Xb
   go_wp2_with(first
    | (go_at_call 190;refine(J _ Y).mono ?_;rintro e w3 ⟨rfl,X⟩;have V:=(Y.trans X);have RR:=HR.gr X;obtain⟨y0,y1,y2,yl⟩:=RR.k3;clear X RR)
    | (go_at_call 205;refine(Z _).mono ?_;rintro e w4 ⟨rfl,I⟩;have E:=(V.trans I);clear I)
    | (go_at_call 162;refine(Xf _ E).mono ?_;rintro e w5 ⟨rfl,Xh⟩;have Xn:=(E.trans Xh);clear Xh))
   go_ret;exact⟨by rw[<-ht,ξA Xi];rfl,Xn⟩
  ·rw[ζ hp]at Z;have hcv:cvH s.L s.cf.to ⟨p,f,k⟩ m x=x:=by unfold cvH;rw[φ (λh=>hp ⟨h.1.1,by have:(m:Int)<=(p:Int):=h.1.2;omega⟩)]
   rw[<-N.o]at hcv;subst hcv;clear hx hp
   go_wp2_with(first
    | (go_at_call 190;refine(J _ Y).mono ?_;rintro e w3 ⟨rfl,X⟩;have V:=(Y.trans X);have RR:=HR.gr X;obtain⟨y0,y1,y2,yl⟩:=RR.k3;clear X RR)
    | (go_at_call 205;refine(Z _).mono ?_;rintro e w4 ⟨rfl,I⟩;have E:=(V.trans I);clear I))
   go_ret;exact⟨rfl,E⟩
end
theorem JNO(w:World):(zeroValue 72).run prog w=.ok (.agg #[iI 0,iI 0,iI 0]) w:=by kernel_rfl
theorem Z0(h:O0 w b s)(hj:j<s.L.length)(hb:s.L[j].1<=4294967296):
  (Instr.lookup 147 (.map (some b)) (iI (s.L[j].1:Nat)) false).run prog w=.ok (AJ (s.hd s.L[j].1)) w:=by
 obtain⟨n,f,h1,h2⟩:=h;rw[h1.look JE underlying147 underlying3 (JNO w) (WalkArith.wf_i64 Ω),h2 j hj];rfl
theorem TG(h:K9 w b s U)(hb:q<=4294967296):
  (Instr.lookup 146 (.map (some b)) (iI q) false).run prog w=.ok (iI (s.on U q:Nat)) w:=by
 obtain⟨n,f,h1,-,h2⟩:=h;rw[h1.look JE underlying146 underlying3 (XB w) (WalkArith.wf_i64 Ω),h2 q]
structure CpI(w wr:World)(S:Nat->Prop)(q:Nat)(s:Sl)(D U:Nat->Bool)(lo hi:Nat)(v1:Vm)(m hb:Nat)(p f k:Nat):Prop where
 t:AB S w wr
 vm:∃vx,AC wr (AD S w) q vx/\FR s D U lo hi v1 vx m
 h:Rec wr hb 72 [iI p,iI f,iI k]
def VF5(w:World)(S:Nat->Prop)(q:Nat)(s:Sl)(D U:Nat->Bool)(lo hi:Nat)(v1:Vm)(m:Nat)(e:Ending)(w':World):Prop:=
 e=.returned (.tuple #[])/\AB S w w'/\∃v'',AC w' (AD S w) q v''/\FR s D U lo hi v1 v'' m
def Obj(s:Sl)(a st sz p f k:Nat):Prop:=∃j,∃hj:j<s.L.length,st=s.L[j].1/\sz=s.L[j].2/\s.hd s.L[j].1=⟨p,f,k⟩/\st<=a/\a<st+sz
theorem ZX(hst:BC s){sz:Nat}(hi:i<sizes s.L)(ha:AG s.L i=a)(ho:Obj s a st sz p f k):s.off i=a-st/\s.hdr i=⟨p,f,k⟩/\p+f+k<=255:=by
 obtain⟨j,hj,rfl,rfl,h3,h4,h5⟩:=ho;obtain⟨j',X,m,p',f',k',e1,e2,e3,e4,e5,e6,e7,e8,e9⟩:=hst.obj hi
 have hjj:s.L[j]=s.L[j']:=by
  rcases hst.good.disj (μ hj) (μ X)with e|e|e
  ·exact e
  ·omega
  ·omega
 grind
theorem Zm8(hst:BC s)(hi:i<sizes s.L)(ha:AG s.L i=a):∃j,∃hj:j<s.L.length,∃p f k:Nat,A1 s.L (a:Nat)=j/\s.hd s.L[j].1=⟨p,f,k⟩/\Obj s a s.L[j].1 s.L[j].2 p f k:=by
 obtain⟨j',X,m,p',f',k',e1,e2,e3,e4,e5,e6,e7,e8,e9⟩:=hst.obj hi;have:=QFu hst.good hi;rw[ha,e1]at this;exact⟨j',X,p',f',k',this,e7,j',X,rfl,rfl,e7,by omega,by omega⟩
section
variable{Uo:Nat->Bool}{lf ft:Nat}{lo hi:Nat}
theorem XAM(hC:BJ w R y q z s U ml lf ft ah)(hst:BC s)(hT:AQ w)(htS:¬S 1)(hV:AC w S q v')(hdis:∀k,R k->¬S k)(hcp:FR s D Uo lo hi v1 v' m)
  (hn:lo+m+n<=hi) (hhi:hi<=sizes s.L) (hU:∀i,lo<=i->i<hi->Uo i=true) (hl:∀i,lo<=i->i<hi->v1.ldE ((s.cf.to+i:Nat):Int)=0) (hw:∀i,i<n->AG s.L (lo+m+i)=f+i):
  Calls prog 119 #[pP y,.agg #[iI f,iI ((s.cf.to+(lo+m):Nat):Int),iI n]] w (VF5 w S q s D Uo lo hi v1 (m+n)):=by
 have HC:=hC;have G:=hst;have HT:=hT;have Ys:=htS;have HV:=hV.cut;have Yg:=hdis;have Yx:=hcp;have HU:=hU;have HL:=hl;have HW:=hw;have HB:=(ψ hn hhi);have hn2:=hst.n2;have hNn:=hst.N_le
 have hfb:n=0\/f+n<=1048576:=by
  rcases ζG n with h|h
  ·exact .inl h
  ·right;have h1:=hw (n-1) Ω;have h2:=(hst.srcs (i:=lo+m+(n-1)) Ω).2.2;omega
 have Xm:s.cf.to+(lo+m)<=1048576:=by have:=hst.fit;have:=hst.cf.ln;omega
 obtain⟨t,ht⟩:∃t,t=s.cf.to+(lo+m):=⟨_,rfl⟩;have Yq:=ι ht;have hnb:n<=1048576:=Ω
 rw[<-ht]at Xm⊢;clear hC hst hT htS hV hdis hcp hU hl hw ht hn hhi;have RP:=Rec.new w 195 [iI f,iI t,iI n];simp only[List.toArray]at RP;go_enter func119,ntmps119;go_upto_region 2 with(fail);obtain⟨w1,Xg⟩:∃w1,w1=w.alloc (.cells #[.int .i64 f,.int .i64 t,.int .i64 n] 195):=⟨_,rfl⟩;have Yi:Gr w w1:=by rw[Xg];exact(Gr.refl w).alloc _
 have Yt:w1.heap.size=w.heap.size+1:=by rw[Xg,χ]
 have Yk:Rec w1 w.heap.size 195 [iI f,iI t,iI n]:=by rw[Xg];exact RP
 rw[<-Xg];clear Xg RP;have RH:=Rec.new w1 72 [iI 0,iI 0,iI 0];simp only[List.toArray]at RH;obtain⟨w2,Xq⟩:∃w2,w2=w1.alloc (.cells #[.int .i64 0,.int .i64 0,.int .i64 0] 72):=⟨_,rfl⟩;have Ya:Gr w1 w2:=by rw[Xq];exact(Gr.refl w1).alloc _
 rw[<-Xq]at RH⊢;rw[Yt]at RH;have Xr:=Yk.gr Ya;have Yj:=(Yi.trans Ya);have HS2:Hid (w.heap.size+2=w2.heap.size):=⟨by rw[Xq,χ];omega⟩;clear Xq Yi Ya Yk;have q2:=Xr.cc 2;have ql:=Xr.lt;have Xw:=ι Xr;have Yf:Hid (CpI w w2 S q s D Uo lo hi v1 (m+0) (w.heap.size+1) 0 0 0):=⟨⟨Yj.touch _,⟨v',HV.gr Yj,Yx⟩,RH⟩⟩;have Yl:=HC.od.lt;clear Xr RH;go_upto_region 3 with(fail);clear q2 ql
 go_loopw [4,5,12] (λs4 s5 s12 wr=>∃(i st sz p f' k:Nat),i<=n/\Hid (CpI w wr S q s D Uo lo hi v1 (m+i) (w.heap.size+1) p f' k)/\Hid ((i=0/\st=0/\sz=0)\/Obj s (f+i-1) st sz p f' k)/\Hid (Rec wr w.heap.size 195 [iI f,iI t,iI n])/\s4=iI st/\s5=iI sz/\s12=iI i) (λ_ _ s12 _=>n-(intOf s12).toNat)
 case atStart=>exact⟨0,0,0,0,0,0,ζc _,Yf,⟨.inl ⟨rfl,rfl,rfl⟩⟩,Xw,rfl,rfl,rfl⟩
 case round=>
  obtain⟨i,st,sz,ph,fh,kh,hin,HI,HO,I,rfl,rfl,rfl⟩:=hrel;clear Xw Yf;have hpl:=I.o.lt;by_cases Xy:i<n
  ·have Xs:=ι Xy;have hiI:(i:Int)<(n:Int):=Ω
   have hfi:f+i<=1048576:=Ω
   have Xi:=HW i Xy;have Xa:lo+m+i<sizes s.L:=by have:=HB;omega
   have N:BJ wr R y q z s U ml lf ft ah:=HC.touch HI.o.t Yg;have Xm:=HT.touch' HI.o.t Ys
   have Yd:Hid (∀(W:World) (st sz p f' k:Nat),AB (λb=>b=w.heap.size+1) wr W->Obj s (f+i) st sz p f' k->AY prog 170 #[pP y,iI ((f:Int)+(i:Int)),iI st,.agg #[iI p,iI f',iI k]] W (uU (s.c (lo+m+i):Nat))):=⟨λW st sz p f' k tW ho=>by
    obtain⟨vx,Xc,Xb⟩:=HI.o.vm;obtain⟨e1,e2,e3⟩:=ZX G Xa Xi ho;obtain⟨j,hj,-,-,-,o4,o5⟩:=ho;obtain⟨-,m2,m3⟩:=Xb.mid.src (lo+m+i) Xa (HU _ Ω (by have:=HB;omega));rw[Xi]at m2 m3;have:=Y6 (f:=f') (k:=k) (N.touch tW (λb hb h=>by have:=Yl b hb;omega)) G (Xc.touch tW (λb hb _ h=>by have:=hb.2;omega)) (p:=p) e3 (a:=f+i) (st:=st) (m:=f+i-st) Ω Ω (λh=>m3 ⟨by rw[e1];exact h.1,by rw[e1,e2];show ((f+i-st:Nat):Int)<=(p:Int);omega⟩);unfold Sl.cv at m2;rw[e1,e2]at m2;rw[m2]at this
    exact this⟩
   have Xh:Hid (∀(W:World),AB (λb=>b=w.heap.size+1) wr W->Calls prog 169 #[pP q,iI ((t:Int)+(i:Int)),uU (s.c (lo+m+i):Nat)] W λe w'=>∃er,e=.returned (iI er)/\AB (AD S w) W w'/\∃vx,AC w' (AD S w) q vx/\FR s D Uo lo hi v1 vx (m+i+1)):=⟨λW tW=>by
    obtain⟨vx,Xc,Xb⟩:=HI.o.vm;obtain⟨-,m2,-⟩:=Xb.mid.src (lo+m+i) Xa (HU _ Ω (by have:=HB;omega));have Yn:s.c (lo+m+i)<18446744073709551616:=by rw[<-m2];exact G.cv_lt _ (Xc.ok.ldV_lt _)
    refine(KU (Xc.touch tW (λb hb _ h=>by have:=hb.2;omega)) ((t:Int)+(i:Int)) Yn).mono ?_;rintro e w' ⟨rfl,ht,hv⟩;refine⟨_,rfl,ht,_,hv,?_⟩;have:=Xb.step G (by have:=HB;omega) HB.2 (HL _ Ω (by have:=HB;omega)) (x:=s.c (lo+m+i)) (by rw[ξE lo m i]) Yn;rw[show ((t:Int)+(i:Int))=((s.cf.to+(lo+(m+i)):Nat):Int)by rw[Yq.o];omega]
    exact this⟩
   have HK:Hid (∀(W:World) (p' Y k':Nat),AB (λb=>b=w.heap.size+1) wr W->Rec W (w.heap.size+1) 72 [iI p',iI Y,iI k']->(W.cell? ⟨y,0,none⟩=some (pP q)/\W.cell? ⟨w.heap.size,1,none⟩=some (iI t))/\W.cell? ⟨w.heap.size+1,0,none⟩=some (iI p')/\W.cell? ⟨w.heap.size+1,1,none⟩=some (iI Y)/\W.cell? ⟨w.heap.size+1,2,none⟩=some (iI k')):=⟨λW p' Y k' tW hr=>by
    have h1:=(N.touch tW (λb hb h=>by have:=Yl b hb;omega)).rc;have h2:=I.o.touch tW Ω
    exact⟨⟨h1.cc 0,h2.cc 1⟩,hr.cc 0,hr.cc 1,hr.cc 2⟩⟩
   have hsb:st+sz<=1048576:=by
    rcases HO.o with h|⟨j,hj,h1,h2,-⟩
    ·omega
    ·have:=(G.good.sz _ (μ hj)).2;omega
   have q0:=I.o.cc 0;have q1:=I.o.cc 1;obtain⟨c,hc⟩:∃c,c=s.c (lo+m+i):=⟨_,rfl⟩;rw[<-hc]at Yd Xh;clear hc;by_cases Xt:st+sz<=f+i
   ·have d1:decide ((st:Int)+(sz:Int)<=(f:Int)+(i:Int))=true:=ξ Ω;have d2:decide (st+sz<=f+i)=true:=ξ Xt;obtain⟨j,hj,p',Y,k',g1,g2,g3⟩:=Zm8 G Xa Xi;have Xd:=ι (KH N.ex Xm ((f:Int)+(i:Int)));rw[show (f:Int)+(i:Int)=((f+i:Nat):Int)by omega,g1,NZ hj]at Xd;have Xu:=Z0 N.sh hj (by have:=(G.good.sz _ (μ hj)).2;omega);rw[g2]at Xu;unfold AJ at Xu;have E:=ι g3;obtain⟨Xz,Xv⟩:∃Xz,Xz=s.L[j].1:=⟨_,rfl⟩;obtain⟨Ye,Xx⟩:∃Ye,Ye=s.L[j].2:=⟨_,rfl⟩;rw[<-Xv]at Xd E Xu;rw[<-Xx]at Xd E;rw[show ((f+i:Nat):Int)=(f:Int)+(i:Int)by omega]at Xd;have x3:=N.rc.cc 9;have x9:=N.rc.cc 15;have xl:=N.rc.lt;have Yw:=HI.o.h.cc 0;have Yp:=HI.o.h.cc 1;have Yo:=HI.o.h.cc 2;have Yu:=HI.o.h.free;have Yv:=HI.o.h.lt;have Ym:=ι (((HI.o.h.set 0 (iI p')).set 1 (iI Y)).set 2 (iI k'));clear Xt N Xm g1 g2 g3 Xv Xx Xi Xa;go_upto_region 9 with(go_at_call 168;refine AK (Xd.o) ?_)
    have tB:AB (λb=>b=w.heap.size+1) wr (((wr.setCell ⟨w.heap.size+1,0,none⟩ (.int .i64 p')).setCell ⟨w.heap.size+1,1,none⟩ (.int .i64 Y)).setCell ⟨w.heap.size+1,2,none⟩ (.int .i64 k')):=
     (((AB.refl (λb=>b=w.heap.size+1) wr).setCell (a:=⟨w.heap.size+1,0,none⟩) (λ_=>rfl) _).setCell (a:=⟨w.heap.size+1,1,none⟩) (λ_=>rfl) _).setCell (a:=⟨w.heap.size+1,2,none⟩) (λ_=>rfl) _
    obtain⟨wB,Yb⟩:∃wB,wB=((wr.setCell ⟨w.heap.size+1,0,none⟩ (.int .i64 p')).setCell ⟨w.heap.size+1,1,none⟩ (.int .i64 Y)).setCell ⟨w.heap.size+1,2,none⟩ (.int .i64 k'):=⟨_,rfl⟩;rw[<-Yb]at tB⊢;have Xf:Hid (Rec wB (w.heap.size+1) 72 [iI p',iI Y,iI k']):=⟨by rw[Yb];exact Ym.o⟩;have J:=ι tB;have Xl:Hid (∀W,Gr wB W->(W.cell? ⟨y,0,none⟩=some (pP q)/\W.cell? ⟨w.heap.size,1,none⟩=some (iI t))/\W.cell? ⟨w.heap.size+1,0,none⟩=some (iI p')/\W.cell? ⟨w.heap.size+1,1,none⟩=some (iI Y)/\W.cell? ⟨w.heap.size+1,2,none⟩=some (iI k')):=⟨λW g=>HK.o W p' Y k' (J.o.trans (g.touch _)) (Xf.o.gr g)⟩;clear Yb tB Ym Xu x3 x9 xl Yw Yp Yo Yu Yv q0 q1;obtain⟨Sx,X,HS⟩:=AA.start λW'=>((W'.cell? ⟨y,0,none⟩=some (pP q)/\W'.cell? ⟨w.heap.size,1,none⟩=some (iI t))/\W'.cell? ⟨w.heap.size+1,0,none⟩=some (iI p')/\W'.cell? ⟨w.heap.size+1,1,none⟩=some (iI Y)/\W'.cell? ⟨w.heap.size+1,2,none⟩=some (iI k'))
    have x1:=AA.fact X λ_ h=>h.1.1;have x2:=AA.fact X λ_ h=>h.1.2;have x3:=AA.fact X λ_ h=>h.2.1;have x4:=AA.fact X λ_ h=>h.2.2.1;have x5:=AA.fact X λ_ h=>h.2.2.2;have O:=HS.o (wB.drew) (Xl.o _ (Gr.refl wB).drew);have Xo:Inhabited (AA Sx):=⟨⟨_,O⟩⟩;clear X;refine AV Sx 13 [([0,1,2,3,4,5,6,7,8,9,10,11],12),([],13)] [] O ?_;refine AH ?_;go_wp2_with((go_at_call 170;refine(Yd.o _ _ _ _ _ _ (J.o.trans ((Gr.refl wB).drew.touch _)) E.o).mono ?_;rintro e w4 ⟨rfl,Xp⟩;have Z:=ι ((Gr.refl wB).drew.trans Xp);clear Xp));refine⟨.inr (AA.of (HS.o _ (Xl.o _ Z.o))),?_⟩;refine AH ?_;go_wp2_with((go_at_call 169;refine(Xh.o _ (J.o.trans (Z.o.touch _))).mono ?_;rintro e w5 ⟨er,rfl,Xk,Yc,Xe,Xj⟩;have V:=ι Xk;have Xn:=ι (ψ Xe Xj);clear Xk Xe Xj));refine⟨.inl trivial,?_⟩;refine BG ?_;clear x1 x2 x3 x4 x5 O Xo;clear HS Sx;go_wp2;go_roundw
    case rel=>
     have Yr:=V.o.size;refine⟨i+1,Xz,Ye,p',Y,k',Xs.o,⟨⟨(HI.o.t.trans' ((J.o.trans (Z.o.touch _)).mono (λb _ h=>h)) (λb hb h=>by omega)).trans' V.o (λb _ h=>h.1),⟨Yc,Xn.o.1,by rw[<-ξE];exact Xn.o.2⟩,((Xf.o.gr Z.o).touch V.o (λh=>by have:=h.2;omega))⟩⟩,⟨.inr (by rw[show f+(i+1)-1=f+i by omega];exact E.o)⟩,⟨((I.o.touch J.o Ω).gr Z.o).touch V.o (λh=>by have:=h.2;omega)⟩,?_,?_,?_⟩
     ·go_num
     ·go_num
     ·go_num
    case measure=>have:=Xs.o;simp[intOf];omega
   ·have d1:decide ((st:Int)+(sz:Int)<=(f:Int)+(i:Int))=false:=ζ Ω;have d2:decide (st+sz<=f+i)=false:=ζ Xt
    have Yh:Obj s (f+i) st sz ph fh kh:=by
     rcases HO.o with h|⟨j,hj,h1,h2,h3,h4,h5⟩
     ·omega
     ·exact⟨j,hj,h1,h2,h3,by omega,by omega⟩
    have E:=ι Yh;have J:Hid (AB (λb=>b=w.heap.size+1) wr wr):=⟨AB.refl _ _⟩;have Xf:=ι HI.o.h;have Xl:Hid (∀W,Gr wr W->(W.cell? ⟨y,0,none⟩=some (pP q)/\W.cell? ⟨w.heap.size,1,none⟩=some (iI t))/\W.cell? ⟨w.heap.size+1,0,none⟩=some (iI ph)/\W.cell? ⟨w.heap.size+1,1,none⟩=some (iI fh)/\W.cell? ⟨w.heap.size+1,2,none⟩=some (iI kh)):=⟨λW g=>HK.o W ph fh kh (J.o.trans (g.touch _)) (Xf.o.gr g)⟩;clear Xt N Xm Xi Xa Yh;go_upto_region 9 with(fail);clear q0 q1;obtain⟨Sx,X,HS⟩:=AA.start λW'=>((W'.cell? ⟨y,0,none⟩=some (pP q)/\W'.cell? ⟨w.heap.size,1,none⟩=some (iI t))/\W'.cell? ⟨w.heap.size+1,0,none⟩=some (iI ph)/\W'.cell? ⟨w.heap.size+1,1,none⟩=some (iI fh)/\W'.cell? ⟨w.heap.size+1,2,none⟩=some (iI kh))
    have x1:=AA.fact X λ_ h=>h.1.1;have x2:=AA.fact X λ_ h=>h.1.2;have x3:=AA.fact X λ_ h=>h.2.1;have x4:=AA.fact X λ_ h=>h.2.2.1;have x5:=AA.fact X λ_ h=>h.2.2.2;have O:=HS.o (wr.drew) (Xl.o _ (Gr.refl wr).drew);have Xo:Inhabited (AA Sx):=⟨⟨_,O⟩⟩;clear X;refine AV Sx 13 [([0,1,2,3,4,5,6,7,8,9,10,11],12),([],13)] [] O ?_;refine AH ?_;go_wp2_with((go_at_call 170;refine(Yd.o _ _ _ _ _ _ (J.o.trans ((Gr.refl wr).drew.touch _)) E.o).mono ?_;rintro e w4 ⟨rfl,Xp⟩;have Z:=ι ((Gr.refl wr).drew.trans Xp);clear Xp));refine⟨.inr (AA.of (HS.o _ (Xl.o _ Z.o))),?_⟩;refine AH ?_;go_wp2_with((go_at_call 169;refine(Xh.o _ (J.o.trans (Z.o.touch _))).mono ?_;rintro e w5 ⟨er,rfl,Xk,Yc,Xe,Xj⟩;have V:=ι Xk;have Xn:=ι (ψ Xe Xj);clear Xk Xe Xj));refine⟨.inl trivial,?_⟩;refine BG ?_;clear x1 x2 x3 x4 x5 O Xo;clear HS Sx;go_wp2;go_roundw
    case rel=>
     have Yr:=V.o.size;refine⟨i+1,st,sz,ph,fh,kh,Xs.o,⟨⟨(HI.o.t.trans' ((J.o.trans (Z.o.touch _)).mono (λb _ h=>h)) (λb hb h=>by omega)).trans' V.o (λb _ h=>h.1),⟨Yc,Xn.o.1,by rw[<-ξE];exact Xn.o.2⟩,((Xf.o.gr Z.o).touch V.o (λh=>by have:=h.2;omega))⟩⟩,⟨.inr (by rw[show f+(i+1)-1=f+i by omega];exact E.o)⟩,⟨((I.o.touch J.o Ω).gr Z.o).touch V.o (λh=>by have:=h.2;omega)⟩,?_,?_,?_⟩
     ·go_num
     ·go_num
     ·go_num
    case measure=>have:=Xs.o;simp[intOf];omega
  ·obtain rfl:i=n:=Ω
   have q2:=I.o.cc 2;clear Xy;go_wp2;refine ζt (ζk rfl _ _ _) rfl ?_;obtain⟨vx,Xc,Xb⟩:=HI.o.vm;exact⟨rfl,HI.o.t,vx,Xc,Xb⟩
end
def CL(U:Nat->Bool)(i n:Nat):Nat->Bool:=λj=>U j&&!(decide (i<=j)&&decide (j<i+n))
theorem QQ(U:Nat->Bool)(i:Nat):CL U i 0=U:=by
 funext j
 unfold CL;by_cases h:i<=j
 ·simp_all
 simp_all
theorem N0(U:Nat->Bool)(i n:Nat):CL U i (n+1)=but (CL U i n) (i+n):=by
 funext j
 unfold but CL
 grind
theorem Z9(h:¬(i<=j/\j<i+n)):CL U i n j=U j:=by
 unfold CL
 grind
theorem VBH{f:Int->Option Value}(h1:n+cnt U (sizes s.L)<=2*sizes s.L)(h2:∀q:Nat,(f (q:Nat)).getD (iI 0)=iI (s.on U q:Nat))(hi:i<sizes s.L)(hU:U i=true)
  (hx:x=s.on (but U i) (AG s.L i/s.pg)) (hm:BI prog 3 w b (n+1) (λy=>if y=((AG s.L i/s.pg:Nat):Int)then some (iI x)else f y)):K9 w b s (but U i):=by
 refine⟨n+1,_,hm,?_,λq=>?_⟩
 ·have:=V7q (f:=U) hi hU;unfold but;omega
 ·have X:=Sl.on_but (s:=s) (U:=U) (i:=i) (q:=q) hi hU;by_cases e:AG s.L i/s.pg=q
  ·subst e;rw[θ rfl,hx];rfl
  ·rw[φ e]at X;rw[φ Ω,h2 q,<-X];rfl
def Zj0(w:World)(R S:Nat->Prop)(y q:Nat)(z:CB)(s:Sl)(D U0 U':Nat->Bool)(ml:List Bool)(lf ft ah:Nat)(v2:Vm)(e:Ending)(w':World):Prop:=
 e=.returned (.tuple #[])/\AB (λb=>b=z.bw\/S b) w w'/\BJ w' R y q z s U' ml lf ft ah/\∃v'',AC w' (plus S w) q v''/\FD s D U0 U' v2 v''
structure DrI(w wr:World)(R S:Nat->Prop)(y q:Nat)(z:CB)(s:Sl)(D U0 U':Nat->Bool)(ml:List Bool)(lf ft ah:Nat)(v2:Vm)(pb f tb n:Nat):Prop where
 t:AB (λb=>b=z.bw\/S b) w wr
 cy:BJ wr R y q z s U' ml lf ft ah
 vm:∃Sj v'',(∀b,Sj b->(S b/\b<w.heap.size)\/pb<b)/\AC wr Sj q v''/\FD s D U0 U' v2 v''
 pc:Rec wr pb 195 [iI f,iI tb,iI n]
section
variable{lf ft:Nat}{i0 t:Nat}
theorem JBl(hC:BJ w R y q z s U ml lf ft ah)(hst:BC s)(hV:AC w S q v')(hdis:∀k,R k->¬S k)(hdr:FD s D U0 U v2 v')(hn1:1<=n)(hn:i0+n<=sizes s.L)(hU:∀i,i<n->U (i0+i)=true)(hw:∀i,i<n->AG s.L (i0+i)=f+i):
  Calls prog 120 #[pP y,.agg #[.int .i64 f,.int .i64 t,.int .i64 n]] w (Zj0 w R S y q z s D U0 (CL U i0 n) ml lf ft ah v2):=by
 have Yx:=hst;have Xh:=hdis;have HU:=hU;have HW:=hw;have HB:=hn;have Yl:=hst.n2;have Yq:=hst.N_le;have Ys:=hst.pg
 have hfb:f+n<=1048576:=by
  have h1:=hw (n-1) Ω;have h2:=(hst.srcs (i:=i0+(n-1)) Ω).2.2;omega
 have RP:=Rec.new w 195 [.int .i64 f,.int .i64 t,.int .i64 n];simp only[List.toArray]at RP;obtain⟨w0,G⟩:∃w0,w0=w.alloc (.cells #[.int .i64 f,.int .i64 t,.int .i64 n] 195):=⟨_,rfl⟩;have Xf:Gr w w0:=by rw[G];exact(Gr.refl w).alloc _
 have Xx:w0.heap.size=w.heap.size+1:=by rw[G,χ]
 have Xz:Hid (DrI w w0 R S y q z s D U0 (CL U i0 0) ml lf ft ah v2 w.heap.size f t n):=⟨by
  rw[QQ]
  exact⟨Xf.touch _,hC.gr Xf,⟨AD S w,v',λb hb=>.inl hb,hV.cut.gr Xf,hdr⟩,by rw[G];exact RP⟩⟩
 have Xp:=hC.od.lt;have HS0:=Xx;have Yv:n≠0->True:=λ_=>trivial;clear hC hst hV hdis hdr hU hw hn Xf Yv;obtain⟨pb,Xg⟩:∃pb,pb=w.heap.size:=⟨_,rfl⟩;have V:=ι Xg;have Xc:Hid (DrI w w0 R S y q z s D U0 (CL U i0 0) ml lf ft ah v2 pb f t n):=⟨by rw[Xg];exact Xz.o⟩;go_enter func120,ntmps120;go_upto_region 1 with(fail);rw[<-G,<-Xg];clear G RP Xz Xx Xg;have p0:=Xc.o.pc.cc 0;have pl:=Xc.o.pc.lt;go_upto_region 2 with(fail);clear p0 pl
 go_loopw [4] (λs4 wr=>∃j A:Nat,j<=n/\Hid (A=f+j)/\Hid (DrI w wr R S y q z s D U0 (CL U i0 j) ml lf ft ah v2 pb f t n)/\s4=.int .i64 A) (λs4 _=>f+n-(intOf s4).toNat)
 case atStart=>exact⟨0,f,ζc _,⟨rfl⟩,Xc,rfl⟩
 case round=>
  obtain⟨j,A,hj,HA,HI,rfl⟩:=hrel;clear Xc;have p0:=HI.o.pc.cc 0;have p2:=HI.o.pc.cc 2;have pl:=HI.o.pc.lt;by_cases I:j<n
  ·have Xb:=I;have Ym:(A:Int)<(f:Int)+(n:Int):=by have:=HA.o;omega
   have Yt:A<=1048576:=by have:=HA.o;omega
   obtain⟨Sj,vx,Xe,Xa,E⟩:=HI.o.vm;have J:=HI.o.cy;have Yc:=HW j I;have Yj:=HU j I;have Xo:i0+j<sizes s.L:=by have:=HB;omega
   have Xt:CL U i0 j (i0+j)=true:=by rw[Z9 Ω];exact Yj
   have Xk:=E.mid.pg;have Xm:=(λ(W:World) (g:Gr wr W)=>IY (Xa.gr g));rw[Xk]at Xm;obtain⟨pg,Y⟩:∃pg,pg=s.pg:=⟨_,rfl⟩;have HPGE:=ι Y;rw[<-Y]at Xm Ys;obtain⟨Q,hQ⟩:∃Q,Q=A/pg:=⟨_,rfl⟩;have g1:((A:Int).tdiv (pg:Int))=(Q:Int):=by rw[hQ];rfl
   have g2:((A:Int)/(pg:Int))=(Q:Int):=by rw[hQ];rfl
   have hpg0:(pg:Int)≠0:=Ω
   have hQb:Q<=1048576:=by rw[hQ];exact γ (ζ4 _ _) Yt
   have Xq:AG s.L (i0+j)/s.pg=Q:=by rw[Yc,hQ,HA.o,Y]
   have HQ:=Xq;obtain⟨nw,fm,hm,hn1,Xi⟩:=J.wd;have Yg:=TG J.wd (q:=Q) Ω;have Xn:=Sl.on_but (s:=s) (U:=CL U i0 j) (i:=i0+j) (q:=Q) Xo Xt;rw[θ Xq]at Xn;obtain⟨N,hN⟩:∃N,N=s.on (CL U i0 j) Q:=⟨_,rfl⟩;obtain⟨N',Xr⟩:∃N',N'=s.on (but (CL U i0 j) (i0+j)) Q:=⟨_,rfl⟩;have hNle:N<=1048576:=by rw[hN];have:=s.on_le (CL U i0 j) Q;omega
   rw[<-hN]at Yg;rw[<-hN,<-Xr]at Xn;have hNN:(N:Int)-1=(N':Int):=Ω
   have Yy:=hm;have Yi:=(ψ hn1 Xi);have Yu:Hid (nw<maxLen):=⟨by have h1:=hn1;have h2:=Yl;have h3:=Yq;unfold maxLen;omega⟩;have Yr:Hid ((Lit.int .i64 (Q:Int)).wf=true):=⟨WalkArith.wf_i64 Ω⟩;have HX:=ι (ψ Xo (ψ Xt Xr));have Z:=ι Xe;have Yo:=ι Xa;have Yd:=ι E;have x0:=J.rc.cc 0;have x8:=J.rc.cc 14;have xl:=J.rc.lt;clear J Yc Yj Xo Xt Xk Y hQ Xq hm hn1 Xi Xn hN Xr Xe Xa E I
   go_upto_region 6 with(first
    | (go_at_call 138;refine AK (Xm _ (Gr.refl wr)) ?_)
    | (at_mapUpdate;refine X9l _ rfl _ _ _ 146 rfl 3 3 JE underlying146 underlying3 z.bw nw fm rfl Yy Yu.o (Q:Int) (.int .i64 (N':Int)) rfl rfl Yr.o ?_;intro w3 Xw Yb;have Yn:=ι Xw;have Xd:=ι Yb;clear Xw Yb))
   have X:BJ w3 R y q z s (CL U i0 (j+1)) ml lf ft ah:=by
    rw[N0];refine HI.o.cy.setW Xd.o (VBH Yi.1 Yi.2 HX.o.1 HX.o.2.1 (x:=N') (by rw[HX.o.2.2,HQ]) ?_);rw[HQ];exact Yn.o
   have Xj:¬Sj z.bw:=λh=>by
    have h1:=Xp _ HI.o.cy.od.r3;rcases Z.o _ h with h|h
    ·exact Xh _ HI.o.cy.od.r3 h.1
    ·have:=V.o;omega
   have Yh:∀k,R k->¬Sj k:=λk hk h=>by
    have h1:=Xp _ hk;rcases Z.o _ h with h|h
    ·exact Xh _ hk h.1
    ·have:=V.o;omega
   have Ya:Hid (AC w3 Sj q vx):=⟨Yo.o.touch Xd.o (λb hb _ h=>Xj (h▸hb))⟩;have Yk:=ι X;have Yp:=ι Yh;have Xl:pb≠z.bw:=λh=>by have h1:=Xp _ HI.o.cy.od.r3;have:=V.o;omega
   have Xs:=ι (HI.o.pc.touch Xd.o Xl);have y0:=X.rc.cc 0;have y8:=X.rc.cc 14;have yl:=X.rc.lt;have Yf:=TG X.wd (q:=Q) Ω;rw[N0,<-HX.o.2.2]at Yf;have O:Hid (AB (λb=>b=z.bw\/S b) w w3):=⟨HI.o.t.trans (Xd.o.mono (λb _ h=>.inl h))⟩;have Xv:Hid (A+1=f+(j+1)):=⟨by have:=HA.o;omega⟩;clear Yg x0 x8 xl X Xj Yh Xl p0 p2 pl;simp only[Act.put];by_cases hz:N'=0
   ·have d0:((N':Int)==0)=true:=by simp[hz]
    have HZ:=ι hz;clear hz;go_wp2_with(go_at_call 139;refine(NB Ya.o (Q:Int)).mono ?_;rintro e w5 ⟨rfl,Ye,Xy⟩;have Xu:=ι Ye;have Yw:=ι Xy;clear Ye Xy);go_roundw
    case rel=>
     have hz3:=O.o.size;have hw3:pb<w3.heap.size:=Xs.o.lt;refine⟨j+1,A+1,Xb,Xv,⟨⟨O.o.trans' Xu.o (λb hb h=>?_),Yk.o.touch Xu.o Yp.o,⟨plus Sj w3,_,λb hb=>?_,Yw.o,?_⟩,Xs.o.touch Xu.o (λh=>?_)⟩⟩,by go_num⟩
     ·rcases Z.o b h with h|h
      ·exact .inr h.1
      ·have:=V.o;omega
     ·rcases hb with h|h
      ·exact Z.o b h
      ·right;omega
     ·have:=Yd.o.drop Yx HX.o.1 HX.o.2.1 (by rw[HQ,<-HX.o.2.2];exact HZ.o);rw[HQ]at this;rw[N0];exact this
     ·rcases Z.o _ h with h|h
      ·have:=V.o;omega
      ·omega
    case measure=>have:=HA.o;have:=Xb;simp[intOf];omega
   ·have d0:((N':Int)==0)=false:=by simp;exact hz
    have HZ:=ι hz;clear hz;go_wp2;go_roundw
    case rel=>
     refine⟨j+1,A+1,Xb,Xv,⟨⟨O.o,Yk.o,⟨Sj,_,Z.o,Ya.o,?_⟩,Xs.o⟩⟩,by go_num⟩;rw[N0];exact Yd.o.keep HX.o.1 HX.o.2.1 (by rw[HQ,<-HX.o.2.2];exact HZ.o)
    case measure=>have:=HA.o;have:=Xb;simp[intOf];omega
  ·obtain rfl:j=n:=Ω
   have Ym:¬(A:Int)<(f:Int)+(j:Int):=by have:=HA.o;omega
   clear I;go_wp2;refine ζt (ζk rfl _ _ _) rfl ?_;obtain⟨Sj,vx,Xe,Xa,E⟩:=HI.o.vm;exact⟨rfl,HI.o.t,HI.o.cy,vx,Xa.mono (λb hb=>(Xe b hb).imp (λh=>h.1) (λh=>by have:=V.o;omega)),E⟩
end
def XU7(s:Sl)(v:Vm):Prop:=∀p,p<v.pt.length->(v.pt.getD p 0≠0↔(∃i,i<sizes s.L/\AG s.L i/s.pg=p/\s.is i=false)\/(∃i,i<sizes s.L/\(s.cf.to+i)/s.pg=p/\s.is i=true))
theorem IZ{f g:Nat->Bool}(h:∀i,i<n->f i=true->g i=true):cnt f n<=cnt g n:=by
 induction n with
 | zero=>exact ϑ _
 | succ n ih=>
  rw[CS,CS];have h1:=ih (λi hi=>h i Ω);cases hf:f n <;> cases hg:g n <;> simp_all <;> omega
theorem XM(f g:Nat->Bool)(n:Nat):cnt (λi=>f i||g i) n<=cnt f n+cnt g n:=by
 induction n with
 | zero=>exact ϑ _
 | succ n ih=>
  rw[CS,CS,CS];cases f n <;> cases g n <;> simp <;> omega
theorem SB(a b n:Nat):cnt (λi=>decide (a<=i/\i<b)) n<=b-a:=by
 induction n with
 | zero=>exact ζc _
 | succ n ih=>
  have key:cnt (λi=>decide (a<=i/\i<b)) (n+1)<=min (n+1) b-a:=by
   clear ih
   induction n with
   | zero=>
    grind [CS,LG,ξ,ζ]
   | succ n ih=>
    grind [CS,ξ,ζ]
  omega
theorem JuW(l:List Nat)(f:Nat->Nat->Bool)(h:∀k∈l,cnt (f k) n<=m):cnt (λi=>l.any λk=>f k i) n<=l.length*m:=by
 induction l with
 | nil=>
  grind [GZ]
 | cons k r ih=>
  have h1:=ih (λj hj=>h j (ζl _ hj));have h2:=h k (ζh ..);have h3:=XM (f k) (λi=>r.any λk=>f k i) n
  grind [ζB,ξk]
theorem OP(hm:m<=l.length)(h:∀i,i<m->at_ l i=true):cnt (λk=>decide (m<=k)&&at_ l k) l.length+m=cnt (at_ l) l.length:=by
 have e:=LX (f:=λk=>decide (m<=k)&&at_ l k) (g:=λk=>decide (0<=k/\k<m)) (λi=>by
  simp_all) l.length
 rw[SS 0 m _ (ζc _) hm]at e
 grind [CV]
theorem X8(h:BM n=true):∃k:Nat,n=2 ^ k:=by
 simp[BM]at h;have:n=1\/n=2\/n=4\/n=8\/n=16\/n=32\/n=64\/n=128\/n=256\/n=512\/n=1024:=Ω
 rcases this with rfl|rfl|rfl|rfl|rfl|rfl|rfl|rfl|rfl|rfl|rfl
 all_goals first|exact⟨0,rfl⟩|exact⟨1,rfl⟩|exact⟨2,rfl⟩|exact⟨3,rfl⟩|exact⟨4,rfl⟩|exact⟨5,rfl⟩|exact⟨6,rfl⟩|exact⟨7,rfl⟩|exact⟨8,rfl⟩|exact⟨9,rfl⟩|exact⟨10,rfl⟩
theorem Zs5(hB:BM B=true)(hp:BM pg=true)(j:Nat):∃a,∀i,i/B=j->a<=i/pg/\i/pg<a+max 1 (B/pg):=by
 obtain⟨k,rfl⟩:=X8 hB;obtain⟨l,rfl⟩:=X8 hp;have h2:0<2 ^ l:=Nat.two_pow_pos l;rcases δ k l with h|h
 ·obtain⟨d,rfl⟩:∃d,l=k+d:=⟨l-k,by omega⟩;refine⟨j/2 ^ d,λi hi=>?_⟩
  grind [Nat.pow_add,Nat.div_div_eq_div_mul]
 ·obtain⟨d,rfl⟩:∃d,k=l+d:=⟨k-l,by omega⟩;have e:2 ^ (l+d)/2 ^ l=2 ^ d:=by rw[Nat.pow_add,Nat.mul_div_cancel_left _ h2]
  have h3:0<2 ^ d:=Nat.two_pow_pos d;refine⟨j*2 ^ d,λi hi=>?_⟩;have h4:i/2 ^ l/2 ^ d=j:=by grind [Nat.div_div_eq_div_mul,Nat.pow_add]
  have h5:=ζv (i/2 ^ l) (2 ^ d);rw[h4,ζW]at h5;omega
theorem Y0i(h:AE v){p0 c:Nat}(hc:p0+c<=v.pt.length):cnt (λp=>(v.pt.getD p 0 !=0)||decide (p0<=p/\p<p0+c)) v.pt.length=v.pl.used+(BZ v p0 c).length:=by
 induction c with
 | zero=>
  rw[h.us];refine CV λp _=>?_
  grind
 | succ c ih=>
  have ih:=ih Ω;rw[P5];by_cases h0:v.pt.getD (p0+c) 0=0
  ·rw[θ h0,ζo,ξh,show v.pl.used+((BZ v p0 c).length+1)=(v.pl.used+(BZ v p0 c).length)+1 by omega,<-ih];have e:=VG (f:=λp=>(v.pt.getD p 0 !=0)||decide (p0<=p/\p<p0+c)) (i:=p0+c) (n:=v.pt.length) Ω (by simp_all)
   grind
  grind
theorem Sl.ft_le(s:Sl):s.ft<=s.mv.length:=GV _ _
theorem Sl.ft_on(s:Sl)(h:i<s.ft):at_ s.mv i=true:=by
 have:=IF (λk=>!at_ s.mv k) s.mv.length i h
 simp_all
theorem Sl.ft_off(s:Sl)(h:s.ft<s.mv.length):at_ s.mv s.ft=false:=by
 have:(!at_ s.mv s.ft)=true:=GO (λk=>!at_ s.mv k) s.mv.length h
 simp_all
theorem JPr(hst:BC s)(hk:k<s.mv.length):∃(P:List Pc) (M:Nat->Nat),IH s.L s.cf.bk s.cf.to k=P/\M 0=0/\M P.length=s.hi k-s.lo k/\∀i (h:i<P.length),∃f:Nat,1<=P[i].s/\P[i].f=f/\P[i].t=((s.cf.to+(s.lo k+M i):Nat):Int)/\M (i+1)=M i+P[i].s/\s.lo k+M i+P[i].s<=s.hi k/\∀j,j<P[i].s->AG s.L (s.lo k+M i+j)=f+j:=by
 have hlh:=hst.lohi hk
 have Z:DQ s.L s.cf.bk (k:Int)=true:=by
  unfold DQ;rw[ξ Ω,ξ (by rw[<-hst.len];omega)];rfl
 obtain⟨e1,e2,-⟩:=NE (base:=(s.cf.to:Int)) Z;have ea:IE s.L s.cf.bk s.cf.to k=((s.cf.to+s.lo k:Nat):Int):=by assumption
 have ez:I5 s.L s.cf.bk s.cf.to k=((s.cf.to+s.hi k:Nat):Int):=by
  rw[e2];unfold Sl.hi;omega
 obtain⟨P,hP⟩:∃P,P=IH s.L s.cf.bk s.cf.to k:=⟨_,rfl⟩
 have hP2:P=pcs (CQ s.L s.cf.to) ((s.cf.to+s.lo k:Nat):Int) (s.hi k-s.lo k):=by
  rw[hP];unfold IH
  grind
 have hr:MA (CQ s.L s.cf.to) ((s.cf.to+s.lo k:Nat):Int) (s.hi k-s.lo k) P:=by grind [QBb]
 have X:=λi hi=>hr.ends _ i hi rfl;have h0:=XLy hr Ω;have hE:=VID P (((s.cf.to+s.lo k:Nat):Int)+((s.hi k-s.lo k:Nat):Int));obtain⟨T,hT⟩:∃T:Nat->Int,T=JV P (((s.cf.to+s.lo k:Nat):Int)+((s.hi k-s.lo k:Nat):Int)):=⟨_,rfl⟩;rw[<-hT]at h0 hE;refine⟨P,λi=>(T i-((s.cf.to+s.lo k:Nat):Int)).toNat,hP.symm,by simp_all,by grind,λi hi=>?_⟩;obtain⟨g1,g2⟩:=X i hi;have h1:T i=P[i].t:=by rw[hT];exact XS hi
 have h2:T (i+1)=P[i].t+P[i].s:=by rw[hT];exact Xv7 hr hi
 have hw:=hr.word _ (μ hi);have hp:=hr.pos _ (μ hi);obtain⟨m,hm⟩:∃m:Nat,P[i].t=((s.cf.to+(s.lo k+m):Nat):Int):=⟨(P[i].t-((s.cf.to+s.lo k:Nat):Int)).toNat,by omega⟩
 have Y:∀j,j<P[i].s->(AG s.L (s.lo k+m+j):Int)=P[i].f+j:=λj hj=>by
  rw[<-hw j hj,hm,show ((s.cf.to+(s.lo k+m):Nat):Int)+(j:Int)=((s.cf.to+(s.lo k+m+j):Nat):Int)by omega];exact(L5 Ω).1.symm
 have hf0:=Y 0 Ω;refine⟨P[i].f.toNat,hp,by omega,?_,?_,?_,λj hj=>?_⟩
 ·dsimp only;omega
 ·dsimp only;omega
 ·dsimp only;omega
 ·have:=Y j hj;dsimp only;rw[h1,show (P[i].t-((s.cf.to+s.lo k:Nat):Int)).toNat=m by omega];omega
theorem JDv(U:Nat->Bool)(i n m:Nat):CL (CL U i n) (i+n) m=CL U i (n+m):=by
 induction m with
 | zero=>rw[QQ];rfl
 | succ m ih=>grind [N0,ξE]
theorem H9.touch(h:H9 w A P)(t:AB T w w')(hT:∀a,A=some a->¬T a.block):H9 w' A P:=λi hi=>by
 obtain⟨g,rfl,h1,h2,h3,h4⟩:=h i hi;have hg:=hT _ rfl;exact⟨g,rfl,κ h1 t.size,(t.cell h1 hg _).trans h2,(t.cell h1 hg _).trans h3,(t.cell h1 hg _).trans h4⟩
theorem BJ.cu{lf ft:Nat}(h:BJ w R y q z s U ml lf ft ah)(hU:∀j,j<sizes s.L->U j=V j):BJ w R y q z s V ml lf ft ah:=by
 refine⟨h.od,h.rc,h.pl,h.ex,h.sh,?_,h.mv⟩;obtain⟨n,f,h1,h2,h3⟩:=h.wd;exact⟨n,f,h1,by grind [CV],λq=>by rw[<-Sl.on_congr hU];exact h3 q⟩
def LJ(w:World)(b o:Nat):Nat:=match w.cell? ⟨b,o,none⟩with|some v=>(intOf v).toNat|none=>0
def X3(w:World)(R S:Nat->Prop)(y q:Nat)(z:CB)(s:Sl)(k:Nat)(v:Vm)(e:Ending)(w':World):Prop:=
 e=.returned (iI 0)/\AB (λb=>R b\/S b) w w'/\Cyc w' R y q z {s with mv:=s.mv.set k true}/\∃v',AC w' (plus S w) q v'/\MP s k v v'
structure MvC(w w2 wr:World)(R S S2:Nat->Prop)(y q:Nat)(z:CB)(s:Sl)(k m:Nat)(v1:Vm)(g:Nat)(P:List Pc):Prop where
 t:AB (λb=>R b\/S b) w wr
 t2:AB S2 w2 wr
 cy:Cyc wr R y q z s
 vm:∃vx,AC wr S2 q vx/\FR s s.is (λi=>!s.is i) (s.lo k) (s.hi k) v1 vx m
 pc:H9 wr (some ⟨g,0,none⟩) P
structure MvD(w w4 wr:World)(R S S2:Nat->Prop)(y q:Nat)(z:CB)(s:Sl)(k m:Nat)(v2:Vm)(g:Nat)(P:List Pc):Prop where
 t:AB (λb=>R b\/S b) w wr
 sz:w4.heap.size<=wr.heap.size
 cy:BJ wr R y q z s (CL (λi=>!s.is i) (s.lo k) m) s.mv s.lf s.ft (s.mvd-s.ft)
 vm:∃Sj vx,(∀b,Sj b->S2 b\/w4.heap.size<=b)/\AC wr Sj q vx/\FD s (λj=>s.is j||(decide (s.lo k<=j)&&decide (j<s.lo k+(s.hi k-s.lo k)))) (λi=>!s.is i) (CL (λi=>!s.is i) (s.lo k) m) v2 vx
 pc:H9 wr (some ⟨g,0,none⟩) P
structure MvF(w8 wr:World)(R:Nat->Prop)(y q:Nat)(z:CB)(s:Sl)(U:Nat->Bool)(ml:List Bool)(l1 sm fc ac:Nat):Prop where
 cy:BJ wr R y q z s U ml l1 fc ac
 t:AB (λi=>i=y) w8 wr
 on:∀i,i<fc->at_ ml i=true
 sum:ac+fc=sm
 le:fc<=ml.length
structure MvK(w w2:World)(R S S2:Nat->Prop)(s:Sl)(k:Nat)(v1:Vm)(P:List Pc)(M:Nat->Nat):Prop where
 st:BC s
 hk:k<s.mv.length
 hm:at_ s.mv k=false
 pc:∀i (h:i<P.length),∃f:Nat,1<=P[i].s/\P[i].f=f/\P[i].t=((s.cf.to+(s.lo k+M i):Nat):Int)/\M (i+1)=M i+P[i].s/\s.lo k+M i+P[i].s<=s.hi k/\∀j,j<P[i].s->AG s.L (s.lo k+M i+j)=f+j
 ld:∀i,s.lo k<=i->i<s.hi k->v1.ldE ((s.cf.to+i:Nat):Int)=0
 tb:AQ w
 tS:¬S 1
 tR:¬R 1
 s2:∀b,S2 b->(S b/\b<w.heap.size\/w.heap.size<=b)/\b<w2.heap.size
 dis:∀k,R k->¬S k
 rl:∀k,R k->k<w.heap.size
 ww:w.heap.size<=w2.heap.size
section
variable{w2 w4:World}{S2:Nat->Prop}{M:Nat->Nat}
theorem MvK.un(h:MvK w w2 R S S2 s k v1 P M)(h1:s.lo k<=i)(h2:i<s.hi k):s.is i=false:=by
 have hN:=(h.st.lohi h.hk).2.2;have:i/s.cf.bk=k:=by simpa[Sl.inB]using (h.st.inB (k:=k) (i:=i) Ω).2 ⟨h1,h2⟩
 unfold Sl.is;rw[this];exact h.hm
theorem MvK.r2(h:MvK w w2 R S S2 s k v1 P M):∀b,R b->¬S2 b:=λb hb h2=>by
 have:=h.rl b hb;rcases(h.s2 b h2).1 with h'|h'
 ·exact h.dis b hb h'.1
 ·omega
theorem MvK.t2(h:MvK w w2 R S S2 s k v1 P M):¬S2 1:=λh2=>by
 have:=h.tb.lt;rcases(h.s2 _ h2).1 with h'|h'
 ·exact h.tS h'.1
 ·omega
theorem MvK.copy(h:MvK w w2 R S S2 s k v1 P M)(hg:w2.heap.size<=g)(hi:i<P.length)(hI:MvC w w2 wr R S S2 y q z s k (M i) v1 g P)(gW:Gr wr W):
  ∃f t:Nat,P[i].f=f/\P[i].t=t/\Calls prog 119 #[pP y,.agg #[iI f,iI t,iI (P[i].s:Nat)]] W λe w'=>e=.returned (.tuple #[])/\MvC w w2 w' R S S2 y q z s k (M (i+1)) v1 g P:=by
 obtain⟨f,h1,h2,h3,h4,h5,h6⟩:=h.pc i hi;obtain⟨vx,X,Z⟩:=hI.vm;have hN:=(h.st.lohi h.hk).2.2;have Y:AQ W:=(h.tb.touch' hI.t (λh'=>h'.elim h.tR h.tS)).touch' (gW.touch (λ_=>False)) (λh=>h);refine⟨f,_,h2,h3,(XAM (hI.cy.gr gW) h.st Y h.t2 (X.gr gW) h.r2 Z h5 hN (λi a b=>by simp[h.un a b]) h.ld h6).mono ?_⟩;rintro e w' ⟨rfl,ht,J,hv,hp⟩;refine⟨rfl,(hI.t.trans (gW.touch _)).trans' ht (λb hb hs=>?_),(hI.t2.trans (gW.touch _)).trans ht,(hI.cy.gr gW).touch ht h.r2,⟨J,hv.mono (λb hb=>hb.1),by simp_all⟩,(hI.pc.gr gW).touch ht (λa ha hs=>?_)⟩
 ·rcases(h.s2 b hs).1 with h'|h'
  ·simp_all
  ·omega
 ·cases ha;have:g<w2.heap.size:=(h.s2 _ hs).2;omega
theorem MvK.drain(h:MvK w w2 R S S2 s k v1 P M)(_hw:w2.heap.size<=w4.heap.size)(h0:w.heap.size<=w4.heap.size)(hg:w2.heap.size<=g/\g<w4.heap.size)(hi:i<P.length)(hI:MvD w w4 wr R S S2 y q z s k (M i) v2 g P)(gW:Gr wr W):
  ∃f t:Nat,P[i].f=f/\P[i].t=t/\Calls prog 120 #[pP y,.agg #[iI f,iI t,iI (P[i].s:Nat)]] W λe w'=>e=.returned (.tuple #[])/\MvD w w4 w' R S S2 y q z s k (M (i+1)) v2 g P:=by
 obtain⟨f,h1,h2,h3,h4,h5,h6⟩:=h.pc i hi;obtain⟨Sj,vx,X,V,N⟩:=hI.vm;have hN:=(h.st.lohi h.hk).2.2;have hz:=gW.size;have hzr:=hI.sz
 have Z:∀b,R b->¬Sj b:=λb hb hs=>by
  have:=h.rl b hb;rcases X b hs with h'|h'
  ·exact h.r2 b hb h'
  ·omega
 refine⟨f,_,h2,h3,(JBl (hI.cy.gr gW) h.st (V.gr gW) Z N h1 Ω (λj hj=>?_) h6).mono ?_⟩
 ·rw[Z9 Ω];simp[h.un (i:=s.lo k+M i+j) Ω Ω]
 ·rintro e w' ⟨rfl,ht,hc,Y,hv,hp⟩;rw[JDv,<-h4]at hc hp;refine⟨rfl,(hI.t.trans (gW.touch _)).trans' ht (λb hb hs=>?_),by have:=ht.size;omega,hc,⟨plus Sj W,Y,λb hb=>?_,hv,hp⟩,(hI.pc.gr gW).touch ht (λa ha hs=>?_)⟩
  ·rcases hs with hs|hs
   ·left;rw[hs];exact hI.cy.od.r3
   ·rcases X b hs with h'|h'
    ·rcases(h.s2 b h').1 with J|J
     ·simp_all
     ·omega
    ·omega
  ·rcases hb with hb|hb
   ·simp_all
   omega
  ·cases ha;rcases hs with hs|hs
   ·have h1:=h.rl _ hI.cy.od.r3;have hs:g=z.bw:=hs;have:=h.ww;omega
   ·rcases X _ hs with h'|h'
    ·have:g<w2.heap.size:=(h.s2 _ h').2;omega
    grind
end
theorem ZS2(hC:Cyc w R y q z s)(hO:BR s v)(hT:AQ w)(htS:¬S 1)(htR:¬R 1)(hV:AC w S q v)(hdis:∀k,R k->¬S k)(hk:k<s.mv.length)(hkm:at_ s.mv k=false)
  (hE:BD v ((s.cf.to+s.lo k:Nat):Int) ((s.cf.to+s.hi k:Nat):Int)=0):
  Calls prog 79 #[pP y,iI k] w (X3 w R S y q z s k v):=by
 have Y:=hO.st;have Jm:=Y.lohi hk;obtain⟨P,M,eP,M0,M1,hM⟩:=JPr Y hk
 have Jk:0<P.length:=by
  rcases ζG P.length with h|h
  ·rw[h,M0]at M1;omega
  ·exact h
 have Ui:=Y.n2;have Zg:s.cf.to+s.hi k<=v.n:=by have:=Y.fit;have:=Y.cf.ln;rw[hO.mid.n];omega
 have Jp:v.n<=524288:=by rw[hO.mid.n];exact Ui
 have Zy:DQ s.L s.cf.bk (k:Int)=true:=by
  unfold DQ;rw[ξ Ω,ξ (by rw[<-Y.len];omega)];rfl
 obtain⟨r1,r2,r3⟩:=NE (base:=(s.cf.to:Int)) Zy;have ea:IE s.L s.cf.bk s.cf.to k=((s.cf.to+s.lo k:Nat):Int):=by rw[r1];unfold Sl.lo;push_cast;rfl
 have ez:I5 s.L s.cf.bk s.cf.to k=((s.cf.to+s.hi k:Nat):Int):=by
  rw[r2];unfold Sl.hi;rw[show (k:Int)*(s.cf.bk:Int)=((k*s.cf.bk:Nat):Int)by push_cast;rfl];omega
 have hPl:P.length<=1048576:=by
  have:=ZbI Y.good Ω Y.bk.1 (base:=s.cf.to) (by have:=Y.cf.lm;have:=Y.cf.ln;omega) (k:Int);rw[eP]at this;have:=Y.bk.2;omega
 have Uh:s.mvd+s.lf=s.mv.length:=by
  unfold Sl.lf;have:s.mvd<=s.mv.length:=EJ _ _;omega
 have hml:s.mv.length<=1048576:=by rw[Y.len];have:=LQ (n:=sizes s.L) Y.bk.1;have:=Y.N_le;omega
 have Ya:({s with mv:=s.mv.set k true}:Sl).mvd=s.mvd+1:=by
  show cnt (at_ (s.mv.set k true)) (s.mv.set k true).length=_
  rw[η,JH hk hkm];rfl
 have Yn:=(λ(W:World) (g:Gr w W)=>UJ (hC.gr g).plan (k:Int));rw[ea,ez,r3]at Yn;have Za:=(λ(W:World) (g:Gr w W)=>QT (hV.cut.gr g) (s.cf.to+s.lo k) (s.cf.to+s.hi k) Zg Ω);rw[hE]at Za;have HC:=hC;have HO:=hO;have HT:=hT;have Xl:=(ψ htS htR);have HV:=hV;have Xy:=hdis;have HK:=(ψ hk (ψ hkm hE));have HP:=(ψ eP (ψ M0 (ψ M1 r3)));have HM:=hM;have Xv:=(ψ Uh Ya);have Zr:=ι hC.od.lt;obtain⟨af,Yp⟩:∃af,af=s.cf.to+s.lo k:=⟨_,rfl⟩;obtain⟨az,Zb⟩:∃az,az=s.cf.to+s.hi k:=⟨_,rfl⟩;have Xn:=ι (ψ Yp Zb);rw[<-Yp,<-Zb]at Za Yn;have x0:=hC.rc.cc 0;have x8:=hC.rc.cc 8;have xl:=hC.rc.lt;clear hC hO Y hT htS htR hV hdis hk hkm hE eP M0 M1 hM Zy r1 r2 r3 ea ez Yp Zb Zg Jp Jm Ya;go_enter func79,ntmps79
 go_upto_region 5 with(first
  | (go_at_call 116;refine(Yn _ (Gr.refl w)).mono ?_;rintro e w1 ⟨rfl,Xq⟩;have Xu:=ι Xq;have y0:=(HC.gr Xq).rc.cell (j:=0) rfl;have yl:=(HC.gr Xq).rc.lt;clear Xq)
  | (go_at_call 117;refine(Za _ Xu.o).mono ?_;rintro e w2 ⟨rfl,Zu,v1,Xg,Jh⟩;have Yy:=ι Zu;have Yg:=ι Xg;have Ub:=ι Jh;clear Zu Xg Jh))
 clear x0 x8 xl y0 yl;obtain⟨S2,Yz⟩:∃S2,S2=AD (plus (AD S w) w1) w2:=⟨_,rfl⟩;have hz1:=Xu.o.size;have hz2:=Yy.o.size
 have Jo:Hid (∀b,S2 b->(S b/\b<w.heap.size\/w.heap.size<=b)/\b<w2.heap.size):=⟨λb hb=>by
  rw[Yz]at hb
  exact⟨hb.1.imp id (λh=>by omega),hb.2⟩⟩
 have Ug:Hid (AC w2 S2 q v1):=⟨by rw[Yz];exact Ub.o.cut⟩;have Xr:Hid (Cyc w2 R y q z s):=⟨(HC.gr Xu.o).touch Yy.o (λb hb h=>Xy b hb h.1)⟩;have Xz:Hid (AB (λb=>R b\/S b) w w2):=⟨(Xu.o.touch _).trans (Yy.o.mono (λb _ h=>.inr h.1))⟩;have Zj:Hid (AQ w2):=⟨HT.touch' Xz.o (λh=>h.elim Xl.2 Xl.1)⟩
 have Xc:Hid (MvK w w2 R S S2 s k v1 P M):=⟨⟨HO.st,HK.1,HK.2.1,HM,λi h1 h2=>by
  have e:=Yg.o;rw[Xn.o.1,Xn.o.2]at e;have h3:=HO.st.lohi HK.1;have h4:=HO.st.dsts (i:=s.hi k-1) Ω;have h5:=HO.mid.n
  exact UR HO.mid.ok Ω HK.2.2 e Ω Ω,HT,Xl.1,Xl.2,Jo.o,Xy,Zr.o,by omega⟩⟩
 have Zl:Hid (FR s s.is (λi=>!s.is i) (s.lo k) (s.hi k) v1 v1 (M 0)):=⟨by rw[HP.2.1];exact FR.zero (HO.mid.grow HO.st Yg.o) _ _⟩;have Zt:=ι (Y4j Xr.o.plan Zj.o (k:Int));rw[HP.1,HP.2.2.2]at Zt;have Jg:=ι Jk;have u8:=Xr.o.rc.cc 8;have ul:=Xr.o.rc.lt;clear Yz Jk;go_upto_region 6 with(go_at_call 118;refine(Zt.o).mono ?_;rintro e w3 ⟨A,cp,rfl,Zs,Yr,Xx⟩;obtain⟨g,rfl,E,-⟩:=Yr 0 Jg.o;have Xs:=ι Zs;have Jr:=ι Yr;have Xo:Hid (w2.heap.size<=g/\g<w3.heap.size):=⟨⟨Xx _ rfl,E⟩⟩;clear Zs Yr Xx E);clear u8 ul;have Ja:Hid (MvC w w2 w3 R S S2 y q z s k (M 0) v1 g P):=⟨⟨Xz.o.trans (Xs.o.touch _),Xs.o.touch _,Xr.o.gr Xs.o,⟨v1,Ug.o.gr Xs.o,Zl.o⟩,Jr.o⟩⟩;go_upto_region 7 with(fail)
 go_loopw [46] (λs46 wr=>∃i:Nat,i<=P.length/\Hid (MvC w w2 wr R S S2 y q z s k (M i) v1 g P)/\s46=iI i) (λs46 _=>P.length-(intOf s46).toNat)
 case atStart=>exact⟨0,ζc _,Ja,rfl⟩
 case round=>
  obtain⟨i,hi,HI,rfl⟩:=hrel;clear Ja;by_cases X:i<P.length
  ·have N:=ι X;have Uk:(i:Int)<(P.length:Int):=Ω
   obtain⟨g',Xi,E,k0,k1,k2⟩:=HI.o.pc i X;cases Xi;obtain⟨f,t,ef,et,-⟩:=Xc.o.copy Xo.o.1 X HI.o (Gr.refl wr)
   have Xb:Hid (∀W,Gr wr W->Calls prog 119 #[pP y,.agg #[iI f,iI t,iI (P[i].s:Nat)]] W λe w'=>e=.returned (.tuple #[])/\MvC w w2 w' R S S2 y q z s k (M (i+1)) v1 g P):=⟨λW gW=>by
    obtain⟨f',t',Ym,Yh,h⟩:=Xc.o.copy Xo.o.1 X HI.o gW;rw[ef]at Ym;rw[et]at Yh;obtain rfl:f=f':=Ω
    obtain rfl:t=t':=Ω
    exact h⟩
   obtain⟨n,hn⟩:∃n,n=P[i].s:=⟨_,rfl⟩;rw[ef]at k0;rw[et]at k1;rw[<-hn]at k2 Xb;clear hn ef et X;have Z:=ι (Rec.new wr 195 [iI f,iI t,iI n]);simp only[List.toArray]at Z;go_upto_region 9 with(fail);obtain⟨wA,V⟩:∃wA,wA=wr.alloc (.cells #[.int .i64 f,.int .i64 t,.int .i64 n] 195):=⟨_,rfl⟩;have Xj:Gr wr wA:=by rw[V];exact(Gr.refl wr).alloc _
   have hR:=Z.o;rw[show wr.alloc (.cells ([.int .i64 f,.int .i64 t,.int .i64 n]:List Value).toArray 195)=wA from V.symm]at hR;rw[<-V];have Yf:=ι Xj;obtain⟨b0,b1,b2,bl⟩:=hR.k3;clear V Xj Z hR k0 k1 k2 E;go_wp2_with(go_at_call 119;refine(Xb.o _ Yf.o).mono ?_;rintro e w5 ⟨rfl,Xh⟩;have Yc:=ι Xh;clear Xh);go_roundw
   case rel=>exact⟨i+1,N.o,Yc,by go_num⟩
   case measure=>have:=N.o;simp[intOf];omega
  ·obtain rfl:i=P.length:=Ω
   clear X;obtain⟨w4,rfl⟩:∃w4:World,w4=wr:=⟨_,rfl⟩;obtain⟨v2,Ji,Zm⟩:=HI.o.vm;have Jt:=ι Ji;have Zh:=ι Zm;have Zi:=HI.o.t2.size
   have Zn:Hid (MvD w w4 w4 R S S2 y q z s k (M 0) v2 g P):=⟨⟨HI.o.t,ϑ _,by rw[HP.2.1,QQ];exact HI.o.cy,⟨S2,v2,λb hb=>.inl hb,Jt.o,by
    rw[HP.2.1,QQ];have:=Zh.o.mid;rw[HP.2.2.1]at this
    exact FD.zero this⟩,HI.o.pc⟩⟩
   have Zv:g<w4.heap.size:=by
    obtain⟨g',Xi,E,-⟩:=HI.o.pc 0 Jg.o;cases Xi;exact E
   have Zd:=ι Zv;clear Ji Zm Zv;go_upto_region 12 with(fail)
   go_loopw [56] (λs56 wr=>∃i:Nat,i<=P.length/\Hid (MvD w w4 wr R S S2 y q z s k (M i) v2 g P)/\s56=iI i) (λs56 _=>P.length-(intOf s56).toNat)
   case atStart=>exact⟨0,ζc _,Zn,rfl⟩
   case round=>
    obtain⟨i,hi,HD,rfl⟩:=hrel;clear Zn;by_cases X:i<P.length
    ·have N:=ι X;have Uk:(i:Int)<(P.length:Int):=Ω
     obtain⟨g',Xi,E,k0,k1,k2⟩:=HD.o.pc i X;cases Xi;obtain⟨f,t,ef,et,-⟩:=Xc.o.drain Zi Ω ⟨Xo.o.1,Zd.o⟩ X HD.o (Gr.refl wr)
     have Xb:Hid (∀W,Gr wr W->Calls prog 120 #[pP y,.agg #[iI f,iI t,iI (P[i].s:Nat)]] W λe w'=>e=.returned (.tuple #[])/\MvD w w4 w' R S S2 y q z s k (M (i+1)) v2 g P):=⟨λW gW=>by
      obtain⟨f',t',Ym,Yh,h⟩:=Xc.o.drain Zi Ω ⟨Xo.o.1,Zd.o⟩ X HD.o gW;rw[ef]at Ym;rw[et]at Yh;obtain rfl:f=f':=Ω
      obtain rfl:t=t':=Ω
      exact h⟩
     obtain⟨n,hn⟩:∃n,n=P[i].s:=⟨_,rfl⟩;rw[ef]at k0;rw[et]at k1;rw[<-hn]at k2 Xb;clear hn ef et X;have Z:=ι (Rec.new wr 195 [iI f,iI t,iI n]);simp only[List.toArray]at Z;go_upto_region 14 with(fail);obtain⟨wA,V⟩:∃wA,wA=wr.alloc (.cells #[.int .i64 f,.int .i64 t,.int .i64 n] 195):=⟨_,rfl⟩;have Xj:Gr wr wA:=by rw[V];exact(Gr.refl wr).alloc _
     have hR:=Z.o;rw[show wr.alloc (.cells ([.int .i64 f,.int .i64 t,.int .i64 n]:List Value).toArray 195)=wA from V.symm]at hR;rw[<-V];have Yf:=ι Xj;obtain⟨b0,b1,b2,bl⟩:=hR.k3;clear V Xj Z hR k0 k1 k2 E;go_wp2_with(go_at_call 120;refine(Xb.o _ Yf.o).mono ?_;rintro e w5 ⟨rfl,Xh⟩;have Yc:=ι Xh;clear Xh);go_roundw
     case rel=>exact⟨i+1,N.o,Yc,by go_num⟩
     case measure=>have:=N.o;simp[intOf];omega
    ·obtain rfl:i=P.length:=Ω
     clear X;obtain⟨w6,rfl⟩:∃w6:World,w6=wr:=⟨_,rfl⟩;obtain⟨Sj,vx,Jj,Zx,Ys⟩:=HD.o.vm;have Xa:=HD.o.cy;have hz6:=HD.o.sz;rw[HP.2.2.1]at Xa Ys;have hkI:(k:Int)<(s.mv.length:Int):=by have:=HK.1;omega
     have c4:=Xa.rc.cc 10;have cl:=Xa.rc.lt;have m0:=BP Xa.mv (J6 HK.1);have mf:=FT Xa.mv;have Ud:=(BE Xa.mv rfl).2;have Xd:=ι Xa;have Uj:=ι Zx;have Jq:=ι Ys;have Zc:=ι Jj
     have Xm:∀b,R b->¬Sj b:=λb hb h=>by
      have:=Zr.o b hb;rcases Zc.o b h with h|h
      ·exact Xc.o.r2 b hb h
      ·omega
     have Zo:=ι Xm;clear Xa Zx Ys Jj Xm;go_upto_region 17 with(fail);have Xk:=(World.ownsRow.stored Xd.o.mv k (.bool true)).1;rw[QPU]at Xk;obtain⟨w7,Yu⟩:∃w7,w7=w6.setCell ⟨z.bm,k,none⟩ (.bool true):=⟨_,rfl⟩;have Yl:AB (λi=>i=z.bm) w6 w7:=by rw[Yu];exact(AB.refl (λi=>i=z.bm) w6).setCell (a:=⟨z.bm,k,none⟩) (λ_=>rfl) _
     rw[<-Yu]at Xk⊢;have I:BJ w7 R y q z s (CL (λi=>!s.is i) (s.lo k) (s.hi k-s.lo k)) (s.mv.set k true) s.lf s.ft (s.mvd-s.ft):=Xd.o.setM (η ..) Yl (by rw[η];exact Xk);have Jw:=ι Yl;have Xw:=ι I;have e5:=I.rc.cc 11;have ef:=I.rc.free;have el:=I.rc.lt;clear Yu Xk Yl I c4 cl m0 mf Ud
     have Zw:s.mvd<s.mv.length:=by
      have:=Xv.2;have h2:({s with mv:=s.mv.set k true}:Sl).mvd<=(s.mv.set k true).length:=EJ _ _;rw[η]at h2;omega
     have Jd:s.ft<=s.mvd:=by
      have:=OP (l:=s.mv) (m:=s.ft) s.ft_le (λi hi=>s.ft_on hi)
      show s.ft<=cnt (at_ s.mv) s.mv.length
      omega
     obtain⟨l1,Je⟩:∃l1,s.lf=l1+1:=⟨s.lf-1,by omega⟩;have Js:(s.lf:Int)-1=(l1:Int):=Ω
     have Jv:=ι Je;have Jc:=ι (ψ Zw Jd);have Jy:s.lf<=1048576:=Ω
     clear Je Zw Jd;go_upto_region 18 with(fail);obtain⟨w8,Ye⟩:∃w8,w8=w7.setCell ⟨y,11,none⟩ (.int .i64 l1):=⟨_,rfl⟩;have Yo:AB (λi=>i=y) w7 w8:=by rw[Ye];exact(AB.refl (λi=>i=y) w7).setCell (a:=⟨y,11,none⟩) (λ_=>rfl) _
     have Yj:=Xw.o.rc.set 11 (iI l1);rw[<-Ye]at Yj⊢;have G:BJ w8 R y q z s (CL (λi=>!s.is i) (s.lo k) (s.hi k-s.lo k)) (s.mv.set k true) l1 s.ft (s.mvd-s.ft):=Xw.o.setR Yo Yj;have Ue:=ι Yo;have Yb:=ι G;have g7:=G.rc.cc 13;have gf:=G.rc.free;have gl:=G.rc.lt;obtain⟨a0,Yi⟩:∃a0,a0=s.mvd-s.ft:=⟨_,rfl⟩;rw[<-Yi]at g7;have ha0b:a0<=1048576:=Ω
     have Uc:=ι Yi;clear Ye Yj Yo G e5 ef el Js Jy Yi;go_upto_region 19 with(fail);obtain⟨w9,Yq⟩:∃w9,w9=w8.setCell ⟨y,13,none⟩ (.int .i64 ((a0:Int)+1)):=⟨_,rfl⟩;have Yk:AB (λi=>i=y) w8 w9:=by rw[Yq];exact(AB.refl (λi=>i=y) w8).setCell (a:=⟨y,13,none⟩) (λ_=>rfl) _
     have Yv:=Yb.o.rc.set 13 (iI ((a0:Int)+1));rw[<-Yq]at Yv⊢;have Zf:Hid (BJ w9 R y q z s (CL (λi=>!s.is i) (s.lo k) (s.hi k-s.lo k)) (s.mv.set k true) l1 s.ft (a0+1)):=⟨Yb.o.setR Yk Yv⟩;have Uf:=ι Yk;have O:(s.mv.set k true).length=s.mv.length:=η ..;obtain⟨ml,J⟩:∃ml,ml=s.mv.set k true:=⟨_,rfl⟩;have Yw:=ι J;obtain⟨Ux,Yt⟩:∃Ux,Ux=CL (λi=>!s.is i) (s.lo k) (s.hi k-s.lo k):=⟨_,rfl⟩;have Jx:=ι Yt
     have Jf:Hid (MvF w9 w9 R y q z s Ux ml l1 (s.mvd+1) s.ft (a0+1)):=⟨by rw[Yt,J];exact Zf.o,AB.refl _ _,λi hi=>by
      have h1:=s.ft_on hi
      rw[J,GA HK.1,h1];split <;> rfl,by have h1:=Uc.o;have h2:=Jc.o;omega,by rw[J,O];exact s.ft_le⟩
     rw[<-J]at O;have hmlb:ml.length<=1048576:=Ω
     have HFT:=ι s.ft_le;have HL2:=ι O;have hsm:s.mvd<=1048576:=by have:=Jc.o;omega
     have Zp:Hid (∀(wr:World) (fc ac nq:Nat),MvF w9 wr R y q z s Ux ml l1 (s.mvd+1) fc ac->first (λk=>!at_ ml k) ml.length=fc->X3 w R S y q z s k v (.returned (iI 0)) (wr.drewN nq)):=⟨λwr fc ac nq hf hx=>by
      have hy:=Xd.o.od.r1;have Zz:=Xd.o.od.r2;have Y:=HO.st;have Jm:=Y.lohi HK.1;have tw:AB (λi=>i=y\/i=z.bm) w6 (wr.drewN nq):=((((Jw.o.mono (λb _ h=>.inr h)).trans (Ue.o.mono (λb _ h=>.inl h))).trans (Uf.o.mono (λb _ h=>.inl h))).trans (hf.t.mono (λb _ h=>.inl h))).trans (((Gr.refl wr).drewN nq).touch _)
      have Xm:∀b,b=y\/b=z.bm->¬Sj b:=λb hb h=>by
       rcases hb with rfl|rfl
       ·exact Zo.o _ hy h
       ·exact Zo.o _ Zz h
      have hwn:=Xc.o.ww;have Xg:=Yg.o;rw[Xn.o.1,Xn.o.2]at Xg;have Jb:=Zh.o;rw[HP.2.2.1]at Jb
      have Zq:∀j,j<sizes s.L->CL (λi=>!s.is i) (s.lo k) (s.hi k-s.lo k) j=!(s.is j||s.inB k j):=λj hj=>by
       have h1:=Y.inB (k:=k) hj;unfold CL;cases hb:s.inB k j with
       | true=>
        obtain⟨h2,h3⟩:=h1.1 hb;rw[ξ h2,ξ Ω];simp
       | false=>
        have h4:¬(s.lo k<=j/\j<s.hi k):=λh=>by rw[h1.2 h]at hb;cases hb
        by_cases h5:s.lo k<=j
        ·rw[ζ (show ¬j<s.lo k+(s.hi k-s.lo k)by omega)];simp
        ·rw[ζ h5];simp
      have Ua:=MP.of HO HK.1 HK.2.1 HK.2.2 Xg Jb (D:=λj=>s.is j||(decide (s.lo k<=j)&&decide (j<s.lo k+(s.hi k-s.lo k)))) (λj hj=>by
       have h1:=Y.inB (k:=k) hj;cases hb:s.inB k j with
       | true=>
        obtain⟨h2,h3⟩:=h1.1 hb;rw[ξ h2,ξ Ω];rfl
       | false=>
        have h4:¬(s.lo k<=j/\j<s.hi k):=λh=>by rw[h1.2 h]at hb;cases hb
        by_cases h5:s.lo k<=j
        ·rw[ζ (show ¬j<s.lo k+(s.hi k-s.lo k)by omega),ψx]
        ·rw[ζ h5,Bool.false_and]) Zq Jq.o
      refine⟨rfl,?_,?_,vx,?_,Ua⟩
      ·exact HD.o.t.trans (tw.mono (λb _ h=>by
        rcases h with rfl|rfl
        ·exact .inl hy
        ·exact .inl Zz))
      ·have h1:BJ (wr.drewN nq) R y q z s (λi=>!({s with mv:=s.mv.set k true}:Sl).is i) ml l1 fc ac:=(hf.cy.gr ((Gr.refl wr).drewN nq)).cu (λj hj=>by rw[Jx.o,Zq j hj,Sl.is_put HK.1]);have e1:({s with mv:=s.mv.set k true}:Sl).ft=fc:=by rw[<-hx,Yw.o];rfl
       have e2:({s with mv:=s.mv.set k true}:Sl).mvd=s.mvd+1:=Xv.2
       have e3:({s with mv:=s.mv.set k true}:Sl).lf=l1:=by
        show (s.mv.set k true).length-({s with mv:=s.mv.set k true}:Sl).mvd=l1
        rw[e2,η];have:=Xv.1;have:=Jv.o;omega
       have e4:s.mvd+1-fc=ac:=by have:=hf.sum;omega
       show BJ _ R y q z {s with mv:=s.mv.set k true} _ (s.mv.set k true) _ _ _
       rw[e1,e2,e3,e4];rw[Yw.o]at h1;exact h1.same rfl rfl rfl rfl rfl
      ·refine(Uj.o.touch tw (λb hb _ h=>Xm b h hb)).mono (λb hb=>?_);rcases Zc.o b hb with h|h
       ·rcases(Xc.o.s2 b h).1 with h|h
        ·exact .inl h.1
        ·exact .inr h
       ·right;omega⟩
     clear Yq Yv Yk g7 gf gl J Yt O
     go_loopw [] (λwr=>∃fc ac:Nat,Hid (MvF w9 wr R y q z s Ux ml l1 (s.mvd+1) fc ac)) (λwr=>ml.length-LJ wr y 12)
     case atStart=>exact⟨s.ft,a0+1,Jf⟩
     case round=>
      obtain⟨fc,ac,HF⟩:=hrel;clear Jf;have q4:=HF.o.cy.rc.cc 10;have q6:=HF.o.cy.rc.cc 12;have q7:=HF.o.cy.rc.cc 13;have qf:=HF.o.cy.rc.free;have ql:=HF.o.cy.rc.lt;by_cases X:fc<ml.length
      ·have Xt:(fc:Int)<(ml.length:Int):=Ω
       have d0:decide ((fc:Int)<(ml.length:Int))=true:=ξ Xt;have n0:=BP HF.o.cy.mv (J6 X);have nl:=(BE HF.o.cy.mv rfl).2;have N:=ι X;clear X;by_cases hb:at_ ml fc=true
       ·rw[hb]at n0;have HB:=ι hb
        have Jn:1<=ac:=by
         have h1:=OP (l:=ml) (m:=fc+1) N.o (λj hj=>by
          rcases δ j fc with h|h
          ·exact HF.o.on j h
          ·obtain rfl:j=fc:=Ω
           exact HB.o)
         have h2:cnt (at_ ml) ml.length=s.mvd+1:=by
          have:=Xv.2;rw[Yw.o];exact this
         have h3:=HF.o.sum;omega
        have hsum:ac<=1048577:=by have:=HF.o.sum;omega
        obtain⟨a1,rfl⟩:∃a1,ac=a1+1:=⟨ac-1,by omega⟩;have ha1:((a1+1:Nat):Int)-1=(a1:Int):=Ω
        have Ze:(fc:Int)+1=((fc+1:Nat):Int):=Ω
        have Ul:=ι Ze;clear hb Ze Jn;go_upto_region 19 with(fail);go_quiet (fail);have Xf:=ι (HF.o.cy.gr ((Gr.refl wr).drewN nq));have Zk:Hid (AB (λi=>i=y) w9 (wr.drewN nq)):=⟨HF.o.t.trans (((Gr.refl wr).drewN nq).touch _)⟩;obtain⟨wq,Jl⟩:∃wq,wq=wr.drewN nq:=⟨_,rfl⟩;rw[<-Jl]at Xf Zk⊢;have g6:=Xf.o.rc.cc 12;have gf:=Xf.o.rc.free;have gl:=Xf.o.rc.lt;clear Jl q4 q6 q7 qf ql n0 nl d0;go_upto_region 21 with(fail);obtain⟨wp,Yd⟩:∃wp,wp=wq.setCell ⟨y,12,none⟩ (.int .i64 ((fc:Int)+1)):=⟨_,rfl⟩;have tp:AB (λi=>i=y) wq wp:=by rw[Yd];exact(AB.refl (λi=>i=y) wq).setCell (a:=⟨y,12,none⟩) (λ_=>rfl) _
        have Xp:=Xf.o.rc.set 12 (iI ((fc:Int)+1));rw[<-Yd]at Xp⊢;rw[Ul.o]at Xp;have Xe:Hid (BJ wp R y q z s Ux ml l1 (fc+1) (a1+1)):=⟨Xf.o.setR tp Xp⟩;have Ju:=ι tp;have g7:=Xe.o.rc.cc 13;have gf2:=Xe.o.rc.free;have gl2:=Xe.o.rc.lt;clear Yd tp Xp g6 gf gl;go_wp2;go_roundw
        case rel=>
         have tz:AB (λi=>i=y) wp (wp.setCell ⟨y,13,none⟩ (.int .i64 a1)):=(AB.refl (λi=>i=y) wp).setCell (a:=⟨y,13,none⟩) (λ_=>rfl) _;have Jz:=Xe.o.rc.set 13 (iI a1);refine⟨fc+1,a1,⟨⟨Xe.o.setR tz Jz,(Zk.o.trans Ju.o).trans tz,λj hj=>?_,by have:=HF.o.sum;omega,N.o⟩⟩⟩;rcases δ j fc with h|h
         ·exact HF.o.on j h
         ·obtain rfl:j=fc:=Ω
          exact HB.o
        case measure=>
         have c1:=HF.o.cy.rc.cc 12;have c2:=(Xe.o.rc.set 13 (iI a1)).cell (j:=12) rfl;unfold LJ;rw[c1,c2];have:=N.o;simp[intOf];omega
       ·have Yx:at_ ml fc=false:=by simpa using hb
        rw[Yx]at n0;have HB:=ι Yx;have HX:Hid (first (λk=>!at_ ml k) ml.length=fc):=⟨GD HF.o.le (λi hi=>by rw[HF.o.on i hi];rfl) (λ_=>by rw[HB.o];rfl)⟩;clear hb Yx;go_wp2;go_quiet (fail);go_wp2;go_ret;exact Zp.o _ _ _ _ HF.o HX.o
      ·have Xt:¬(fc:Int)<(ml.length:Int):=Ω
       have d0:decide ((fc:Int)<(ml.length:Int))=false:=ζ Xt;have d1:decide (fc<ml.length)=false:=ζ X;have HX:Hid (first (λk=>!at_ ml k) ml.length=fc):=⟨GD HF.o.le (λi hi=>by rw[HF.o.on i hi];rfl) (λh=>absurd h X)⟩;clear X Xt;go_wp2;go_quiet (fail);go_wp2;go_ret;exact Zp.o _ _ _ _ HF.o HX.o
section
variable{lf ft:Nat}
theorem QXi(hC:BJ w R y q z s U ml lf ft ah):cQ 81 #[pP y] w (iI ml.length):=by
 have c0:=hC.rc.cc 10;go_enter func81,ntmps81;go_wp2;go_ret
 simp_all
theorem VWU(hC:BJ w R y q z s U ml lf ft ah):cQ 121 #[pP y] w (iI lf):=by
 have c0:=hC.rc.cc 11;go_enter func121,ntmps121;go_wp2;go_ret
 simp_all
theorem JiW(hC:BJ w R y q z s U ml lf ft ah):cQ 80 #[pP y] w (.bool (decide (lf=0))):=by
 have HL:=(VWU hC);have hd:((lf:Int)==0)=decide (lf=0):=by grind
 go_enter func80,ntmps80;go_wp2_with(go_at_call 121;refine AK (HL) ?_);go_ret
 simp_all
theorem YCd(hC:BJ w R y q z s U ml lf ft ah):AY prog 113 #[pP y] w (iI ((s.cf.to:Int)+(sizes s.L:Nat))):=by
 obtain⟨h1,h2,h3,f,c0,c1,hF⟩:=hC.plan;have x8:=hC.rc.cc 8;have X:=(RV c0);have Y:=(MW hF);go_enter func113,ntmps113
 go_wp2_with(first
  | (go_at_call 159;refine AK (X) ?_)
  | (go_at_call 143;refine(Y).mono ?_;rintro e w2 ⟨rfl,Z⟩;have HG2:=Z))
 go_ret
 simp_all
end
def ftL(l:List Bool):Nat:=first (λk=>!at_ l k) l.length
def CC(l:List Bool):Nat:=cnt (at_ l) l.length
def C1(l:List Bool):List Bool:=if ftL l<l.length then l.set (ftL l) true else l
def GW(A k:Nat):Nat->List Bool->List Bool
 | 0,l=>l
 | n+1,l=>if ftL l<k/\A<=CC l-ftL l then GW A k n (C1 l)else l
def JB(A k:Nat)(l:List Bool):List Bool:=if at_ l k then l else (GW A k k l).set k true
theorem Q9(l:List Bool):(C1 l).length=l.length:=by unfold C1;grind
theorem JSM(A k n:Nat)(l:List Bool):(GW A k n l).length=l.length:=by
 induction n generalizing l with
 | zero=>rfl
 | succ n ih=>unfold GW;grind [Q9]
theorem LB(h:i<ftL l):at_ l i=true:=by
 have:=IF (λk=>!at_ l k) l.length i h
 simp_all
theorem JVx(h:at_ l k=false):ftL l<=k:=by
 grind [δ,LB]
theorem Vhb(h:ftL l<l.length):ftL l<ftL (C1 l):=by
 unfold C1;rw[θ h];rcases δ (ftL l) (ftL (l.set (ftL l) true))with g|g
 ·exact g
 ·exfalso;have h1:(!at_ (l.set (ftL l) true) (ftL (l.set (ftL l) true)))=true:=GO (λk=>!at_ (l.set (ftL l) true) k) _ (show ftL (l.set (ftL l) true)<_ by grind)
  grind [GA,LB]
theorem Zk8(h:at_ l k=false)(hk:ftL l<k):at_ (C1 l) k=false:=by
 unfold C1
 split
 ·rename_i g;rw[GA g,φ Ω];exact h
 ·exact h
structure SlJ(A:Sl->Vm->Prop):Prop where
 need:∀s v k,BR s v->A s v->k<s.mv.length->at_ s.mv k=false->(k=s.ft\/s.mvd-s.ft<s.cf.ah)->BD v ((s.cf.to+s.lo k:Nat):Int) ((s.cf.to+s.hi k:Nat):Int)=0
 step:∀s v k v',BR s v->A s v->k<s.mv.length->at_ s.mv k=false->(k=s.ft\/s.mvd-s.ft<s.cf.ah)->MP s k v v'->A {s with mv:=s.mv.set k true} v'
structure JI(w w':World)(R S:Nat->Prop)(y q:Nat)(z:CB)(A:Sl->Vm->Prop)(s':Sl)(v':Vm):Prop where
 t:AB (λb=>R b\/S b) w w'
 cy:Cyc w' R y q z s'
 vm:AC w' (plus S w) q v'
 ok:BR s' v'
 j:A s' v'
def Sl.step(s:Sl):Sl:={s with mv:=C1 s.mv}
def Sl.tch(s:Sl)(a:Int):Sl:={s with mv:=if inF s.L s.cf.to a then JB s.cf.ah ((a-s.cf.to).toNat/s.cf.bk) s.mv else s.mv}
theorem Sl.lf_zero(s:Sl):s.lf=0↔¬s.ft<s.mv.length:=by
 have h1:=OP (l:=s.mv) (m:=s.ft) s.ft_le (λi hi=>s.ft_on hi);have h2:s.mvd<=s.mv.length:=EJ _ _;have h3:s.mvd=cnt (at_ s.mv) s.mv.length:=rfl;constructor
 ·intro h hf;have h4:=s.ft_off hf;have h5:=JH hf h4;have h6:cnt (at_ (s.mv.set s.ft true)) s.mv.length<=s.mv.length:=EJ _ _;unfold Sl.lf at h;omega
 ·unfold Sl.lf;omega
section
variable{A:Sl->Vm->Prop}
def XD(w:World)(R S:Nat->Prop)(y q:Nat)(z:CB)(A:Sl->Vm->Prop)(s:Sl)(e:Ending)(w':World):Prop:=
 ∃v',e=.returned (.tuple #[.bool (decide (s.ft<s.mv.length)),iI 0])/\JI w w' R S y q z A s.step v'
theorem X5(hJ:SlJ A)(hC:Cyc w R y q z s)(hO:BR s v)(hA:A s v)(hT:AQ w)(htS:¬S 1)(htR:¬R 1)(hV:AC w S q v)(hdis:∀k,R k->¬S k):
  Calls prog 42 #[pP y] w (XD w R S y q z A s):=by
 have X:=s.lf_zero;have c5:=hC.rc.cc 11;have c6:=hC.rc.cc 12;have cl:=hC.rc.lt;by_cases hf:s.ft<s.mv.length
 ·have hk:=s.ft_off hf;have HM:=(ZS2 hC hO hT htS htR hV hdis hf hk (hJ.need s v s.ft hO hA hf hk (.inl rfl)))
  have HR:Hid (∀w',X3 w R S y q z s s.ft v (.returned (iI 0)) w'->XD w R S y q z A s (.returned (.tuple #[.bool true,iI 0])) w'):=⟨λw' ⟨_,ht,hc,v',hv,hm⟩=>by
   have e:s.step={s with mv:=s.mv.set s.ft true}:=by
    unfold Sl.step C1;rw[θ (show ftL s.mv<s.mv.length from hf)];rfl
   refine⟨v',by rw[ξ hf],ht,?_,hv,?_,?_⟩
   ·rw[e];exact hc
   ·rw[e];exact hm.ok
   ·rw[e];exact hJ.step s v s.ft v' hO hA hf hk (.inl rfl) hm⟩
  have hl0:s.lf≠0:=λh=>X.1 h hf;have d0:((s.lf:Int)==0)=false:=by simp;omega
  go_enter func42,ntmps42;go_wp2_with(go_at_call 79;refine(HM).mono ?_;rintro e w1 ⟨rfl,hm⟩;have Y:=hm);go_ret2;exact HR.o _ ⟨rfl,Y⟩
 ·have HR:Hid (XD w R S y q z A s (.returned (.tuple #[.bool false,iI 0])) w):=⟨by
   have e:s.step=s:=by
    unfold Sl.step C1;rw[φ (show ¬ftL s.mv<s.mv.length from hf)]
   refine⟨v,by rw[ζ hf],AB.refl _ _,?_,hV.mono (λ_ h=>.inl h),?_,?_⟩
   ·rw[e];exact hC
   ·rw[e];exact hO
   ·rw[e];exact hA⟩
  go_enter func42,ntmps42;go_wp2;go_ret2;exact HR.o
def VF(w:World)(R S:Nat->Prop)(y q:Nat)(z:CB)(A:Sl->Vm->Prop)(s:Sl)(a:Int)(e:Ending)(w':World):Prop:=
 ∃v',e=.returned (iI 0)/\JI w w' R S y q z A (s.tch a) v'
structure KX(w wr:World)(R S:Nat->Prop)(y q:Nat)(z:CB)(A:Sl->Vm->Prop)(s:Sl)(k n:Nat)(l:List Bool):Prop where
 t:AB (λb=>R b\/S b) w wr
 cy:Cyc wr R y q z {s with mv:=l}
 vm:∃Sj v',(∀b,Sj b->(S b/\b<w.heap.size)\/w.heap.size<=b)/\AC wr Sj q v'/\BR {s with mv:=l} v'/\A {s with mv:=l} v'
 len:l.length=s.mv.length
 un:at_ l k=false
 run:GW s.cf.ah k n l=GW s.cf.ah k k s.mv
 n:k-ftL l<=n
theorem KX.step(h:KX w wr R S y q z A s k n l)(hJ:SlJ A)(g:Gr wr W)(hT:AQ w)(htS:¬S 1)(htR:¬R 1)(hdis:∀k,R k->¬S k)(hlt:∀k,R k->k<w.heap.size)(hk:k<s.mv.length)(h1:ftL l<k)(h2:s.cf.ah<=CC l-ftL l):
  Calls prog 42 #[pP y] W λe w'=>e=.returned (.tuple #[.bool true,iI 0])/\∃n',KX w w' R S y q z A s k n' (C1 l)/\ftL l<ftL (C1 l):=by
 obtain⟨Sj,v',V,hv,ho,ha⟩:=h.vm;have hz:=h.t.size;have hf:ftL l<l.length:=by rw[h.len];omega
 have J:AQ W:=(hT.touch' h.t (λh'=>h'.elim htR htS)).touch' (g.touch (λ_=>False)) (λh=>h);have htl:=hT.lt;refine(X5 hJ (h.cy.gr g) ho ha J (λh'=>?_) htR (hv.gr g) (λb hb h'=>?_)).mono ?_
 ·grind
 ·grind
 ·rintro e w' ⟨Z,rfl,X⟩;have hgz:=g.size;have Y:=Vhb hf;obtain⟨n',rfl⟩:∃n',n=n' + 1:=⟨n-1,by have:=h.n;omega⟩;refine⟨by rw[show decide (({s with mv:=l}:Sl).ft<({s with mv:=l}:Sl).mv.length)=true from ξ hf],n',⟨?_,X.cy,⟨plus Sj W,Z,λb hb=>?_,X.vm,X.ok,X.j⟩,by rw[Q9];exact h.len,Zk8 h.un h1,?_,by have:=h.n;omega⟩,Y⟩
  ·refine(h.t.trans (g.touch _)).trans' X.t (λb hb hs=>?_)
   grind
  ·rcases hb with h|h
   ·exact V b h
   omega
  ·rw[<-h.run]
   show _=(if ftL l<k/\s.cf.ah<=CC l-ftL l then GW s.cf.ah k n' (C1 l)else l)
   simp_all
theorem KX.fin{a:Int}(h:KX w wr R S y q z A s k n l)(hJ:SlJ A)(g:Gr wr W)(hT:AQ w)(htS:¬S 1)(htR:¬R 1)(hdis:∀k,R k->¬S k)(hlt:∀k,R k->k<w.heap.size)(hk:k<s.mv.length)(hm:at_ s.mv k=false)(hc:¬(ftL l<k/\s.cf.ah<=CC l-ftL l))(he:s.tch a={s with mv:=JB s.cf.ah k s.mv}):
  Calls prog 79 #[pP y,iI k] W λe w'=>e=.returned (iI 0)/\VF w R S y q z A s a (.returned (iI 0)) w':=by
 obtain⟨Sj,v',O,hv,ho,ha⟩:=h.vm;have hz:=h.t.size;have hgz:=g.size;have V:AQ W:=(hT.touch' h.t (λh'=>h'.elim htR htS)).touch' (g.touch (λ_=>False)) (λh=>h);have htl:=hT.lt;have X:k<({s with mv:=l}:Sl).mv.length:=by rw[h.len];exact hk
 have hfk:=JVx h.un
 have Y:k=({s with mv:=l}:Sl).ft\/({s with mv:=l}:Sl).mvd-({s with mv:=l}:Sl).ft<({s with mv:=l}:Sl).cf.ah:=by
  rcases δ (ftL l) k with h'|h'
  ·right
   show CC l-ftL l<s.cf.ah
   omega
  ·left
   show k=ftL l
   omega
 refine(ZS2 (h.cy.gr g) ho V (λh'=>?_) htR (hv.gr g) (λb hb h'=>?_) X h.un (hJ.need _ _ k ho ha X h.un Y)).mono ?_
 ·grind
 ·grind
 ·rintro e w' ⟨rfl,ht,hcy,Z,N,J⟩
  have er:GW s.cf.ah k n l=l:=by
   cases n with
   | zero=>rfl
   | succ n=>unfold GW;grind
  have et:s.tch a={s with mv:=l.set k true}:=by
   rw[he];unfold JB;rw[φ (by simp_all),<-h.run,er]
  refine⟨rfl,Z,rfl,?_,by simp_all,N.mono (λb hb=>?_),by rw[et];exact J.ok,by rw[et];exact hJ.step _ _ k Z ho ha X h.un Y J⟩
  ·refine(h.t.trans (g.touch _)).trans' ht (λb hb hs=>?_)
   grind
  ·rcases hb with h|h
   ·rcases O b h with h|h
    ·exact .inl h.1
    ·exact .inr h
   ·right;omega
theorem Qym(hJ:SlJ A)(hC:Cyc w R y q z s)(hO:BR s v)(hA:A s v)(hT:AQ w)(htS:¬S 1)(htR:¬R 1)(hV:AC w S q v)(hdis:∀k,R k->¬S k)(a:Int)(ha:a<=9223372036854775807):
  Calls prog 261 #[pP y,iI a] w (VF w R S y q z A s a):=by
 have N:=(ZAe hC.plan hT a ha);have c8:=hC.rc.cc 8;have cl:=hC.rc.lt;have I:Hid (s.tch a=s->VF w R S y q z A s a (.returned (iI 0)) w):=⟨λe=>⟨v,rfl,AB.refl _ _,by rw[e];exact hC,hV.mono (λ_ h=>.inl h),by rw[e];exact hO,by rw[e];exact hA⟩⟩;cases hin:inF s.L s.cf.to a with
 | false=>
  have e:s.tch a=s:=by unfold Sl.tch;rw[hin];rfl
  have HE:=(I.o e);obtain⟨-,-,e3⟩:=MB hin;rw[e3]at N;obtain⟨bv,Xo⟩:∃bv,bv=G2 s.L s.cf.to s.cf.bk a:=⟨_,rfl⟩;rw[<-Xo]at N;clear hC hO hA hT htS htR hV hdis hJ hin e e3 Xo I;go_enter func261,ntmps261;go_wp2_with(go_at_call 262;refine(N).mono ?_;rintro e w1 ⟨rfl,X⟩;have Y:=X;clear X);go_ret;obtain⟨v',e1,h⟩:=HE;exact⟨v',rfl,h.t.trans (Y.touch _),h.cy.gr Y,h.vm.gr Y,h.ok,h.j⟩
 | true=>
  have J:=hO.st;obtain⟨i,rfl⟩:∃i:Nat,a=((s.cf.to+i:Nat):Int):=⟨(a-s.cf.to).toNat,by have:=(FH.1 hin).1;omega⟩;have Xd:i<sizes s.L:=by have:=(FH.1 hin).2;omega
  obtain⟨k,hk⟩:∃k,k=i/s.cf.bk:=⟨_,rfl⟩;have G:k<s.mv.length:=by rw[hk];exact J.blk Xd
  have Xq:G2 s.L s.cf.to s.cf.bk ((s.cf.to+i:Nat):Int)=(k:Int):=by
   unfold G2;rw[hin,θ rfl,show ((s.cf.to+i:Nat):Int)-(s.cf.to:Int)=(i:Int)by omega,hk];rfl
  rw[Xq,(L5 Xd).2]at N
  have Z:s.tch ((s.cf.to+i:Nat):Int)={s with mv:=JB s.cf.ah k s.mv}:=by
   unfold Sl.tch;rw[hin,θ rfl,show (((s.cf.to+i:Nat):Int)-(s.cf.to:Int)).toNat=i by omega,<-hk]
  have Xt:(k:Int)<(s.mv.length:Int):=Ω
  have hml:s.mv.length<=1048576:=by rw[J.len];have:=LQ (n:=sizes s.L) J.bk.1;have:=J.N_le;have:=J.n2;omega
  have Xz:=(FH.1 hin);have O:=Z;obtain⟨a,Xk⟩:∃a:Int,a=((s.cf.to+i:Nat):Int):=⟨_,rfl⟩;rw[<-Xk]at N I Z O⊢;clear hin hk Xq Xz;by_cases hm:at_ s.mv k=true
  ·have e:s.tch a=s:=by
    rw[Z];unfold JB;rw[θ hm]
   have HE:=(I.o e);have HX:=(λ(W:World) (g:Gr w W)=>(hC.gr g).rc.cell (j:=10) rfl);have Xi:=(λ(W:World) (g:Gr w W)=>(hC.gr g).rc.lt);have Xb:=(λ(W:World) (g:Gr w W)=>BP (hC.gr g).mv (J6 G));have Xh:=(λ(W:World) (g:Gr w W)=>(BE (hC.gr g).mv rfl).2);rw[hm]at Xb;clear hC hO hA hT htS htR hV hdis hJ J Xd Xk Z O e I hm G;go_enter func261,ntmps261;go_wp2_with(go_at_call 262;refine(N).mono ?_;rintro e w1 ⟨rfl,X⟩;have Y:=X;have y4:=HX _ X;have yl:=Xi _ X;have y5:=Xb _ X;have y6:=Xh _ X;clear X);go_ret;obtain⟨v',e1,h⟩:=HE;exact⟨v',rfl,h.t.trans (Y.touch _),h.cy.gr Y,h.vm.gr Y,h.ok,h.j⟩
  ·have hm:at_ s.mv k=false:=by simpa using hm
   have HX:=(λ(W:World) (g:Gr w W)=>(hC.gr g).rc.cell (j:=10) rfl);have Xi:=(λ(W:World) (g:Gr w W)=>(hC.gr g).rc.lt);have Xb:=(λ(W:World) (g:Gr w W)=>BP (hC.gr g).mv (J6 G));have Xh:=(λ(W:World) (g:Gr w W)=>(BE (hC.gr g).mv rfl).2);rw[hm]at Xb;have Xw:Hid (∀W,Gr w W->KX w W R S y q z A s k k s.mv):=⟨λW g=>⟨g.touch _,hC.gr g,⟨AD S w,v,λb hb=>.inl hb,hV.cut.gr g,hO,hA⟩,rfl,hm,rfl,by omega⟩⟩;have HS:=(ψ hT (ψ htS (ψ htR (ψ hdis (ψ hC.od.lt G)))));have HJ:=hJ;have hahb:s.cf.ah<=16:=J.cf.ah;have HM:=hm;clear hC hO hA hT htS htR hV hdis hJ J Xd Xk Z I hm G;go_enter func261,ntmps261;go_upto_region 6 with(go_at_call 262;refine(N).mono ?_;rintro e w1 ⟨rfl,X⟩;have Y:=X;have y4:=HX _ X;have yl:=Xi _ X;have y5:=Xb _ X;have y6:=Xh _ X;clear X);clear y4 yl y5 y6 c8 cl
   go_loopw [] (λwr=>∃(n:Nat) (l:List Bool),Hid (KX w wr R S y q z A s k n l)) (λwr=>k-LJ wr y 12)
   case atStart=>exact⟨k,s.mv,⟨Xw.o _ Y⟩⟩
   case round=>
    obtain⟨n,l,HI⟩:=hrel;have q6:wr.cell? ⟨y,12,none⟩=some (iI (ftL l:Nat)):=HI.o.cy.rc.cc 12;have q7:wr.cell? ⟨y,13,none⟩=some (iI (CC l-ftL l:Nat)):=HI.o.cy.rc.cc 13;have qa:=HI.o.cy.rc.cc 7;have ql:=HI.o.cy.rc.lt;obtain⟨fc,Xc⟩:∃fc,fc=ftL l:=⟨_,rfl⟩;obtain⟨ac,Xe⟩:∃ac,ac=CC l-fc:=⟨_,rfl⟩;have Xu:=ι Xc;rw[<-Xc]at q6 q7;rw[<-Xe]at q7;have Xs:Hid (ac=CC l-ftL l):=⟨by rw[Xe,Xc]⟩;clear Xc Xe;by_cases V:fc<k
    ·have Xm:(fc:Int)<(k:Int):=Ω
     have d0:decide ((fc:Int)<(k:Int))=true:=ξ Xm;have Xy:decide (fc<k)=true:=ξ V;by_cases E:s.cf.ah<=ac
     ·have d1:decide ((s.cf.ah:Int)<=(ac:Int))=true:=ξ Ω;have Ya:decide (s.cf.ah<=ac)=true:=ξ E;have Xj:Hid (ftL l<k/\s.cf.ah<=CC l-ftL l):=⟨by rw[<-Xu.o];exact V,by rw[<-Xs.o];exact E⟩;clear V E;go_wp2;go_quiet (fail);have Yb:=(HI.o.step HJ ((Gr.refl wr).drewN nq) HS.1 HS.2.1 HS.2.2.1 HS.2.2.2.1 HS.2.2.2.2.1 HS.2.2.2.2.2 Xj.o.1 Xj.o.2);go_wp2_with(go_at_call 42;refine(Yb).mono ?_;rintro e w5 ⟨rfl,n',Xv,Xr⟩;have Xp:=ι Xv;have Xx:=Xr;clear Xv Xr);go_roundw
      case rel=>exact⟨n',C1 l,Xp⟩
      case measure=>
       have c1:wr.cell? ⟨y,12,none⟩=some (iI (ftL l:Nat)):=HI.o.cy.rc.cc 12;have c2:w5.cell? ⟨y,12,none⟩=some (iI (ftL (C1 l):Nat)):=Xp.o.cy.rc.cc 12;have:=Xx;have:=Xj.o.1;unfold LJ;rw[c1,c2];simp[intOf];omega
     ·have d1:decide ((s.cf.ah:Int)<=(ac:Int))=false:=ζ Ω;have Ya:decide (s.cf.ah<=ac)=false:=ζ E;have Xl:Hid (¬(ftL l<k/\s.cf.ah<=CC l-ftL l)):=⟨λh=>E (by rw[Xs.o];exact h.2)⟩;clear V E;go_wp2;have n0:=BP HI.o.cy.mv (J6 (show k<l.length by rw[HI.o.len];exact HS.2.2.2.2.2));rw[HI.o.un]at n0;have n4:=HI.o.cy.rc.cc 10;have nl:=(BE HI.o.cy.mv rfl).2;have Xn:(k:Int)<(({s with mv:=l}:Sl).mv.length:Int):=by show (k:Int)<(l.length:Int);rw[HI.o.len];exact Xt
      go_quiet (fail);have Xg:=(HI.o.fin HJ ((Gr.refl wr).drewN nq) HS.1 HS.2.1 HS.2.2.1 HS.2.2.2.1 HS.2.2.2.2.1 HS.2.2.2.2.2 HM Xl.o O);go_wp2_with(go_at_call 79;refine(Xg).mono ?_;rintro e w5 ⟨rfl,Xa⟩;have Xf:=Xa;clear Xa);go_ret;exact Xf
    ·have d0:decide ((fc:Int)<(k:Int))=false:=ζ Ω;have Xy:decide (fc<k)=false:=ζ V;have Xl:Hid (¬(ftL l<k/\s.cf.ah<=CC l-ftL l)):=⟨λh=>V (by rw[Xu.o];exact h.1)⟩;clear V;go_wp2;have n0:=BP HI.o.cy.mv (J6 (show k<l.length by rw[HI.o.len];exact HS.2.2.2.2.2));rw[HI.o.un]at n0;have n4:=HI.o.cy.rc.cc 10;have nl:=(BE HI.o.cy.mv rfl).2;have Xn:(k:Int)<(({s with mv:=l}:Sl).mv.length:Int):=by show (k:Int)<(l.length:Int);rw[HI.o.len];exact Xt
     go_quiet (fail);have Xg:=(HI.o.fin HJ ((Gr.refl wr).drewN nq) HS.1 HS.2.1 HS.2.2.1 HS.2.2.2.1 HS.2.2.2.2.1 HS.2.2.2.2.2 HM Xl.o O);go_wp2_with(go_at_call 79;refine(Xg).mono ?_;rintro e w5 ⟨rfl,Xa⟩;have Xf:=Xa;clear Xa);go_ret;exact Xf
end
end Go.Proofs.YtggjoonlcjjgkaaGreatDoor
