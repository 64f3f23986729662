/- Lemmas. -/
import Derived.Test.YtcihfnpokdbfpaaGreatDoorTwoI
namespace Go.Proofs.YtcihfnpokdbfpaaGreatDoor
open _root_.Go.Proofs.Tryz
set_option maxHeartbeats 12800000
set_option maxRecDepth 100000
open Go.RowKit Go.Shelf Word
variable{z:CH}{blk cyc:Int}{l l':List Bool}{O:List Int}{L:List Ob}{M W a b cp cr f g i j k lf nb p q0 r t0 top x y:Nat}{m:Nat->Bool}{R Sv T X X':Nat->Prop}{A0:Option Addr}{cy o:Option Nat}{s s':Sl}{u u' v v' v1 v2:Vm}{w w':World}
section
variable{S:Nat->Prop}{q:Nat}{A:Sl->Vm->Prop}
def ZAh(w:World)(R S:Nat->Prop)(y q:Nat)(z:CH)(A:Sl->Vm->Prop)(s:Sl)(a:Int)(e:Ending)(w':World):Prop:=
 ∃v',e=.returned (.tuple #[uU (v'.ldV a:Nat),iI (v'.ldE a)])/\KP w w' R S y q z A (s.tch a) v'
theorem KP.gr{w1:World}(h:KP w w1 R S y q z A s' v')(g:Gr w1 w'):KP w w' R S y q z A s' v':=
 ⟨h.t.trans (g.touch _),h.cy.gr g,h.vm.gr g,h.ok,h.j⟩
theorem QeN(hJ:SlJ A)(hC:Cyc w R y q z s)(hO:BV s v)(hA:A s v)(hT:AQ w)(htS:¬S 1)(htR:¬R 1)(hV:AE w S q v)(hdis:∀k,R k->¬S k)(a:Int)(ha:a<=9223372036854775807):Calls prog 324 #[pP y,iI a] w (ZAh w R S y q z A s a):=by
 have HT:=(Qym hJ hC hO hA hT htS htR hV hdis a ha);go_in;go_upto_region 4 with(go_at_call 326;refine(HT).mono ?_;rintro e w1 ⟨v',rfl,hf⟩;have c0:=hf.cy.rc.cc 0);have Y:=(KX hf.vm a);go_wp2_with(go_at_call 206;refine Qa (Y) λw2 J=>?_);go_ret2;exact⟨v',by rfl,hf.gr J⟩
def JaS(w:World)(R S:Nat->Prop)(y q:Nat)(z:CH)(A:Sl->Vm->Prop)(s:Sl)(a:Int)(x:Nat)(e:Ending)(w':World):Prop:=
 ∃v',e=.returned (iI (v'.ldE a))/\AB (λb=>R b\/S b) w w'/\Cyc w' R y q z (s.tch a)/\AE w' (plus S w) q (v'.st a x)/\BV (s.tch a) v'/\A (s.tch a) v'
theorem ZaI(hJ:SlJ A)(hC:Cyc w R y q z s)(hO:BV s v)(hA:A s v)(hT:AQ w)(htS:¬S 1)(htR:¬R 1)(hV:AE w S q v)(hdis:∀k,R k->¬S k)(a:Int)(ha:a<=9223372036854775807)(hx:x<18446744073709551616):Calls prog 325 #[pP y,iI a,uU x] w (JaS w R S y q z A s a x):=by
 have HT:=(Qym (S:=AD S w) hJ hC hO hA hT (λh=>htS h.1) htR hV.cut (λk h h'=>hdis k h h'.1) a ha);have HR:=(ξ hC.od.lt hdis);go_in;go_upto_region 4 with(go_at_call 326;refine(HT).mono ?_;rintro e w1 ⟨v',rfl,hf⟩;have c0:=hf.cy.rc.cc 0);have Z:=(NT hf.vm.cut a hx);obtain⟨er,Y⟩:=ε (v'.ldE a);rw[<-Y]at Z;have I:=ι Y;clear Y;go_wp2_with(go_at_call 207;refine Qa (Z) λw2⟨J,V⟩=>?_;have N:=V);go_ret;refine⟨v',by rw[I.o];rfl,(hf.t.mono (λb _ h=>h.imp id (λh=>h.1))).trans' J (λb hb h=>?_),hf.cy.touch J (λb hb h=>?_),N.mono (λb hb=>?_),hf.ok,hf.j⟩
 ·rcases h.1 with h|h
  ·exact .inr h.1
  ·omega
 ·have:=HR.1 b hb;rcases h.1 with h|h
  ·exact HR.2 b hb h.1
  ·omega
 ·rcases hb.1 with h|h
  ·exact .inl h.1
  ·exact .inr h
def Sl.pkV(s:Sl)(v:Vm)(a:Int):Nat:=if inF s.L s.cf.to a then s.c (a-s.cf.to).toNat else v.ldV a
def Sl.pkE(s:Sl)(v:Vm)(a:Int):Int:=if inF s.L s.cf.to a then 0 else v.ldE a
theorem XMX(hC:Cyc w R y q z s)(hO:BV s v)(hT:AQ w)(hV:AE w S q v)(a:Int)(ha:a<=9223372036854775807):
  BB prog 330 #[pP y,iI a] w (.tuple #[uU (s.pkV v a:Nat),iI (s.pkE v a)]):=by
 have N:=ι (ZAe hC.plan hT a ha);have Xa:=ι (λ(W:World) (g:Gr w W)=>KX (hV.gr g) a);have c8:=hC.rc.cc 8;have cl:=hC.rc.lt;have Xr:=ι (λ(W:World) (g:Gr w W)=>(hC.gr g).rc.cell (j:=0) rfl);have Xg:=ι (λ(W:World) (g:Gr w W)=>(hC.gr g).rc.lt);obtain⟨pv,G⟩:=ε (s.pkV v a);obtain⟨pe,D⟩:=ε (s.pkE v a);rw[<-G,<-D];cases hin:inF s.L s.cf.to a with
 | false=>
  have e1:v.ldV a=pv:=by rw[G];unfold Sl.pkV;rw[hin];rfl
  have e2:v.ldE a=pe:=by rw[D];unfold Sl.pkE;rw[hin];rfl
  rw[e1,e2]at Xa;rw[(N4 hin).2.2]at N;obtain⟨bv,Xq⟩:=ε (IN s.L s.cf.to s.cf.bk a);rw[<-Xq]at N;clear hC hO hT hV hin G D e1 e2 Xq;unfold BB;go_enter func330,ntmps330
  go_wp2_with(first|(go_at_call 327;refine Qa (N.o) λw1 Y=>?_;have I:=ι Y;have y0:=Xr.o _ Y;have yl:=Xg.o _ Y;clear Y)|(go_at_call 206;refine Qa (Xa.o _ I.o) λw2 Xc=>?_;have Xm:=ι (I.o.trans Xc);clear Xc))
  go_ret2;exact⟨rfl,Xm.o⟩
 | true=>
  have J:=hO.st;obtain⟨i,rfl⟩:∃i:Nat,a=((s.cf.to+i:Nat):Int):=⟨(a-s.cf.to).toNat,by have:=(F6.1 hin).1;omega⟩;have Z:i<AC s.L:=by have:=(F6.1 hin).2;omega
  have e1:s.c i=pv:=by rw[G];unfold Sl.pkV;rw[hin,θ rfl,show (((s.cf.to+i:Nat):Int)-(s.cf.to:Int)).toNat=i by omega]
  have e2:(0:Int)=pe:=by rw[D];unfold Sl.pkE;rw[hin];rfl
  obtain⟨k,hk⟩:=ε (i/s.cf.bk);have Xj:k<s.mv.length:=by rw[hk];exact J.blk Z
  have Xn:IN s.L s.cf.to s.cf.bk ((s.cf.to+i:Nat):Int)=(k:Int):=by
   unfold IN;rw[hin,θ rfl,show ((s.cf.to+i:Nat):Int)-(s.cf.to:Int)=(i:Int)by omega,hk];rfl
  rw[Xn,(NS Z).2]at N;have B:s.is i=at_ s.mv k:=by unfold Sl.is;rw[hk]
  have hkI:(k:Int)<(s.mv.length:Int):=Ω
  have HX:=ι (λ(W:World) (g:Gr w W)=>(hC.gr g).rc.cell (j:=10) rfl);have Xe:=ι (λ(W:World) (g:Gr w W)=>BU (hC.gr g).mv (LP Xj));have Xp:=ι (λ(W:World) (g:Gr w W)=>(A9 (hC.gr g).mv rfl).2);cases hm:at_ s.mv k with
  | true=>
   rw[hm]at Xe B;obtain⟨d1,d2⟩:=hO.mid.dst i Z B;rw[d1,d2,e1]at Xa;obtain⟨a,Xb⟩:=ε (((s.cf.to+i:Nat):Int):Int);rw[<-Xb]at N Xa⊢;subst e2;clear hC hO hT hV hin G D e1 hk Xj Xn B hm d1 d2 Xb J Z;unfold BB;go_enter func330,ntmps330
   go_wp2_with(first|(go_at_call 327;refine Qa (N.o) λw1 Y=>?_;have I:=ι Y;have y0:=Xr.o _ Y;have yl:=Xg.o _ Y;have y4:=HX.o _ Y;have y5:=Xe.o _ Y;have y6:=Xp.o _ Y;clear Y)|(go_at_call 206;refine Qa (Xa.o _ I.o) λw2 Xc=>?_;have Xm:=ι (I.o.trans Xc);clear Xc))
   go_ret2;exact⟨rfl,Xm.o⟩
  | false=>
   rw[hm]at Xe B;obtain⟨m1,m2,m3⟩:=hO.mid.src i Z (by show (!s.is i)=true;rw[B];rfl);obtain⟨j,hj,p',f',k',g1,g2,g3⟩:=Zm8 J Z rfl;obtain⟨o1,o2,o3⟩:=QGb J Z rfl g3;obtain⟨sa,Xl⟩:=ε (AI s.L i);rw[<-Xl]at m1 m2 m3 g1 g3 o1;have hsl:sa<=1048576:=by have:=(J.srcs Z).2.2;have:=J.n2;omega
   obtain⟨st,V⟩:=ε (s.L[j].1)
   have hsts:st<=sa:=by
    obtain⟨j',hj',q1,q2,q3,q4,q5⟩:=g3;rw[V];omega
   have Xi:=ι (λ(W:World) (g:Gr w W)=>Ji2 (f:=f') (k:=k') (hC.gr g) J (hV.gr g) (p:=p') o3 (a:=sa) (st:=st) (m:=sa-st) Ω Ω (λh=>m3 ⟨by rw[o1,<-V];exact h.1,by rw[o1,o2,<-V];show ((sa-st:Nat):Int)<=(p':Int);omega⟩))
   have Xh:cvH s.L s.cf.to ⟨p',f',k'⟩ (sa-st) (v.ldV (sa:Nat))=pv:=by
    rw[<-e1,<-m2];unfold Sl.cv;rw[o1,o2,V]
   rw[Xh]at Xi;have Xd:=ι (λ(W:World) (g:Gr w W)=>LX (hC.gr g).ex (g.tab hT.lt hT) (sa:Int));rw[g1,PT hj]at Xd
   have Xk:=ι (λ(W:World) (g:Gr w W)=>by
    obtain⟨h1,h2,h3,f,c0,c1,hF⟩:=(hC.gr g).plan
    exact Exists.intro f (ξ (UG c0) (λ(W':World) (g':Gr W W')=>OS (hF.gr g') ((g.trans g').tab hT.lt hT) ((s.cf.to+i:Nat):Int) ha)))
   rw[(NS Z).1,(NS Z).2,<-Xl]at Xk;have Xf:=ι (λ(W:World) (g:Gr w W)=>QJG (hC.gr g).sh hj (by have:=(J.good.sz _ (χ hj)).2;have:=J.n2;omega));rw[g2]at Xf;rw[<-V]at Xf Xd;obtain⟨sz,Xv⟩:=ε (s.L[j].2);rw[<-Xv]at Xd;unfold AO at Xf Xi;have Xy:=ι (λ(W:World) (g:Gr w W)=>(hC.gr g).rc.cell (j:=9) rfl);have Yb:=ι (λ(W:World) (g:Gr w W)=>(hC.gr g).rc.cell (j:=8) rfl);have Xs:=ι (λ(W:World) (g:Gr w W)=>(hC.gr g).rc.cell (j:=15) rfl);obtain⟨a,Xb⟩:=ε (((s.cf.to+i:Nat):Int):Int);rw[<-Xb]at N Xk⊢;subst e2;clear hC hO hT hV hin G D e1 hk Xj Xn B hm m1 m2 m3 g1 g2 g3 o1 o2 o3 Xl V Xh Xv Xb J Z hj;unfold BB;go_enter func330,ntmps330;go_upto_region 6 with(go_at_call 327;refine Qa (N.o) λw1 Y=>?_;have I:=ι Y;have y4:=HX.o _ Y;have y5:=Xe.o _ Y;have y6:=Xp.o _ Y;have y8:=Yb.o _ Y;have yl:=Xg.o _ Y;clear Y);obtain⟨fp,Xu,Xo⟩:=Xk.o _ I.o;have Ya:=ι Xu;have Xw:=ι Xo;clear Xu Xo y4 y5 y6
   go_upto_region 7 with(first|(go_at_call 187;refine AJ (Ya.o) ?_)|(go_at_call 293;refine Qa (Xw.o _ (Gr.refl w1)) λw3 Xt=>?_;have E:=ι (I.o.trans Xt);clear Xt))
   have q9:=Xy.o _ E.o;have q15:=Xs.o _ E.o;have ql:=Xg.o _ E.o;have hlk:=Xf.o _ E.o;clear y8 yl c8 cl
   go_wp2_with(first|(go_at_call 252;refine AJ (Xd.o _ E.o) ?_)|(go_at_call 265;refine Qa (Xi.o _ E.o) λw5 Xx=>?_;have Xz:=ι (E.o.trans Xx);clear Xx))
   go_ret2;exact⟨rfl,Xz.o⟩
end
theorem BV.store(h:BV s v)(hi:i<AC s.L)(hm:s.is i=true)(hx:x<18446744073709551616):BV {s with c:=λj=>if j=i then x else s.c j} (v.st ((s.cf.to+i:Nat):Int) x):=by
 obtain⟨d1,d2⟩:=h.mid.dst i hi hm;have Y:=h.mid.ok.st_ldV x d1;have hs:=h.st;refine⟨⟨hs.pg,hs.n2,hs.cf,hs.good,hs.inn,hs.fit,hs.hd,hs.len⟩,⟨h.mid.ok.st _ hx,(BW.st v _ x).n.trans h.mid.n,(BW.st v _ x).pg.trans h.mid.pg,λj hj hu=>?_,λj hj hd=>?_⟩⟩
 ·have J:(!s.is j)=true:=hu;obtain⟨h1,h2,h3⟩:=h.mid.src j hj J;have Z:j≠i:=λe=>by simp_all
  have ha:(((s.cf.to+i:Nat):Int)≠(AI s.L j:Nat)):=λe=>hs.apart ⟨(hs.srcs hj).1,(hs.srcs hj).2.1⟩ ⟨ζT _ i,(hs.dsts hi).1⟩ (by grind)
  show (v.st _ x).ldE _=0/\s.cv j _=(if j=i then x else s.c j)/\_
  rw[GO,Y,ψ ha,ψ Z];exact⟨h1,h2,h3⟩
 ·show (v.st _ x).ldE _=0/\(v.st _ x).ldV _=(if j=i then x else s.c j)
  rw[GO,Y];by_cases e:j=i
  ·simp_all
  ·show v.ldE ((s.cf.to+j:Nat):Int)=0/\(if ((s.cf.to+i:Nat):Int)=((s.cf.to+j:Nat):Int)then x else v.ldV ((s.cf.to+j:Nat):Int))=_
   rw[ψ Ω,ψ e];exact h.mid.dst j hj hd
def A8(v:Vm)(c:Cf)(L:List Ob):Sl:=
 {n:=v.n,pg:=v.pl.pg,cf:=c,L:=L,hd:=λa=>v.rdH (a:Nat),c:=λi=>cvH L c.to (v.rdH ((L.getD (CC L i) (0,0)).1:Nat)) (i-AC (L.take (CC L i))) (v.ldV (AI L i:Nat)),mv:=List.replicate (nbl (AC L) c.bk) false}
structure FN(s:Sl)(v v':Vm)(q0 j:Nat):Prop where
 ok:AH v'
 n:v'.n=v.n
 pg:v'.pl.pg=v.pl.pg
 rm:v'.pl.rm=v.pl.rm
 map:∀p,p<v.pt.length->(v'.pt.getD p 0≠0↔v.pt.getD p 0≠0/\¬((q0<=p/\p<q0+j)/\s.on (λ_=>true) p=0))
 val:∀a:Nat,a<v.n->¬((q0<=a/v.pl.pg/\a/v.pl.pg<q0+j)/\s.on (λ_=>true) (a/v.pl.pg)=0)->v'.ldE a=v.ldE a/\v'.ldV a=v.ldV a
theorem Pln.touch{F n B base:Nat}(h:Pln w F p n B base L)(t:AB T w w')(hT:∀k,F<=k->k<w.heap.size->¬T k):Pln w' F p n B base L:=by
 obtain⟨h1,h2,h3,f,c0,c1,hF⟩:=h;exact⟨ϑ h1 t.size,h2,h3,f,(t.cell h1 (hT _ h2 h1) 0).trans c0,(t.cell h1 (hT _ h2 h1) 1).trans c1,hF.touch t hT⟩
theorem FN.zero(h:AH v)(q0:Nat):FN s v v q0 0:=
 ⟨h,rfl,rfl,rfl,λp _=>⟨λh=>⟨h,λh'=>by omega⟩,λh=>h.1⟩,λ_ _ _=>⟨rfl,rfl⟩⟩
theorem FN.keep(h:FN s v v' q0 j)(hz:s.on (λ_=>true) (q0+j)≠0):FN s v v' q0 (j+1):=by
 refine⟨h.ok,h.n,h.pg,h.rm,λp hp=>(h.map p hp).trans (and_congr_right λ_=>not_congr ⟨λ⟨⟨a,b⟩,c⟩=>⟨⟨a,by omega⟩,c⟩,λ⟨⟨a,b⟩,c⟩=>⟨⟨a,?_⟩,c⟩⟩),λa ha hn=>h.val a ha (λ⟨⟨x,y⟩,c⟩=>hn ⟨⟨x,by omega⟩,c⟩)⟩
 grind
theorem FN.drop(h:FN s v v' q0 j)(hz:s.on (λ_=>true) (q0+j)=0):FN s v (v'.um ((q0+j:Nat):Int)) q0 (j+1):=by
 obtain⟨s1,s2,s3,s4⟩:=Jz0 v' ((q0+j:Nat):Int);by_cases hf:frE v'.pt ((q0+j:Nat):Int)=0
 ·refine⟨h.ok.um _,s1.trans h.n,s2.trans h.pg,s3.trans h.rm,λp hp=>?_,λa ha hn=>?_⟩
  ·rw[ZdX hf,h.map p hp,and_assoc]
   grind
  ·have J:a/v.pl.pg≠q0+j:=λe=>hn ⟨by omega,by simp_all⟩;have Z:a<v'.n:=by rw[h.n];exact ha
   have Y:a/v'.pl.pg≠q0+j:=by rw[h.pg];exact J
   rw[h.ok.um_ldE hf Z,ψ Y,h.ok.um_ldV hf Z Y];exact h.val a ha (λ⟨⟨x,y⟩,c⟩=>hn ⟨⟨x,by omega⟩,c⟩)
 ·rw[SY hf];refine⟨h.ok,h.n,h.pg,h.rm,λp hp=>?_,λa ha hn=>h.val a ha (λ⟨⟨x,y⟩,c⟩=>hn ⟨⟨x,by omega⟩,c⟩)⟩;rw[h.map p hp];refine and_congr_right λhv=>not_congr ⟨λ⟨⟨a,b⟩,c⟩=>⟨⟨a,by omega⟩,c⟩,λ⟨⟨a,b⟩,c⟩=>⟨⟨a,?_⟩,c⟩⟩;rcases δ p (q0+j)with h1|h1
  ·exact h1
  ·exfalso;obtain rfl:p=q0+j:=Ω
   have h2:=(h.map _ hp).2 ⟨hv,λ⟨⟨_,y⟩,_⟩=>by omega⟩
   have h3:q0+j<v'.pt.length:=by
    grind
   rw[NX h3,ψ h2]at hf;exact hf rfl
theorem VQ(n k:Nat):at_ (List.replicate n false) k=false:=by
 unfold at_
 grind
section
variable{c:Cf}{rs:List Int}
theorem NG(v:Vm)(c:Cf)(L:List Ob)(i:Nat):(A8 v c L).is i=false:=VQ _ _
theorem US(v:Vm)(c:Cf)(L:List Ob):(A8 v c L).mvd=0:=IM λ_ _=>VQ _ _
theorem Q20(v:Vm)(c:Cf)(L:List Ob):(A8 v c L).ft=0:=GW (ζe _) (λ_ h=>absurd h (ζ8 _)) (λ_=>by show (!at_ (List.replicate _ false) 0)=true;rw[VQ];rfl)
theorem JnF(v:Vm)(c:Cf)(L:List Ob):(A8 v c L).lf=nbl (AC L) c.bk:=by
 unfold Sl.lf;rw[US];exact ζU
theorem RA(hok:AH v)(hcf:IY v.pl.pg v.n c)(hI:FI v rs c.fr c.tp L)(hfit:AC L<=c.lm-c.to):BJ (A8 v c L):=by
 refine⟨hok.page,hok.n2,hcf,hI.1.mkd.good,λo ho=>?_,?_,λj hj=>?_,ζU⟩
 ·have:=hI.2 o ho
  show c.fr<=o.1/\o.1+o.2<=c.tp
  omega
 ·show c.to+AC L<=c.lm
  have:=hcf.lm;omega
 ·have Y:j<L.length:=hj;obtain⟨h1,h2,h3⟩:=hI.1.mkd.ats _ (χ Y);obtain⟨b,p,f,k,he,-,hh,hs,-,-,hz,-⟩:=R7 hI.1.sound h1;exact⟨p,f,k,hh,hs,by show L[j].2=1+p+f+k;omega⟩
theorem Y2(hi:i<AC L):(A8 v c L).on (λ_=>true) (AI L i/v.pl.pg)≠0:=by
 have:1<=(A8 v c L).on (λ_=>true) (AI L i/v.pl.pg):=Sl.on_pos (s:=A8 v c L) (i:=i) hi rfl rfl;omega
theorem QHD(hok:AH v)(hcf:IY v.pl.pg v.n c)(hI:FI v rs c.fr c.tp L)(hfit:AC L<=c.lm-c.to)(hfull:GI v L)(hU:FN (A8 v c L) v v' q0 j):BV (A8 v c L) v':=by
 have Y:=RA hok hcf hI hfit;refine⟨Y,hU.ok,hU.n,hU.pg,λi hi _=>?_,λi hi hd=>?_⟩
 ·have E:i<AC L:=hi;obtain⟨h1,h2,h3⟩:=Y.srcs hi;obtain⟨jo,hj,m,p,f,k,e1,e2,e3,e4,e5,e6,e7,e8,e9⟩:=Y.obj hi;have J:jo<L.length:=hj;have hv:=hU.val (AI L i) h3 (λh=>Y2 E h.2);have e4':AI L i=L[jo].1+m:=e4;have N:m<L[jo].2:=e2;have hl:=hfull _ (χ J) m N;rw[show ((L[jo].1:Nat):Int)+(m:Int)=(AI L i:Nat)by omega]at hl;refine⟨hv.1.trans hl,?_,λhp=>?_⟩
  ·show (A8 v c L).cv i (v'.ldV (AI L i:Nat))=_
   rw[hv.2];rfl
  ·show v'.ldV (AI L i:Nat)<=_
   rw[hv.2];obtain⟨I,Z⟩:=hp;rw[e5]at I Z;rw[e6,e7]at Z;obtain⟨hr,-,-⟩:=hI.1.mkd.ats _ (χ J);obtain⟨b,p',f',k',he,-,hh,hs,-,-,hz,D⟩:=R7 hI.1.sound hr;have V:v.rdH (L[jo].1:Nat)=⟨p,f,k⟩:=e7;rw[hh]at V;have hpe:(p':Int)=p:=by injection V
   have hp2':(m:Int)<=(p:Int):=Z;have:=D (m-1) Ω;rw[show ((L[jo].1:Nat):Int)+1+((m-1:Nat):Int)=(AI L i:Nat)by omega]at this;exact this.2.1
 grind [NG]
theorem JlU(hok:AH v)(hcf:IY v.pl.pg v.n c)(hI:FI v rs c.fr c.tp L)(hfit:AC L<=c.lm-c.to)(hfull:GI v L)(hU:FN (A8 v c L) v v' (c.fr/v.pl.pg) j)(hj:c.tp<=(c.fr/v.pl.pg+j)*v.pl.pg)
  (hm:∀p,p<v.pt.length->v.pt.getD p 0≠0->c.fr/v.pl.pg<=p/\p*v.pl.pg<c.tp):XU7 (A8 v c L) v':=by
 have V:=RA hok hcf hI hfit;have hS:=QHD hok hcf hI hfit hfull hU
 have hlen:v'.pt.length=v.pt.length:=by
  have a1:=hok.np;have a2:=hU.ok.np;rw[hU.n,hU.pg,a1]at a2;exact(Nat.mul_right_cancel (by have:=hok.page;omega) a2).symm
 intro p hp;have Y:p<v.pt.length:=Ω
 rw[hU.map p Y];constructor
 ·rintro⟨h1,h2⟩;obtain⟨g1,g2⟩:=hm p Y h1;left
  have E:p<c.fr/v.pl.pg+j:=by
   refine Nat.lt_of_not_le λh=>?_;have:=ζj v.pl.pg h;omega
  have I:(A8 v c L).on (λ_=>true) p≠0:=λh=>h2 ⟨⟨g1,E⟩,h⟩;refine Classical.byContradiction λhno=>I (Sl.on_iff.2 λi hi _ e=>hno ⟨i,hi,e,NG v c L i⟩)
 ·rintro(⟨i,hi,rfl,-⟩|⟨i,-,-,h⟩)
  ·have J:i<AC L:=hi;have N:=(hS.mid.src i hi (by rw[NG];rfl)).1;have hv:=hU.val (AI L i) (V.srcs hi).2.2 (λh=>Y2 J h.2);have Z:v.ldE (AI L i:Nat)=0:=hv.1.symm.trans N;obtain⟨a,e,h1,h2⟩:=AH.hit Z;obtain rfl:AI L i=a:=Ω
   exact⟨h2,λh=>Y2 J h.2⟩
  grind [NG]
end
section
variable{q:Nat}{U:Nat->Bool}{ml:List Bool}{ft ah:Nat}{rs:List Int}
theorem X9b(hC:∀W,AB (λb=>b=g) w W->BL W R y q z s U ml lf ft ah)(hst:BJ s)(hR:A7 w r g rs):Calls prog 126 #[pP r,.func (.func 190) #[pP y] #[]] w λe w'=>e=.returned (.tuple #[])/\AB (λb=>b=g) w w'/\A7 w' r g (rs.map (toV s.L s.cf.to)):=by
 have h0:toV s.L s.cf.to 0=0:=by
  have h:¬BD s.L 0<s.L.length:=λh=>by
   have h1:=JG h;have h2:=(hst.inn _ (χ h)).1;have:=hst.cf.fr;have:=hst.pg;omega
  exact(QM h).1
 refine(ZT (F:=190) (pre:=#[pP y]) (caps:=#[]) (λi W J=>AB (λb=>b=g) w W/\J=(rs.take i).map (toV s.L s.cf.to)) (λ_ _=>by kernel_rfl) hR ⟨AB.refl _ _,rfl⟩ ?_ ?_).mono ?_
 ·grind [JP]
 ·rintro i hi W J ho ⟨t,e⟩ V hne W0 Y;refine Qa (XLA (hC W0 (t.trans (Y.touch _))) rs[i]) λW' Z=>?_;have hb:=Xxa s.L s.cf.to rs[i];refine⟨_,rfl,(V.gr Y).gr Z,λW'' t''=>⟨((t.trans (Y.touch _)).trans (Z.touch _)).trans t'',?_⟩⟩
  grind [JP,Int.max_eq_left]
 simp_all
end
theorem Y4o{f g:Nat->Bool}{n:Nat}(P:Nat->Nat)(hg:∀p,g p=true->f p=true):∀K:Nat,(∀j,j<K->P j<n/\f (P j)=true/\g (P j)=false)->(∀i j,i<j->j<K->P i<P j)->cnt g n+K<=cnt f n:=λK h hm=>by
 have Y:∀k,k<=K->cnt (λp=>g p||(List.range k).any λj=>P j==p) n=cnt g n+k:=by
  intro k
  induction k with
  | zero=>simp_all
  | succ k ih=>
   intro hk;have h1:=h k Ω
   have h2:=XR (f:=λp=>g p||(List.range k).any λj=>P j==p) (i:=P k) h1.1 (by
    rw[ξZ];refine⟨h1.2.2,?_⟩;rw[List.any_eq_false];intro j hj;have:=hm j k (ξp.1 hj) Ω;simp only[ξk]
    omega)
   grind [ξv,C2,ψO,Bool.or_assoc]
 rw[<-Y K (μ _)];refine JT λp _ hp=>?_
 grind
def Sl.pS(s:Sl)(m:Nat->Bool)(p:Nat):Bool:=(List.range (AC s.L)).any λi=>!m (i/s.cf.bk)&&(AI s.L i/s.pg==p)
def Sl.pT(s:Sl)(top:Nat)(m:Nat->Bool)(p:Nat):Bool:=((List.range (AC s.L)).any λi=>m (i/s.cf.bk)&&((s.cf.to+i)/s.pg==p))||((List.range (top-(s.cf.to+AC s.L))).any λj=>(s.cf.to+AC s.L+j)/s.pg==p)
def Sl.np(s:Sl):Nat:=s.n/s.pg
def Sl.U(s:Sl)(top:Nat)(m:Nat->Bool):Nat:=cnt (s.pS m) s.np+cnt (s.pT top m) s.np
def Sl.q(s:Sl):Nat:=max 1 (s.cf.bk/s.pg)
section
variable{m':Nat->Bool}
theorem Sl.pS_iff:s.pS m p=true↔∃i,i<AC s.L/\m (i/s.cf.bk)=false/\AI s.L i/s.pg=p:=by
 unfold Sl.pS
 simp_all
theorem Sl.pT_iff:s.pT top m p=true↔(∃i,i<AC s.L/\m (i/s.cf.bk)=true/\(s.cf.to+i)/s.pg=p)\/∃a,s.cf.to+AC s.L<=a/\a<top/\a/s.pg=p:=by
 unfold Sl.pT;rw[ζW,ψu,ψu];refine or_congr ⟨?_,?_⟩ ⟨?_,?_⟩
 ·simp_all
 ·simp_all
 ·rintro⟨j,hj,h⟩;have:=ξp.1 hj;exact⟨_,ζT _ _,by omega,ξk.1 h⟩
 ·rintro⟨a,h1,h2,h3⟩;exact⟨a-(s.cf.to+AC s.L),ξp.2 Ω,ξk.2 (by simp_all)⟩
theorem Sl.U_congr(h:∀k,k<s.mv.length->m k=m' k)(hs:BJ s):s.U top m=s.U top m':=by
 have e:∀i,i<AC s.L->m (i/s.cf.bk)=m' (i/s.cf.bk):=λi hi=>h _ (hs.blk hi);unfold Sl.U;congr 1
 ·refine C2 λp _=>ψj.2 ?_;rw[Sl.pS_iff,Sl.pS_iff]
  grind
 ·refine C2 λp _=>ψj.2 ?_;rw[Sl.pT_iff,Sl.pT_iff];exact or_congr_left ⟨λ⟨i,h1,h2,h3⟩=>⟨i,h1,by simp_all,h3⟩,λ⟨i,h1,h2,h3⟩=>⟨i,h1,by simp_all,h3⟩⟩
theorem YU{n:Nat}{L:List Ob}(hg:AS n L){i:Nat}:∀d,i+d<AC L->AI L i+d<=AI L (i+d)
 | 0,_=>μ _
 | d+1,h=>by
  have h1:=YU hg d (show i+d<AC L by omega);have h2:=YYc hg (show i+d<i+(d+1)by omega) h;omega
theorem Jp1{n:Nat}(hg:AS n L)(hik:i<=k)(hk:k<AC L):AI L i<=AI L k:=by
 have:=YU hg (i:=i) (k-i) Ω
 grind
theorem Xra{d:Nat}(hg:1<=g):(x+d)/g<x/g+d/g+2:=by
 rw[ζC Ω,ζP,ζP];have h1:=ζo x g;have h2:=ζN x (show 0<g by omega);have h3:=ζo d g;have h4:=ζN d (show 0<g by omega)
 grind
theorem Sl.U_run(hs:BJ s)(hn:s.np*s.pg=s.n)(hab:a<b)(hb:b<=s.mv.length)(hm:∀k,a<=k->k<b->m k=false)(hm':∀k,m' k=(m k||decide (a<=k/\k<b))):s.U top m'<=s.U top m+3:=by
 have I:=hs.bk.1;have E:=hs.pg.1;have hg:=hs.good;obtain⟨i0,h0⟩:=ε (a*s.cf.bk);obtain⟨i1,h1⟩:=ε (min (b*s.cf.bk) (AC s.L))
 have h01:i0<i1:=by
  have h2:a*s.cf.bk<AC s.L:=by rw[<-JU I,<-hs.len];omega
  have h3:(a+1)*s.cf.bk<=b*s.cf.bk:=ζj _ hab;rw[ξd]at h3;omega
 have Y:∀i,i<AC s.L->((a<=i/s.cf.bk/\i/s.cf.bk<b)↔(i0<=i/\i<i1)):=λi hi=>by
  rw[ξi Ω,ζC Ω];omega
 obtain⟨J,hJ⟩:=ε ((i1-1-i0)/s.pg);have hJm:J*s.pg<=i1-1-i0:=by rw[hJ];exact ζn _ _
 have V:∀j,j<=J->i0+j*s.pg<i1:=λj hj=>by
  have:=ζj s.pg hj;omega
 have N:∀j,j+1<=J->AI s.L (i0+j*s.pg)/s.pg<AI s.L (i0+(j+1)*s.pg)/s.pg:=λj hj=>by
  have h2:=V (j+1) hj;have h3:=YU hg (i:=i0+j*s.pg) s.pg (by rw[ξd]at h2;omega);rw[show i0+j*s.pg+s.pg=i0+(j+1)*s.pg by rw[ξd];omega]at h3;have h4:=ζc (c:=s.pg) h3;rw[Nat.add_div_right _ (show 0<s.pg by omega)]at h4;omega
 have Z:∀d i,i+d<=J->AI s.L (i0+i*s.pg)/s.pg+d<=AI s.L (i0+(i+d)*s.pg)/s.pg:=λd=>by
  induction d with
  | zero=>intro i _;exact μ _
  | succ d ih=>
   intro i hi;have h2:=ih i Ω;have h3:=N (i+d) Ω;rw[show i+(d+1)=i+d+1 by omega];omega
 have hS:cnt (s.pS m') s.np+(J-1)<=cnt (s.pS m) s.np:=by
  refine Y4o (λj=>AI s.L (i0+(j+1)*s.pg)/s.pg) (λp hp=>?_) _ (λj hj=>?_) (λi j hij hj=>?_)
  ·obtain⟨i,hi,h2,h3⟩:=Sl.pS_iff.1 hp;rw[hm',ξZ]at h2;exact Sl.pS_iff.2 ⟨i,hi,h2.1,h3⟩
  ·have h2:=V (j+1) Ω;have hN:i0+(j+1)*s.pg<AC s.L:=Ω
   have h3:=(Y _ hN).2 ⟨ζT _ _,h2⟩;refine⟨?_,Sl.pS_iff.2 ⟨_,hN,hm _ h3.1 h3.2,rfl⟩,?_⟩
   ·have h4:=(hs.srcs hN).2.2;rw[ζC Ω,hn];exact h4
   ·refine Bool.eq_false_iff.2 λhp=>?_;obtain⟨i,hi,h4,h5⟩:=Sl.pS_iff.1 hp;rw[hm',ξZ,ξL,Y i hi]at h4;rcases δ i i0 with h6|h6
    ·have h7:=ζc (c:=s.pg) (Jp1 hg (ξV h6) Ω);have h8:=Z (j+1) 0 Ω;rw[ξ5,ζ7,ζ6]at h8;omega
    ·have h7:=V J (μ _);have h8:=ζc (c:=s.pg) (Jp1 hg (show i0+J*s.pg<=i by omega) hi);have h9:=Z (J-(j+1)) (j+1) Ω;rw[show j+1+(J-(j+1))=J by omega]at h9;omega
  ·have:=Z (j-i) (i+1) Ω;rw[show i+1+(j-i)=j+1 by omega]at this;omega
 have hT:cnt (s.pT top m') s.np<=cnt (s.pT top m) s.np+(J+2):=by
  refine ω (JT (g:=λp=>s.pT top m p||decide ((s.cf.to+i0)/s.pg<=p/\p<(s.cf.to+i0)/s.pg+(J+2))) λp _ hp=>?_) (ω (ZS _ _ _) (Nat.add_le_add_left (ω (UO _ _ _) Ω) _));rw[ζW,ζg];rcases Sl.pT_iff.1 hp with⟨i,hi,h2,h3⟩|h2
  ·rw[hm',ζW,ζg,Y i hi]at h2;rcases h2 with h2|h2
   ·exact .inl (Sl.pT_iff.2 (.inl ⟨i,hi,h2,h3⟩))
   ·right;rw[<-h3];refine⟨ζc Ω,?_⟩;have h4:=Xra (x:=s.cf.to+i0) (d:=i-i0) E;rw[show s.cf.to+i0+(i-i0)=s.cf.to+i by omega]at h4;have h5:=ζc (c:=s.pg) (show i-i0<=i1-1-i0 by omega);omega
  ·exact .inl (Sl.pT_iff.2 (.inr h2))
 unfold Sl.U;omega
def GH(m:Nat->Bool)(f t:Nat)(k:Nat):Bool:=m k||decide (f<=k/\k<t)
theorem Sl.U_fill(hs:BJ s)(hn:s.np*s.pg=s.n)(f:Nat):∀d,f+d<=s.mv.length->s.U top (GH m f (f+d))<=s.U top m+3*(cnt (λj=>m (f+j)) d+1):=λd hd=>by
 have Y:∀a b,f<=a->a<=b->b<=s.mv.length->(∀k,a<=k->k<b->m k=false)->s.U top (GH m f b)<=s.U top (GH m f a)+3:=λa b h1 h2 h3 h4=>by
  rcases Nat.eq_or_lt_of_le h2 with rfl|h2
  ·omega
  ·refine Sl.U_run hs hn h2 h3 (λk h5 h6=>?_) (λk=>?_)
   ·unfold GH;rw[h4 k h5 h6,ζ Ω];rfl
   ·unfold GH;rw[Bool.or_assoc];congr 1;rw[<-Bool.decide_or];exact ξy.2 Ω
 have Z:∀d,f+d<=s.mv.length->∃a,f<=a/\a<=f+d/\(∀k,a<=k->k<f+d->m k=false)/\s.U top (GH m f a)<=s.U top m+3*cnt (λj=>m (f+j)) d:=by
  intro d
  induction d with
  | zero=>
   intro _;refine⟨f,μ _,μ _,λk h1 h2=>by omega,?_⟩;rw[Sl.U_congr (m':=m) (λk _=>by unfold GH;rw[ζ Ω,ξJ]) hs];omega
  | succ d ih=>
   intro h;obtain⟨a,h1,h2,h3,h4⟩:=ih Ω;rw[C1];cases hmk:m (f+d)with
   | false=>
    refine⟨a,h1,by omega,λk h5 h6=>?_,by simpa using h4⟩;rcases δ k (f+d)with h7|h7
    ·exact h3 k h5 h7
    ·rw[show k=f+d by omega];exact hmk
   | true=>
    refine⟨f+(d+1),by omega,μ _,λk h5 h6=>by omega,?_⟩;have h5:=Y a (f+d) h1 h2 Ω h3
    rw[Sl.U_congr (m:=GH m f (f+(d+1))) (m':=GH m f (f+d)) (λk _=>by
     unfold GH;by_cases e:k=f+d
     ·rw[e,hmk];rfl
     ·congr 1
      exact ξy.2 Ω) hs]
    simp only[Bool.toNat_true];omega
 obtain⟨a,h1,h2,h3,h4⟩:=Z d hd;have:=Y a (f+d) h1 h2 hd h3;omega
theorem Sl.U_more(hs:BJ s)(hpb:BQ s.pg=true)(h:∀k,m k=true->m' k=true)(l:List Nat)(hl:∀k,k<s.mv.length->m' k=true->m k=true\/k∈l):s.U top m'<=s.U top m+l.length*s.q:=by
 have hpg:=hs.pg.1;obtain⟨b0,hb0⟩:s.pg∣s.cf.to:=Nat.dvd_of_mod_eq_zero hs.cf.at_
 have Y:∀i,(s.cf.to+i)/s.pg=b0+i/s.pg:=λi=>by
  grind [ζA,ξI,Nat.add_mul_div_right]
 have hS:cnt (s.pS m') s.np<=cnt (s.pS m) s.np:=JT λp _ hp=>by
  obtain⟨i,hi,h2,h3⟩:=Sl.pS_iff.1 hp;refine Sl.pS_iff.2 ⟨i,hi,?_,h3⟩
  grind
 have hT:cnt (s.pT top m') s.np<=cnt (s.pT top m) s.np+l.length*s.q:=by
  let g:Nat->Nat->Bool:=λj p=>(List.range (AC s.L)).any λi=>(i/s.cf.bk==j)&&((s.cf.to+i)/s.pg==p)
  have hg:∀j,cnt (g j) s.np<=s.q:=λj=>by
   obtain⟨a,ha⟩:=Zs5 hs.cf.bk hpb j;refine ω (JT (g:=λp=>decide (b0+a<=p/\p<b0+a+s.q)) λp _ hp=>?_) (ω (UO _ _ _) Ω);obtain⟨i,_,hi⟩:=ψu.1 hp;obtain⟨e1,e2⟩:=ξa.1 hi;have e1:i/s.cf.bk=j:=by simpa using e1
   have e2:(s.cf.to+i)/s.pg=p:=by simpa using e2
   have:=ha i e1;rw[Y]at e2;unfold Sl.q
   grind
  refine ω (JT (g:=λp=>s.pT top m p||l.any λj=>g j p) λp _ hp=>?_) (ω (ZS _ _ _) (Nat.add_le_add_left (JuW l g λk _=>hg k) _));rw[ζW];rcases Sl.pT_iff.1 hp with⟨i,hi,h2,h3⟩|h2
  ·rcases hl _ (hs.blk hi) h2 with h4|h4
   ·exact .inl (Sl.pT_iff.2 (.inl ⟨i,hi,h4,h3⟩))
   grind
  ·exact .inl (Sl.pT_iff.2 (.inr h2))
 unfold Sl.U;omega
theorem Sl.U_grow(hs:BJ s)(hn:s.np*s.pg=s.n)(hpb:BQ s.pg=true)(h1:l.length=s.mv.length)(h2:l'.length=s.mv.length)(hll:∀k,at_ l k=true->at_ l' k=true)(ha:CI l-ftL l<=s.cf.ah)(ha':CI l' - ftL l'<=s.cf.ah):s.U top (at_ l')+s.q<=s.U top (at_ l)+(s.cf.ah+2)*(s.q+3):=by
 have hf:ftL l<=ftL l':=by
  refine ξQ λh=>?_;have h3:ftL l' < l'.length:=ϑ h (by rw[h2,<-h1];exact IH _ _);have h4:(!at_ l' (ftL l'))=true:=H7 (λk=>!at_ l' k) l'.length h3;rw[hll _ (MK h)]at h4;cases h4
 have hf2:ftL l'<=s.mv.length:=by rw[<-h2];exact IH _ _
 have hF:=Sl.U_fill (top:=top) (m:=at_ l) hs hn (ftL l) (ftL l' - ftL l) Ω;rw[show ftL l+(ftL l' - ftL l)=ftL l' by omega]at hF
 have hc:cnt (λj=>at_ l (ftL l+j)) (ftL l' - ftL l)<=s.cf.ah:=by
  have e1:=QJ (l:=l) (m:=ftL l) (IH _ _) (λi hi=>MK hi)
  have e2:∀d,ftL l+d<=l.length->cnt (λj=>at_ l (ftL l+j)) d<=cnt (λk=>decide (ftL l<=k)&&at_ l k) (ftL l+d):=by
   intro d
   induction d with
   | zero=>intro _;exact ζe _
   | succ d ih=>
    rw[show ftL l+(d+1)=ftL l+d+1 by omega,C1,C1,φ (show ftL l<=ftL l+d by omega),ψg];omega
  have e3:=e2 (ftL l' - ftL l) Ω;have e4:=U8 (f:=λk=>decide (ftL l<=k)&&at_ l k) (show ftL l+(ftL l' - ftL l)<=l.length by omega);unfold CI at ha;omega
 obtain⟨W,hW⟩:=ε ((List.range l'.length).filter λj=>decide (ftL l'<=j)&&at_ l' j:List Nat)
 have hWl:W.length+ftL l'=CI l':=by
  have:=QJ (l:=l') (m:=ftL l') (IH _ _) (λi hi=>MK hi);unfold CI;rw[<-this,hW,<-List.countP_eq_length_filter];rfl
 have hM:=Sl.U_more (top:=top) (m:=GH (at_ l) (ftL l) (ftL l')) (m':=at_ l') hs hpb (λk hk=>by
  unfold GH at hk;rw[ζW,ζg]at hk;rcases hk with hk|hk
  ·exact hll k hk
  ·exact MK hk.2) W (λk hk h=>by
  rcases δ k (ftL l')with h3|h3
  ·left;unfold GH;rw[ζW,ζg];rcases δ k (ftL l)with h4|h4
   ·exact .inl (MK h4)
   ·exact .inr ⟨h4,h3⟩
  ·right;rw[hW,ψz,ξp,h,φ h3]
   exact⟨by omega,rfl⟩)
 have hWq:W.length*s.q<=s.cf.ah*s.q:=ζj _ Ω;rw[ζP,ψx,ψx];omega
end
structure HpA(top:Nat)(u:Vm)(s:Sl)(v:Vm):Prop where
 pg:∀p,p<v.pt.length->(v.pt.getD p 0≠0↔s.pS (at_ s.mv) p=true\/s.pT top (at_ s.mv) p=true)
 ah:s.mvd-s.ft<=s.cf.ah
 fr:∃l:List Bool,l.length=s.mv.length/\(∀k,at_ l k=true->at_ s.mv k=true)/\CI l-ftL l<=s.cf.ah/\s.U top (at_ l)+(s.cf.ah+2)*(s.q+3)<=v.pl.rm
 lm:s.cf.to+AC s.L<=top/\top<=s.cf.lm
 ok:AH u
 un:∀a:Nat,a<s.n->u.ldE a=0
 c:∀i,i<AC s.L->u.ldV (s.cf.to+i:Nat)=s.c i
 x:∀a:Nat,s.cf.to+AC s.L<=a->a<top->v.ldE a=0/\v.ldV a=u.ldV a
theorem U7(v:Vm)(p0 k:Nat):(CB v p0 k).length<=k:=by
 induction k with
 | zero=>exact μ _
 | succ k ih=>
  grind [SC,ζm,ξt]
theorem BV.np(h:BV s v):s.np=v.pt.length/\s.np*s.pg=s.n:=by
 have h1:=h.mid.ok.len;have h2:=h.mid.ok.np;rw[h.mid.n,h.mid.pg]at h1;rw[h.mid.n,h.mid.pg]at h2;exact⟨h1.symm,by rw[show s.np=v.pt.length from h1.symm];exact h2.symm⟩
theorem Sl.pST(hs:BJ s)(hlm:top<=s.cf.lm)(h1:s.pS m p=true)(h2:s.pT top m p=true):False:=by
 obtain⟨i,hi,-,e⟩:=Sl.pS_iff.1 h1;have h3:=hs.srcs hi;rcases Sl.pT_iff.1 h2 with⟨j,hj,-,e2⟩|⟨a,a1,a2,e2⟩
 ·exact hs.apart ⟨h3.1,h3.2.1⟩ ⟨ζT _ j,(hs.dsts hj).1⟩ (e.trans e2.symm)
 ·exact hs.apart ⟨h3.1,h3.2.1⟩ ⟨by omega,by omega⟩ (e.trans e2.symm)
theorem HpA.used(hO:BV s v)(h:HpA top u s v):v.pl.used=s.U top (at_ s.mv):=by
 rw[hO.mid.ok.us];unfold Sl.U
 rw[hO.np.1,<-NI (λp=>by
  cases e1:s.pS (at_ s.mv) p with
  | false=>rfl
  | true=>
   cases e2:s.pT top (at_ s.mv) p with
   | false=>rfl
   | true=>exact absurd (Sl.pST hO.st h.lm.2 e1 e2) id)]
 refine C2 λp hp=>ψj.2 ?_;rw[ζW,<-h.pg p hp,bne_iff_ne]
theorem HpA.room(hO:BV s v)(h:HpA top u s v):v.pl.used+s.q<=v.pl.rm:=by
 obtain⟨l,h1,h2,h3,h4⟩:=h.fr;have Y:BQ s.pg=true:=by rw[<-hO.mid.pg];exact hO.mid.ok.pl.pg
 have:=Sl.U_grow (top:=top) hO.st hO.np.2 Y h1 rfl h2 h3 h.ah;rw[h.used hO];omega
theorem HpA.need(hO:BV s v)(h:HpA top u s v)(hk:k<s.mv.length):BN v ((s.cf.to+s.lo k:Nat):Int) ((s.cf.to+s.hi k:Nat):Int)=0:=by
 have hs:=hO.st;have N:=hO.mid.ok;have hpg:=hs.pg.1;have Y:=hO.mid.pg;have E:=hs.lohi hk;have hto:s.cf.to+s.hi k<=v.n:=by have:=hs.fit;have:=hs.cf.ln;rw[hO.mid.n];omega
 have D:BQ s.pg=true:=by rw[<-Y];exact N.pl.pg
 obtain⟨p0,Z⟩:=ε ((s.cf.to+s.lo k)/s.pg);obtain⟨p1,V⟩:=ε ((s.cf.to+s.hi k-1)/s.pg);have hp01:p0<=p1:=by rw[Z,V];exact ζc Ω
 have eA:(((s.cf.to+s.lo k:Nat):Int)/(v.pl.pg:Int)).toNat=p0:=by
  rw[Y,show ((s.cf.to+s.lo k:Nat):Int)/(s.pg:Int)=(((s.cf.to+s.lo k)/s.pg:Nat):Int)from rfl,β,Z]
 have eB:C5 v ((s.cf.to+s.lo k:Nat):Int) ((s.cf.to+s.hi k:Nat):Int)=p1+1-p0:=by
  unfold C5;rw[Y,show ((s.cf.to+s.hi k:Nat):Int)-1=((s.cf.to+s.hi k-1:Nat):Int)by omega,show ((s.cf.to+s.hi k-1:Nat):Int)/(s.pg:Int)=(((s.cf.to+s.hi k-1)/s.pg:Nat):Int)from rfl,show ((s.cf.to+s.lo k:Nat):Int)/(s.pg:Int)=(((s.cf.to+s.lo k)/s.pg:Nat):Int)from rfl,<-Z,<-V];omega
 obtain⟨b0,I⟩:s.pg∣s.cf.to:=Nat.dvd_of_mod_eq_zero hs.cf.at_
 have J:∀i,(s.cf.to+i)/s.pg=b0+i/s.pg:=λi=>by
  rw[I,ζA,ξI,Nat.add_mul_div_right _ _ Ω];omega
 obtain⟨a,ha⟩:=Zs5 hs.cf.bk D k
 have hw:p1+1-p0<=s.q:=by
  have h1:=ha (s.lo k) (ξk.1 ((hs.inB Ω).2 ⟨μ _,E.1⟩));have h2:=ha (s.hi k-1) (ξk.1 ((hs.inB Ω).2 ⟨by omega,by omega⟩));rw[J]at Z;rw[show s.cf.to+s.hi k-1=s.cf.to+(s.hi k-1)by omega,J]at V;unfold Sl.q;omega
 have hrm:=h.room hO;unfold BN;rw[ψ Ω,ψ Ω,eA,eB,θ];have h3:=U7 v p0 (p1+1-p0);omega
theorem HpA.step(hO:BV s v)(h:HpA top u s v)(hk:k<s.mv.length)(hm:at_ s.mv k=false)(hc:k=s.ft\/s.mvd-s.ft<s.cf.ah)(hM:OH s k v v'):HpA top u {s with mv:=s.mv.set k true} v':=by
 have hs:=hO.st;have V:v'.pt.length=v.pt.length:=by rw[hM.ok.mid.ok.len,hO.mid.ok.len,hM.ok.mid.n,hM.ok.mid.pg,hO.mid.n,hO.mid.pg]
 have I:=hs.lohi hk;have Y:∀i,at_ (s.mv.set k true) (i/s.cf.bk)=(s.is i||s.inB k i):=Sl.is_put hk
 have h1:({s with mv:=s.mv.set k true}:Sl).mvd=s.mvd+1:=by
  unfold Sl.mvd;rw[ζa];exact KM hk hm
 refine⟨λp hp=>?_,?_,?_,h.lm,h.ok,h.un,h.c,λa a1 a2=>?_⟩
 ·rw[V]at hp;rw[hM.map p hp,h.pg p hp]
  have hT:({s with mv:=s.mv.set k true}:Sl).pT top (at_ (s.mv.set k true)) p=true↔s.pT top (at_ s.mv) p=true\/((s.cf.to+s.lo k)/s.pg<=p/\p<=(s.cf.to+s.hi k-1)/s.pg):=by
   show s.pT top (at_ (s.mv.set k true)) p=true↔_
   rw[Sl.pT_iff,Sl.pT_iff];constructor
   ·rintro(⟨i,hi,e1,e2⟩|e)
    ·rw[Y,ζW]at e1;rcases e1 with e1|e1
     ·exact .inl (.inl ⟨i,hi,e1,e2⟩)
     ·have:=(hs.inB hi).1 e1;right;rw[<-e2];exact⟨ζc Ω,ζc Ω⟩
    ·exact .inl (.inr e)
   ·rintro((⟨i,hi,e1,e2⟩|e)|⟨e1,e2⟩)
    ·exact .inl ⟨i,hi,by rw[Y,show s.is i=true from e1];rfl,e2⟩
    ·exact .inr e
    ·left;have hpg:=hs.pg.1
     obtain⟨i,N,D,E⟩:∃i,s.lo k<=i/\i<s.hi k/\(s.cf.to+i)/s.pg=p:=by
      rcases δ (s.cf.to+s.lo k) (p*s.pg)with g|g
      ·refine⟨p*s.pg-s.cf.to,by omega,?_,?_⟩
       ·have:=(ξi Ω).1 e2;omega
       ·rw[show s.cf.to+(p*s.pg-s.cf.to)=p*s.pg by omega,ξR _ Ω]
      ·refine⟨s.lo k,μ _,I.1,?_⟩;have:=(ξi (show 0<s.pg by omega)).2 g;omega
     have J:i<AC s.L:=Ω
     exact⟨i,J,by rw[Y,(hs.inB J).2 ⟨N,D⟩,Bool.or_true],E⟩
  have hS:({s with mv:=s.mv.set k true}:Sl).pS (at_ (s.mv.set k true)) p=true↔s.pS (at_ s.mv) p=true/\¬ ∃i,i<AC s.L/\s.inB k i=true/\AI s.L i/s.pg=p/\∀j,j<AC s.L->AI s.L j/s.pg=p->s.is j=true\/s.inB k j=true:=by
   show s.pS (at_ (s.mv.set k true)) p=true↔_
   rw[Sl.pS_iff,Sl.pS_iff];constructor
   ·rintro⟨i,hi,e1,e2⟩;rw[Y,ξZ]at e1;refine⟨⟨i,hi,e1.1,e2⟩,λ⟨j,_,_,_,g⟩=>?_⟩;rcases g i hi e2 with g|g
    ·rw[e1.1]at g;cases g
    ·rw[e1.2]at g;cases g
   ·rintro⟨⟨i,hi,e1,e2⟩,g⟩;have e1:s.is i=false:=e1;refine Classical.byContradiction λhno=>?_
    have Z:∀j,j<AC s.L->AI s.L j/s.pg=p->s.is j=true\/s.inB k j=true:=λj hj he=>by
     refine Classical.byContradiction λhn=>hno ⟨j,hj,?_,he⟩;rw[Y];cases ea:s.is j <;> cases eb:s.inB k j <;> simp_all
    rcases Z i hi e2 with e|e
    ·rw[e1]at e;cases e
    ·exact g ⟨i,hi,e,e2,Z⟩
  show _↔({s with mv:=s.mv.set k true}:Sl).pS (at_ (s.mv.set k true)) p=true\/({s with mv:=s.mv.set k true}:Sl).pT top (at_ (s.mv.set k true)) p=true
  rw[hS,hT];constructor
  ·rintro⟨(e|e)|e,g⟩
   ·exact .inl ⟨e,g⟩
   ·exact .inr (.inl e)
   ·exact .inr (.inr e)
  ·rintro(⟨e,g⟩|e)
   ·exact⟨.inl (.inl e),g⟩
   ·refine⟨e.elim (λe=>.inl (.inr e)) .inr,λ⟨i,hi,hb,e2,_⟩=>?_⟩;have h5:s.pT top (at_ (s.mv.set k true)) p=true:=hT.2 e;refine Sl.pST hs h.lm.2 (m:=λ_=>false) (p:=p) (Sl.pS_iff.2 ⟨i,hi,rfl,e2⟩) ?_;exfalso;have h3:=hs.srcs hi;rcases Sl.pT_iff.1 h5 with⟨j,hj,-,e3⟩|⟨a,a1,a2,e3⟩
    ·exact hs.apart ⟨h3.1,h3.2.1⟩ ⟨ζT _ j,(hs.dsts hj).1⟩ (e2.trans e3.symm)
    ·exact hs.apart ⟨h3.1,h3.2.1⟩ ⟨by omega,by have:=h.lm;omega⟩ (e2.trans e3.symm)
 ·have hah:=h.ah
  show ({s with mv:=s.mv.set k true}:Sl).mvd-({s with mv:=s.mv.set k true}:Sl).ft<=s.cf.ah
  rw[h1]
  have h2:s.ft<=({s with mv:=s.mv.set k true}:Sl).ft:=by
   refine ξQ λh=>?_
   have h3:({s with mv:=s.mv.set k true}:Sl).ft<(s.mv.set k true).length:=by
    rw[ζa];have:=s.ft_le;omega
   have h4:=({s with mv:=s.mv.set k true}:Sl).ft_off h3
   have h6:at_ (s.mv.set k true) ({s with mv:=s.mv.set k true}:Sl).ft=true:=by
    rw[GU hk]
    split
    ·rfl
    ·exact s.ft_on h
   rw[h6]at h4;cases h4
  rcases hc with rfl|hc
  ·have h3:=Vhb (l:=s.mv) hk;unfold C7 at h3;rw[θ (show ftL s.mv<s.mv.length from hk)]at h3;have h4:s.ft<({s with mv:=s.mv.set s.ft true}:Sl).ft:=h3;omega
  ·omega
 ·obtain⟨l,a1,a2,a3,a4⟩:=h.fr;refine⟨l,by rw[a1];exact(ζa ..).symm,λj hj=>?_,a3,by rw[hM.rm];exact a4⟩;rw[GU hk]
  split
  ·rfl
  ·exact a2 j hj
 ·have a1:s.cf.to+AC s.L<=a:=a1;have hlm:=h.lm;have hln:=hs.cf.ln;obtain⟨x1,x2⟩:=h.x a a1 a2;obtain⟨o1,o2⟩:=hM.oth a Ω (.inr Ω) (λi hi=>hs.apart ⟨(hs.srcs hi).1,(hs.srcs hi).2.1⟩ ⟨by omega,by omega⟩);exact⟨o2 x1,o1.trans x2⟩
theorem Zig{m:Nat}(h1:1<=m)(h2:m<=2048){f:Nat->Nat}(hf:∀a,f a<18446744073709551616):∃u:Vm,JKh (m*256) u/\∀a:Nat,a<m*256->u.ldV a=f a:=by
 have Y:AH (Vm.new (m*256) 256 m):=AH.new (by unfold FV;simp;omega) (by decide) Ω Ω (Nat.mul_mod_left _ _);have hd:m*256/256=m:=ξR _ (by decide);have Z:(Vm.new (m*256) 256 m).pt.length=m:=by show (List.replicate (m*256/256) 0).length=m;simp_all
 have hm:=ZqK Y rfl (λp hp=>by exact PQ _ _) (by rw[Z];exact μ _) (k:=m) Ω;have hn:(mpN (Vm.new (m*256) 256 m) m).n=m*256:=hm.n
 have hl:∀a:Nat,a<m*256->(mpN (Vm.new (m*256) 256 m) m).ldE a=0:=λa ha=>by
  rw[hm.ldE Y (show a<(Vm.new (m*256) 256 m).n from ha),θ];rw[ξp]
  show a/256<m
  omega
 have hs:=VYd hm.ok (λa ha=>hl a Ω) hf (k:=m*256) Ω;exact⟨_,⟨hs.ok,hs.sm.n.trans hn,λa ha=>by rw[hs.sm.ldE];exact hl a ha,by omega⟩,hs.vl⟩
theorem Sl.tch_is(hs:BJ s)(hi:i<AC s.L):(s.tch ((s.cf.to+i:Nat):Int)).is i=true:=by
 have hb:=hs.blk hi;unfold Sl.tch Sl.is;rw[F6.2 Ω,θ rfl,show (((s.cf.to+i:Nat):Int)-(s.cf.to:Int)).toNat=i by omega];unfold J8
 split
 ·assumption
 ·rw[GU (by rw[JSM];exact hb),θ rfl]
theorem HpA.ld(hO:BV s v)(h:HpA top u s v)(h1:s.cf.to<=a)(h2:a<top)(hm:∀i,i<AC s.L->a=s.cf.to+i->s.is i=true):v.ldE a=0/\v.ldV a=u.ldV a:=by
 rcases δ a (s.cf.to+AC s.L)with h3|h3
 ·obtain⟨i,rfl⟩:∃i,a=s.cf.to+i:=⟨a-s.cf.to,by omega⟩;obtain⟨d1,d2⟩:=hO.mid.dst i Ω (hm i Ω rfl);exact⟨d1,by rw[d2,h.c i Ω]⟩
 ·exact h.x a h3 h2
theorem BV.beyond(h:BV s v)(h1:s.cf.to+AC s.L<=a)(h2:a<s.cf.lm)(hl:v.ldE a=0)(hx:x<18446744073709551616):BV s (v.st a x):=by
 have Y:=h.mid.ok.st_ldV x hl;have hs:=h.st;refine⟨hs,⟨h.mid.ok.st _ hx,(BW.st v _ x).n.trans h.mid.n,(BW.st v _ x).pg.trans h.mid.pg,λj hj hu=>?_,λj hj hd=>?_⟩⟩
 ·have ha:((a:Nat):Int)≠(AI s.L j:Nat):=λe=>hs.apart ⟨(hs.srcs hj).1,(hs.srcs hj).2.1⟩ ⟨show s.cf.to<=a by omega,h2⟩ (by grind);rw[GO,Y,ψ ha];exact h.mid.src j hj hu
 ·rw[GO,Y,ψ Ω];exact h.mid.dst j hj hd
theorem HpA.put(hO:BV s v)(h:HpA top u s v)(h1:s.cf.to<=a)(h2:a<top)(hm:∀i,i<AC s.L->a=s.cf.to+i->s.is i=true)(hx:x<18446744073709551616):∃c:Nat->Nat,BV {s with c:=c} (v.st a x)/\HpA top (u.st a x) {s with c:=c} (v.st a x):=by
 have hl:=(h.ld hO h1 h2 hm).1;have V:=hO.mid.ok.st_ldV x hl;have hs:=hO.st;have hlm:=h.lm;have N:u.ldE a=0:=h.un a (by have:=hs.cf.ln;omega);have Z:=h.ok.st_ldV x N;have J:=BW.st v (a:Int) x
 have Y:∀c:Nat->Nat,(∀i,i<AC s.L->c i=if s.cf.to+i=a then x else s.c i)->HpA top (u.st a x) {s with c:=c} (v.st a x):=λc hc=>by
  refine⟨λp hpl=>by rw[J.pt]at hpl⊢;exact h.pg p hpl,h.ah,by obtain⟨l,a1,a2,a3,a4⟩:=h.fr;exact⟨l,a1,a2,a3,by rw[J.rm];exact a4⟩,h.lm,h.ok.st _ hx,λb hb=>by rw[GO];exact h.un b hb,λi hi=>?_,λb b1 b2=>?_⟩
  ·have hi:i<AC s.L:=hi
   show (u.st a x).ldV ((s.cf.to+i:Nat):Int)=c i
   rw[Z,hc i hi,h.c i hi]
   grind
  ·rw[GO,V,Z];obtain⟨x1,x2⟩:=h.x b b1 b2
   simp_all
 rcases δ a (s.cf.to+AC s.L)with h3|h3
 ·obtain⟨i,rfl⟩:∃i,a=s.cf.to+i:=⟨a-s.cf.to,by omega⟩;refine⟨λj=>if j=i then x else s.c j,hO.store Ω (hm i Ω rfl) hx,Y _ λj hj=>?_⟩
  simp_all
 ·refine⟨s.c,hO.beyond h3 Ω hl hx,Y _ λj hj=>?_⟩
  grind
theorem HpA.done(hO:BV s v)(h:HpA top u s v)(hall:∀i,i<AC s.L->s.is i=true):(∀p,p<v.pt.length->(v.pt.getD p 0≠0↔∃a,s.cf.to<=a/\a<top/\a/s.pg=p))/\∀a:Nat,s.cf.to<=a->a<top->v.ldE a=0/\v.ldV a=u.ldV a:=by
 have hlm:=h.lm;refine⟨λp hp=>?_,λa h1 h2=>h.ld hO h1 h2 (λi hi _=>hall i hi)⟩;rw[h.pg p hp,Sl.pS_iff,Sl.pT_iff];constructor
 ·rintro(⟨i,hi,e1,e2⟩|⟨i,hi,e1,e2⟩|⟨a,a1,a2,a3⟩)
  ·have:=hall i hi;rw[show s.is i=false from e1]at this;cases this
  ·exact⟨_,ζT _ i,by omega,e2⟩
  ·exact⟨a,by omega,a2,a3⟩
 ·rintro⟨a,a1,a2,a3⟩;rcases δ a (s.cf.to+AC s.L)with h3|h3
  ·exact .inr (.inl ⟨a-s.cf.to,by omega,hall _ Ω,by simp_all⟩)
  ·exact .inr (.inr ⟨a,h3,a2,a3⟩)
theorem XeJ(hO:BV s v)(hlm:top<=s.cf.lm)(hp:∀p,p<v.pt.length->(v.pt.getD p 0≠0↔s.pS (at_ s.mv) p=true\/s.pT top (at_ s.mv) p=true)):v.pl.used=s.U top (at_ s.mv):=by
 rw[hO.mid.ok.us];unfold Sl.U
 rw[hO.np.1,<-NI (λp=>by
  cases e1:s.pS (at_ s.mv) p with
  | false=>rfl
  | true=>
   cases e2:s.pT top (at_ s.mv) p with
   | false=>rfl
   | true=>exact absurd (Sl.pST hO.st hlm e1 e2) id)]
 refine C2 λp hp'=>ψj.2 ?_
 simp_all
theorem JHK{n:Nat}(hn:n<=524288){f:Nat->Nat}(hf:∀a,f a<18446744073709551616):∃u:Vm,AH u/\(∀a:Nat,a<n->u.ldE a=0)/\∀a:Nat,a<n->u.ldV a=f a:=by
 obtain⟨u,h1,h2⟩:=Zig (m:=2048) Ω (μ _) hf;exact⟨u,h1.ok,λa ha=>h1.al a Ω,λa ha=>h2 a Ω⟩
theorem Jap{c:Cf}{rs:List Int}(hok:AH v)(hcf:IY v.pl.pg v.n c)(hI:FI v rs c.fr c.tp L)(hfit:AC L<=c.lm-c.to)(hfull:GI v L)(hU:FN (A8 v c L) v v' (c.fr/v.pl.pg) j)(hj:c.tp<=(c.fr/v.pl.pg+j)*v.pl.pg)
  (hm:∀p,p<v.pt.length->v.pt.getD p 0≠0->c.fr/v.pl.pg<=p/\p*v.pl.pg<c.tp) (hrm:v.pl.used+(c.ah+2)*(max 1 (c.bk/v.pl.pg)+3)<=v.pl.rm):BV (A8 v c L) v'/\∃u,HpA (c.to+AC L) u (A8 v c L) v':=by
 have V:=RA hok hcf hI hfit;have hO:=QHD hok hcf hI hfit hfull hU;have hP:=JlU hok hcf hI hfit hfull hU hj hm;have hlm:=hcf.lm;refine⟨hO,?_⟩
 obtain⟨u,u1,u2,u3⟩:=JHK (n:=v.n) hok.n2 (f:=λa=>if c.to<=a/\a<c.to+AC L then (A8 v c L).c (a-c.to)else 0) (λa=>by
  split
  ·exact V.cv_lt _ (hok.ldV_lt _)
  ·omega)
 have J:∀p,p<v'.pt.length->(v'.pt.getD p 0≠0↔(A8 v c L).pS (at_ (A8 v c L).mv) p=true\/(A8 v c L).pT (c.to+AC L) (at_ (A8 v c L).mv) p=true):=λp hp=>by
  rw[hP p hp,Sl.pS_iff,Sl.pT_iff];refine or_congr ⟨λ⟨i,h1,h2,h3⟩=>⟨i,h1,h3,h2⟩,λ⟨i,h1,h2,h3⟩=>⟨i,h1,h3,h2⟩⟩ ⟨λ⟨i,h1,h2,h3⟩=>.inl ⟨i,h1,h3,h2⟩,?_⟩;rintro(⟨i,h1,h2,h3⟩|⟨a,a1,a2,-⟩)
  ·exact⟨i,h1,h3,h2⟩
  ·have a1:c.to+AC L<=a:=a1;omega
 have Z:v'.pt.length=v.pt.length:=by rw[hU.ok.len,hok.len,hU.n,hU.pg]
 have hus:v'.pl.used<=v.pl.used:=by
  rw[hU.ok.us,hok.us];unfold nz;rw[Z];refine JT λp hp h=>?_;rw[bne_iff_ne]at h⊢;exact((hU.map p hp).1 h).1
 have Y:c.to+AC L<=c.lm:=Ω
 refine⟨u,J,by rw[US,Nat.zero_sub];exact ζe _,⟨(A8 v c L).mv,rfl,λ_ h=>h,?_,?_⟩,⟨μ _,Y⟩,u1,u2,λi hi=>?_,λa a1 a2=>?_⟩
 ·show (A8 v c L).mvd-(A8 v c L).ft<=c.ah
  rw[US,Nat.zero_sub];exact ζe _
 ·rw[<-XeJ hO Y J,hU.rm]
  show v'.pl.used+(c.ah+2)*(max 1 (c.bk/v.pl.pg)+3)<=v.pl.rm
  omega
 ·have hi:i<AC L:=hi
  show u.ldV ((c.to+i:Nat):Int)=_
  rw[u3 _ (by have:=hcf.ln;omega),θ ⟨by omega,by omega⟩,ξ4]
 ·have a1:c.to+AC L<=a:=a1;omega
theorem HpA.alloc(hO:BV s v)(h:HpA top u s v){n:Nat}(hs255:p+f+k<=255)(hn:n=1+p+f+k)(hlm:top+n<=s.cf.lm)(he:BN v top ((top+n:Nat):Int)=0)(hG:B8 v v1 (CA v top ((top+n:Nat):Int)))(hu:v.pl.used+(n/s.pg+2+(s.cf.ah+2)*(s.q+3))<=v.pl.rm):
  IL v1 top ⟨p,f,k⟩=0/\BV s (mkVm v1 top ⟨p,f,k⟩)/\∃u',HpA (top+n) u' s (mkVm v1 top ⟨p,f,k⟩)/\(∀a:Nat,a<top->u'.ldV a=u.ldV a)/\u'.ldV top=C8 p f k/\∀i:Nat,i<p+f+k->u'.ldV ((top+1+i:Nat):Int)=0:=by
 have hs:=hO.st;have J:=hO.mid.ok;have Xa:=hs.pg.1;have hln:=hs.cf.ln;have htop:=h.lm;have hto:=hs.cf.to;have hvn:=hO.mid.n;have V:=hO.mid.pg
 have hF:∀b,b∈CA v top ((top+n:Nat):Int)↔(top/s.pg<=b/\b<=(top+n-1)/s.pg)/\v.pt.getD b 0=0:=λb=>by
  unfold CA;rw[θ ⟨he,by omega⟩,VWG J Ω Ω,V]
 have E:∀a:Nat,top<=a->a<top+n->v1.ldE a=0:=λa a1 a2=>by
  rw[hG.ldE J Ω]
  split
  ·rfl
  ·rename_i Z;rw[V,hF]at Z;have h1:v.pt.getD (a/s.pg) 0≠0:=λe=>Z ⟨⟨ζc a1,ζc Ω⟩,e⟩;have h2:=(J.split (a:=a) Ω).1;unfold Vm.ldE;rw[θ ⟨by omega,by omega⟩,show ((a:Nat):Int)/(v.pl.pg:Int)=((a/v.pl.pg:Nat):Int)from rfl,NX h2,V,ψ h1]
 obtain⟨m1,m2⟩:=JER (v:=v1) hG.ok (t:=top) (p:=p) (f:=f) (c:=k) Ω hs255 (λj hj=>by
  rw[show (top:Int)+(j:Int)=((top+j:Nat):Int)by omega]
  exact E _ Ω Ω)
 obtain⟨v2,D⟩:=ε (mkVm v1 top ⟨p,f,k⟩);have N:EV s s.is (λi=>!s.is i) v1:=hO.mid.grow hs hG;have Y:DH v1 v2:=by rw[D];exact(DH.refl hG.ok).mkVm _ _
 rw[<-D]at m2⊢;have I:∀b:Int,v2.ldE b=v1.ldE b:=λb=>Y.sm.ldE b
 have Xb:BV s v2:=by
  refine⟨hs,Y.ok,Y.sm.n.trans N.n,Y.sm.pg.trans N.pg,λi hi hu=>?_,λi hi hd=>?_⟩
  ·have h3:=hs.srcs hi;have B:∀b:Nat,top<=b->b<top+n->AI s.L i≠b:=λb b1 b2 e=>hs.apart ⟨h3.1,h3.2.1⟩ ⟨show s.cf.to<=b by omega,by omega⟩ (by rw[e]);have h4:=N.src i hi hu;rw[I,m2,ψ (λe=>B top (μ _) Ω Ω),ψ (λe=>B (AI s.L i) Ω Ω rfl)];exact h4
  ·rw[I,m2,ψ Ω,ψ Ω];exact N.dst i hi hd
 refine⟨m1,Xb,?_⟩
 obtain⟨u',u1,u2,u3⟩:=JHK (n:=s.n) hs.n2 (f:=λa=>if a<top then u.ldV a else v2.ldV a) (λa=>by
  split
  ·exact h.ok.ldV_lt _
  ·exact Y.ok.ldV_lt _)
 have Xc:v2.pt.length=v.pt.length:=by rw[Y.sm.pt,hG.len J]
 have Xd:∀b,b<v2.pt.length->(v2.pt.getD b 0≠0↔s.pS (at_ s.mv) b=true\/s.pT (top+n) (at_ s.mv) b=true):=λb hb=>by
  rw[Xc]at hb;rw[Y.sm.pt,hG.ma b hb,hF,h.pg b hb]
  have hT:s.pT (top+n) (at_ s.mv) b=true↔s.pT top (at_ s.mv) b=true\/(top/s.pg<=b/\b<=(top+n-1)/s.pg):=by
   rw[Sl.pT_iff,Sl.pT_iff,or_assoc];refine or_congr_right ⟨?_,?_⟩
   ·rintro⟨a,a1,a2,rfl⟩;rcases δ a top with h3|h3
    ·exact .inl ⟨a,a1,h3,rfl⟩
    ·exact .inr ⟨ζc h3,ζc Ω⟩
   ·rintro(⟨a,a1,a2,e⟩|⟨e1,e2⟩)
    ·exact⟨a,a1,by omega,e⟩
    ·rcases δ top (b*s.pg)with g|g
     ·refine⟨b*s.pg,by omega,?_,ξR _ Ω⟩;have:=(ξi (show 0<s.pg by omega)).1 e2;omega
     ·refine⟨top,by omega,by omega,?_⟩;have:=(ξi (show 0<s.pg by omega)).2 g;omega
  rw[hT];by_cases e:v.pt.getD b 0=0
  ·have Z:=mt (h.pg b hb).2 (λhh=>hh e);constructor
   ·rintro(g|g)
    ·exact absurd g Z
    ·exact .inr (.inr g.1)
   ·rintro(g|g|g)
    ·exact absurd (.inl g) Z
    ·exact absurd (.inr g) Z
    ·exact .inr ⟨g,e⟩
  ·have hy:=(h.pg b hb).1 e;exact⟨λ_=>hy.imp id .inl,λ_=>.inl hy⟩
 have G:top+n<=s.cf.lm:=hlm;refine⟨u',⟨Xd,h.ah,⟨s.mv,rfl,λ_ h=>h,h.ah,?_⟩,⟨by omega,hlm⟩,u1,u2,λi hi=>?_,λa a1 a2=>?_⟩,λa ha=>?_,?_,λi hi=>?_⟩
 ·rw[<-XeJ Xb G Xd,Y.sm.rm,hG.rm]
  have hus:v2.pl.used=v.pl.used+(CA v top ((top+n:Nat):Int)).length:=by
   rw[<-hG.us,Y.ok.us,hG.ok.us,Y.sm.pt]
  have Xe:(CA v top ((top+n:Nat):Int)).length<=n/s.pg+2:=by
   unfold CA;rw[θ ⟨he,by omega⟩];refine ω (U7 _ _ _) ?_;unfold C5;rw[V,show ((top+n:Nat):Int)-1=((top+n-1:Nat):Int)by omega,show ((top+n-1:Nat):Int)/(s.pg:Int)=(((top+n-1)/s.pg:Nat):Int)from rfl,show (top:Int)/(s.pg:Int)=((top/s.pg:Nat):Int)from rfl];have h3:=Xra (x:=top) (d:=n-1) Xa;have h4:=ζc (c:=s.pg) (show n-1<=n by omega);rw[show top+(n-1)=top+n-1 by omega]at h3;generalize (top+n-1)/s.pg=x1 at h3⊢;generalize top/s.pg=x2 at h3⊢;generalize (n-1)/s.pg=x3 at h3 h4;generalize n/s.pg=x4 at h4⊢;omega
  generalize n/s.pg=x4 at Xe hu;omega
 ·rw[u3 _ (by have:=(hs.dsts hi).2;omega),θ Ω];exact h.c i hi
 ·have hb:a<s.n:=Ω
  rw[I];rcases δ a top with h3|h3
  ·obtain⟨x1,x2⟩:=h.x a a1 h3;rw[m2,ψ Ω,ψ Ω,u3 a hb,θ h3,hG.ldV_all J Ω,hG.ldE J Ω];exact⟨by split <;> first|rfl|exact x1,x2⟩
  ·rw[u3 a hb,ψ Ω];exact⟨E a h3 a2,rfl⟩
 ·rw[u3 a Ω,θ ha]
 ·rw[u3 top Ω,ψ Ω,m2,θ rfl]
 ·rw[u3 _ Ω,ψ Ω,m2,ψ Ω,θ Ω]
section
attribute [local go_sem] Oper.semAt_some
theorem XWt{m p1 b1 p2 b2 n:Nat}(hE:Ext w m p1 b1 p2 b2 n L)(hT:AQ w)(hf:f<2147483648):Calls prog 133 #[pP m,iI 64,iI f] w λe w'=>∃ff B,e=.returned (.tuple #[pP ff,iI 0])/\Gr w w'/\Fwd w' w.heap.size ff n B f L:=by
 refine(YD hE hT 64 f (by decide)).mono ?_;have hb:GM (f:Int)=true:=by unfold GM;grind
 have hk:BQ 64=true:=by decide
 rintro e w' ⟨hg,(⟨h,-⟩|⟨-,ff,B,base,hB,hbase,rfl,hF⟩)⟩
 ·simp_all
 ·obtain rfl:f=base:=Ω
  grind
structure UmP(w8 wx:World)(S5:Nat->Prop)(q r g:Nat)(v2:Vm)(out:List Int)(qs q0 j pg tp:Nat):Prop where
 t:AB S5 w8 wx
 vm:∃Sj,(∀b,Sj b->plus S5 w8 b)/\AE wx Sj q (umN v2 qs (q0+j-qs))
 rt:A7 wx r g out
 q1:∀i,i<j->(q0+i)*pg<tp
def V8A(w:World)(S:Nat->Prop)(q r g:Nat)(v:Vm)(rs:List Int)(fr tp:Int)(e:Ending)(w':World):Prop:=
 AB (λb=>b=g\/S b) w w'/\∃(L:List Ob) (f t:Nat),FI v rs fr tp L/\fr=(f:Int)/\tp=(t:Int)/\e=.returned (.tuple #[iI ((f+AC L:Nat):Int),iI 0]) ∧
  ∃v1 v2 j,H6 v rs f t L v1 v2 j/\AE w' (plus S w) q (FM v v2 f (f+AC L) j)/\A7 w' r g (rs.map (toV L f))
section
variable{S:Nat->Prop}{q:Nat}{rs:List Int}
theorem JZL(hV:AE w S q v)(hn:v.n≠0)(hR:A7 w r g rs)(hT:AQ w)(htS:¬S 1)(hrS:¬S r)(hgS:¬S g)(fr tp room:Int)(hag:KH v.n fr tp room=true)(hin:∃L,FI v rs fr tp L)(hnd:∀(L:List Ob) (f:Nat),FI v rs fr tp L->fr=(f:Int)->BN v f ((f+AC L:Nat):Int)=0):Calls prog 57 #[pP q,pP r,iI fr,iI tp,iI room] w (V8A w S q r g v rs fr tp):=by
 have HV:=hV.cut;have HR:=hR;have HT:=hT;have N:=(ξ htS (ξ hrS hgS));have Vx:=hT.lt;have hrl:=hR.lt;have hn2:=hV.ok.n2;have Zb:=hV.ok.page;have Vl:=hV.ok;have Xe:=((Gr.refl w).alloc (.cells #[.pointer (some ⟨q,0,none⟩)] 99));have Yp:=Rec.new w 99 [pP q];obtain⟨W0,Ym⟩:=ε (w.alloc (.cells #[.pointer (some ⟨q,0,none⟩)] 99));have hsz0:W0.heap.size=w.heap.size+1:=by rw[Ym,π]
 rw[show w.alloc (.cells ([.pointer (some ⟨q,0,none⟩)]:List Value).toArray 99)=W0 from Ym.symm]at Yp;rw[<-Ym]at Xe;have Uy:=Yp;have Jp:=(JGL (HV.gr Xe) hn (HR.gr Xe) fr tp room);obtain⟨ce,hce⟩:=ε (if KH v.n fr tp room then 0 else 5:Int)
 rw[<-hce]at Jp;have Vc:=ι hce;have c0:=Yp.cc 0;have cl:=Yp.lt;have Vj:=hn;clear hV hR hT htS hrS hgS Yp hce hn;have hmf:∀(fn:Fn) (first cap:Array Value) (w:World),(Instr.makeFunc fn first cap).run prog w=.ok (.func fn first cap) w:=λ_ _ _ _=>rfl;refine(γ (n:=5)).1 ?_;refine callsIn_of_wp_marks func57 rfl trivial ?_ rfl;simp only[ntmps57,ζ3,ζD,ξf,Nat.reduceAdd,Nat.reduceSub,ζR,ζQ,ζ9,ζZ,ζ4,ζv];gi_upto_region 1 with(fail);rw[<-Ym];clear Ym;have Ul:=hnd;clear hnd;obtain⟨h1,h2,h3,h4,h5⟩:=UB.1 hag;obtain rfl:ce=0:=by rw[Vc.o,θ hag]
 obtain⟨f,rfl⟩:∃f:Nat,fr=f:=⟨fr.toNat,by omega⟩;obtain⟨t,rfl⟩:∃t:Nat,tp=t:=⟨tp.toNat,by omega⟩;obtain⟨k,rfl⟩:∃k:Nat,room=k:=⟨room.toNat,by omega⟩;have Vd:=(Jf0 (HV.gr Xe) Vj (HR.gr Xe) (Xe.tab Vx HT) (λh=>N.1 h.1) f t k Ω Ω Ω hin);clear hag hin
 gi_upto_region 5 with(first|(refine⟨trivial,?_⟩;gi_at_call 131;refine(γ.2 (Jp)).mono ?_;rintro e w1 ⟨rfl,rfl⟩)|(refine⟨trivial,?_⟩;gi_at_call 132;refine(γ.2 (Vd)).mono ?_;rintro e w1 ⟨Yy,Yd,L,m,p1,b1,p2,b2,hI,rfl,hE,Ji,Zw,Jh,Zp,Zq⟩;(have Jc:=Yy;have Vu:=Yd;have Jb:=(Uy.touch Yy (λh=>by have:=h.2;omega));have Ve:=((HR.gr Xe).touch Yy (λh=>N.2.1 h.1) (λh=>N.2.2 h.1));have y0:=Jb.cc 0;have yl:=Jb.lt;clear Yy Yd)))
 have HI:=hI;have hw1:=Jc.size;have Jt:=(HT.touch' ((Xe.touch _).trans Jc) (λh=>N.1 h.1));have Ma:=(XWt hE Jt (f:=f) Ω);have HX:=hE;have Xz:=(ξ Ji (ξ Zw (ξ Jh (ξ Zp Zq))));clear hI hE Ji Zw Jh Zp Zq;gi_upto_region 8 with(refine⟨trivial,?_⟩;gi_at_call 133;refine(γ.2 (Ma)).mono ?_;rintro e w2 ⟨ff,B,rfl,Uq,hF⟩;have Ug:=ι Uq;have Jm:=ι hF;clear Uq hF);obtain⟨w3,Yk⟩:=ε (w2.alloc (.cells #[.pointer (some ⟨ff,0,none⟩)] 202));have Yv:=Rec.new w2 202 [pP ff];obtain⟨fb,Za⟩:=ε w2.heap.size;have Zu:Gr w2 w3:=by rw[Yk];exact(Gr.refl w2).alloc _
 have Uc:w3.heap.size=fb+1:=by rw[Yk,π,Za]
 rw[show w2.alloc (.cells ([.pointer (some ⟨ff,0,none⟩)]:List Value).toArray 202)=w3 from Yk.symm]at Yv;rw[<-Za]at Yv⊢;rw[<-Yk];have hz2:=Ug.o.size;have Jq:Hid (w1.heap.size<=fb/\fb+1=w3.heap.size/\w2.heap.size=fb):=⟨by omega,Uc.symm,Za.symm⟩;have Uu:=Yv;have Xg:=(Ug.o.trans Zu);have Zl:=Zu;have Ue:=(Jb.gr Xg);have Ux:=(Vu.gr Xg);have Ub:=(λ(W:World) (g:Gr w3 W)=>OR (Jm.o.gr (Zl.trans g)));have Uf:Hid (∀j (hj:j<L.length),f+AC (L.take j)<=L[j].1):=⟨λj hj=>UJ HI.1.mkd.good (fr:=f) (λo ho=>by have:=HI.2 o ho;omega) hj⟩;clear Yk Za Yv Zu y0 yl c0 cl
 have Mc:f+AC L<=t:=by
  have hI:=HI;rcases ζF L.length with h0|h0
  ·have:L=[]:=ζy h0;subst this;simp only[AC];omega
  ·have hj:L.length-1<L.length:=Ω
   have e1:=Uf.o _ hj;have e2:=hI.2 _ (χ hj);have e3:=F4 hj;rw[show L.length-1+1=L.length by omega,ζ0]at e3;omega
 have Yw:=(λ(W:World) (g:Gr w3 W)=>YrC (Ux.gr g) f (f+AC L) Ω Ω);obtain⟨nn,Jl⟩:=ε (AC L);have Yn:=ι Jl;obtain⟨E,hE⟩:=ε (BN v f ((f+nn:Nat):Int));rw[<-Jl]at Yw Ub Mc;rw[<-hE]at Yw;have HE:=ι hE;have Xl:((f+nn:Nat):Int)=(f:Int)+(nn:Int):=by push_cast;rfl
 rw[Xl]at Yw;have Jf:=ι Xl;clear Jl hE Xl;have p0:=Ue.cc 0;have Ui:=Uu.cc 0;obtain⟨Sx,G,HS⟩:=AA.start λW'=>W'.cell? ⟨w.heap.size,0,none⟩=some (pP q)/\W'.cell? ⟨fb,0,none⟩=some (pP ff);have x1:=AA.fact G λ_ h=>h.1;have x2:=AA.fact G λ_ h=>h.2;have I:=HS.o (w3.drew) (⟨p0,Ui⟩);have Xi:Inhabited (AA Sx):=⟨⟨_,I⟩⟩;clear G;refine IK Sx 6 [([0,1,2],3),([],4)] [5] IQ I ?_;refine E3 ?_;gi_wp2_with((refine⟨trivial,?_⟩;gi_at_call 134;refine(γ.2 (Ub _ (Gr.refl w3).drew)).mono ?_;rintro e w4 ⟨rfl,Uo⟩;have Xh:=ι ((Gr.refl w3).drew.trans Uo);have Uj:=ι (Ue.gr Xh.o);have Zc:=ι (Uu.gr Xh.o);clear Uo));refine⟨.inr (AA.of (HS.o _ (⟨Uj.o.cc 0,Zc.o.cc 0⟩))),?_⟩;refine E3 ?_;gi_wp2_with((refine⟨trivial,?_⟩;gi_at_call 125;refine(γ.2 (Yw _ Xh.o)).mono ?_;rintro e w5 ⟨rfl,Yu,Uv⟩;have Yi:=ι Yu;have Ut:=ι Uv;have Up:=ι (Uj.o.touch Yu (λh=>by have:=h.1.2;omega));have Zg:=ι (Zc.o.touch Yu (λh=>by have:=h.1.2;have:=Jq.o;omega));clear Yu Uv));refine⟨.inr (AA.of (HS.o _ (⟨Up.o.cc 0,Zg.o.cc 0⟩))),?_⟩;refine IB ?_;clear x1 x2 I Xi;clear HS Sx;clear p0 Ui;have Vz:=ι ((Ve.gr (Xg.trans Xh.o)).touch Yi.o (λh=>N.2.1 h.1.1) (λh=>N.2.2 h.1.1));have Zh:Hid (AB S w w5):=⟨(((Xe.touch _).trans (Jc.mono (λi _ h=>h.1))).trans ((Xg.trans Xh.o).touch _)).trans (Yi.o.mono (λi _ h=>h.1.1))⟩;have Vb:E=0:=HE.o.trans (by rw[Yn.o];exact Ul L f HI rfl);subst Vb;obtain⟨v1,Yh,Yd⟩:=Ut.o;rw[<-Jf.o]at Yh;have hnd:=HE.o;rw[Yn.o]at Yh hnd;obtain⟨cx,-⟩:=YNw Vl HI Ω Ω Ω hnd.symm Yh;have Ys:=ι cx;have Jw:=ι Yh;have HND0:=ι hnd;obtain⟨S5,Zr⟩:=ε (AD (plus (AD (AD S w) W0) w4) w5);have hz4:=Xh.o.size;have hz5:=Yi.o.size
 have Xa:Hid (∀b,S5 b->(S b/\b<w.heap.size\/w4.heap.size<=b)/\b<w5.heap.size):=⟨λb hb=>by
  rw[Zr]at hb
  exact⟨hb.1.imp (λh=>h.1) id,hb.2⟩⟩
 have Vt:Hid (AE w5 S5 q v1):=⟨by rw[Zr];exact Yd.cut⟩;have c13l:=HX.hm;have Jr:Ext w5 m p1 b1 p2 b2 v.n L:=(HX.gr (Xg.trans Xh.o)).touch Yi.o (λh=>by have:=h.1.2;have:=Xz.1;omega) (λh=>by have:=h.1.2;have:=Xz.2.1;omega) (λh=>by have:=h.1.2;have:=Xz.2.2.1;omega) (λh=>by have:=h.1.2;have:=Xz.2.2.2.1;omega) (λh=>by have:=h.1.2;have:=Xz.2.2.2.2;omega);have Vi:=ι Jr;have Zm:=ι (HT.touch' Zh.o N.1);have Ur:AB (λi=>i<w.heap.size\/w3.heap.size<=i) w2 w5:=((Zl.trans Xh.o).touch _).trans (Yi.o.mono (λi _ h=>.inl h.1.2));have Vw:=ι Ur;clear Yh hnd Yd cx Zr Jr Ur;gi_upto_region 11 with(fail);gi_wp2_with(refine⟨trivial,?_⟩;gi_at_call 135;refine(γ.2 (LO (some ⟨m,0,none⟩))).mono ?_;rintro e w6 ⟨rfl,rfl⟩);obtain⟨W6,Ya⟩:=ε (w5.alloc (.cells #[.pointer (some ⟨m,0,none⟩)] 137));have Xw:Gr w5 W6:=by rw[Ya];exact(Gr.refl w5).alloc _
 have hs6:W6.heap.size=w5.heap.size+1:=by rw[Ya,π]
 have k6:W6.cell? ⟨w5.heap.size,0,none⟩=some (pP m):=by rw[Ya];exact(Boxed.new w5 137 (pP m)).cell
 rw[<-Ya];clear Ya;have hfz:=Jq.o;have Zi:Hid (∀W,AB (λi=>i<w.heap.size\/w3.heap.size<=i) W6 W->Fwd W w1.heap.size ff v.n B f L):=⟨λW tt=>Jm.o.touch ((Vw.o.trans (Xw.touch _)).trans tt) (λkk h1 h2 h=>by omega)⟩
 have Z:Hid (∀b,w.heap.size<=b->b<w4.heap.size->¬(S5 b\/W6.heap.size<=b)):=⟨λb h1 h2 h=>by
  rcases h with h|h
  ·have:=(Xa.o b h).1;omega
  ·omega⟩
 have Xj:Hid (∀b,¬S b->b<w.heap.size->¬(S5 b\/W6.heap.size<=b)):=⟨λb h1 h2 h=>by
  rcases h with h|h
  ·rcases(Xa.o b h).1 with h'|h'
   ·exact h1 h'.1
   ·omega
  ·omega⟩
 have Yx:Hid (∀b,S5 b\/W6.heap.size<=b->b<w.heap.size\/w3.heap.size<=b):=⟨λb h=>by
  rcases h with h|h
  ·have:=(Xa.o b h).1;omega
  ·omega⟩
 have hml:=HX.hm;have hp1l:=HX.v1.hp;have hb1l:=HX.v1.hb;have hp2l:=HX.v2.hp;have hb2l:=HX.v2.hb;obtain⟨Ji,Zw,Jh,Zp,Zq⟩:=Xz;have Zs:=ι (Up.o.gr Xw);have Yc:=ι (Zg.o.gr Xw);have Uz:=ι (Vz.o.gr Xw);have Us:=Zm.o.lt;have Yq:=ι Xw;have Vy:=ι k6;clear k6 Xw
 have tI:∀(j:Nat) A B',(AB (λi=>S5 i\/W6.heap.size<=i) W6 A/\j<=L.length/\∃Xb,AE A S5 q Xb/\Pkd v1 Xb L f (AC (L.take j)))->AB (λi=>W6.heap.size<=i/\i<W6.heap.size+2+4) A B'->(AB (λi=>S5 i\/W6.heap.size<=i) W6 B'/\j<=L.length/\∃Xb,AE B' S5 q Xb/\Pkd v1 Xb L f (AC (L.take j))):=λj A B' h tt=>by
  obtain⟨h1,h2,Xb,h3,h4⟩:=h;exact⟨h1.trans (tt.mono (λi _ h=>.inr h.1)),h2,Xb,h3.touch tt (λi hi _ h=>by have:=(Xa.o i hi).2;omega),h4⟩
 refine NF (K:=4) (s0:=0) rfl Ω (gf:=202) (lb:=#[pP w5.heap.size]) rfl trivial (enters_of func202 (by kernel_rfl) rfl)
  (QQ _ w5.heap.size m p1 b1 p2 b2 v.n L _) (λ_=>rfl)
  (λ(j:Nat) A=>AB (λi=>S5 i\/W6.heap.size<=i) W6 A/\j<=L.length/\∃Xb,AE A S5 q Xb/\Pkd v1 Xb L f (AC (L.take j))) (λ_ _=>False) tI (λ_ _ _ h _=>h)
  (λj A h=>⟨(Vi.o.gr Yq.o).touch h.1 (Z.o _ Ω Ω) (Z.o _ Ω Ω) (Z.o _ Ω Ω) (Z.o _ Ω Ω) (Z.o _ Ω Ω),(Yq.o.tab Us Zm.o).touch' h.1 (Xj.o _ N.1 Ω),(h.1.cell Ω (λh=>by
   rcases h with h|h
   ·have:=(Xa.o _ h).2;omega
   ·omega) 0).trans Vy.o,h.2.1⟩)
  ⟨AB.refl _ _,ζe _,v1,Vt.o.gr Yq.o,by simpa[AC]using Pkd.zero Ys.o.ok L f⟩ ?round ?done (λ_ _ _ _ h _=>h.elim)
 case round=>
  intro lp j x W7 hsz7 Zt Xn;dsimp only[IC];gi_wp2;refine⟨Gr.refl _,λW8 Xm hI8=>?_⟩
  have Yt:j<L.length:=by
   rcases δ j L.length with h|h
   ·exact h
   ·unfold FE at Xn;rw[ζz h]at Xn;cases Xn
  obtain rfl:x=L[j]:=by unfold FE at Xn;rw[τ Yt]at Xn;exact(Option.some.inj Xn).symm
  obtain⟨Yo,-,vx,Jo,Un⟩:=hI8;have c5:=(Zs.o.touch Yo (Z.o _ Ω Ω)).cell (j:=0) rfl;have Jj:=(Yc.o.touch Yo (Z.o _ Ω Ω)).cell (j:=0) rfl;have Vo:=ι (Q2p Jo (λW tt=>Zi.o W ((Yo.mono (λi _ h=>Yx.o i h)).trans (tt.mono (λi _ h=>Yx.o i (.inl h.1))))) Ys.o Yt Un);have Xu:=ι Yo;have Vq:=ι (F4 Yt);clear Zt Xn Xm Yo Jo Un;gi_wp2_with(refine⟨trivial,?_⟩;gi_at_call 136;refine(CallsIn.inRound lp (γ.2 (Vo.o))).mono ?_;rintro e w7 ⟨rfl,Um,v7,Vs,Vf⟩);refine⟨Um.mono (λi _ h=>.inl (by have:=(Xa.o i h.1).2;omega)),j+1,rfl,Xu.o.trans (Um.mono (λi _ h=>.inl h.1)),Yt,v7,Vs.mono (λb h=>h.1),?_⟩;rw[Vq.o];exact Vf
 case done=>
  rintro D j W7 hD rfl Zt hK;obtain⟨Xd,-,v2,Ud,Ja⟩:=Zt;rw[ζ0]at Ja;have c5:=(Zs.o.touch Xd (Z.o _ Ω Ω)).cell (j:=0) rfl;have Jj:=(Yc.o.touch Xd (Z.o _ Ω Ω)).cell (j:=0) rfl;have Xk:∀W,AB (λi=>i<w.heap.size\/w3.heap.size<=i) W7 W->Fwd W w1.heap.size ff v.n B f L:=λW tt=>Zi.o W ((Xd.mono (λi _ h=>Yx.o i h)).trans tt);have Va:=ι (ZKw (λW tt=>Xk W (tt.mono (λi _ h=>.inl Ω))) Jj Ω (Uz.o.touch Xd (Xj.o r N.2.1 Ω) (Xj.o g N.2.2 Ω)) (Vco Ys.o));have Vp:=ι (Zs.o.touch Xd (Z.o _ Ω Ω));have Ua:=ι (Yc.o.touch Xd (Z.o _ Ω Ω));have Jz:=ι Xk;have Vr:=ι Xd;have Vn:=ι Ud;have Js:=ι Ja;have HK:=ι hK;have HD:=ι hD;have hz7:=Xd.size;clear c5 Jj Xk Xd Ud Ja hK hD;gi_upto_region 16 with(refine⟨trivial,?_⟩;gi_at_call 126;refine(γ.2 (Va.o)).mono ?_;rintro e w8 ⟨rfl,Xm,Jy⟩;have Xu:=ι Xm;have Md:=ι Jy;have Zy:=ι (Vp.o.touch Xm (λh=>by omega));have Uk:=ι (Ua.o.touch Xm (λh=>by omega));have hz8:=Xm.size;clear Xm Jy);have Jx:Hid (∀W,AB (λi=>i<w.heap.size\/w3.heap.size<=i) w8 W->Fwd W w1.heap.size ff v.n B f L):=⟨λW tt=>Jz.o W ((Xu.o.mono (λi _ h=>.inl Ω)).trans tt)⟩;have Yf:¬S5 g:=λh=>Xj.o g N.2.2 Ω (.inl h);have Jv:=ι (Vn.o.touch Xu.o (λb hb _ h=>Yf (h▸hb)));have Jn:=ι Yf;clear Yf;have Xv:Hid (D=W6.heap.size/\D<W7.heap.size/\D≠g/\¬S5 D):=⟨HD.o,(ζq.1 HK.o).1,by rw[HD.o];omega,λh=>by rw[HD.o]at h;have:=(Xa.o _ h).2;omega⟩;have Vk:Hid (w8.heap[D]?=some (.deferred (some []))):=⟨(Xu.o.block D Xv.o.2.1 Xv.o.2.2.1).trans HK.o⟩;have Ye:v2.pl.pg=v.pl.pg:=Js.o.sm.pg.trans Jw.o.pg;have Zv:=ι (λ(W:World) (g':Gr w8 W)=>JS (Jv.o.gr g'));rw[Ye]at Zv;obtain⟨pg,Xq⟩:=ε v.pl.pg;have Yb:=ι Xq;rw[<-Xq]at Zv Zb;have Vv:Hid (v2.pl.pg=pg):=⟨by rw[Ye,Xq]⟩;obtain⟨q0,Yg⟩:=ε (f/pg);have Zn:q0*pg<=f:=by rw[Yg];exact ζn f pg
  have Zz:=ι Yg;have g1:((f:Int).tdiv (pg:Int))=(q0:Int):=by rw[Yg];rfl
  have g2:((f:Int)/(pg:Int))=(q0:Int):=by rw[Yg];rfl
  have hpg0:(pg:Int)≠0:=Ω
  have hq0n:q0<=524288:=by have:=ζV f pg;omega
  have Vg:=ι Zn;obtain⟨qs,Jd⟩:=ε (J3 (f+nn) pg);have Jk:=ι Jd
  have Zd:q0<=qs:=by
   rcases δ qs q0 with h|h
   ·exfalso;have h1:=(OK (nt:=f+nn) (q:=qs) Zb.1).2 (by rw[Jd];exact μ _);have h2:(qs+1)*pg<=q0*pg:=ζj _ Ω;rw[ζP,ξl]at h2;omega
   ·exact h
  have HQL:=ι Zd;have hft2:f+nn<=1048576:=Ω
  have Ju:Hid (UmP w8 w8 S5 q r g v2 (rs.map (toV L f)) qs q0 0 pg t):=⟨AB.refl _ _,⟨S5,λb h=>.inl h,by rw[show q0+0-qs=0 by omega];exact Jv.o⟩,Md.o,λi hi=>absurd hi (ζ8 _)⟩;have u5:=Zy.o.cc 0;have Yr:=Zy.o.lt;clear Xq Yg Ye Zn Jd Zd;gi_wp2_with(refine⟨trivial,?_⟩;gi_at_call 129;refine(γ.2 (Zv.o _ (Gr.refl w8))).mono ?_;rintro e w9 ⟨rfl,rfl⟩);clear u5 Yr
  gi_loopw [20] (λs20 wx=>∃j:Nat,Hid (UmP w8 wx S5 q r g v2 (rs.map (toV L f)) qs q0 j pg t)/\s20=iI ((q0+j:Nat):Int)) (λs20 _=>t-(intOf s20).toNat*pg)
  case atStart=>exact⟨0,Ju,rfl⟩
  case round=>
   clear Ju;obtain⟨j,HU,rfl⟩:=hrel;obtain⟨Sj,Uw,Je⟩:=HU.o.vm;have Zo:=λ(W:World) (g':Gr wr W)=>JS (Je.gr g');rw[(NJ v2 qs _).2.1,Vv.o]at Zo;have Xf:=ι Zo;have Jg:=ι Je;have Xo:=ι Uw;have Xx:=ι (Zy.o.touch HU.o.t (λh=>Z.o _ (μ _) Ω (.inl h)));have Xp:=ι (Uk.o.touch HU.o.t (λh=>Z.o fb Ω Ω (.inl h)));have Xr:=ι (λ(W:World) (g':Gr wr W)=>OR (Jx.o W ((HU.o.t.mono (λi _ h=>Yx.o i (.inl h))).trans (g'.touch _))));rw[<-Yn.o]at Xr;obtain⟨qq,Yj⟩:=ε (q0+j);obtain⟨pp,Xy⟩:=ε (qq*pg)
   have hppb:pp<=1048576:=by
    rcases ζF j with h0|h0
    ·rw[Xy,Yj,h0,ζ7];have:=Vg.o;omega
    ·have:=HU.o.q1 (j-1) Ω;have e:pp=(q0+(j-1))*pg+pg:=by rw[Xy,Yj,show q0+j=(q0+(j-1))+1 by omega,ζP,ξl]
     omega
   have hqb:qq<=pp:=by rw[Xy];exact ψl _ Ω
   have hmul:((qq:Int)*(pg:Int))=(pp:Int):=by rw[Xy];push_cast;rfl
   have J:=ι (ξ Yj Xy);rw[<-Yj];clear Zo Je Uw Yj Xy;have u5:=Xx.o.cc 0;have Yr:=Xx.o.lt;have u15:=Xp.o.cc 0;have Zk:=Xp.o.lt;by_cases Xs:pp<t
   ·have e1:decide ((pp:Int)<(t:Int))=true:=φ Ω;have e2:decide (pp<t)=true:=φ Xs;have Xt:=ι Xs;clear Xs;by_cases Yz:f+nn<=pp
    ·have e3:decide ((f:Int)+(nn:Int)<=(pp:Int))=true:=φ Ω;have Zx:=ι Yz;clear Yz;gi_upto_region 19 with(refine⟨trivial,?_⟩;gi_at_call 129;refine(γ.2 (Xf.o _ (Gr.refl wr))).mono ?_;rintro e Xc ⟨rfl,rfl⟩);obtain⟨Sx,G,HS⟩:=AA.start λW'=>W'.cell? ⟨w.heap.size,0,none⟩=some (pP q)/\W'.cell? ⟨fb,0,none⟩=some (pP ff);have x1:=AA.fact G λ_ h=>h.1;have x2:=AA.fact G λ_ h=>h.2;have I:=HS.o (wr.drew) (⟨u5,u15⟩);have Xi:Inhabited (AA Sx):=⟨⟨_,I⟩⟩;clear G;refine IK Sx 7 [([0,1,4],2),([3],5)] [6] IQ I ?_;refine E3 ?_;gi_wp2_with((refine⟨trivial,?_⟩;gi_at_call 129;refine(γ.2 (Xf.o _ (Gr.refl wr).drew)).mono ?_;rintro e Xc ⟨rfl,rfl⟩));refine⟨.inr (AA.of (HS.o _ (⟨u5,u15⟩))),?_⟩;refine E3 ?_;gi_wp2_with((refine⟨trivial,?_⟩;gi_at_call 134;refine(γ.2 (Xr.o _ (Gr.refl wr).drew)).mono ?_;rintro e Xc ⟨rfl,V⟩;have Y:=ι ((Gr.refl wr).drew.trans V);have z5:=(Xx.o.gr Y.o).cell (j:=0) rfl;have Vh:=(Xx.o.gr Y.o).lt;have Yl:=(Xp.o.gr Y.o).cell (j:=0) rfl;clear V));refine⟨.inr (AA.of (HS.o _ (⟨z5,Yl⟩))),?_⟩;refine IB ?_;clear x1 x2 I Xi;clear HS Sx;clear u5 Yr u15 Zk Yl;gi_wp2_with(refine⟨trivial,?_⟩;gi_at_call 130;refine(γ.2 (O4 (Jg.o.gr Y.o) (qq:Int))).mono ?_;rintro e w11 ⟨rfl,Zj,Ze⟩;have Zf:=ι Zj;have Uh:=ι Ze;clear Zj Ze);go_roundw
     case rel=>
      have hzx:=HU.o.t.size;have hzy:=Y.o.size;refine⟨j+1,⟨⟨?_,⟨plus Sj Xc,λb hb=>?_,?_⟩,?_,λi hi=>?_⟩⟩,?_⟩
      ·exact(HU.o.t.trans (Y.o.touch _)).trans' Zf.o (λb hb h=>(Xo.o b h).elim id (λh=>by omega))
      ·rcases hb with h|h
       ·exact Xo.o b h
       ·right;omega
      ·have h1:=Uh.o;have h2:=(OK (nt:=f+nn) (q:=qq) Zb.1).1 (by rw[<-J.o.2];exact Zx.o);rw[<-Jk.o]at h2;have e:q0+(j+1)-qs=(q0+j-qs)+1:=by have:=J.o.1;omega
       rw[e]
       show AE _ _ _ ((umN v2 qs (q0+j-qs)).um ((qs+(q0+j-qs):Nat):Int))
       rw[show qs+(q0+j-qs)=qq by have:=J.o.1;omega];exact h1
      ·refine(HU.o.rt.gr Y.o).touch Zf.o (λh=>?_) (λh=>?_)
       ·exact(Xo.o _ h).elim (λh=>Xj.o r N.2.1 Ω (.inl h)) (λh=>by omega)
       ·exact(Xo.o _ h).elim Jn.o (λh=>by omega)
      ·rcases δ i j with h|h
       ·exact HU.o.q1 i h
       ·obtain rfl:i=j:=Ω
        rw[<-J.o.1,<-J.o.2];exact Xt.o
      ·rw[show q0+(j+1)=qq+1 by rw[J.o.1];omega]
       go_num
     case measure=>
      have h1:=Xt.o;have h2:=J.o.2;simp only[intOf];rw[show ((qq:Int)+1).toNat=qq+1 by omega,β,ζP,ξl,<-h2];omega
    ·have e3:decide ((f:Int)+(nn:Int)<=(pp:Int))=false:=ζ Ω;have Zx:=ι Yz;clear Yz;gi_upto_region 19 with(refine⟨trivial,?_⟩;gi_at_call 129;refine(γ.2 (Xf.o _ (Gr.refl wr))).mono ?_;rintro e Xc ⟨rfl,rfl⟩);obtain⟨Sx,G,HS⟩:=AA.start λW'=>W'.cell? ⟨w.heap.size,0,none⟩=some (pP q)/\W'.cell? ⟨fb,0,none⟩=some (pP ff);have x1:=AA.fact G λ_ h=>h.1;have x2:=AA.fact G λ_ h=>h.2;have I:=HS.o (wr.drew) (⟨u5,u15⟩);have Xi:Inhabited (AA Sx):=⟨⟨_,I⟩⟩;clear G;refine IK Sx 7 [([0,1,4],2),([3],5)] [6] IQ I ?_;refine E3 ?_;gi_wp2_with((refine⟨trivial,?_⟩;gi_at_call 129;refine(γ.2 (Xf.o _ (Gr.refl wr).drew)).mono ?_;rintro e Xc ⟨rfl,rfl⟩));refine⟨.inr (AA.of (HS.o _ (⟨u5,u15⟩))),?_⟩;refine E3 ?_;gi_wp2_with((refine⟨trivial,?_⟩;gi_at_call 134;refine(γ.2 (Xr.o _ (Gr.refl wr).drew)).mono ?_;rintro e Xc ⟨rfl,V⟩;have Y:=ι ((Gr.refl wr).drew.trans V);have z5:=(Xx.o.gr Y.o).cell (j:=0) rfl;have Vh:=(Xx.o.gr Y.o).lt;have Yl:=(Xp.o.gr Y.o).cell (j:=0) rfl;clear V));refine⟨.inr (AA.of (HS.o _ (⟨z5,Yl⟩))),?_⟩;refine IB ?_;clear x1 x2 I Xi;clear HS Sx;clear u5 Yr u15 Zk Yl;gi_wp2;go_roundw
     case rel=>
      refine⟨j+1,⟨⟨HU.o.t.trans (Y.o.touch _),⟨Sj,Xo.o,?_⟩,HU.o.rt.gr Y.o,λi hi=>?_⟩⟩,?_⟩
      ·have h1:=Jg.o.gr Y.o
       have h2:¬qs<=qq:=λh=>Zx.o (by
        rw[J.o.2]
        exact(OK Zb.1).2 (by rw[<-Jk.o];exact h))
       have e:q0+(j+1)-qs=q0+j-qs:=by have:=J.o.1;omega
       rw[e];exact h1
      ·rcases δ i j with h|h
       ·exact HU.o.q1 i h
       ·obtain rfl:i=j:=Ω
        rw[<-J.o.1,<-J.o.2];exact Xt.o
      ·rw[show q0+(j+1)=qq+1 by rw[J.o.1];omega]
       go_num
     case measure=>
      have h1:=Xt.o;have h2:=J.o.2;simp only[intOf];rw[show ((qq:Int)+1).toNat=qq+1 by omega,β,ζP,ξl,<-h2];omega
   ·have e1:decide ((pp:Int)<(t:Int))=false:=ζ Ω;have e2:decide (pp<t)=false:=ζ Xs;have Xt:=ι Xs;clear Xs
    gi_wp2_with(first|(refine⟨trivial,?_⟩;gi_at_call 129;refine(γ.2 (Xf.o _ (Gr.refl wr))).mono ?_;rintro e Xc ⟨rfl,rfl⟩)|(refine⟨trivial,?_⟩;gi_at_call 134;refine(γ.2 (Xr.o _ (Gr.refl wr))).mono ?_;rintro e Xc ⟨rfl,V⟩;have Y:=ι V;clear V))
    have Mb:Xc.heap[D]?=some (.deferred (some [])):=by
     have h1:=HU.o.t.size;rw[Y.o.block (by have:=Xv.o.2.1;omega),HU.o.t.block D (by have:=Xv.o.2.1;omega) Xv.o.2.2.2];exact Vk.o
    refine⟨by simp,.inl ⟨_,_,rfl,run_takeDeferred Mb,?_⟩⟩;have tt:=EJ Xc D (.deferred none);have hd:=Xv.o;have h8x:=HU.o.t.size;refine⟨.tuple #[iI ((f:Int)+(nn:Int)),iI 0],?_,?_,L,f,t,HI,rfl,rfl,?_,v1,v2,j,⟨Jw.o,Ys.o,Js.o,?_,?_⟩,?_,?_⟩
    ·simp[results,f57,go_sem]
    ·have a1:=Zh.o.trans (Yq.o.touch S)
     have a2:=a1.trans' Vr.o (λb hb h=>by
      rcases h with h|h
      ·rcases(Xa.o b h).1 with h'|h'
       ·exact h'.1
       ·omega
      ·omega)
     have a3:=(a2.mono (T:=λb=>b=g\/S b) (λ_ _ h=>.inr h)).trans (Xu.o.mono (λi _ h=>.inl h))
     have a4:=a3.trans' HU.o.t (λb hb h=>by
      rcases(Xa.o b h).1 with h'|h'
      ·exact .inr h'.1
      ·omega)
     exact(a4.trans (Y.o.touch _)).trans' tt (λb hb h=>by omega)
    ·rw[<-Yn.o];push_cast;rfl
    ·intro i hi;rw[<-Yb.o,<-Zz.o];exact HU.o.q1 i hi
    ·rw[<-Yb.o,<-Zz.o,<-J.o.1,<-J.o.2];have:=Xt.o;omega
    ·unfold FM;rw[<-Yn.o,<-Yb.o,<-Jk.o,<-Zz.o];refine((Jg.o.gr Y.o).touch tt (λb hb _ h=>?_)).mono (λb hb=>?_)
     ·rcases Xo.o b hb with h'|h'
      ·exact hd.2.2.2 (h▸h')
      ·omega
     ·rcases Xo.o b hb with h'|h'
      ·exact(Xa.o b h').1.imp (λh=>h.1) (λh=>by omega)
      ·right;omega
    ·exact(HU.o.rt.gr Y.o).touch tt (λh=>by omega) (λh=>hd.2.2.1 h.symm)
end
end
section
variable{A:Option Addr}{rs:List Int}
end
def us(l:List Nat):List Value:=l.map λx=>uU (x:Nat)
section
variable{A:Option Addr}{rs:List Int}
end
theorem WP(h:AH v){t:Nat}(_ht:t<=v.n)(hE:BN v f t=0)(hG:B8 v v1 (CA v f t))(ha:a<v.n):
  v1.ldE a=0↔v.ldE a=0\/(f<t/\f/v.pl.pg<=a/v.pl.pg/\a/v.pl.pg<=(t-1)/v.pl.pg):=by
 rw[hG.ldE h ha];rcases δ f t with Y|Y
 ·have hF:CA v f t=CB v ((f:Int)/v.pl.pg).toNat (C5 v f t):=by unfold CA;simp_all
  have e1:((f:Int)/(v.pl.pg:Int)).toNat=f/v.pl.pg:=by grind
  have e2:C5 v f t=(t-1)/v.pl.pg+1-f/v.pl.pg:=by
   unfold C5
   grind
  have g0:f/v.pl.pg<=(t-1)/v.pl.pg:=ζc Ω;rw[hF];have hmem:a/v.pl.pg∈CB v ((f:Int)/v.pl.pg).toNat (C5 v f t)↔(f/v.pl.pg<=a/v.pl.pg/\a/v.pl.pg<f/v.pl.pg+((t-1)/v.pl.pg+1-f/v.pl.pg))/\v.pt.getD (a/v.pl.pg) 0=0:=by grind [QO]
  by_cases h0:v.pt.getD (a/v.pl.pg) 0=0
  ·grind
  ·have hl:v.ldE a=0:=by rw[h.ldE_of ha,ψ h0]
   omega
 ·have hF:CA v f t=[]:=by unfold CA;grind
  grind
section
variable{rs:List Int}{t:Nat}
theorem H6.base(d:H6 v rs f t L v1 v2 j):(FM v v2 f (f+AC L) j).n=v.n/\(FM v v2 f (f+AC L) j).pl.pg=v.pl.pg/\(FM v v2 f (f+AC L) j).pl.rm=v.pl.rm/\AH (FM v v2 f (f+AC L) j)/\v2.n=v.n/\v2.pl.pg=v.pl.pg:=by
 obtain⟨e1,e2,e3,-⟩:=NJ v2 (J3 (f+AC L) v.pl.pg) (f/v.pl.pg+j-J3 (f+AC L) v.pl.pg);have n2:v2.n=v.n:=d.st.sm.n.trans d.gr.n;have p2:v2.pl.pg=v.pl.pg:=d.st.sm.pg.trans d.gr.pg;exact⟨e1.trans n2,e2.trans p2,e3.trans (d.st.sm.rm.trans d.gr.rm),RY d.st.ok _ _,n2,p2⟩
theorem H6.ldE(d:H6 v rs f t L v1 v2 j)(h:AH v)(hE:BN v f ((f+AC L:Nat):Int)=0)(hn:f+AC L<=v.n)(ha:a<v.n):
  (FM v v2 f (f+AC L) j).ldE a=0↔(v.ldE a=0\/(0<AC L/\f/v.pl.pg<=a/v.pl.pg/\a/v.pl.pg<=(f+AC L-1)/v.pl.pg))/\¬(J3 (f+AC L) v.pl.pg<=a/v.pl.pg/\a/v.pl.pg<f/v.pl.pg+j):=by
 obtain⟨-,-,-,-,n2,p2⟩:=d.base;have h1:=WP h hn hE d.gr ha;unfold FM;rw[X5 d.st.ok _ _ Ω,p2,d.st.sm.ldE];omega
theorem H6.ldV(d:H6 v rs f t L v1 v2 j)(ha:a<v.n)(hl:¬(J3 (f+AC L) v.pl.pg<=a/v.pl.pg/\a/v.pl.pg<f/v.pl.pg+j)):(FM v v2 f (f+AC L) j).ldV a=v2.ldV a:=by
 obtain⟨-,-,-,-,n2,p2⟩:=d.base;exact VIn d.st.ok _ _ Ω (by grind)
theorem H6.word(d:H6 v rs f t L v1 v2 j)(h:AH v)(hn:f+AC L<=v.n)(hi:i<AC L):(FM v v2 f (f+AC L) j).ldV ((f+i:Nat):Int)=(JN v1 L f L).getD i 0:=by
 have hp:=h.page
 rw[d.ldV Ω (λhx=>by
  have h1:=(OK (nt:=f+AC L) (pg:=v.pl.pg) hp.1).2 hx.1;have:=ζn (f+i) v.pl.pg
  omega)]
 exact d.st.row i hi
end
theorem VRx{pg tp:Nat}(h1:∀i,i<j->(q0+i)*pg<tp)(h2:tp<=(q0+j)*pg)(q:Nat)(hq:q0<=q):q<q0+j↔q*pg<tp:=by
 constructor
 ·intro h;have:=h1 (q-q0) Ω
  simp_all
 ·intro h;rcases δ q (q0+j)with h'|h'
  ·exact h'
  ·exfalso;have:=ζj pg h';omega
theorem SU(L:List Ob)(h:i<=j):AC (L.take i)<=AC (L.take j):=by
 induction j with
 | zero=>simp_all
 | succ j ih=>
  grind [δ,ω,F4,ξe]
structure MH(u a:Vm)(rs:List Int)(L:List Ob)(f n:Nat):Prop where
 mks:BO u rs n L
 un:u.n=n
 ok:AH u
 f1:1<=f
 top:f+AC L<=n
 n2:n<=524288
 ge:∀o∈L,f<=o.1
 ld:∀i,i<AC L->a.ldE ((f+i:Nat):Int)=0
 wd:∀i,i<AC L->a.ldV ((f+i:Nat):Int)=(JN u L f L).getD i 0
section
variable{a:Vm}{rs:List Int}{n:Nat}
theorem MH.to(h:MH u a rs L f n){b:Int}(hb:Hs L b):∃j,∃hj:j<L.length,(L[j].1:Int)=b/\toV L f b=((f+AC (L.take j):Nat):Int):=by
 obtain⟨o,ho,he⟩:=hb;obtain⟨j,hj,rfl⟩:=ζt ho;refine⟨j,hj,he,?_⟩;have h1:=(h.mks.mkd.good.sz _ (χ hj)).1;have:=(UF h.mks.mkd.good (base:=f) hj (a:=b) Ω Ω).1;omega
theorem MH.zero(h:MH u a rs L f n):toV L f 0=0:=by
 have hn:¬BD L 0<L.length:=λhx=>by
  have h1:=JG hx;have h2:=h.ge _ (χ hx);have:=h.f1;omega
 exact(QM hn).1
theorem MH.word(h:MH u a rs L f n){m:Nat}(hj:j<L.length)(hm:m<L[j].2):a.ldE ((f+AC (L.take j)+m:Nat):Int)=0/\a.ldV ((f+AC (L.take j)+m:Nat):Int)=pkW u L f L[j].1 m:=by
 have h2:=KZ hj;have e:f+AC (L.take j)+m=f+(AC (L.take j)+m):=Ω
 rw[e];exact⟨h.ld _ Ω,by rw[h.wd _ Ω,Ywe u L f L hj hm]⟩
end
theorem QDj{a:Vm}{rs:List Int}{n:Nat}(h:MH u a rs L f n):OD u a (Rch u rs) (toV L f) f (f+AC L):=by
 have hM:=h.mks;have hn2:=h.n2;have Y:∀{j:Nat} (hj:j<L.length),u.osz ((L[j].1:Nat):Int)=(L[j].2:Nat):=λhj=>((hM.mkd.ats _ (χ hj)).2.2).symm;refine⟨h.zero,λb hb m hm=>?_,λb hb=>?_,λb b' hb hb'=>?_⟩
 ·obtain⟨j,hj,rfl,e⟩:=h.to (hM.all _ hb);rw[Y hj]at hm;obtain⟨x1,x2⟩:=h.word hj (m:=m) Ω;rw[e,show ((f+AC (L.take j):Nat):Int)+(m:Int)=((f+AC (L.take j)+m:Nat):Int)by omega];refine⟨x1,?_⟩;rw[x2,ZB u L f L[j].1 m rfl,show ((L[j].1:Nat):Int)+(m:Int)=((L[j].1+m:Nat):Int)by omega];by_cases hT:1<=m/\(m:Int)<=(u.rdH ((L[j].1:Nat):Int)).p
  ·rw[θ hT];by_cases h0:u.ldV ((L[j].1+m:Nat):Int)=0
   ·rw[ψ (λhh=>hh.2 h0),h0];exact h.zero.symm
   ·rw[θ ⟨hT,h0⟩];have:=ZQ hM.mkd.good Ω f (u.ldV ((L[j].1+m:Nat):Int):Nat);omega
  ·rw[ψ hT,ψ (λhh=>hT hh.1)]
 ·obtain⟨j,hj,rfl,e⟩:=h.to (hM.all _ hb);have h1:=KZ hj;rw[e,Y hj];omega
 ·obtain⟨j,hj,rfl,e⟩:=h.to (hM.all _ hb);obtain⟨i,hi,rfl,e'⟩:=h.to (hM.all _ hb');have s1:=F4 hj;have s2:=F4 hi;rw[e,e',Y hj,Y hi];rcases ζS j i with hl|hl|hl
  ·have:=SU L (show j+1<=i by omega);exact .inr (.inl Ω)
  ·subst hl;exact .inl rfl
  ·have:=SU L (show i+1<=j by omega);exact .inr (.inr Ω)
structure ShA(base top:Nat)(v:Vm):Prop where
 ok:AH v
 al:base%v.pl.pg=0
 bt:base<=top/\top<=v.n
 pg:∀a:Nat,a<v.n->(v.ldE a=0↔base<=a/\a/v.pl.pg*v.pl.pg<top)
section
variable{base:Nat}
theorem ShA.ld(h:ShA base top v)(h1:base<=a)(h2:a<top):v.ldE a=0:=(h.pg a (by have:=h.bt;omega)).2 ⟨h1,ξx (ζn _ _) h2⟩
theorem ID(hg:1<=g)(hb:b%g=0):b<=p*g↔b/g<=p:=by
 have h1:=ζo b g;rw[hb,ζ7,ζA]at h1
 grind [Nat.le_of_mul_le_mul_right,ζj]
theorem ShA.map(h:ShA base top v)(hp:p<v.pt.length):v.pt.getD p 0≠0↔base/v.pl.pg<=p/\p*v.pl.pg<top:=by
 have Y:=h.ok.page.1
 have hn:p*v.pl.pg<v.n:=by
  have h1:=h.ok.np;have h2:=Nat.mul_lt_mul_of_pos_right hp (show 0<v.pl.pg by omega);omega
 have h1:=h.pg _ hn;have e:p*v.pl.pg/v.pl.pg=p:=ξR _ Ω;rw[h.ok.ldE_of hn,e,ID Y h.al]at h1;omega
theorem SD{base:Nat}(_:1<=g)(h1:base%g=0)(h2:W%g=0)(ht:top<=base+W)(hp:p*g<top):p<base/g+W/g:=by
 have e1:=ζo base g;have e2:=ζo W g;rw[h1,ζ7,ζA]at e1;rw[h2,ζ7,ζA]at e2;refine Nat.lt_of_mul_lt_mul_right (a:=g) ?_
 grind
theorem ShA.used(h:ShA base top v)(hW:W%v.pl.pg=0)(ht:top<=base+W):v.pl.used<=W/v.pl.pg:=by
 have Y:=h.ok.page.1;rw[h.ok.us];refine ω (JT (g:=λp=>decide (base/v.pl.pg<=p/\p<base/v.pl.pg+W/v.pl.pg)) λp hp hh=>?_) (ω (UO _ _ _) (Nat.le_of_eq (ξ4 ..)));rw[bne_iff_ne,h.map hp]at hh;exact φ ⟨hh.1,SD Y h.al hW ht hh.2⟩
theorem ShA.need(h:ShA base top v){n:Nat}(hn:1<=n)(hW:W%v.pl.pg=0)(ht:top+n<=base+W)(hb:base+W<=v.n)(hrm:W/v.pl.pg<=v.pl.rm):BN v top ((top+n:Nat):Int)=0:=by
 have J:=h.ok.page.1;have V:=h.bt;obtain⟨p0,Z⟩:=ε (top/v.pl.pg);obtain⟨p1,Y⟩:=ε ((top+n-1)/v.pl.pg);have hp01:p0<=p1:=by rw[Z,Y];exact ζc Ω
 have hp1l:p1<v.pt.length:=by rw[Y];exact(h.ok.split (a:=top+n-1) Ω).1
 have eA:((top:Int)/(v.pl.pg:Int)).toNat=p0:=by
  rw[show (top:Int)/(v.pl.pg:Int)=((top/v.pl.pg:Nat):Int)from rfl,β,Z]
 have eB:C5 v top ((top+n:Nat):Int)=p1+1-p0:=by
  unfold C5;rw[show ((top+n:Nat):Int)-1=((top+n-1:Nat):Int)by omega,show ((top+n-1:Nat):Int)/(v.pl.pg:Int)=(((top+n-1)/v.pl.pg:Nat):Int)from rfl,show (top:Int)/(v.pl.pg:Int)=((top/v.pl.pg:Nat):Int)from rfl,<-Z,<-Y];omega
 unfold BN;rw[ψ Ω,ψ Ω,eA,eB,θ];rw[<-Y0i h.ok Ω];refine ω (JT (g:=λp=>decide (base/v.pl.pg<=p/\p<base/v.pl.pg+W/v.pl.pg)) λp hp hh=>?_) (ω (UO _ _ _) (ω (Nat.le_of_eq (ξ4 ..)) hrm));rw[ζW,bne_iff_ne,ζg]at hh;refine φ ?_;rcases hh with hh|hh
 ·rw[h.map hp]at hh;exact⟨hh.1,SD J h.al hW Ω hh.2⟩
 ·have h1:base/v.pl.pg<=p0:=by rw[Z];exact ζc V.1
  refine⟨by omega,SD J h.al hW ht ?_⟩;have h2:=ζj v.pl.pg (show p<=p1 by omega);have h3:=ζn (top+n-1) v.pl.pg;rw[<-Y]at h3;omega
theorem ShA.alloc(h:ShA base top v){n:Nat}(hs255:p+f+k<=255)(hn:n=1+p+f+k)(h0:0<top)(hle:top+n<=v.n)(he:BN v top ((top+n:Nat):Int)=0)(hG:B8 v v1 (CA v top ((top+n:Nat):Int))):
  IL v1 top ⟨p,f,k⟩=0/\ShA base (top+n) (mkVm v1 top ⟨p,f,k⟩)/\DH v1 (mkVm v1 top ⟨p,f,k⟩)/\(∀a:Nat,a<top->(mkVm v1 top ⟨p,f,k⟩).ldV a=v.ldV a)/\(mkVm v1 top ⟨p,f,k⟩).ldV top=C8 p f k/\∀i:Nat,i<p+f+k->(mkVm v1 top ⟨p,f,k⟩).ldV ((top+1+i:Nat):Int)=0:=by
 have J:=h.ok.page.1;have Z:=h.bt
 have hl:∀a:Nat,a<v.n->(v1.ldE a=0↔base<=a/\a/v.pl.pg*v.pl.pg<top+n):=λa ha=>by
  rw[WP h.ok hle he hG ha,h.pg a ha];have q1:=ζn a v.pl.pg;have q2:=ζo a v.pl.pg;constructor
  ·rintro(⟨a1,a2⟩|⟨-,a1,a2⟩)
   ·exact⟨a1,by omega⟩
   ·have h1:base/v.pl.pg<=a/v.pl.pg:=ω (ζc Z.1) a1;have h2:=(ID J h.al).2 h1;have h3:=ζj v.pl.pg a2;have h4:=ζn (top+n-1) v.pl.pg;exact⟨by omega,by omega⟩
  ·rintro⟨a1,a2⟩;rcases δ (a/v.pl.pg*v.pl.pg) top with h1|h1
   ·exact .inl ⟨a1,h1⟩
   ·refine .inr ⟨by omega,?_,?_⟩
    ·exact ζc Ω
    ·rw[ξi Ω];omega
 obtain⟨m1,m2⟩:=JER (v:=v1) hG.ok (t:=top) (p:=p) (f:=f) (c:=k) h0 hs255 (λj hj=>by
  exact(hl _ Ω).2 ⟨by omega,by have:=ζn (top+j) v.pl.pg;omega⟩)
 have Y:DH v1 (mkVm v1 top ⟨p,f,k⟩):=(DH.refl hG.ok).mkVm _ _;refine⟨m1,⟨Y.ok,by rw[Y.sm.pg,hG.pg];exact h.al,⟨by omega,by rw[Y.sm.n,hG.n];exact hle⟩,λa ha=>?_⟩,Y,λa ha=>?_,?_,λi hi=>?_⟩
 ·rw[Y.sm.n,hG.n]at ha;rw[Y.sm.ldE,Y.sm.pg,hG.pg];exact hl a ha
 ·rw[m2,ψ Ω,ψ Ω];exact hG.ldV_all h.ok Ω
 ·rw[m2,θ rfl]
 grind
theorem HpA.shut(hO:BV s v)(h:HpA top u s v)(hall:∀i,i<AC s.L->s.is i=true):ShA s.cf.to top v/\∀a:Nat,s.cf.to<=a->a<top->v.ldE a=0/\v.ldV a=u.ldV a:=by
 obtain⟨h1,h2⟩:=h.done hO hall;have hs:=hO.st;have Y:=hO.mid.pg;have Z:=hs.pg.1;have hlm:=h.lm;refine⟨⟨hO.mid.ok,by rw[Y];exact hs.cf.at_,⟨by omega,by have:=hs.cf.ln;rw[hO.mid.n];omega⟩,λa ha=>?_⟩,h2⟩;rw[hO.mid.ok.ldE_of ha,Y];have h3:=h1 (a/s.pg) (by rw[<-Y];exact(hO.mid.ok.split ha).1);have q1:=ζn a s.pg;have q2:=ζo a s.pg;constructor
 ·intro hh;have J:v.pt.getD (a/s.pg) 0≠0:=λe=>by rw[θ e]at hh;cases hh
  obtain⟨b,b1,b2,b3⟩:=h3.1 J;have h4:s.cf.to/s.pg<=a/s.pg:=by rw[<-b3];exact ζc b1
  have h5:=(ID Z hs.cf.at_).2 h4;have h6:=ζn b s.pg;rw[b3]at h6;exact⟨by omega,by omega⟩
 ·rintro⟨a1,a2⟩;have h4:s.cf.to<=a/s.pg*s.pg:=(ID Z hs.cf.at_).2 (ζc a1);exact ψ (h3.2 ⟨a/s.pg*s.pg,h4,a2,ξR _ Ω⟩)
end
section
variable{base:Nat}{g:Gph}{F:Nat->Nat}{c:Cf}{rs:List Int}
theorem Img.grown(h:Img v g F base top)(hv:AH v)(hG:∃E,B8 v v1 E)(ht:top<=v.n):Img v1 g F base top:=by
 obtain⟨E,hG⟩:=hG;refine h.mem λa h1 h2 hl=>⟨?_,hG.ldV_all hv Ω⟩
 rw[hG.ldE hv Ω];omega
theorem Img.roots(h:Img v g F base top){T:Int->Int}{lo hi:Nat}(hm:OD v v' (Rch v (g.S.map λx=>(F x:Int))) T lo hi):(g.S.map λx=>(F x:Int)).map T=g.S.map λx=>(((T (F x)).toNat:Nat):Int):=by
 rw[List.map_map];refine ξ1 λx hx=>?_
 show T (F x)=_
 by_cases h0:x=0
 ·subst h0;rw[h.z];rw[show (((0:Nat):Int))=0 from rfl,hm.z];rfl
 ·have:=(hm.lo _ (h.rch_of (Gph.Rd.root hx h0))).1;omega
theorem ShA.needC(h:ShA base top v)(hW:W%v.pl.pg=0)(ht:top<=base+W){N:Nat}(hto:t0%v.pl.pg=0)(hN:N<=W)(hb:t0+N<=v.n)(hrm:2*(W/v.pl.pg)<=v.pl.rm):BN v t0 ((t0+N:Nat):Int)=0:=by
 have Z:=h.ok.page.1;rcases ζF N with rfl|hN0
 ·unfold BN;omega
 obtain⟨p0,Y⟩:=ε (t0/v.pl.pg);obtain⟨p1,J⟩:=ε ((t0+N-1)/v.pl.pg);have hp01:p0<=p1:=by rw[Y,J];exact ζc Ω
 have eA:((t0:Int)/(v.pl.pg:Int)).toNat=p0:=by
  omega
 have eB:C5 v t0 ((t0+N:Nat):Int)=p1+1-p0:=by
  unfold C5
  grind
 have hu:=h.used hW ht;have hl:=U7 v p0 (p1+1-p0)
 have hp1W:p1<p0+W/v.pl.pg:=by
  rw[Y];refine SD Z hto hW (show t0+N<=t0+W by omega) ?_;have:=ζn (t0+N-1) v.pl.pg
  grind
 unfold BN
 grind
theorem ShA.copied(h:ShA c.fr c.tp v)(hcf:IY v.pl.pg v.n c)(hfit:c.to+AC L<=c.lm)(hE:BN v c.to ((c.to+AC L:Nat):Int)=0){kq:Nat}(hD:WK v rs c L v1 v2 k kq):
  ShA c.to (c.to+AC L) (umN v2 (c.fr/v.pl.pg) kq)/\(umN v2 (c.fr/v.pl.pg) kq).n=v.n/\(umN v2 (c.fr/v.pl.pg) kq).pl.pg=v.pl.pg/\(umN v2 (c.fr/v.pl.pg) kq).pl.rm=v.pl.rm/\∀a:Nat,c.to<=a->a<c.to+AC L->¬(c.fr/v.pl.pg<=a/v.pl.pg/\a/v.pl.pg<c.fr/v.pl.pg+kq):=by
 have Y:=h.ok.page.1;have hln:=hcf.ln;have hlm:=hcf.lm;obtain⟨e1,e2,e3,-⟩:=NJ v2 (c.fr/v.pl.pg) kq;have n2:v2.n=v.n:=hD.st.cp.sm.n.trans hD.gr.n;have p2:v2.pl.pg=v.pl.pg:=hD.st.cp.sm.pg.trans hD.gr.pg;have hq:∀q,c.fr/v.pl.pg<=q->(q<c.fr/v.pl.pg+kq↔q*v.pl.pg<c.tp):=λq hq=>VRx hD.q1 hD.q2 q hq
 have Z:∀a:Nat,c.to<=a->a<c.lm->¬(c.fr/v.pl.pg<=a/v.pl.pg/\a/v.pl.pg<c.fr/v.pl.pg+kq):=λa a1 a2 hh=>by
  have h1:=(hq _ hh.1).1 hh.2;have h2:=(ID Y hcf.af).2 hh.1;have h3:=ζn a v.pl.pg;have hu:=XSg (n:=c.tp) Y
  have hn:c.lm<=c.fr\/upN c.tp v.pl.pg<=c.to:=by
   have:=hcf.ap;omega
  rcases hn with e|e
  ·omega
  ·have h4:=(ID (b:=c.to) Y hcf.at_).2 (ζc a1);omega
 refine⟨⟨RY hD.st.cp.ok _ _,?_,⟨ζT _ _,?_⟩,λa ha=>?_⟩,e1.trans n2,e2.trans p2,e3.trans (hD.st.cp.sm.rm.trans hD.gr.rm),λa a1 a2=>Z a a1 Ω⟩
 ·rw[e2,p2];exact hcf.at_
 ·omega
 ·rw[e1,n2]at ha;rw[e2,p2,X5 hD.st.cp.ok _ _ (by rw[n2];exact ha),p2,hD.st.cp.sm.ldE];have h1:=WP h.ok Ω hE hD.gr ha;rw[h.pg a ha]at h1;have q1:=ζn a v.pl.pg;have q2:=ζo a v.pl.pg;by_cases hx:c.fr/v.pl.pg<=a/v.pl.pg/\a/v.pl.pg<c.fr/v.pl.pg+kq
  ·rw[θ hx];refine⟨(λhh=>by cases hh),λ⟨a1,a2⟩=>absurd hx ?_⟩;have h4:=(ID (b:=c.to) Y hcf.at_).2 (ζc a1);have:=Z (a/v.pl.pg*v.pl.pg) h4 Ω;rw[ξR _ (show 0<v.pl.pg by omega)]at this;exact this
  ·rw[ψ hx,h1];constructor
   ·rintro(⟨a1,a2⟩|⟨a0,a1,a2⟩)
    ·have h2:c.fr/v.pl.pg<=a/v.pl.pg:=ζc a1;exact absurd ⟨h2,(hq _ h2).2 a2⟩ hx
    ·have h4:=(ID (b:=c.to) Y hcf.at_).2 a1;have h5:=ζj v.pl.pg a2;have h6:=ζn (c.to+AC L-1) v.pl.pg;exact⟨by omega,by omega⟩
   ·rintro⟨a1,a2⟩;refine .inr ⟨?_,ζc a1,?_⟩
    ·have h4:=(ID (b:=c.to) Y hcf.at_).2 (ζc a1);omega
    ·rw[ξi Ω];omega
theorem ShA.packed(h:ShA base top v)(hfit:base+AC L<=top)(hE:BN v base ((base+AC L:Nat):Int)=0)(hD:H6 v rs base top L v1 v2 j):
  ShA base (base+AC L) (FM v v2 base (base+AC L) j)/\(FM v v2 base (base+AC L) j).n=v.n/\(FM v v2 base (base+AC L) j).pl.pg=v.pl.pg/\(FM v v2 base (base+AC L) j).pl.rm=v.pl.rm:=by
 have Y:=h.ok.page.1;have hbt:=h.bt;obtain⟨b1,b2,b3,b4,-,-⟩:=hD.base;refine⟨⟨b4,by rw[b2];exact h.al,⟨ζT _ _,by omega⟩,λa ha=>?_⟩,b1,b2,b3⟩;rw[b1]at ha;rw[b2,hD.ldE h.ok hE Ω ha,h.pg a ha];have q1:=ζn a v.pl.pg;have q2:=ζo a v.pl.pg;rw[<-OK (nt:=base+AC L) (pg:=v.pl.pg) (q:=a/v.pl.pg) Y];constructor
 ·rintro⟨h1|⟨a0,a1,a2⟩,h2⟩
  ·refine⟨h1.1,Nat.lt_of_not_le λh3=>h2 ⟨h3,(VRx hD.q1 hD.q2 _ (ζc h1.1)).2 h1.2⟩⟩
  ·have h4:=(ID (b:=base) Y h.al).2 a1;have h5:=ζj v.pl.pg a2;have h6:=ζn (base+AC L-1) v.pl.pg;omega
 omega
theorem YxV(hv:AH v)(hM:BO v rs v.n L)(hE:BN v base ((base+AC L:Nat):Int)=0)(hn:base+AC L<=v.n)(hD:H6 v rs base top L v1 v2 j):OD v1 (FM v v2 base (base+AC L) j) (Rch v1 rs) (toV L base) base (base+AC L):=by
 have hw:=hD.gr.wider hv;have Y:=hv.page;refine QDj (n:=v.n) ⟨hw.marks hM,hD.gr.n,hD.gr.ok,hD.cx.fr1,hn,hv.n2,λo ho=>(hD.cx.inn o ho).1,λi hi=>?_,λi hi=>hD.word hv hn hi⟩;refine(hD.ldE hv hE hn Ω).2 ⟨.inr ⟨by omega,ζc Ω,ζc Ω⟩,λhx=>?_⟩;have h1:=(OK (nt:=base+AC L) (pg:=v.pl.pg) Y.1).2 hx.1;have:=ζn (base+i) v.pl.pg;omega
end
theorem XUb{gv:Vm}{rs:List Int}{c:Cf}{n:Nat}(hM:BO v rs n L)(hn:n<=524288)
  (hg:∀i,i<AC L->gv.ldE ((c.to+i:Nat):Int)=0/\gv.ldV ((c.to+i:Nat):Int)=(A8 v c L).c i):OD v gv (Rch v rs) (toV L c.to) c.to (c.to+AC L):=by
 have hG:=hM.mkd.good
 have Y:∀{j:Nat} (hj:j<L.length),0<L[j].1/\v.osz ((L[j].1:Nat):Int)=(L[j].2:Nat):=λhj=>by
  obtain⟨-,h2,h3⟩:=hM.mkd.ats _ (χ hj);have:=(DQ h2).1;exact⟨by omega,h3.symm⟩
 have hz:toV L c.to 0=0:=by
  refine(QM λhx=>?_).1;have h1:=JG hx;have h2:=(Y hx).1;omega
 have Z:∀a,Rch v rs a->∃(j:Nat) (hj:j<L.length),(L[j].1:Int)=a/\toV L c.to a=((c.to+AC (L.take j):Nat):Int):=λa ha=>by
  obtain⟨o,ho,he⟩:=hM.all a ha;obtain⟨j,hj,rfl⟩:=ζt ho;have hs:=(hG.sz _ (χ hj)).1;have:=(UF hG (base:=(c.to:Int)) hj (a:=a) Ω Ω).1;exact⟨j,hj,he,by omega⟩
 refine⟨hz,λb hb m hm=>?_,λb hb=>?_,λb b' hb hb'=>?_⟩
 ·obtain⟨j,hj,rfl,e⟩:=Z b hb;rw[(Y hj).2]at hm;have J:m<L[j].2:=Ω
  have hmid:=KZ hj;obtain⟨x1,x2⟩:=hg (AC (L.take j)+m) Ω;rw[e,show ((c.to+AC (L.take j):Nat):Int)+(m:Int)=((c.to+(AC (L.take j)+m):Nat):Int)by omega];refine⟨x1,?_⟩
  have hc:(A8 v c L).c (AC (L.take j)+m)=cvH L c.to (v.rdH ((L[j].1:Nat):Int)) m (v.ldV ((L[j].1+m:Nat):Int)):=by
   show cvH L c.to (v.rdH ((L.getD (CC L (AC (L.take j)+m)) (0,0)).1:Nat)) (AC (L.take j)+m-AC (L.take (CC L (AC (L.take j)+m)))) (v.ldV (AI L (AC (L.take j)+m):Nat))=_
   rw[VNq hj J,YZF hj J,ξ4,κ,τ hj];rfl
  rw[x2,hc,show ((L[j].1:Nat):Int)+(m:Int)=((L[j].1+m:Nat):Int)by omega];unfold cvH;by_cases hT:1<=m/\(m:Int)<=(v.rdH ((L[j].1:Nat):Int)).p
  ·rw[θ hT];by_cases h0:v.ldV ((L[j].1+m:Nat):Int)=0
   ·rw[ψ (λhh=>hh.2 h0),h0];exact hz.symm
   ·rw[θ ⟨hT,h0⟩];have:=ZQ hG Ω c.to (v.ldV ((L[j].1+m:Nat):Int):Nat);omega
  ·rw[ψ hT,ψ (λhh=>hT hh.1)]
 ·obtain⟨j,hj,rfl,e⟩:=Z b hb;have h1:=KZ hj;rw[e,(Y hj).2];omega
 ·obtain⟨j,hj,rfl,e⟩:=Z b hb;obtain⟨i,hi,rfl,e'⟩:=Z b' hb';have s1:=F4 hj;have s2:=F4 hi;rw[e,e',(Y hj).2,(Y hi).2];rcases ζS j i with hl|hl|hl
  ·have:=SU L (show j+1<=i by omega);exact .inr (.inl Ω)
  ·subst hl;exact .inl rfl
  ·have:=SU L (show i+1<=j by omega);exact .inr (.inr Ω)
def rnL(q base top lim:Nat):List Value:=[pP q,iI base,iI top,iI lim]
abbrev FZ(w:World)(rn q base top lim:Nat):Prop:=Rec w rn 193 (rnL q base top lim)
section
variable{S:Nat->Prop}{q rn base lim:Nat}
theorem YN8(hV:AE w S q v)(hn:v.n≠0)(h1:base<=lim)(h2:lim<=v.n):Calls prog 50 #[pP q,iI base,iI lim] w λe w'=>∃rn,e=.returned (.tuple #[pP rn,iI 0])/\Gr w w'/\w.heap.size<=rn/\FZ w' rn q base base lim:=by
 have HW:=(J0 hV);have hn2:=hV.ok.n2;have d0:((v.n:Int)==0)=false:=by simp;omega
 have d1:decide ((base:Int)<0)=false:=ζ Ω;have d2:decide ((lim:Int)<(base:Int))=false:=ζ Ω;have d3:decide ((v.n:Int)<(lim:Int))=false:=ζ Ω;have HR:=(Rec.new w 193 (rnL q base base lim));go_in;go_wp2_with(go_at_call 71;refine AJ (HW) ?_);go_ret2;exact⟨w.heap.size,rfl,(Gr.refl w).alloc _,μ _,HR⟩
theorem RT(h:FZ w rn q base top lim):cQ 139 #[pP rn] w (.bool false):=by
 have c0:=h.cc 0;go_enter func139,ntmps139;go_wp2;go_ret
 simp_all
theorem RF(h:FZ w rn q base top lim):cQ 58 #[pP rn] w (iI base):=by
 have HN:=(RT h);have c0:=h.cc 1;go_enter func58,ntmps58;go_wp2_with(go_at_call 139;refine AJ (HN) ?_);go_ret
 simp_all
theorem XX(h:FZ w rn q base top lim):cQ 59 #[pP rn] w (iI top):=by
 have HN:=(RT h);have c0:=h.cc 2;go_enter func59,ntmps59;go_wp2_with(go_at_call 139;refine AJ (HN) ?_);go_ret
 simp_all
theorem JDi(h:FZ w rn q base top lim){t:Nat}(h1:base<=t)(h2:t<=lim):Calls prog 60 #[pP rn,iI t] w λe w'=>e=.returned (iI 0)/\AB (λk=>k=rn) w w'/\FZ w' rn q base t lim:=by
 have HN:=(RT h);have c1:=h.cc 1;have c2:=h.cc 2;have c3:=h.cc 3;have cf:=h.free 2;have cl:=h.lt;have HS:=(h.set 2 (iI t));have HT:Hid (AB (λk=>k=rn) w (w.setCell ⟨rn,2,none⟩ (.int .i64 t))):=⟨(AB.refl (λk=>k=rn) w).setCell (a:=⟨rn,2,none⟩) (λ_=>rfl) _⟩;have d1:decide ((t:Int)<(base:Int))=false:=ζ Ω;have d2:decide ((lim:Int)<(t:Int))=false:=ζ Ω;go_in;go_wp2_with(go_at_call 139;refine AJ (HN) ?_);go_ret;exact⟨rfl,HT.o,HS⟩
def VhE(w:World)(S:Nat->Prop)(q rn base top lim n:Nat)(v:Vm)(e:Ending)(w':World):Prop:=
 (lim<top+n/\e=.returned (.tuple #[iI 0,iI 21])/\Gr w w') ∨
 (top+n<=lim/\e=.returned (.tuple #[iI top,iI 0])/\AB (λk=>k=rn\/S k) w w'/\J1 w' (plus S w) q v (CA v top ((top+n:Nat):Int))/\FZ w' rn q base (top+n) lim)
theorem Xej(h:FZ w rn q base top lim)(hV:AE w S q v)(hS:¬S rn){n:Nat}(hn:1<=n)(htl:top<=lim)(hlv:lim<=v.n)(hE:top+n<=lim->BN v top ((top+n:Nat):Int)=0):Calls prog 162 #[pP rn,iI n] w (VhE w S q rn base top lim n v):=by
 have HN:=(RT h);have hn2:=hV.ok.n2;have c0:=h.cc 0;have c2:=h.cc 2;have c3:=h.cc 3;have cl:=h.lt;have d0:decide ((n:Int)<1)=false:=ζ Ω;rcases δ lim (top+n)with D|V
 ·have d1:decide ((lim:Int)-(top:Int)<(n:Int))=true:=φ Ω;go_in;go_upto_region 5 with(go_at_call 139;refine AJ (HN) ?_);go_quiet (fail);go_wp2;go_ret2;exact .inl ⟨D,rfl,(Gr.refl w).drewN _⟩
 ·have d1:decide ((lim:Int)-(top:Int)<(n:Int))=false:=ζ Ω;have Y:=(λ(W:World) (g:Gr w W)=>TD (hV.gr g) top (top+n) Ω Ω);rw[hE V]at Y;have HR:=h;have N:=hS;have e1:(((top+n:Nat)):Int)=(top:Int)+n:=Ω
  rw[e1]at Y;go_in;go_upto_region 5 with(go_at_call 139;refine AJ (HN) ?_);go_quiet (fail);go_upto_region 7 with(fail);obtain⟨Sx,J,HS⟩:=AA.start λW'=>FZ W' rn q base top lim;have c0:=AA.fact J λ_ h=>h.cell (j:=0) rfl;have c2:=AA.fact J λ_ h=>h.cell (j:=2) rfl;have Z:=HS.o _ (HR.gr ((Gr.refl w).drewN nq).drew);have E:Inhabited (AA Sx):=⟨⟨_,Z⟩⟩;clear J;refine BI Sx 16 [([0,1,2,3,4,5,6,7,8,9,10,11,12,13],14)] [15] Z ?_;refine AL ?_;go_wp2_with((go_at_call 125;refine Qa (Y _ ((Gr.refl w).drewN _)) λw2⟨ht,hg⟩=>?_;have HG:=hg;have r2:=(HR.gr ((Gr.refl w).drewN (nq+1))).touch ht N;have k2:=r2.cc 2;have kf:=r2.free 2;have I:=r2));refine⟨.inr (AA.of (HS.o _ (I))),?_⟩;refine CU ?_;clear c0 c2 Z E;go_wp2;go_ret2;refine .inr ⟨V,rfl,?_,?_,?_⟩
  ·exact((((Gr.refl w).drewN _).touch _).trans (ht.mono (λ_ _ h=>.inr h))).setCell (a:=⟨rn,2,none⟩) (λ_=>.inl rfl) _
  ·obtain⟨v',h1,h2⟩:=HG;rw[e1];refine⟨v',h1,h2.touch ((AB.refl (λk=>k=rn) _).setCell (a:=⟨rn,2,none⟩) (λ_=>rfl) _) (λk hk _ e=>?_)⟩;have:=HR.lt;rcases hk with hk|hk
   ·exact N (e▸hk)
   ·have:w.heap.size<=k:=hk;omega
  ·have:=I.set 2 (iI ((top:Int)+n))
   show Rec _ rn _ (rnL q base (top+n) lim)
   unfold rnL at this⊢;rw[e1];exact this
end
def CR(l l':List Bool):Prop:=l'.length=l.length/\∀i,at_ l i=true->at_ l' i=true
theorem CR.refl(l:List Bool):CR l l:=⟨rfl,λ_ h=>h⟩
theorem CR.trans{a b c:List Bool}(h:CR a b)(k:CR b c):CR a c:=⟨k.1.trans h.1,λi hi=>k.2 i (h.2 i hi)⟩
theorem CR.set(l:List Bool)(k:Nat):CR l (l.set k true):=by
 refine⟨ζa ..,λi hi=>?_⟩;rcases δ k l.length with h|h
 ·rw[GU h]
  simp_all
 grind [List.set_eq_of_length_le]
theorem CR.step(l:List Bool):CR l (C7 l):=by
 unfold C7
 split
 ·exact CR.set _ _
 ·exact CR.refl _
theorem CR.run(A k n:Nat)(l:List Bool):CR l (II A k n l):=by
 induction n generalizing l with
 | zero=>exact CR.refl _
 | succ n ih=>
  unfold II
  split
  ·exact(CR.step l).trans (ih _)
  ·exact CR.refl _
theorem CR.touch(A k:Nat)(l:List Bool):CR l (J8 A k l):=by
 unfold J8
 split
 ·exact CR.refl _
 ·exact(CR.run A k k l).trans (CR.set _ _)
theorem CR.mvd(h:CR l l'):CI l<=CI l':=by
 unfold CI;rw[h.1];exact JT λi _ hi=>h.2 i hi
theorem Sl.tch_mono(s:Sl)(b:Int):CR s.mv (s.tch b).mv:=by
 show CR s.mv (if inF s.L s.cf.to b then J8 s.cf.ah ((b-s.cf.to).toNat/s.cf.bk) s.mv else s.mv)
 split
 ·exact CR.touch _ _ _
 ·exact CR.refl _
theorem Sl.lf_mono(h:CR s.mv s'.mv):s'.lf<=s.lf:=by
 have h1:=h.mvd;have h2:=h.1
 show s'.mv.length-CI s'.mv<=s.mv.length-CI s.mv
 omega
theorem QGs(hf:ftL l<l.length):CI (C7 l)=CI l+1/\CI l+1<=l.length:=by
 have hz:at_ l (ftL l)=false:=by
  have h1:(!at_ l (ftL l))=true:=H7 (λk=>!at_ l k) _ hf
  simp_all
 have h1:=KM hf hz;have h2:cnt (at_ (l.set (ftL l) true)) l.length<=l.length:=EY _ _
 have h3:CI (C7 l)=CI l+1:=by
  unfold CI C7
  simp_all
 refine⟨h3,?_⟩;unfold CI;omega
theorem Sl.lf_step(h:s.ft<s.mv.length):s.step.lf+1=s.lf:=by
 obtain⟨h1,h2⟩:=QGs (l:=s.mv) h
 show (C7 s.mv).length-CI (C7 s.mv)+1=s.mv.length-CI s.mv
 rw[TR,h1];omega
structure HCf where
 kd:Nat
 pg:Nat
 bk:Nat
 wd:Nat
 sl:Nat
 st:Nat
 ah:Nat
 tr:Nat
variable{c:HCf}
def HCf.q(c:HCf):Nat:=max 1 (c.bk/c.pg)
def HCf.spare(c:HCf):Nat:=(c.ah+2)*(c.q+3)
def HCf.fr(c:HCf):Nat:=if c.kd=1 then c.wd/c.pg+c.spare else if c.kd=2 then 2*(c.wd/c.pg)else c.wd/c.pg
def HCf.n(c:HCf):Nat:=if c.kd=3 then c.pg+c.wd else c.pg+c.wd+c.wd
structure HCf.Ok(c:HCf):Prop where
 kd:1<=c.kd/\c.kd<=3
 pg:EX c.pg=true
 bk:BQ c.bk=true
 wd:16<=c.wd/\c.wd<=131072
 dv:c.wd%c.pg=0
 pw:c.pg<=c.wd
 sl:1<=c.sl/\c.sl<=64
 st:1<=c.st/\c.st<=4096
 ah:c.ah<=16
 fr:c.fr<=4096
def JW(c:HCf):List Value:=[iI c.kd,iI c.pg,iI c.bk,iI c.wd,iI c.sl,iI c.st,iI c.ah,.float .f64 c.tr]
def LS(c:HCf):Value:=.agg (JW c).toArray
structure HAd where
 hp:Nat
 q:Nat
 r:Nat
 g:Nat
 rn:Nat
variable{A:HAd}
def hpL(c:HCf)(A:HAd)(cy:Option Nat)(cyc blk:Int):List Value:=
 [iI c.kd,iI c.pg,iI c.bk,iI c.wd,iI c.sl,iI c.st,iI c.ah,.float .f64 c.tr,
  pP A.q,pP A.r,pP A.rn,.pointer (cy.map λy=>⟨y,0,none⟩),iI cyc,iI blk]
structure CM(w:World)(X:Nat->Prop)(A:HAd)(c:HCf)(base top:Nat)(rs:List Int)(cy:Option Nat)(cyc blk:Int):Prop where
 row:Rec w A.hp 104 (hpL c A cy cyc blk)
 rn:FZ w A.rn A.q base top (base+c.wd)
 rt:A7 w A.r A.g rs
 tab:AQ w
 n1:A.hp≠A.r/\A.hp≠A.g/\A.hp≠A.rn/\A.hp≠1
 n2:A.r≠A.g/\A.r≠A.rn/\A.r≠1
 n3:A.g≠A.rn/\A.g≠1/\A.rn≠1
 x:¬X A.hp/\¬X A.r/\¬X A.g/\¬X A.rn/\¬X 1
section
variable{S:Nat->Prop}{base:Nat}{rs:List Int}
theorem CM.lt(h:CM w X A c base top rs cy cyc blk):A.hp<w.heap.size/\A.r<w.heap.size/\A.g<w.heap.size/\A.rn<w.heap.size/\1<w.heap.size:=⟨h.row.lt,h.rt.lt.1,h.rt.lt.2,h.rn.lt,h.tab.lt⟩
theorem CM.touch(h:CM w X A c base top rs cy cyc blk)(t:AB T w w')(hT:¬T A.hp/\¬T A.r/\¬T A.g/\¬T A.rn/\¬T 1):CM w' X A c base top rs cy cyc blk:=
 ⟨h.row.touch t hT.1,h.rn.touch t hT.2.2.2.1,h.rt.touch t hT.2.1 hT.2.2.1,t.tab h.tab.lt hT.2.2.2.2 h.tab,h.n1,h.n2,h.n3,h.x⟩
theorem CM.gr(h:CM w X A c base top rs cy cyc blk)(g:Gr w w'):CM w' X A c base top rs cy cyc blk:=h.touch (g.touch (λ_=>False)) ⟨id,id,id,id,id⟩
theorem CM.mem(h:CM w X A c base top rs cy cyc blk)(t:AB X w w'):CM w' (plus X w) A c base top rs cy cyc blk:=by
 obtain⟨l1,l2,l3,l4,l5⟩:=h.lt;obtain⟨x1,x2,x3,x4,x5⟩:=h.x;have k:=h.touch t h.x;exact⟨k.row,k.rn,k.rt,k.tab,k.n1,k.n2,k.n3,λe=>e.elim x1 (λe=>by omega),λe=>e.elim x2 (λe=>by omega),λe=>e.elim x3 (λe=>by omega),λe=>e.elim x4 (λe=>by omega),λe=>e.elim x5 (λe=>by omega)⟩
theorem CM.sub(h:CM w X A c base top rs cy cyc blk)(hx:∀k,k<w.heap.size->X' k->X k):CM w X' A c base top rs cy cyc blk:=by
 obtain⟨l1,l2,l3,l4,l5⟩:=h.lt;obtain⟨x1,x2,x3,x4,x5⟩:=h.x;exact⟨h.row,h.rn,h.rt,h.tab,h.n1,h.n2,h.n3,λe=>x1 (hx _ l1 e),λe=>x2 (hx _ l2 e),λe=>x3 (hx _ l3 e),λe=>x4 (hx _ l4 e),λe=>x5 (hx _ l5 e)⟩
theorem CM.root{rs':List Int}(h:CM w X A c base top rs cy cyc blk)(t:AB (λk=>k=A.g) w w')(hr:A7 w' A.r A.g rs'):CM w' X A c base top rs' cy cyc blk:=
 ⟨h.row.touch t h.n1.2.1,h.rn.touch t (λe=>h.n3.1 e.symm),hr,t.tab h.tab.lt (λe=>h.n3.2.1 e.symm) h.tab,h.n1,h.n2,h.n3,h.x⟩
theorem CM.turn{top':Nat}(h:CM w X A c base top rs cy cyc blk)(t:AB (λk=>k=A.rn) w w')(hr:FZ w' A.rn A.q base top' (base+c.wd)):CM w' X A c base top' rs cy cyc blk:=
 ⟨h.row.touch t h.n1.2.2.1,hr,h.rt.touch t h.n2.2.1 h.n3.1,t.tab h.tab.lt (λe=>h.n3.2.2 e.symm) h.tab,h.n1,h.n2,h.n3,h.x⟩
end
structure HVm(c:HCf)(v:Vm):Prop where
 n:v.n=c.n
 pg:v.pl.pg=c.pg
 rm:v.pl.rm=c.fr
def DJ(c:HCf)(fr tp t0:Nat):Cf:=⟨fr,tp,t0,t0+c.wd,c.bk,c.st,c.ah⟩
def HpB(rm top:Nat)(u:Vm)(s:Sl)(v:Vm):Prop:=HpA top u s v/\v.pl.rm=rm
theorem WW(rm top:Nat)(u:Vm):SlJ (HpB rm top u):=⟨λ_ _ _ hO hA hk _ _=>hA.1.need hO hk,λ_ _ _ _ hO hA hk hm hc hM=>⟨hA.1.step hO hk hm hc hM,hM.rm.trans hA.2⟩⟩
structure IP(w:World)(X:Nat->Prop)(A:HAd)(c:HCf)(base top:Nat)(u:Vm)(y:Nat)(z:CH)(s:Sl)(v:Vm)(R Sv:Nat->Prop):Prop where
 cy:Cyc w R y A.q z s
 vm:AE w Sv A.q v
 hv:HVm c v
 ok:BV s v
 a:HpA top u s v
 x:∀k,R k\/Sv k->X k
 d:∀k,R k->¬Sv k
 tab:AQ w
 t1:¬R 1
 t2:¬Sv 1
 bs:s.cf.to=base
 lm:s.cf.lm=base+c.wd
 bk:s.cf.bk=c.bk
 ah:s.cf.ah=c.ah
 kd:c.kd=1
def FJ(w:World)(X:Nat->Prop)(A:HAd)(c:HCf)(base top:Nat)(u:Vm):Option Nat->Nat->Nat->Prop
 | none,lf,_=>AE w X A.q u/\HVm c u/\ShA base top u/\lf=0
 | some y,lf,nb=>∃z s v R Sv,IP w X A c base top u y z s v R Sv/\s.lf=lf/\s.mv.length=nb
section
variable{base:Nat}
theorem FJ.touch(h:FJ w X A c base top u o lf nb)(t:AB T w w')(hT:∀k,k<w.heap.size->T k->¬X k/\k≠1)(hx:∀k,X k->X' k):FJ w' X' A c base top u o lf nb:=by
 match o,h with
 | none,⟨h1,h2,h3,h4⟩=>exact⟨(h1.touch t (λk hk hl ht=>(hT k hl ht).1 hk)).mono hx,h2,h3,h4⟩
 | some y,⟨z,s,v,R,Sv,h,e1,e2⟩=>
  have hl:=h.cy.od.lt;exact⟨z,s,v,R,Sv,⟨h.cy.touch t (λk hk ht=>(hT k (hl k hk) ht).1 (h.x k (.inl hk))),h.vm.touch t (λk hk hl ht=>(hT k hl ht).1 (h.x k (.inr hk))),h.hv,h.ok,h.a,λk hk=>hx k (h.x k hk),h.d,t.tab h.tab.lt (λht=>(hT _ h.tab.lt ht).2 rfl) h.tab,h.t1,h.t2,h.bs,h.lm,h.bk,h.ah,h.kd⟩,e1,e2⟩
theorem FJ.gr(h:FJ w X A c base top u o lf nb)(g:Gr w w'):FJ w' X A c base top u o lf nb:=h.touch (g.touch (λ_=>False)) (λ_ _ h=>h.elim) (λ_ h=>h)
theorem FJ.cut(h:FJ w X A c base top u o lf nb):FJ w (AD X w) A c base top u o lf nb:=by
 match o,h with
 | none,⟨h1,h2,h3,h4⟩=>exact⟨h1.cut,h2,h3,h4⟩
 | some y,⟨z,s,v,R,Sv,h,e1,e2⟩=>
  exact⟨z,s,v,R,AD Sv w,⟨h.cy,h.vm.cut,h.hv,h.ok,h.a,λk hk=>hk.elim (λhk=>⟨h.x k (.inl hk),h.cy.od.lt k hk⟩) (λhk=>⟨h.x k (.inr hk.1),hk.2⟩),λk hk hk2=>h.d k hk hk2.1,h.tab,h.t1,λhk=>h.t2 hk.1,h.bs,h.lm,h.bk,h.ah,h.kd⟩,e1,e2⟩
theorem FJ.ok(h:FJ w X A c base top u o lf nb):AH u:=by
 match o,h with
 | none,⟨h1,_⟩=>exact h1.ok
 | some y,⟨z,s,v,R,Sv,h,e1,e2⟩=>exact h.a.ok
end
def tyH:Option Nat->TypeId
 | none=>99
 | some _=>102
def fnH(a b:FuncId):Option Nat->FuncId
 | none=>a
 | some _=>b
def ptH(q:Nat):Option Nat->Value
 | none=>pP q
 | some y=>pP y
def spH(A:HAd)(c:HCf)(base top:Nat)(o:Option Nat)(lf nb:Nat):Sp:=
 ⟨tyH o,ptH A.q o,fnH 206 324 o,λa=>∃n:Nat,a=n/\base<=n/\n<top,True,λk=>k=1,
  λu X w=>(∃l,l<=lf/\FJ w X A c base top u o l nb)/\1<w.heap.size⟩
section
variable{base:Nat}
theorem IP.tch(h:IP w X A c base top u y z s v R Sv){a:Int}(hf:KP w w' R Sv y A.q z (HpB c.fr top u) (s.tch a) v'):IP w' (plus X w) A c base top u y z (s.tch a) v' R (plus Sv w):=by
 have hl:=h.cy.od.lt;have J:=h.tab.lt;have Z:=hf.ok;refine⟨hf.cy,hf.vm,⟨?_,?_,?_⟩,hf.ok,hf.j.1,λk hk=>?_,λk hk Y=>?_,hf.t.tab J (λhk=>hk.elim h.t1 h.t2) h.tab,h.t1,λhk=>hk.elim h.t2 (λhk=>by omega),h.bs,h.lm,h.bk,h.ah,h.kd⟩
 ·rw[Z.mid.n,<-h.hv.n,h.ok.mid.n];rfl
 ·rw[Z.mid.pg,<-h.hv.pg,h.ok.mid.pg];rfl
 ·exact hf.j.2
 ·rcases hk with hk|hk|hk
  ·exact .inl (h.x k (.inl hk))
  ·exact .inl (h.x k (.inr hk))
  ·exact .inr hk
 ·rcases Y with Y|Y
  ·exact h.d k hk Y
  grind
theorem ZDq(n:Nat)(a:Addr)(w:World):(method (n+1) 102 (.pointer (some a)) "Load").run prog w=.ok (324,.pointer (some a)) w:=by kernel_rfl
theorem XjE(n:Nat)(a:Addr)(w:World):(nilAhead (n+1) 102 (.pointer (some a)) "Load").run prog w=.ok (some false) w:=by kernel_rfl
theorem JL(A:HAd)(c:HCf)(base top:Nat)(o:Option Nat)(lf nb:Nat):(spH A c base top o lf nb).Ok:=by
 refine⟨λn w=>?_,λn w=>?_,λargs w=>?_,λw=>?_,λh=>?_,λ{u S S' T' w w'} h t hT hs=>?_,λ{u S w} h k hk=>?_,λ{u S w} h=>?_,λ{u S w} h a ha=>?_⟩
 ·cases o with
  | none=>exact Y8 n _ w
  | some y=>exact XjE n _ w
 ·cases o with
  | none=>exact WY n _ w
  | some y=>exact ZDq n _ w
 ·cases o with
  | none=>kernel_rfl
  | some y=>kernel_rfl
 ·cases o with
  | none=>kernel_rfl
  | some y=>kernel_rfl
 ·obtain⟨⟨l,-,hm⟩,-⟩:=h;exact hm.ok
 ·obtain⟨⟨l,hl,hm⟩,h2⟩:=h;exact⟨⟨l,hl,hm.touch t (λk hk ht=>hT k hk ht) hs⟩,ϑ h2 t.size⟩
 ·rw[show k=1 from hk];exact h.2
 ·obtain⟨⟨l,hl,hm⟩,h2⟩:=h;exact⟨⟨l,hl,hm.cut⟩,h2⟩
 ·obtain⟨⟨l,hl,hm⟩,h2⟩:=h;obtain⟨n,rfl,h3,h4⟩:=ha
  match o,hm with
  | none,⟨h5,h6,h7,h8⟩=>
   refine Qa (KX h5 (n:Int)) λw' g=>?_;exact⟨rfl,g.touch _,⟨l,hl,(h5.gr g).mono (λ_ h=>.inl h),h6,h7,h8⟩,ϑ h2 g.size⟩
  | some y,⟨z,s,v,R,Sv,h,e1,e2⟩=>
   have hs:=h.ok.st;have hlm:=h.a.lm;have hln:=hs.cf.ln;have hn2:=hs.n2;refine(QeN (WW c.fr top u) h.cy h.ok ⟨h.a,h.hv.rm⟩ h.tab h.t2 h.t1 h.vm h.d (n:Int) Ω).mono ?_;rintro e w' ⟨v',rfl,hf⟩;have Y:s.cf.to<=n:=by rw[h.bs];exact h3
   obtain⟨d1,d2⟩:=hf.j.1.ld hf.ok (a:=n) Y h4 (λi hi e=>by rw[e];exact Sl.tch_is hs hi);have d3:=h.a.un n Ω;refine⟨by simp_all,hf.t.mono (λk _ hk=>⟨trivial,h.x k hk⟩),⟨(s.tch n).lf,?_,z,s.tch n,v',R,plus Sv w,h.tch hf,rfl,?_⟩,ϑ h2 hf.t.size⟩
   ·have:=Sl.lf_mono (Sl.tch_mono s (n:Int));omega
   ·rw[(Sl.tch_mono s (n:Int)).1];exact e2
end
structure HSt where
 A:HAd
 X:Nat->Prop
 base:Nat
 top:Nat
 u:Vm
 F:Nat->Nat
 o:Option Nat
 lf:Nat
 nb:Nat
 cyc:Int
 blk:Int
def HSt.rs(s:HSt)(g:Gph):List Int:=g.S.map λx=>(s.F x:Int)
def HSt.S(s:HSt)(k:Nat):Prop:=s.X k\/k=s.A.hp\/k=s.A.g\/k=s.A.r\/k=s.A.rn
structure HIn(w:World)(c:HCf)(g:Gph)(s:HSt):Prop where
 com:CM w s.X s.A c s.base s.top (s.rs g) s.o s.cyc s.blk
 mem:FJ w s.X s.A c s.base s.top s.u s.o s.lf s.nb
 img:Img s.u g s.F s.base s.top
 gok:g.Ok
 cok:c.Ok
 bt:s.base<=s.top/\s.top<=s.base+c.wd
 bs:s.base=c.pg\/(s.base=c.pg+c.wd/\c.kd≠3)
 sl:g.S.length=c.sl
section
variable{g:Gph}{s:HSt}
theorem HIn.gr(h:HIn w c g s)(gr:Gr w w'):HIn w' c g s:=⟨h.com.gr gr,h.mem.gr gr,h.img,h.gok,h.cok,h.bt,h.bs,h.sl⟩
theorem HIn.touch(h:HIn w c g s)(t:AB T w w')(hT:∀k,k<w.heap.size->T k->¬s.S k/\k≠1):HIn w' c g s:=by
 obtain⟨l1,l2,l3,l4,l5⟩:=h.com.lt
 exact⟨h.com.touch t ⟨λe=>(hT _ l1 e).1 (.inr (.inl rfl)),λe=>(hT _ l2 e).1 (.inr (.inr (.inr (.inl rfl)))),λe=>(hT _ l3 e).1 (.inr (.inr (.inl rfl))),λe=>(hT _ l4 e).1 (.inr (.inr (.inr (.inr rfl)))),λe=>(hT _ l5 e).2 rfl⟩,
  h.mem.touch t (λk hk e=>⟨λhx=>(hT k hk e).1 (.inl hx),(hT k hk e).2⟩) (λ_ h=>h),h.img,h.gok,h.cok,h.bt,h.bs,h.sl⟩
theorem HIn.cell(h:HIn w c g s){x:Value}(hj:(hpL c s.A s.o s.cyc s.blk)[j]?=some x):w.cell? ⟨s.A.hp,j,none⟩=some x:=h.com.row.cell hj
theorem HIn.cc(h : HIn w c g s)(j : Nat){x:Value}(hj : (hpL c s.A s.o s.cyc s.blk)[j]?=some x := by exact rfl) : w.cell? ⟨s.A.hp,j,none⟩=some x := h.cell hj
theorem FU(h:HIn w c g s):cQ 51 #[pP s.A.hp] w (.bool false):=by
 have c8:=h.cc 8;go_enter func51,ntmps51;go_wp2;go_ret
 simp_all
def HSt.sp(s:HSt)(c:HCf):Sp:=spH s.A c s.base s.top s.o s.lf s.nb
theorem M5(h:HIn w c g s):Calls prog 96 #[pP s.A.hp] w λe w'=>e=.returned (s.sp c).v/\w=w':=by
 have c8:=h.cc 8;have c11:=h.cc 11;obtain⟨A,X,base,top,u,F,o,lf,nb,cyc,blk⟩:=s;cases o with
 | none=>
  go_in;go_wp2;go_ret;exact⟨rfl,rfl⟩
 | some y=>
  go_in;go_wp2;go_ret;exact⟨rfl,rfl⟩
structure HKp(s s':HSt):Prop where
 F:s'.F=s.F
 base:s'.base=s.base
 top:s'.top=s.top
theorem HKp.refl(s:HSt):HKp s s:=⟨rfl,rfl,rfl⟩
theorem HKp.trans{s1 s2 s3:HSt}(h:HKp s1 s2)(k:HKp s2 s3):HKp s1 s3:=⟨k.F.trans h.F,k.base.trans h.base,k.top.trans h.top⟩
structure XBF(w:World)(c:HCf)(g:Gph)(s s':HSt)(w':World):Prop where
 t:AB (λk=>k=s.A.hp) w w'
 i:HIn w' c g s'
 A:s'.A=s.A
 lf:s'.lf=s.lf
 o:s'.o=none↔s'.lf=0
 cyc:s'.cyc=if s.o≠none/\s.lf=0 then wrap64 (s.cyc+1)else s.cyc
 X:∀k,s'.X k->s.X k
 K:HKp s s'
theorem XH(h:HIn w c g s):Calls prog 62 #[pP s.A.hp] w λe w'=>e=.returned (.tuple #[])/\∃s',XBF w c g s s' w':=by
 have H:=h;have V:=h.cc 11;have cl:=h.com.row.lt;cases ho:s.o with
 | none=>
  rw[ho]at V;simp only[ψy]at V;have Xb:s.lf=0:=by have:=h.mem;rw[ho]at this;exact this.2.2.2
  have HO:=ho;have Xf:=Xb;clear h ho Xb;go_in;go_wp2;refine ζk (ζh rfl _ _ _) rfl ?_;exact⟨rfl,s,AB.refl _ _,H,rfl,rfl,⟨λ_=>Xf,λ_=>HO⟩,by rw[ψ (λhh=>hh.1 HO)],λ_ h=>h,HKp.refl _⟩
 | some y=>
  rw[ho]at V;simp only[ψh]at V;have hm:=h.mem;rw[ho]at hm;obtain⟨z,sl,v,R,Sv,Z,e1,e2⟩:=hm;have N:=(ViW Z.cy);have Xh:=Z;by_cases h0:sl.lf=0
  ·have J:=h.com.row;unfold hpL at J;rw[ho]at J;simp only[ψh]at J;have Y:=J;have Xc:=(λ(W:World) (gg:Gr w W)=>QXi (Z.cy.gr gg));rw[φ h0]at N
   have Xi:sl.mv.length<=1048576:=by
    rw[Z.ok.st.len];have h1:=Z.ok.st.N_le;have h2:=Z.ok.st.n2;have h3:=Z.ok.st.bk.1
    have h4:nbl (AC sl.L) sl.cf.bk<=AC sl.L:=by
     refine ξQ λh5=>?_;have h6:=(JU h3).1 h5;have:=ψl (AC sl.L) (show 0<sl.cf.bk by omega);omega
    omega
   obtain⟨m,I⟩:=ε sl.mv.length;rw[<-I]at Xc Xi;have HM:=ι I;have H0:=ι h0;have HE:=ι (ξ ho (ξ e1 e2));obtain⟨x,hx⟩:=ε s.cyc;obtain⟨b,G⟩:=ε s.blk;obtain⟨ap,hp⟩:=ε s.A.hp;rw[<-hx,<-G]at Y;rw[<-hp]at Y V cl;have Xg:=ι (ξ hx (ξ G hp));rw[<-hp];clear h h0 Z J ho e1 e2 hx G I hp;go_in;go_upto_region 1 with(go_at_call 141;refine AJ (N) ?_);clear V;have z0:=Y.free 13;have z1:=Y.cc 13;obtain⟨Sx,D,HS⟩:=AA.start λW'=>Gr w W';have Xj:=AA.fact D λ_ h=>(Y.gr h).cell (j:=11) rfl;have Xd:=AA.fact D λ_ h=>(Y.gr h).cell (j:=13) rfl;have E:=HS.o _ ((Gr.refl w).drew);have Xa:Inhabited (AA Sx):=⟨⟨_,E⟩⟩;clear D;refine BI Sx 12 [([0,1,2,3,4,5,6,7],8),([9,10,11],12)] [] E ?_;refine AL ?_;go_wp2_with((go_at_call 76;refine AJ (Xc _ (Gr.refl w).drew) ?_));refine⟨.inr (AA.of (HS.o _ ((Gr.refl w).drew))),?_⟩;refine AL ?_;go_wp2;refine⟨.inl trivial,?_⟩;refine EM ?_;refine ζb ?_;refine ζx ?_;clear Xj Xd E Xa;clear HS Sx;have z2:=Y.cc 11;have z3:=Y.cc 12;have zf:=Y.free;go_wp2;refine ζk (ζh rfl _ _ _) rfl ?_;obtain⟨rfl,rfl,rfl⟩:=Xg.o;have HO:=Xh;have hI:=H;have Xe:=HO.ok.st;have hr:=Y
   obtain⟨S1,S2⟩:=HO.a.shut HO.ok (λi hi=>by
    have hf:¬sl.ft<sl.mv.length:=sl.lf_zero.1 H0.o;have hb:=Xe.blk hi;unfold Sl.is
    exact sl.ft_on Ω)
   rw[HO.bs]at S1 S2;refine⟨rfl,{s with u:=v,X:=Sv,o:=none,lf:=0,nb:=0,cyc:=wrap64 (s.cyc+1),blk:=wrap64 (s.blk+m)},?_,?_,rfl,?_,⟨λ_=>rfl,λ_=>rfl⟩,?_,λk hk=>HO.x k (.inr hk),⟨rfl,rfl,rfl⟩⟩
   ·exact((((AB.refl (λk=>k=s.A.hp) w).setCell (a:=⟨s.A.hp,13,none⟩) (λ_=>rfl) _).drew).setCell (a:=⟨s.A.hp,11,none⟩) (λ_=>rfl) _).setCell (a:=⟨s.A.hp,12,none⟩) (λ_=>rfl) _
   ·have t:AB (λk=>k=s.A.hp) w (((w.setCell ⟨s.A.hp,13,none⟩ (.int .i64 (wrap64 (s.blk+m)))).drew.setCell ⟨s.A.hp,11,none⟩ (.pointer none)).setCell ⟨s.A.hp,12,none⟩ (.int .i64 (wrap64 (s.cyc+1)))):=
     ((((AB.refl (λk=>k=s.A.hp) w).setCell (a:=⟨s.A.hp,13,none⟩) (λ_=>rfl) _).drew).setCell (a:=⟨s.A.hp,11,none⟩) (λ_=>rfl) _).setCell (a:=⟨s.A.hp,12,none⟩) (λ_=>rfl) _
    have hc:=hI.com;have hx:=hc.x;refine⟨⟨(((hr.set 13 (iI (wrap64 (s.blk+m)))).gr (Gr.refl _).drew).set 11 (.pointer none)).set 12 (iI (wrap64 (s.cyc+1))),hc.rn.touch t (λe=>hc.n1.2.2.1 e.symm),hc.rt.touch t (λe=>hc.n1.1 e.symm) (λe=>hc.n1.2.1 e.symm),t.tab hc.tab.lt (λe=>hc.n1.2.2.2 e.symm) hc.tab,hc.n1,hc.n2,hc.n3,λe=>hx.1 (HO.x _ (.inr e)),λe=>hx.2.1 (HO.x _ (.inr e)),λe=>hx.2.2.1 (HO.x _ (.inr e)),λe=>hx.2.2.2.1 (HO.x _ (.inr e)),HO.t2⟩,⟨HO.vm.touch t (λk hk _ e=>hx.1 (by subst e;exact HO.x _ (.inr hk))),HO.hv,S1,rfl⟩,?_,hI.gok,hI.cok,hI.bt,hI.bs,hI.sl⟩;exact hI.img.mem λa a1 a2 _=>S2 a a1 a2
   ·rw[<-HE.o.2.1,H0.o]
   ·rw[θ ⟨by rw[HE.o.1];simp,by rw[<-HE.o.2.1];exact H0.o⟩]
  ·have HL:=ι h0;have HE:=ι (ξ ho (ξ e1 e2));rw[ζ h0]at N;clear h h0 Z ho e1 e2;go_in;go_wp2_with(go_at_call 141;refine AJ (N) ?_);refine ζk (ζh rfl _ _ _) rfl ?_;have B:s.lf≠0:=by rw[<-HE.o.2.1];exact HL.o
   exact⟨rfl,s,AB.refl _ _,H,rfl,rfl,⟨(λe=>by rw[HE.o.1]at e;cases e),λe=>absurd e B⟩,by rw[ψ (λhh=>B hh.2)],λ_ h=>h,HKp.refl _⟩
def HCf.ot(c:HCf)(base:Nat):Nat:=2*c.pg+c.wd-base
theorem HIn.ot(h:HIn w c g s):(c.ot s.base=c.pg+c.wd/\s.base=c.pg)\/(c.ot s.base=c.pg/\s.base=c.pg+c.wd):=by
 unfold HCf.ot;rcases h.bs with e|⟨e,-⟩
 ·omega
 omega
theorem VrP(h:HIn w c g s):Calls prog 123 #[pP s.A.hp] w λe w'=>e=.returned (iI (c.ot s.base))/\Gr w w':=by
 have J:=h.ot;have hpw:=h.cok.pw;have hwd:=h.cok.wd;have HC:=(λ(W:World) (gg:Gr w W)=>(h.com.gr gg).row);have HB:=(λ(W:World) (gg:Gr w W)=>RF (h.com.gr gg).rn);obtain⟨ap,hp⟩:=ε s.A.hp;rw[<-hp]at HC⊢;have hv:(2*(c.pg:Int)+c.wd-s.base)=(c.ot s.base:Nat):=Ω
 have HV:=ι hv;obtain⟨b,hb⟩:=ε s.base;rw[<-hb]at HB HV J⊢;clear h hp hv hb;go_in;go_upto_region 1 with(fail);obtain⟨Sx,Y,HS⟩:=AA.start λW'=>Gr w W';have y1:=AA.fact Y λ_ h=>(HC _ h).cell (j:=1) rfl;have y3:=AA.fact Y λ_ h=>(HC _ h).cell (j:=3) rfl;have y10:=AA.fact Y λ_ h=>(HC _ h).cell (j:=10) rfl;have Z:=HS.o _ ((Gr.refl w).drew);have inst:Inhabited (AA Sx):=⟨⟨_,Z⟩⟩;clear Y;refine BI Sx 19 [([0,1,2,3,4,5,6,7,8,9,10,11,12,13,14,15],16)] [17,18] Z ?_;refine AL ?_;go_wp2_with((go_at_call 58;refine AJ (HB _ (Gr.refl w).drew) ?_));refine⟨.inr (AA.of (HS.o _ ((Gr.refl w).drew))),?_⟩;refine CU ?_;go_wp2;go_ret;exact⟨AU HV.o,(Gr.refl w).drew⟩
theorem QHg(W:World)(b:Nat)(x0 x1 x2 x3 x4 x5 x6:Value)(h:Rec W b 113 [x0,x1,x2,x3,x4,x5,x6]):(loadVar 113 ⟨b,0,none⟩).run prog W=.ok (.agg #[x0,x1,x2,x3,x4,x5,x6]) W:=by
 have a1:(isAgg 113).run prog W=.ok true W:=by kernel_rfl
 have a2:(sizeOf 113).run prog W=.ok 7 W:=by kernel_rfl
 have c0:=h.cc 0;have c1:=h.cc 1;have c2:=h.cc 2;have c3:=h.cc 3;have c4:=h.cc 4;have c5:=h.cc 5;have c6:=h.cc 6;simp[loadVar,Sem.run_bind,a1,a2,Result.andThen,loadCells,go_sem,c0,c1,c2,c3,c4,c5,c6]
theorem VZS(h:HIn w c g s):Calls prog 54 #[pP s.A.hp] w λe w'=>e=.returned (cfV (DJ c s.base s.top (c.ot s.base)))/\Gr w w':=by
 have D:=h.ot;have hpw:=h.cok.pw;have hwd:=h.cok.wd;have N:=(Gr.refl w).alloc (.cells #[.int .i64 0,.int .i64 0,.int .i64 0,.int .i64 0,.int .i64 0,.int .i64 0,.int .i64 0] 113);have HO:=(VrP (h.gr N));have HC:=(λ(W:World) (gg:Gr w W)=>(h.com.gr gg).row);have HB:=(λ(W:World) (gg:Gr w W)=>RF (h.com.gr gg).rn);have HT:=(λ(W:World) (gg:Gr w W)=>XX (h.com.gr gg).rn);have HR:=(Rec.new w 113 [iI 0,iI 0,iI 0,iI 0,iI 0,iI 0,iI 0]);unfold cfV DJ;dsimp only;obtain⟨ap,hp⟩:=ε s.A.hp;rw[<-hp]at HC HO⊢;obtain⟨d,hd⟩:=ε (c.ot s.base);rw[<-hd]at HO D⊢;have HL:=h.com.row.lt;rw[<-hp]at HL;clear h hp hd;go_in;go_upto_region 2 with(go_at_call 123;refine Qa (HO) λw1 V=>?_;have I:=(N.trans V);have r1:=HR.gr V;clear V);have Z:Gr w w1.drew:=I.drew;have z0:=r1.cc 0;have z1:=r1.cc 1;have z2:=r1.cc 2;have z3:=r1.cc 3;have z4:=r1.cc 4;have z5:=r1.cc 5;have z6:=r1.cc 6;have zf:=r1.free;obtain⟨Sx,Y,HS⟩:=AA.start λW'=>Gr w W';have y2:=AA.fact Y λ_ h=>(HC _ h).cell (j:=2) rfl;have y3:=AA.fact Y λ_ h=>(HC _ h).cell (j:=3) rfl;have y5:=AA.fact Y λ_ h=>(HC _ h).cell (j:=5) rfl;have y6:=AA.fact Y λ_ h=>(HC _ h).cell (j:=6) rfl;have G:=AA.fact Y λ_ h=>(HC _ h).cell (j:=10) rfl;have J:=HS.o _ (Z);have E:Inhabited (AA Sx):=⟨⟨_,J⟩⟩;clear Y;refine BI Sx 34 [([0,1,2,3,5,6,7,8,10,11,12,13,14,15,16,17,18,19,20,21,22,23,24,25,26,27,28,29,30,31,32],4),([],9),([33],34)] [] J ?_;refine AL ?_;go_wp2_with((go_at_call 58;refine AJ (HB _ Z) ?_));refine⟨.inr (AA.of (HS.o _ (Z))),?_⟩;refine AL ?_;go_wp2_with((go_at_call 59;refine AJ (HT _ Z) ?_));refine⟨.inr (AA.of (HS.o _ (Z))),?_⟩;refine AL ?_;go_wp2;refine⟨.inl trivial,?_⟩;refine EM ?_;refine ζb ?_;refine ζx ?_;clear y2 y3 y5 y6 G J E;clear HS Sx;go_wp2;have R:=(((((((r1.set 0 (iI s.base)).set 1 (iI s.top)).set 2 (iI d)).set 3 (iI ((d:Int)+c.wd))).set 4 (iI c.bk)).set 5 (iI c.st)).set 6 (iI c.ah)).gr (Gr.refl _).drew;have hl:=QHg _ _ _ _ _ _ _ _ _ R;refine ζH (v:=.agg #[iI s.base,iI s.top,iI d,iI ((d:Int)+c.wd),iI c.bk,iI c.st,iI c.ah]) ?_ rfl ⟨rfl,?_⟩
 ·simp[results,results54,asAddr,hl]
 ·have t:AB (λk=>w.heap.size<=k) w w1:=I.touch _;exact(((((((t.setCell (a:=⟨w.heap.size,0,none⟩) (λ_=>μ _) _).setCell (a:=⟨w.heap.size,1,none⟩) (λ_=>μ _) _).setCell (a:=⟨w.heap.size,2,none⟩) (λ_=>μ _) _).setCell (a:=⟨w.heap.size,3,none⟩) (λ_=>μ _) _).setCell (a:=⟨w.heap.size,4,none⟩) (λ_=>μ _) _).setCell (a:=⟨w.heap.size,5,none⟩) (λ_=>μ _) _).setCell (a:=⟨w.heap.size,6,none⟩) (λ_=>μ _) _ |>.mono (λk hk h=>by omega)).gr.drew
end
section
variable{b0 t:Nat}{rs:List Int}
theorem XQQ(h:CM w X A c b0 t0 rs cy cyc blk)(hV:AE w Sv A.q v)(h1:b<=t)(h2:t<=b+c.wd)(h3:b+c.wd<=v.n)(hn:v.n≠0)(hX:∀k,X k->k<w.heap.size):Calls prog 56 #[pP A.hp,iI b,iI t] w λe w'=>e=.returned (.tuple #[])/\∃rn,w.heap.size<=rn/\AB (λk=>k=A.hp) w w'/\CM w' X {A with rn:=rn} c b t rs cy cyc blk:=by
 have hn2:=hV.ok.n2;have B:=(λ(W:World) (g:Gr w W)=>YN8 (base:=b) (lim:=b+c.wd) (hV.gr g) hn (ζT _ _) h3);rw[show (((b+c.wd:Nat)):Int)=(b:Int)+c.wd by omega]at B;have HC:=(λ(W:World) (g:Gr w W)=>(h.gr g).row);have HX:=hX;have HB:=(ξ h1 h2);obtain⟨ap,J⟩:=ε A.hp;rw[<-J]at HC;have HA:=ι J;have Xc:=h.row.lt;rw[<-J]at Xc⊢;have hbw:b+c.wd<=524288:=Ω
 clear hV h1 h2 h3 hn hX J;go_in;go_upto_region 0 with(fail);obtain⟨Sx,I,HS⟩:=AA.start λW'=>(∃r:Nat,Rec W' ap 104 (hpL c {A with rn:=r} cy cyc blk))
 have y3:∀p:AA Sx,p.w.cell? ⟨ap,3,none⟩=some (iI c.wd):=λp=>by have h:=AA.get I p;exact by obtain⟨r,h⟩:=h;exact h.cc 3
 have y8:∀p:AA Sx,p.w.cell? ⟨ap,8,none⟩=some (pP A.q):=λp=>by have h:=AA.get I p;exact by obtain⟨r,h⟩:=h;exact h.cc 8
 have G:=HS.o _ (⟨A.rn,HC _ (Gr.refl w).drew⟩);have inst:Inhabited (AA Sx):=⟨⟨_,G⟩⟩;clear I;refine BI Sx 20 [([0,1,2,3,4,5,6,7,8,9,10,11,12],13),([14,15,16,17,18],19)] [] G ?_;refine AL ?_;go_wp2_with((go_at_call 50;refine(B _ (Gr.refl w).drew).mono ?_;rintro e w1 ⟨rn,rfl,V,Xb,N⟩;have Y:=((Gr.refl w).drew.trans V);have E:=(ξ Xb N);have Xe:=(HC _ ((Gr.refl w).drew.trans V)).cell (j:=10) rfl;have zf:=(HC _ ((Gr.refl w).drew.trans V)).free 10));refine⟨.inr (AA.of (HS.o _ (⟨A.rn,HC _ Y⟩))),?_⟩;refine AL ?_;go_wp2_with(fail);refine⟨.inr (AA.of (HS.o _ (⟨rn,(HC _ Y).set 10 (pP rn)⟩))),?_⟩;refine CU ?_;have N:=E.2;have hrl:=E.1;have hsz:w.drew.heap.size=w.heap.size:=rfl;have Xd:rn≠ap:=Ω
 have tp:AB (λk=>k=ap) w1 (w1.setCell ⟨ap,10,none⟩ (.pointer (some ⟨rn,0,none⟩))):=(AB.refl (λk=>k=ap) w1).setCell (a:=⟨ap,10,none⟩) (λ_=>rfl) _;have Xg:=(JDi (N.touch tp Xd) HB.1 HB.2);have D:=Rec.set (HC _ Y) 10 (pP rn);have Xh:=D;have Xe:=D.cc 10;go_wp2_with(go_at_call 60;refine Qa (Xg) λw3⟨Xf,Xa⟩=>?_;have Z:=Xf);refine ζk (ζh rfl _ _ _) rfl ?_;have hc:=h;obtain⟨l1,l2,l3,l4,l5⟩:=hc.lt;have eA:=HA.o;subst eA;have k:=hc.gr Y;refine⟨rfl,rn,by omega,((Y.touch (λk=>k=A.hp)).trans tp).trans' Z (λi hi e=>by omega),⟨?_,Xa,?_,?_,⟨hc.n1.1,hc.n1.2.1,by show A.hp≠rn;omega,hc.n1.2.2.2⟩,⟨hc.n2.1,by show A.r≠rn;omega,hc.n2.2.2⟩,⟨by show A.g≠rn;omega,hc.n3.2.1,by show rn≠_;omega⟩,⟨hc.x.1,hc.x.2.1,hc.x.2.2.1,λe=>by have:=HX _ e;show False;have:rn<w.heap.size:=this;omega,hc.x.2.2.2.2⟩⟩⟩
 ·exact(Xh.touch Z (by show A.hp≠rn;omega))
 ·exact(k.rt.touch tp (λe=>hc.n1.1 e.symm) (λe=>hc.n1.2.1 e.symm)).touch Z (by show A.r≠rn;omega) (by show A.g≠rn;omega)
 ·exact Z.tab (tp.tab k.tab.lt (λe=>hc.n1.2.2.2 e.symm) k.tab).lt (by show _≠rn;omega) (tp.tab k.tab.lt (λe=>hc.n1.2.2.2 e.symm) k.tab)
end
section
variable{g:Gph}{s:HSt}
theorem HSt.len(s:HSt)(g:Gph):(s.rs g).length=g.S.length:=ζE ..
theorem MW(s:HSt)(g:Gph)(i:Int):slE (s.rs g) i=if g.sl i then 0 else 17:=by
 unfold slE Gph.sl;rw[s.len]
 simp_all
theorem OB{g:Gph}{i:Int}(h:g.sl i=true):∃n:Nat,i=n/\n<g.S.length/\g.at i=g.S.getD n 0:=by
 unfold Gph.sl at h;rw[ζd,ζg,ζg]at h;exact⟨i.toNat,by omega,by omega,rfl⟩
theorem HSt.get(s:HSt)(g:Gph){n:Nat}(h:n<g.S.length):(s.rs g)[n]'(by rw[s.len];exact h)=(s.F (g.S.getD n 0):Int):=by
 unfold HSt.rs
 simp_all
def JV8(w:World)(g:Gph)(s:HSt)(l:List Int)(e:Ending)(w':World):Prop:=
 Gr w w'/\(((∀x∈l,g.sl x=true)/\∃v,e=.returned (.tuple #[v,iI 0])/\w'.ownsRow w.heap.size 3 1 v l.length (zs (l.map λx=>(s.F (g.at x):Int)))) ∨
  ((∃x∈l,g.sl x=false)/\e=.returned (.tuple #[.slice none 0 0,iI 17])))
theorem XEM(h:HIn w c g s){l:List Int}(hl:l.length<=2)(hc:∀j (hj:j<l.length),w.cell? ⟨b,j,none⟩=some (iI l[j]))(hb:b<w.heap.size):Calls prog 94 #[pP s.A.hp,.slice (some ⟨b,0,none⟩) l.length l.length] w (JV8 w g s l):=by
 have HN:=(FU h);have E:=(λ(W:World) (gg:Gr w W)=>(h.com.gr gg).row)
 have HG:=(λ(W:World) (gg:Gr w W) (i:Int) (hi:g.sl i=true)=>(by
  obtain⟨n,rfl,h1,h2⟩:=OB hi;have:=Jwg (h.com.gr gg).rt (i:=n) (by rw[s.len];exact h1);rw[s.get g h1,<-h2]at this
  exact this:Calls prog 78 #[pP s.A.r,iI i] W λe w'=>e=.returned (.tuple #[iI (s.F (g.at i)),iI 0])/\Gr W w'))
 have Xf:=(λ(W:World) (gg:Gr w W) (i:Int) (hi:g.sl i=false)=>VMw (h.com.gr gg).rt (i:=i) (by rw[MW,hi];decide));have Xh:=(λ(W:World) (gg:Gr w W) (j:Nat) (hj:j<l.length)=>(gg.cell hb j).trans (hc j hj));obtain⟨ap,D⟩:=ε s.A.hp;rw[<-D]at HN E⊢;have Xd:=h.com.row.lt;rw[<-D]at Xd;obtain⟨m,hm⟩:=ε l.length;rw[<-hm]at hl⊢;obtain⟨ii,Xg,Xi,Xb,Xe⟩:=info_parts NA;clear h hc D;go_in;go_wp2_with(go_at_call 51;refine AJ (HN) ?_)
 go_loopw [6,15] (λs6 s15 wr=>∃(j:Nat) (v:Value),j<=m/\s6=v/\s15=iI j/\Hid (Gr w wr)/\Hid (∀x∈l.take j,g.sl x=true)/\Hid (wr.ownsRow w.heap.size 3 1 v j (zs ((l.take j).map λx=>(s.F (g.at x):Int))))) (λ_ s15 _=>m-(intOf s15).toNat)
 case atStart=>exact⟨0,.slice none 0 0,by omega,rfl,rfl,⟨Gr.refl w⟩,⟨λx hx=>by simp at hx⟩,⟨FD _ _ _ _⟩⟩
 case round=>
  obtain⟨j,v6,hj,rfl,rfl,Z,B,HO⟩:=hrel;by_cases Y:j=m
  ·subst Y;go_wp2;go_ret2;refine⟨Z.o,.inl ⟨λx hx=>B.o x (by rw[hm,ζ0];exact hx),_,rfl,?_⟩⟩;have:=HO.o;rw[hm,ζ0]at this;exact this
  ·have V:j<l.length:=by have:=hm;omega
   have hjm:(j:Int)<(m:Int):=Ω
   have c0:=Xh _ Z.o j V;have r9:=(E _ Z.o).cell (j:=9) rfl;have pl:=(E _ Z.o).lt;obtain⟨x,hx⟩:=ε (l[j]);rw[<-hx]at c0;have HX:Hid (x∈l/\l.take (j+1)=l.take j++[x]):=⟨by rw[hx];exact χ V,by rw[hx];exact ζK V⟩;have HJ:=(ξ hj Y);cases hsl:g.sl x with
   | true=>
    clear hx V Y;go_upto_region 10 with(go_at_call 78;refine Qa (HG _ Z.o x hsl) λw2 J=>?_;have I:=(Z.o.trans J);have Xa:=(CF HO.o J);clear J);go_wp2_with(at_builtin;refine wpList_append_own _ rfl _ _ 42 rfl w.heap.size 3 ii (iI 0) 1 8 underlying42 Xg Xi Xb Xe rfl (by decide) u6 j (zs ((l.take j).map λx=>(s.F (g.at x):Int))) rfl (CF Xa ((Gr.refl _).alloc _)) ⟨w2.heap.size,0,none⟩ 1 1 [iI (s.F (g.at x))] rfl rfl (cell_one_new _ _ _) (by simp[Value.oneCell']) (by unfold maxLen;omega) Ω (by have:=I.size;simp;omega) ?_;intro v' w5 G N _;have Xc:Hid (Gr w w5):=⟨(((I.touch (λi=>w.heap.size<=i)).trans (((Gr.refl w2).alloc _).touch _)).trans' (DT N (λi=>w.heap.size<=i) (λi e _=>(A9 Xa e).1)) (λ_ _ h=>h) |>.mono (λk hk h=>by omega)).gr⟩;clear N);go_round
    case rel=>
     refine⟨j+1,_,by have:=HJ;omega,rfl,by go_num,Xc,⟨λz hz=>?_⟩,⟨?_⟩⟩
     ·rw[HX.o.2]at hz;rcases ζs.1 hz with h1|h1
      ·exact B.o z h1
      ·rw[ζO.1 h1];exact hsl
     ·rw[HX.o.2,ζI];have:=G;unfold zs at this⊢;rw[ζI];exact this
    case measure=>have:=HJ;simp[intOf];omega
   | false=>
    clear hx V Y;go_wp2_with(go_at_call 78;refine Qa (Xf _ Z.o x hsl) λw2 I=>?_);go_ret2;exact⟨Z.o.trans I,.inr ⟨⟨x,HX.o.1,hsl⟩,rfl⟩⟩
end
theorem XSy(n:Nat)(a:Addr)(w:World):(method (n+1) 102 (.pointer (some a)) "Store").run prog w=.ok (325,.pointer (some a)) w:=by kernel_rfl
theorem XgO(n:Nat)(a:Addr)(w:World):(nilAhead (n+1) 102 (.pointer (some a)) "Store").run prog w=.ok (some false) w:=by kernel_rfl
section
variable{base:Nat}
theorem ShA.st(h:ShA base top v)(a:Int)(hx:x<18446744073709551616):ShA base top (v.st a x):=by
 have hs:=BW.st v a x;exact⟨h.ok.st a hx,by rw[hs.pg];exact h.al,by rw[hs.n];exact h.bt,λb hb=>by rw[hs.n]at hb;rw[GO,hs.pg];exact h.pg b hb⟩
theorem HVm.st(h:HVm c v)(a:Int)(x:Nat):HVm c (v.st a x):=by
 have hs:=BW.st v a x;exact⟨hs.n.trans h.n,hs.pg.trans h.pg,hs.rm.trans h.rm⟩
theorem YJ(A:HAd)(c:HCf)(base top:Nat)(o:Option Nat)(lf nb:Nat):(spH A c base top o lf nb).Wr (fnH 207 325 o):=by
 refine⟨λn w=>?_,λn w=>?_,λargs w=>?_,λ{u S w} h a x ha hx=>?_⟩
 ·cases o with
  | none=>exact WG n _ w
  | some y=>exact XgO n _ w
 ·cases o with
  | none=>exact VB n _ w
  | some y=>exact XSy n _ w
 ·cases o with
  | none=>kernel_rfl
  | some y=>kernel_rfl
 ·obtain⟨⟨l,hl,hm⟩,h2⟩:=h;obtain⟨n,rfl,h3,h4⟩:=ha
  match o,hm with
  | none,⟨h5,h6,h7,h8⟩=>
   refine Qa (NT h5 (n:Int) hx) λw'⟨t,hv⟩=>?_;exact⟨rfl,t,⟨l,hl,hv.mono (λ_ h=>.inl h),h6.st _ _,h7.st _ hx,h8⟩,ϑ h2 t.size⟩
  | some y,⟨z,s,v,R,Sv,h,e1,e2⟩=>
   have hs:=h.ok.st;have hlm:=h.a.lm;have hln:=hs.cf.ln;have hn2:=hs.n2;refine(ZaI (WW c.fr top u) h.cy h.ok ⟨h.a,h.hv.rm⟩ h.tab h.t2 h.t1 h.vm h.d (n:Int) Ω hx).mono ?_;rintro e w' ⟨v',rfl,t,I,N,Y,hA⟩;have V:s.cf.to<=n:=by rw[h.bs];exact h3
   have J:∀i,i<AC (s.tch n).L->n=(s.tch n).cf.to+i->(s.tch n).is i=true:=λi hi e=>by
    have e':n=s.cf.to+i:=e;have:=Sl.tch_is hs (i:=i) hi
    grind
   have d1:=(hA.1.ld Y (a:=n) V h4 J).1;have d3:=h.a.un n Ω;obtain⟨c',p1,p2⟩:=hA.1.put Y (a:=n) V h4 J hx;have E:=h.tab.lt;refine⟨by rw[d1,d3],t.mono (λk _ hk=>h.x k hk),⟨(s.tch n).lf,?_,z,{s.tch n with c:=c'},v'.st n x,R,plus Sv w,⟨I.same rfl rfl rfl rfl rfl,N,?_,p1,p2,λk hk=>?_,λk hk Z=>?_,t.tab E (λhk=>hk.elim h.t1 h.t2) h.tab,h.t1,λhk=>hk.elim h.t2 (λhk=>by omega),h.bs,h.lm,h.bk,h.ah,h.kd⟩,rfl,?_⟩,ϑ h2 t.size⟩
   ·have:=Sl.lf_mono (Sl.tch_mono s (n:Int));omega
   ·refine HVm.st ⟨?_,?_,hA.2⟩ _ _
    ·rw[Y.mid.n,<-h.hv.n,h.ok.mid.n];rfl
    ·rw[Y.mid.pg,<-h.hv.pg,h.ok.mid.pg];rfl
   ·rcases hk with hk|hk|hk
    ·exact .inl (h.x k (.inl hk))
    ·exact .inl (h.x k (.inr hk))
    ·exact .inr hk
   ·rcases Z with Z|Z
    ·exact h.d k hk Z
    ·have:=h.cy.od.lt k hk;omega
   ·rw[(Sl.tch_mono s (n:Int)).1];exact e2
end
section
variable{g g':Gph}{s:HSt}
theorem HIn.sp(h:HIn w c g s):(s.sp c).I s.u s.X w:=⟨⟨s.lf,μ _,h.mem⟩,h.com.tab.lt⟩
theorem HIn.hi(h:HIn w c g s):s.base+c.wd<=2147483647:=by
 have h1:=h.cok.wd;have h2:=h.cok.pw;rcases h.bs with e|⟨e,-⟩ <;> omega
theorem HIn.aft(h:HIn w c g s)(hW:(s.sp c).W u' s.X w w')(hi:Img u' g' s.F s.base s.top)(hg:g'.Ok)(hS:g'.S=g.S):∃l,l<=s.lf/\HIn w' c g' {s with X:=plus s.X w,u:=u',lf:=l}:=by
 obtain⟨t,⟨l,hl,hm⟩,-⟩:=hW;refine⟨l,hl,?_,hm,hi,hg,h.cok,h.bt,h.bs,by rw[hS];exact h.sl⟩;have:=h.com.mem t
 show CM w' (plus s.X w) s.A c s.base s.top (g'.S.map λx=>(s.F x:Int)) s.o s.cyc s.blk
 rw[hS];exact this
structure BK(w:World)(c:HCf)(s:HSt)(g':Gph)(s':HSt)(w':World):Prop where
 t:AB s.S w w'
 i:HIn w' c g' s'
 hp:s'.A.hp=s.A.hp
 S:∀k,s'.S k->plus s.S w k
 o:s'.o=none↔s'.lf=0
theorem Zis(h:HIn w c g s)(hW:(s.sp c).W u' s.X w w')(hi:Img u' g' s.F s.base s.top)(hg:g'.Ok)(hS:g'.S=g.S):Calls prog 62 #[pP s.A.hp] w' λe w2=>e=.returned (.tuple #[])/\∃s',BK w c s g' s' w2/\s'.A=s.A/\s'.lf<=s.lf/\s'.cyc=(if s.o≠none/\s'.lf=0 then wrap64 (s.cyc+1)else s.cyc)/\HKp s s'/\AB (λk=>k=s.A.hp) w' w2:=by
 obtain⟨l,hl,hI⟩:=h.aft hW hi hg hS;refine(XH hI).mono ?_;rintro e w2 ⟨rfl,s',h1⟩;refine⟨rfl,s',⟨?_,h1.i,by rw[h1.A],λk hk=>?_,h1.o⟩,h1.A,by rw[h1.lf];exact hl,by rw[h1.cyc,h1.lf],⟨h1.K.F,h1.K.base,h1.K.top⟩,h1.t⟩
 ·exact(hW.1.mono (λk _ hk=>.inl hk)).trans' h1.t (λk _ hk=>.inr (.inl hk))
 ·rcases hk with hk|hk|hk|hk|hk
  ·rcases h1.X k hk with h2|h2
   ·exact .inl (.inl h2)
   ·exact .inr h2
  ·rw[h1.A]at hk;exact .inl (.inr (.inl hk))
  ·rw[h1.A]at hk;exact .inl (.inr (.inr (.inl hk)))
  ·rw[h1.A]at hk;exact .inl (.inr (.inr (.inr (.inl hk))))
  ·rw[h1.A]at hk;exact .inl (.inr (.inr (.inr (.inr hk))))
end
end Go.Proofs.YtcihfnpokdbfpaaGreatDoor
