/- Part 9 of what Trees leans on: my own lemmas, merged by shake.py. -/
import Derived.Test.YtbdimhlaaoadgaaGreatDoorTreesH
namespace Go.Proofs.YtbdimhlaaoadgaaGreatDoor
open _root_.Go.Proofs.Tryz
set_option maxHeartbeats 12800000
set_option maxRecDepth 100000
open Go.RowKit Go.Shelf Word
variable{z:CB}{blk cyc:Int}{l l':List Bool}{O:List Int}{L:List Ob}{M W a b cp cr f g i j k lf nb p q0 r t0 x y:Nat}{m:Nat->Bool}{R Sv T X X':Nat->Prop}{A A0:Option Addr}{cy o:Option Nat}{s s':Sl}{u v v' v1 v2:Vm}{w w':World}
section
variable{S:Nat->Prop}{q:Nat}{A:Sl->Vm->Prop}
def ZAh(w:World)(R S:Nat->Prop)(y q:Nat)(z:CB)(A:Sl->Vm->Prop)(s:Sl)(a:Int)(e:Ending)(w':World):Prop:=
 ∃v',e=.returned (.tuple #[uU (v'.ldV a:Nat),iI (v'.ldE a)])/\JP w w' R S y q z A (s.tch a) v'
theorem JP.gr{w1:World}(h:JP w w1 R S y q z A s' v')(g:Gr w1 w'):JP w w' R S y q z A s' v':=
 ⟨h.t.trans (g.touch _),h.cy.gr g,h.vm.gr g,h.ok,h.j⟩
theorem QeN(hJ:SlJ A)(hC:Cyc w R y q z s)(hO:BQ s v)(hA:A s v)(hT:AO w)(htS:¬S 1)(htR:¬R 1)(hV:AD w S q v)(hdis:∀k,R k->¬S k)(a:Int)(ha:a<=9223372036854775807):
  Calls prog 312 #[pP y,iI a] w (ZAh w R S y q z A s a):=by
 have HT:=(Qym hJ hC hO hA hT htS htR hV hdis a ha);go_enter func312,ntmps312;go_upto_region 4 with(go_at_call 314;refine(HT).mono ?_;rintro e w1 ⟨v',rfl,hf⟩;have c0:=hf.cy.rc.cc 0);have Y:=(JV hf.vm a);go_wp2_with(go_at_call 216;refine(Y).mono ?_;rintro e w2 ⟨rfl,J⟩;have Z:=J);go_ret2;exact⟨v',by rfl,hf.gr Z⟩
def JaS(w:World)(R S:Nat->Prop)(y q:Nat)(z:CB)(A:Sl->Vm->Prop)(s:Sl)(a:Int)(x:Nat)(e:Ending)(w':World):Prop:=
 ∃v',e=.returned (iI (v'.ldE a))/\AB (λb=>R b\/S b) w w'/\Cyc w' R y q z (s.tch a)/\AD w' (plus S w) q (v'.st a x)/\BQ (s.tch a) v'/\A (s.tch a) v'
theorem ZaI(hJ:SlJ A)(hC:Cyc w R y q z s)(hO:BQ s v)(hA:A s v)(hT:AO w)(htS:¬S 1)(htR:¬R 1)(hV:AD w S q v)(hdis:∀k,R k->¬S k)(a:Int)(ha:a<=9223372036854775807)(hx:x<18446744073709551616):
  Calls prog 313 #[pP y,iI a,uU x] w (JaS w R S y q z A s a x):=by
 have HT:=(Qym (S:=AC S w) hJ hC hO hA hT (λh=>htS h.1) htR hV.cut (λk h h'=>hdis k h h'.1) a ha);have HR:=(ψ hC.od.lt hdis);go_enter func313,ntmps313;go_upto_region 4 with(go_at_call 314;refine(HT).mono ?_;rintro e w1 ⟨v',rfl,hf⟩;have c0:=hf.cy.rc.cc 0);have Z:=(MF hf.vm.cut a hx);obtain⟨er,Y⟩:∃er,er=v'.ldE a:=⟨_,rfl⟩;rw[<-Y]at Z;have N:=ι Y;clear Y;go_wp2_with(go_at_call 217;refine(Z).mono ?_;rintro e w2 ⟨rfl,J,I⟩;have V:=I);go_ret;refine⟨v',by rw[N.o];rfl,(hf.t.mono (λb _ h=>h.imp id (λh=>h.1))).trans' J (λb hb h=>?_),hf.cy.touch J (λb hb h=>?_),V.mono (λb hb=>?_),hf.ok,hf.j⟩
 ·rcases h.1 with h|h
  ·exact .inr h.1
  ·omega
 ·have:=HR.1 b hb;rcases h.1 with h|h
  ·exact HR.2 b hb h.1
  ·omega
 ·rcases hb.1 with h|h
  ·exact .inl h.1
  ·exact .inr h
def Sl.pkV(s:Sl)(v:Vm)(a:Int):Nat:=if inF s.L s.cf.to a then s.c (a-s.cf.to).toNat else v.ldV a
def Sl.pkE(s:Sl)(v:Vm)(a:Int):Int:=if inF s.L s.cf.to a then 0 else v.ldE a
theorem XMX(hC:Cyc w R y q z s)(hO:BQ s v)(hT:AO w)(hV:AD w S q v)(a:Int)(ha:a<=9223372036854775807):
  A4 prog 318 #[pP y,iI a] w (.tuple #[uU (s.pkV v a:Nat),iI (s.pkE v a)]):=by
 have N:=ι (ZAe hC.plan hT a ha);have Xb:=ι (λ(W:World) (g:Gr w W)=>JV (hV.gr g) a);have c8:=hC.rc.cc 8;have cl:=hC.rc.lt;have Xs:=ι (λ(W:World) (g:Gr w W)=>(hC.gr g).rc.cell (j:=0) rfl);have Xd:=ι (λ(W:World) (g:Gr w W)=>(hC.gr g).rc.lt);obtain⟨pv,B⟩:∃pv,pv=s.pkV v a:=⟨_,rfl⟩;obtain⟨pe,D⟩:∃pe,pe=s.pkE v a:=⟨_,rfl⟩;rw[<-B,<-D];cases hin:inF s.L s.cf.to a with
 | false=>
  have e1:v.ldV a=pv:=by rw[B];unfold Sl.pkV;rw[hin];rfl
  have e2:v.ldE a=pe:=by rw[D];unfold Sl.pkE;rw[hin];rfl
  rw[e1,e2]at Xb;rw[(MN hin).2.2]at N;obtain⟨bv,Xr⟩:∃bv,bv=G0 s.L s.cf.to s.cf.bk a:=⟨_,rfl⟩;rw[<-Xr]at N;clear hC hO hT hV hin B D e1 e2 Xr;unfold A4;go_enter func318,ntmps318
  go_wp2_with(first
   | (go_at_call 315;refine(N.o).mono ?_;rintro e w1 ⟨rfl,Y⟩;have I:=ι Y;have y0:=Xs.o _ Y;have yl:=Xd.o _ Y;clear Y)
   | (go_at_call 216;refine(Xb.o _ I.o).mono ?_;rintro e w2 ⟨rfl,Xc⟩;have Xn:=ι (I.o.trans Xc);clear Xc))
  go_ret2;exact⟨rfl,Xn.o⟩
 | true=>
  have J:=hO.st;obtain⟨i,rfl⟩:∃i:Nat,a=((s.cf.to+i:Nat):Int):=⟨(a-s.cf.to).toNat,by have:=(FG.1 hin).1;omega⟩;have Z:i<sizes s.L:=by have:=(FG.1 hin).2;omega
  have e1:s.c i=pv:=by rw[B];unfold Sl.pkV;rw[hin,φ rfl,show (((s.cf.to+i:Nat):Int)-(s.cf.to:Int)).toNat=i by omega]
  have e2:(0:Int)=pe:=by rw[D];unfold Sl.pkE;rw[hin];rfl
  obtain⟨k,hk⟩:∃k,k=i/s.cf.bk:=⟨_,rfl⟩;have Xk:k<s.mv.length:=by rw[hk];exact J.blk Z
  have Xi:G0 s.L s.cf.to s.cf.bk ((s.cf.to+i:Nat):Int)=(k:Int):=by
   unfold G0;rw[hin,φ rfl,show ((s.cf.to+i:Nat):Int)-(s.cf.to:Int)=(i:Int)by omega,hk];rfl
  rw[Xi,(ME Z).2]at N;have G:s.is i=at_ s.mv k:=by unfold Sl.is;rw[hk]
  have hkI:(k:Int)<(s.mv.length:Int):=Ω
  have HX:=ι (λ(W:World) (g:Gr w W)=>(hC.gr g).rc.cell (j:=10) rfl);have Xe:=ι (λ(W:World) (g:Gr w W)=>BS (hC.gr g).mv (KK Xk));have Xu:=ι (λ(W:World) (g:Gr w W)=>(BE (hC.gr g).mv rfl).2);cases hm:at_ s.mv k with
  | true=>
   rw[hm]at Xe G;obtain⟨d1,d2⟩:=hO.mid.dst i Z G;rw[d1,d2,e1]at Xb;obtain⟨a,Xa⟩:∃a:Int,a=((s.cf.to+i:Nat):Int):=⟨_,rfl⟩;rw[<-Xa]at N Xb⊢;subst e2;clear hC hO hT hV hin B D e1 hk Xk Xi G hm d1 d2 Xa J Z;unfold A4;go_enter func318,ntmps318
   go_wp2_with(first
    | (go_at_call 315;refine(N.o).mono ?_;rintro e w1 ⟨rfl,Y⟩;have I:=ι Y;have y0:=Xs.o _ Y;have yl:=Xd.o _ Y;have y4:=HX.o _ Y;have y5:=Xe.o _ Y;have y6:=Xu.o _ Y;clear Y)
    | (go_at_call 216;refine(Xb.o _ I.o).mono ?_;rintro e w2 ⟨rfl,Xc⟩;have Xn:=ι (I.o.trans Xc);clear Xc))
   go_ret2;exact⟨rfl,Xn.o⟩
  | false=>
   rw[hm]at Xe G;obtain⟨m1,m2,m3⟩:=hO.mid.src i Z (by show (!s.is i)=true;rw[G];rfl);obtain⟨j,hj,p',f',k',g1,g2,g3⟩:=Zm8 J Z rfl;obtain⟨o1,o2,o3⟩:=QGb J Z rfl g3;obtain⟨sa,Xm⟩:∃sa,sa=AH s.L i:=⟨_,rfl⟩;rw[<-Xm]at m1 m2 m3 g1 g3 o1;have hsl:sa<=1048576:=by have:=(J.srcs Z).2.2;have:=J.n2;omega
   obtain⟨st,V⟩:∃st,st=s.L[j].1:=⟨_,rfl⟩
   have hsts:st<=sa:=by
    obtain⟨j',hj',q1,q2,q3,q4,q5⟩:=g3;rw[V];omega
   have Xl:=ι (λ(W:World) (g:Gr w W)=>ZK (f:=f') (k:=k') (hC.gr g) J (hV.gr g) (p:=p') o3 (a:=sa) (st:=st) (m:=sa-st) Ω Ω (λh=>m3 ⟨by rw[o1,<-V];exact h.1,by rw[o1,o2,<-V];show ((sa-st:Nat):Int)<=(p':Int);omega⟩))
   have Xh:cvH s.L s.cf.to ⟨p',f',k'⟩ (sa-st) (v.ldV (sa:Nat))=pv:=by
    rw[<-e1,<-m2];unfold Sl.cv;rw[o1,o2,V]
   rw[Xh]at Xl;have Xf:=ι (λ(W:World) (g:Gr w W)=>KV (hC.gr g).ex (g.tab hT.lt hT) (sa:Int));rw[g1,OC hj]at Xf
   have Xj:=ι (λ(W:World) (g:Gr w W)=>by
    obtain⟨h1,h2,h3,f,c0,c1,hF⟩:=(hC.gr g).plan
    exact Exists.intro f (ψ (SP c0) (λ(W':World) (g':Gr W W')=>ND (hF.gr g') ((g.trans g').tab hT.lt hT) ((s.cf.to+i:Nat):Int) ha)))
   rw[(ME Z).1,(ME Z).2,<-Xm]at Xj;have Xg:=ι (λ(W:World) (g:Gr w W)=>QJG (hC.gr g).sh hj (by have:=(J.good.sz _ (μ hj)).2;have:=J.n2;omega));rw[g2]at Xg;rw[<-V]at Xg Xf;obtain⟨sz,Xw⟩:∃sz,sz=s.L[j].2:=⟨_,rfl⟩;rw[<-Xw]at Xf;unfold AM at Xg Xl;have Xy:=ι (λ(W:World) (g:Gr w W)=>(hC.gr g).rc.cell (j:=9) rfl);have Xz:=ι (λ(W:World) (g:Gr w W)=>(hC.gr g).rc.cell (j:=8) rfl);have Xv:=ι (λ(W:World) (g:Gr w W)=>(hC.gr g).rc.cell (j:=15) rfl);obtain⟨a,Xa⟩:∃a:Int,a=((s.cf.to+i:Nat):Int):=⟨_,rfl⟩;rw[<-Xa]at N Xj⊢;subst e2;clear hC hO hT hV hin B D e1 hk Xk Xi G hm m1 m2 m3 g1 g2 g3 o1 o2 o3 Xm V Xh Xw Xa J Z hj;unfold A4;go_enter func318,ntmps318;go_upto_region 6 with(go_at_call 315;refine(N.o).mono ?_;rintro e w1 ⟨rfl,Y⟩;have I:=ι Y;have y4:=HX.o _ Y;have y5:=Xe.o _ Y;have y6:=Xu.o _ Y;have y8:=Xz.o _ Y;have yl:=Xd.o _ Y;clear Y);obtain⟨fp,Xo,Xt⟩:=Xj.o _ I.o;have Ya:=ι Xo;have Xq:=ι Xt;clear Xo Xt y4 y5 y6
   go_upto_region 7 with(first
    | (go_at_call 192;refine AK (Ya.o) ?_)
    | (go_at_call 260;refine(Xq.o _ (Gr.refl w1)).mono ?_;rintro e w3 ⟨rfl,Xp⟩;have E:=ι (I.o.trans Xp);clear Xp))
   have q9:=Xy.o _ E.o;have q15:=Xv.o _ E.o;have ql:=Xd.o _ E.o;have hlk:=Xg.o _ E.o;clear y8 yl c8 cl
   go_wp2_with(first
    | (go_at_call 222;refine AK (Xf.o _ E.o) ?_)
    | (go_at_call 223;refine(Xl.o _ E.o).mono ?_;rintro e w5 ⟨rfl,Xx⟩;have Yb:=ι (E.o.trans Xx);clear Xx))
   go_ret2;exact⟨rfl,Yb.o⟩
end
theorem BQ.store(h:BQ s v)(hi:i<sizes s.L)(hm:s.is i=true)(hx:x<18446744073709551616):BQ {s with c:=λj=>if j=i then x else s.c j} (v.st ((s.cf.to+i:Nat):Int) x):=by
 obtain⟨d1,d2⟩:=h.mid.dst i hi hm;have Y:=h.mid.ok.st_ldV x d1;have hs:=h.st;refine⟨⟨hs.pg,hs.n2,hs.cf,hs.good,hs.inn,hs.fit,hs.hd,hs.len⟩,⟨h.mid.ok.st _ hx,(BR.st v _ x).n.trans h.mid.n,(BR.st v _ x).pg.trans h.mid.pg,λj hj hu=>?_,λj hj hd=>?_⟩⟩
 ·have Z:(!s.is j)=true:=hu;obtain⟨h1,h2,h3⟩:=h.mid.src j hj Z;have J:j≠i:=λe=>by simp_all
  have ha:(((s.cf.to+i:Nat):Int)≠(AH s.L j:Nat)):=λe=>hs.apart ⟨(hs.srcs hj).1,(hs.srcs hj).2.1⟩ ⟨ζS _ i,(hs.dsts hi).1⟩ (by grind)
  show (v.st _ x).ldE _=0/\s.cv j _=(if j=i then x else s.c j)/\_
  rw[F2,Y,ξ ha,ξ J];exact⟨h1,h2,h3⟩
 ·show (v.st _ x).ldE _=0/\(v.st _ x).ldV _=(if j=i then x else s.c j)
  rw[F2,Y];by_cases e:j=i
  ·simp_all
  ·show v.ldE ((s.cf.to+j:Nat):Int)=0/\(if ((s.cf.to+i:Nat):Int)=((s.cf.to+j:Nat):Int)then x else v.ldV ((s.cf.to+j:Nat):Int))=_
   rw[ξ Ω,ξ e];exact h.mid.dst j hj hd
def AZ(v:Vm)(c:Cf)(L:List Ob):Sl:=
 {n:=v.n,pg:=v.pl.pg,cf:=c,L:=L,hd:=λa=>v.rdH (a:Nat),c:=λi=>cvH L c.to (v.rdH ((L.getD (B7 L i) (0,0)).1:Nat)) (i-sizes (L.take (B7 L i))) (v.ldV (AH L i:Nat)),mv:=List.replicate (nbl (sizes L) c.bk) false}
structure EY(s:Sl)(v v':Vm)(q0 j:Nat):Prop where
 ok:AF v'
 n:v'.n=v.n
 pg:v'.pl.pg=v.pl.pg
 rm:v'.pl.rm=v.pl.rm
 map:∀p,p<v.pt.length->(v'.pt.getD p 0≠0↔v.pt.getD p 0≠0/\¬((q0<=p/\p<q0+j)/\s.on (λ_=>true) p=0))
 val:∀a:Nat,a<v.n->¬((q0<=a/v.pl.pg/\a/v.pl.pg<q0+j)/\s.on (λ_=>true) (a/v.pl.pg)=0)->v'.ldE a=v.ldE a/\v'.ldV a=v.ldV a
theorem Pln.touch{F n B base:Nat}(h:Pln w F p n B base L)(t:AB T w w')(hT:∀k,F<=k->k<w.heap.size->¬T k):Pln w' F p n B base L:=by
 obtain⟨h1,h2,h3,f,c0,c1,hF⟩:=h;exact⟨κ h1 t.size,h2,h3,f,(t.cell h1 (hT _ h2 h1) 0).trans c0,(t.cell h1 (hT _ h2 h1) 1).trans c1,hF.touch t hT⟩
theorem EY.zero(h:AF v)(q0:Nat):EY s v v q0 0:=
 ⟨h,rfl,rfl,rfl,λp _=>⟨λh=>⟨h,λh'=>by omega⟩,λh=>h.1⟩,λ_ _ _=>⟨rfl,rfl⟩⟩
theorem EY.keep(h:EY s v v' q0 j)(hz:s.on (λ_=>true) (q0+j)≠0):EY s v v' q0 (j+1):=by
 refine⟨h.ok,h.n,h.pg,h.rm,λp hp=>(h.map p hp).trans (and_congr_right λ_=>not_congr ⟨λ⟨⟨a,b⟩,c⟩=>⟨⟨a,by omega⟩,c⟩,λ⟨⟨a,b⟩,c⟩=>⟨⟨a,?_⟩,c⟩⟩),λa ha hn=>h.val a ha (λ⟨⟨x,y⟩,c⟩=>hn ⟨⟨x,by omega⟩,c⟩)⟩
 grind
theorem EY.drop(h:EY s v v' q0 j)(hz:s.on (λ_=>true) (q0+j)=0):EY s v (v'.um ((q0+j:Nat):Int)) q0 (j+1):=by
 obtain⟨s1,s2,s3,s4⟩:=ZW v' ((q0+j:Nat):Int);by_cases hf:frE v'.pt ((q0+j:Nat):Int)=0
 ·refine⟨h.ok.um _,s1.trans h.n,s2.trans h.pg,s3.trans h.rm,λp hp=>?_,λa ha hn=>?_⟩
  ·rw[ZdX hf,h.map p hp,and_assoc]
   grind
  ·have J:a/v.pl.pg≠q0+j:=λe=>hn ⟨by omega,by simp_all⟩;have Z:a<v'.n:=by rw[h.n];exact ha
   have Y:a/v'.pl.pg≠q0+j:=by rw[h.pg];exact J
   rw[h.ok.um_ldE hf Z,ξ Y,h.ok.um_ldV hf Z Y];exact h.val a ha (λ⟨⟨x,y⟩,c⟩=>hn ⟨⟨x,by omega⟩,c⟩)
 ·rw[Q1 hf];refine⟨h.ok,h.n,h.pg,h.rm,λp hp=>?_,λa ha hn=>h.val a ha (λ⟨⟨x,y⟩,c⟩=>hn ⟨⟨x,by omega⟩,c⟩)⟩;rw[h.map p hp];refine and_congr_right λhv=>not_congr ⟨λ⟨⟨a,b⟩,c⟩=>⟨⟨a,by omega⟩,c⟩,λ⟨⟨a,b⟩,c⟩=>⟨⟨a,?_⟩,c⟩⟩;rcases υ p (q0+j)with h1|h1
  ·exact h1
  ·exfalso;obtain rfl:p=q0+j:=Ω
   have h2:=(h.map _ hp).2 ⟨hv,λ⟨⟨_,y⟩,_⟩=>by omega⟩
   have h3:q0+j<v'.pt.length:=by
    grind
   rw[MK h3,ξ h2]at hf;exact hf rfl
theorem TY(n k:Nat):at_ (List.replicate n false) k=false:=by
 unfold at_
 grind
section
variable{c:Cf}{rs:List Int}
theorem L4(v:Vm)(c:Cf)(L:List Ob)(i:Nat):(AZ v c L).is i=false:=TY _ _
theorem S6(v:Vm)(c:Cf)(L:List Ob):(AZ v c L).mvd=0:=GZ λ_ _=>TY _ _
theorem Q20(v:Vm)(c:Cf)(L:List Ob):(AZ v c L).ft=0:=GA (ζf _) (λ_ h=>absurd h (ζA _)) (λ_=>by show (!at_ (List.replicate _ false) 0)=true;rw[TY];rfl)
theorem ZN(v:Vm)(c:Cf)(L:List Ob):(AZ v c L).lf=nbl (sizes L) c.bk:=by
 unfold Sl.lf;rw[S6];exact ζT
theorem PX(hok:AF v)(hcf:G9 v.pl.pg v.n c)(hI:EU v rs c.fr c.tp L)(hfit:sizes L<=c.lm-c.to):BD (AZ v c L):=by
 refine⟨hok.page,hok.n2,hcf,hI.1.mkd.good,λo ho=>?_,?_,λj hj=>?_,ζT⟩
 ·have:=hI.2 o ho
  show c.fr<=o.1/\o.1+o.2<=c.tp
  omega
 ·show c.to+sizes L<=c.lm
  have:=hcf.lm;omega
 ·have Y:j<L.length:=hj;obtain⟨h1,h2,h3⟩:=hI.1.mkd.ats _ (μ Y);obtain⟨b,p,f,k,he,-,hh,hs,-,-,hz,-⟩:=QG hI.1.sound h1;exact⟨p,f,k,hh,hs,by show L[j].2=1+p+f+k;omega⟩
theorem XK(hi:i<sizes L):(AZ v c L).on (λ_=>true) (AH L i/v.pl.pg)≠0:=by
 have:1<=(AZ v c L).on (λ_=>true) (AH L i/v.pl.pg):=Sl.on_pos (s:=AZ v c L) (i:=i) hi rfl rfl;omega
theorem QHD(hok:AF v)(hcf:G9 v.pl.pg v.n c)(hI:EU v rs c.fr c.tp L)(hfit:sizes L<=c.lm-c.to)(hfull:FR v L)(hU:EY (AZ v c L) v v' q0 j):BQ (AZ v c L) v':=by
 have Y:=PX hok hcf hI hfit;refine⟨Y,hU.ok,hU.n,hU.pg,λi hi _=>?_,λi hi hd=>?_⟩
 ·have N:i<sizes L:=hi;obtain⟨h1,h2,h3⟩:=Y.srcs hi;obtain⟨jo,hj,m,p,f,k,e1,e2,e3,e4,e5,e6,e7,e8,e9⟩:=Y.obj hi;have J:jo<L.length:=hj;have hv:=hU.val (AH L i) h3 (λh=>XK N h.2);have e4':AH L i=L[jo].1+m:=e4;have E:m<L[jo].2:=e2;have hl:=hfull _ (μ J) m E;rw[show ((L[jo].1:Nat):Int)+(m:Int)=(AH L i:Nat)by omega]at hl;refine⟨hv.1.trans hl,?_,λhp=>?_⟩
  ·show (AZ v c L).cv i (v'.ldV (AH L i:Nat))=_
   rw[hv.2];rfl
  ·show v'.ldV (AH L i:Nat)<=_
   rw[hv.2];obtain⟨I,Z⟩:=hp;rw[e5]at I Z;rw[e6,e7]at Z;obtain⟨hr,-,-⟩:=hI.1.mkd.ats _ (μ J);obtain⟨b,p',f',k',he,-,hh,hs,-,-,hz,D⟩:=QG hI.1.sound hr;have V:v.rdH (L[jo].1:Nat)=⟨p,f,k⟩:=e7;rw[hh]at V;have hpe:(p':Int)=p:=by injection V
   have hp2':(m:Int)<=(p:Int):=Z;have:=D (m-1) Ω;rw[show ((L[jo].1:Nat):Int)+1+((m-1:Nat):Int)=(AH L i:Nat)by omega]at this;exact this.2.1
 grind [L4]
theorem JlU(hok:AF v)(hcf:G9 v.pl.pg v.n c)(hI:EU v rs c.fr c.tp L)(hfit:sizes L<=c.lm-c.to)(hfull:FR v L)(hU:EY (AZ v c L) v v' (c.fr/v.pl.pg) j)(hj:c.tp<=(c.fr/v.pl.pg+j)*v.pl.pg)
  (hm:∀p,p<v.pt.length->v.pt.getD p 0≠0->c.fr/v.pl.pg<=p/\p*v.pl.pg<c.tp):XU7 (AZ v c L) v':=by
 have V:=PX hok hcf hI hfit;have hS:=QHD hok hcf hI hfit hfull hU
 have hlen:v'.pt.length=v.pt.length:=by
  have a1:=hok.np;have a2:=hU.ok.np;rw[hU.n,hU.pg,a1]at a2;exact(Nat.mul_right_cancel (by have:=hok.page;omega) a2).symm
 intro p hp;have Y:p<v.pt.length:=Ω
 rw[hU.map p Y];constructor
 ·rintro⟨h1,h2⟩;obtain⟨g1,g2⟩:=hm p Y h1;left
  have N:p<c.fr/v.pl.pg+j:=by
   refine Nat.lt_of_not_le λh=>?_;have:=ζm v.pl.pg h;omega
  have E:(AZ v c L).on (λ_=>true) p≠0:=λh=>h2 ⟨⟨g1,N⟩,h⟩;refine Classical.byContradiction λhno=>E (Sl.on_iff.2 λi hi _ e=>hno ⟨i,hi,e,L4 v c L i⟩)
 ·rintro(⟨i,hi,rfl,-⟩|⟨i,-,-,h⟩)
  ·have J:i<sizes L:=hi;have I:=(hS.mid.src i hi (by rw[L4];rfl)).1;have hv:=hU.val (AH L i) (V.srcs hi).2.2 (λh=>XK J h.2);have Z:v.ldE (AH L i:Nat)=0:=hv.1.symm.trans I;obtain⟨a,e,h1,h2⟩:=AF.hit Z;obtain rfl:AH L i=a:=Ω
   exact⟨h2,λh=>XK J h.2⟩
  grind [L4]
end
section
variable{q:Nat}{U:Nat->Bool}{ml:List Bool}{ft ah:Nat}{rs:List Int}
theorem X9b(hC:∀W,AB (λb=>b=g) w W->BI W R y q z s U ml lf ft ah)(hst:BD s)(hR:AW w r g rs):
  Calls prog 151 #[pP r,.func (.func 195) #[pP y] #[]] w λe w'=>e=.returned (.tuple #[])/\AB (λb=>b=g) w w'/\AW w' r g (rs.map (toV s.L s.cf.to)):=by
 have h0:toV s.L s.cf.to 0=0:=by
  have h:¬A9 s.L 0<s.L.length:=λh=>by
   have h1:=IN h;have h2:=(hst.inn _ (μ h)).1;have:=hst.cf.fr;have:=hst.pg;omega
  exact(O7 h).1
 refine(X7 (F:=195) (pre:=#[pP y]) (caps:=#[]) (λi W out=>AB (λb=>b=g) w W/\out=(rs.take i).map (toV s.L s.cf.to)) (λ_ _=>by kernel_rfl) hR ⟨AB.refl _ _,rfl⟩ ?_ ?_).mono ?_
 ·grind [IX]
 ·rintro i hi W out ho ⟨t,e⟩ J hne W0 Y;refine(XLA (hC W0 (t.trans (Y.touch _))) rs[i]).mono ?_;rintro e' W' ⟨rfl,Z⟩;have hb:=Xxa s.L s.cf.to rs[i];refine⟨_,rfl,(J.gr Y).gr Z,λW'' t''=>⟨((t.trans (Y.touch _)).trans (Z.touch _)).trans t'',?_⟩⟩
  grind [IX,Int.max_eq_left]
 simp_all
end
theorem Y4o{f g:Nat->Bool}{n:Nat}(P:Nat->Nat)(hg:∀p,g p=true->f p=true):∀K:Nat,(∀j,j<K->P j<n/\f (P j)=true/\g (P j)=false)->(∀i j,i<j->j<K->P i<P j)->cnt g n+K<=cnt f n:=λK h hm=>by
 have Y:∀k,k<=K->cnt (λp=>g p||(List.range k).any λj=>P j==p) n=cnt g n+k:=by
  intro k
  induction k with
  | zero=>simp_all
  | succ k ih=>
   intro hk;have h1:=h k Ω
   have h2:=VX (f:=λp=>g p||(List.range k).any λj=>P j==p) (i:=P k) h1.1 (by
    rw[ψe];refine⟨h1.2.2,?_⟩;rw[List.any_eq_false];intro j hj;have:=hm j k (ξo.1 hj) Ω;simp only[ξa]
    omega)
   grind [ξF,CT,ψx,Bool.or_assoc]
 rw[<-Y K (ϑ _)];refine I2 λp _ hp=>?_
 grind
def Sl.pS(s:Sl)(m:Nat->Bool)(p:Nat):Bool:=(List.range (sizes s.L)).any λi=>!m (i/s.cf.bk)&&(AH s.L i/s.pg==p)
def Sl.pT(s:Sl)(top:Nat)(m:Nat->Bool)(p:Nat):Bool:=((List.range (sizes s.L)).any λi=>m (i/s.cf.bk)&&((s.cf.to+i)/s.pg==p))||((List.range (top-(s.cf.to+sizes s.L))).any λj=>(s.cf.to+sizes s.L+j)/s.pg==p)
def Sl.np(s:Sl):Nat:=s.n/s.pg
def Sl.U(s:Sl)(top:Nat)(m:Nat->Bool):Nat:=cnt (s.pS m) s.np+cnt (s.pT top m) s.np
def Sl.q(s:Sl):Nat:=max 1 (s.cf.bk/s.pg)
section
variable{top:Nat}{m':Nat->Bool}
theorem Sl.pS_iff:s.pS m p=true↔∃i,i<sizes s.L/\m (i/s.cf.bk)=false/\AH s.L i/s.pg=p:=by
 unfold Sl.pS
 simp_all
theorem Sl.pT_iff:s.pT top m p=true↔(∃i,i<sizes s.L/\m (i/s.cf.bk)=true/\(s.cf.to+i)/s.pg=p)\/∃a,s.cf.to+sizes s.L<=a/\a<top/\a/s.pg=p:=by
 unfold Sl.pT;rw[ζ9,ψb,ψb];refine or_congr ⟨?_,?_⟩ ⟨?_,?_⟩
 ·simp_all
 ·simp_all
 ·rintro⟨j,hj,h⟩;have:=ξo.1 hj;exact⟨_,ζS _ _,by omega,ξa.1 h⟩
 ·rintro⟨a,h1,h2,h3⟩;exact⟨a-(s.cf.to+sizes s.L),ξo.2 Ω,ξa.2 (by simp_all)⟩
theorem Sl.U_congr(h:∀k,k<s.mv.length->m k=m' k)(hs:BD s):s.U top m=s.U top m':=by
 have e:∀i,i<sizes s.L->m (i/s.cf.bk)=m' (i/s.cf.bk):=λi hi=>h _ (hs.blk hi);unfold Sl.U;congr 1
 ·refine CT λp _=>ψi.2 ?_;rw[Sl.pS_iff,Sl.pS_iff]
  grind
 ·refine CT λp _=>ψi.2 ?_;rw[Sl.pT_iff,Sl.pT_iff];exact or_congr_left ⟨λ⟨i,h1,h2,h3⟩=>⟨i,h1,by simp_all,h3⟩,λ⟨i,h1,h2,h3⟩=>⟨i,h1,by simp_all,h3⟩⟩
theorem XC{n:Nat}{L:List Ob}(hg:AP n L){i:Nat}:∀d,i+d<sizes L->AH L i+d<=AH L (i+d)
 | 0,_=>ϑ _
 | d+1,h=>by
  have h1:=XC hg d (show i+d<sizes L by omega);have h2:=YYc hg (show i+d<i+(d+1)by omega) h;omega
theorem ZP{n:Nat}(hg:AP n L)(hik:i<=k)(hk:k<sizes L):AH L i<=AH L k:=by
 have:=XC hg (i:=i) (k-i) Ω
 grind
theorem Xra{d:Nat}(hg:1<=g):(x+d)/g<x/g+d/g+2:=by
 rw[ζ7 Ω,ξl,ξl];have h1:=ζx x g;have h2:=ξV x (show 0<g by omega);have h3:=ζx d g;have h4:=ξV d (show 0<g by omega)
 grind
theorem Sl.U_run(hs:BD s)(hn:s.np*s.pg=s.n)(hab:a<b)(hb:b<=s.mv.length)(hm:∀k,a<=k->k<b->m k=false)(hm':∀k,m' k=(m k||decide (a<=k/\k<b))):s.U top m'<=s.U top m+3:=by
 have E:=hs.bk.1;have I:=hs.pg.1;have hg:=hs.good;obtain⟨i0,h0⟩:∃i0,i0=a*s.cf.bk:=⟨_,rfl⟩;obtain⟨i1,h1⟩:∃i1,i1=min (b*s.cf.bk) (sizes s.L):=⟨_,rfl⟩
 have h01:i0<i1:=by
  have h2:a*s.cf.bk<sizes s.L:=by rw[<-I3 E,<-hs.len];omega
  have h3:(a+1)*s.cf.bk<=b*s.cf.bk:=ζm _ hab;rw[ξp]at h3;omega
 have Y:∀i,i<sizes s.L->((a<=i/s.cf.bk/\i/s.cf.bk<b)↔(i0<=i/\i<i1)):=λi hi=>by
  rw[ξg Ω,ζ7 Ω];omega
 obtain⟨J,hJ⟩:∃J,J=(i1-1-i0)/s.pg:=⟨_,rfl⟩;have hJm:J*s.pg<=i1-1-i0:=by rw[hJ];exact ζn _ _
 have V:∀j,j<=J->i0+j*s.pg<i1:=λj hj=>by
  have:=ζm s.pg hj;omega
 have N:∀j,j+1<=J->AH s.L (i0+j*s.pg)/s.pg<AH s.L (i0+(j+1)*s.pg)/s.pg:=λj hj=>by
  have h2:=V (j+1) hj;have h3:=XC hg (i:=i0+j*s.pg) s.pg (by rw[ξp]at h2;omega);rw[show i0+j*s.pg+s.pg=i0+(j+1)*s.pg by rw[ξp];omega]at h3;have h4:=ζc (c:=s.pg) h3;rw[Nat.add_div_right _ (show 0<s.pg by omega)]at h4;omega
 have Z:∀d i,i+d<=J->AH s.L (i0+i*s.pg)/s.pg+d<=AH s.L (i0+(i+d)*s.pg)/s.pg:=λd=>by
  induction d with
  | zero=>intro i _;exact ϑ _
  | succ d ih=>
   intro i hi;have h2:=ih i Ω;have h3:=N (i+d) Ω;rw[show i+(d+1)=i+d+1 by omega];omega
 have hS:cnt (s.pS m') s.np+(J-1)<=cnt (s.pS m) s.np:=by
  refine Y4o (λj=>AH s.L (i0+(j+1)*s.pg)/s.pg) (λp hp=>?_) _ (λj hj=>?_) (λi j hij hj=>?_)
  ·obtain⟨i,hi,h2,h3⟩:=Sl.pS_iff.1 hp;rw[hm',ψe]at h2;exact Sl.pS_iff.2 ⟨i,hi,h2.1,h3⟩
  ·have h2:=V (j+1) Ω;have hN:i0+(j+1)*s.pg<sizes s.L:=Ω
   have h3:=(Y _ hN).2 ⟨ζS _ _,h2⟩;refine⟨?_,Sl.pS_iff.2 ⟨_,hN,hm _ h3.1 h3.2,rfl⟩,?_⟩
   ·have h4:=(hs.srcs hN).2.2;rw[ζ7 Ω,hn];exact h4
   ·refine Bool.eq_false_iff.2 λhp=>?_;obtain⟨i,hi,h4,h5⟩:=Sl.pS_iff.1 hp;rw[hm',ψe,decide_eq_false_iff_not,Y i hi]at h4;rcases υ i i0 with h6|h6
    ·have h7:=ζc (c:=s.pg) (ZP hg (Nat.le_of_lt h6) Ω);have h8:=Z (j+1) 0 Ω;rw[Nat.zero_mul,ξk,ξt]at h8;omega
    ·have h7:=V J (ϑ _);have h8:=ζc (c:=s.pg) (ZP hg (show i0+J*s.pg<=i by omega) hi);have h9:=Z (J-(j+1)) (j+1) Ω;rw[show j+1+(J-(j+1))=J by omega]at h9;omega
  ·have:=Z (j-i) (i+1) Ω;rw[show i+1+(j-i)=j+1 by omega]at this;omega
 have hT:cnt (s.pT top m') s.np<=cnt (s.pT top m) s.np+(J+2):=by
  refine β (I2 (g:=λp=>s.pT top m p||decide ((s.cf.to+i0)/s.pg<=p/\p<(s.cf.to+i0)/s.pg+(J+2))) λp _ hp=>?_) (β (X6 _ _ _) (Nat.add_le_add_left (β (SY _ _ _) Ω) _));rw[ζ9,ζg];rcases Sl.pT_iff.1 hp with⟨i,hi,h2,h3⟩|h2
  ·rw[hm',ζ9,ζg,Y i hi]at h2;rcases h2 with h2|h2
   ·exact .inl (Sl.pT_iff.2 (.inl ⟨i,hi,h2,h3⟩))
   ·right;rw[<-h3];refine⟨ζc Ω,?_⟩;have h4:=Xra (x:=s.cf.to+i0) (d:=i-i0) I;rw[show s.cf.to+i0+(i-i0)=s.cf.to+i by omega]at h4;have h5:=ζc (c:=s.pg) (show i-i0<=i1-1-i0 by omega);omega
  ·exact .inl (Sl.pT_iff.2 (.inr h2))
 unfold Sl.U;omega
def FQ(m:Nat->Bool)(f t:Nat)(k:Nat):Bool:=m k||decide (f<=k/\k<t)
theorem Sl.U_fill(hs:BD s)(hn:s.np*s.pg=s.n)(f:Nat):∀d,f+d<=s.mv.length->s.U top (FQ m f (f+d))<=s.U top m+3*(cnt (λj=>m (f+j)) d+1):=λd hd=>by
 have Y:∀a b,f<=a->a<=b->b<=s.mv.length->(∀k,a<=k->k<b->m k=false)->s.U top (FQ m f b)<=s.U top (FQ m f a)+3:=λa b h1 h2 h3 h4=>by
  rcases Nat.eq_or_lt_of_le h2 with rfl|h2
  ·omega
  ·refine Sl.U_run hs hn h2 h3 (λk h5 h6=>?_) (λk=>?_)
   ·unfold FQ;rw[h4 k h5 h6,ζ Ω];rfl
   ·unfold FQ;rw[Bool.or_assoc];congr 1;rw[<-Bool.decide_or];exact ξP.2 Ω
 have Z:∀d,f+d<=s.mv.length->∃a,f<=a/\a<=f+d/\(∀k,a<=k->k<f+d->m k=false)/\s.U top (FQ m f a)<=s.U top m+3*cnt (λj=>m (f+j)) d:=by
  intro d
  induction d with
  | zero=>
   intro _;refine⟨f,ϑ _,ϑ _,λk h1 h2=>by omega,?_⟩;rw[Sl.U_congr (m':=m) (λk _=>by unfold FQ;rw[ζ Ω,Bool.or_false]) hs];omega
  | succ d ih=>
   intro h;obtain⟨a,h1,h2,h3,h4⟩:=ih Ω;rw[CS];cases hmk:m (f+d)with
   | false=>
    refine⟨a,h1,by omega,λk h5 h6=>?_,by simpa using h4⟩;rcases υ k (f+d)with h7|h7
    ·exact h3 k h5 h7
    ·rw[show k=f+d by omega];exact hmk
   | true=>
    refine⟨f+(d+1),by omega,ϑ _,λk h5 h6=>by omega,?_⟩;have h5:=Y a (f+d) h1 h2 Ω h3
    rw[Sl.U_congr (m:=FQ m f (f+(d+1))) (m':=FQ m f (f+d)) (λk _=>by
     unfold FQ;by_cases e:k=f+d
     ·rw[e,hmk];rfl
     ·congr 1
      exact ξP.2 Ω) hs]
    simp only[Bool.toNat_true];omega
 obtain⟨a,h1,h2,h3,h4⟩:=Z d hd;have:=Y a (f+d) h1 h2 hd h3;omega
theorem Sl.U_more(hs:BD s)(hpb:BL s.pg=true)(h:∀k,m k=true->m' k=true)(l:List Nat)(hl:∀k,k<s.mv.length->m' k=true->m k=true\/k∈l):s.U top m'<=s.U top m+l.length*s.q:=by
 have hpg:=hs.pg.1;obtain⟨b0,hb0⟩:s.pg∣s.cf.to:=Nat.dvd_of_mod_eq_zero hs.cf.at_
 have Y:∀i,(s.cf.to+i)/s.pg=b0+i/s.pg:=λi=>by
  grind [ζ3,Nat.add_comm,Nat.add_mul_div_right]
 have hS:cnt (s.pS m') s.np<=cnt (s.pS m) s.np:=I2 λp _ hp=>by
  obtain⟨i,hi,h2,h3⟩:=Sl.pS_iff.1 hp;refine Sl.pS_iff.2 ⟨i,hi,?_,h3⟩
  grind
 have hT:cnt (s.pT top m') s.np<=cnt (s.pT top m) s.np+l.length*s.q:=by
  let g:Nat->Nat->Bool:=λj p=>(List.range (sizes s.L)).any λi=>(i/s.cf.bk==j)&&((s.cf.to+i)/s.pg==p)
  have hg:∀j,cnt (g j) s.np<=s.q:=λj=>by
   obtain⟨a,ha⟩:=Zs5 hs.cf.bk hpb j;refine β (I2 (g:=λp=>decide (b0+a<=p/\p<b0+a+s.q)) λp _ hp=>?_) (β (SY _ _ _) Ω);obtain⟨i,_,hi⟩:=ψb.1 hp;obtain⟨e1,e2⟩:=ζY.1 hi;have e1:i/s.cf.bk=j:=by simpa using e1
   have e2:(s.cf.to+i)/s.pg=p:=by simpa using e2
   have:=ha i e1;rw[Y]at e2;unfold Sl.q
   grind
  refine β (I2 (g:=λp=>s.pT top m p||l.any λj=>g j p) λp _ hp=>?_) (β (X6 _ _ _) (Nat.add_le_add_left (JuW l g λk _=>hg k) _));rw[ζ9];rcases Sl.pT_iff.1 hp with⟨i,hi,h2,h3⟩|h2
  ·rcases hl _ (hs.blk hi) h2 with h4|h4
   ·exact .inl (Sl.pT_iff.2 (.inl ⟨i,hi,h4,h3⟩))
   grind
  ·exact .inl (Sl.pT_iff.2 (.inr h2))
 unfold Sl.U;omega
theorem Sl.U_grow(hs:BD s)(hn:s.np*s.pg=s.n)(hpb:BL s.pg=true)(h1:l.length=s.mv.length)(h2:l'.length=s.mv.length)(hll:∀k,at_ l k=true->at_ l' k=true)(ha:CD l-ftL l<=s.cf.ah)(ha':CD l' - ftL l'<=s.cf.ah):s.U top (at_ l')+s.q<=s.U top (at_ l)+(s.cf.ah+2)*(s.q+3):=by
 have hf:ftL l<=ftL l':=by
  refine ξW λh=>?_;have h3:ftL l' < l'.length:=κ h (by rw[h2,<-h1];exact GU _ _);have h4:(!at_ l' (ftL l'))=true:=GL (λk=>!at_ l' k) l'.length h3;rw[hll _ (LJ h)]at h4;cases h4
 have hf2:ftL l'<=s.mv.length:=by rw[<-h2];exact GU _ _
 have hF:=Sl.U_fill (top:=top) (m:=at_ l) hs hn (ftL l) (ftL l' - ftL l) Ω;rw[show ftL l+(ftL l' - ftL l)=ftL l' by omega]at hF
 have hc:cnt (λj=>at_ l (ftL l+j)) (ftL l' - ftL l)<=s.cf.ah:=by
  have e1:=OY (l:=l) (m:=ftL l) (GU _ _) (λi hi=>LJ hi)
  have e2:∀d,ftL l+d<=l.length->cnt (λj=>at_ l (ftL l+j)) d<=cnt (λk=>decide (ftL l<=k)&&at_ l k) (ftL l+d):=by
   intro d
   induction d with
   | zero=>intro _;exact ζf _
   | succ d ih=>
    rw[show ftL l+(d+1)=ftL l+d+1 by omega,CS,CS,θ (show ftL l<=ftL l+d by omega),ξ2];omega
  have e3:=e2 (ftL l' - ftL l) Ω;have e4:=TF (f:=λk=>decide (ftL l<=k)&&at_ l k) (show ftL l+(ftL l' - ftL l)<=l.length by omega);unfold CD at ha;omega
 obtain⟨W,hW⟩:∃W:List Nat,W=(List.range l'.length).filter λj=>decide (ftL l'<=j)&&at_ l' j:=⟨_,rfl⟩
 have hWl:W.length+ftL l'=CD l':=by
  have:=OY (l:=l') (m:=ftL l') (GU _ _) (λi hi=>LJ hi);unfold CD;rw[<-this,hW,<-List.countP_eq_length_filter];rfl
 have hM:=Sl.U_more (top:=top) (m:=FQ (at_ l) (ftL l) (ftL l')) (m':=at_ l') hs hpb (λk hk=>by
  unfold FQ at hk;rw[ζ9,ζg]at hk;rcases hk with hk|hk
  ·exact hll k hk
  ·exact LJ hk.2) W (λk hk h=>by
  rcases υ k (ftL l')with h3|h3
  ·left;unfold FQ;rw[ζ9,ζg];rcases υ k (ftL l)with h4|h4
   ·exact .inl (LJ h4)
   ·exact .inr ⟨h4,h3⟩
  ·right;rw[hW,ψg,ξo,h,θ h3]
   exact⟨by omega,rfl⟩)
 have hWq:W.length*s.q<=s.cf.ah*s.q:=ζm _ Ω;rw[ξl,Nat.mul_add,Nat.mul_add];omega
end
structure HpA(top:Nat)(u:Vm)(s:Sl)(v:Vm):Prop where
 pg:∀p,p<v.pt.length->(v.pt.getD p 0≠0↔s.pS (at_ s.mv) p=true\/s.pT top (at_ s.mv) p=true)
 ah:s.mvd-s.ft<=s.cf.ah
 fr:∃l:List Bool,l.length=s.mv.length/\(∀k,at_ l k=true->at_ s.mv k=true)/\CD l-ftL l<=s.cf.ah/\s.U top (at_ l)+(s.cf.ah+2)*(s.q+3)<=v.pl.rm
 lm:s.cf.to+sizes s.L<=top/\top<=s.cf.lm
 ok:AF u
 un:∀a:Nat,a<s.n->u.ldE a=0
 c:∀i,i<sizes s.L->u.ldV (s.cf.to+i:Nat)=s.c i
 x:∀a:Nat,s.cf.to+sizes s.L<=a->a<top->v.ldE a=0/\v.ldV a=u.ldV a
theorem TE(v:Vm)(p0 k:Nat):(BZ v p0 k).length<=k:=by
 induction k with
 | zero=>exact ϑ _
 | succ k ih=>
  grind [QK,ζr,ξm]
section
variable{top:Nat}
theorem BQ.np(h:BQ s v):s.np=v.pt.length/\s.np*s.pg=s.n:=by
 have h1:=h.mid.ok.len;have h2:=h.mid.ok.np;rw[h.mid.n,h.mid.pg]at h1;rw[h.mid.n,h.mid.pg]at h2;exact⟨h1.symm,by rw[show s.np=v.pt.length from h1.symm];exact h2.symm⟩
theorem Sl.pST(hs:BD s)(hlm:top<=s.cf.lm)(h1:s.pS m p=true)(h2:s.pT top m p=true):False:=by
 obtain⟨i,hi,-,e⟩:=Sl.pS_iff.1 h1;have h3:=hs.srcs hi;rcases Sl.pT_iff.1 h2 with⟨j,hj,-,e2⟩|⟨a,a1,a2,e2⟩
 ·exact hs.apart ⟨h3.1,h3.2.1⟩ ⟨ζS _ j,(hs.dsts hj).1⟩ (e.trans e2.symm)
 ·exact hs.apart ⟨h3.1,h3.2.1⟩ ⟨by omega,by omega⟩ (e.trans e2.symm)
theorem HpA.used(hO:BQ s v)(h:HpA top u s v):v.pl.used=s.U top (at_ s.mv):=by
 rw[hO.mid.ok.us];unfold Sl.U
 rw[hO.np.1,<-L6 (λp=>by
  cases e1:s.pS (at_ s.mv) p with
  | false=>rfl
  | true=>
   cases e2:s.pT top (at_ s.mv) p with
   | false=>rfl
   | true=>exact absurd (Sl.pST hO.st h.lm.2 e1 e2) id)]
 refine CT λp hp=>ψi.2 ?_;rw[ζ9,<-h.pg p hp,ξG]
theorem HpA.room(hO:BQ s v)(h:HpA top u s v):v.pl.used+s.q<=v.pl.rm:=by
 obtain⟨l,h1,h2,h3,h4⟩:=h.fr;have Y:BL s.pg=true:=by rw[<-hO.mid.pg];exact hO.mid.ok.pl.pg
 have:=Sl.U_grow (top:=top) hO.st hO.np.2 Y h1 rfl h2 h3 h.ah;rw[h.used hO];omega
theorem HpA.need(hO:BQ s v)(h:HpA top u s v)(hk:k<s.mv.length):BK v ((s.cf.to+s.lo k:Nat):Int) ((s.cf.to+s.hi k:Nat):Int)=0:=by
 have hs:=hO.st;have E:=hO.mid.ok;have hpg:=hs.pg.1;have Y:=hO.mid.pg;have N:=hs.lohi hk;have hto:s.cf.to+s.hi k<=v.n:=by have:=hs.fit;have:=hs.cf.ln;rw[hO.mid.n];omega
 have D:BL s.pg=true:=by rw[<-Y];exact E.pl.pg
 obtain⟨p0,Z⟩:∃p0,p0=(s.cf.to+s.lo k)/s.pg:=⟨_,rfl⟩;obtain⟨p1,V⟩:∃p1,p1=(s.cf.to+s.hi k-1)/s.pg:=⟨_,rfl⟩;have hp01:p0<=p1:=by rw[Z,V];exact ζc Ω
 have eA:(((s.cf.to+s.lo k:Nat):Int)/(v.pl.pg:Int)).toNat=p0:=by
  rw[Y,show ((s.cf.to+s.lo k:Nat):Int)/(s.pg:Int)=(((s.cf.to+s.lo k)/s.pg:Nat):Int)from rfl,χ,Z]
 have eB:CW v ((s.cf.to+s.lo k:Nat):Int) ((s.cf.to+s.hi k:Nat):Int)=p1+1-p0:=by
  unfold CW;rw[Y,show ((s.cf.to+s.hi k:Nat):Int)-1=((s.cf.to+s.hi k-1:Nat):Int)by omega,show ((s.cf.to+s.hi k-1:Nat):Int)/(s.pg:Int)=(((s.cf.to+s.hi k-1)/s.pg:Nat):Int)from rfl,show ((s.cf.to+s.lo k:Nat):Int)/(s.pg:Int)=(((s.cf.to+s.lo k)/s.pg:Nat):Int)from rfl,<-Z,<-V];omega
 obtain⟨b0,I⟩:s.pg∣s.cf.to:=Nat.dvd_of_mod_eq_zero hs.cf.at_
 have J:∀i,(s.cf.to+i)/s.pg=b0+i/s.pg:=λi=>by
  rw[I,ζ3,Nat.add_comm,Nat.add_mul_div_right _ _ Ω];omega
 obtain⟨a,ha⟩:=Zs5 hs.cf.bk D k
 have hw:p1+1-p0<=s.q:=by
  have h1:=ha (s.lo k) (ξa.1 ((hs.inB Ω).2 ⟨ϑ _,N.1⟩));have h2:=ha (s.hi k-1) (ξa.1 ((hs.inB Ω).2 ⟨by omega,by omega⟩));rw[J]at Z;rw[show s.cf.to+s.hi k-1=s.cf.to+(s.hi k-1)by omega,J]at V;unfold Sl.q;omega
 have hrm:=h.room hO;unfold BK;rw[ξ Ω,ξ Ω,eA,eB,φ];have h3:=TE v p0 (p1+1-p0);omega
theorem HpA.step(hO:BQ s v)(h:HpA top u s v)(hk:k<s.mv.length)(hm:at_ s.mv k=false)(hc:k=s.ft\/s.mvd-s.ft<s.cf.ah)(hM:M4 s k v v'):HpA top u {s with mv:=s.mv.set k true} v':=by
 have hs:=hO.st;have V:v'.pt.length=v.pt.length:=by rw[hM.ok.mid.ok.len,hO.mid.ok.len,hM.ok.mid.n,hM.ok.mid.pg,hO.mid.n,hO.mid.pg]
 have D:=hs.lohi hk;have Y:∀i,at_ (s.mv.set k true) (i/s.cf.bk)=(s.is i||s.inB k i):=Sl.is_put hk
 have h1:({s with mv:=s.mv.set k true}:Sl).mvd=s.mvd+1:=by
  unfold Sl.mvd;rw[ζb];exact JO hk hm
 refine⟨λp hp=>?_,?_,?_,h.lm,h.ok,h.un,h.c,λa a1 a2=>?_⟩
 ·rw[V]at hp;rw[hM.map p hp,h.pg p hp]
  have hT:({s with mv:=s.mv.set k true}:Sl).pT top (at_ (s.mv.set k true)) p=true↔s.pT top (at_ s.mv) p=true\/((s.cf.to+s.lo k)/s.pg<=p/\p<=(s.cf.to+s.hi k-1)/s.pg):=by
   show s.pT top (at_ (s.mv.set k true)) p=true↔_
   rw[Sl.pT_iff,Sl.pT_iff];constructor
   ·rintro(⟨i,hi,e1,e2⟩|e)
    ·rw[Y,ζ9]at e1;rcases e1 with e1|e1
     ·exact .inl (.inl ⟨i,hi,e1,e2⟩)
     ·have:=(hs.inB hi).1 e1;right;rw[<-e2];exact⟨ζc Ω,ζc Ω⟩
    ·exact .inl (.inr e)
   ·rintro((⟨i,hi,e1,e2⟩|e)|⟨e1,e2⟩)
    ·exact .inl ⟨i,hi,by rw[Y,show s.is i=true from e1];rfl,e2⟩
    ·exact .inr e
    ·left;have hpg:=hs.pg.1
     obtain⟨i,E,I,N⟩:∃i,s.lo k<=i/\i<s.hi k/\(s.cf.to+i)/s.pg=p:=by
      rcases υ (s.cf.to+s.lo k) (p*s.pg)with g|g
      ·refine⟨p*s.pg-s.cf.to,by omega,?_,?_⟩
       ·have:=(ξg Ω).1 e2;omega
       ·rw[show s.cf.to+(p*s.pg-s.cf.to)=p*s.pg by omega,ξH _ Ω]
      ·refine⟨s.lo k,ϑ _,D.1,?_⟩;have:=(ξg (show 0<s.pg by omega)).2 g;omega
     have J:i<sizes s.L:=Ω
     exact⟨i,J,by rw[Y,(hs.inB J).2 ⟨E,I⟩,Bool.or_true],N⟩
  have hS:({s with mv:=s.mv.set k true}:Sl).pS (at_ (s.mv.set k true)) p=true↔s.pS (at_ s.mv) p=true/\¬ ∃i,i<sizes s.L/\s.inB k i=true/\AH s.L i/s.pg=p/\∀j,j<sizes s.L->AH s.L j/s.pg=p->s.is j=true\/s.inB k j=true:=by
   show s.pS (at_ (s.mv.set k true)) p=true↔_
   rw[Sl.pS_iff,Sl.pS_iff];constructor
   ·rintro⟨i,hi,e1,e2⟩;rw[Y,ψe]at e1;refine⟨⟨i,hi,e1.1,e2⟩,λ⟨j,_,_,_,g⟩=>?_⟩;rcases g i hi e2 with g|g
    ·rw[e1.1]at g;cases g
    ·rw[e1.2]at g;cases g
   ·rintro⟨⟨i,hi,e1,e2⟩,g⟩;have e1:s.is i=false:=e1;refine Classical.byContradiction λhno=>?_
    have Z:∀j,j<sizes s.L->AH s.L j/s.pg=p->s.is j=true\/s.inB k j=true:=λj hj he=>by
     refine Classical.byContradiction λhn=>hno ⟨j,hj,?_,he⟩;rw[Y];cases ea:s.is j <;> cases eb:s.inB k j <;> simp_all
    rcases Z i hi e2 with e|e
    ·rw[e1]at e;cases e
    ·exact g ⟨i,hi,e,e2,Z⟩
  show _↔({s with mv:=s.mv.set k true}:Sl).pS (at_ (s.mv.set k true)) p=true\/({s with mv:=s.mv.set k true}:Sl).pT top (at_ (s.mv.set k true)) p=true
  rw[hS,hT];constructor
  ·rintro⟨(e|e)|e,g⟩
   ·exact .inl ⟨e,g⟩
   ·exact .inr (.inl e)
   ·exact .inr (.inr e)
  ·rintro(⟨e,g⟩|e)
   ·exact⟨.inl (.inl e),g⟩
   ·refine⟨e.elim (λe=>.inl (.inr e)) .inr,λ⟨i,hi,hb,e2,_⟩=>?_⟩;have h5:s.pT top (at_ (s.mv.set k true)) p=true:=hT.2 e;refine Sl.pST hs h.lm.2 (m:=λ_=>false) (p:=p) (Sl.pS_iff.2 ⟨i,hi,rfl,e2⟩) ?_;exfalso;have h3:=hs.srcs hi;rcases Sl.pT_iff.1 h5 with⟨j,hj,-,e3⟩|⟨a,a1,a2,e3⟩
    ·exact hs.apart ⟨h3.1,h3.2.1⟩ ⟨ζS _ j,(hs.dsts hj).1⟩ (e2.trans e3.symm)
    ·exact hs.apart ⟨h3.1,h3.2.1⟩ ⟨by omega,by have:=h.lm;omega⟩ (e2.trans e3.symm)
 ·have hah:=h.ah
  show ({s with mv:=s.mv.set k true}:Sl).mvd-({s with mv:=s.mv.set k true}:Sl).ft<=s.cf.ah
  rw[h1]
  have h2:s.ft<=({s with mv:=s.mv.set k true}:Sl).ft:=by
   refine ξW λh=>?_
   have h3:({s with mv:=s.mv.set k true}:Sl).ft<(s.mv.set k true).length:=by
    rw[ζb];have:=s.ft_le;omega
   have h4:=({s with mv:=s.mv.set k true}:Sl).ft_off h3
   have h6:at_ (s.mv.set k true) ({s with mv:=s.mv.set k true}:Sl).ft=true:=by
    rw[F9 hk]
    split
    ·rfl
    ·exact s.ft_on h
   rw[h6]at h4;cases h4
  rcases hc with rfl|hc
  ·have h3:=Vhb (l:=s.mv) hk;unfold CX at h3;rw[φ (show ftL s.mv<s.mv.length from hk)]at h3;have h4:s.ft<({s with mv:=s.mv.set s.ft true}:Sl).ft:=h3;omega
  ·omega
 ·obtain⟨l,a1,a2,a3,a4⟩:=h.fr;refine⟨l,by rw[a1];exact(ζb ..).symm,λj hj=>?_,a3,by rw[hM.rm];exact a4⟩;rw[F9 hk]
  split
  ·rfl
  ·exact a2 j hj
 ·have a1:s.cf.to+sizes s.L<=a:=a1;have hlm:=h.lm;have hln:=hs.cf.ln;obtain⟨x1,x2⟩:=h.x a a1 a2;obtain⟨o1,o2⟩:=hM.oth a Ω (.inr Ω) (λi hi=>hs.apart ⟨(hs.srcs hi).1,(hs.srcs hi).2.1⟩ ⟨by omega,by omega⟩);exact⟨o2 x1,o1.trans x2⟩
end
theorem Zig{m:Nat}(h1:1<=m)(h2:m<=2048){f:Nat->Nat}(hf:∀a,f a<18446744073709551616):∃u:Vm,YZ (m*256) u/\∀a:Nat,a<m*256->u.ldV a=f a:=by
 have Y:AF (Vm.new (m*256) 256 m):=AF.new (by unfold E5;simp;omega) (by decide) Ω Ω (Nat.mul_mod_left _ _);have hd:m*256/256=m:=ξH _ (by decide);have Z:(Vm.new (m*256) 256 m).pt.length=m:=by show (List.replicate (m*256/256) 0).length=m;simp_all
 have hm:=YqK Y rfl (λp hp=>by exact N9 _ _) (by rw[Z];exact ϑ _) (k:=m) Ω;have hn:(mpN (Vm.new (m*256) 256 m) m).n=m*256:=hm.n
 have hl:∀a:Nat,a<m*256->(mpN (Vm.new (m*256) 256 m) m).ldE a=0:=λa ha=>by
  rw[hm.ldE Y (show a<(Vm.new (m*256) 256 m).n from ha),φ];rw[ξo]
  show a/256<m
  omega
 have hs:=VYd hm.ok (λa ha=>hl a Ω) hf (k:=m*256) Ω;exact⟨_,⟨hs.ok,hs.sm.n.trans hn,λa ha=>by rw[hs.sm.ldE];exact hl a ha,by omega⟩,hs.vl⟩
section
variable{top:Nat}
theorem Sl.tch_is(hs:BD s)(hi:i<sizes s.L):(s.tch ((s.cf.to+i:Nat):Int)).is i=true:=by
 have hb:=hs.blk hi;unfold Sl.tch Sl.is;rw[FG.2 Ω,φ rfl,show (((s.cf.to+i:Nat):Int)-(s.cf.to:Int)).toNat=i by omega];unfold JF
 split
 ·assumption
 ·rw[F9 (by rw[JSM];exact hb),φ rfl]
theorem HpA.ld(hO:BQ s v)(h:HpA top u s v)(h1:s.cf.to<=a)(h2:a<top)(hm:∀i,i<sizes s.L->a=s.cf.to+i->s.is i=true):v.ldE a=0/\v.ldV a=u.ldV a:=by
 rcases υ a (s.cf.to+sizes s.L)with h3|h3
 ·obtain⟨i,rfl⟩:∃i,a=s.cf.to+i:=⟨a-s.cf.to,by omega⟩;obtain⟨d1,d2⟩:=hO.mid.dst i Ω (hm i Ω rfl);exact⟨d1,by rw[d2,h.c i Ω]⟩
 ·exact h.x a h3 h2
theorem BQ.beyond(h:BQ s v)(h1:s.cf.to+sizes s.L<=a)(h2:a<s.cf.lm)(hl:v.ldE a=0)(hx:x<18446744073709551616):BQ s (v.st a x):=by
 have Y:=h.mid.ok.st_ldV x hl;have hs:=h.st;refine⟨hs,⟨h.mid.ok.st _ hx,(BR.st v _ x).n.trans h.mid.n,(BR.st v _ x).pg.trans h.mid.pg,λj hj hu=>?_,λj hj hd=>?_⟩⟩
 ·have ha:((a:Nat):Int)≠(AH s.L j:Nat):=λe=>hs.apart ⟨(hs.srcs hj).1,(hs.srcs hj).2.1⟩ ⟨show s.cf.to<=a by omega,h2⟩ (by grind);rw[F2,Y,ξ ha];exact h.mid.src j hj hu
 ·rw[F2,Y,ξ Ω];exact h.mid.dst j hj hd
theorem HpA.put(hO:BQ s v)(h:HpA top u s v)(h1:s.cf.to<=a)(h2:a<top)(hm:∀i,i<sizes s.L->a=s.cf.to+i->s.is i=true)(hx:x<18446744073709551616):∃c:Nat->Nat,BQ {s with c:=c} (v.st a x)/\HpA top (u.st a x) {s with c:=c} (v.st a x):=by
 have hl:=(h.ld hO h1 h2 hm).1;have V:=hO.mid.ok.st_ldV x hl;have hs:=hO.st;have hlm:=h.lm;have N:u.ldE a=0:=h.un a (by have:=hs.cf.ln;omega);have J:=h.ok.st_ldV x N;have Z:=BR.st v (a:Int) x
 have Y:∀c:Nat->Nat,(∀i,i<sizes s.L->c i=if s.cf.to+i=a then x else s.c i)->HpA top (u.st a x) {s with c:=c} (v.st a x):=λc hc=>by
  refine⟨λp hpl=>by rw[Z.pt]at hpl⊢;exact h.pg p hpl,h.ah,by obtain⟨l,a1,a2,a3,a4⟩:=h.fr;exact⟨l,a1,a2,a3,by rw[Z.rm];exact a4⟩,h.lm,h.ok.st _ hx,λb hb=>by rw[F2];exact h.un b hb,λi hi=>?_,λb b1 b2=>?_⟩
  ·have hi:i<sizes s.L:=hi
   show (u.st a x).ldV ((s.cf.to+i:Nat):Int)=c i
   rw[J,hc i hi,h.c i hi]
   grind
  ·rw[F2,V,J];obtain⟨x1,x2⟩:=h.x b b1 b2
   simp_all
 rcases υ a (s.cf.to+sizes s.L)with h3|h3
 ·obtain⟨i,rfl⟩:∃i,a=s.cf.to+i:=⟨a-s.cf.to,by omega⟩;refine⟨λj=>if j=i then x else s.c j,hO.store Ω (hm i Ω rfl) hx,Y _ λj hj=>?_⟩
  simp_all
 ·refine⟨s.c,hO.beyond h3 Ω hl hx,Y _ λj hj=>?_⟩
  grind
theorem HpA.done(hO:BQ s v)(h:HpA top u s v)(hall:∀i,i<sizes s.L->s.is i=true):(∀p,p<v.pt.length->(v.pt.getD p 0≠0↔∃a,s.cf.to<=a/\a<top/\a/s.pg=p))/\∀a:Nat,s.cf.to<=a->a<top->v.ldE a=0/\v.ldV a=u.ldV a:=by
 have hlm:=h.lm;refine⟨λp hp=>?_,λa h1 h2=>h.ld hO h1 h2 (λi hi _=>hall i hi)⟩;rw[h.pg p hp,Sl.pS_iff,Sl.pT_iff];constructor
 ·rintro(⟨i,hi,e1,e2⟩|⟨i,hi,e1,e2⟩|⟨a,a1,a2,a3⟩)
  ·have:=hall i hi;rw[show s.is i=false from e1]at this;cases this
  ·exact⟨_,ζS _ i,by omega,e2⟩
  ·exact⟨a,by omega,a2,a3⟩
 ·rintro⟨a,a1,a2,a3⟩;rcases υ a (s.cf.to+sizes s.L)with h3|h3
  ·exact .inr (.inl ⟨a-s.cf.to,by omega,hall _ Ω,by simp_all⟩)
  ·exact .inr (.inr ⟨a,h3,a2,a3⟩)
theorem XeJ(hO:BQ s v)(hlm:top<=s.cf.lm)(hp:∀p,p<v.pt.length->(v.pt.getD p 0≠0↔s.pS (at_ s.mv) p=true\/s.pT top (at_ s.mv) p=true)):v.pl.used=s.U top (at_ s.mv):=by
 rw[hO.mid.ok.us];unfold Sl.U
 rw[hO.np.1,<-L6 (λp=>by
  cases e1:s.pS (at_ s.mv) p with
  | false=>rfl
  | true=>
   cases e2:s.pT top (at_ s.mv) p with
   | false=>rfl
   | true=>exact absurd (Sl.pST hO.st hlm e1 e2) id)]
 refine CT λp hp'=>ψi.2 ?_
 simp_all
theorem QHK{n:Nat}(hn:n<=524288){f:Nat->Nat}(hf:∀a,f a<18446744073709551616):∃u:Vm,AF u/\(∀a:Nat,a<n->u.ldE a=0)/\∀a:Nat,a<n->u.ldV a=f a:=by
 obtain⟨u,h1,h2⟩:=Zig (m:=2048) Ω (ϑ _) hf;exact⟨u,h1.ok,λa ha=>h1.al a Ω,λa ha=>h2 a Ω⟩
theorem Jap{c:Cf}{rs:List Int}(hok:AF v)(hcf:G9 v.pl.pg v.n c)(hI:EU v rs c.fr c.tp L)(hfit:sizes L<=c.lm-c.to)(hfull:FR v L)(hU:EY (AZ v c L) v v' (c.fr/v.pl.pg) j)(hj:c.tp<=(c.fr/v.pl.pg+j)*v.pl.pg)
  (hm:∀p,p<v.pt.length->v.pt.getD p 0≠0->c.fr/v.pl.pg<=p/\p*v.pl.pg<c.tp) (hrm:v.pl.used+(c.ah+2)*(max 1 (c.bk/v.pl.pg)+3)<=v.pl.rm):BQ (AZ v c L) v'/\∃u,HpA (c.to+sizes L) u (AZ v c L) v':=by
 have V:=PX hok hcf hI hfit;have hO:=QHD hok hcf hI hfit hfull hU;have hP:=JlU hok hcf hI hfit hfull hU hj hm;have hlm:=hcf.lm;refine⟨hO,?_⟩
 obtain⟨u,u1,u2,u3⟩:=QHK (n:=v.n) hok.n2 (f:=λa=>if c.to<=a/\a<c.to+sizes L then (AZ v c L).c (a-c.to)else 0) (λa=>by
  split
  ·exact V.cv_lt _ (hok.ldV_lt _)
  ·omega)
 have Z:∀p,p<v'.pt.length->(v'.pt.getD p 0≠0↔(AZ v c L).pS (at_ (AZ v c L).mv) p=true\/(AZ v c L).pT (c.to+sizes L) (at_ (AZ v c L).mv) p=true):=λp hp=>by
  rw[hP p hp,Sl.pS_iff,Sl.pT_iff];refine or_congr ⟨λ⟨i,h1,h2,h3⟩=>⟨i,h1,h3,h2⟩,λ⟨i,h1,h2,h3⟩=>⟨i,h1,h3,h2⟩⟩ ⟨λ⟨i,h1,h2,h3⟩=>.inl ⟨i,h1,h3,h2⟩,?_⟩;rintro(⟨i,h1,h2,h3⟩|⟨a,a1,a2,-⟩)
  ·exact⟨i,h1,h3,h2⟩
  ·have a1:c.to+sizes L<=a:=a1;omega
 have J:v'.pt.length=v.pt.length:=by rw[hU.ok.len,hok.len,hU.n,hU.pg]
 have hus:v'.pl.used<=v.pl.used:=by
  rw[hU.ok.us,hok.us];unfold nz;rw[J];refine I2 λp hp h=>?_;rw[ξG]at h⊢;exact((hU.map p hp).1 h).1
 have Y:c.to+sizes L<=c.lm:=Ω
 refine⟨u,Z,by rw[S6,Nat.zero_sub];exact ζf _,⟨(AZ v c L).mv,rfl,λ_ h=>h,?_,?_⟩,⟨ϑ _,Y⟩,u1,u2,λi hi=>?_,λa a1 a2=>?_⟩
 ·show (AZ v c L).mvd-(AZ v c L).ft<=c.ah
  rw[S6,Nat.zero_sub];exact ζf _
 ·rw[<-XeJ hO Y Z,hU.rm]
  show v'.pl.used+(c.ah+2)*(max 1 (c.bk/v.pl.pg)+3)<=v.pl.rm
  omega
 ·have hi:i<sizes L:=hi
  show u.ldV ((c.to+i:Nat):Int)=_
  rw[u3 _ (by have:=hcf.ln;omega),φ ⟨by omega,by omega⟩,ξC]
 ·have a1:c.to+sizes L<=a:=a1;omega
theorem HpA.alloc(hO:BQ s v)(h:HpA top u s v){n:Nat}(hs255:p+f+k<=255)(hn:n=1+p+f+k)(hlm:top+n<=s.cf.lm)(he:BK v top ((top+n:Nat):Int)=0)(hG:BW v v1 (BY v top ((top+n:Nat):Int)))(hu:v.pl.used+(n/s.pg+2+(s.cf.ah+2)*(s.q+3))<=v.pl.rm):
  GY v1 top ⟨p,f,k⟩=0/\BQ s (mkVm v1 top ⟨p,f,k⟩)/\∃u',HpA (top+n) u' s (mkVm v1 top ⟨p,f,k⟩)/\(∀a:Nat,a<top->u'.ldV a=u.ldV a)/\u'.ldV top=CY p f k/\∀i:Nat,i<p+f+k->u'.ldV ((top+1+i:Nat):Int)=0:=by
 have hs:=hO.st;have Z:=hO.mid.ok;have E:=hs.pg.1;have hln:=hs.cf.ln;have htop:=h.lm;have hto:=hs.cf.to;have hvn:=hO.mid.n;have V:=hO.mid.pg
 have hF:∀b,b∈BY v top ((top+n:Nat):Int)↔(top/s.pg<=b/\b<=(top+n-1)/s.pg)/\v.pt.getD b 0=0:=λb=>by
  unfold BY;rw[φ ⟨he,by omega⟩,VWG Z Ω Ω,V]
 have B:∀a:Nat,top<=a->a<top+n->v1.ldE a=0:=λa a1 a2=>by
  rw[hG.ldE Z Ω]
  split
  ·rfl
  ·rename_i J;rw[V,hF]at J;have h1:v.pt.getD (a/s.pg) 0≠0:=λe=>J ⟨⟨ζc a1,ζc Ω⟩,e⟩;have h2:=(Z.split (a:=a) Ω).1;unfold Vm.ldE;rw[φ ⟨by omega,by omega⟩,show ((a:Nat):Int)/(v.pl.pg:Int)=((a/v.pl.pg:Nat):Int)from rfl,MK h2,V,ξ h1]
 obtain⟨m1,m2⟩:=YT (v:=v1) hG.ok (t:=top) (p:=p) (f:=f) (c:=k) Ω hs255 (λj hj=>by
  rw[show (top:Int)+(j:Int)=((top+j:Nat):Int)by omega]
  exact B _ Ω Ω)
 obtain⟨v2,Xd⟩:∃v2,v2=mkVm v1 top ⟨p,f,k⟩:=⟨_,rfl⟩;have N:EF s s.is (λi=>!s.is i) v1:=hO.mid.grow hs hG;have Y:DY v1 v2:=by rw[Xd];exact(DY.refl hG.ok).mkVm _ _
 rw[<-Xd]at m2⊢;have I:∀b:Int,v2.ldE b=v1.ldE b:=λb=>Y.sm.ldE b
 have Xb:BQ s v2:=by
  refine⟨hs,Y.ok,Y.sm.n.trans N.n,Y.sm.pg.trans N.pg,λi hi hu=>?_,λi hi hd=>?_⟩
  ·have h3:=hs.srcs hi;have D:∀b:Nat,top<=b->b<top+n->AH s.L i≠b:=λb b1 b2 e=>hs.apart ⟨h3.1,h3.2.1⟩ ⟨show s.cf.to<=b by omega,by omega⟩ (by rw[e]);have h4:=N.src i hi hu;rw[I,m2,ξ (λe=>D top (ϑ _) Ω Ω),ξ (λe=>D (AH s.L i) Ω Ω rfl)];exact h4
  ·rw[I,m2,ξ Ω,ξ Ω];exact N.dst i hi hd
 refine⟨m1,Xb,?_⟩
 obtain⟨u',u1,u2,u3⟩:=QHK (n:=s.n) hs.n2 (f:=λa=>if a<top then u.ldV a else v2.ldV a) (λa=>by
  split
  ·exact h.ok.ldV_lt _
  ·exact Y.ok.ldV_lt _)
 have Xa:v2.pt.length=v.pt.length:=by rw[Y.sm.pt,hG.len Z]
 have Xc:∀b,b<v2.pt.length->(v2.pt.getD b 0≠0↔s.pS (at_ s.mv) b=true\/s.pT (top+n) (at_ s.mv) b=true):=λb hb=>by
  rw[Xa]at hb;rw[Y.sm.pt,hG.ma b hb,hF,h.pg b hb]
  have hT:s.pT (top+n) (at_ s.mv) b=true↔s.pT top (at_ s.mv) b=true\/(top/s.pg<=b/\b<=(top+n-1)/s.pg):=by
   rw[Sl.pT_iff,Sl.pT_iff,or_assoc];refine or_congr_right ⟨?_,?_⟩
   ·rintro⟨a,a1,a2,rfl⟩;rcases υ a top with h3|h3
    ·exact .inl ⟨a,a1,h3,rfl⟩
    ·exact .inr ⟨ζc h3,ζc Ω⟩
   ·rintro(⟨a,a1,a2,e⟩|⟨e1,e2⟩)
    ·exact⟨a,a1,by omega,e⟩
    ·rcases υ top (b*s.pg)with g|g
     ·refine⟨b*s.pg,by omega,?_,ξH _ Ω⟩;have:=(ξg (show 0<s.pg by omega)).1 e2;omega
     ·refine⟨top,by omega,by omega,?_⟩;have:=(ξg (show 0<s.pg by omega)).2 g;omega
  rw[hT];by_cases e:v.pt.getD b 0=0
  ·have J:=mt (h.pg b hb).2 (λhh=>hh e);constructor
   ·rintro(g|g)
    ·exact absurd g J
    ·exact .inr (.inr g.1)
   ·rintro(g|g|g)
    ·exact absurd (.inl g) J
    ·exact absurd (.inr g) J
    ·exact .inr ⟨g,e⟩
  ·have hy:=(h.pg b hb).1 e;exact⟨λ_=>hy.imp id .inl,λ_=>.inl hy⟩
 have G:top+n<=s.cf.lm:=hlm;refine⟨u',⟨Xc,h.ah,⟨s.mv,rfl,λ_ h=>h,h.ah,?_⟩,⟨by omega,hlm⟩,u1,u2,λi hi=>?_,λa a1 a2=>?_⟩,λa ha=>?_,?_,λi hi=>?_⟩
 ·rw[<-XeJ Xb G Xc,Y.sm.rm,hG.rm]
  have hus:v2.pl.used=v.pl.used+(BY v top ((top+n:Nat):Int)).length:=by
   rw[<-hG.us,Y.ok.us,hG.ok.us,Y.sm.pt]
  have Xe:(BY v top ((top+n:Nat):Int)).length<=n/s.pg+2:=by
   unfold BY;rw[φ ⟨he,by omega⟩];refine β (TE _ _ _) ?_;unfold CW;rw[V,show ((top+n:Nat):Int)-1=((top+n-1:Nat):Int)by omega,show ((top+n-1:Nat):Int)/(s.pg:Int)=(((top+n-1)/s.pg:Nat):Int)from rfl,show (top:Int)/(s.pg:Int)=((top/s.pg:Nat):Int)from rfl];have h3:=Xra (x:=top) (d:=n-1) E;have h4:=ζc (c:=s.pg) (show n-1<=n by omega);rw[show top+(n-1)=top+n-1 by omega]at h3;generalize (top+n-1)/s.pg=x1 at h3⊢;generalize top/s.pg=x2 at h3⊢;generalize (n-1)/s.pg=x3 at h3 h4;generalize n/s.pg=x4 at h4⊢;omega
  generalize n/s.pg=x4 at Xe hu;omega
 ·rw[u3 _ (by have:=(hs.dsts hi).2;omega),φ Ω];exact h.c i hi
 ·have hb:a<s.n:=Ω
  rw[I];rcases υ a top with h3|h3
  ·obtain⟨x1,x2⟩:=h.x a a1 h3;rw[m2,ξ Ω,ξ Ω,u3 a hb,φ h3,hG.ldV_all Z Ω,hG.ldE Z Ω];exact⟨by split <;> first|rfl|exact x1,x2⟩
  ·rw[u3 a hb,ξ Ω];exact⟨B a h3 a2,rfl⟩
 ·rw[u3 a Ω,φ ha]
 ·rw[u3 top Ω,ξ Ω,m2,φ rfl]
 ·rw[u3 _ Ω,ξ Ω,m2,ξ Ω,φ Ω]
end
section
attribute [local go_sem] Oper.semAt_some
theorem XWt{m p1 b1 p2 b2 n:Nat}(hE:Ext w m p1 b1 p2 b2 n L)(hT:AO w)(hf:f<2147483648):
  Calls prog 158 #[pP m,iI 64,iI f] w λe w'=>∃ff B,e=.returned (.tuple #[pP ff,iI 0])/\Gr w w'/\Fwd w' w.heap.size ff n B f L:=by
 refine(WM hE hT 64 f (by decide)).mono ?_;have hb:FY (f:Int)=true:=by unfold FY;grind
 have hk:BL 64=true:=by decide
 rintro e w' ⟨hg,(⟨h,-⟩|⟨-,ff,B,base,hB,hbase,rfl,hF⟩)⟩
 ·simp_all
 ·obtain rfl:f=base:=Ω
  grind
structure UmP(w8 wx:World)(S5:Nat->Prop)(q r g:Nat)(v2:Vm)(out:List Int)(qs q0 j pg tp:Nat):Prop where
 t:AB S5 w8 wx
 vm:∃Sj,(∀b,Sj b->plus S5 w8 b)/\AD wx Sj q (umN v2 qs (q0+j-qs))
 rt:AW wx r g out
 q1:∀i,i<j->(q0+i)*pg<tp
def V8A(w:World)(S:Nat->Prop)(q r g:Nat)(v:Vm)(rs:List Int)(fr tp:Int)(e:Ending)(w':World):Prop:=
 AB (λb=>b=g\/S b) w w'/\∃(L:List Ob) (f t:Nat),EU v rs fr tp L/\fr=(f:Int)/\tp=(t:Int)/\e=.returned (.tuple #[iI ((f+sizes L:Nat):Int),iI 0]) ∧
  ∃v1 v2 j,GK v rs f t L v1 v2 j/\AD w' (plus S w) q (EX v v2 f (f+sizes L) j)/\AW w' r g (rs.map (toV L f))
section
variable{S:Nat->Prop}{q:Nat}{rs:List Int}
theorem JZL(hV:AD w S q v)(hn:v.n≠0)(hR:AW w r g rs)(hT:AO w)(htS:¬S 1)(hrS:¬S r)(hgS:¬S g)(fr tp room:Int)(hag:JL v.n fr tp room=true)(hin:∃L,EU v rs fr tp L)(hnd:∀(L:List Ob) (f:Nat),EU v rs fr tp L->fr=(f:Int)->BK v f ((f+sizes L:Nat):Int)=0):
  Calls prog 104 #[pP q,pP r,iI fr,iI tp,iI room] w (V8A w S q r g v rs fr tp):=by
 have HV:=hV.cut;have HR:=hR;have HT:=hT;have N:=(ψ htS (ψ hrS hgS));have Vo:=hT.lt;have hrl:=hR.lt;have hn2:=hV.ok.n2;have Yr:=hV.ok.page;have Vp:=hV.ok;have Xe:=((Gr.refl w).alloc (.cells #[.pointer (some ⟨q,0,none⟩)] 91));have Yn:=Rec.new w 91 [pP q];obtain⟨W0,Yc⟩:∃W0,W0=w.alloc (.cells #[.pointer (some ⟨q,0,none⟩)] 91):=⟨_,rfl⟩;have hsz0:W0.heap.size=w.heap.size+1:=by rw[Yc,γ]
 rw[show w.alloc (.cells ([.pointer (some ⟨q,0,none⟩)]:List Value).toArray 91)=W0 from Yc.symm]at Yn;rw[<-Yc]at Xe;have Vy:=Yn;have Uh:=(JGL (HV.gr Xe) hn (HR.gr Xe) fr tp room);obtain⟨ce,hce⟩:∃ce:Int,ce=if JL v.n fr tp room then 0 else 5:=⟨_,rfl⟩
 rw[<-hce]at Uh;have Md:=ι hce;have c0:=Yn.cc 0;have cl:=Yn.lt;have Vh:=hn;clear hV hR hT htS hrS hgS Yn hce hn;have hmf:∀(fn:Fn) (first cap:Array Value) (w:World),(Instr.makeFunc fn first cap).run prog w=.ok (.func fn first cap) w:=λ_ _ _ _=>rfl;refine(δ (n:=5)).1 ?_;refine callsIn_of_wp_marks func104 rfl trivial ?_ rfl;simp only[ntmps104,ζ0,ζu,ξc,Nat.reduceAdd,Nat.reduceSub,ζR,ζQ,ζ5,ζX,ζU,ζC];gi_upto_region 1 with(fail);rw[<-Yc];clear Yc;have Uc:=hnd;clear hnd;obtain⟨h1,h2,h3,h4,h5⟩:=SJ.1 hag;obtain rfl:ce=0:=by rw[Md.o,φ hag]
 obtain⟨f,rfl⟩:∃f:Nat,fr=f:=⟨fr.toNat,by omega⟩;obtain⟨t,rfl⟩:∃t:Nat,tp=t:=⟨tp.toNat,by omega⟩;obtain⟨k,rfl⟩:∃k:Nat,room=k:=⟨room.toNat,by omega⟩;have Vk:=(Jf0 (HV.gr Xe) Vh (HR.gr Xe) (Xe.tab Vo HT) (λh=>N.1 h.1) f t k Ω Ω Ω hin);clear hag hin
 gi_upto_region 5 with(first
  | (refine⟨trivial,?_⟩;gi_at_call 156;refine(δ.2 (Uh)).mono ?_;rintro e w1 ⟨rfl,rfl⟩)
  | (refine⟨trivial,?_⟩;gi_at_call 157;refine(δ.2 (Vk)).mono ?_;rintro e w1 ⟨Za,Yl,L,m,p1,b1,p2,b2,hI,rfl,hE,Jk,Zw,Zu,Zs,Zo⟩;(have Jj:=Za;have Vb:=Yl;have Ji:=(Vy.touch Za (λh=>by have:=h.2;omega));have Vr:=((HR.gr Xe).touch Za (λh=>N.2.1 h.1) (λh=>N.2.2 h.1));have y0:=Ji.cc 0;have yl:=Ji.lt;clear Za Yl)))
 have HI:=hI;have hw1:=Jj.size;have Jy:=(HT.touch' ((Xe.touch _).trans Jj) (λh=>N.1 h.1));have Vn:=(XWt hE Jy (f:=f) Ω);have HX:=hE;have Xy:=(ψ Jk (ψ Zw (ψ Zu (ψ Zs Zo))));clear hI hE Jk Zw Zu Zs Zo;gi_upto_region 8 with(refine⟨trivial,?_⟩;gi_at_call 158;refine(δ.2 (Vn)).mono ?_;rintro e w2 ⟨ff,B,rfl,Jw,hF⟩;have Uw:=ι Jw;have Ue:=ι hF;clear Jw hF);obtain⟨w3,Yf⟩:∃w3,w3=w2.alloc (.cells #[.pointer (some ⟨ff,0,none⟩)] 239):=⟨_,rfl⟩;have Yy:=Rec.new w2 239 [pP ff];obtain⟨fb,Yv⟩:∃fb,fb=w2.heap.size:=⟨_,rfl⟩;have Zp:Gr w2 w3:=by rw[Yf];exact(Gr.refl w2).alloc _
 have Uf:w3.heap.size=fb+1:=by rw[Yf,γ,Yv]
 rw[show w2.alloc (.cells ([.pointer (some ⟨ff,0,none⟩)]:List Value).toArray 239)=w3 from Yf.symm]at Yy;rw[<-Yv]at Yy⊢;rw[<-Yf];have hz2:=Uw.o.size;have Ut:Hid (w1.heap.size<=fb/\fb+1=w3.heap.size/\w2.heap.size=fb):=⟨by omega,Uf.symm,Yv.symm⟩;have Jv:=Yy;have Xh:=(Uw.o.trans Zp);have Zn:=Zp;have Ua:=(Ji.gr Xh);have Vs:=(Vb.gr Xh);have Um:=(λ(W:World) (g:Gr w3 W)=>NC (Ue.o.gr (Zn.trans g)));have Uq:Hid (∀j (hj:j<L.length),f+sizes (L.take j)<=L[j].1):=⟨λj hj=>SR HI.1.mkd.good (fr:=f) (λo ho=>by have:=HI.2 o ho;omega) hj⟩;clear Yf Yv Yy Zp y0 yl c0 cl
 have Vv:f+sizes L<=t:=by
  have hI:=HI;rcases ζJ L.length with h0|h0
  ·have:L=[]:=ζy h0;subst this;simp only[sizes];omega
  ·have hj:L.length-1<L.length:=Ω
   have e1:=Uq.o _ hj;have e2:=hI.2 _ (μ hj);have e3:=FD hj;rw[show L.length-1+1=L.length by omega,ξd]at e3;omega
 have Yq:=(λ(W:World) (g:Gr w3 W)=>YrC (Vs.gr g) f (f+sizes L) Ω Ω);obtain⟨nn,Zz⟩:∃nn,nn=sizes L:=⟨_,rfl⟩;have Yk:=ι Zz;obtain⟨E,hE⟩:∃E,E=BK v f ((f+nn:Nat):Int):=⟨_,rfl⟩;rw[<-Zz]at Yq Um Vv;rw[<-hE]at Yq;have HE:=ι hE;have Xo:((f+nn:Nat):Int)=(f:Int)+(nn:Int):=by push_cast;rfl
 rw[Xo]at Yq;have Zy:=ι Xo;clear Zz hE Xo;have p0:=Ua.cc 0;have Jt:=Jv.cc 0;obtain⟨Sx,I,HS⟩:=AA.start λW'=>W'.cell? ⟨w.heap.size,0,none⟩=some (pP q)/\W'.cell? ⟨fb,0,none⟩=some (pP ff);have x1:=AA.fact I λ_ h=>h.1;have x2:=AA.fact I λ_ h=>h.2;have G:=HS.o (w3.drew) (⟨p0,Jt⟩);have Xj:Inhabited (AA Sx):=⟨⟨_,G⟩⟩;clear I;refine GX Sx 6 [([0,1,2],3),([],4)] [5] G3 G ?_;refine EL ?_;gi_wp2_with((refine⟨trivial,?_⟩;gi_at_call 159;refine(δ.2 (Um _ (Gr.refl w3).drew)).mono ?_;rintro e w4 ⟨rfl,Ur⟩;have Xg:=ι ((Gr.refl w3).drew.trans Ur);have Ub:=ι (Ua.gr Xg.o);have Zl:=ι (Jv.gr Xg.o);clear Ur));refine⟨.inr (AA.of (HS.o _ (⟨Ub.o.cc 0,Zl.o.cc 0⟩))),?_⟩;refine EL ?_;gi_wp2_with((refine⟨trivial,?_⟩;gi_at_call 150;refine(δ.2 (Yq _ Xg.o)).mono ?_;rintro e w5 ⟨rfl,Ys,Ug⟩;have Yp:=ι Ys;have Jo:=ι Ug;have Uv:=ι (Ub.o.touch Ys (λh=>by have:=h.1.2;omega));have Zi:=ι (Zl.o.touch Ys (λh=>by have:=h.1.2;have:=Ut.o;omega));clear Ys Ug));refine⟨.inr (AA.of (HS.o _ (⟨Uv.o.cc 0,Zi.o.cc 0⟩))),?_⟩;refine GM ?_;clear x1 x2 G Xj;clear HS Sx;clear p0 Jt;have Vu:=ι ((Vr.gr (Xh.trans Xg.o)).touch Yp.o (λh=>N.2.1 h.1.1) (λh=>N.2.2 h.1.1));have Zk:Hid (AB S w w5):=⟨(((Xe.touch _).trans (Jj.mono (λi _ h=>h.1))).trans ((Xh.trans Xg.o).touch _)).trans (Yp.o.mono (λi _ h=>h.1.1))⟩;have Uy:E=0:=HE.o.trans (by rw[Yk.o];exact Uc L f HI rfl);subst Uy;obtain⟨v1,Yj,Yl⟩:=Jo.o;rw[<-Zy.o]at Yj;have hnd:=HE.o;rw[Yk.o]at Yj hnd;obtain⟨cx,-⟩:=YNw Vp HI Ω Ω Ω hnd.symm Yj;have Yx:=ι cx;have Uj:=ι Yj;have HND0:=ι hnd;obtain⟨S5,Jd⟩:∃S5,S5=AC (plus (AC (AC S w) W0) w4) w5:=⟨_,rfl⟩;have hz4:=Xg.o.size;have hz5:=Yp.o.size
 have Xc:Hid (∀b,S5 b->(S b/\b<w.heap.size\/w4.heap.size<=b)/\b<w5.heap.size):=⟨λb hb=>by
  rw[Jd]at hb
  exact⟨hb.1.imp (λh=>h.1) id,hb.2⟩⟩
 have Vi:Hid (AD w5 S5 q v1):=⟨by rw[Jd];exact Yl.cut⟩;have c13l:=HX.hm;have Jr:Ext w5 m p1 b1 p2 b2 v.n L:=(HX.gr (Xh.trans Xg.o)).touch Yp.o (λh=>by have:=h.1.2;have:=Xy.1;omega) (λh=>by have:=h.1.2;have:=Xy.2.1;omega) (λh=>by have:=h.1.2;have:=Xy.2.2.1;omega) (λh=>by have:=h.1.2;have:=Xy.2.2.2.1;omega) (λh=>by have:=h.1.2;have:=Xy.2.2.2.2;omega);have Vl:=ι Jr;have Zj:=ι (HT.touch' Zk.o N.1);have Jn:AB (λi=>i<w.heap.size\/w3.heap.size<=i) w2 w5:=((Zn.trans Xg.o).touch _).trans (Yp.o.mono (λi _ h=>.inl h.1.2));have Vq:=ι Jn;clear Yj hnd Yl cx Jd Jr Jn;gi_upto_region 11 with(fail);gi_wp2_with(refine⟨trivial,?_⟩;gi_at_call 160;refine(δ.2 (KJ (some ⟨m,0,none⟩))).mono ?_;rintro e w6 ⟨rfl,rfl⟩);obtain⟨W6,Ya⟩:∃W6,W6=w5.alloc (.cells #[.pointer (some ⟨m,0,none⟩)] 120):=⟨_,rfl⟩;have Xs:Gr w5 W6:=by rw[Ya];exact(Gr.refl w5).alloc _
 have hs6:W6.heap.size=w5.heap.size+1:=by rw[Ya,γ]
 have k6:W6.cell? ⟨w5.heap.size,0,none⟩=some (pP m):=by rw[Ya];exact(Boxed.new w5 120 (pP m)).cell
 rw[<-Ya];clear Ya;have hfz:=Ut.o;have Zg:Hid (∀W,AB (λi=>i<w.heap.size\/w3.heap.size<=i) W6 W->Fwd W w1.heap.size ff v.n B f L):=⟨λW tt=>Ue.o.touch ((Vq.o.trans (Xs.touch _)).trans tt) (λkk h1 h2 h=>by omega)⟩
 have Z:Hid (∀b,w.heap.size<=b->b<w4.heap.size->¬(S5 b\/W6.heap.size<=b)):=⟨λb h1 h2 h=>by
  rcases h with h|h
  ·have:=(Xc.o b h).1;omega
  ·omega⟩
 have Xi:Hid (∀b,¬S b->b<w.heap.size->¬(S5 b\/W6.heap.size<=b)):=⟨λb h1 h2 h=>by
  rcases h with h|h
  ·rcases(Xc.o b h).1 with h'|h'
   ·exact h1 h'.1
   ·omega
  ·omega⟩
 have Yz:Hid (∀b,S5 b\/W6.heap.size<=b->b<w.heap.size\/w3.heap.size<=b):=⟨λb h=>by
  rcases h with h|h
  ·have:=(Xc.o b h).1;omega
  ·omega⟩
 have hml:=HX.hm;have hp1l:=HX.v1.hp;have hb1l:=HX.v1.hb;have hp2l:=HX.v2.hp;have hb2l:=HX.v2.hb;obtain⟨Jk,Zw,Zu,Zs,Zo⟩:=Xy;have Zq:=ι (Uv.o.gr Xs);have Yb:=ι (Zi.o.gr Xs);have Mb:=ι (Vu.o.gr Xs);have Ul:=Zj.o.lt;have Yu:=ι Xs;have Ma:=ι k6;clear k6 Xs
 have tI:∀(j:Nat) A B',(AB (λi=>S5 i\/W6.heap.size<=i) W6 A/\j<=L.length/\∃Xb,AD A S5 q Xb/\Pkd v1 Xb L f (sizes (L.take j)))->AB (λi=>W6.heap.size<=i/\i<W6.heap.size+2+4) A B'->(AB (λi=>S5 i\/W6.heap.size<=i) W6 B'/\j<=L.length/\∃Xb,AD B' S5 q Xb/\Pkd v1 Xb L f (sizes (L.take j))):=λj A B' h tt=>by
  obtain⟨h1,h2,Xb,h3,h4⟩:=h;exact⟨h1.trans (tt.mono (λi _ h=>.inr h.1)),h2,Xb,h3.touch tt (λi hi _ h=>by have:=(Xc.o i hi).2;omega),h4⟩
 refine L3 (K:=4) (s0:=0) rfl Ω (gf:=213) (lb:=#[pP w5.heap.size]) rfl trivial (enters_of func213 (by kernel_rfl) rfl)
  (PC _ w5.heap.size m p1 b1 p2 b2 v.n L _) (λ_=>rfl)
  (λ(j:Nat) A=>AB (λi=>S5 i\/W6.heap.size<=i) W6 A/\j<=L.length/\∃Xb,AD A S5 q Xb/\Pkd v1 Xb L f (sizes (L.take j))) (λ_ _=>False) tI (λ_ _ _ h _=>h)
  (λj A h=>⟨(Vl.o.gr Yu.o).touch h.1 (Z.o _ Ω Ω) (Z.o _ Ω Ω) (Z.o _ Ω Ω) (Z.o _ Ω Ω) (Z.o _ Ω Ω),(Yu.o.tab Ul Zj.o).touch' h.1 (Xi.o _ N.1 Ω),(h.1.cell Ω (λh=>by
   rcases h with h|h
   ·have:=(Xc.o _ h).2;omega
   ·omega) 0).trans Ma.o,h.2.1⟩)
  ⟨AB.refl _ _,ζf _,v1,Vi.o.gr Yu.o,by simpa[sizes]using Pkd.zero Yx.o.ok L f⟩ ?round ?done (λ_ _ _ _ h _=>h.elim)
 case round=>
  intro lp j x W7 hsz7 Ja Xn;dsimp only[GO];gi_wp2;refine⟨Gr.refl _,λW8 Xm hI8=>?_⟩
  have Zb:j<L.length:=by
   rcases υ j L.length with h|h
   ·exact h
   ·unfold ER at Xn;rw[ζN h]at Xn;cases Xn
  obtain rfl:x=L[j]:=by unfold ER at Xn;rw[η Zb]at Xn;exact(Option.some.inj Xn).symm
  obtain⟨Yi,-,vx,Jq,Jp⟩:=hI8;have c5:=(Zq.o.touch Yi (Z.o _ Ω Ω)).cell (j:=0) rfl;have Jg:=(Yb.o.touch Yi (Z.o _ Ω Ω)).cell (j:=0) rfl;have Vw:=ι (Q2p Jq (λW tt=>Zg.o W ((Yi.mono (λi _ h=>Yz.o i h)).trans (tt.mono (λi _ h=>Yz.o i (.inl h.1))))) Yx.o Zb Jp);have Xv:=ι Yi;have Vt:=ι (FD Zb);clear Ja Xn Xm Yi Jq Jp;gi_wp2_with(refine⟨trivial,?_⟩;gi_at_call 161;refine(CallsIn.inRound lp (δ.2 (Vw.o))).mono ?_;rintro e w7 ⟨rfl,Uk,v7,Va,Ve⟩);refine⟨Uk.mono (λi _ h=>.inl (by have:=(Xc.o i h.1).2;omega)),j+1,rfl,Xv.o.trans (Uk.mono (λi _ h=>.inl h.1)),Zb,v7,Va.mono (λb h=>h.1),?_⟩;rw[Vt.o];exact Ve
 case done=>
  rintro D j W7 hD rfl Ja hK;obtain⟨Xd,-,v2,Up,Zt⟩:=Ja;rw[ξd]at Zt;have c5:=(Zq.o.touch Xd (Z.o _ Ω Ω)).cell (j:=0) rfl;have Jg:=(Yb.o.touch Xd (Z.o _ Ω Ω)).cell (j:=0) rfl;have Xk:∀W,AB (λi=>i<w.heap.size\/w3.heap.size<=i) W7 W->Fwd W w1.heap.size ff v.n B f L:=λW tt=>Zg.o W ((Xd.mono (λi _ h=>Yz.o i h)).trans tt);have Ux:=ι (ZKw (λW tt=>Xk W (tt.mono (λi _ h=>.inl Ω))) Jg Ω (Mb.o.touch Xd (Xi.o r N.2.1 Ω) (Xi.o g N.2.2 Ω)) (Vco Yx.o));have Vc:=ι (Zq.o.touch Xd (Z.o _ Ω Ω));have Jx:=ι (Yb.o.touch Xd (Z.o _ Ω Ω));have Un:=ι Xk;have Uz:=ι Xd;have Vf:=ι Up;have Ui:=ι Zt;have HK:=ι hK;have HD:=ι hD;have hz7:=Xd.size;clear c5 Jg Xk Xd Up Zt hK hD;gi_upto_region 16 with(refine⟨trivial,?_⟩;gi_at_call 151;refine(δ.2 (Ux.o)).mono ?_;rintro e w8 ⟨rfl,Xm,Jz⟩;have Xv:=ι Xm;have Vj:=ι Jz;have Jh:=ι (Vc.o.touch Xm (λh=>by omega));have Js:=ι (Jx.o.touch Xm (λh=>by omega));have hz8:=Xm.size;clear Xm Jz);have Ud:Hid (∀W,AB (λi=>i<w.heap.size\/w3.heap.size<=i) w8 W->Fwd W w1.heap.size ff v.n B f L):=⟨λW tt=>Un.o W ((Xv.o.mono (λi _ h=>.inl Ω)).trans tt)⟩;have Yh:¬S5 g:=λh=>Xi.o g N.2.2 Ω (.inl h);have Uu:=ι (Vf.o.touch Xv.o (λb hb _ h=>Yh (h▸hb)));have Us:=ι Yh;clear Yh;have Xw:Hid (D=W6.heap.size/\D<W7.heap.size/\D≠g/\¬S5 D):=⟨HD.o,(ζs.1 HK.o).1,by rw[HD.o];omega,λh=>by rw[HD.o]at h;have:=(Xc.o _ h).2;omega⟩;have Vd:Hid (w8.heap[D]?=some (.deferred (some []))):=⟨(Xv.o.block D Xw.o.2.1 Xw.o.2.2.1).trans HK.o⟩;have Yd:v2.pl.pg=v.pl.pg:=Ui.o.sm.pg.trans Uj.o.pg;have Jc:=ι (λ(W:World) (g':Gr w8 W)=>I0 (Uu.o.gr g'));rw[Yd]at Jc;obtain⟨pg,Xq⟩:∃pg,pg=v.pl.pg:=⟨_,rfl⟩;have Yg:=ι Xq;rw[<-Xq]at Jc Yr;have Mc:Hid (v2.pl.pg=pg):=⟨by rw[Yd,Xq]⟩;obtain⟨q0,Yo⟩:∃q0,q0=f/pg:=⟨_,rfl⟩;have Ze:q0*pg<=f:=by rw[Yo];exact ζn f pg
  have Jl:=ι Yo;have g1:((f:Int).tdiv (pg:Int))=(q0:Int):=by rw[Yo];rfl
  have g2:((f:Int)/(pg:Int))=(q0:Int):=by rw[Yo];rfl
  have hpg0:(pg:Int)≠0:=Ω
  have hq0n:q0<=524288:=by have:=ζ8 f pg;omega
  have Vg:=ι Ze;obtain⟨qs,Zv⟩:∃qs,qs=JB (f+nn) pg:=⟨_,rfl⟩;have Zr:=ι Zv
  have Zh:q0<=qs:=by
   rcases υ qs q0 with h|h
   ·exfalso;have h1:=(M8 (nt:=f+nn) (q:=qs) Yr.1).2 (by rw[Zv];exact ϑ _);have h2:(qs+1)*pg<=q0*pg:=ζm _ Ω;rw[ξl,ξM]at h2;omega
   ·exact h
  have HQL:=ι Zh;have hft2:f+nn<=1048576:=Ω
  have Uo:Hid (UmP w8 w8 S5 q r g v2 (rs.map (toV L f)) qs q0 0 pg t):=⟨AB.refl _ _,⟨S5,λb h=>.inl h,by rw[show q0+0-qs=0 by omega];exact Uu.o⟩,Vj.o,λi hi=>absurd hi (ζA _)⟩;have u5:=Jh.o.cc 0;have Yw:=Jh.o.lt;clear Xq Yo Yd Ze Zv Zh;gi_wp2_with(refine⟨trivial,?_⟩;gi_at_call 154;refine(δ.2 (Jc.o _ (Gr.refl w8))).mono ?_;rintro e w9 ⟨rfl,rfl⟩);clear u5 Yw
  gi_loopw [20] (λs20 wx=>∃j:Nat,Hid (UmP w8 wx S5 q r g v2 (rs.map (toV L f)) qs q0 j pg t)/\s20=iI ((q0+j:Nat):Int)) (λs20 _=>t-(intOf s20).toNat*pg)
  case atStart=>exact⟨0,Uo,rfl⟩
  case round=>
   clear Uo;obtain⟨j,HU,rfl⟩:=hrel;obtain⟨Sj,Jm,Jb⟩:=HU.o.vm;have Zx:=λ(W:World) (g':Gr wr W)=>I0 (Jb.gr g');rw[(L7 v2 qs _).2.1,Mc.o]at Zx;have Xf:=ι Zx;have Jf:=ι Jb;have Xl:=ι Jm;have Xu:=ι (Jh.o.touch HU.o.t (λh=>Z.o _ (ϑ _) Ω (.inl h)));have Xp:=ι (Js.o.touch HU.o.t (λh=>Z.o fb Ω Ω (.inl h)));have Xr:=ι (λ(W:World) (g':Gr wr W)=>NC (Ud.o W ((HU.o.t.mono (λi _ h=>Yz.o i (.inl h))).trans (g'.touch _))));rw[<-Yk.o]at Xr;obtain⟨qq,Ye⟩:∃qq,qq=q0+j:=⟨_,rfl⟩;obtain⟨pp,Xz⟩:∃pp,pp=qq*pg:=⟨_,rfl⟩
   have hppb:pp<=1048576:=by
    rcases ζJ j with h0|h0
    ·rw[Xz,Ye,h0,ξk];have:=Vg.o;omega
    ·have:=HU.o.q1 (j-1) Ω;have e:pp=(q0+(j-1))*pg+pg:=by rw[Xz,Ye,show q0+j=(q0+(j-1))+1 by omega,ξl,ξM]
     omega
   have hqb:qq<=pp:=by rw[Xz];exact ξ6 _ Ω
   have hmul:((qq:Int)*(pg:Int))=(pp:Int):=by rw[Xz];push_cast;rfl
   have J:=ι (ψ Ye Xz);rw[<-Ye];clear Zx Jb Jm Ye Xz;have u5:=Xu.o.cc 0;have Yw:=Xu.o.lt;have u15:=Xp.o.cc 0;have Zd:=Xp.o.lt;by_cases Xt:pp<t
   ·have e1:decide ((pp:Int)<(t:Int))=true:=θ Ω;have e2:decide (pp<t)=true:=θ Xt;have Xx:=ι Xt;clear Xt;by_cases Yt:f+nn<=pp
    ·have e3:decide ((f:Int)+(nn:Int)<=(pp:Int))=true:=θ Ω;have Je:=ι Yt;clear Yt;gi_upto_region 19 with(refine⟨trivial,?_⟩;gi_at_call 154;refine(δ.2 (Xf.o _ (Gr.refl wr))).mono ?_;rintro e Xa ⟨rfl,rfl⟩);obtain⟨Sx,I,HS⟩:=AA.start λW'=>W'.cell? ⟨w.heap.size,0,none⟩=some (pP q)/\W'.cell? ⟨fb,0,none⟩=some (pP ff);have x1:=AA.fact I λ_ h=>h.1;have x2:=AA.fact I λ_ h=>h.2;have G:=HS.o (wr.drew) (⟨u5,u15⟩);have Xj:Inhabited (AA Sx):=⟨⟨_,G⟩⟩;clear I;refine GX Sx 7 [([0,1,4],2),([3],5)] [6] G3 G ?_;refine EL ?_;gi_wp2_with((refine⟨trivial,?_⟩;gi_at_call 154;refine(δ.2 (Xf.o _ (Gr.refl wr).drew)).mono ?_;rintro e Xa ⟨rfl,rfl⟩));refine⟨.inr (AA.of (HS.o _ (⟨u5,u15⟩))),?_⟩;refine EL ?_;gi_wp2_with((refine⟨trivial,?_⟩;gi_at_call 159;refine(δ.2 (Xr.o _ (Gr.refl wr).drew)).mono ?_;rintro e Xa ⟨rfl,V⟩;have Y:=ι ((Gr.refl wr).drew.trans V);have z5:=(Xu.o.gr Y.o).cell (j:=0) rfl;have Vz:=(Xu.o.gr Y.o).lt;have Ym:=(Xp.o.gr Y.o).cell (j:=0) rfl;clear V));refine⟨.inr (AA.of (HS.o _ (⟨z5,Ym⟩))),?_⟩;refine GM ?_;clear x1 x2 G Xj;clear HS Sx;clear u5 Yw u15 Zd Ym;gi_wp2_with(refine⟨trivial,?_⟩;gi_at_call 155;refine(δ.2 (NN (Jf.o.gr Y.o) (qq:Int))).mono ?_;rintro e w11 ⟨rfl,Zf,Zm⟩;have Zc:=ι Zf;have Ju:=ι Zm;clear Zf Zm);go_roundw
     case rel=>
      have hzx:=HU.o.t.size;have hzy:=Y.o.size;refine⟨j+1,⟨⟨?_,⟨plus Sj Xa,λb hb=>?_,?_⟩,?_,λi hi=>?_⟩⟩,?_⟩
      ·exact(HU.o.t.trans (Y.o.touch _)).trans' Zc.o (λb hb h=>(Xl.o b h).elim id (λh=>by omega))
      ·rcases hb with h|h
       ·exact Xl.o b h
       ·right;omega
      ·have h1:=Ju.o;have h2:=(M8 (nt:=f+nn) (q:=qq) Yr.1).1 (by rw[<-J.o.2];exact Je.o);rw[<-Zr.o]at h2;have e:q0+(j+1)-qs=(q0+j-qs)+1:=by have:=J.o.1;omega
       rw[e]
       show AD _ _ _ ((umN v2 qs (q0+j-qs)).um ((qs+(q0+j-qs):Nat):Int))
       rw[show qs+(q0+j-qs)=qq by have:=J.o.1;omega];exact h1
      ·refine(HU.o.rt.gr Y.o).touch Zc.o (λh=>?_) (λh=>?_)
       ·exact(Xl.o _ h).elim (λh=>Xi.o r N.2.1 Ω (.inl h)) (λh=>by omega)
       ·exact(Xl.o _ h).elim Us.o (λh=>by omega)
      ·rcases υ i j with h|h
       ·exact HU.o.q1 i h
       ·obtain rfl:i=j:=Ω
        rw[<-J.o.1,<-J.o.2];exact Xx.o
      ·rw[show q0+(j+1)=qq+1 by rw[J.o.1];omega]
       go_num
     case measure=>
      have h1:=Xx.o;have h2:=J.o.2;simp only[intOf];rw[show ((qq:Int)+1).toNat=qq+1 by omega,χ,ξl,ξM,<-h2];omega
    ·have e3:decide ((f:Int)+(nn:Int)<=(pp:Int))=false:=ζ Ω;have Je:=ι Yt;clear Yt;gi_upto_region 19 with(refine⟨trivial,?_⟩;gi_at_call 154;refine(δ.2 (Xf.o _ (Gr.refl wr))).mono ?_;rintro e Xa ⟨rfl,rfl⟩);obtain⟨Sx,I,HS⟩:=AA.start λW'=>W'.cell? ⟨w.heap.size,0,none⟩=some (pP q)/\W'.cell? ⟨fb,0,none⟩=some (pP ff);have x1:=AA.fact I λ_ h=>h.1;have x2:=AA.fact I λ_ h=>h.2;have G:=HS.o (wr.drew) (⟨u5,u15⟩);have Xj:Inhabited (AA Sx):=⟨⟨_,G⟩⟩;clear I;refine GX Sx 7 [([0,1,4],2),([3],5)] [6] G3 G ?_;refine EL ?_;gi_wp2_with((refine⟨trivial,?_⟩;gi_at_call 154;refine(δ.2 (Xf.o _ (Gr.refl wr).drew)).mono ?_;rintro e Xa ⟨rfl,rfl⟩));refine⟨.inr (AA.of (HS.o _ (⟨u5,u15⟩))),?_⟩;refine EL ?_;gi_wp2_with((refine⟨trivial,?_⟩;gi_at_call 159;refine(δ.2 (Xr.o _ (Gr.refl wr).drew)).mono ?_;rintro e Xa ⟨rfl,V⟩;have Y:=ι ((Gr.refl wr).drew.trans V);have z5:=(Xu.o.gr Y.o).cell (j:=0) rfl;have Vz:=(Xu.o.gr Y.o).lt;have Ym:=(Xp.o.gr Y.o).cell (j:=0) rfl;clear V));refine⟨.inr (AA.of (HS.o _ (⟨z5,Ym⟩))),?_⟩;refine GM ?_;clear x1 x2 G Xj;clear HS Sx;clear u5 Yw u15 Zd Ym;gi_wp2;go_roundw
     case rel=>
      refine⟨j+1,⟨⟨HU.o.t.trans (Y.o.touch _),⟨Sj,Xl.o,?_⟩,HU.o.rt.gr Y.o,λi hi=>?_⟩⟩,?_⟩
      ·have h1:=Jf.o.gr Y.o
       have h2:¬qs<=qq:=λh=>Je.o (by
        rw[J.o.2]
        exact(M8 Yr.1).2 (by rw[<-Zr.o];exact h))
       have e:q0+(j+1)-qs=q0+j-qs:=by have:=J.o.1;omega
       rw[e];exact h1
      ·rcases υ i j with h|h
       ·exact HU.o.q1 i h
       ·obtain rfl:i=j:=Ω
        rw[<-J.o.1,<-J.o.2];exact Xx.o
      ·rw[show q0+(j+1)=qq+1 by rw[J.o.1];omega]
       go_num
     case measure=>
      have h1:=Xx.o;have h2:=J.o.2;simp only[intOf];rw[show ((qq:Int)+1).toNat=qq+1 by omega,χ,ξl,ξM,<-h2];omega
   ·have e1:decide ((pp:Int)<(t:Int))=false:=ζ Ω;have e2:decide (pp<t)=false:=ζ Xt;have Xx:=ι Xt;clear Xt
    gi_wp2_with(first
     | (refine⟨trivial,?_⟩;gi_at_call 154;refine(δ.2 (Xf.o _ (Gr.refl wr))).mono ?_;rintro e Xa ⟨rfl,rfl⟩)
     | (refine⟨trivial,?_⟩;gi_at_call 159;refine(δ.2 (Xr.o _ (Gr.refl wr))).mono ?_;rintro e Xa ⟨rfl,V⟩;have Y:=ι V;clear V))
    have Vx:Xa.heap[D]?=some (.deferred (some [])):=by
     have h1:=HU.o.t.size;rw[Y.o.block (by have:=Xw.o.2.1;omega),HU.o.t.block D (by have:=Xw.o.2.1;omega) Xw.o.2.2.2];exact Vd.o
    refine⟨by simp,.inl ⟨_,_,rfl,run_takeDeferred Vx,?_⟩⟩;have tt:=DW Xa D (.deferred none);have hd:=Xw.o;have h8x:=HU.o.t.size;refine⟨.tuple #[iI ((f:Int)+(nn:Int)),iI 0],?_,?_,L,f,t,HI,rfl,rfl,?_,v1,v2,j,⟨Uj.o,Yx.o,Ui.o,?_,?_⟩,?_,?_⟩
    ·simp[results,f104,go_sem]
    ·have a1:=Zk.o.trans (Yu.o.touch S)
     have a2:=a1.trans' Uz.o (λb hb h=>by
      rcases h with h|h
      ·rcases(Xc.o b h).1 with h'|h'
       ·exact h'.1
       ·omega
      ·omega)
     have a3:=(a2.mono (T:=λb=>b=g\/S b) (λ_ _ h=>.inr h)).trans (Xv.o.mono (λi _ h=>.inl h))
     have a4:=a3.trans' HU.o.t (λb hb h=>by
      rcases(Xc.o b h).1 with h'|h'
      ·exact .inr h'.1
      ·omega)
     exact(a4.trans (Y.o.touch _)).trans' tt (λb hb h=>by omega)
    ·rw[<-Yk.o];push_cast;rfl
    ·intro i hi;rw[<-Yg.o,<-Jl.o];exact HU.o.q1 i hi
    ·rw[<-Yg.o,<-Jl.o,<-J.o.1,<-J.o.2];have:=Xx.o;omega
    ·unfold EX;rw[<-Yk.o,<-Yg.o,<-Zr.o,<-Jl.o];refine((Jf.o.gr Y.o).touch tt (λb hb _ h=>?_)).mono (λb hb=>?_)
     ·rcases Xl.o b hb with h'|h'
      ·exact hd.2.2.2 (h▸h')
      ·omega
     ·rcases Xl.o b hb with h'|h'
      ·exact(Xc.o b h').1.imp (λh=>h.1) (λh=>by omega)
      ·right;omega
    ·exact(HU.o.rt.gr Y.o).touch tt (λh=>by omega) (λh=>hd.2.2.1 h.symm)
end
end
section
variable{rs:List Int}
end
def us(l:List Nat):List Value:=l.map λx=>uU (x:Nat)
section
variable{rs:List Int}
end
theorem UW(h:AF v){t:Nat}(_ht:t<=v.n)(hE:BK v f t=0)(hG:BW v v1 (BY v f t))(ha:a<v.n):
  v1.ldE a=0↔v.ldE a=0\/(f<t/\f/v.pl.pg<=a/v.pl.pg/\a/v.pl.pg<=(t-1)/v.pl.pg):=by
 rw[hG.ldE h ha];rcases υ f t with Y|Y
 ·have hF:BY v f t=BZ v ((f:Int)/v.pl.pg).toNat (CW v f t):=by unfold BY;simp_all
  have e1:((f:Int)/(v.pl.pg:Int)).toNat=f/v.pl.pg:=by grind
  have e2:CW v f t=(t-1)/v.pl.pg+1-f/v.pl.pg:=by
   unfold CW
   grind
  have g0:f/v.pl.pg<=(t-1)/v.pl.pg:=ζc Ω;rw[hF];have hmem:a/v.pl.pg∈BZ v ((f:Int)/v.pl.pg).toNat (CW v f t)↔(f/v.pl.pg<=a/v.pl.pg/\a/v.pl.pg<f/v.pl.pg+((t-1)/v.pl.pg+1-f/v.pl.pg))/\v.pt.getD (a/v.pl.pg) 0=0:=by grind [PA]
  by_cases h0:v.pt.getD (a/v.pl.pg) 0=0
  ·grind
  ·have hl:v.ldE a=0:=by rw[h.ldE_of ha,ξ h0]
   omega
 ·have hF:BY v f t=[]:=by unfold BY;grind
  grind
section
variable{rs:List Int}{t:Nat}
theorem GK.base(d:GK v rs f t L v1 v2 j):(EX v v2 f (f+sizes L) j).n=v.n/\(EX v v2 f (f+sizes L) j).pl.pg=v.pl.pg/\(EX v v2 f (f+sizes L) j).pl.rm=v.pl.rm/\AF (EX v v2 f (f+sizes L) j)/\v2.n=v.n/\v2.pl.pg=v.pl.pg:=by
 obtain⟨e1,e2,e3,-⟩:=L7 v2 (JB (f+sizes L) v.pl.pg) (f/v.pl.pg+j-JB (f+sizes L) v.pl.pg);have n2:v2.n=v.n:=d.st.sm.n.trans d.gr.n;have p2:v2.pl.pg=v.pl.pg:=d.st.sm.pg.trans d.gr.pg;exact⟨e1.trans n2,e2.trans p2,e3.trans (d.st.sm.rm.trans d.gr.rm),QD d.st.ok _ _,n2,p2⟩
theorem GK.ldE(d:GK v rs f t L v1 v2 j)(h:AF v)(hE:BK v f ((f+sizes L:Nat):Int)=0)(hn:f+sizes L<=v.n)(ha:a<v.n):
  (EX v v2 f (f+sizes L) j).ldE a=0↔(v.ldE a=0\/(0<sizes L/\f/v.pl.pg<=a/v.pl.pg/\a/v.pl.pg<=(f+sizes L-1)/v.pl.pg))/\¬(JB (f+sizes L) v.pl.pg<=a/v.pl.pg/\a/v.pl.pg<f/v.pl.pg+j):=by
 obtain⟨-,-,-,-,n2,p2⟩:=d.base;have h1:=UW h hn hE d.gr ha;unfold EX;rw[WD d.st.ok _ _ Ω,p2,d.st.sm.ldE];omega
theorem GK.ldV(d:GK v rs f t L v1 v2 j)(ha:a<v.n)(hl:¬(JB (f+sizes L) v.pl.pg<=a/v.pl.pg/\a/v.pl.pg<f/v.pl.pg+j)):(EX v v2 f (f+sizes L) j).ldV a=v2.ldV a:=by
 obtain⟨-,-,-,-,n2,p2⟩:=d.base;exact VIn d.st.ok _ _ Ω (by grind)
theorem GK.word(d:GK v rs f t L v1 v2 j)(h:AF v)(hn:f+sizes L<=v.n)(hi:i<sizes L):(EX v v2 f (f+sizes L) j).ldV ((f+i:Nat):Int)=(IW v1 L f L).getD i 0:=by
 have hp:=h.page
 rw[d.ldV Ω (λhx=>by
  have h1:=(M8 (nt:=f+sizes L) (pg:=v.pl.pg) hp.1).2 hx.1;have:=ζn (f+i) v.pl.pg
  omega)]
 exact d.st.row i hi
end
theorem VRx{pg tp:Nat}(h1:∀i,i<j->(q0+i)*pg<tp)(h2:tp<=(q0+j)*pg)(q:Nat)(hq:q0<=q):q<q0+j↔q*pg<tp:=by
 constructor
 ·intro h;have:=h1 (q-q0) Ω
  simp_all
 ·intro h;rcases υ q (q0+j)with h'|h'
  ·exact h'
  ·exfalso;have:=ζm pg h';omega
theorem QZ(L:List Ob)(h:i<=j):sizes (L.take i)<=sizes (L.take j):=by
 induction j with
 | zero=>simp_all
 | succ j ih=>
  grind [υ,β,FD,ψt]
structure LI(u a:Vm)(rs:List Int)(L:List Ob)(f n:Nat):Prop where
 mks:BM u rs n L
 un:u.n=n
 ok:AF u
 f1:1<=f
 top:f+sizes L<=n
 n2:n<=524288
 ge:∀o∈L,f<=o.1
 ld:∀i,i<sizes L->a.ldE ((f+i:Nat):Int)=0
 wd:∀i,i<sizes L->a.ldV ((f+i:Nat):Int)=(IW u L f L).getD i 0
section
variable{a:Vm}{rs:List Int}{n:Nat}
theorem LI.to(h:LI u a rs L f n){b:Int}(hb:Hs L b):∃j,∃hj:j<L.length,(L[j].1:Int)=b/\toV L f b=((f+sizes (L.take j):Nat):Int):=by
 obtain⟨o,ho,he⟩:=hb;obtain⟨j,hj,rfl⟩:=ζo ho;refine⟨j,hj,he,?_⟩;have h1:=(h.mks.mkd.good.sz _ (μ hj)).1;have:=(SO h.mks.mkd.good (base:=f) hj (a:=b) Ω Ω).1;omega
theorem LI.zero(h:LI u a rs L f n):toV L f 0=0:=by
 have hn:¬A9 L 0<L.length:=λhx=>by
  have h1:=IN hx;have h2:=h.ge _ (μ hx);have:=h.f1;omega
 exact(O7 hn).1
theorem LI.word(h:LI u a rs L f n){m:Nat}(hj:j<L.length)(hm:m<L[j].2):a.ldE ((f+sizes (L.take j)+m:Nat):Int)=0/\a.ldV ((f+sizes (L.take j)+m:Nat):Int)=pkW u L f L[j].1 m:=by
 have h2:=JX hj;have e:f+sizes (L.take j)+m=f+(sizes (L.take j)+m):=Ω
 rw[e];exact⟨h.ld _ Ω,by rw[h.wd _ Ω,Ywe u L f L hj hm]⟩
end
theorem QDj{a:Vm}{rs:List Int}{n:Nat}(h:LI u a rs L f n):MX u a (Rch u rs) (toV L f) f (f+sizes L):=by
 have hM:=h.mks;have hn2:=h.n2;have Y:∀{j:Nat} (hj:j<L.length),u.osz ((L[j].1:Nat):Int)=(L[j].2:Nat):=λhj=>((hM.mkd.ats _ (μ hj)).2.2).symm;refine⟨h.zero,λb hb m hm=>?_,λb hb=>?_,λb b' hb hb'=>?_⟩
 ·obtain⟨j,hj,rfl,e⟩:=h.to (hM.all _ hb);rw[Y hj]at hm;obtain⟨x1,x2⟩:=h.word hj (m:=m) Ω;rw[e,show ((f+sizes (L.take j):Nat):Int)+(m:Int)=((f+sizes (L.take j)+m:Nat):Int)by omega];refine⟨x1,?_⟩;rw[x2,XQ u L f L[j].1 m rfl,show ((L[j].1:Nat):Int)+(m:Int)=((L[j].1+m:Nat):Int)by omega];by_cases hT:1<=m/\(m:Int)<=(u.rdH ((L[j].1:Nat):Int)).p
  ·rw[φ hT];by_cases h0:u.ldV ((L[j].1+m:Nat):Int)=0
   ·rw[ξ (λhh=>hh.2 h0),h0];exact h.zero.symm
   ·rw[φ ⟨hT,h0⟩];have:=X4 hM.mkd.good Ω f (u.ldV ((L[j].1+m:Nat):Int):Nat);omega
  ·rw[ξ hT,ξ (λhh=>hT hh.1)]
 ·obtain⟨j,hj,rfl,e⟩:=h.to (hM.all _ hb);have h1:=JX hj;rw[e,Y hj];omega
 ·obtain⟨j,hj,rfl,e⟩:=h.to (hM.all _ hb);obtain⟨i,hi,rfl,e'⟩:=h.to (hM.all _ hb');have s1:=FD hj;have s2:=FD hi;rw[e,e',Y hj,Y hi];rcases ζZ j i with hl|hl|hl
  ·have:=QZ L (show j+1<=i by omega);exact .inr (.inl Ω)
  ·subst hl;exact .inl rfl
  ·have:=QZ L (show i+1<=j by omega);exact .inr (.inr Ω)
structure ShA(base top:Nat)(v:Vm):Prop where
 ok:AF v
 al:base%v.pl.pg=0
 bt:base<=top/\top<=v.n
 pg:∀a:Nat,a<v.n->(v.ldE a=0↔base<=a/\a/v.pl.pg*v.pl.pg<top)
section
variable{base top:Nat}
theorem ShA.ld(h:ShA base top v)(h1:base<=a)(h2:a<top):v.ldE a=0:=(h.pg a (by have:=h.bt;omega)).2 ⟨h1,ξI (ζn _ _) h2⟩
theorem GQ(hg:1<=g)(hb:b%g=0):b<=p*g↔b/g<=p:=by
 have h1:=ζx b g;rw[hb,ξk,ζ3]at h1
 grind [Nat.le_of_mul_le_mul_right,ζm]
theorem ShA.map(h:ShA base top v)(hp:p<v.pt.length):v.pt.getD p 0≠0↔base/v.pl.pg<=p/\p*v.pl.pg<top:=by
 have Y:=h.ok.page.1
 have hn:p*v.pl.pg<v.n:=by
  have h1:=h.ok.np;have h2:=Nat.mul_lt_mul_of_pos_right hp (show 0<v.pl.pg by omega);omega
 have h1:=h.pg _ hn;have e:p*v.pl.pg/v.pl.pg=p:=ξH _ Ω;rw[h.ok.ldE_of hn,e,GQ Y h.al]at h1;omega
theorem SF{base top:Nat}(_:1<=g)(h1:base%g=0)(h2:W%g=0)(ht:top<=base+W)(hp:p*g<top):p<base/g+W/g:=by
 have e1:=ζx base g;have e2:=ζx W g;rw[h1,ξk,ζ3]at e1;rw[h2,ξk,ζ3]at e2;refine Nat.lt_of_mul_lt_mul_right (a:=g) ?_
 grind
theorem ShA.used(h:ShA base top v)(hW:W%v.pl.pg=0)(ht:top<=base+W):v.pl.used<=W/v.pl.pg:=by
 have Y:=h.ok.page.1;rw[h.ok.us];refine β (I2 (g:=λp=>decide (base/v.pl.pg<=p/\p<base/v.pl.pg+W/v.pl.pg)) λp hp hh=>?_) (β (SY _ _ _) (ψj (ξC ..)));rw[ξG,h.map hp]at hh;exact θ ⟨hh.1,SF Y h.al hW ht hh.2⟩
theorem ShA.need(h:ShA base top v){n:Nat}(hn:1<=n)(hW:W%v.pl.pg=0)(ht:top+n<=base+W)(hb:base+W<=v.n)(hrm:W/v.pl.pg<=v.pl.rm):BK v top ((top+n:Nat):Int)=0:=by
 have J:=h.ok.page.1;have V:=h.bt;obtain⟨p0,Y⟩:∃p0,p0=top/v.pl.pg:=⟨_,rfl⟩;obtain⟨p1,Z⟩:∃p1,p1=(top+n-1)/v.pl.pg:=⟨_,rfl⟩;have hp01:p0<=p1:=by rw[Y,Z];exact ζc Ω
 have hp1l:p1<v.pt.length:=by rw[Z];exact(h.ok.split (a:=top+n-1) Ω).1
 have eA:((top:Int)/(v.pl.pg:Int)).toNat=p0:=by
  rw[show (top:Int)/(v.pl.pg:Int)=((top/v.pl.pg:Nat):Int)from rfl,χ,Y]
 have eB:CW v top ((top+n:Nat):Int)=p1+1-p0:=by
  unfold CW;rw[show ((top+n:Nat):Int)-1=((top+n-1:Nat):Int)by omega,show ((top+n-1:Nat):Int)/(v.pl.pg:Int)=(((top+n-1)/v.pl.pg:Nat):Int)from rfl,show (top:Int)/(v.pl.pg:Int)=((top/v.pl.pg:Nat):Int)from rfl,<-Y,<-Z];omega
 unfold BK;rw[ξ Ω,ξ Ω,eA,eB,φ];rw[<-Y0i h.ok Ω];refine β (I2 (g:=λp=>decide (base/v.pl.pg<=p/\p<base/v.pl.pg+W/v.pl.pg)) λp hp hh=>?_) (β (SY _ _ _) (β (ψj (ξC ..)) hrm));rw[ζ9,ξG,ζg]at hh;refine θ ?_;rcases hh with hh|hh
 ·rw[h.map hp]at hh;exact⟨hh.1,SF J h.al hW Ω hh.2⟩
 ·have h1:base/v.pl.pg<=p0:=by rw[Y];exact ζc V.1
  refine⟨by omega,SF J h.al hW ht ?_⟩;have h2:=ζm v.pl.pg (show p<=p1 by omega);have h3:=ζn (top+n-1) v.pl.pg;rw[<-Z]at h3;omega
theorem ShA.alloc(h:ShA base top v){n:Nat}(hs255:p+f+k<=255)(hn:n=1+p+f+k)(h0:0<top)(hle:top+n<=v.n)(he:BK v top ((top+n:Nat):Int)=0)(hG:BW v v1 (BY v top ((top+n:Nat):Int))):
  GY v1 top ⟨p,f,k⟩=0/\ShA base (top+n) (mkVm v1 top ⟨p,f,k⟩)/\DY v1 (mkVm v1 top ⟨p,f,k⟩)/\(∀a:Nat,a<top->(mkVm v1 top ⟨p,f,k⟩).ldV a=v.ldV a)/\(mkVm v1 top ⟨p,f,k⟩).ldV top=CY p f k/\∀i:Nat,i<p+f+k->(mkVm v1 top ⟨p,f,k⟩).ldV ((top+1+i:Nat):Int)=0:=by
 have J:=h.ok.page.1;have Z:=h.bt
 have hl:∀a:Nat,a<v.n->(v1.ldE a=0↔base<=a/\a/v.pl.pg*v.pl.pg<top+n):=λa ha=>by
  rw[UW h.ok hle he hG ha,h.pg a ha];have q1:=ζn a v.pl.pg;have q2:=ζx a v.pl.pg;constructor
  ·rintro(⟨a1,a2⟩|⟨-,a1,a2⟩)
   ·exact⟨a1,by omega⟩
   ·have h1:base/v.pl.pg<=a/v.pl.pg:=β (ζc Z.1) a1;have h2:=(GQ J h.al).2 h1;have h3:=ζm v.pl.pg a2;have h4:=ζn (top+n-1) v.pl.pg;exact⟨by omega,by omega⟩
  ·rintro⟨a1,a2⟩;rcases υ (a/v.pl.pg*v.pl.pg) top with h1|h1
   ·exact .inl ⟨a1,h1⟩
   ·refine .inr ⟨by omega,?_,?_⟩
    ·exact ζc Ω
    ·rw[ξg Ω];omega
 obtain⟨m1,m2⟩:=YT (v:=v1) hG.ok (t:=top) (p:=p) (f:=f) (c:=k) h0 hs255 (λj hj=>by
  exact(hl _ Ω).2 ⟨by omega,by have:=ζn (top+j) v.pl.pg;omega⟩)
 have Y:DY v1 (mkVm v1 top ⟨p,f,k⟩):=(DY.refl hG.ok).mkVm _ _;refine⟨m1,⟨Y.ok,by rw[Y.sm.pg,hG.pg];exact h.al,⟨by omega,by rw[Y.sm.n,hG.n];exact hle⟩,λa ha=>?_⟩,Y,λa ha=>?_,?_,λi hi=>?_⟩
 ·rw[Y.sm.n,hG.n]at ha;rw[Y.sm.ldE,Y.sm.pg,hG.pg];exact hl a ha
 ·rw[m2,ξ Ω,ξ Ω];exact hG.ldV_all h.ok Ω
 ·rw[m2,φ rfl]
 grind
theorem HpA.shut(hO:BQ s v)(h:HpA top u s v)(hall:∀i,i<sizes s.L->s.is i=true):ShA s.cf.to top v/\∀a:Nat,s.cf.to<=a->a<top->v.ldE a=0/\v.ldV a=u.ldV a:=by
 obtain⟨h1,h2⟩:=h.done hO hall;have hs:=hO.st;have Y:=hO.mid.pg;have Z:=hs.pg.1;have hlm:=h.lm;refine⟨⟨hO.mid.ok,by rw[Y];exact hs.cf.at_,⟨by omega,by have:=hs.cf.ln;rw[hO.mid.n];omega⟩,λa ha=>?_⟩,h2⟩;rw[hO.mid.ok.ldE_of ha,Y];have h3:=h1 (a/s.pg) (by rw[<-Y];exact(hO.mid.ok.split ha).1);have q1:=ζn a s.pg;have q2:=ζx a s.pg;constructor
 ·intro hh;have J:v.pt.getD (a/s.pg) 0≠0:=λe=>by rw[φ e]at hh;cases hh
  obtain⟨b,b1,b2,b3⟩:=h3.1 J;have h4:s.cf.to/s.pg<=a/s.pg:=by rw[<-b3];exact ζc b1
  have h5:=(GQ Z hs.cf.at_).2 h4;have h6:=ζn b s.pg;rw[b3]at h6;exact⟨by omega,by omega⟩
 ·rintro⟨a1,a2⟩;have h4:s.cf.to<=a/s.pg*s.pg:=(GQ Z hs.cf.at_).2 (ζc a1);exact ξ (h3.2 ⟨a/s.pg*s.pg,h4,a2,ξH _ Ω⟩)
end
section
variable{base top:Nat}{g:Gph}{F:Nat->Nat}{c:Cf}{rs:List Int}
theorem Img.grown(h:Img v g F base top)(hv:AF v)(hG:∃E,BW v v1 E)(ht:top<=v.n):Img v1 g F base top:=by
 obtain⟨E,hG⟩:=hG;refine h.mem λa h1 h2 hl=>⟨?_,hG.ldV_all hv Ω⟩
 rw[hG.ldE hv Ω];omega
theorem Img.roots(h:Img v g F base top){T:Int->Int}{lo hi:Nat}(hm:MX v v' (Rch v (g.S.map λx=>(F x:Int))) T lo hi):(g.S.map λx=>(F x:Int)).map T=g.S.map λx=>(((T (F x)).toNat:Nat):Int):=by
 rw[List.map_map];refine ξO λx hx=>?_
 show T (F x)=_
 by_cases h0:x=0
 ·subst h0;rw[h.z];rw[show (((0:Nat):Int))=0 from rfl,hm.z];rfl
 ·have:=(hm.lo _ (h.rch_of (Gph.Rd.root hx h0))).1;omega
theorem ShA.needC(h:ShA base top v)(hW:W%v.pl.pg=0)(ht:top<=base+W){N:Nat}(hto:t0%v.pl.pg=0)(hN:N<=W)(hb:t0+N<=v.n)(hrm:2*(W/v.pl.pg)<=v.pl.rm):BK v t0 ((t0+N:Nat):Int)=0:=by
 have Z:=h.ok.page.1;rcases ζJ N with rfl|hN0
 ·unfold BK;omega
 obtain⟨p0,Y⟩:∃p0,p0=t0/v.pl.pg:=⟨_,rfl⟩;obtain⟨p1,J⟩:∃p1,p1=(t0+N-1)/v.pl.pg:=⟨_,rfl⟩;have hp01:p0<=p1:=by rw[Y,J];exact ζc Ω
 have eA:((t0:Int)/(v.pl.pg:Int)).toNat=p0:=by
  omega
 have eB:CW v t0 ((t0+N:Nat):Int)=p1+1-p0:=by
  unfold CW
  grind
 have hu:=h.used hW ht;have hl:=TE v p0 (p1+1-p0)
 have hp1W:p1<p0+W/v.pl.pg:=by
  rw[Y];refine SF Z hto hW (show t0+N<=t0+W by omega) ?_;have:=ζn (t0+N-1) v.pl.pg
  grind
 unfold BK
 grind
theorem ShA.copied(h:ShA c.fr c.tp v)(hcf:G9 v.pl.pg v.n c)(hfit:c.to+sizes L<=c.lm)(hE:BK v c.to ((c.to+sizes L:Nat):Int)=0){kq:Nat}(hD:UR v rs c L v1 v2 k kq):
  ShA c.to (c.to+sizes L) (umN v2 (c.fr/v.pl.pg) kq)/\(umN v2 (c.fr/v.pl.pg) kq).n=v.n/\(umN v2 (c.fr/v.pl.pg) kq).pl.pg=v.pl.pg/\(umN v2 (c.fr/v.pl.pg) kq).pl.rm=v.pl.rm/\∀a:Nat,c.to<=a->a<c.to+sizes L->¬(c.fr/v.pl.pg<=a/v.pl.pg/\a/v.pl.pg<c.fr/v.pl.pg+kq):=by
 have Y:=h.ok.page.1;have hln:=hcf.ln;have hlm:=hcf.lm;obtain⟨e1,e2,e3,-⟩:=L7 v2 (c.fr/v.pl.pg) kq;have n2:v2.n=v.n:=hD.st.cp.sm.n.trans hD.gr.n;have p2:v2.pl.pg=v.pl.pg:=hD.st.cp.sm.pg.trans hD.gr.pg;have hq:∀q,c.fr/v.pl.pg<=q->(q<c.fr/v.pl.pg+kq↔q*v.pl.pg<c.tp):=λq hq=>VRx hD.q1 hD.q2 q hq
 have Z:∀a:Nat,c.to<=a->a<c.lm->¬(c.fr/v.pl.pg<=a/v.pl.pg/\a/v.pl.pg<c.fr/v.pl.pg+kq):=λa a1 a2 hh=>by
  have h1:=(hq _ hh.1).1 hh.2;have h2:=(GQ Y hcf.af).2 hh.1;have h3:=ζn a v.pl.pg;have hu:=XSg (n:=c.tp) Y
  have hn:c.lm<=c.fr\/upN c.tp v.pl.pg<=c.to:=by
   have:=hcf.ap;omega
  rcases hn with e|e
  ·omega
  ·have h4:=(GQ (b:=c.to) Y hcf.at_).2 (ζc a1);omega
 refine⟨⟨QD hD.st.cp.ok _ _,?_,⟨ζS _ _,?_⟩,λa ha=>?_⟩,e1.trans n2,e2.trans p2,e3.trans (hD.st.cp.sm.rm.trans hD.gr.rm),λa a1 a2=>Z a a1 Ω⟩
 ·rw[e2,p2];exact hcf.at_
 ·omega
 ·rw[e1,n2]at ha;rw[e2,p2,WD hD.st.cp.ok _ _ (by rw[n2];exact ha),p2,hD.st.cp.sm.ldE];have h1:=UW h.ok Ω hE hD.gr ha;rw[h.pg a ha]at h1;have q1:=ζn a v.pl.pg;have q2:=ζx a v.pl.pg;by_cases hx:c.fr/v.pl.pg<=a/v.pl.pg/\a/v.pl.pg<c.fr/v.pl.pg+kq
  ·rw[φ hx];refine⟨(λhh=>by cases hh),λ⟨a1,a2⟩=>absurd hx ?_⟩;have h4:=(GQ (b:=c.to) Y hcf.at_).2 (ζc a1);have:=Z (a/v.pl.pg*v.pl.pg) h4 Ω;rw[ξH _ (show 0<v.pl.pg by omega)]at this;exact this
  ·rw[ξ hx,h1];constructor
   ·rintro(⟨a1,a2⟩|⟨a0,a1,a2⟩)
    ·have h2:c.fr/v.pl.pg<=a/v.pl.pg:=ζc a1;exact absurd ⟨h2,(hq _ h2).2 a2⟩ hx
    ·have h4:=(GQ (b:=c.to) Y hcf.at_).2 a1;have h5:=ζm v.pl.pg a2;have h6:=ζn (c.to+sizes L-1) v.pl.pg;exact⟨by omega,by omega⟩
   ·rintro⟨a1,a2⟩;refine .inr ⟨?_,ζc a1,?_⟩
    ·have h4:=(GQ (b:=c.to) Y hcf.at_).2 (ζc a1);omega
    ·rw[ξg Ω];omega
theorem ShA.packed(h:ShA base top v)(hfit:base+sizes L<=top)(hE:BK v base ((base+sizes L:Nat):Int)=0)(hD:GK v rs base top L v1 v2 j):
  ShA base (base+sizes L) (EX v v2 base (base+sizes L) j)/\(EX v v2 base (base+sizes L) j).n=v.n/\(EX v v2 base (base+sizes L) j).pl.pg=v.pl.pg/\(EX v v2 base (base+sizes L) j).pl.rm=v.pl.rm:=by
 have Y:=h.ok.page.1;have hbt:=h.bt;obtain⟨b1,b2,b3,b4,-,-⟩:=hD.base;refine⟨⟨b4,by rw[b2];exact h.al,⟨ζS _ _,by omega⟩,λa ha=>?_⟩,b1,b2,b3⟩;rw[b1]at ha;rw[b2,hD.ldE h.ok hE Ω ha,h.pg a ha];have q1:=ζn a v.pl.pg;have q2:=ζx a v.pl.pg;rw[<-M8 (nt:=base+sizes L) (pg:=v.pl.pg) (q:=a/v.pl.pg) Y];constructor
 ·rintro⟨h1|⟨a0,a1,a2⟩,h2⟩
  ·refine⟨h1.1,Nat.lt_of_not_le λh3=>h2 ⟨h3,(VRx hD.q1 hD.q2 _ (ζc h1.1)).2 h1.2⟩⟩
  ·have h4:=(GQ (b:=base) Y h.al).2 a1;have h5:=ζm v.pl.pg a2;have h6:=ζn (base+sizes L-1) v.pl.pg;omega
 omega
theorem YxV(hv:AF v)(hM:BM v rs v.n L)(hE:BK v base ((base+sizes L:Nat):Int)=0)(hn:base+sizes L<=v.n)(hD:GK v rs base top L v1 v2 j):MX v1 (EX v v2 base (base+sizes L) j) (Rch v1 rs) (toV L base) base (base+sizes L):=by
 have hw:=hD.gr.wider hv;have Y:=hv.page;refine QDj (n:=v.n) ⟨hw.marks hM,hD.gr.n,hD.gr.ok,hD.cx.fr1,hn,hv.n2,λo ho=>(hD.cx.inn o ho).1,λi hi=>?_,λi hi=>hD.word hv hn hi⟩;refine(hD.ldE hv hE hn Ω).2 ⟨.inr ⟨by omega,ζc Ω,ζc Ω⟩,λhx=>?_⟩;have h1:=(M8 (nt:=base+sizes L) (pg:=v.pl.pg) Y.1).2 hx.1;have:=ζn (base+i) v.pl.pg;omega
end
theorem XUb{gv:Vm}{rs:List Int}{c:Cf}{n:Nat}(hM:BM v rs n L)(hn:n<=524288)
  (hg:∀i,i<sizes L->gv.ldE ((c.to+i:Nat):Int)=0/\gv.ldV ((c.to+i:Nat):Int)=(AZ v c L).c i):MX v gv (Rch v rs) (toV L c.to) c.to (c.to+sizes L):=by
 have hG:=hM.mkd.good
 have Y:∀{j:Nat} (hj:j<L.length),0<L[j].1/\v.osz ((L[j].1:Nat):Int)=(L[j].2:Nat):=λhj=>by
  obtain⟨-,h2,h3⟩:=hM.mkd.ats _ (μ hj);have:=(DC h2).1;exact⟨by omega,h3.symm⟩
 have hz:toV L c.to 0=0:=by
  refine(O7 λhx=>?_).1;have h1:=IN hx;have h2:=(Y hx).1;omega
 have Z:∀a,Rch v rs a->∃(j:Nat) (hj:j<L.length),(L[j].1:Int)=a/\toV L c.to a=((c.to+sizes (L.take j):Nat):Int):=λa ha=>by
  obtain⟨o,ho,he⟩:=hM.all a ha;obtain⟨j,hj,rfl⟩:=ζo ho;have hs:=(hG.sz _ (μ hj)).1;have:=(SO hG (base:=(c.to:Int)) hj (a:=a) Ω Ω).1;exact⟨j,hj,he,by omega⟩
 refine⟨hz,λb hb m hm=>?_,λb hb=>?_,λb b' hb hb'=>?_⟩
 ·obtain⟨j,hj,rfl,e⟩:=Z b hb;rw[(Y hj).2]at hm;have J:m<L[j].2:=Ω
  have hmid:=JX hj;obtain⟨x1,x2⟩:=hg (sizes (L.take j)+m) Ω;rw[e,show ((c.to+sizes (L.take j):Nat):Int)+(m:Int)=((c.to+(sizes (L.take j)+m):Nat):Int)by omega];refine⟨x1,?_⟩
  have hc:(AZ v c L).c (sizes (L.take j)+m)=cvH L c.to (v.rdH ((L[j].1:Nat):Int)) m (v.ldV ((L[j].1+m:Nat):Int)):=by
   show cvH L c.to (v.rdH ((L.getD (B7 L (sizes (L.take j)+m)) (0,0)).1:Nat)) (sizes (L.take j)+m-sizes (L.take (B7 L (sizes (L.take j)+m)))) (v.ldV (AH L (sizes (L.take j)+m):Nat))=_
   rw[VNq hj J,YZF hj J,ξC,ω,η hj];rfl
  rw[x2,hc,show ((L[j].1:Nat):Int)+(m:Int)=((L[j].1+m:Nat):Int)by omega];unfold cvH;by_cases hT:1<=m/\(m:Int)<=(v.rdH ((L[j].1:Nat):Int)).p
  ·rw[φ hT];by_cases h0:v.ldV ((L[j].1+m:Nat):Int)=0
   ·rw[ξ (λhh=>hh.2 h0),h0];exact hz.symm
   ·rw[φ ⟨hT,h0⟩];have:=X4 hG Ω c.to (v.ldV ((L[j].1+m:Nat):Int):Nat);omega
  ·rw[ξ hT,ξ (λhh=>hT hh.1)]
 ·obtain⟨j,hj,rfl,e⟩:=Z b hb;have h1:=JX hj;rw[e,(Y hj).2];omega
 ·obtain⟨j,hj,rfl,e⟩:=Z b hb;obtain⟨i,hi,rfl,e'⟩:=Z b' hb';have s1:=FD hj;have s2:=FD hi;rw[e,e',(Y hj).2,(Y hi).2];rcases ζZ j i with hl|hl|hl
  ·have:=QZ L (show j+1<=i by omega);exact .inr (.inl Ω)
  ·subst hl;exact .inl rfl
  ·have:=QZ L (show i+1<=j by omega);exact .inr (.inr Ω)
def rnL(q base top lim:Nat):List Value:=[pP q,iI base,iI top,iI lim]
abbrev E9(w:World)(rn q base top lim:Nat):Prop:=Rec w rn 188 (rnL q base top lim)
section
variable{S:Nat->Prop}{q rn base top lim:Nat}
theorem YN8(hV:AD w S q v)(hn:v.n≠0)(h1:base<=lim)(h2:lim<=v.n):Calls prog 44 #[pP q,iI base,iI lim] w λe w'=>∃rn,e=.returned (.tuple #[pP rn,iI 0])/\Gr w w'/\w.heap.size<=rn/\E9 w' rn q base base lim:=by
 have HW:=(I8 hV);have hn2:=hV.ok.n2;have d0:((v.n:Int)==0)=false:=by simp;omega
 have d1:decide ((base:Int)<0)=false:=ζ Ω;have d2:decide ((lim:Int)<(base:Int))=false:=ζ Ω;have d3:decide ((v.n:Int)<(lim:Int))=false:=ζ Ω;have HR:=(Rec.new w 188 (rnL q base base lim));go_enter func44,ntmps44;go_wp2_with(go_at_call 67;refine AK (HW) ?_);go_ret2;exact⟨w.heap.size,rfl,(Gr.refl w).alloc _,ϑ _,HR⟩
theorem P8(h:E9 w rn q base top lim):cQ 164 #[pP rn] w (.bool false):=by
 have c0:=h.cc 0;go_enter func164,ntmps164;go_wp2;go_ret
 simp_all
theorem PZ(h:E9 w rn q base top lim):cQ 105 #[pP rn] w (iI base):=by
 have HN:=(P8 h);have c0:=h.cc 1;go_enter func105,ntmps105;go_wp2_with(go_at_call 164;refine AK (HN) ?_);go_ret
 simp_all
theorem V2(h:E9 w rn q base top lim):cQ 106 #[pP rn] w (iI top):=by
 have HN:=(P8 h);have c0:=h.cc 2;go_enter func106,ntmps106;go_wp2_with(go_at_call 164;refine AK (HN) ?_);go_ret
 simp_all
theorem YS(h:E9 w rn q base top lim){t:Nat}(h1:base<=t)(h2:t<=lim):Calls prog 107 #[pP rn,iI t] w λe w'=>e=.returned (iI 0)/\AB (λk=>k=rn) w w'/\E9 w' rn q base t lim:=by
 have HN:=(P8 h);have c1:=h.cc 1;have c2:=h.cc 2;have c3:=h.cc 3;have cf:=h.free 2;have cl:=h.lt;have HS:=(h.set 2 (iI t));have HT:Hid (AB (λk=>k=rn) w (w.setCell ⟨rn,2,none⟩ (.int .i64 t))):=⟨(AB.refl (λk=>k=rn) w).setCell (a:=⟨rn,2,none⟩) (λ_=>rfl) _⟩;have d1:decide ((t:Int)<(base:Int))=false:=ζ Ω;have d2:decide ((lim:Int)<(t:Int))=false:=ζ Ω;go_enter func107,ntmps107;go_wp2_with(go_at_call 164;refine AK (HN) ?_);go_ret;exact⟨rfl,HT.o,HS⟩
def VhE(w:World)(S:Nat->Prop)(q rn base top lim n:Nat)(v:Vm)(e:Ending)(w':World):Prop:=
 (lim<top+n/\e=.returned (.tuple #[iI 0,iI 21])/\Gr w w') ∨
 (top+n<=lim/\e=.returned (.tuple #[iI top,iI 0])/\AB (λk=>k=rn\/S k) w w'/\I9 w' (plus S w) q v (BY v top ((top+n:Nat):Int))/\E9 w' rn q base (top+n) lim)
theorem Xej(h:E9 w rn q base top lim)(hV:AD w S q v)(hS:¬S rn){n:Nat}(hn:1<=n)(htl:top<=lim)(hlv:lim<=v.n)(hE:top+n<=lim->BK v top ((top+n:Nat):Int)=0):Calls prog 136 #[pP rn,iI n] w (VhE w S q rn base top lim n v):=by
 have HN:=(P8 h);have hn2:=hV.ok.n2;have c0:=h.cc 0;have c2:=h.cc 2;have c3:=h.cc 3;have cl:=h.lt;have d0:decide ((n:Int)<1)=false:=ζ Ω;rcases υ lim (top+n)with D|I
 ·have d1:decide ((lim:Int)-(top:Int)<(n:Int))=true:=θ Ω;go_enter func136,ntmps136;go_upto_region 5 with(go_at_call 164;refine AK (HN) ?_);go_quiet (fail);go_wp2;go_ret2;exact .inl ⟨D,rfl,(Gr.refl w).drewN _⟩
 ·have d1:decide ((lim:Int)-(top:Int)<(n:Int))=false:=ζ Ω;have Z:=(λ(W:World) (g:Gr w W)=>RD (hV.gr g) top (top+n) Ω Ω);rw[hE I]at Z;have HR:=h;have E:=hS;have e1:(((top+n:Nat)):Int)=(top:Int)+n:=Ω
  rw[e1]at Z;go_enter func136,ntmps136;go_upto_region 5 with(go_at_call 164;refine AK (HN) ?_);go_quiet (fail);go_upto_region 7 with(fail);obtain⟨Sx,J,HS⟩:=AA.start λW'=>E9 W' rn q base top lim;have c0:=AA.fact J λ_ h=>h.cell (j:=0) rfl;have c2:=AA.fact J λ_ h=>h.cell (j:=2) rfl;have Y:=HS.o _ (HR.gr ((Gr.refl w).drewN nq).drew);have N:Inhabited (AA Sx):=⟨⟨_,Y⟩⟩;clear J;refine AI Sx 16 [([0,1,2,3,4,5,6,7,8,9,10,11,12,13],14)] [15] Y ?_;refine AE ?_;go_wp2_with((go_at_call 150;refine(Z _ ((Gr.refl w).drewN _)).mono ?_;rintro e w2 ⟨rfl,ht,hg⟩;have HG:=hg;have r2:=(HR.gr ((Gr.refl w).drewN (nq+1))).touch ht E;have k2:=r2.cc 2;have kf:=r2.free 2;have V:=r2));refine⟨.inr (AA.of (HS.o _ (V))),?_⟩;refine AL ?_;clear c0 c2 Y N;go_wp2;go_ret2;refine .inr ⟨I,rfl,?_,?_,?_⟩
  ·exact((((Gr.refl w).drewN _).touch _).trans (ht.mono (λ_ _ h=>.inr h))).setCell (a:=⟨rn,2,none⟩) (λ_=>.inl rfl) _
  ·obtain⟨v',h1,h2⟩:=HG;rw[e1];refine⟨v',h1,h2.touch ((AB.refl (λk=>k=rn) _).setCell (a:=⟨rn,2,none⟩) (λ_=>rfl) _) (λk hk _ e=>?_)⟩;have:=HR.lt;rcases hk with hk|hk
   ·exact E (e▸hk)
   ·have:w.heap.size<=k:=hk;omega
  ·have:=V.set 2 (iI ((top:Int)+n))
   show Rec _ rn _ (rnL q base (top+n) lim)
   unfold rnL at this⊢;rw[e1];exact this
end
def CJ(l l':List Bool):Prop:=l'.length=l.length/\∀i,at_ l i=true->at_ l' i=true
theorem CJ.refl(l:List Bool):CJ l l:=⟨rfl,λ_ h=>h⟩
theorem CJ.trans{a b c:List Bool}(h:CJ a b)(k:CJ b c):CJ a c:=⟨k.1.trans h.1,λi hi=>k.2 i (h.2 i hi)⟩
theorem CJ.set(l:List Bool)(k:Nat):CJ l (l.set k true):=by
 refine⟨ζb ..,λi hi=>?_⟩;rcases υ k l.length with h|h
 ·rw[F9 h]
  simp_all
 grind [List.set_eq_of_length_le]
theorem CJ.step(l:List Bool):CJ l (CX l):=by
 unfold CX
 split
 ·exact CJ.set _ _
 ·exact CJ.refl _
theorem CJ.run(A k n:Nat)(l:List Bool):CJ l (GV A k n l):=by
 induction n generalizing l with
 | zero=>exact CJ.refl _
 | succ n ih=>
  unfold GV
  split
  ·exact(CJ.step l).trans (ih _)
  ·exact CJ.refl _
theorem CJ.touch(A k:Nat)(l:List Bool):CJ l (JF A k l):=by
 unfold JF
 split
 ·exact CJ.refl _
 ·exact(CJ.run A k k l).trans (CJ.set _ _)
theorem CJ.mvd(h:CJ l l'):CD l<=CD l':=by
 unfold CD;rw[h.1];exact I2 λi _ hi=>h.2 i hi
theorem Sl.tch_mono(s:Sl)(b:Int):CJ s.mv (s.tch b).mv:=by
 show CJ s.mv (if inF s.L s.cf.to b then JF s.cf.ah ((b-s.cf.to).toNat/s.cf.bk) s.mv else s.mv)
 split
 ·exact CJ.touch _ _ _
 ·exact CJ.refl _
theorem Sl.lf_mono(h:CJ s.mv s'.mv):s'.lf<=s.lf:=by
 have h1:=h.mvd;have h2:=h.1
 show s'.mv.length-CD s'.mv<=s.mv.length-CD s.mv
 omega
theorem QGs(hf:ftL l<l.length):CD (CX l)=CD l+1/\CD l+1<=l.length:=by
 have hz:at_ l (ftL l)=false:=by
  have h1:(!at_ l (ftL l))=true:=GL (λk=>!at_ l k) _ hf
  simp_all
 have h1:=JO hf hz;have h2:cnt (at_ (l.set (ftL l) true)) l.length<=l.length:=EJ _ _
 have h3:CD (CX l)=CD l+1:=by
  unfold CD CX
  simp_all
 refine⟨h3,?_⟩;unfold CD;omega
theorem Sl.lf_step(h:s.ft<s.mv.length):s.step.lf+1=s.lf:=by
 obtain⟨h1,h2⟩:=QGs (l:=s.mv) h
 show (CX s.mv).length-CD (CX s.mv)+1=s.mv.length-CD s.mv
 rw[R7,h1];omega
structure HCf where
 kd:Nat
 pg:Nat
 bk:Nat
 wd:Nat
 sl:Nat
 st:Nat
 ah:Nat
 tr:Nat
variable{c:HCf}
def HCf.q(c:HCf):Nat:=max 1 (c.bk/c.pg)
def HCf.spare(c:HCf):Nat:=(c.ah+2)*(c.q+3)
def HCf.fr(c:HCf):Nat:=if c.kd=1 then c.wd/c.pg+c.spare else if c.kd=2 then 2*(c.wd/c.pg)else c.wd/c.pg
def HCf.n(c:HCf):Nat:=if c.kd=3 then c.pg+c.wd else c.pg+c.wd+c.wd
structure HCf.Ok(c:HCf):Prop where
 kd:1<=c.kd/\c.kd<=3
 pg:EH c.pg=true
 bk:BL c.bk=true
 wd:16<=c.wd/\c.wd<=131072
 dv:c.wd%c.pg=0
 pw:c.pg<=c.wd
 sl:1<=c.sl/\c.sl<=64
 st:1<=c.st/\c.st<=4096
 ah:c.ah<=16
 fr:c.fr<=4096
def H9(c:HCf):List Value:=[iI c.kd,iI c.pg,iI c.bk,iI c.wd,iI c.sl,iI c.st,iI c.ah,.float .f64 c.tr]
def G4(c:HCf):Value:=.agg (H9 c).toArray
structure HAd where
 hp:Nat
 q:Nat
 r:Nat
 g:Nat
 rn:Nat
def hpL(c:HCf)(A:HAd)(cy:Option Nat)(cyc blk:Int):List Value:=
 [iI c.kd,iI c.pg,iI c.bk,iI c.wd,iI c.sl,iI c.st,iI c.ah,.float .f64 c.tr,
  pP A.q,pP A.r,pP A.rn,.pointer (cy.map λy=>⟨y,0,none⟩),iI cyc,iI blk]
structure CH(w:World)(X:Nat->Prop)(A:HAd)(c:HCf)(base top:Nat)(rs:List Int)(cy:Option Nat)(cyc blk:Int):Prop where
 row:Rec w A.hp 96 (hpL c A cy cyc blk)
 rn:E9 w A.rn A.q base top (base+c.wd)
 rt:AW w A.r A.g rs
 tab:AO w
 n1:A.hp≠A.r/\A.hp≠A.g/\A.hp≠A.rn/\A.hp≠1
 n2:A.r≠A.g/\A.r≠A.rn/\A.r≠1
 n3:A.g≠A.rn/\A.g≠1/\A.rn≠1
 x:¬X A.hp/\¬X A.r/\¬X A.g/\¬X A.rn/\¬X 1
section
variable{S:Nat->Prop}{A:HAd}{base top:Nat}{rs:List Int}
theorem CH.lt(h:CH w X A c base top rs cy cyc blk):A.hp<w.heap.size/\A.r<w.heap.size/\A.g<w.heap.size/\A.rn<w.heap.size/\1<w.heap.size:=⟨h.row.lt,h.rt.lt.1,h.rt.lt.2,h.rn.lt,h.tab.lt⟩
theorem CH.touch(h:CH w X A c base top rs cy cyc blk)(t:AB T w w')(hT:¬T A.hp/\¬T A.r/\¬T A.g/\¬T A.rn/\¬T 1):CH w' X A c base top rs cy cyc blk:=
 ⟨h.row.touch t hT.1,h.rn.touch t hT.2.2.2.1,h.rt.touch t hT.2.1 hT.2.2.1,t.tab h.tab.lt hT.2.2.2.2 h.tab,h.n1,h.n2,h.n3,h.x⟩
theorem CH.gr(h:CH w X A c base top rs cy cyc blk)(g:Gr w w'):CH w' X A c base top rs cy cyc blk:=h.touch (g.touch (λ_=>False)) ⟨id,id,id,id,id⟩
theorem CH.mem(h:CH w X A c base top rs cy cyc blk)(t:AB X w w'):CH w' (plus X w) A c base top rs cy cyc blk:=by
 obtain⟨l1,l2,l3,l4,l5⟩:=h.lt;obtain⟨x1,x2,x3,x4,x5⟩:=h.x;have k:=h.touch t h.x;exact⟨k.row,k.rn,k.rt,k.tab,k.n1,k.n2,k.n3,λe=>e.elim x1 (λe=>by omega),λe=>e.elim x2 (λe=>by omega),λe=>e.elim x3 (λe=>by omega),λe=>e.elim x4 (λe=>by omega),λe=>e.elim x5 (λe=>by omega)⟩
theorem CH.sub(h:CH w X A c base top rs cy cyc blk)(hx:∀k,k<w.heap.size->X' k->X k):CH w X' A c base top rs cy cyc blk:=by
 obtain⟨l1,l2,l3,l4,l5⟩:=h.lt;obtain⟨x1,x2,x3,x4,x5⟩:=h.x;exact⟨h.row,h.rn,h.rt,h.tab,h.n1,h.n2,h.n3,λe=>x1 (hx _ l1 e),λe=>x2 (hx _ l2 e),λe=>x3 (hx _ l3 e),λe=>x4 (hx _ l4 e),λe=>x5 (hx _ l5 e)⟩
theorem CH.root{rs':List Int}(h:CH w X A c base top rs cy cyc blk)(t:AB (λk=>k=A.g) w w')(hr:AW w' A.r A.g rs'):CH w' X A c base top rs' cy cyc blk:=
 ⟨h.row.touch t h.n1.2.1,h.rn.touch t (λe=>h.n3.1 e.symm),hr,t.tab h.tab.lt (λe=>h.n3.2.1 e.symm) h.tab,h.n1,h.n2,h.n3,h.x⟩
theorem CH.turn{top':Nat}(h:CH w X A c base top rs cy cyc blk)(t:AB (λk=>k=A.rn) w w')(hr:E9 w' A.rn A.q base top' (base+c.wd)):CH w' X A c base top' rs cy cyc blk:=
 ⟨h.row.touch t h.n1.2.2.1,hr,h.rt.touch t h.n2.2.1 h.n3.1,t.tab h.tab.lt (λe=>h.n3.2.2 e.symm) h.tab,h.n1,h.n2,h.n3,h.x⟩
end
structure HVm(c:HCf)(v:Vm):Prop where
 n:v.n=c.n
 pg:v.pl.pg=c.pg
 rm:v.pl.rm=c.fr
def C8(c:HCf)(fr tp t0:Nat):Cf:=⟨fr,tp,t0,t0+c.wd,c.bk,c.st,c.ah⟩
def HpB(rm top:Nat)(u:Vm)(s:Sl)(v:Vm):Prop:=HpA top u s v/\v.pl.rm=rm
theorem VA(rm top:Nat)(u:Vm):SlJ (HpB rm top u):=⟨λ_ _ _ hO hA hk _ _=>hA.1.need hO hk,λ_ _ _ _ hO hA hk hm hc hM=>⟨hA.1.step hO hk hm hc hM,hM.rm.trans hA.2⟩⟩
structure G2(w:World)(X:Nat->Prop)(A:HAd)(c:HCf)(base top:Nat)(u:Vm)(y:Nat)(z:CB)(s:Sl)(v:Vm)(R Sv:Nat->Prop):Prop where
 cy:Cyc w R y A.q z s
 vm:AD w Sv A.q v
 hv:HVm c v
 ok:BQ s v
 a:HpA top u s v
 x:∀k,R k\/Sv k->X k
 d:∀k,R k->¬Sv k
 tab:AO w
 t1:¬R 1
 t2:¬Sv 1
 bs:s.cf.to=base
 lm:s.cf.lm=base+c.wd
 bk:s.cf.bk=c.bk
 ah:s.cf.ah=c.ah
 kd:c.kd=1
def EV(w:World)(X:Nat->Prop)(A:HAd)(c:HCf)(base top:Nat)(u:Vm):Option Nat->Nat->Nat->Prop
 | none,lf,_=>AD w X A.q u/\HVm c u/\ShA base top u/\lf=0
 | some y,lf,nb=>∃z s v R Sv,G2 w X A c base top u y z s v R Sv/\s.lf=lf/\s.mv.length=nb
section
variable{A:HAd}{base top:Nat}
theorem EV.touch(h:EV w X A c base top u o lf nb)(t:AB T w w')(hT:∀k,k<w.heap.size->T k->¬X k/\k≠1)(hx:∀k,X k->X' k):EV w' X' A c base top u o lf nb:=by
 match o,h with
 | none,⟨h1,h2,h3,h4⟩=>exact⟨(h1.touch t (λk hk hl ht=>(hT k hl ht).1 hk)).mono hx,h2,h3,h4⟩
 | some y,⟨z,s,v,R,Sv,h,e1,e2⟩=>
  have hl:=h.cy.od.lt;exact⟨z,s,v,R,Sv,⟨h.cy.touch t (λk hk ht=>(hT k (hl k hk) ht).1 (h.x k (.inl hk))),h.vm.touch t (λk hk hl ht=>(hT k hl ht).1 (h.x k (.inr hk))),h.hv,h.ok,h.a,λk hk=>hx k (h.x k hk),h.d,t.tab h.tab.lt (λht=>(hT _ h.tab.lt ht).2 rfl) h.tab,h.t1,h.t2,h.bs,h.lm,h.bk,h.ah,h.kd⟩,e1,e2⟩
theorem EV.gr(h:EV w X A c base top u o lf nb)(g:Gr w w'):EV w' X A c base top u o lf nb:=h.touch (g.touch (λ_=>False)) (λ_ _ h=>h.elim) (λ_ h=>h)
theorem EV.cut(h:EV w X A c base top u o lf nb):EV w (AC X w) A c base top u o lf nb:=by
 match o,h with
 | none,⟨h1,h2,h3,h4⟩=>exact⟨h1.cut,h2,h3,h4⟩
 | some y,⟨z,s,v,R,Sv,h,e1,e2⟩=>
  exact⟨z,s,v,R,AC Sv w,⟨h.cy,h.vm.cut,h.hv,h.ok,h.a,λk hk=>hk.elim (λhk=>⟨h.x k (.inl hk),h.cy.od.lt k hk⟩) (λhk=>⟨h.x k (.inr hk.1),hk.2⟩),λk hk hk2=>h.d k hk hk2.1,h.tab,h.t1,λhk=>h.t2 hk.1,h.bs,h.lm,h.bk,h.ah,h.kd⟩,e1,e2⟩
theorem EV.ok(h:EV w X A c base top u o lf nb):AF u:=by
 match o,h with
 | none,⟨h1,_⟩=>exact h1.ok
 | some y,⟨z,s,v,R,Sv,h,e1,e2⟩=>exact h.a.ok
end
def tyH:Option Nat->TypeId
 | none=>91
 | some _=>94
def fnH(a b:FuncId):Option Nat->FuncId
 | none=>a
 | some _=>b
def ptH(q:Nat):Option Nat->Value
 | none=>pP q
 | some y=>pP y
def spH(A:HAd)(c:HCf)(base top:Nat)(o:Option Nat)(lf nb:Nat):Sp:=
 ⟨tyH o,ptH A.q o,fnH 216 312 o,λa=>∃n:Nat,a=n/\base<=n/\n<top,True,λk=>k=1,
  λu X w=>(∃l,l<=lf/\EV w X A c base top u o l nb)/\1<w.heap.size⟩
section
variable{A:HAd}{base top:Nat}
theorem G2.tch(h:G2 w X A c base top u y z s v R Sv){a:Int}(hf:JP w w' R Sv y A.q z (HpB c.fr top u) (s.tch a) v'):G2 w' (plus X w) A c base top u y z (s.tch a) v' R (plus Sv w):=by
 have hl:=h.cy.od.lt;have J:=h.tab.lt;have Z:=hf.ok;refine⟨hf.cy,hf.vm,⟨?_,?_,?_⟩,hf.ok,hf.j.1,λk hk=>?_,λk hk Y=>?_,hf.t.tab J (λhk=>hk.elim h.t1 h.t2) h.tab,h.t1,λhk=>hk.elim h.t2 (λhk=>by omega),h.bs,h.lm,h.bk,h.ah,h.kd⟩
 ·rw[Z.mid.n,<-h.hv.n,h.ok.mid.n];rfl
 ·rw[Z.mid.pg,<-h.hv.pg,h.ok.mid.pg];rfl
 ·exact hf.j.2
 ·rcases hk with hk|hk|hk
  ·exact .inl (h.x k (.inl hk))
  ·exact .inl (h.x k (.inr hk))
  ·exact .inr hk
 ·rcases Y with Y|Y
  ·exact h.d k hk Y
  grind
theorem ZDq(n:Nat)(a:Addr)(w:World):(method (n+1) 94 (.pointer (some a)) "Load").run prog w=.ok (312,.pointer (some a)) w:=by kernel_rfl
theorem XjE(n:Nat)(a:Addr)(w:World):(nilAhead (n+1) 94 (.pointer (some a)) "Load").run prog w=.ok (some false) w:=by kernel_rfl
theorem IU(A:HAd)(c:HCf)(base top:Nat)(o:Option Nat)(lf nb:Nat):(spH A c base top o lf nb).Ok:=by
 refine⟨λn w=>?_,λn w=>?_,λargs w=>?_,λw=>?_,λh=>?_,λ{u S S' T' w w'} h t hT hs=>?_,λ{u S w} h k hk=>?_,λ{u S w} h=>?_,λ{u S w} h a ha=>?_⟩
 ·cases o with
  | none=>exact XN n _ w
  | some y=>exact XjE n _ w
 ·cases o with
  | none=>exact VB n _ w
  | some y=>exact ZDq n _ w
 ·cases o with
  | none=>kernel_rfl
  | some y=>kernel_rfl
 ·cases o with
  | none=>kernel_rfl
  | some y=>kernel_rfl
 ·obtain⟨⟨l,-,hm⟩,-⟩:=h;exact hm.ok
 ·obtain⟨⟨l,hl,hm⟩,h2⟩:=h;exact⟨⟨l,hl,hm.touch t (λk hk ht=>hT k hk ht) hs⟩,κ h2 t.size⟩
 ·rw[show k=1 from hk];exact h.2
 ·obtain⟨⟨l,hl,hm⟩,h2⟩:=h;exact⟨⟨l,hl,hm.cut⟩,h2⟩
 ·obtain⟨⟨l,hl,hm⟩,h2⟩:=h;obtain⟨n,rfl,h3,h4⟩:=ha
  match o,hm with
  | none,⟨h5,h6,h7,h8⟩=>
   refine(JV h5 (n:Int)).mono ?_;rintro e w' ⟨rfl,g⟩;exact⟨rfl,g.touch _,⟨l,hl,(h5.gr g).mono (λ_ h=>.inl h),h6,h7,h8⟩,κ h2 g.size⟩
  | some y,⟨z,s,v,R,Sv,h,e1,e2⟩=>
   have hs:=h.ok.st;have hlm:=h.a.lm;have hln:=hs.cf.ln;have hn2:=hs.n2;refine(QeN (VA c.fr top u) h.cy h.ok ⟨h.a,h.hv.rm⟩ h.tab h.t2 h.t1 h.vm h.d (n:Int) Ω).mono ?_;rintro e w' ⟨v',rfl,hf⟩;have Y:s.cf.to<=n:=by rw[h.bs];exact h3
   obtain⟨d1,d2⟩:=hf.j.1.ld hf.ok (a:=n) Y h4 (λi hi e=>by rw[e];exact Sl.tch_is hs hi);have d3:=h.a.un n Ω;refine⟨by simp_all,hf.t.mono (λk _ hk=>⟨trivial,h.x k hk⟩),⟨(s.tch n).lf,?_,z,s.tch n,v',R,plus Sv w,h.tch hf,rfl,?_⟩,κ h2 hf.t.size⟩
   ·have:=Sl.lf_mono (Sl.tch_mono s (n:Int));omega
   ·rw[(Sl.tch_mono s (n:Int)).1];exact e2
end
structure HSt where
 A:HAd
 X:Nat->Prop
 base:Nat
 top:Nat
 u:Vm
 F:Nat->Nat
 o:Option Nat
 lf:Nat
 nb:Nat
 cyc:Int
 blk:Int
def HSt.rs(s:HSt)(g:Gph):List Int:=g.S.map λx=>(s.F x:Int)
def HSt.S(s:HSt)(k:Nat):Prop:=s.X k\/k=s.A.hp\/k=s.A.g\/k=s.A.r\/k=s.A.rn
structure HIn(w:World)(c:HCf)(g:Gph)(s:HSt):Prop where
 com:CH w s.X s.A c s.base s.top (s.rs g) s.o s.cyc s.blk
 mem:EV w s.X s.A c s.base s.top s.u s.o s.lf s.nb
 img:Img s.u g s.F s.base s.top
 gok:g.Ok
 cok:c.Ok
 bt:s.base<=s.top/\s.top<=s.base+c.wd
 bs:s.base=c.pg\/(s.base=c.pg+c.wd/\c.kd≠3)
 sl:g.S.length=c.sl
section
variable{g:Gph}{s:HSt}
theorem HIn.gr(h:HIn w c g s)(gr:Gr w w'):HIn w' c g s:=⟨h.com.gr gr,h.mem.gr gr,h.img,h.gok,h.cok,h.bt,h.bs,h.sl⟩
theorem HIn.touch(h:HIn w c g s)(t:AB T w w')(hT:∀k,k<w.heap.size->T k->¬s.S k/\k≠1):HIn w' c g s:=by
 obtain⟨l1,l2,l3,l4,l5⟩:=h.com.lt
 exact⟨h.com.touch t ⟨λe=>(hT _ l1 e).1 (.inr (.inl rfl)),λe=>(hT _ l2 e).1 (.inr (.inr (.inr (.inl rfl)))),λe=>(hT _ l3 e).1 (.inr (.inr (.inl rfl))),λe=>(hT _ l4 e).1 (.inr (.inr (.inr (.inr rfl)))),λe=>(hT _ l5 e).2 rfl⟩,
  h.mem.touch t (λk hk e=>⟨λhx=>(hT k hk e).1 (.inl hx),(hT k hk e).2⟩) (λ_ h=>h),h.img,h.gok,h.cok,h.bt,h.bs,h.sl⟩
theorem HIn.cell(h:HIn w c g s){x:Value}(hj:(hpL c s.A s.o s.cyc s.blk)[j]?=some x):w.cell? ⟨s.A.hp,j,none⟩=some x:=h.com.row.cell hj
theorem HIn.cc(h : HIn w c g s)(j : Nat){x:Value}(hj : (hpL c s.A s.o s.cyc s.blk)[j]?=some x := by exact rfl) : w.cell? ⟨s.A.hp,j,none⟩=some x := h.cell hj
theorem FJ(h:HIn w c g s):cQ 63 #[pP s.A.hp] w (.bool false):=by
 have c8:=h.cc 8;go_enter func63,ntmps63;go_wp2;go_ret
 simp_all
theorem Jvl(w:World):cQ 63 #[.pointer none] w (.bool true):=by
 go_enter func63,ntmps63;go_wp2;go_ret
 simp_all
def HSt.sp(s:HSt)(c:HCf):Sp:=spH s.A c s.base s.top s.o s.lf s.nb
theorem LU(h:HIn w c g s):Calls prog 94 #[pP s.A.hp] w λe w'=>e=.returned (s.sp c).v/\w=w':=by
 have c8:=h.cc 8;have c11:=h.cc 11;obtain⟨A,X,base,top,u,F,o,lf,nb,cyc,blk⟩:=s;cases o with
 | none=>
  go_enter func94,ntmps94;go_wp2;go_ret;exact⟨rfl,rfl⟩
 | some y=>
  go_enter func94,ntmps94;go_wp2;go_ret;exact⟨rfl,rfl⟩
structure HKp(s s':HSt):Prop where
 F:s'.F=s.F
 base:s'.base=s.base
 top:s'.top=s.top
theorem HKp.refl(s:HSt):HKp s s:=⟨rfl,rfl,rfl⟩
theorem HKp.trans{s1 s2 s3:HSt}(h:HKp s1 s2)(k:HKp s2 s3):HKp s1 s3:=⟨k.F.trans h.F,k.base.trans h.base,k.top.trans h.top⟩
structure XBF(w:World)(c:HCf)(g:Gph)(s s':HSt)(w':World):Prop where
 t:AB (λk=>k=s.A.hp) w w'
 i:HIn w' c g s'
 A:s'.A=s.A
 lf:s'.lf=s.lf
 o:s'.o=none↔s'.lf=0
 cyc:s'.cyc=if s.o≠none/\s.lf=0 then wrap64 (s.cyc+1)else s.cyc
 X:∀k,s'.X k->s.X k
 K:HKp s s'
theorem VM(h:HIn w c g s):Calls prog 65 #[pP s.A.hp] w λe w'=>e=.returned (.tuple #[])/\∃s',XBF w c g s s' w':=by
 have H:=h;have V:=h.cc 11;have cl:=h.com.row.lt;cases ho:s.o with
 | none=>
  rw[ho]at V;simp only[ψf]at V;have Xb:s.lf=0:=by have:=h.mem;rw[ho]at this;exact this.2.2.2
  have HO:=ho;have Xf:=Xb;clear h ho Xb;go_enter func65,ntmps65;go_wp2;refine ζz (ζl rfl _ _ _) rfl ?_;exact⟨rfl,s,AB.refl _ _,H,rfl,rfl,⟨λ_=>Xf,λ_=>HO⟩,by rw[ξ (λhh=>hh.1 HO)],λ_ h=>h,HKp.refl _⟩
 | some y=>
  rw[ho]at V;simp only[ξ3]at V;have hm:=h.mem;rw[ho]at hm;obtain⟨z,sl,v,R,Sv,Z,e1,e2⟩:=hm;have N:=(JiW Z.cy);have Xj:=Z;by_cases h0:sl.lf=0
  ·have J:=h.com.row;unfold hpL at J;rw[ho]at J;simp only[ξ3]at J;have Y:=J;have Xa:=(λ(W:World) (gg:Gr w W)=>QXi (Z.cy.gr gg));rw[θ h0]at N
   have Xe:sl.mv.length<=1048576:=by
    rw[Z.ok.st.len];have h1:=Z.ok.st.N_le;have h2:=Z.ok.st.n2;have h3:=Z.ok.st.bk.1
    have h4:nbl (sizes sl.L) sl.cf.bk<=sizes sl.L:=by
     refine ξW λh5=>?_;have h6:=(I3 h3).1 h5;have:=ξ6 (sizes sl.L) (show 0<sl.cf.bk by omega);omega
    omega
   obtain⟨m,G⟩:∃m,m=sl.mv.length:=⟨_,rfl⟩;rw[<-G]at Xa Xe;have HM:=ι G;have H0:=ι h0;have HE:=ι (ψ ho (ψ e1 e2));obtain⟨x,hx⟩:∃x,x=s.cyc:=⟨_,rfl⟩;obtain⟨b,E⟩:∃b,b=s.blk:=⟨_,rfl⟩;obtain⟨ap,hp⟩:∃ap,ap=s.A.hp:=⟨_,rfl⟩;rw[<-hx,<-E]at Y;rw[<-hp]at Y V cl;have Xh:=ι (ψ hx (ψ E hp));rw[<-hp];clear h h0 Z J ho e1 e2 hx E G hp;go_enter func65,ntmps65;go_upto_region 1 with(go_at_call 121;refine AK (N) ?_);clear V;have z0:=Y.free 13;have z1:=Y.cc 13;obtain⟨Sx,D,HS⟩:=AA.start λW'=>Gr w W';have Xi:=AA.fact D λ_ h=>(Y.gr h).cell (j:=11) rfl;have Xd:=AA.fact D λ_ h=>(Y.gr h).cell (j:=13) rfl;have I:=HS.o _ ((Gr.refl w).drew);have B:Inhabited (AA Sx):=⟨⟨_,I⟩⟩;clear D;refine AI Sx 12 [([0,1,2,3,4,5,6,7],8),([9,10,11],12)] [] I ?_;refine AE ?_;go_wp2_with((go_at_call 122;refine AK (Xa _ (Gr.refl w).drew) ?_));refine⟨.inr (AA.of (HS.o _ ((Gr.refl w).drew))),?_⟩;refine AE ?_;go_wp2;refine⟨.inl trivial,?_⟩;refine ET ?_;refine ζd ?_;refine ζI ?_;clear Xi Xd I B;clear HS Sx;have z2:=Y.cc 11;have z3:=Y.cc 12;have zf:=Y.free;go_wp2;refine ζz (ζl rfl _ _ _) rfl ?_;obtain⟨rfl,rfl,rfl⟩:=Xh.o;have HO:=Xj;have hI:=H;have Xg:=HO.ok.st;have hr:=Y
   obtain⟨S1,S2⟩:=HO.a.shut HO.ok (λi hi=>by
    have hf:¬sl.ft<sl.mv.length:=sl.lf_zero.1 H0.o;have hb:=Xg.blk hi;unfold Sl.is
    exact sl.ft_on Ω)
   rw[HO.bs]at S1 S2;refine⟨rfl,{s with u:=v,X:=Sv,o:=none,lf:=0,nb:=0,cyc:=wrap64 (s.cyc+1),blk:=wrap64 (s.blk+m)},?_,?_,rfl,?_,⟨λ_=>rfl,λ_=>rfl⟩,?_,λk hk=>HO.x k (.inr hk),⟨rfl,rfl,rfl⟩⟩
   ·exact((((AB.refl (λk=>k=s.A.hp) w).setCell (a:=⟨s.A.hp,13,none⟩) (λ_=>rfl) _).drew).setCell (a:=⟨s.A.hp,11,none⟩) (λ_=>rfl) _).setCell (a:=⟨s.A.hp,12,none⟩) (λ_=>rfl) _
   ·have t:AB (λk=>k=s.A.hp) w (((w.setCell ⟨s.A.hp,13,none⟩ (.int .i64 (wrap64 (s.blk+m)))).drew.setCell ⟨s.A.hp,11,none⟩ (.pointer none)).setCell ⟨s.A.hp,12,none⟩ (.int .i64 (wrap64 (s.cyc+1)))):=
     ((((AB.refl (λk=>k=s.A.hp) w).setCell (a:=⟨s.A.hp,13,none⟩) (λ_=>rfl) _).drew).setCell (a:=⟨s.A.hp,11,none⟩) (λ_=>rfl) _).setCell (a:=⟨s.A.hp,12,none⟩) (λ_=>rfl) _
    have hc:=hI.com;have hx:=hc.x;refine⟨⟨(((hr.set 13 (iI (wrap64 (s.blk+m)))).gr (Gr.refl _).drew).set 11 (.pointer none)).set 12 (iI (wrap64 (s.cyc+1))),hc.rn.touch t (λe=>hc.n1.2.2.1 e.symm),hc.rt.touch t (λe=>hc.n1.1 e.symm) (λe=>hc.n1.2.1 e.symm),t.tab hc.tab.lt (λe=>hc.n1.2.2.2 e.symm) hc.tab,hc.n1,hc.n2,hc.n3,λe=>hx.1 (HO.x _ (.inr e)),λe=>hx.2.1 (HO.x _ (.inr e)),λe=>hx.2.2.1 (HO.x _ (.inr e)),λe=>hx.2.2.2.1 (HO.x _ (.inr e)),HO.t2⟩,⟨HO.vm.touch t (λk hk _ e=>hx.1 (by subst e;exact HO.x _ (.inr hk))),HO.hv,S1,rfl⟩,?_,hI.gok,hI.cok,hI.bt,hI.bs,hI.sl⟩;exact hI.img.mem λa a1 a2 _=>S2 a a1 a2
   ·rw[<-HE.o.2.1,H0.o]
   ·rw[φ ⟨by rw[HE.o.1];simp,by rw[<-HE.o.2.1];exact H0.o⟩]
  ·have HL:=ι h0;have HE:=ι (ψ ho (ψ e1 e2));rw[ζ h0]at N;clear h h0 Z ho e1 e2;go_enter func65,ntmps65;go_wp2_with(go_at_call 121;refine AK (N) ?_);refine ζz (ζl rfl _ _ _) rfl ?_;have Xc:s.lf≠0:=by rw[<-HE.o.2.1];exact HL.o
   exact⟨rfl,s,AB.refl _ _,H,rfl,rfl,⟨(λe=>by rw[HE.o.1]at e;cases e),λe=>absurd e Xc⟩,by rw[ξ (λhh=>Xc hh.2)],λ_ h=>h,HKp.refl _⟩
def HCf.ot(c:HCf)(base:Nat):Nat:=2*c.pg+c.wd-base
theorem HIn.ot(h:HIn w c g s):(c.ot s.base=c.pg+c.wd/\s.base=c.pg)\/(c.ot s.base=c.pg/\s.base=c.pg+c.wd):=by
 unfold HCf.ot;rcases h.bs with e|⟨e,-⟩
 ·omega
 omega
theorem VrP(h:HIn w c g s):Calls prog 148 #[pP s.A.hp] w λe w'=>e=.returned (iI (c.ot s.base))/\Gr w w':=by
 have J:=h.ot;have hpw:=h.cok.pw;have hwd:=h.cok.wd;have HC:=(λ(W:World) (gg:Gr w W)=>(h.com.gr gg).row);have HB:=(λ(W:World) (gg:Gr w W)=>PZ (h.com.gr gg).rn);obtain⟨ap,hp⟩:∃ap,ap=s.A.hp:=⟨_,rfl⟩;rw[<-hp]at HC⊢;have hv:(2*(c.pg:Int)+c.wd-s.base)=(c.ot s.base:Nat):=Ω
 have HV:=ι hv;obtain⟨b,hb⟩:∃b,b=s.base:=⟨_,rfl⟩;rw[<-hb]at HB HV J⊢;clear h hp hv hb;go_enter func148,ntmps148;go_upto_region 1 with(fail);obtain⟨Sx,Y,HS⟩:=AA.start λW'=>Gr w W';have y1:=AA.fact Y λ_ h=>(HC _ h).cell (j:=1) rfl;have y3:=AA.fact Y λ_ h=>(HC _ h).cell (j:=3) rfl;have y10:=AA.fact Y λ_ h=>(HC _ h).cell (j:=10) rfl;have Z:=HS.o _ ((Gr.refl w).drew);have inst:Inhabited (AA Sx):=⟨⟨_,Z⟩⟩;clear Y;refine AI Sx 19 [([0,1,2,3,4,5,6,7,8,9,10,11,12,13,14,15],16)] [17,18] Z ?_;refine AE ?_;go_wp2_with((go_at_call 105;refine AK (HB _ (Gr.refl w).drew) ?_));refine⟨.inr (AA.of (HS.o _ ((Gr.refl w).drew))),?_⟩;refine AL ?_;go_wp2;go_ret;exact⟨AS HV.o,(Gr.refl w).drew⟩
theorem QHg(W:World)(b:Nat)(x0 x1 x2 x3 x4 x5 x6:Value)(h:Rec W b 171 [x0,x1,x2,x3,x4,x5,x6]):(loadVar 171 ⟨b,0,none⟩).run prog W=.ok (.agg #[x0,x1,x2,x3,x4,x5,x6]) W:=by
 have a1:(isAgg 171).run prog W=.ok true W:=by kernel_rfl
 have a2:(sizeOf 171).run prog W=.ok 7 W:=by kernel_rfl
 have c0:=h.cc 0;have c1:=h.cc 1;have c2:=h.cc 2;have c3:=h.cc 3;have c4:=h.cc 4;have c5:=h.cc 5;have c6:=h.cc 6;simp[loadVar,Sem.run_bind,a1,a2,Result.andThen,loadCells,go_sem,c0,c1,c2,c3,c4,c5,c6]
theorem VZS(h:HIn w c g s):Calls prog 101 #[pP s.A.hp] w λe w'=>e=.returned (cfV (C8 c s.base s.top (c.ot s.base)))/\Gr w w':=by
 have G:=h.ot;have hpw:=h.cok.pw;have hwd:=h.cok.wd;have N:=(Gr.refl w).alloc (.cells #[.int .i64 0,.int .i64 0,.int .i64 0,.int .i64 0,.int .i64 0,.int .i64 0,.int .i64 0] 171);have HO:=(VrP (h.gr N));have HC:=(λ(W:World) (gg:Gr w W)=>(h.com.gr gg).row);have HB:=(λ(W:World) (gg:Gr w W)=>PZ (h.com.gr gg).rn);have HT:=(λ(W:World) (gg:Gr w W)=>V2 (h.com.gr gg).rn);have HR:=(Rec.new w 171 [iI 0,iI 0,iI 0,iI 0,iI 0,iI 0,iI 0]);unfold cfV C8;dsimp only;obtain⟨ap,hp⟩:∃ap,ap=s.A.hp:=⟨_,rfl⟩;rw[<-hp]at HC HO⊢;obtain⟨d,hd⟩:∃d,d=c.ot s.base:=⟨_,rfl⟩;rw[<-hd]at HO G⊢;have HL:=h.com.row.lt;rw[<-hp]at HL;clear h hp hd;go_enter func101,ntmps101;go_upto_region 2 with(go_at_call 148;refine(HO).mono ?_;rintro e w1 ⟨rfl,V⟩;have E:=(N.trans V);have r1:=HR.gr V;clear V);have Z:Gr w w1.drew:=E.drew;have z0:=r1.cc 0;have z1:=r1.cc 1;have z2:=r1.cc 2;have z3:=r1.cc 3;have z4:=r1.cc 4;have z5:=r1.cc 5;have z6:=r1.cc 6;have zf:=r1.free;obtain⟨Sx,Y,HS⟩:=AA.start λW'=>Gr w W';have y2:=AA.fact Y λ_ h=>(HC _ h).cell (j:=2) rfl;have y3:=AA.fact Y λ_ h=>(HC _ h).cell (j:=3) rfl;have y5:=AA.fact Y λ_ h=>(HC _ h).cell (j:=5) rfl;have y6:=AA.fact Y λ_ h=>(HC _ h).cell (j:=6) rfl;have D:=AA.fact Y λ_ h=>(HC _ h).cell (j:=10) rfl;have J:=HS.o _ (Z);have I:Inhabited (AA Sx):=⟨⟨_,J⟩⟩;clear Y;refine AI Sx 34 [([0,1,2,3,5,6,7,8,10,11,12,13,14,15,16,17,18,19,20,21,22,23,24,25,26,27,28,29,30,31,32],4),([],9),([33],34)] [] J ?_;refine AE ?_;go_wp2_with((go_at_call 105;refine AK (HB _ Z) ?_));refine⟨.inr (AA.of (HS.o _ (Z))),?_⟩;refine AE ?_;go_wp2_with((go_at_call 106;refine AK (HT _ Z) ?_));refine⟨.inr (AA.of (HS.o _ (Z))),?_⟩;refine AE ?_;go_wp2;refine⟨.inl trivial,?_⟩;refine ET ?_;refine ζd ?_;refine ζI ?_;clear y2 y3 y5 y6 D J I;clear HS Sx;go_wp2;have R:=(((((((r1.set 0 (iI s.base)).set 1 (iI s.top)).set 2 (iI d)).set 3 (iI ((d:Int)+c.wd))).set 4 (iI c.bk)).set 5 (iI c.st)).set 6 (iI c.ah)).gr (Gr.refl _).drew;have hl:=QHg _ _ _ _ _ _ _ _ _ R;refine ζG (v:=.agg #[iI s.base,iI s.top,iI d,iI ((d:Int)+c.wd),iI c.bk,iI c.st,iI c.ah]) ?_ rfl ⟨rfl,?_⟩
 ·simp[results,results101,asAddr,hl]
 ·have t:AB (λk=>w.heap.size<=k) w w1:=E.touch _;exact(((((((t.setCell (a:=⟨w.heap.size,0,none⟩) (λ_=>ϑ _) _).setCell (a:=⟨w.heap.size,1,none⟩) (λ_=>ϑ _) _).setCell (a:=⟨w.heap.size,2,none⟩) (λ_=>ϑ _) _).setCell (a:=⟨w.heap.size,3,none⟩) (λ_=>ϑ _) _).setCell (a:=⟨w.heap.size,4,none⟩) (λ_=>ϑ _) _).setCell (a:=⟨w.heap.size,5,none⟩) (λ_=>ϑ _) _).setCell (a:=⟨w.heap.size,6,none⟩) (λ_=>ϑ _) _ |>.mono (λk hk h=>by omega)).gr.drew
end
section
variable{A:HAd}{b0 t:Nat}{rs:List Int}
theorem XQQ(h:CH w X A c b0 t0 rs cy cyc blk)(hV:AD w Sv A.q v)(h1:b<=t)(h2:t<=b+c.wd)(h3:b+c.wd<=v.n)(hn:v.n≠0)(hX:∀k,X k->k<w.heap.size):Calls prog 103 #[pP A.hp,iI b,iI t] w λe w'=>e=.returned (.tuple #[])/\∃rn,w.heap.size<=rn/\AB (λk=>k=A.hp) w w'/\CH w' X {A with rn:=rn} c b t rs cy cyc blk:=by
 have hn2:=hV.ok.n2;have D:=(λ(W:World) (g:Gr w W)=>YN8 (base:=b) (lim:=b+c.wd) (hV.gr g) hn (ζS _ _) h3);rw[show (((b+c.wd:Nat)):Int)=(b:Int)+c.wd by omega]at D;have HC:=(λ(W:World) (g:Gr w W)=>(h.gr g).row);have HX:=hX;have HB:=(ψ h1 h2);obtain⟨ap,J⟩:∃ap,ap=A.hp:=⟨_,rfl⟩;rw[<-J]at HC;have HA:=ι J;have Xc:=h.row.lt;rw[<-J]at Xc⊢;have hbw:b+c.wd<=524288:=Ω
 clear hV h1 h2 h3 hn hX J;go_enter func103,ntmps103;go_upto_region 0 with(fail);obtain⟨Sx,I,HS⟩:=AA.start λW'=>(∃r:Nat,Rec W' ap 96 (hpL c {A with rn:=r} cy cyc blk))
 have y3:∀p:AA Sx,p.w.cell? ⟨ap,3,none⟩=some (iI c.wd):=λp=>by have h:=AA.get I p;exact by obtain⟨r,h⟩:=h;exact h.cc 3
 have y8:∀p:AA Sx,p.w.cell? ⟨ap,8,none⟩=some (pP A.q):=λp=>by have h:=AA.get I p;exact by obtain⟨r,h⟩:=h;exact h.cc 8
 have E:=HS.o _ (⟨A.rn,HC _ (Gr.refl w).drew⟩);have inst:Inhabited (AA Sx):=⟨⟨_,E⟩⟩;clear I;refine AI Sx 20 [([0,1,2,3,4,5,6,7,8,9,10,11,12],13),([14,15,16,17,18],19)] [] E ?_;refine AE ?_;go_wp2_with((go_at_call 44;refine(D _ (Gr.refl w).drew).mono ?_;rintro e w1 ⟨rn,rfl,N,Xf,V⟩;have Y:=((Gr.refl w).drew.trans N);have B:=(ψ Xf V);have Xb:=(HC _ ((Gr.refl w).drew.trans N)).cell (j:=10) rfl;have zf:=(HC _ ((Gr.refl w).drew.trans N)).free 10));refine⟨.inr (AA.of (HS.o _ (⟨A.rn,HC _ Y⟩))),?_⟩;refine AE ?_;go_wp2_with(fail);refine⟨.inr (AA.of (HS.o _ (⟨rn,(HC _ Y).set 10 (pP rn)⟩))),?_⟩;refine AL ?_;have V:=B.2;have hrl:=B.1;have hsz:w.drew.heap.size=w.heap.size:=rfl;have Xd:rn≠ap:=Ω
 have tp:AB (λk=>k=ap) w1 (w1.setCell ⟨ap,10,none⟩ (.pointer (some ⟨rn,0,none⟩))):=(AB.refl (λk=>k=ap) w1).setCell (a:=⟨ap,10,none⟩) (λ_=>rfl) _;have Xh:=(YS (V.touch tp Xd) HB.1 HB.2);have G:=Rec.set (HC _ Y) 10 (pP rn);have Xg:=G;have Xb:=G.cc 10;go_wp2_with(go_at_call 107;refine(Xh).mono ?_;rintro e w3 ⟨rfl,Xa,Xe⟩;have Z:=Xa);refine ζz (ζl rfl _ _ _) rfl ?_;have hc:=h;obtain⟨l1,l2,l3,l4,l5⟩:=hc.lt;have eA:=HA.o;subst eA;have k:=hc.gr Y;refine⟨rfl,rn,by omega,((Y.touch (λk=>k=A.hp)).trans tp).trans' Z (λi hi e=>by omega),⟨?_,Xe,?_,?_,⟨hc.n1.1,hc.n1.2.1,by show A.hp≠rn;omega,hc.n1.2.2.2⟩,⟨hc.n2.1,by show A.r≠rn;omega,hc.n2.2.2⟩,⟨by show A.g≠rn;omega,hc.n3.2.1,by show rn≠_;omega⟩,⟨hc.x.1,hc.x.2.1,hc.x.2.2.1,λe=>by have:=HX _ e;show False;have:rn<w.heap.size:=this;omega,hc.x.2.2.2.2⟩⟩⟩
 ·exact(Xg.touch Z (by show A.hp≠rn;omega))
 ·exact(k.rt.touch tp (λe=>hc.n1.1 e.symm) (λe=>hc.n1.2.1 e.symm)).touch Z (by show A.r≠rn;omega) (by show A.g≠rn;omega)
 ·exact Z.tab (tp.tab k.tab.lt (λe=>hc.n1.2.2.2 e.symm) k.tab).lt (by show _≠rn;omega) (tp.tab k.tab.lt (λe=>hc.n1.2.2.2 e.symm) k.tab)
end
section
variable{g:Gph}{s:HSt}
theorem HSt.len(s:HSt)(g:Gph):(s.rs g).length=g.S.length:=ξ4 ..
theorem LR(s:HSt)(g:Gph)(i:Int):slE (s.rs g) i=if g.sl i then 0 else 17:=by
 unfold slE Gph.sl;rw[s.len]
 simp_all
theorem MV{g:Gph}{i:Int}(h:g.sl i=true):∃n:Nat,i=n/\n<g.S.length/\g.at i=g.S.getD n 0:=by
 unfold Gph.sl at h;rw[ζh,ζg,ζg]at h;exact⟨i.toNat,by omega,by omega,rfl⟩
theorem HSt.get(s:HSt)(g:Gph){n:Nat}(h:n<g.S.length):(s.rs g)[n]'(by rw[s.len];exact h)=(s.F (g.S.getD n 0):Int):=by
 unfold HSt.rs
 simp_all
def JV8(w:World)(g:Gph)(s:HSt)(l:List Int)(e:Ending)(w':World):Prop:=
 Gr w w'/\(((∀x∈l,g.sl x=true)/\∃v,e=.returned (.tuple #[v,iI 0])/\w'.ownsRow w.heap.size 3 1 v l.length (zs (l.map λx=>(s.F (g.at x):Int)))) ∨
  ((∃x∈l,g.sl x=false)/\e=.returned (.tuple #[.slice none 0 0,iI 17])))
theorem XEM(h:HIn w c g s){l:List Int}(hl:l.length<=2)(hc:∀j (hj:j<l.length),w.cell? ⟨b,j,none⟩=some (iI l[j]))(hb:b<w.heap.size):
  Calls prog 92 #[pP s.A.hp,.slice (some ⟨b,0,none⟩) l.length l.length] w (JV8 w g s l):=by
 have HN:=(FJ h);have E:=(λ(W:World) (gg:Gr w W)=>(h.com.gr gg).row)
 have HG:=(λ(W:World) (gg:Gr w W) (i:Int) (hi:g.sl i=true)=>(by
  obtain⟨n,rfl,h1,h2⟩:=MV hi;have:=ZS (h.com.gr gg).rt (i:=n) (by rw[s.len];exact h1);rw[s.get g h1,<-h2]at this
  exact this:Calls prog 75 #[pP s.A.r,iI i] W λe w'=>e=.returned (.tuple #[iI (s.F (g.at i)),iI 0])/\Gr W w'))
 have Xd:=(λ(W:World) (gg:Gr w W) (i:Int) (hi:g.sl i=false)=>VMw (h.com.gr gg).rt (i:=i) (by rw[LR,hi];decide));have Xg:=(λ(W:World) (gg:Gr w W) (j:Nat) (hj:j<l.length)=>(gg.cell hb j).trans (hc j hj));obtain⟨ap,D⟩:∃ap,ap=s.A.hp:=⟨_,rfl⟩;rw[<-D]at HN E⊢;have Xf:=h.com.row.lt;rw[<-D]at Xf;obtain⟨m,hm⟩:∃m,m=l.length:=⟨_,rfl⟩;rw[<-hm]at hl⊢;obtain⟨ii,Xc,Xb,Xi,Xe⟩:=info_parts PV;clear h hc D;go_enter func92,ntmps92;go_wp2_with(go_at_call 63;refine AK (HN) ?_)
 go_loopw [6,15] (λs6 s15 wr=>∃(j:Nat) (v:Value),j<=m/\s6=v/\s15=iI j/\Hid (Gr w wr)/\Hid (∀x∈l.take j,g.sl x=true)/\Hid (wr.ownsRow w.heap.size 3 1 v j (zs ((l.take j).map λx=>(s.F (g.at x):Int))))) (λ_ s15 _=>m-(intOf s15).toNat)
 case atStart=>exact⟨0,.slice none 0 0,by omega,rfl,rfl,⟨Gr.refl w⟩,⟨λx hx=>by simp at hx⟩,⟨GP _ _ _ _⟩⟩
 case round=>
  obtain⟨j,v6,hj,rfl,rfl,Z,G,HO⟩:=hrel;by_cases Y:j=m
  ·subst Y;go_wp2;go_ret2;refine⟨Z.o,.inl ⟨λx hx=>G.o x (by rw[hm,ξd];exact hx),_,rfl,?_⟩⟩;have:=HO.o;rw[hm,ξd]at this;exact this
  ·have N:j<l.length:=by have:=hm;omega
   have hjm:(j:Int)<(m:Int):=Ω
   have c0:=Xg _ Z.o j N;have r9:=(E _ Z.o).cell (j:=9) rfl;have pl:=(E _ Z.o).lt;obtain⟨x,hx⟩:∃x,x=l[j]:=⟨_,rfl⟩;rw[<-hx]at c0;have HX:Hid (x∈l/\l.take (j+1)=l.take j++[x]):=⟨by rw[hx];exact μ N,by rw[hx];exact ζ4 N⟩;have HJ:=(ψ hj Y);cases hsl:g.sl x with
   | true=>
    clear hx N Y;go_upto_region 10 with(go_at_call 75;refine(HG _ Z.o x hsl).mono ?_;rintro e w2 ⟨rfl,J⟩;have I:=(Z.o.trans J);have Xa:=(CL HO.o J);clear J);go_wp2_with(at_builtin;refine wpList_append_own _ rfl _ _ 70 rfl w.heap.size 3 ii (iI 0) 1 8 underlying70 Xc Xb Xi Xe rfl (by decide) u6 j (zs ((l.take j).map λx=>(s.F (g.at x):Int))) rfl (CL Xa ((Gr.refl _).alloc _)) ⟨w2.heap.size,0,none⟩ 1 1 [iI (s.F (g.at x))] rfl rfl (cell_one_new _ _ _) (by simp[Value.oneCell']) (by unfold maxLen;omega) Ω (by have:=I.size;simp;omega) ?_;intro v' w5 B V _;have Xh:Hid (Gr w w5):=⟨(((I.touch (λi=>w.heap.size<=i)).trans (((Gr.refl w2).alloc _).touch _)).trans' (DM V (λi=>w.heap.size<=i) (λi e _=>(BE Xa e).1)) (λ_ _ h=>h) |>.mono (λk hk h=>by omega)).gr⟩;clear V);go_round
    case rel=>
     refine⟨j+1,_,by have:=HJ;omega,rfl,by go_num,Xh,⟨λz hz=>?_⟩,⟨?_⟩⟩
     ·rw[HX.o.2]at hz;rcases ζe.1 hz with h1|h1
      ·exact G.o z h1
      ·rw[ζO.1 h1];exact hsl
     ·rw[HX.o.2,ζ1];have:=B;unfold zs at this⊢;rw[ζ1];exact this
    case measure=>have:=HJ;simp[intOf];omega
   | false=>
    clear hx N Y;go_wp2_with(go_at_call 75;refine(Xd _ Z.o x hsl).mono ?_;rintro e w2 ⟨rfl,J⟩;have I:=J;clear J);go_ret2;exact⟨Z.o.trans I,.inr ⟨⟨x,HX.o.1,hsl⟩,rfl⟩⟩
end
end Go.Proofs.YtbdimhlaaoadgaaGreatDoor
