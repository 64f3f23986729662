/- Part 10 of what ListPlays leans on: my own lemmas, merged by shake.py. -/
import Derived.Test.YteihjlcmjecmfaaGreatDoorListPlaysI
namespace Go.Proofs.YteihjlcmjecmfaaGreatDoor
open _root_.Go.Proofs.Tryz
set_option maxHeartbeats 12800000
set_option maxRecDepth 100000
open Go.RowKit Go.Shelf Word
section
variable {w:World} {R S:Nat->Prop} {y q:Nat} {z:B8} {s:Sl} {v:Vm} {A:Sl->Vm->Prop}
def ZAh(w:World)(R S:Nat->Prop)(y q:Nat)(z:B8)(A:Sl->Vm->Prop)(s:Sl)(a:Int)(e:Ending)(w':World):Prop:=
 ∃v',e=.returned (.tuple #[uU (v'.ldV a:Nat),iI (v'.ldE a)])/\JH w w' R S y q z A (s.tch a) v'
theorem JH.gr{w w1 w':World}{s':Sl}{v':Vm}(h:JH w w1 R S y q z A s' v')(g:Gr w1 w'):JH w w' R S y q z A s' v':=
 ⟨h.t.trans (g.touch _),h.cy.gr g,h.vm.gr g,h.ok,h.j⟩
theorem QeN(hJ:SlJ A)(hC:Cyc w R y q z s)(hO:BO s v)(hA:A s v)(hT:AP w)(htS:¬S 1)(htR:¬R 1)(hV:AD w S q v)(hdis:∀k,R k->¬S k)(a:Int)(ha:a<=9223372036854775807):
  Calls prog 261 #[pP y,iI a] w (ZAh w R S y q z A s a):=by
 have HT:=(Z3 hJ hC hO hA hT htS htR hV hdis a ha);go_enter func261,ntmps261;go_upto_region 4 with(go_at_call 263;refine(HT).mono ?_;rintro e w1 ⟨v',rfl,hf⟩;have c0:=hf.cy.rc.cc 0);have Z:=(JL hf.vm a);go_wp2_with(go_at_call 176;refine(Z).mono ?_;rintro e w2 ⟨rfl,Y⟩;have J:=Y);go_ret2;exact⟨v',by rfl,hf.gr J⟩
def JaS(w:World)(R S:Nat->Prop)(y q:Nat)(z:B8)(A:Sl->Vm->Prop)(s:Sl)(a:Int)(x:Nat)(e:Ending)(w':World):Prop:=
 ∃v',e=.returned (iI (v'.ldE a))/\AB (λb=>R b\/S b) w w'/\Cyc w' R y q z (s.tch a)/\AD w' (plus S w) q (v'.st a x)/\BO (s.tch a) v'/\A (s.tch a) v'
theorem ZaI(hJ:SlJ A)(hC:Cyc w R y q z s)(hO:BO s v)(hA:A s v)(hT:AP w)(htS:¬S 1)(htR:¬R 1)(hV:AD w S q v)(hdis:∀k,R k->¬S k)(a:Int)(ha:a<=9223372036854775807){x:Nat}(hx:x<18446744073709551616):
  Calls prog 262 #[pP y,iI a,uU x] w (JaS w R S y q z A s a x):=by
 have HT:=(Z3 (S:=AE S w) hJ hC hO hA hT (λh=>htS h.1) htR hV.cut (λk h h'=>hdis k h h'.1) a ha);have HR:=(ϑ hC.od.lt hdis);go_enter func262,ntmps262;go_upto_region 4 with(go_at_call 263;refine(HT).mono ?_;rintro e w1 ⟨v',rfl,hf⟩;have c0:=hf.cy.rc.cc 0);have Z:=(KP hf.vm.cut a hx);obtain⟨er,Y⟩:∃er,er=v'.ldE a:=⟨_,rfl⟩;rw[<-Y]at Z;have V:=ι Y;clear Y;go_wp2_with(go_at_call 177;refine(Z).mono ?_;rintro e w2 ⟨rfl,J,N⟩;have I:=N);go_ret;refine⟨v',by rw[V.o];rfl,(hf.t.mono (λb _ h=>h.imp id (λh=>h.1))).trans' J (λb hb h=>?_),hf.cy.touch J (λb hb h=>?_),I.mono (λb hb=>?_),hf.ok,hf.j⟩
 ·rcases h.1 with h|h
  ·exact .inr h.1
  ·omega
 ·have:=HR.1 b hb;rcases h.1 with h|h
  ·exact HR.2 b hb h.1
  ·omega
 ·rcases hb.1 with h|h
  ·exact .inl h.1
  ·exact .inr h
def Sl.pkV(s:Sl)(v:Vm)(a:Int):Nat:=if inF s.L s.cf.to a then s.c (a-s.cf.to).toNat else v.ldV a
def Sl.pkE(s:Sl)(v:Vm)(a:Int):Int:=if inF s.L s.cf.to a then 0 else v.ldE a
theorem XMX(hC:Cyc w R y q z s)(hO:BO s v)(hT:AP w)(hV:AD w S q v)(a:Int)(ha:a<=9223372036854775807):
  A4 prog 267 #[pP y,iI a] w (.tuple #[uU (s.pkV v a:Nat),iI (s.pkE v a)]):=by
 have N:=ι (ZAe hC.plan hT a ha);have Xa:=ι (λ(W:World) (g:Gr w W)=>JL (hV.gr g) a);have c8:=hC.rc.cc 8;have cl:=hC.rc.lt;have Xx:=ι (λ(W:World) (g:Gr w W)=>(hC.gr g).rc.cell (j:=0) rfl);have Xd:=ι (λ(W:World) (g:Gr w W)=>(hC.gr g).rc.lt);obtain⟨pv,D⟩:∃pv,pv=s.pkV v a:=⟨_,rfl⟩;obtain⟨pe,G⟩:∃pe,pe=s.pkE v a:=⟨_,rfl⟩;rw[<-D,<-G];cases hin:inF s.L s.cf.to a with
 | false=>
  have e1:v.ldV a=pv:=by rw[D];unfold Sl.pkV;rw[hin];rfl
  have e2:v.ldE a=pe:=by rw[G];unfold Sl.pkE;rw[hin];rfl
  rw[e1,e2]at Xa;rw[(L9 hin).2.2]at N;obtain⟨bv,Xp⟩:∃bv,bv=G0 s.L s.cf.to s.cf.bk a:=⟨_,rfl⟩;rw[<-Xp]at N;clear hC hO hT hV hin D G e1 e2 Xp;unfold A4;go_enter func267,ntmps267
  go_wp2_with(first
   | (go_at_call 264;refine(N.o).mono ?_;rintro e w1 ⟨rfl,Y⟩;have I:=ι Y;have y0:=Xx.o _ Y;have yl:=Xd.o _ Y;clear Y)
   | (go_at_call 176;refine(Xa.o _ I.o).mono ?_;rintro e w2 ⟨rfl,Xc⟩;have Xj:=ι (I.o.trans Xc);clear Xc))
  go_ret2;exact⟨rfl,Xj.o⟩
 | true=>
  have J:=hO.st;obtain⟨i,rfl⟩:∃i:Nat,a=((s.cf.to+i:Nat):Int):=⟨(a-s.cf.to).toNat,by have:=(FH.1 hin).1;omega⟩;have Z:i<sizes s.L:=by have:=(FH.1 hin).2;omega
  have e1:s.c i=pv:=by rw[D];unfold Sl.pkV;rw[hin,μ rfl,show (((s.cf.to+i:Nat):Int)-(s.cf.to:Int)).toNat=i by omega]
  have e2:(0:Int)=pe:=by rw[G];unfold Sl.pkE;rw[hin];rfl
  obtain⟨k,hk⟩:∃k,k=i/s.cf.bk:=⟨_,rfl⟩;have Xk:k<s.mv.length:=by rw[hk];exact J.blk Z
  have Xm:G0 s.L s.cf.to s.cf.bk ((s.cf.to+i:Nat):Int)=(k:Int):=by
   unfold G0;rw[hin,μ rfl,show ((s.cf.to+i:Nat):Int)-(s.cf.to:Int)=(i:Int)by omega,hk];rfl
  rw[Xm,(L3 Z).2]at N;have B:s.is i=at_ s.mv k:=by unfold Sl.is;rw[hk]
  have hkI:(k:Int)<(s.mv.length:Int):=Ω
  have HX:=ι (λ(W:World) (g:Gr w W)=>(hC.gr g).rc.cell (j:=10) rfl);have Xg:=ι (λ(W:World) (g:Gr w W)=>BM (hC.gr g).mv (J4 Xk));have Xw:=ι (λ(W:World) (g:Gr w W)=>(A9 (hC.gr g).mv rfl).2);cases hm:at_ s.mv k with
  | true=>
   rw[hm]at Xg B;obtain⟨d1,d2⟩:=hO.mid.dst i Z B;rw[d1,d2,e1]at Xa;obtain⟨a,Xb⟩:∃a:Int,a=((s.cf.to+i:Nat):Int):=⟨_,rfl⟩;rw[<-Xb]at N Xa⊢;subst e2;clear hC hO hT hV hin D G e1 hk Xk Xm B hm d1 d2 Xb J Z;unfold A4;go_enter func267,ntmps267
   go_wp2_with(first
    | (go_at_call 264;refine(N.o).mono ?_;rintro e w1 ⟨rfl,Y⟩;have I:=ι Y;have y0:=Xx.o _ Y;have yl:=Xd.o _ Y;have y4:=HX.o _ Y;have y5:=Xg.o _ Y;have y6:=Xw.o _ Y;clear Y)
    | (go_at_call 176;refine(Xa.o _ I.o).mono ?_;rintro e w2 ⟨rfl,Xc⟩;have Xj:=ι (I.o.trans Xc);clear Xc))
   go_ret2;exact⟨rfl,Xj.o⟩
  | false=>
   rw[hm]at Xg B;obtain⟨m1,m2,m3⟩:=hO.mid.src i Z (by show (!s.is i)=true;rw[B];rfl);obtain⟨j,hj,p',f',k',g1,g2,g3⟩:=Zm8 J Z rfl;obtain⟨o1,o2,o3⟩:=ZE J Z rfl g3;obtain⟨sa,Xi⟩:∃sa,sa=AH s.L i:=⟨_,rfl⟩;rw[<-Xi]at m1 m2 m3 g1 g3 o1;have hsl:sa<=1048576:=by have:=(J.srcs Z).2.2;have:=J.n2;omega
   obtain⟨st,V⟩:∃st,st=s.L[j].1:=⟨_,rfl⟩
   have hsts:st<=sa:=by
    obtain⟨j',hj',q1,q2,q3,q4,q5⟩:=g3;rw[V];omega
   have Xn:=ι (λ(W:World) (g:Gr w W)=>YN (f:=f') (k:=k') (hC.gr g) J (hV.gr g) (p:=p') o3 (a:=sa) (st:=st) (m:=sa-st) Ω Ω (λh=>m3 ⟨by rw[o1,<-V];exact h.1,by rw[o1,o2,<-V];show ((sa-st:Nat):Int)<=(p':Int);omega⟩))
   have Xh:cvH s.L s.cf.to ⟨p',f',k'⟩ (sa-st) (v.ldV (sa:Nat))=pv:=by
    rw[<-e1,<-m2];unfold Sl.cv;rw[o1,o2,V]
   rw[Xh]at Xn;have Xf:=ι (λ(W:World) (g:Gr w W)=>J9 (hC.gr g).ex (g.tab hT.lt hT) (sa:Int));rw[g1,NV hj]at Xf
   have Xl:=ι (λ(W:World) (g:Gr w W)=>by
    obtain⟨h1,h2,h3,f,c0,c1,hF⟩:=(hC.gr g).plan
    exact Exists.intro f (ϑ (RD c0) (λ(W':World) (g':Gr W W')=>M3 (hF.gr g') ((g.trans g').tab hT.lt hT) ((s.cf.to+i:Nat):Int) ha)))
   rw[(L3 Z).1,(L3 Z).2,<-Xi]at Xl;have Xe:=ι (λ(W:World) (g:Gr w W)=>ZI (hC.gr g).sh hj (by have:=(J.good.sz _ (χ hj)).2;have:=J.n2;omega));rw[g2]at Xe;rw[<-V]at Xe Xf;obtain⟨sz,Xt⟩:∃sz,sz=s.L[j].2:=⟨_,rfl⟩;rw[<-Xt]at Xf;unfold AJ at Xe Xn;have Xy:=ι (λ(W:World) (g:Gr w W)=>(hC.gr g).rc.cell (j:=9) rfl);have Ya:=ι (λ(W:World) (g:Gr w W)=>(hC.gr g).rc.cell (j:=8) rfl);have Xu:=ι (λ(W:World) (g:Gr w W)=>(hC.gr g).rc.cell (j:=15) rfl);obtain⟨a,Xb⟩:∃a:Int,a=((s.cf.to+i:Nat):Int):=⟨_,rfl⟩;rw[<-Xb]at N Xl⊢;subst e2;clear hC hO hT hV hin D G e1 hk Xk Xm B hm m1 m2 m3 g1 g2 g3 o1 o2 o3 Xi V Xh Xt Xb J Z hj;unfold A4;go_enter func267,ntmps267;go_upto_region 6 with(go_at_call 264;refine(N.o).mono ?_;rintro e w1 ⟨rfl,Y⟩;have I:=ι Y;have y4:=HX.o _ Y;have y5:=Xg.o _ Y;have y6:=Xw.o _ Y;have y8:=Ya.o _ Y;have yl:=Xd.o _ Y;clear Y);obtain⟨fp,Xv,Xr⟩:=Xl.o _ I.o;have Yb:=ι Xv;have Xq:=ι Xr;clear Xv Xr y4 y5 y6
   go_upto_region 7 with(first
    | (go_at_call 156;refine AT (Yb.o) ?_)
    | (go_at_call 232;refine(Xq.o _ (Gr.refl w1)).mono ?_;rintro e w3 ⟨rfl,Xs⟩;have E:=ι (I.o.trans Xs);clear Xs))
   have q9:=Xy.o _ E.o;have q15:=Xu.o _ E.o;have ql:=Xd.o _ E.o;have hlk:=Xe.o _ E.o;clear y8 yl c8 cl
   go_wp2_with(first
    | (go_at_call 189;refine AT (Xf.o _ E.o) ?_)
    | (go_at_call 216;refine(Xn.o _ E.o).mono ?_;rintro e w5 ⟨rfl,Xo⟩;have Xz:=ι (E.o.trans Xo);clear Xo))
   go_ret2;exact⟨rfl,Xz.o⟩
end
theorem BO.store{s:Sl}{v:Vm}(h:BO s v){i x:Nat}(hi:i<sizes s.L)(hm:s.is i=true)(hx:x<18446744073709551616):BO {s with c:=λj=>if j=i then x else s.c j} (v.st ((s.cf.to+i:Nat):Int) x):=by
 obtain⟨d1,d2⟩:=h.mid.dst i hi hm;have Y:=h.mid.ok.st_ldV x d1;have hs:=h.st;refine⟨⟨hs.pg,hs.n2,hs.cf,hs.good,hs.inn,hs.fit,hs.hd,hs.len⟩,⟨h.mid.ok.st _ hx,(BQ.st v _ x).n.trans h.mid.n,(BQ.st v _ x).pg.trans h.mid.pg,λj hj hu=>?_,λj hj hd=>?_⟩⟩
 ·have J:(!s.is j)=true:=hu;obtain⟨h1,h2,h3⟩:=h.mid.src j hj J;have Z:j≠i:=λe=>by simp_all
  have ha:(((s.cf.to+i:Nat):Int)≠(AH s.L j:Nat)):=λe=>hs.apart ⟨(hs.srcs hj).1,(hs.srcs hj).2.1⟩ ⟨ζM _ i,(hs.dsts hi).1⟩ (by grind)
  show (v.st _ x).ldE _=0/\s.cv j _=(if j=i then x else s.c j)/\_
  rw[FN,Y,κ ha,κ Z];exact⟨h1,h2,h3⟩
 ·show (v.st _ x).ldE _=0/\(v.st _ x).ldV _=(if j=i then x else s.c j)
  rw[FN,Y];by_cases e:j=i
  ·simp_all
  ·show v.ldE ((s.cf.to+j:Nat):Int)=0/\(if ((s.cf.to+i:Nat):Int)=((s.cf.to+j:Nat):Int)then x else v.ldV ((s.cf.to+j:Nat):Int))=_
   rw[κ Ω,κ e];exact h.mid.dst j hj hd
def AY(v:Vm)(c:Cf)(L:List Ob):Sl:=
 {n:=v.n,pg:=v.pl.pg,cf:=c,L:=L,hd:=λa=>v.rdH (a:Nat),c:=λi=>cvH L c.to (v.rdH ((L.getD (BX L i) (0,0)).1:Nat)) (i-sizes (L.take (BX L i))) (v.ldV (AH L i:Nat)),mv:=List.replicate (nbl (sizes L) c.bk) false}
structure EZ(s:Sl)(v v':Vm)(q0 j:Nat):Prop where
 ok:AF v'
 n:v'.n=v.n
 pg:v'.pl.pg=v.pl.pg
 rm:v'.pl.rm=v.pl.rm
 map:∀p,p<v.pt.length->(v'.pt.getD p 0≠0↔v.pt.getD p 0≠0/\¬((q0<=p/\p<q0+j)/\s.on (λ_=>true) p=0))
 val:∀a:Nat,a<v.n->¬((q0<=a/v.pl.pg/\a/v.pl.pg<q0+j)/\s.on (λ_=>true) (a/v.pl.pg)=0)->v'.ldE a=v.ldE a/\v'.ldV a=v.ldV a
theorem Pln.touch{T:Nat->Prop}{w w':World}{F p n B base:Nat}{L:List Ob}(h:Pln w F p n B base L)(t:AB T w w')(hT:∀k,F<=k->k<w.heap.size->¬T k):Pln w' F p n B base L:=by
 obtain⟨h1,h2,h3,f,c0,c1,hF⟩:=h;exact⟨υ h1 t.size,h2,h3,f,(t.cell h1 (hT _ h2 h1) 0).trans c0,(t.cell h1 (hT _ h2 h1) 1).trans c1,hF.touch t hT⟩
section
variable {s:Sl} {v v':Vm} {q0 j:Nat}
theorem EZ.zero(h:AF v)(q0:Nat):EZ s v v q0 0:=
 ⟨h,rfl,rfl,rfl,λp _=>⟨λh=>⟨h,λh'=>by omega⟩,λh=>h.1⟩,λ_ _ _=>⟨rfl,rfl⟩⟩
theorem EZ.keep(h:EZ s v v' q0 j)(hz:s.on (λ_=>true) (q0+j)≠0):EZ s v v' q0 (j+1):=by
 refine⟨h.ok,h.n,h.pg,h.rm,λp hp=>(h.map p hp).trans (and_congr_right λ_=>not_congr ⟨λ⟨⟨a,b⟩,c⟩=>⟨⟨a,by omega⟩,c⟩,λ⟨⟨a,b⟩,c⟩=>⟨⟨a,?_⟩,c⟩⟩),λa ha hn=>h.val a ha (λ⟨⟨x,y⟩,c⟩=>hn ⟨⟨x,by omega⟩,c⟩)⟩
 grind
theorem EZ.drop(h:EZ s v v' q0 j)(hz:s.on (λ_=>true) (q0+j)=0):EZ s v (v'.um ((q0+j:Nat):Int)) q0 (j+1):=by
 obtain⟨s1,s2,s3,s4⟩:=YY v' ((q0+j:Nat):Int);by_cases hf:frE v'.pt ((q0+j:Nat):Int)=0
 ·refine⟨h.ok.um _,s1.trans h.n,s2.trans h.pg,s3.trans h.rm,λp hp=>?_,λa ha hn=>?_⟩
  ·rw[ZdX hf,h.map p hp,and_assoc]
   grind
  ·have J:a/v.pl.pg≠q0+j:=λe=>hn ⟨by omega,by simp_all⟩;have Z:a<v'.n:=by rw[h.n];exact ha
   have Y:a/v'.pl.pg≠q0+j:=by rw[h.pg];exact J
   rw[h.ok.um_ldE hf Z,κ Y,h.ok.um_ldV hf Z Y];exact h.val a ha (λ⟨⟨x,y⟩,c⟩=>hn ⟨⟨x,by omega⟩,c⟩)
 ·rw[P9 hf];refine⟨h.ok,h.n,h.pg,h.rm,λp hp=>?_,λa ha hn=>h.val a ha (λ⟨⟨x,y⟩,c⟩=>hn ⟨⟨x,by omega⟩,c⟩)⟩;rw[h.map p hp];refine and_congr_right λhv=>not_congr ⟨λ⟨⟨a,b⟩,c⟩=>⟨⟨a,by omega⟩,c⟩,λ⟨⟨a,b⟩,c⟩=>⟨⟨a,?_⟩,c⟩⟩;rcases ω p (q0+j)with h1|h1
  ·exact h1
  ·exfalso;obtain rfl:p=q0+j:=Ω
   have h2:=(h.map _ hp).2 ⟨hv,λ⟨⟨_,y⟩,_⟩=>by omega⟩
   have h3:q0+j<v'.pt.length:=by
    grind
   rw[L7 h3,κ h2]at hf;exact hf rfl
end
theorem SZ(n k:Nat):at_ (List.replicate n false) k=false:=by
 unfold at_
 grind
section
variable {v v':Vm} {c:Cf} {L:List Ob} {rs:List Int}
theorem LR(v:Vm)(c:Cf)(L:List Ob)(i:Nat):(AY v c L).is i=false:=SZ _ _
theorem RW(v:Vm)(c:Cf)(L:List Ob):(AY v c L).mvd=0:=GZ λ_ _=>SZ _ _
theorem Q20(v:Vm)(c:Cf)(L:List Ob):(AY v c L).ft=0:=GG (ζe _) (λ_ h=>absurd h (ζI _)) (λ_=>by show (!at_ (List.replicate _ false) 0)=true;rw[SZ];rfl)
theorem YP(v:Vm)(c:Cf)(L:List Ob):(AY v c L).lf=nbl (sizes L) c.bk:=by
 unfold Sl.lf;rw[RW];exact ζG
theorem O4(hok:AF v)(hcf:G8 v.pl.pg v.n c)(hI:FB v rs c.fr c.tp L)(hfit:sizes L<=c.lm-c.to):BC (AY v c L):=by
 refine⟨hok.page,hok.n2,hcf,hI.1.mkd.good,λo ho=>?_,?_,λj hj=>?_,ζG⟩
 ·have:=hI.2 o ho
  show c.fr<=o.1/\o.1+o.2<=c.tp
  omega
 ·show c.to+sizes L<=c.lm
  have:=hcf.lm;omega
 ·have Y:j<L.length:=hj;obtain⟨h1,h2,h3⟩:=hI.1.mkd.ats _ (χ Y);obtain⟨b,p,f,k,he,-,hh,hs,-,-,hz,-⟩:=PN hI.1.sound h1;exact⟨p,f,k,hh,hs,by show L[j].2=1+p+f+k;omega⟩
theorem WD{i:Nat}(hi:i<sizes L):(AY v c L).on (λ_=>true) (AH L i/v.pl.pg)≠0:=by
 have:1<=(AY v c L).on (λ_=>true) (AH L i/v.pl.pg):=Sl.on_pos (s:=AY v c L) (i:=i) hi rfl rfl;omega
theorem ZF(hok:AF v)(hcf:G8 v.pl.pg v.n c)(hI:FB v rs c.fr c.tp L)(hfit:sizes L<=c.lm-c.to)(hfull:FV v L){q0 j:Nat}(hU:EZ (AY v c L) v v' q0 j):BO (AY v c L) v':=by
 have Y:=O4 hok hcf hI hfit;refine⟨Y,hU.ok,hU.n,hU.pg,λi hi _=>?_,λi hi hd=>?_⟩
 ·have E:i<sizes L:=hi;obtain⟨h1,h2,h3⟩:=Y.srcs hi;obtain⟨jo,hj,m,p,f,k,e1,e2,e3,e4,e5,e6,e7,e8,e9⟩:=Y.obj hi;have V:jo<L.length:=hj;have hv:=hU.val (AH L i) h3 (λh=>WD E h.2);have e4':AH L i=L[jo].1+m:=e4;have D:m<L[jo].2:=e2;have hl:=hfull _ (χ V) m D;rw[show ((L[jo].1:Nat):Int)+(m:Int)=(AH L i:Nat)by omega]at hl;refine⟨hv.1.trans hl,?_,λhp=>?_⟩
  ·show (AY v c L).cv i (v'.ldV (AH L i:Nat))=_
   rw[hv.2];rfl
  ·show v'.ldV (AH L i:Nat)<=_
   rw[hv.2];obtain⟨N,Z⟩:=hp;rw[e5]at N Z;rw[e6,e7]at Z;obtain⟨hr,-,-⟩:=hI.1.mkd.ats _ (χ V);obtain⟨b,p',f',k',he,-,hh,hs,-,-,hz,I⟩:=PN hI.1.sound hr;have J:v.rdH (L[jo].1:Nat)=⟨p,f,k⟩:=e7;rw[hh]at J;have hpe:(p':Int)=p:=by injection J
   have hp2':(m:Int)<=(p:Int):=Z;have:=I (m-1) Ω;rw[show ((L[jo].1:Nat):Int)+1+((m-1:Nat):Int)=(AH L i:Nat)by omega]at this;exact this.2.1
 grind [LR]
theorem JlU(hok:AF v)(hcf:G8 v.pl.pg v.n c)(hI:FB v rs c.fr c.tp L)(hfit:sizes L<=c.lm-c.to)(hfull:FV v L){j:Nat}(hU:EZ (AY v c L) v v' (c.fr/v.pl.pg) j)(hj:c.tp<=(c.fr/v.pl.pg+j)*v.pl.pg)
  (hm:∀p,p<v.pt.length->v.pt.getD p 0≠0->c.fr/v.pl.pg<=p/\p*v.pl.pg<c.tp):XU7 (AY v c L) v':=by
 have I:=O4 hok hcf hI hfit;have hS:=ZF hok hcf hI hfit hfull hU
 have hlen:v'.pt.length=v.pt.length:=by
  have a1:=hok.np;have a2:=hU.ok.np;rw[hU.n,hU.pg,a1]at a2;exact(Nat.mul_right_cancel (by have:=hok.page;omega) a2).symm
 intro p hp;have Z:p<v.pt.length:=Ω
 rw[hU.map p Z];constructor
 ·rintro⟨h1,h2⟩;obtain⟨g1,g2⟩:=hm p Z h1;left
  have V:p<c.fr/v.pl.pg+j:=by
   refine Nat.lt_of_not_le λh=>?_;have:=ζi v.pl.pg h;omega
  have E:(AY v c L).on (λ_=>true) p≠0:=λh=>h2 ⟨⟨g1,V⟩,h⟩;refine Classical.byContradiction λhno=>E (Sl.on_iff.2 λi hi _ e=>hno ⟨i,hi,e,LR v c L i⟩)
 ·rintro(⟨i,hi,rfl,-⟩|⟨i,-,-,h⟩)
  ·have Y:i<sizes L:=hi;have N:=(hS.mid.src i hi (by rw[LR];rfl)).1;have hv:=hU.val (AH L i) (I.srcs hi).2.2 (λh=>WD Y h.2);have J:v.ldE (AH L i:Nat)=0:=hv.1.symm.trans N;obtain⟨a,e,h1,h2⟩:=AF.hit J;obtain rfl:AH L i=a:=Ω
   exact⟨h2,λh=>WD Y h.2⟩
  grind [LR]
end
section
variable {w:World} {R:Nat->Prop} {y q r g:Nat} {z:B8} {s:Sl} {U:Nat->Bool} {ml:List Bool} {lf ft ah:Nat} {rs:List Int}
theorem X9b(hC:∀W,AB (λb=>b=g) w W->BG W R y q z s U ml lf ft ah)(hst:BC s)(hR:AU w r g rs):
  Calls prog 123 #[pP r,.func (.func 159) #[pP y] #[]] w λe w'=>e=.returned (.tuple #[])/\AB (λb=>b=g) w w'/\AU w' r g (rs.map (toV s.L s.cf.to)):=by
 have h0:toV s.L s.cf.to 0=0:=by
  have h:¬A7 s.L 0<s.L.length:=λh=>by
   have h1:=II h;have h2:=(hst.inn _ (χ h)).1;have:=hst.cf.fr;have:=hst.pg;omega
  exact(OJ h).1
 refine(W9 (F:=159) (pre:=#[pP y]) (caps:=#[]) (λi W Z=>AB (λb=>b=g) w W/\Z=(rs.take i).map (toV s.L s.cf.to)) (λ_ _=>by kernel_rfl) hR ⟨AB.refl _ _,rfl⟩ ?_ ?_).mono ?_
 ·grind [IV]
 ·rintro i hi W Z ho ⟨t,e⟩ V hne W0 Y;refine(XLA (hC W0 (t.trans (Y.touch _))) rs[i]).mono ?_;rintro e' W' ⟨rfl,J⟩;have hb:=Xxa s.L s.cf.to rs[i];refine⟨_,rfl,(V.gr Y).gr J,λW'' t''=>⟨((t.trans (Y.touch _)).trans (J.touch _)).trans t'',?_⟩⟩
  grind [IV,Int.max_eq_left]
 simp_all
end
theorem Y4o{f g:Nat->Bool}{n:Nat}(P:Nat->Nat)(hg:∀p,g p=true->f p=true):∀K:Nat,(∀j,j<K->P j<n/\f (P j)=true/\g (P j)=false)->(∀i j,i<j->j<K->P i<P j)->cnt g n+K<=cnt f n:=λK h hm=>by
 have Y:∀k,k<=K->cnt (λp=>g p||(List.range k).any λj=>P j==p) n=cnt g n+k:=by
  intro k
  induction k with
  | zero=>simp_all
  | succ k ih=>
   intro hk;have h1:=h k Ω
   have h2:=UW (f:=λp=>g p||(List.range k).any λj=>P j==p) (i:=P k) h1.1 (by
    rw[ξ7];refine⟨h1.2.2,?_⟩;rw[List.any_eq_false];intro j hj;have:=hm j k (ξf.1 hj) Ω;simp only[ζ0]
    omega)
   grind [ξA,CT,ψo,Bool.or_assoc]
 rw[<-Y K (π _)];refine IZ λp _ hp=>?_
 grind
def Sl.pS(s:Sl)(m:Nat->Bool)(p:Nat):Bool:=(List.range (sizes s.L)).any λi=>!m (i/s.cf.bk)&&(AH s.L i/s.pg==p)
def Sl.pT(s:Sl)(top:Nat)(m:Nat->Bool)(p:Nat):Bool:=((List.range (sizes s.L)).any λi=>m (i/s.cf.bk)&&((s.cf.to+i)/s.pg==p))||((List.range (top-(s.cf.to+sizes s.L))).any λj=>(s.cf.to+sizes s.L+j)/s.pg==p)
def Sl.np(s:Sl):Nat:=s.n/s.pg
def Sl.U(s:Sl)(top:Nat)(m:Nat->Bool):Nat:=cnt (s.pS m) s.np+cnt (s.pT top m) s.np
def Sl.q(s:Sl):Nat:=max 1 (s.cf.bk/s.pg)
section
variable {s:Sl} {top:Nat} {m m':Nat->Bool} {p:Nat}
theorem Sl.pS_iff:s.pS m p=true↔∃i,i<sizes s.L/\m (i/s.cf.bk)=false/\AH s.L i/s.pg=p:=by
 unfold Sl.pS
 simp_all
theorem Sl.pT_iff:s.pT top m p=true↔(∃i,i<sizes s.L/\m (i/s.cf.bk)=true/\(s.cf.to+i)/s.pg=p)\/∃a,s.cf.to+sizes s.L<=a/\a<top/\a/s.pg=p:=by
 unfold Sl.pT;rw[ζW,ξ5,ξ5];refine or_congr ⟨?_,?_⟩ ⟨?_,?_⟩
 ·simp_all
 ·simp_all
 ·rintro⟨j,hj,h⟩;have:=ξf.1 hj;exact⟨_,ζM _ _,by omega,ζ0.1 h⟩
 ·rintro⟨a,h1,h2,h3⟩;exact⟨a-(s.cf.to+sizes s.L),ξf.2 Ω,ζ0.2 (by simp_all)⟩
theorem Sl.U_congr(h:∀k,k<s.mv.length->m k=m' k)(hs:BC s):s.U top m=s.U top m':=by
 have e:∀i,i<sizes s.L->m (i/s.cf.bk)=m' (i/s.cf.bk):=λi hi=>h _ (hs.blk hi);unfold Sl.U;congr 1
 ·refine CT λp _=>ψa.2 ?_;rw[Sl.pS_iff,Sl.pS_iff]
  grind
 ·refine CT λp _=>ψa.2 ?_;rw[Sl.pT_iff,Sl.pT_iff];exact or_congr_left ⟨λ⟨i,h1,h2,h3⟩=>⟨i,h1,by simp_all,h3⟩,λ⟨i,h1,h2,h3⟩=>⟨i,h1,by simp_all,h3⟩⟩
theorem V4{n:Nat}{L:List Ob}(hg:AO n L){i:Nat}:∀d,i+d<sizes L->AH L i+d<=AH L (i+d)
 | 0,_=>π _
 | d+1,h=>by
  have h1:=V4 hg d (show i+d<sizes L by omega);have h2:=YYc hg (show i+d<i+(d+1)by omega) h;omega
theorem YR{n:Nat}{L:List Ob}(hg:AO n L){i k:Nat}(hik:i<=k)(hk:k<sizes L):AH L i<=AH L k:=by
 have:=V4 hg (i:=i) (k-i) Ω
 grind
theorem Xra{x d g:Nat}(hg:1<=g):(x+d)/g<x/g+d/g+2:=by
 rw[ζ1 Ω,ξj,ξj];have h1:=ζy x g;have h2:=ξS x (show 0<g by omega);have h3:=ζy d g;have h4:=ξS d (show 0<g by omega)
 grind
theorem Sl.U_run(hs:BC s)(hn:s.np*s.pg=s.n){a b:Nat}(hab:a<b)(hb:b<=s.mv.length)(hm:∀k,a<=k->k<b->m k=false)(hm':∀k,m' k=(m k||decide (a<=k/\k<b))):s.U top m'<=s.U top m+3:=by
 have I:=hs.bk.1;have E:=hs.pg.1;have hg:=hs.good;obtain⟨i0,h0⟩:∃i0,i0=a*s.cf.bk:=⟨_,rfl⟩;obtain⟨i1,h1⟩:∃i1,i1=min (b*s.cf.bk) (sizes s.L):=⟨_,rfl⟩
 have h01:i0<i1:=by
  have h2:a*s.cf.bk<sizes s.L:=by rw[<-I0 I,<-hs.len];omega
  have h3:(a+1)*s.cf.bk<=b*s.cf.bk:=ζi _ hab;rw[ξm]at h3;omega
 have V:∀i,i<sizes s.L->((a<=i/s.cf.bk/\i/s.cf.bk<b)↔(i0<=i/\i<i1)):=λi hi=>by
  rw[ξb Ω,ζ1 Ω];omega
 obtain⟨J,hJ⟩:∃J,J=(i1-1-i0)/s.pg:=⟨_,rfl⟩;have hJm:J*s.pg<=i1-1-i0:=by rw[hJ];exact ζj _ _
 have Y:∀j,j<=J->i0+j*s.pg<i1:=λj hj=>by
  have:=ζi s.pg hj;omega
 have N:∀j,j+1<=J->AH s.L (i0+j*s.pg)/s.pg<AH s.L (i0+(j+1)*s.pg)/s.pg:=λj hj=>by
  have h2:=Y (j+1) hj;have h3:=V4 hg (i:=i0+j*s.pg) s.pg (by rw[ξm]at h2;omega);rw[show i0+j*s.pg+s.pg=i0+(j+1)*s.pg by rw[ξm];omega]at h3;have h4:=ζc (c:=s.pg) h3;rw[Nat.add_div_right _ (show 0<s.pg by omega)]at h4;omega
 have Z:∀d i,i+d<=J->AH s.L (i0+i*s.pg)/s.pg+d<=AH s.L (i0+(i+d)*s.pg)/s.pg:=λd=>by
  induction d with
  | zero=>intro i _;exact π _
  | succ d ih=>
   intro i hi;have h2:=ih i Ω;have h3:=N (i+d) Ω;rw[show i+(d+1)=i+d+1 by omega];omega
 have hS:cnt (s.pS m') s.np+(J-1)<=cnt (s.pS m) s.np:=by
  refine Y4o (λj=>AH s.L (i0+(j+1)*s.pg)/s.pg) (λp hp=>?_) _ (λj hj=>?_) (λi j hij hj=>?_)
  ·obtain⟨i,hi,h2,h3⟩:=Sl.pS_iff.1 hp;rw[hm',ξ7]at h2;exact Sl.pS_iff.2 ⟨i,hi,h2.1,h3⟩
  ·have h2:=Y (j+1) Ω;have hN:i0+(j+1)*s.pg<sizes s.L:=Ω
   have h3:=(V _ hN).2 ⟨ζM _ _,h2⟩;refine⟨?_,Sl.pS_iff.2 ⟨_,hN,hm _ h3.1 h3.2,rfl⟩,?_⟩
   ·have h4:=(hs.srcs hN).2.2;rw[ζ1 Ω,hn];exact h4
   ·refine Bool.eq_false_iff.2 λhp=>?_;obtain⟨i,hi,h4,h5⟩:=Sl.pS_iff.1 hp;rw[hm',ξ7,decide_eq_false_iff_not,V i hi]at h4;rcases ω i i0 with h6|h6
    ·have h7:=ζc (c:=s.pg) (YR hg (Nat.le_of_lt h6) Ω);have h8:=Z (j+1) 0 Ω;rw[Nat.zero_mul,ξn,ξs]at h8;omega
    ·have h7:=Y J (π _);have h8:=ζc (c:=s.pg) (YR hg (show i0+J*s.pg<=i by omega) hi);have h9:=Z (J-(j+1)) (j+1) Ω;rw[show j+1+(J-(j+1))=J by omega]at h9;omega
  ·have:=Z (j-i) (i+1) Ω;rw[show i+1+(j-i)=j+1 by omega]at this;omega
 have hT:cnt (s.pT top m') s.np<=cnt (s.pT top m) s.np+(J+2):=by
  refine ζa (IZ (g:=λp=>s.pT top m p||decide ((s.cf.to+i0)/s.pg<=p/\p<(s.cf.to+i0)/s.pg+(J+2))) λp _ hp=>?_) (ζa (WZ _ _ _) (Nat.add_le_add_left (ζa (RS _ _ _) Ω) _));rw[ζW,ζf];rcases Sl.pT_iff.1 hp with⟨i,hi,h2,h3⟩|h2
  ·rw[hm',ζW,ζf,V i hi]at h2;rcases h2 with h2|h2
   ·exact .inl (Sl.pT_iff.2 (.inl ⟨i,hi,h2,h3⟩))
   ·right;rw[<-h3];refine⟨ζc Ω,?_⟩;have h4:=Xra (x:=s.cf.to+i0) (d:=i-i0) E;rw[show s.cf.to+i0+(i-i0)=s.cf.to+i by omega]at h4;have h5:=ζc (c:=s.pg) (show i-i0<=i1-1-i0 by omega);omega
  ·exact .inl (Sl.pT_iff.2 (.inr h2))
 unfold Sl.U;omega
def FT(m:Nat->Bool)(f t:Nat)(k:Nat):Bool:=m k||decide (f<=k/\k<t)
theorem Sl.U_fill(hs:BC s)(hn:s.np*s.pg=s.n)(f:Nat):∀d,f+d<=s.mv.length->s.U top (FT m f (f+d))<=s.U top m+3*(cnt (λj=>m (f+j)) d+1):=λd hd=>by
 have Y:∀a b,f<=a->a<=b->b<=s.mv.length->(∀k,a<=k->k<b->m k=false)->s.U top (FT m f b)<=s.U top (FT m f a)+3:=λa b h1 h2 h3 h4=>by
  rcases Nat.eq_or_lt_of_le h2 with rfl|h2
  ·omega
  ·refine Sl.U_run hs hn h2 h3 (λk h5 h6=>?_) (λk=>?_)
   ·unfold FT;rw[h4 k h5 h6,φ Ω];rfl
   ·unfold FT;rw[Bool.or_assoc];congr 1;rw[<-Bool.decide_or];exact ξJ.2 Ω
 have Z:∀d,f+d<=s.mv.length->∃a,f<=a/\a<=f+d/\(∀k,a<=k->k<f+d->m k=false)/\s.U top (FT m f a)<=s.U top m+3*cnt (λj=>m (f+j)) d:=by
  intro d
  induction d with
  | zero=>
   intro _;refine⟨f,π _,π _,λk h1 h2=>by omega,?_⟩;rw[Sl.U_congr (m':=m) (λk _=>by unfold FT;rw[φ Ω,Bool.or_false]) hs];omega
  | succ d ih=>
   intro h;obtain⟨a,h1,h2,h3,h4⟩:=ih Ω;rw[CR];cases hmk:m (f+d)with
   | false=>
    refine⟨a,h1,by omega,λk h5 h6=>?_,by simpa using h4⟩;rcases ω k (f+d)with h7|h7
    ·exact h3 k h5 h7
    ·rw[show k=f+d by omega];exact hmk
   | true=>
    refine⟨f+(d+1),by omega,π _,λk h5 h6=>by omega,?_⟩;have h5:=Y a (f+d) h1 h2 Ω h3
    rw[Sl.U_congr (m:=FT m f (f+(d+1))) (m':=FT m f (f+d)) (λk _=>by
     unfold FT;by_cases e:k=f+d
     ·rw[e,hmk];rfl
     ·congr 1
      exact ξJ.2 Ω) hs]
    simp only[Bool.toNat_true];omega
 obtain⟨a,h1,h2,h3,h4⟩:=Z d hd;have:=Y a (f+d) h1 h2 hd h3;omega
theorem Sl.U_more(hs:BC s)(hpb:BJ s.pg=true)(h:∀k,m k=true->m' k=true)(l:List Nat)(hl:∀k,k<s.mv.length->m' k=true->m k=true\/k∈l):s.U top m'<=s.U top m+l.length*s.q:=by
 have hpg:=hs.pg.1;obtain⟨b0,hb0⟩:s.pg∣s.cf.to:=Nat.dvd_of_mod_eq_zero hs.cf.at_
 have Y:∀i,(s.cf.to+i)/s.pg=b0+i/s.pg:=λi=>by
  grind [ζR,Nat.add_comm,Nat.add_mul_div_right]
 have hS:cnt (s.pS m') s.np<=cnt (s.pS m) s.np:=IZ λp _ hp=>by
  obtain⟨i,hi,h2,h3⟩:=Sl.pS_iff.1 hp;refine Sl.pS_iff.2 ⟨i,hi,?_,h3⟩
  grind
 have hT:cnt (s.pT top m') s.np<=cnt (s.pT top m) s.np+l.length*s.q:=by
  let g:Nat->Nat->Bool:=λj p=>(List.range (sizes s.L)).any λi=>(i/s.cf.bk==j)&&((s.cf.to+i)/s.pg==p)
  have hg:∀j,cnt (g j) s.np<=s.q:=λj=>by
   obtain⟨a,ha⟩:=Zs5 hs.cf.bk hpb j;refine ζa (IZ (g:=λp=>decide (b0+a<=p/\p<b0+a+s.q)) λp _ hp=>?_) (ζa (RS _ _ _) Ω);obtain⟨i,_,hi⟩:=ξ5.1 hp;obtain⟨e1,e2⟩:=ζ5.1 hi;have e1:i/s.cf.bk=j:=by simpa using e1
   have e2:(s.cf.to+i)/s.pg=p:=by simpa using e2
   have:=ha i e1;rw[Y]at e2;unfold Sl.q
   grind
  refine ζa (IZ (g:=λp=>s.pT top m p||l.any λj=>g j p) λp _ hp=>?_) (ζa (WZ _ _ _) (Nat.add_le_add_left (JuW l g λk _=>hg k) _));rw[ζW];rcases Sl.pT_iff.1 hp with⟨i,hi,h2,h3⟩|h2
  ·rcases hl _ (hs.blk hi) h2 with h4|h4
   ·exact .inl (Sl.pT_iff.2 (.inl ⟨i,hi,h4,h3⟩))
   grind
  ·exact .inl (Sl.pT_iff.2 (.inr h2))
 unfold Sl.U;omega
theorem Sl.U_grow(hs:BC s)(hn:s.np*s.pg=s.n)(hpb:BJ s.pg=true){l l':List Bool}(h1:l.length=s.mv.length)(h2:l'.length=s.mv.length)(hll:∀k,at_ l k=true->at_ l' k=true)(ha:CA l-ftL l<=s.cf.ah)(ha':CA l' - ftL l'<=s.cf.ah):s.U top (at_ l')+s.q<=s.U top (at_ l)+(s.cf.ah+2)*(s.q+3):=by
 have hf:ftL l<=ftL l':=by
  refine ξU λh=>?_;have h3:ftL l' < l'.length:=υ h (by rw[h2,<-h1];exact GU _ _);have h4:(!at_ l' (ftL l'))=true:=GP (λk=>!at_ l' k) l'.length h3;rw[hll _ (K0 h)]at h4;cases h4
 have hf2:ftL l'<=s.mv.length:=by rw[<-h2];exact GU _ _
 have hF:=Sl.U_fill (top:=top) (m:=at_ l) hs hn (ftL l) (ftL l' - ftL l) Ω;rw[show ftL l+(ftL l' - ftL l)=ftL l' by omega]at hF
 have hc:cnt (λj=>at_ l (ftL l+j)) (ftL l' - ftL l)<=s.cf.ah:=by
  have e1:=OG (l:=l) (m:=ftL l) (GU _ _) (λi hi=>K0 hi)
  have e2:∀d,ftL l+d<=l.length->cnt (λj=>at_ l (ftL l+j)) d<=cnt (λk=>decide (ftL l<=k)&&at_ l k) (ftL l+d):=by
   intro d
   induction d with
   | zero=>intro _;exact ζe _
   | succ d ih=>
    rw[show ftL l+(d+1)=ftL l+d+1 by omega,CR,CR,θ (show ftL l<=ftL l+d by omega),ξP];omega
  have e3:=e2 (ftL l' - ftL l) Ω;have e4:=SE (f:=λk=>decide (ftL l<=k)&&at_ l k) (show ftL l+(ftL l' - ftL l)<=l.length by omega);unfold CA at ha;omega
 obtain⟨W,hW⟩:∃W:List Nat,W=(List.range l'.length).filter λj=>decide (ftL l'<=j)&&at_ l' j:=⟨_,rfl⟩
 have hWl:W.length+ftL l'=CA l':=by
  have:=OG (l:=l') (m:=ftL l') (GU _ _) (λi hi=>K0 hi);unfold CA;rw[<-this,hW,<-List.countP_eq_length_filter];rfl
 have hM:=Sl.U_more (top:=top) (m:=FT (at_ l) (ftL l) (ftL l')) (m':=at_ l') hs hpb (λk hk=>by
  unfold FT at hk;rw[ζW,ζf]at hk;rcases hk with hk|hk
  ·exact hll k hk
  ·exact K0 hk.2) W (λk hk h=>by
  rcases ω k (ftL l')with h3|h3
  ·left;unfold FT;rw[ζW,ζf];rcases ω k (ftL l)with h4|h4
   ·exact .inl (K0 h4)
   ·exact .inr ⟨h4,h3⟩
  ·right;rw[hW,ξ9,ξf,h,θ h3]
   exact⟨by omega,rfl⟩)
 have hWq:W.length*s.q<=s.cf.ah*s.q:=ζi _ Ω;rw[ξj,Nat.mul_add,Nat.mul_add];omega
end
structure HpA(top:Nat)(u:Vm)(s:Sl)(v:Vm):Prop where
 pg:∀p,p<v.pt.length->(v.pt.getD p 0≠0↔s.pS (at_ s.mv) p=true\/s.pT top (at_ s.mv) p=true)
 ah:s.mvd-s.ft<=s.cf.ah
 fr:∃l:List Bool,l.length=s.mv.length/\(∀k,at_ l k=true->at_ s.mv k=true)/\CA l-ftL l<=s.cf.ah/\s.U top (at_ l)+(s.cf.ah+2)*(s.q+3)<=v.pl.rm
 lm:s.cf.to+sizes s.L<=top/\top<=s.cf.lm
 ok:AF u
 un:∀a:Nat,a<s.n->u.ldE a=0
 c:∀i,i<sizes s.L->u.ldV (s.cf.to+i:Nat)=s.c i
 x:∀a:Nat,s.cf.to+sizes s.L<=a->a<top->v.ldE a=0/\v.ldV a=u.ldV a
theorem SD(v:Vm)(p0 k:Nat):(BW v p0 k).length<=k:=by
 induction k with
 | zero=>exact π _
 | succ k ih=>
  grind [PR,ζh,ξk]
section
variable {s:Sl} {v v' u:Vm} {k top:Nat}
theorem BO.np(h:BO s v):s.np=v.pt.length/\s.np*s.pg=s.n:=by
 have h1:=h.mid.ok.len;have h2:=h.mid.ok.np;rw[h.mid.n,h.mid.pg]at h1;rw[h.mid.n,h.mid.pg]at h2;exact⟨h1.symm,by rw[show s.np=v.pt.length from h1.symm];exact h2.symm⟩
theorem Sl.pST(hs:BC s)(hlm:top<=s.cf.lm){m:Nat->Bool}{p:Nat}(h1:s.pS m p=true)(h2:s.pT top m p=true):False:=by
 obtain⟨i,hi,-,e⟩:=Sl.pS_iff.1 h1;have h3:=hs.srcs hi;rcases Sl.pT_iff.1 h2 with⟨j,hj,-,e2⟩|⟨a,a1,a2,e2⟩
 ·exact hs.apart ⟨h3.1,h3.2.1⟩ ⟨ζM _ j,(hs.dsts hj).1⟩ (e.trans e2.symm)
 ·exact hs.apart ⟨h3.1,h3.2.1⟩ ⟨by omega,by omega⟩ (e.trans e2.symm)
theorem HpA.used(hO:BO s v)(h:HpA top u s v):v.pl.used=s.U top (at_ s.mv):=by
 rw[hO.mid.ok.us];unfold Sl.U
 rw[hO.np.1,<-LT (λp=>by
  cases e1:s.pS (at_ s.mv) p with
  | false=>rfl
  | true=>
   cases e2:s.pT top (at_ s.mv) p with
   | false=>rfl
   | true=>exact absurd (Sl.pST hO.st h.lm.2 e1 e2) id)]
 refine CT λp hp=>ψa.2 ?_;rw[ζW,<-h.pg p hp,bne_iff_ne]
theorem HpA.room(hO:BO s v)(h:HpA top u s v):v.pl.used+s.q<=v.pl.rm:=by
 obtain⟨l,h1,h2,h3,h4⟩:=h.fr;have Y:BJ s.pg=true:=by rw[<-hO.mid.pg];exact hO.mid.ok.pl.pg
 have:=Sl.U_grow (top:=top) hO.st hO.np.2 Y h1 rfl h2 h3 h.ah;rw[h.used hO];omega
theorem HpA.need(hO:BO s v)(h:HpA top u s v)(hk:k<s.mv.length):BD v ((s.cf.to+s.lo k:Nat):Int) ((s.cf.to+s.hi k:Nat):Int)=0:=by
 have hs:=hO.st;have D:=hO.mid.ok;have hpg:=hs.pg.1;have Y:=hO.mid.pg;have N:=hs.lohi hk;have hto:s.cf.to+s.hi k<=v.n:=by have:=hs.fit;have:=hs.cf.ln;rw[hO.mid.n];omega
 have I:BJ s.pg=true:=by rw[<-Y];exact D.pl.pg
 obtain⟨p0,Z⟩:∃p0,p0=(s.cf.to+s.lo k)/s.pg:=⟨_,rfl⟩;obtain⟨p1,V⟩:∃p1,p1=(s.cf.to+s.hi k-1)/s.pg:=⟨_,rfl⟩;have hp01:p0<=p1:=by rw[Z,V];exact ζc Ω
 have eA:(((s.cf.to+s.lo k:Nat):Int)/(v.pl.pg:Int)).toNat=p0:=by
  rw[Y,show ((s.cf.to+s.lo k:Nat):Int)/(s.pg:Int)=(((s.cf.to+s.lo k)/s.pg:Nat):Int)from rfl,η,Z]
 have eB:CY v ((s.cf.to+s.lo k:Nat):Int) ((s.cf.to+s.hi k:Nat):Int)=p1+1-p0:=by
  unfold CY;rw[Y,show ((s.cf.to+s.hi k:Nat):Int)-1=((s.cf.to+s.hi k-1:Nat):Int)by omega,show ((s.cf.to+s.hi k-1:Nat):Int)/(s.pg:Int)=(((s.cf.to+s.hi k-1)/s.pg:Nat):Int)from rfl,show ((s.cf.to+s.lo k:Nat):Int)/(s.pg:Int)=(((s.cf.to+s.lo k)/s.pg:Nat):Int)from rfl,<-Z,<-V];omega
 obtain⟨b0,E⟩:s.pg∣s.cf.to:=Nat.dvd_of_mod_eq_zero hs.cf.at_
 have J:∀i,(s.cf.to+i)/s.pg=b0+i/s.pg:=λi=>by
  rw[E,ζR,Nat.add_comm,Nat.add_mul_div_right _ _ Ω];omega
 obtain⟨a,ha⟩:=Zs5 hs.cf.bk I k
 have hw:p1+1-p0<=s.q:=by
  have h1:=ha (s.lo k) (ζ0.1 ((hs.inB Ω).2 ⟨π _,N.1⟩));have h2:=ha (s.hi k-1) (ζ0.1 ((hs.inB Ω).2 ⟨by omega,by omega⟩));rw[J]at Z;rw[show s.cf.to+s.hi k-1=s.cf.to+(s.hi k-1)by omega,J]at V;unfold Sl.q;omega
 have hrm:=h.room hO;unfold BD;rw[κ Ω,κ Ω,eA,eB,μ];have h3:=SD v p0 (p1+1-p0);omega
theorem HpA.step(hO:BO s v)(h:HpA top u s v)(hk:k<s.mv.length)(hm:at_ s.mv k=false)(hc:k=s.ft\/s.mvd-s.ft<s.cf.ah)(hM:MQ s k v v'):HpA top u {s with mv:=s.mv.set k true} v':=by
 have hs:=hO.st;have V:v'.pt.length=v.pt.length:=by rw[hM.ok.mid.ok.len,hO.mid.ok.len,hM.ok.mid.n,hM.ok.mid.pg,hO.mid.n,hO.mid.pg]
 have I:=hs.lohi hk;have Y:∀i,at_ (s.mv.set k true) (i/s.cf.bk)=(s.is i||s.inB k i):=Sl.is_put hk
 have h1:({s with mv:=s.mv.set k true}:Sl).mvd=s.mvd+1:=by
  unfold Sl.mvd;rw[ν];exact JG hk hm
 refine⟨λp hp=>?_,?_,?_,h.lm,h.ok,h.un,h.c,λa a1 a2=>?_⟩
 ·rw[V]at hp;rw[hM.map p hp,h.pg p hp]
  have hT:({s with mv:=s.mv.set k true}:Sl).pT top (at_ (s.mv.set k true)) p=true↔s.pT top (at_ s.mv) p=true\/((s.cf.to+s.lo k)/s.pg<=p/\p<=(s.cf.to+s.hi k-1)/s.pg):=by
   show s.pT top (at_ (s.mv.set k true)) p=true↔_
   rw[Sl.pT_iff,Sl.pT_iff];constructor
   ·rintro(⟨i,hi,e1,e2⟩|e)
    ·rw[Y,ζW]at e1;rcases e1 with e1|e1
     ·exact .inl (.inl ⟨i,hi,e1,e2⟩)
     ·have:=(hs.inB hi).1 e1;right;rw[<-e2];exact⟨ζc Ω,ζc Ω⟩
    ·exact .inl (.inr e)
   ·rintro((⟨i,hi,e1,e2⟩|e)|⟨e1,e2⟩)
    ·exact .inl ⟨i,hi,by rw[Y,show s.is i=true from e1];rfl,e2⟩
    ·exact .inr e
    ·left;have hpg:=hs.pg.1
     obtain⟨i,E,D,N⟩:∃i,s.lo k<=i/\i<s.hi k/\(s.cf.to+i)/s.pg=p:=by
      rcases ω (s.cf.to+s.lo k) (p*s.pg)with g|g
      ·refine⟨p*s.pg-s.cf.to,by omega,?_,?_⟩
       ·have:=(ξb Ω).1 e2;omega
       ·rw[show s.cf.to+(p*s.pg-s.cf.to)=p*s.pg by omega,ξB _ Ω]
      ·refine⟨s.lo k,π _,I.1,?_⟩;have:=(ξb (show 0<s.pg by omega)).2 g;omega
     have J:i<sizes s.L:=Ω
     exact⟨i,J,by rw[Y,(hs.inB J).2 ⟨E,D⟩,Bool.or_true],N⟩
  have hS:({s with mv:=s.mv.set k true}:Sl).pS (at_ (s.mv.set k true)) p=true↔s.pS (at_ s.mv) p=true/\¬ ∃i,i<sizes s.L/\s.inB k i=true/\AH s.L i/s.pg=p/\∀j,j<sizes s.L->AH s.L j/s.pg=p->s.is j=true\/s.inB k j=true:=by
   show s.pS (at_ (s.mv.set k true)) p=true↔_
   rw[Sl.pS_iff,Sl.pS_iff];constructor
   ·rintro⟨i,hi,e1,e2⟩;rw[Y,ξ7]at e1;refine⟨⟨i,hi,e1.1,e2⟩,λ⟨j,_,_,_,g⟩=>?_⟩;rcases g i hi e2 with g|g
    ·rw[e1.1]at g;cases g
    ·rw[e1.2]at g;cases g
   ·rintro⟨⟨i,hi,e1,e2⟩,g⟩;have e1:s.is i=false:=e1;refine Classical.byContradiction λhno=>?_
    have Z:∀j,j<sizes s.L->AH s.L j/s.pg=p->s.is j=true\/s.inB k j=true:=λj hj he=>by
     refine Classical.byContradiction λhn=>hno ⟨j,hj,?_,he⟩;rw[Y];cases ea:s.is j <;> cases eb:s.inB k j <;> simp_all
    rcases Z i hi e2 with e|e
    ·rw[e1]at e;cases e
    ·exact g ⟨i,hi,e,e2,Z⟩
  show _↔({s with mv:=s.mv.set k true}:Sl).pS (at_ (s.mv.set k true)) p=true\/({s with mv:=s.mv.set k true}:Sl).pT top (at_ (s.mv.set k true)) p=true
  rw[hS,hT];constructor
  ·rintro⟨(e|e)|e,g⟩
   ·exact .inl ⟨e,g⟩
   ·exact .inr (.inl e)
   ·exact .inr (.inr e)
  ·rintro(⟨e,g⟩|e)
   ·exact⟨.inl (.inl e),g⟩
   ·refine⟨e.elim (λe=>.inl (.inr e)) .inr,λ⟨i,hi,hb,e2,_⟩=>?_⟩;have h5:s.pT top (at_ (s.mv.set k true)) p=true:=hT.2 e;refine Sl.pST hs h.lm.2 (m:=λ_=>false) (p:=p) (Sl.pS_iff.2 ⟨i,hi,rfl,e2⟩) ?_;exfalso;have h3:=hs.srcs hi;rcases Sl.pT_iff.1 h5 with⟨j,hj,-,e3⟩|⟨a,a1,a2,e3⟩
    ·exact hs.apart ⟨h3.1,h3.2.1⟩ ⟨ζM _ j,(hs.dsts hj).1⟩ (e2.trans e3.symm)
    ·exact hs.apart ⟨h3.1,h3.2.1⟩ ⟨by omega,by have:=h.lm;omega⟩ (e2.trans e3.symm)
 ·have hah:=h.ah
  show ({s with mv:=s.mv.set k true}:Sl).mvd-({s with mv:=s.mv.set k true}:Sl).ft<=s.cf.ah
  rw[h1]
  have h2:s.ft<=({s with mv:=s.mv.set k true}:Sl).ft:=by
   refine ξU λh=>?_
   have h3:({s with mv:=s.mv.set k true}:Sl).ft<(s.mv.set k true).length:=by
    rw[ν];have:=s.ft_le;omega
   have h4:=({s with mv:=s.mv.set k true}:Sl).ft_off h3
   have h6:at_ (s.mv.set k true) ({s with mv:=s.mv.set k true}:Sl).ft=true:=by
    rw[GA hk]
    split
    ·rfl
    ·exact s.ft_on h
   rw[h6]at h4;cases h4
  rcases hc with rfl|hc
  ·have h3:=Vhb (l:=s.mv) hk;unfold CZ at h3;rw[μ (show ftL s.mv<s.mv.length from hk)]at h3;have h4:s.ft<({s with mv:=s.mv.set s.ft true}:Sl).ft:=h3;omega
  ·omega
 ·obtain⟨l,a1,a2,a3,a4⟩:=h.fr;refine⟨l,by rw[a1];exact(ν ..).symm,λj hj=>?_,a3,by rw[hM.rm];exact a4⟩;rw[GA hk]
  split
  ·rfl
  ·exact a2 j hj
 ·have a1:s.cf.to+sizes s.L<=a:=a1;have hlm:=h.lm;have hln:=hs.cf.ln;obtain⟨x1,x2⟩:=h.x a a1 a2;obtain⟨o1,o2⟩:=hM.oth a Ω (.inr Ω) (λi hi=>hs.apart ⟨(hs.srcs hi).1,(hs.srcs hi).2.1⟩ ⟨by omega,by omega⟩);exact⟨o2 x1,o1.trans x2⟩
end
theorem Zig{m:Nat}(h1:1<=m)(h2:m<=2048){f:Nat->Nat}(hf:∀a,f a<18446744073709551616):∃u:Vm,X0 (m*256) u/\∀a:Nat,a<m*256->u.ldV a=f a:=by
 have Z:AF (Vm.new (m*256) 256 m):=AF.new (by unfold E6;simp;omega) (by decide) Ω Ω (Nat.mul_mod_left _ _);have hd:m*256/256=m:=ξB _ (by decide);have Y:(Vm.new (m*256) 256 m).pt.length=m:=by show (List.replicate (m*256/256) 0).length=m;rw[ζG,hd]
 have hm:=ZqK Z rfl (λp hp=>by show (List.replicate (m*256/256) 0).getD p 0=0;exact NT _ _) (by rw[Y];exact π _) (k:=m) (by rw[Y];exact π _);have hn:(mpN (Vm.new (m*256) 256 m) m).n=m*256:=hm.n
 have hl:∀a:Nat,a<m*256->(mpN (Vm.new (m*256) 256 m) m).ldE a=0:=λa ha=>by
  rw[hm.ldE Z (show a<(Vm.new (m*256) 256 m).n from ha),μ];rw[ξf]
  show a/256<m
  omega
 have hs:=VYd hm.ok (λa ha=>hl a (by rw[hn]at ha;exact ha)) hf (k:=m*256) (by rw[hn];exact π _);exact⟨_,⟨hs.ok,hs.sm.n.trans hn,λa ha=>by rw[hs.sm.ldE];exact hl a ha,by omega⟩,hs.vl⟩
section
variable {s:Sl} {v v1 v' u:Vm} {k top:Nat}
theorem Sl.tch_is(hs:BC s){i:Nat}(hi:i<sizes s.L):(s.tch ((s.cf.to+i:Nat):Int)).is i=true:=by
 have hb:=hs.blk hi;unfold Sl.tch Sl.is;rw[FH.2 Ω,μ rfl,show (((s.cf.to+i:Nat):Int)-(s.cf.to:Int)).toNat=i by omega];unfold JB
 split
 ·assumption
 ·rw[GA (by rw[JSM];exact hb),μ rfl]
theorem HpA.ld(hO:BO s v)(h:HpA top u s v){a:Nat}(h1:s.cf.to<=a)(h2:a<top)(hm:∀i,i<sizes s.L->a=s.cf.to+i->s.is i=true):v.ldE a=0/\v.ldV a=u.ldV a:=by
 rcases ω a (s.cf.to+sizes s.L)with h3|h3
 ·obtain⟨i,rfl⟩:∃i,a=s.cf.to+i:=⟨a-s.cf.to,by omega⟩;obtain⟨d1,d2⟩:=hO.mid.dst i Ω (hm i Ω rfl);exact⟨d1,by rw[d2,h.c i Ω]⟩
 ·exact h.x a h3 h2
theorem BO.beyond(h:BO s v){a x:Nat}(h1:s.cf.to+sizes s.L<=a)(h2:a<s.cf.lm)(hl:v.ldE a=0)(hx:x<18446744073709551616):BO s (v.st a x):=by
 have Y:=h.mid.ok.st_ldV x hl;have hs:=h.st;refine⟨hs,⟨h.mid.ok.st _ hx,(BQ.st v _ x).n.trans h.mid.n,(BQ.st v _ x).pg.trans h.mid.pg,λj hj hu=>?_,λj hj hd=>?_⟩⟩
 ·have ha:((a:Nat):Int)≠(AH s.L j:Nat):=λe=>hs.apart ⟨(hs.srcs hj).1,(hs.srcs hj).2.1⟩ ⟨show s.cf.to<=a by omega,h2⟩ (by grind);rw[FN,Y,κ ha];exact h.mid.src j hj hu
 ·rw[FN,Y,κ Ω];exact h.mid.dst j hj hd
theorem HpA.put(hO:BO s v)(h:HpA top u s v){a x:Nat}(h1:s.cf.to<=a)(h2:a<top)(hm:∀i,i<sizes s.L->a=s.cf.to+i->s.is i=true)(hx:x<18446744073709551616):∃c:Nat->Nat,BO {s with c:=c} (v.st a x)/\HpA top (u.st a x) {s with c:=c} (v.st a x):=by
 have hl:=(h.ld hO h1 h2 hm).1;have N:=hO.mid.ok.st_ldV x hl;have hs:=hO.st;have hlm:=h.lm;have V:u.ldE a=0:=h.un a (by have:=hs.cf.ln;omega);have Y:=h.ok.st_ldV x V;have Z:=BQ.st v (a:Int) x
 have J:∀c:Nat->Nat,(∀i,i<sizes s.L->c i=if s.cf.to+i=a then x else s.c i)->HpA top (u.st a x) {s with c:=c} (v.st a x):=λc hc=>by
  refine⟨λp hpl=>by rw[Z.pt]at hpl⊢;exact h.pg p hpl,h.ah,by obtain⟨l,a1,a2,a3,a4⟩:=h.fr;exact⟨l,a1,a2,a3,by rw[Z.rm];exact a4⟩,h.lm,h.ok.st _ hx,λb hb=>by rw[FN];exact h.un b hb,λi hi=>?_,λb b1 b2=>?_⟩
  ·have hi:i<sizes s.L:=hi
   show (u.st a x).ldV ((s.cf.to+i:Nat):Int)=c i
   rw[Y,hc i hi,h.c i hi]
   grind
  ·rw[FN,N,Y];obtain⟨x1,x2⟩:=h.x b b1 b2
   simp_all
 rcases ω a (s.cf.to+sizes s.L)with h3|h3
 ·obtain⟨i,rfl⟩:∃i,a=s.cf.to+i:=⟨a-s.cf.to,by omega⟩;refine⟨λj=>if j=i then x else s.c j,hO.store Ω (hm i Ω rfl) hx,J _ λj hj=>?_⟩
  simp_all
 ·refine⟨s.c,hO.beyond h3 Ω hl hx,J _ λj hj=>?_⟩
  grind
theorem HpA.done(hO:BO s v)(h:HpA top u s v)(hall:∀i,i<sizes s.L->s.is i=true):(∀p,p<v.pt.length->(v.pt.getD p 0≠0↔∃a,s.cf.to<=a/\a<top/\a/s.pg=p))/\∀a:Nat,s.cf.to<=a->a<top->v.ldE a=0/\v.ldV a=u.ldV a:=by
 have hlm:=h.lm;refine⟨λp hp=>?_,λa h1 h2=>h.ld hO h1 h2 (λi hi _=>hall i hi)⟩;rw[h.pg p hp,Sl.pS_iff,Sl.pT_iff];constructor
 ·rintro(⟨i,hi,e1,e2⟩|⟨i,hi,e1,e2⟩|⟨a,a1,a2,a3⟩)
  ·have:=hall i hi;rw[show s.is i=false from e1]at this;cases this
  ·exact⟨_,ζM _ i,by omega,e2⟩
  ·exact⟨a,by omega,a2,a3⟩
 ·rintro⟨a,a1,a2,a3⟩;rcases ω a (s.cf.to+sizes s.L)with h3|h3
  ·exact .inr (.inl ⟨a-s.cf.to,by omega,hall _ Ω,by simp_all⟩)
  ·exact .inr (.inr ⟨a,h3,a2,a3⟩)
theorem XeJ(hO:BO s v)(hlm:top<=s.cf.lm)(hp:∀p,p<v.pt.length->(v.pt.getD p 0≠0↔s.pS (at_ s.mv) p=true\/s.pT top (at_ s.mv) p=true)):v.pl.used=s.U top (at_ s.mv):=by
 rw[hO.mid.ok.us];unfold Sl.U
 rw[hO.np.1,<-LT (λp=>by
  cases e1:s.pS (at_ s.mv) p with
  | false=>rfl
  | true=>
   cases e2:s.pT top (at_ s.mv) p with
   | false=>rfl
   | true=>exact absurd (Sl.pST hO.st hlm e1 e2) id)]
 refine CT λp hp'=>ψa.2 ?_
 simp_all
theorem ZG{n:Nat}(hn:n<=524288){f:Nat->Nat}(hf:∀a,f a<18446744073709551616):∃u:Vm,AF u/\(∀a:Nat,a<n->u.ldE a=0)/\∀a:Nat,a<n->u.ldV a=f a:=by
 obtain⟨u,h1,h2⟩:=Zig (m:=2048) Ω (π _) hf;exact⟨u,h1.ok,λa ha=>h1.al a Ω,λa ha=>h2 a Ω⟩
theorem Jap{c:Cf}{L:List Ob}{rs:List Int}{j:Nat}(hok:AF v)(hcf:G8 v.pl.pg v.n c)(hI:FB v rs c.fr c.tp L)(hfit:sizes L<=c.lm-c.to)(hfull:FV v L)(hU:EZ (AY v c L) v v' (c.fr/v.pl.pg) j)(hj:c.tp<=(c.fr/v.pl.pg+j)*v.pl.pg)
  (hm:∀p,p<v.pt.length->v.pt.getD p 0≠0->c.fr/v.pl.pg<=p/\p*v.pl.pg<c.tp) (hrm:v.pl.used+(c.ah+2)*(max 1 (c.bk/v.pl.pg)+3)<=v.pl.rm):BO (AY v c L) v'/\∃u,HpA (c.to+sizes L) u (AY v c L) v':=by
 have V:=O4 hok hcf hI hfit;have hO:=ZF hok hcf hI hfit hfull hU;have hP:=JlU hok hcf hI hfit hfull hU hj hm;have hlm:=hcf.lm;refine⟨hO,?_⟩
 obtain⟨u,u1,u2,u3⟩:=ZG (n:=v.n) hok.n2 (f:=λa=>if c.to<=a/\a<c.to+sizes L then (AY v c L).c (a-c.to)else 0) (λa=>by
  split
  ·exact V.cv_lt _ (hok.ldV_lt _)
  ·omega)
 have Z:∀p,p<v'.pt.length->(v'.pt.getD p 0≠0↔(AY v c L).pS (at_ (AY v c L).mv) p=true\/(AY v c L).pT (c.to+sizes L) (at_ (AY v c L).mv) p=true):=λp hp=>by
  rw[hP p hp,Sl.pS_iff,Sl.pT_iff];refine or_congr ⟨λ⟨i,h1,h2,h3⟩=>⟨i,h1,h3,h2⟩,λ⟨i,h1,h2,h3⟩=>⟨i,h1,h3,h2⟩⟩ ⟨λ⟨i,h1,h2,h3⟩=>.inl ⟨i,h1,h3,h2⟩,?_⟩;rintro(⟨i,h1,h2,h3⟩|⟨a,a1,a2,-⟩)
  ·exact⟨i,h1,h3,h2⟩
  ·have a1:c.to+sizes L<=a:=a1;omega
 have J:v'.pt.length=v.pt.length:=by rw[hU.ok.len,hok.len,hU.n,hU.pg]
 have hus:v'.pl.used<=v.pl.used:=by
  rw[hU.ok.us,hok.us];unfold nz;rw[J];refine IZ λp hp h=>?_;rw[bne_iff_ne]at h⊢;exact((hU.map p hp).1 h).1
 have Y:c.to+sizes L<=c.lm:=Ω
 refine⟨u,Z,by rw[RW,Nat.zero_sub];exact ζe _,⟨(AY v c L).mv,rfl,λ_ h=>h,?_,?_⟩,⟨π _,Y⟩,u1,u2,λi hi=>?_,λa a1 a2=>?_⟩
 ·show (AY v c L).mvd-(AY v c L).ft<=c.ah
  rw[RW,Nat.zero_sub];exact ζe _
 ·rw[<-XeJ hO Y Z,hU.rm]
  show v'.pl.used+(c.ah+2)*(max 1 (c.bk/v.pl.pg)+3)<=v.pl.rm
  omega
 ·have hi:i<sizes L:=hi
  show u.ldV ((c.to+i:Nat):Int)=_
  rw[u3 _ (by have:=hcf.ln;omega),μ ⟨by omega,by omega⟩,ξL]
 ·have a1:c.to+sizes L<=a:=a1;omega
theorem HpA.alloc(hO:BO s v)(h:HpA top u s v){p f k n:Nat}(hs255:p+f+k<=255)(hn:n=1+p+f+k)(hlm:top+n<=s.cf.lm)(he:BD v top ((top+n:Nat):Int)=0)(hG:BV v v1 (BT v top ((top+n:Nat):Int)))(hu:v.pl.used+(n/s.pg+2+(s.cf.ah+2)*(s.q+3))<=v.pl.rm):
  E5 v1 top ⟨p,f,k⟩=0/\BO s (mkVm v1 top ⟨p,f,k⟩)/\∃u',HpA (top+n) u' s (mkVm v1 top ⟨p,f,k⟩)/\(∀a:Nat,a<top->u'.ldV a=u.ldV a)/\u'.ldV top=C8 p f k/\∀i:Nat,i<p+f+k->u'.ldV ((top+1+i:Nat):Int)=0:=by
 have hs:=hO.st;have J:=hO.mid.ok;have Xc:=hs.pg.1;have hln:=hs.cf.ln;have htop:=h.lm;have hto:=hs.cf.to;have hvn:=hO.mid.n;have N:=hO.mid.pg
 have hF:∀b,b∈BT v top ((top+n:Nat):Int)↔(top/s.pg<=b/\b<=(top+n-1)/s.pg)/\v.pt.getD b 0=0:=λb=>by
  unfold BT;rw[μ ⟨he,by omega⟩,VWG J Ω Ω,N]
 have E:∀a:Nat,top<=a->a<top+n->v1.ldE a=0:=λa a1 a2=>by
  rw[hG.ldE J Ω]
  split
  ·rfl
  ·rename_i Z;rw[N,hF]at Z;have h1:v.pt.getD (a/s.pg) 0≠0:=λe=>Z ⟨⟨ζc a1,ζc Ω⟩,e⟩;have h2:=(J.split (a:=a) Ω).1;unfold Vm.ldE;rw[μ ⟨by omega,by omega⟩,show ((a:Nat):Int)/(v.pl.pg:Int)=((a/v.pl.pg:Nat):Int)from rfl,L7 h2,N,κ h1]
 obtain⟨m1,m2⟩:=XU (v:=v1) hG.ok (t:=top) (p:=p) (f:=f) (c:=k) Ω hs255 (λj hj=>by
  rw[show (top:Int)+(j:Int)=((top+j:Nat):Int)by omega]
  exact E _ Ω Ω)
 obtain⟨v2,Xd⟩:∃v2,v2=mkVm v1 top ⟨p,f,k⟩:=⟨_,rfl⟩;have V:EE s s.is (λi=>!s.is i) v1:=hO.mid.grow hs hG;have Y:DW v1 v2:=by rw[Xd];exact(DW.refl hG.ok).mkVm _ _
 rw[<-Xd]at m2⊢;have I:∀b:Int,v2.ldE b=v1.ldE b:=λb=>Y.sm.ldE b
 have Xb:BO s v2:=by
  refine⟨hs,Y.ok,Y.sm.n.trans V.n,Y.sm.pg.trans V.pg,λi hi hu=>?_,λi hi hd=>?_⟩
  ·have h3:=hs.srcs hi;have Xa:∀b:Nat,top<=b->b<top+n->AH s.L i≠b:=λb b1 b2 e=>hs.apart ⟨h3.1,h3.2.1⟩ ⟨show s.cf.to<=b by omega,by omega⟩ (by rw[e]);have h4:=V.src i hi hu;rw[I,m2,κ (λe=>Xa top (π _) Ω Ω),κ (λe=>Xa (AH s.L i) Ω Ω rfl)];exact h4
  ·rw[I,m2,κ Ω,κ Ω];exact V.dst i hi hd
 refine⟨m1,Xb,?_⟩
 obtain⟨u',u1,u2,u3⟩:=ZG (n:=s.n) hs.n2 (f:=λa=>if a<top then u.ldV a else v2.ldV a) (λa=>by
  split
  ·exact h.ok.ldV_lt _
  ·exact Y.ok.ldV_lt _)
 have B:v2.pt.length=v.pt.length:=by rw[Y.sm.pt,hG.len J]
 have G:∀b,b<v2.pt.length->(v2.pt.getD b 0≠0↔s.pS (at_ s.mv) b=true\/s.pT (top+n) (at_ s.mv) b=true):=λb hb=>by
  rw[B]at hb;rw[Y.sm.pt,hG.ma b hb,hF,h.pg b hb]
  have hT:s.pT (top+n) (at_ s.mv) b=true↔s.pT top (at_ s.mv) b=true\/(top/s.pg<=b/\b<=(top+n-1)/s.pg):=by
   rw[Sl.pT_iff,Sl.pT_iff,or_assoc];refine or_congr_right ⟨?_,?_⟩
   ·rintro⟨a,a1,a2,rfl⟩;rcases ω a top with h3|h3
    ·exact .inl ⟨a,a1,h3,rfl⟩
    ·exact .inr ⟨ζc h3,ζc Ω⟩
   ·rintro(⟨a,a1,a2,e⟩|⟨e1,e2⟩)
    ·exact⟨a,a1,by omega,e⟩
    ·rcases ω top (b*s.pg)with g|g
     ·refine⟨b*s.pg,by omega,?_,ξB _ Ω⟩;have:=(ξb (show 0<s.pg by omega)).1 e2;omega
     ·refine⟨top,by omega,by omega,?_⟩;have:=(ξb (show 0<s.pg by omega)).2 g;omega
  rw[hT];by_cases e:v.pt.getD b 0=0
  ·have Z:=mt (h.pg b hb).2 (λhh=>hh e);constructor
   ·rintro(g|g)
    ·exact absurd g Z
    ·exact .inr (.inr g.1)
   ·rintro(g|g|g)
    ·exact absurd (.inl g) Z
    ·exact absurd (.inr g) Z
    ·exact .inr ⟨g,e⟩
  ·have hy:=(h.pg b hb).1 e;exact⟨λ_=>hy.imp id .inl,λ_=>.inl hy⟩
 have D:top+n<=s.cf.lm:=hlm;refine⟨u',⟨G,h.ah,⟨s.mv,rfl,λ_ h=>h,h.ah,?_⟩,⟨by omega,hlm⟩,u1,u2,λi hi=>?_,λa a1 a2=>?_⟩,λa ha=>?_,?_,λi hi=>?_⟩
 ·rw[<-XeJ Xb D G,Y.sm.rm,hG.rm]
  have hus:v2.pl.used=v.pl.used+(BT v top ((top+n:Nat):Int)).length:=by
   rw[<-hG.us,Y.ok.us,hG.ok.us,Y.sm.pt]
  have Xe:(BT v top ((top+n:Nat):Int)).length<=n/s.pg+2:=by
   unfold BT;rw[μ ⟨he,by omega⟩];refine ζa (SD _ _ _) ?_;unfold CY;rw[N,show ((top+n:Nat):Int)-1=((top+n-1:Nat):Int)by omega,show ((top+n-1:Nat):Int)/(s.pg:Int)=(((top+n-1)/s.pg:Nat):Int)from rfl,show (top:Int)/(s.pg:Int)=((top/s.pg:Nat):Int)from rfl];have h3:=Xra (x:=top) (d:=n-1) Xc;have h4:=ζc (c:=s.pg) (show n-1<=n by omega);rw[show top+(n-1)=top+n-1 by omega]at h3;generalize (top+n-1)/s.pg=x1 at h3⊢;generalize top/s.pg=x2 at h3⊢;generalize (n-1)/s.pg=x3 at h3 h4;generalize n/s.pg=x4 at h4⊢;omega
  generalize n/s.pg=x4 at Xe hu;omega
 ·rw[u3 _ (by have:=(hs.dsts hi).2;omega),μ Ω];exact h.c i hi
 ·have hb:a<s.n:=Ω
  rw[I];rcases ω a top with h3|h3
  ·obtain⟨x1,x2⟩:=h.x a a1 h3;rw[m2,κ Ω,κ Ω,u3 a hb,μ h3,hG.ldV_all J Ω,hG.ldE J Ω];exact⟨by split <;> first|rfl|exact x1,x2⟩
  ·rw[u3 a hb,κ Ω];exact⟨E a h3 a2,rfl⟩
 ·rw[u3 a Ω,μ ha]
 ·rw[u3 top Ω,κ Ω,m2,μ rfl]
 ·rw[u3 _ Ω,κ Ω,m2,κ Ω,μ Ω]
end
section
attribute [local go_sem] Oper.semAt_some
theorem XWt{w:World}{m p1 b1 p2 b2 n:Nat}{L:List Ob}(hE:Ext w m p1 b1 p2 b2 n L)(hT:AP w){f:Nat}(hf:f<2147483648):
  Calls prog 130 #[pP m,iI 64,iI f] w λe w'=>∃ff B,e=.returned (.tuple #[pP ff,iI 0])/\Gr w w'/\Fwd w' w.heap.size ff n B f L:=by
 refine(VQ hE hT 64 f (by decide)).mono ?_;have hb:F2 (f:Int)=true:=by unfold F2;grind
 have hk:BJ 64=true:=by decide
 rintro e w' ⟨hg,(⟨h,-⟩|⟨-,ff,B,base,hB,hbase,rfl,hF⟩)⟩
 ·simp_all
 ·obtain rfl:f=base:=Ω
  grind
structure UmP(w8 wx:World)(S5:Nat->Prop)(q r g:Nat)(v2:Vm)(out:List Int)(qs q0 j pg tp:Nat):Prop where
 t:AB S5 w8 wx
 vm:∃Sj,(∀b,Sj b->plus S5 w8 b)/\AD wx Sj q (umN v2 qs (q0+j-qs))
 rt:AU wx r g out
 q1:∀i,i<j->(q0+i)*pg<tp
section
variable {w:World} {S:Nat->Prop} {q r g:Nat} {v:Vm} {rs:List Int}
theorem JZL(hV:AD w S q v)(hn:v.n≠0)(hR:AU w r g rs)(hT:AP w)(htS:¬S 1)(hrS:¬S r)(hgS:¬S g)(fr tp room:Int):
  Calls prog 87 #[pP q,pP r,iI fr,iI tp,iI room] w (YYf w S q r g v rs fr tp room):=by
 have HV:=hV.cut;have HR:=hR;have HT:=hT;have I:=(ϑ htS (ϑ hrS hgS));have Vu:=hT.lt;have hrl:=hR.lt;have hn2:=hV.ok.n2;have Yw:=hV.ok.page;have Mh:=hV.ok;have V:=((Gr.refl w).alloc (.cells #[.pointer (some ⟨q,0,none⟩)] 87));have Yf:=Rec.new w 87 [pP q];obtain⟨W0,Yg⟩:∃W0,W0=w.alloc (.cells #[.pointer (some ⟨q,0,none⟩)] 87):=⟨_,rfl⟩;have hsz0:W0.heap.size=w.heap.size+1:=by rw[Yg,γ]
 rw[show w.alloc (.cells ([.pointer (some ⟨q,0,none⟩)]:List Value).toArray 87)=W0 from Yg.symm]at Yf;rw[<-Yg]at V;have Mc:=Yf;have Je:=(JGL (HV.gr V) hn (HR.gr V) fr tp room);obtain⟨ce,hce⟩:∃ce:Int,ce=if G3 v.n fr tp room then 0 else 5:=⟨_,rfl⟩
 rw[<-hce]at Je;have Uw:=ι hce;have c0:=Yf.cc 0;have cl:=Yf.lt;have Mf:=hn;clear hV hR hT htS hrS hgS Yf hce hn;have hmf:∀(fn:Fn) (first cap:Array Value) (w:World),(Instr.makeFunc fn first cap).run prog w=.ok (.func fn first cap) w:=λ_ _ _ _=>rfl;refine(β (n:=5)).1 ?_;refine callsIn_of_wp_marks func87 rfl trivial ?_ rfl;simp only[ntmps87,ζV,ζH,ζ7,Nat.reduceAdd,Nat.reduceSub,ζL,ζK,ζZ,ζQ,ζN,ζu];gi_upto_region 1 with(fail);rw[<-Yg];clear Yg;by_cases Xk:G3 v.n fr tp room=true
 ·obtain⟨h1,h2,h3,h4,h5⟩:=Q7.1 Xk;obtain rfl:ce=0:=by rw[Uw.o,μ Xk]
  have Yr:=Xk;obtain⟨f,rfl⟩:∃f:Nat,fr=f:=⟨fr.toNat,by omega⟩;obtain⟨t,rfl⟩:∃t:Nat,tp=t:=⟨tp.toNat,by omega⟩;obtain⟨k,rfl⟩:∃k:Nat,room=k:=⟨room.toNat,by omega⟩;have Vp:=(Jf0 (HV.gr V) Mf (HR.gr V) (V.tab Vu HT) (λh=>I.1 h.1) f t k Ω Ω Ω);clear Xk
  gi_upto_region 5 with(first
   | (refine⟨trivial,?_⟩;gi_at_call 128;refine(β.2 (Je)).mono ?_;rintro e w1 ⟨rfl,rfl⟩)
   | (refine⟨trivial,?_⟩;gi_at_call 129;refine(β.2 (Vp)).mono ?_;rintro e w1 ⟨Zg,Yp,(⟨L,m,p1,b1,p2,b2,hI,rfl,hE,Jn,Zw,Jm,Zy,Jr⟩|⟨Vd,rfl⟩)⟩ <;> (have Yu:=Zg;have Uq:=Yp;have Jp:=(Mc.touch Zg (λh=>by have:=h.2;omega));have Vb:=((HR.gr V).touch Zg (λh=>I.2.1 h.1) (λh=>I.2.2 h.1));have y0:=Jp.cc 0;have yl:=Jp.lt;clear Zg Yp)))
  ·have HI:=hI;have hw1:=Yu.size;have Jz:=(HT.touch' ((V.touch _).trans Yu) (λh=>I.1 h.1));have Mg:=(XWt hE Jz (f:=f) Ω);have HX:=hE;have Ya:=(ϑ Jn (ϑ Zw (ϑ Jm (ϑ Zy Jr))));clear hI hE Jn Zw Jm Zy Jr;gi_upto_region 8 with(refine⟨trivial,?_⟩;gi_at_call 130;refine(β.2 (Mg)).mono ?_;rintro e w2 ⟨ff,B,rfl,Vg,hF⟩;have Ua:=ι Vg;have Ue:=ι hF;clear Vg hF);obtain⟨w3,Yt⟩:∃w3,w3=w2.alloc (.cells #[.pointer (some ⟨ff,0,none⟩)] 210):=⟨_,rfl⟩;have Za:=Rec.new w2 210 [pP ff];obtain⟨fb,Zc⟩:∃fb,fb=w2.heap.size:=⟨_,rfl⟩;have Zz:Gr w2 w3:=by rw[Yt];exact(Gr.refl w2).alloc _
   have Vh:w3.heap.size=fb+1:=by rw[Yt,γ,Zc]
   rw[show w2.alloc (.cells ([.pointer (some ⟨ff,0,none⟩)]:List Value).toArray 210)=w3 from Yt.symm]at Za;rw[<-Zc]at Za⊢;rw[<-Yt];have hz2:=Ua.o.size;have Ve:Hid (w1.heap.size<=fb/\fb+1=w3.heap.size/\w2.heap.size=fb):=⟨by omega,Vh.symm,Zc.symm⟩;have Ju:=Za;have Xe:=(Ua.o.trans Zz);have Zn:=Zz;have Ur:=(Jp.gr Xe);have Vn:=(Uq.gr Xe);have Uu:=(λ(W:World) (g:Gr w3 W)=>MZ (Ue.o.gr (Zn.trans g)));have Jw:Hid (∀j (hj:j<L.length),f+sizes (L.take j)<=L[j].1):=⟨λj hj=>RF HI.1.mkd.good (fr:=f) (λo ho=>by have:=HI.2 o ho;omega) hj⟩;clear Yt Zc Za Zz y0 yl c0 cl
   have Mi:f+sizes L<=t:=by
    have hI:=HI;rcases ζB L.length with h0|h0
    ·have:L=[]:=ζz h0;subst this;simp only[sizes];omega
    ·have hj:L.length-1<L.length:=Ω
     have e1:=Jw.o _ hj;have e2:=hI.2 _ (χ hj);have e3:=FF hj;rw[show L.length-1+1=L.length by omega,ζ3]at e3;omega
   have Zf:=(λ(W:World) (g:Gr w3 W)=>YrC (Vn.gr g) f (f+sizes L) Ω Ω);obtain⟨nn,Jk⟩:∃nn,nn=sizes L:=⟨_,rfl⟩;have Yb:=ι Jk;obtain⟨E,hE⟩:∃E,E=BD v f ((f+nn:Nat):Int):=⟨_,rfl⟩;rw[<-Jk]at Zf Uu Mi;rw[<-hE]at Zf;have HE:=ι hE;have Xm:((f+nn:Nat):Int)=(f:Int)+(nn:Int):=by push_cast;rfl
   rw[Xm]at Zf;have Yc:=ι Xm;clear Jk hE Xm;have p0:=Ur.cc 0;have Up:=Ju.cc 0;obtain⟨Sx,Xa,HS⟩:=AA.start λW'=>W'.cell? ⟨w.heap.size,0,none⟩=some (pP q)/\W'.cell? ⟨fb,0,none⟩=some (pP ff);have x1:=AA.fact Xa λ_ h=>h.1;have x2:=AA.fact Xa λ_ h=>h.2;have G:=HS.o (w3.drew) (⟨p0,Up⟩);have Xj:Inhabited (AA Sx):=⟨⟨_,G⟩⟩;clear Xa;refine GB Sx 6 [([0,1,2],3),([],4)] [5] GM (by kernel_rfl) (by kernel_rfl) G ?_;refine C4 ?_
   try simp only[AC,ζ,ξ]
   repeat(go_big_quiet_step (fail))
   refine ψ ?_;gi_wp2_with((refine⟨trivial,?_⟩;gi_at_call 131;refine(β.2 (Uu _ (Gr.refl w3).drew)).mono ?_;rintro e w4 ⟨rfl,Uz⟩;have Xg:=ι ((Gr.refl w3).drew.trans Uz);have Ub:=ι (Ur.gr Xg.o);have Zl:=ι (Ju.gr Xg.o);clear Uz));refine⟨.inr (AA.of (HS.o _ (⟨Ub.o.cc 0,Zl.o.cc 0⟩))),?_⟩;refine C4 ?_
   try simp only[AC,ζ,ξ]
   repeat(go_big_quiet_step (fail))
   refine ψ ?_;gi_wp2_with((refine⟨trivial,?_⟩;gi_at_call 122;refine(β.2 (Zf _ Xg.o)).mono ?_;rintro e w5 ⟨rfl,Zd,Uy⟩;have Ym:=ι Zd;have Zq:=ι Uy;have Jy:=ι (Ub.o.touch Zd (λh=>by have:=h.1.2;omega));have Zk:=ι (Zl.o.touch Zd (λh=>by have:=h.1.2;have:=Ve.o;omega));clear Zd Uy));refine⟨.inr (AA.of (HS.o _ (⟨Jy.o.cc 0,Zk.o.cc 0⟩))),?_⟩;refine GE ?_
   try simp only[AC,ζ,ξ]
   repeat(go_big_quiet_step (fail))
   refine ψ ?_;refine τ ?_;clear x1 x2 G Xj;clear HS Sx;clear p0 Up;have Jt:=ι ((Vb.gr (Xe.trans Xg.o)).touch Ym.o (λh=>I.2.1 h.1.1) (λh=>I.2.2 h.1.1));have Yi:Hid (AB S w w5):=⟨(((V.touch _).trans (Yu.mono (λi _ h=>h.1))).trans ((Xe.trans Xg.o).touch _)).trans (Ym.o.mono (λi _ h=>h.1.1))⟩;by_cases Yv:E=0
   ·subst Yv;obtain⟨v1,Yo,Yp⟩:=Zq.o;rw[<-Yc.o]at Yo;have Ze:=HE.o;rw[Yb.o]at Yo Ze;obtain⟨cx,-⟩:=YNw Mh HI Ω Ω Ω Ze.symm Yo;have Yy:=ι cx;have Vf:=ι Yo;have Uj:=ι Ze;obtain⟨S5,Jf⟩:∃S5,S5=AE (plus (AE (AE S w) W0) w4) w5:=⟨_,rfl⟩;have hz4:=Xg.o.size;have hz5:=Ym.o.size
    have Xd:Hid (∀b,S5 b->(S b/\b<w.heap.size\/w4.heap.size<=b)/\b<w5.heap.size):=⟨λb hb=>by
     rw[Jf]at hb
     exact⟨hb.1.imp (λh=>h.1) id,hb.2⟩⟩
    have Vo:Hid (AD w5 S5 q v1):=⟨by rw[Jf];exact Yp.cut⟩;have c13l:=HX.hm;have Jv:Ext w5 m p1 b1 p2 b2 v.n L:=(HX.gr (Xe.trans Xg.o)).touch Ym.o (λh=>by have:=h.1.2;have:=Ya.1;omega) (λh=>by have:=h.1.2;have:=Ya.2.1;omega) (λh=>by have:=h.1.2;have:=Ya.2.2.1;omega) (λh=>by have:=h.1.2;have:=Ya.2.2.2.1;omega) (λh=>by have:=h.1.2;have:=Ya.2.2.2.2;omega);have Mj:=ι Jv;have Zm:=ι (HT.touch' Yi.o I.1);have Ux:AB (λi=>i<w.heap.size\/w3.heap.size<=i) w2 w5:=((Zn.trans Xg.o).touch _).trans (Ym.o.mono (λi _ h=>.inl h.1.2));have Mb:=ι Ux;clear Yo Ze Yp cx Jf Jv Ux;gi_upto_region 11 with(fail);gi_wp2_with(refine⟨trivial,?_⟩;gi_at_call 132;refine(β.2 (J3 (some ⟨m,0,none⟩))).mono ?_;rintro e w6 ⟨rfl,rfl⟩);obtain⟨W6,Yh⟩:∃W6,W6=w5.alloc (.cells #[.pointer (some ⟨m,0,none⟩)] 103):=⟨_,rfl⟩;have Xt:Gr w5 W6:=by rw[Yh];exact(Gr.refl w5).alloc _
    have hs6:W6.heap.size=w5.heap.size+1:=by rw[Yh,γ]
    have k6:W6.cell? ⟨w5.heap.size,0,none⟩=some (pP m):=by rw[Yh];exact(Boxed.new w5 103 (pP m)).cell
    rw[<-Yh];clear Yh;have hfz:=Ve.o;have Zs:Hid (∀W,AB (λi=>i<w.heap.size\/w3.heap.size<=i) W6 W->Fwd W w1.heap.size ff v.n B f L):=⟨λW tt=>Ue.o.touch ((Mb.o.trans (Xt.touch _)).trans tt) (λkk h1 h2 h=>by omega)⟩
    have Z:Hid (∀b,w.heap.size<=b->b<w4.heap.size->¬(S5 b\/W6.heap.size<=b)):=⟨λb h1 h2 h=>by
     rcases h with h|h
     ·have:=(Xd.o b h).1;omega
     ·omega⟩
    have Xh:Hid (∀b,¬S b->b<w.heap.size->¬(S5 b\/W6.heap.size<=b)):=⟨λb h1 h2 h=>by
     rcases h with h|h
     ·rcases(Xd.o b h).1 with h'|h'
      ·exact h1 h'.1
      ·omega
     ·omega⟩
    have Zi:Hid (∀b,S5 b\/W6.heap.size<=b->b<w.heap.size\/w3.heap.size<=b):=⟨λb h=>by
     rcases h with h|h
     ·have:=(Xd.o b h).1;omega
     ·omega⟩
    have hml:=HX.hm;have hp1l:=HX.v1.hp;have hb1l:=HX.v1.hb;have hp2l:=HX.v2.hp;have hb2l:=HX.v2.hb;obtain⟨Jn,Zw,Jm,Zy,Jr⟩:=Ya;have Ji:=ι (Jy.o.gr Xt);have Yd:=ι (Zk.o.gr Xt);have Vt:=ι (Jt.o.gr Xt);have Ul:=Zm.o.lt;have Zb:=ι Xt;have Vq:=ι k6;clear k6 Xt
    have tI:∀(j:Nat) A B',(AB (λi=>S5 i\/W6.heap.size<=i) W6 A/\j<=L.length/\∃Xc,AD A S5 q Xc/\Pkd v1 Xc L f (sizes (L.take j)))->AB (λi=>W6.heap.size<=i/\i<W6.heap.size+2+4) A B'->(AB (λi=>S5 i\/W6.heap.size<=i) W6 B'/\j<=L.length/\∃Xc,AD B' S5 q Xc/\Pkd v1 Xc L f (sizes (L.take j))):=λj A B' h tt=>by
     obtain⟨h1,h2,Xc,h3,h4⟩:=h;exact⟨h1.trans (tt.mono (λi _ h=>.inr h.1)),h2,Xc,h3.touch tt (λi hi _ h=>by have:=(Xd.o i hi).2;omega),h4⟩
    refine LQ (K:=4) (s0:=0) rfl Ω (gf:=173) (lb:=#[pP w5.heap.size]) rfl trivial (enters_of func173 (by kernel_rfl) rfl)
     (OO _ w5.heap.size m p1 b1 p2 b2 v.n L _) (λ_=>rfl)
     (λ(j:Nat) A=>AB (λi=>S5 i\/W6.heap.size<=i) W6 A/\j<=L.length/\∃Xc,AD A S5 q Xc/\Pkd v1 Xc L f (sizes (L.take j))) (λ_ _=>False) tI (λ_ _ _ h _=>h)
     (λj A h=>⟨(Mj.o.gr Zb.o).touch h.1 (Z.o _ Ω Ω) (Z.o _ Ω Ω) (Z.o _ Ω Ω) (Z.o _ Ω Ω) (Z.o _ Ω Ω),(Zb.o.tab Ul Zm.o).touch' h.1 (Xh.o _ I.1 Ω),(h.1.cell Ω (λh=>by
      rcases h with h|h
      ·have:=(Xd.o _ h).2;omega
      ·omega) 0).trans Vq.o,h.2.1⟩)
     ⟨AB.refl _ _,ζe _,v1,Vo.o.gr Zb.o,by simpa[sizes]using Pkd.zero Yy.o.ok L f⟩ ?round ?done (λ_ _ _ _ h _=>h.elim)
    case round=>
     intro lp j x W7 hsz7 Jq Xl;dsimp only[GQ];gi_wp2;refine⟨Gr.refl _,λW8 Xp hI8=>?_⟩
     have Yz:j<L.length:=by
      rcases ω j L.length with h|h
      ·exact h
      ·unfold EQ at Xl;rw[ζv h]at Xl;cases Xl
     obtain rfl:x=L[j]:=by unfold EQ at Xl;rw[ζb Yz]at Xl;exact(Option.some.inj Xl).symm
     obtain⟨Ye,-,vx,Uk,Uh⟩:=hI8;have c5:=(Ji.o.touch Ye (Z.o _ Ω Ω)).cell (j:=0) rfl;have Jh:=(Yd.o.touch Ye (Z.o _ Ω Ω)).cell (j:=0) rfl;have Vz:=ι (Q2p Uk (λW tt=>Zs.o W ((Ye.mono (λi _ h=>Zi.o i h)).trans (tt.mono (λi _ h=>Zi.o i (.inl h.1))))) Yy.o Yz Uh);have Xx:=ι Ye;have Vv:=ι (FF Yz);clear Jq Xl Xp Ye Uk Uh;gi_wp2_with(refine⟨trivial,?_⟩;gi_at_call 133;refine(CallsIn.inRound lp (β.2 (Vz.o))).mono ?_;rintro e w7 ⟨rfl,Ud,v7,Vi,Ma⟩);refine⟨Ud.mono (λi _ h=>.inl (by have:=(Xd.o i h.1).2;omega)),j+1,rfl,Xx.o.trans (Ud.mono (λi _ h=>.inl h.1)),Yz,v7,Vi.mono (λb h=>h.1),?_⟩;rw[Vv.o];exact Ma
    case done=>
     rintro D j W7 hD rfl Jq hK;obtain⟨Xf,-,v2,Uo,Zv⟩:=Jq;rw[ζ3]at Zv;have c5:=(Ji.o.touch Xf (Z.o _ Ω Ω)).cell (j:=0) rfl;have Jh:=(Yd.o.touch Xf (Z.o _ Ω Ω)).cell (j:=0) rfl;have Xn:∀W,AB (λi=>i<w.heap.size\/w3.heap.size<=i) W7 W->Fwd W w1.heap.size ff v.n B f L:=λW tt=>Zs.o W ((Xf.mono (λi _ h=>Zi.o i h)).trans tt);have Vy:=ι (ZKw (λW tt=>Xn W (tt.mono (λi _ h=>.inl Ω))) Jh Ω (Vt.o.touch Xf (Xh.o r I.2.1 Ω) (Xh.o g I.2.2 Ω)) (Vco Yy.o));have Md:=ι (Ji.o.touch Xf (Z.o _ Ω Ω));have Va:=ι (Yd.o.touch Xf (Z.o _ Ω Ω));have Uf:=ι Xn;have Vk:=ι Xf;have Vr:=ι Uo;have Um:=ι Zv;have HK:=ι hK;have HD:=ι hD;have hz7:=Xf.size;clear c5 Jh Xn Xf Uo Zv hK hD;gi_upto_region 16 with(refine⟨trivial,?_⟩;gi_at_call 123;refine(β.2 (Vy.o)).mono ?_;rintro e w8 ⟨rfl,Xp,Js⟩;have Xx:=ι Xp;have Vj:=ι Js;have Jd:=ι (Md.o.touch Xp (λh=>by omega));have Ug:=ι (Va.o.touch Xp (λh=>by omega));have hz8:=Xp.size;clear Xp Js);have Uc:Hid (∀W,AB (λi=>i<w.heap.size\/w3.heap.size<=i) w8 W->Fwd W w1.heap.size ff v.n B f L):=⟨λW tt=>Uf.o W ((Xx.o.mono (λi _ h=>.inl Ω)).trans tt)⟩;have Yj:¬S5 g:=λh=>Xh.o g I.2.2 Ω (.inl h);have Ut:=ι (Vr.o.touch Xx.o (λb hb _ h=>Yj (h▸hb)));have Ui:=ι Yj;clear Yj;have Xy:Hid (D=W6.heap.size/\D<W7.heap.size/\D≠g/\¬S5 D):=⟨HD.o,(ζn.1 HK.o).1,by rw[HD.o];omega,λh=>by rw[HD.o]at h;have:=(Xd.o _ h).2;omega⟩;have Me:Hid (w8.heap[D]?=some (.deferred (some []))):=⟨(Xx.o.block D Xy.o.2.1 Xy.o.2.2.1).trans HK.o⟩;have Yq:v2.pl.pg=v.pl.pg:=Um.o.sm.pg.trans Vf.o.pg;have Zx:=ι (λ(W:World) (g':Gr w8 W)=>IY (Ut.o.gr g'));rw[Yq]at Zx;obtain⟨pg,Xq⟩:∃pg,pg=v.pl.pg:=⟨_,rfl⟩;have Yl:=ι Xq;rw[<-Xq]at Zx Yw;have Vx:Hid (v2.pl.pg=pg):=⟨by rw[Yq,Xq]⟩;obtain⟨q0,Yn⟩:∃q0,q0=f/pg:=⟨_,rfl⟩;have Zu:q0*pg<=f:=by rw[Yn];exact ζj f pg
     have Jl:=ι Yn;have g1:((f:Int).tdiv (pg:Int))=(q0:Int):=by rw[Yn];rfl
     have g2:((f:Int)/(pg:Int))=(q0:Int):=by rw[Yn];rfl
     have hpg0:(pg:Int)≠0:=Ω
     have hq0n:q0<=524288:=by have:=ζ2 f pg;omega
     have Vw:=ι Zu;obtain⟨qs,Jc⟩:∃qs,qs=I6 (f+nn) pg:=⟨_,rfl⟩;have Jg:=ι Jc
     have Zp:q0<=qs:=by
      rcases ω qs q0 with h|h
      ·exfalso;have h1:=(MU (nt:=f+nn) (q:=qs) Yw.1).2 (by rw[Jc];exact π _);have h2:(qs+1)*pg<=q0*pg:=ζi _ Ω;rw[ξj,ξF]at h2;omega
      ·exact h
     have HQL:=ι Zp;have hft2:f+nn<=1048576:=Ω
     have Jx:Hid (UmP w8 w8 S5 q r g v2 (rs.map (toV L f)) qs q0 0 pg t):=⟨AB.refl _ _,⟨S5,λb h=>.inl h,by rw[show q0+0-qs=0 by omega];exact Ut.o⟩,Vj.o,λi hi=>absurd hi (ζI _)⟩;have u5:=Jd.o.cc 0;have Yx:=Jd.o.lt;clear Xq Yn Yq Zu Jc Zp;gi_wp2_with(refine⟨trivial,?_⟩;gi_at_call 126;refine(β.2 (Zx.o _ (Gr.refl w8))).mono ?_;rintro e w9 ⟨rfl,rfl⟩);clear u5 Yx
     gi_loopw [20] (λs20 wx=>∃j:Nat,Hid (UmP w8 wx S5 q r g v2 (rs.map (toV L f)) qs q0 j pg t)/\s20=iI ((q0+j:Nat):Int)) (λs20 _=>t-(intOf s20).toNat*pg)
     case atStart=>exact⟨0,Jx,rfl⟩
     case round=>
      clear Jx;obtain⟨j,HU,rfl⟩:=hrel;obtain⟨Sj,Un,Jo⟩:=HU.o.vm;have Jj:=λ(W:World) (g':Gr wr W)=>IY (Jo.gr g');rw[(LU v2 qs _).2.1,Vx.o]at Jj;have Xi:=ι Jj;have Ja:=ι Jo;have Xo:=ι Un;have Xw:=ι (Jd.o.touch HU.o.t (λh=>Z.o _ (π _) Ω (.inl h)));have Xr:=ι (Ug.o.touch HU.o.t (λh=>Z.o fb Ω Ω (.inl h)));have Xs:=ι (λ(W:World) (g':Gr wr W)=>MZ (Uc.o W ((HU.o.t.mono (λi _ h=>Zi.o i (.inl h))).trans (g'.touch _))));rw[<-Yb.o]at Xs;obtain⟨qq,Yk⟩:∃qq,qq=q0+j:=⟨_,rfl⟩;obtain⟨pp,Xu⟩:∃pp,pp=qq*pg:=⟨_,rfl⟩
      have hppb:pp<=1048576:=by
       rcases ζB j with h0|h0
       ·rw[Xu,Yk,h0,ξn];have:=Vw.o;omega
       ·have:=HU.o.q1 (j-1) Ω;have e:pp=(q0+(j-1))*pg+pg:=by rw[Xu,Yk,show q0+j=(q0+(j-1))+1 by omega,ξj,ξF]
        omega
      have hqb:qq<=pp:=by rw[Xu];exact ξ3 _ Ω
      have hmul:((qq:Int)*(pg:Int))=(pp:Int):=by rw[Xu];push_cast;rfl
      have J:=ι (ϑ Yk Xu);rw[<-Yk];clear Jj Jo Un Yk Xu;have u5:=Xw.o.cc 0;have Yx:=Xw.o.lt;have u15:=Xr.o.cc 0;have Zo:=Xr.o.lt;by_cases Xz:pp<t
      ·have e1:decide ((pp:Int)<(t:Int))=true:=θ Ω;have e2:decide (pp<t)=true:=θ Xz;have Xv:=ι Xz;clear Xz;by_cases Zh:f+nn<=pp
       ·have e3:decide ((f:Int)+(nn:Int)<=(pp:Int))=true:=θ Ω;have Jb:=ι Zh;clear Zh;gi_upto_region 19 with(refine⟨trivial,?_⟩;gi_at_call 126;refine(β.2 (Xi.o _ (Gr.refl wr))).mono ?_;rintro e Xb ⟨rfl,rfl⟩);obtain⟨Sx,Xa,HS⟩:=AA.start λW'=>W'.cell? ⟨w.heap.size,0,none⟩=some (pP q)/\W'.cell? ⟨fb,0,none⟩=some (pP ff);have x1:=AA.fact Xa λ_ h=>h.1;have x2:=AA.fact Xa λ_ h=>h.2;have G:=HS.o (wr.drew) (⟨u5,u15⟩);have Xj:Inhabited (AA Sx):=⟨⟨_,G⟩⟩;clear Xa;refine GB Sx 7 [([0,1,4],2),([3],5)] [6] GM (by kernel_rfl) (by kernel_rfl) G ?_;refine C4 ?_
        try simp only[AC,ζ,ξ]
        repeat(go_big_quiet_step (fail))
        refine ψ ?_;gi_wp2_with((refine⟨trivial,?_⟩;gi_at_call 126;refine(β.2 (Xi.o _ (Gr.refl wr).drew)).mono ?_;rintro e Xb ⟨rfl,rfl⟩));refine⟨.inr (AA.of (HS.o _ (⟨u5,u15⟩))),?_⟩;refine C4 ?_
        try simp only[AC,ζ,ξ]
        repeat(go_big_quiet_step (fail))
        refine ψ ?_;gi_wp2_with((refine⟨trivial,?_⟩;gi_at_call 131;refine(β.2 (Xs.o _ (Gr.refl wr).drew)).mono ?_;rintro e Xb ⟨rfl,N⟩;have Y:=ι ((Gr.refl wr).drew.trans N);have z5:=(Xw.o.gr Y.o).cell (j:=0) rfl;have Vl:=(Xw.o.gr Y.o).lt;have Ys:=(Xr.o.gr Y.o).cell (j:=0) rfl;clear N));refine⟨.inr (AA.of (HS.o _ (⟨z5,Ys⟩))),?_⟩;refine GE ?_
        try simp only[AC,ζ,ξ]
        repeat(go_big_quiet_step (fail))
        refine ψ ?_;refine τ ?_;clear x1 x2 G Xj;clear HS Sx;clear u5 Yx u15 Zo Ys;gi_wp2_with(refine⟨trivial,?_⟩;gi_at_call 127;refine(β.2 (NB (Ja.o.gr Y.o) (qq:Int))).mono ?_;rintro e w11 ⟨rfl,Zr,Zt⟩;have Zj:=ι Zr;have Uv:=ι Zt;clear Zr Zt);go_roundw
        case rel=>
         have hzx:=HU.o.t.size;have hzy:=Y.o.size;refine⟨j+1,⟨⟨?_,⟨plus Sj Xb,λb hb=>?_,?_⟩,?_,λi hi=>?_⟩⟩,?_⟩
         ·exact(HU.o.t.trans (Y.o.touch _)).trans' Zj.o (λb hb h=>(Xo.o b h).elim id (λh=>by omega))
         ·rcases hb with h|h
          ·exact Xo.o b h
          ·right;omega
         ·have h1:=Uv.o;have h2:=(MU (nt:=f+nn) (q:=qq) Yw.1).1 (by rw[<-J.o.2];exact Jb.o);rw[<-Jg.o]at h2;have e:q0+(j+1)-qs=(q0+j-qs)+1:=by have:=J.o.1;omega
          rw[e]
          show AD _ _ _ ((umN v2 qs (q0+j-qs)).um ((qs+(q0+j-qs):Nat):Int))
          rw[show qs+(q0+j-qs)=qq by have:=J.o.1;omega];exact h1
         ·refine(HU.o.rt.gr Y.o).touch Zj.o (λh=>?_) (λh=>?_)
          ·exact(Xo.o _ h).elim (λh=>Xh.o r I.2.1 Ω (.inl h)) (λh=>by omega)
          ·exact(Xo.o _ h).elim Ui.o (λh=>by omega)
         ·rcases ω i j with h|h
          ·exact HU.o.q1 i h
          ·obtain rfl:i=j:=Ω
           rw[<-J.o.1,<-J.o.2];exact Xv.o
         ·rw[show q0+(j+1)=qq+1 by rw[J.o.1];omega]
          go_num
        case measure=>
         have h1:=Xv.o;have h2:=J.o.2;simp only[intOf];rw[show ((qq:Int)+1).toNat=qq+1 by omega,η,ξj,ξF,<-h2];omega
       ·have e3:decide ((f:Int)+(nn:Int)<=(pp:Int))=false:=φ Ω;have Jb:=ι Zh;clear Zh;gi_upto_region 19 with(refine⟨trivial,?_⟩;gi_at_call 126;refine(β.2 (Xi.o _ (Gr.refl wr))).mono ?_;rintro e Xb ⟨rfl,rfl⟩);obtain⟨Sx,Xa,HS⟩:=AA.start λW'=>W'.cell? ⟨w.heap.size,0,none⟩=some (pP q)/\W'.cell? ⟨fb,0,none⟩=some (pP ff);have x1:=AA.fact Xa λ_ h=>h.1;have x2:=AA.fact Xa λ_ h=>h.2;have G:=HS.o (wr.drew) (⟨u5,u15⟩);have Xj:Inhabited (AA Sx):=⟨⟨_,G⟩⟩;clear Xa;refine GB Sx 7 [([0,1,4],2),([3],5)] [6] GM (by kernel_rfl) (by kernel_rfl) G ?_;refine C4 ?_
        try simp only[AC,ζ,ξ]
        repeat(go_big_quiet_step (fail))
        refine ψ ?_;gi_wp2_with((refine⟨trivial,?_⟩;gi_at_call 126;refine(β.2 (Xi.o _ (Gr.refl wr).drew)).mono ?_;rintro e Xb ⟨rfl,rfl⟩));refine⟨.inr (AA.of (HS.o _ (⟨u5,u15⟩))),?_⟩;refine C4 ?_
        try simp only[AC,ζ,ξ]
        repeat(go_big_quiet_step (fail))
        refine ψ ?_;gi_wp2_with((refine⟨trivial,?_⟩;gi_at_call 131;refine(β.2 (Xs.o _ (Gr.refl wr).drew)).mono ?_;rintro e Xb ⟨rfl,N⟩;have Y:=ι ((Gr.refl wr).drew.trans N);have z5:=(Xw.o.gr Y.o).cell (j:=0) rfl;have Vl:=(Xw.o.gr Y.o).lt;have Ys:=(Xr.o.gr Y.o).cell (j:=0) rfl;clear N));refine⟨.inr (AA.of (HS.o _ (⟨z5,Ys⟩))),?_⟩;refine GE ?_
        try simp only[AC,ζ,ξ]
        repeat(go_big_quiet_step (fail))
        refine ψ ?_;refine τ ?_;clear x1 x2 G Xj;clear HS Sx;clear u5 Yx u15 Zo Ys;gi_wp2;go_roundw
        case rel=>
         refine⟨j+1,⟨⟨HU.o.t.trans (Y.o.touch _),⟨Sj,Xo.o,?_⟩,HU.o.rt.gr Y.o,λi hi=>?_⟩⟩,?_⟩
         ·have h1:=Ja.o.gr Y.o
          have h2:¬qs<=qq:=λh=>Jb.o (by
           rw[J.o.2]
           exact(MU Yw.1).2 (by rw[<-Jg.o];exact h))
          have e:q0+(j+1)-qs=q0+j-qs:=by have:=J.o.1;omega
          rw[e];exact h1
         ·rcases ω i j with h|h
          ·exact HU.o.q1 i h
          ·obtain rfl:i=j:=Ω
           rw[<-J.o.1,<-J.o.2];exact Xv.o
         ·rw[show q0+(j+1)=qq+1 by rw[J.o.1];omega]
          go_num
        case measure=>
         have h1:=Xv.o;have h2:=J.o.2;simp only[intOf];rw[show ((qq:Int)+1).toNat=qq+1 by omega,η,ξj,ξF,<-h2];omega
      ·have e1:decide ((pp:Int)<(t:Int))=false:=φ Ω;have e2:decide (pp<t)=false:=φ Xz;have Xv:=ι Xz;clear Xz
       gi_wp2_with(first
        | (refine⟨trivial,?_⟩;gi_at_call 126;refine(β.2 (Xi.o _ (Gr.refl wr))).mono ?_;rintro e Xb ⟨rfl,rfl⟩)
        | (refine⟨trivial,?_⟩;gi_at_call 131;refine(β.2 (Xs.o _ (Gr.refl wr))).mono ?_;rintro e Xb ⟨rfl,N⟩;have Y:=ι N;clear N))
       have Vs:Xb.heap[D]?=some (.deferred (some [])):=by
        have h1:=HU.o.t.size;rw[Y.o.block (by have:=Xy.o.2.1;omega),HU.o.t.block D (by have:=Xy.o.2.1;omega) Xy.o.2.2.2];exact Me.o
       refine⟨by simp,.inl ⟨_,_,rfl,run_takeDeferred Vs,?_⟩⟩;have tt:=DU Xb D (.deferred none);have hd:=Xy.o;have h8x:=HU.o.t.size;refine⟨.tuple #[iI ((f:Int)+(nn:Int)),iI 0],?_,?_,.inr ⟨Yr,.inr ⟨L,f,t,HI,rfl,rfl,.inr ⟨Uj.o.symm,?_,v1,v2,j,⟨Vf.o,Yy.o,Um.o,?_,?_⟩,?_,?_⟩⟩⟩⟩
       ·simp[results,f87,go_sem]
       ·have a1:=Yi.o.trans (Zb.o.touch S)
        have a2:=a1.trans' Vk.o (λb hb h=>by
         rcases h with h|h
         ·rcases(Xd.o b h).1 with h'|h'
          ·exact h'.1
          ·omega
         ·omega)
        have a3:=(a2.mono (T:=λb=>b=g\/S b) (λ_ _ h=>.inr h)).trans (Xx.o.mono (λi _ h=>.inl h))
        have a4:=a3.trans' HU.o.t (λb hb h=>by
         rcases(Xd.o b h).1 with h'|h'
         ·exact .inr h'.1
         ·omega)
        exact(a4.trans (Y.o.touch _)).trans' tt (λb hb h=>by omega)
       ·rw[<-Yb.o];push_cast;rfl
       ·intro i hi;rw[<-Yl.o,<-Jl.o];exact HU.o.q1 i hi
       ·rw[<-Yl.o,<-Jl.o,<-J.o.1,<-J.o.2];have:=Xv.o;omega
       ·unfold EY;rw[<-Yb.o,<-Yl.o,<-Jg.o,<-Jl.o];refine((Ja.o.gr Y.o).touch tt (λb hb _ h=>?_)).mono (λb hb=>?_)
        ·rcases Xo.o b hb with h'|h'
         ·exact hd.2.2.2 (h▸h')
         ·omega
        ·rcases Xo.o b hb with h'|h'
         ·exact(Xd.o b h').1.imp (λh=>h.1) (λh=>by omega)
         ·right;omega
       ·exact(HU.o.rt.gr Y.o).touch tt (λh=>by omega) (λh=>hd.2.2.1 h.symm)
   ·have d0:(E !=0)=true:=by simpa using Yv
    have Us:=ι Yv;clear Yv;gi_wp2;refine⟨.tuple #[iI 0,iI E],?_,Yi.o.mono (λi _ h=>.inr h),.inr ⟨Yr,.inr ⟨L,f,t,HI,rfl,rfl,.inl ⟨?_,?_,?_,Jt.o⟩⟩⟩⟩
    ·simp[results,f87,go_sem]
    ·rw[<-Yb.o,<-HE.o];exact Us.o
    ·rw[<-Yb.o,<-HE.o]
    ·have hF:BT v f ((f+nn:Nat):Int)=[]:=by unfold BT;rw[κ (λh=>Us.o (HE.o.trans h.1))]
     obtain⟨v',hg,hv⟩:=Zq.o;rw[<-Yc.o,hF]at hg;have h1:=Yu.size;have h2:=(Xe.trans Xg.o).size;exact⟨v',hg,hv.mono (λb hb=>hb.elim (λh=>.inl h.1.1) (λh=>.inr Ω))⟩
  ·have Vc:=ι Vd;clear Vd;gi_wp2;refine⟨.tuple #[iI 0,iI 25],?_,?_,.inr ⟨Yr,.inl ⟨Vc.o,rfl,?_,?_⟩⟩⟩
   ·simp[results,f87,go_sem]
   ·exact(V.touch _).trans (Yu.mono (λi _ h=>.inr h.1))
   ·exact Uq.mono (λb h=>h.1.1)
   ·exact Vb
 ·obtain rfl:ce=5:=by rw[Uw.o,κ Xk]
  have Yr:=Xk;clear Xk;gi_wp2_with(refine⟨trivial,?_⟩;gi_at_call 128;refine(β.2 (Je)).mono ?_;rintro e w1 ⟨rfl,rfl⟩);refine⟨.tuple #[iI 0,iI 5],?_,?_,.inl ⟨by simpa using Yr,rfl,?_,?_⟩⟩
  ·simp[results,f87,go_sem]
  ·exact V.touch _
  ·exact(HV.gr V).mono (λb h=>h.1)
  ·exact HR.gr V
end
end
section
variable {w:World} {A0 A:Option Addr} {cp cr M:Nat} {v:Vm} {rs O:List Int} {L:List Ob}
end
def us(l:List Nat):List Value:=l.map λx=>uU (x:Nat)
section
variable {w:World} {A0 A:Option Addr} {cp cr M:Nat} {v:Vm} {rs O:List Int} {L:List Ob}
end
theorem TT{v v1:Vm}(h:AF v){f t:Nat}(_ht:t<=v.n)(hE:BD v f t=0)(hG:BV v v1 (BT v f t)){a:Nat}(ha:a<v.n):
  v1.ldE a=0↔v.ldE a=0\/(f<t/\f/v.pl.pg<=a/v.pl.pg/\a/v.pl.pg<=(t-1)/v.pl.pg):=by
 rw[hG.ldE h ha];rcases ω f t with Y|Y
 ·have hF:BT v f t=BW v ((f:Int)/v.pl.pg).toNat (CY v f t):=by unfold BT;simp_all
  have e1:((f:Int)/(v.pl.pg:Int)).toNat=f/v.pl.pg:=by grind
  have e2:CY v f t=(t-1)/v.pl.pg+1-f/v.pl.pg:=by
   unfold CY
   grind
  have g0:f/v.pl.pg<=(t-1)/v.pl.pg:=ζc Ω;rw[hF];have hmem:a/v.pl.pg∈BW v ((f:Int)/v.pl.pg).toNat (CY v f t)↔(f/v.pl.pg<=a/v.pl.pg/\a/v.pl.pg<f/v.pl.pg+((t-1)/v.pl.pg+1-f/v.pl.pg))/\v.pt.getD (a/v.pl.pg) 0=0:=by grind [OM]
  by_cases h0:v.pt.getD (a/v.pl.pg) 0=0
  ·grind
  ·have hl:v.ldE a=0:=by rw[h.ldE_of ha,κ h0]
   omega
 ·have hF:BT v f t=[]:=by unfold BT;grind
  grind
section
variable {v v1 v2:Vm} {rs:List Int} {f t j:Nat} {L:List Ob}
theorem GO.base(d:GO v rs f t L v1 v2 j):(EY v v2 f (f+sizes L) j).n=v.n/\(EY v v2 f (f+sizes L) j).pl.pg=v.pl.pg/\(EY v v2 f (f+sizes L) j).pl.rm=v.pl.rm/\AF (EY v v2 f (f+sizes L) j)/\v2.n=v.n/\v2.pl.pg=v.pl.pg:=by
 obtain⟨e1,e2,e3,-⟩:=LU v2 (I6 (f+sizes L) v.pl.pg) (f/v.pl.pg+j-I6 (f+sizes L) v.pl.pg);have n2:v2.n=v.n:=d.st.sm.n.trans d.gr.n;have p2:v2.pl.pg=v.pl.pg:=d.st.sm.pg.trans d.gr.pg;exact⟨e1.trans n2,e2.trans p2,e3.trans (d.st.sm.rm.trans d.gr.rm),PL d.st.ok _ _,n2,p2⟩
theorem GO.ldE(d:GO v rs f t L v1 v2 j)(h:AF v)(hE:BD v f ((f+sizes L:Nat):Int)=0)(hn:f+sizes L<=v.n){a:Nat}(ha:a<v.n):
  (EY v v2 f (f+sizes L) j).ldE a=0↔(v.ldE a=0\/(0<sizes L/\f/v.pl.pg<=a/v.pl.pg/\a/v.pl.pg<=(f+sizes L-1)/v.pl.pg))/\¬(I6 (f+sizes L) v.pl.pg<=a/v.pl.pg/\a/v.pl.pg<f/v.pl.pg+j):=by
 obtain⟨-,-,-,-,n2,p2⟩:=d.base;have h1:=TT h hn hE d.gr ha;unfold EY;rw[VH d.st.ok _ _ Ω,p2,d.st.sm.ldE];omega
theorem GO.ldV(d:GO v rs f t L v1 v2 j){a:Nat}(ha:a<v.n)(hl:¬(I6 (f+sizes L) v.pl.pg<=a/v.pl.pg/\a/v.pl.pg<f/v.pl.pg+j)):(EY v v2 f (f+sizes L) j).ldV a=v2.ldV a:=by
 obtain⟨-,-,-,-,n2,p2⟩:=d.base;exact VIn d.st.ok _ _ Ω (by grind)
theorem GO.word(d:GO v rs f t L v1 v2 j)(h:AF v)(hn:f+sizes L<=v.n){i:Nat}(hi:i<sizes L):(EY v v2 f (f+sizes L) j).ldV ((f+i:Nat):Int)=(IT v1 L f L).getD i 0:=by
 have hp:=h.page
 rw[d.ldV Ω (λhx=>by
  have h1:=(MU (nt:=f+sizes L) (pg:=v.pl.pg) hp.1).2 hx.1;have:=ζj (f+i) v.pl.pg
  omega)]
 exact d.st.row i hi
end
theorem VRx{q0 pg tp j:Nat}(h1:∀i,i<j->(q0+i)*pg<tp)(h2:tp<=(q0+j)*pg)(q:Nat)(hq:q0<=q):q<q0+j↔q*pg<tp:=by
 constructor
 ·intro h;have:=h1 (q-q0) Ω
  simp_all
 ·intro h;rcases ω q (q0+j)with h'|h'
  ·exact h'
  ·exfalso;have:=ζi pg h';omega
theorem P7(L:List Ob){i j:Nat}(h:i<=j):sizes (L.take i)<=sizes (L.take j):=by
 induction j with
 | zero=>simp_all
 | succ j ih=>
  grind [ω,ζa,FF,ψk]
structure KZ(u a:Vm)(rs:List Int)(L:List Ob)(f n:Nat):Prop where
 mks:BH u rs n L
 un:u.n=n
 ok:AF u
 f1:1<=f
 top:f+sizes L<=n
 n2:n<=524288
 ge:∀o∈L,f<=o.1
 ld:∀i,i<sizes L->a.ldE ((f+i:Nat):Int)=0
 wd:∀i,i<sizes L->a.ldV ((f+i:Nat):Int)=(IT u L f L).getD i 0
section
variable {u a:Vm} {rs:List Int} {L:List Ob} {f n:Nat}
theorem KZ.to(h:KZ u a rs L f n){b:Int}(hb:Hs L b):∃j,∃hj:j<L.length,(L[j].1:Int)=b/\toV L f b=((f+sizes (L.take j):Nat):Int):=by
 obtain⟨o,ho,he⟩:=hb;obtain⟨j,hj,rfl⟩:=ζr ho;refine⟨j,hj,he,?_⟩;have h1:=(h.mks.mkd.good.sz _ (χ hj)).1;have:=(RC h.mks.mkd.good (base:=f) hj (a:=b) Ω Ω).1;omega
theorem KZ.zero(h:KZ u a rs L f n):toV L f 0=0:=by
 have hn:¬A7 L 0<L.length:=λhx=>by
  have h1:=II hx;have h2:=h.ge _ (χ hx);have:=h.f1;omega
 exact(OJ hn).1
theorem KZ.word(h:KZ u a rs L f n){j m:Nat}(hj:j<L.length)(hm:m<L[j].2):a.ldE ((f+sizes (L.take j)+m:Nat):Int)=0/\a.ldV ((f+sizes (L.take j)+m:Nat):Int)=pkW u L f L[j].1 m:=by
 have h2:=JN hj;have e:f+sizes (L.take j)+m=f+(sizes (L.take j)+m):=Ω
 rw[e];exact⟨h.ld _ Ω,by rw[h.wd _ Ω,Ywe u L f L hj hm]⟩
end
theorem QDj{u a:Vm}{rs:List Int}{L:List Ob}{f n:Nat}(h:KZ u a rs L f n):ML u a (Rch u rs) (toV L f) f (f+sizes L):=by
 have hM:=h.mks;have hn2:=h.n2;have Y:∀{j:Nat} (hj:j<L.length),u.osz ((L[j].1:Nat):Int)=(L[j].2:Nat):=λhj=>((hM.mkd.ats _ (χ hj)).2.2).symm;refine⟨h.zero,λb hb m hm=>?_,λb hb=>?_,λb b' hb hb'=>?_⟩
 ·obtain⟨j,hj,rfl,e⟩:=h.to (hM.all _ hb);rw[Y hj]at hm;obtain⟨x1,x2⟩:=h.word hj (m:=m) Ω;rw[e,show ((f+sizes (L.take j):Nat):Int)+(m:Int)=((f+sizes (L.take j)+m:Nat):Int)by omega];refine⟨x1,?_⟩;rw[x2,WK u L f L[j].1 m rfl,show ((L[j].1:Nat):Int)+(m:Int)=((L[j].1+m:Nat):Int)by omega];by_cases hT:1<=m/\(m:Int)<=(u.rdH ((L[j].1:Nat):Int)).p
  ·rw[μ hT];by_cases h0:u.ldV ((L[j].1+m:Nat):Int)=0
   ·rw[κ (λhh=>hh.2 h0),h0];exact h.zero.symm
   ·rw[μ ⟨hT,h0⟩];have:=WW hM.mkd.good Ω f (u.ldV ((L[j].1+m:Nat):Int):Nat);omega
  ·rw[κ hT,κ (λhh=>hT hh.1)]
 ·obtain⟨j,hj,rfl,e⟩:=h.to (hM.all _ hb);have h1:=JN hj;rw[e,Y hj];omega
 ·obtain⟨j,hj,rfl,e⟩:=h.to (hM.all _ hb);obtain⟨i,hi,rfl,e'⟩:=h.to (hM.all _ hb');have s1:=FF hj;have s2:=FF hi;rw[e,e',Y hj,Y hi];rcases ζU j i with hl|hl|hl
  ·have:=P7 L (show j+1<=i by omega);exact .inr (.inl Ω)
  ·subst hl;exact .inl rfl
  ·have:=P7 L (show i+1<=j by omega);exact .inr (.inr Ω)
structure ShA(base top:Nat)(v:Vm):Prop where
 ok:AF v
 al:base%v.pl.pg=0
 bt:base<=top/\top<=v.n
 pg:∀a:Nat,a<v.n->(v.ldE a=0↔base<=a/\a/v.pl.pg*v.pl.pg<top)
section
variable {v v1 v2 v':Vm} {base top W:Nat}
theorem ShA.ld(h:ShA base top v){a:Nat}(h1:base<=a)(h2:a<top):v.ldE a=0:=(h.pg a (by have:=h.bt;omega)).2 ⟨h1,ξC (ζj _ _) h2⟩
theorem GR{b p g:Nat}(hg:1<=g)(hb:b%g=0):b<=p*g↔b/g<=p:=by
 have h1:=ζy b g;rw[hb,ξn,ζR]at h1
 grind [Nat.le_of_mul_le_mul_right,ζi]
theorem ShA.map(h:ShA base top v){p:Nat}(hp:p<v.pt.length):v.pt.getD p 0≠0↔base/v.pl.pg<=p/\p*v.pl.pg<top:=by
 have Y:=h.ok.page.1
 have hn:p*v.pl.pg<v.n:=by
  have h1:=h.ok.np;have h2:=Nat.mul_lt_mul_of_pos_right hp (show 0<v.pl.pg by omega);omega
 have h1:=h.pg _ hn;have e:p*v.pl.pg/v.pl.pg=p:=ξB _ Ω;rw[h.ok.ldE_of hn,e,GR Y h.al]at h1;omega
theorem Q5{base W top p g:Nat}(hg:1<=g)(h1:base%g=0)(h2:W%g=0)(ht:top<=base+W)(hp:p*g<top):p<base/g+W/g:=by
 have e1:=ζy base g;have e2:=ζy W g;rw[h1,ξn,ζR]at e1;rw[h2,ξn,ζR]at e2;refine Nat.lt_of_mul_lt_mul_right (a:=g) ?_
 grind
theorem ShA.used(h:ShA base top v)(hW:W%v.pl.pg=0)(ht:top<=base+W):v.pl.used<=W/v.pl.pg:=by
 have Y:=h.ok.page.1;rw[h.ok.us];refine ζa (IZ (g:=λp=>decide (base/v.pl.pg<=p/\p<base/v.pl.pg+W/v.pl.pg)) λp hp hh=>?_) (ζa (RS _ _ _) (Nat.le_of_eq (ξL ..)));rw[bne_iff_ne,h.map hp]at hh;exact θ ⟨hh.1,Q5 Y h.al hW ht hh.2⟩
theorem ShA.need(h:ShA base top v){n:Nat}(hn:1<=n)(hW:W%v.pl.pg=0)(ht:top+n<=base+W)(hb:base+W<=v.n)(hrm:W/v.pl.pg<=v.pl.rm):BD v top ((top+n:Nat):Int)=0:=by
 have J:=h.ok.page.1;have V:=h.bt;obtain⟨p0,Y⟩:∃p0,p0=top/v.pl.pg:=⟨_,rfl⟩;obtain⟨p1,Z⟩:∃p1,p1=(top+n-1)/v.pl.pg:=⟨_,rfl⟩;have hp01:p0<=p1:=by rw[Y,Z];exact ζc Ω
 have hp1l:p1<v.pt.length:=by rw[Z];exact(h.ok.split (a:=top+n-1) Ω).1
 have eA:((top:Int)/(v.pl.pg:Int)).toNat=p0:=by
  rw[show (top:Int)/(v.pl.pg:Int)=((top/v.pl.pg:Nat):Int)from rfl,η,Y]
 have eB:CY v top ((top+n:Nat):Int)=p1+1-p0:=by
  unfold CY;rw[show ((top+n:Nat):Int)-1=((top+n-1:Nat):Int)by omega,show ((top+n-1:Nat):Int)/(v.pl.pg:Int)=(((top+n-1)/v.pl.pg:Nat):Int)from rfl,show (top:Int)/(v.pl.pg:Int)=((top/v.pl.pg:Nat):Int)from rfl,<-Y,<-Z];omega
 unfold BD;rw[κ Ω,κ Ω,eA,eB,μ];rw[<-Y0i h.ok Ω];refine ζa (IZ (g:=λp=>decide (base/v.pl.pg<=p/\p<base/v.pl.pg+W/v.pl.pg)) λp hp hh=>?_) (ζa (RS _ _ _) (ζa (Nat.le_of_eq (ξL ..)) hrm));rw[ζW,bne_iff_ne,ζf]at hh;refine θ ?_;rcases hh with hh|hh
 ·rw[h.map hp]at hh;exact⟨hh.1,Q5 J h.al hW Ω hh.2⟩
 ·have h1:base/v.pl.pg<=p0:=by rw[Y];exact ζc V.1
  refine⟨by omega,Q5 J h.al hW ht ?_⟩;have h2:=ζi v.pl.pg (show p<=p1 by omega);have h3:=ζj (top+n-1) v.pl.pg;rw[<-Z]at h3;omega
theorem ShA.alloc(h:ShA base top v){p f k n:Nat}(hs255:p+f+k<=255)(hn:n=1+p+f+k)(h0:0<top)(hle:top+n<=v.n)(he:BD v top ((top+n:Nat):Int)=0)(hG:BV v v1 (BT v top ((top+n:Nat):Int))):
  E5 v1 top ⟨p,f,k⟩=0/\ShA base (top+n) (mkVm v1 top ⟨p,f,k⟩)/\DW v1 (mkVm v1 top ⟨p,f,k⟩)/\(∀a:Nat,a<top->(mkVm v1 top ⟨p,f,k⟩).ldV a=v.ldV a)/\(mkVm v1 top ⟨p,f,k⟩).ldV top=C8 p f k/\∀i:Nat,i<p+f+k->(mkVm v1 top ⟨p,f,k⟩).ldV ((top+1+i:Nat):Int)=0:=by
 have Z:=h.ok.page.1;have J:=h.bt
 have hl:∀a:Nat,a<v.n->(v1.ldE a=0↔base<=a/\a/v.pl.pg*v.pl.pg<top+n):=λa ha=>by
  rw[TT h.ok hle he hG ha,h.pg a ha];have q1:=ζj a v.pl.pg;have q2:=ζy a v.pl.pg;constructor
  ·rintro(⟨a1,a2⟩|⟨-,a1,a2⟩)
   ·exact⟨a1,by omega⟩
   ·have h1:base/v.pl.pg<=a/v.pl.pg:=ζa (ζc J.1) a1;have h2:=(GR Z h.al).2 h1;have h3:=ζi v.pl.pg a2;have h4:=ζj (top+n-1) v.pl.pg;exact⟨by omega,by omega⟩
  ·rintro⟨a1,a2⟩;rcases ω (a/v.pl.pg*v.pl.pg) top with h1|h1
   ·exact .inl ⟨a1,h1⟩
   ·refine .inr ⟨by omega,?_,?_⟩
    ·exact ζc Ω
    ·rw[ξb Ω];omega
 obtain⟨m1,m2⟩:=XU (v:=v1) hG.ok (t:=top) (p:=p) (f:=f) (c:=k) h0 hs255 (λj hj=>by
  exact(hl _ Ω).2 ⟨by omega,by have:=ζj (top+j) v.pl.pg;omega⟩)
 have Y:DW v1 (mkVm v1 top ⟨p,f,k⟩):=(DW.refl hG.ok).mkVm _ _;refine⟨m1,⟨Y.ok,by rw[Y.sm.pg,hG.pg];exact h.al,⟨by omega,by rw[Y.sm.n,hG.n];exact hle⟩,λa ha=>?_⟩,Y,λa ha=>?_,?_,λi hi=>?_⟩
 ·rw[Y.sm.n,hG.n]at ha;rw[Y.sm.ldE,Y.sm.pg,hG.pg];exact hl a ha
 ·rw[m2,κ Ω,κ Ω];exact hG.ldV_all h.ok Ω
 ·rw[m2,μ rfl]
 grind
theorem HpA.shut{s:Sl}{u:Vm}(hO:BO s v)(h:HpA top u s v)(hall:∀i,i<sizes s.L->s.is i=true):ShA s.cf.to top v/\∀a:Nat,s.cf.to<=a->a<top->v.ldE a=0/\v.ldV a=u.ldV a:=by
 obtain⟨h1,h2⟩:=h.done hO hall;have hs:=hO.st;have Y:=hO.mid.pg;have Z:=hs.pg.1;have hlm:=h.lm;refine⟨⟨hO.mid.ok,by rw[Y];exact hs.cf.at_,⟨by omega,by have:=hs.cf.ln;rw[hO.mid.n];omega⟩,λa ha=>?_⟩,h2⟩;rw[hO.mid.ok.ldE_of ha,Y];have h3:=h1 (a/s.pg) (by rw[<-Y];exact(hO.mid.ok.split ha).1);have q1:=ζj a s.pg;have q2:=ζy a s.pg;constructor
 ·intro hh;have J:v.pt.getD (a/s.pg) 0≠0:=λe=>by rw[μ e]at hh;cases hh
  obtain⟨b,b1,b2,b3⟩:=h3.1 J;have h4:s.cf.to/s.pg<=a/s.pg:=by rw[<-b3];exact ζc b1
  have h5:=(GR Z hs.cf.at_).2 h4;have h6:=ζj b s.pg;rw[b3]at h6;exact⟨by omega,by omega⟩
 ·rintro⟨a1,a2⟩;have h4:s.cf.to<=a/s.pg*s.pg:=(GR Z hs.cf.at_).2 (ζc a1);exact κ (h3.2 ⟨a/s.pg*s.pg,h4,a2,ξB _ Ω⟩)
end
section
variable {v v1 v2 v':Vm} {base top W:Nat} {g:Gph} {F:Nat->Nat} {c:Cf} {L:List Ob} {rs:List Int}
theorem Img.grown(h:Img v g F base top)(hv:AF v)(hG:∃E,BV v v1 E)(ht:top<=v.n):Img v1 g F base top:=by
 obtain⟨E,hG⟩:=hG;refine h.mem λa h1 h2 hl=>⟨?_,hG.ldV_all hv Ω⟩
 rw[hG.ldE hv Ω];omega
theorem Img.roots(h:Img v g F base top){T:Int->Int}{lo hi:Nat}(hm:ML v v' (Rch v (g.S.map λx=>(F x:Int))) T lo hi):(g.S.map λx=>(F x:Int)).map T=g.S.map λx=>(((T (F x)).toNat:Nat):Int):=by
 rw[List.map_map];refine ξI λx hx=>?_
 show T (F x)=_
 by_cases h0:x=0
 ·subst h0;rw[h.z];rw[show (((0:Nat):Int))=0 from rfl,hm.z];rfl
 ·have:=(hm.lo _ (h.rch_of (Gph.Rd.root hx h0))).1;omega
theorem ShA.needC(h:ShA base top v)(hW:W%v.pl.pg=0)(ht:top<=base+W){t0 N:Nat}(hto:t0%v.pl.pg=0)(hN:N<=W)(hb:t0+N<=v.n)(hrm:2*(W/v.pl.pg)<=v.pl.rm):BD v t0 ((t0+N:Nat):Int)=0:=by
 have Z:=h.ok.page.1;rcases ζB N with rfl|hN0
 ·unfold BD;omega
 obtain⟨p0,Y⟩:∃p0,p0=t0/v.pl.pg:=⟨_,rfl⟩;obtain⟨p1,J⟩:∃p1,p1=(t0+N-1)/v.pl.pg:=⟨_,rfl⟩;have hp01:p0<=p1:=by rw[Y,J];exact ζc Ω
 have eA:((t0:Int)/(v.pl.pg:Int)).toNat=p0:=by
  omega
 have eB:CY v t0 ((t0+N:Nat):Int)=p1+1-p0:=by
  unfold CY
  grind
 have hu:=h.used hW ht;have hl:=SD v p0 (p1+1-p0)
 have hp1W:p1<p0+W/v.pl.pg:=by
  rw[Y];refine Q5 Z hto hW (show t0+N<=t0+W by omega) ?_;have:=ζj (t0+N-1) v.pl.pg
  grind
 unfold BD
 grind
theorem ShA.copied(h:ShA c.fr c.tp v)(hcf:G8 v.pl.pg v.n c)(hfit:c.to+sizes L<=c.lm)(hE:BD v c.to ((c.to+sizes L:Nat):Int)=0){k kq:Nat}(hD:TO v rs c L v1 v2 k kq):
  ShA c.to (c.to+sizes L) (umN v2 (c.fr/v.pl.pg) kq)/\(umN v2 (c.fr/v.pl.pg) kq).n=v.n/\(umN v2 (c.fr/v.pl.pg) kq).pl.pg=v.pl.pg/\(umN v2 (c.fr/v.pl.pg) kq).pl.rm=v.pl.rm/\∀a:Nat,c.to<=a->a<c.to+sizes L->¬(c.fr/v.pl.pg<=a/v.pl.pg/\a/v.pl.pg<c.fr/v.pl.pg+kq):=by
 have Y:=h.ok.page.1;have hln:=hcf.ln;have hlm:=hcf.lm;obtain⟨e1,e2,e3,-⟩:=LU v2 (c.fr/v.pl.pg) kq;have n2:v2.n=v.n:=hD.st.cp.sm.n.trans hD.gr.n;have p2:v2.pl.pg=v.pl.pg:=hD.st.cp.sm.pg.trans hD.gr.pg;have hq:∀q,c.fr/v.pl.pg<=q->(q<c.fr/v.pl.pg+kq↔q*v.pl.pg<c.tp):=λq hq=>VRx hD.q1 hD.q2 q hq
 have Z:∀a:Nat,c.to<=a->a<c.lm->¬(c.fr/v.pl.pg<=a/v.pl.pg/\a/v.pl.pg<c.fr/v.pl.pg+kq):=λa a1 a2 hh=>by
  have h1:=(hq _ hh.1).1 hh.2;have h2:=(GR Y hcf.af).2 hh.1;have h3:=ζj a v.pl.pg;have hu:=XSg (n:=c.tp) Y
  have hn:c.lm<=c.fr\/upN c.tp v.pl.pg<=c.to:=by
   have:=hcf.ap;omega
  rcases hn with e|e
  ·omega
  ·have h4:=(GR (b:=c.to) Y hcf.at_).2 (ζc a1);omega
 refine⟨⟨PL hD.st.cp.ok _ _,?_,⟨ζM _ _,?_⟩,λa ha=>?_⟩,e1.trans n2,e2.trans p2,e3.trans (hD.st.cp.sm.rm.trans hD.gr.rm),λa a1 a2=>Z a a1 Ω⟩
 ·rw[e2,p2];exact hcf.at_
 ·omega
 ·rw[e1,n2]at ha;rw[e2,p2,VH hD.st.cp.ok _ _ (by rw[n2];exact ha),p2,hD.st.cp.sm.ldE];have h1:=TT h.ok Ω hE hD.gr ha;rw[h.pg a ha]at h1;have q1:=ζj a v.pl.pg;have q2:=ζy a v.pl.pg;by_cases hx:c.fr/v.pl.pg<=a/v.pl.pg/\a/v.pl.pg<c.fr/v.pl.pg+kq
  ·rw[μ hx];refine⟨(λhh=>by cases hh),λ⟨a1,a2⟩=>absurd hx ?_⟩;have h4:=(GR (b:=c.to) Y hcf.at_).2 (ζc a1);have:=Z (a/v.pl.pg*v.pl.pg) h4 Ω;rw[ξB _ (show 0<v.pl.pg by omega)]at this;exact this
  ·rw[κ hx,h1];constructor
   ·rintro(⟨a1,a2⟩|⟨a0,a1,a2⟩)
    ·have h2:c.fr/v.pl.pg<=a/v.pl.pg:=ζc a1;exact absurd ⟨h2,(hq _ h2).2 a2⟩ hx
    ·have h4:=(GR (b:=c.to) Y hcf.at_).2 a1;have h5:=ζi v.pl.pg a2;have h6:=ζj (c.to+sizes L-1) v.pl.pg;exact⟨by omega,by omega⟩
   ·rintro⟨a1,a2⟩;refine .inr ⟨?_,ζc a1,?_⟩
    ·have h4:=(GR (b:=c.to) Y hcf.at_).2 (ζc a1);omega
    ·rw[ξb Ω];omega
theorem ShA.packed(h:ShA base top v){j:Nat}(hfit:base+sizes L<=top)(hE:BD v base ((base+sizes L:Nat):Int)=0)(hD:GO v rs base top L v1 v2 j):
  ShA base (base+sizes L) (EY v v2 base (base+sizes L) j)/\(EY v v2 base (base+sizes L) j).n=v.n/\(EY v v2 base (base+sizes L) j).pl.pg=v.pl.pg/\(EY v v2 base (base+sizes L) j).pl.rm=v.pl.rm:=by
 have Y:=h.ok.page.1;have hbt:=h.bt;obtain⟨b1,b2,b3,b4,-,-⟩:=hD.base;refine⟨⟨b4,by rw[b2];exact h.al,⟨ζM _ _,by omega⟩,λa ha=>?_⟩,b1,b2,b3⟩;rw[b1]at ha;rw[b2,hD.ldE h.ok hE Ω ha,h.pg a ha];have q1:=ζj a v.pl.pg;have q2:=ζy a v.pl.pg;rw[<-MU (nt:=base+sizes L) (pg:=v.pl.pg) (q:=a/v.pl.pg) Y];constructor
 ·rintro⟨h1|⟨a0,a1,a2⟩,h2⟩
  ·refine⟨h1.1,Nat.lt_of_not_le λh3=>h2 ⟨h3,(VRx hD.q1 hD.q2 _ (ζc h1.1)).2 h1.2⟩⟩
  ·have h4:=(GR (b:=base) Y h.al).2 a1;have h5:=ζi v.pl.pg a2;have h6:=ζj (base+sizes L-1) v.pl.pg;omega
 omega
theorem YxV(hv:AF v)(hM:BH v rs v.n L)(hE:BD v base ((base+sizes L:Nat):Int)=0)(hn:base+sizes L<=v.n){j:Nat}(hD:GO v rs base top L v1 v2 j):ML v1 (EY v v2 base (base+sizes L) j) (Rch v1 rs) (toV L base) base (base+sizes L):=by
 have hw:=hD.gr.wider hv;have Y:=hv.page;refine QDj (n:=v.n) ⟨hw.marks hM,hD.gr.n,hD.gr.ok,hD.cx.fr1,hn,hv.n2,λo ho=>(hD.cx.inn o ho).1,λi hi=>?_,λi hi=>hD.word hv hn hi⟩;refine(hD.ldE hv hE hn Ω).2 ⟨.inr ⟨by omega,ζc Ω,ζc Ω⟩,λhx=>?_⟩;have h1:=(MU (nt:=base+sizes L) (pg:=v.pl.pg) Y.1).2 hx.1;have:=ζj (base+i) v.pl.pg;omega
end
theorem XUb{v gv:Vm}{rs:List Int}{c:Cf}{L:List Ob}{n:Nat}(hM:BH v rs n L)(hn:n<=524288)
  (hg:∀i,i<sizes L->gv.ldE ((c.to+i:Nat):Int)=0/\gv.ldV ((c.to+i:Nat):Int)=(AY v c L).c i):ML v gv (Rch v rs) (toV L c.to) c.to (c.to+sizes L):=by
 have hG:=hM.mkd.good
 have Y:∀{j:Nat} (hj:j<L.length),0<L[j].1/\v.osz ((L[j].1:Nat):Int)=(L[j].2:Nat):=λhj=>by
  obtain⟨-,h2,h3⟩:=hM.mkd.ats _ (χ hj);have:=(DD h2).1;exact⟨by omega,h3.symm⟩
 have hz:toV L c.to 0=0:=by
  refine(OJ λhx=>?_).1;have h1:=II hx;have h2:=(Y hx).1;omega
 have Z:∀a,Rch v rs a->∃(j:Nat) (hj:j<L.length),(L[j].1:Int)=a/\toV L c.to a=((c.to+sizes (L.take j):Nat):Int):=λa ha=>by
  obtain⟨o,ho,he⟩:=hM.all a ha;obtain⟨j,hj,rfl⟩:=ζr ho;have hs:=(hG.sz _ (χ hj)).1;have:=(RC hG (base:=(c.to:Int)) hj (a:=a) Ω Ω).1;exact⟨j,hj,he,by rw[this];omega⟩
 refine⟨hz,λb hb m hm=>?_,λb hb=>?_,λb b' hb hb'=>?_⟩
 ·obtain⟨j,hj,rfl,e⟩:=Z b hb;rw[(Y hj).2]at hm;have J:m<L[j].2:=Ω
  have hmid:=JN hj;obtain⟨x1,x2⟩:=hg (sizes (L.take j)+m) Ω;rw[e,show ((c.to+sizes (L.take j):Nat):Int)+(m:Int)=((c.to+(sizes (L.take j)+m):Nat):Int)by omega];refine⟨x1,?_⟩
  have hc:(AY v c L).c (sizes (L.take j)+m)=cvH L c.to (v.rdH ((L[j].1:Nat):Int)) m (v.ldV ((L[j].1+m:Nat):Int)):=by
   show cvH L c.to (v.rdH ((L.getD (BX L (sizes (L.take j)+m)) (0,0)).1:Nat)) (sizes (L.take j)+m-sizes (L.take (BX L (sizes (L.take j)+m)))) (v.ldV (AH L (sizes (L.take j)+m):Nat))=_
   rw[VNq hj J,YZF hj J,ξL,δ,ζb hj];rfl
  rw[x2,hc,show ((L[j].1:Nat):Int)+(m:Int)=((L[j].1+m:Nat):Int)by omega];unfold cvH;by_cases hT:1<=m/\(m:Int)<=(v.rdH ((L[j].1:Nat):Int)).p
  ·rw[μ hT];by_cases h0:v.ldV ((L[j].1+m:Nat):Int)=0
   ·rw[κ (λhh=>hh.2 h0),h0];exact hz.symm
   ·rw[μ ⟨hT,h0⟩];have:=WW hG Ω c.to (v.ldV ((L[j].1+m:Nat):Int):Nat);omega
  ·rw[κ hT,κ (λhh=>hT hh.1)]
 ·obtain⟨j,hj,rfl,e⟩:=Z b hb;have h1:=JN hj;rw[e,(Y hj).2];omega
 ·obtain⟨j,hj,rfl,e⟩:=Z b hb;obtain⟨i,hi,rfl,e'⟩:=Z b' hb';have s1:=FF hj;have s2:=FF hi;rw[e,e',(Y hj).2,(Y hi).2];rcases ζU j i with hl|hl|hl
  ·have:=P7 L (show j+1<=i by omega);exact .inr (.inl Ω)
  ·subst hl;exact .inl rfl
  ·have:=P7 L (show i+1<=j by omega);exact .inr (.inr Ω)
def rnL(q base top lim:Nat):List Value:=[pP q,iI base,iI top,iI lim]
abbrev FA(w:World)(rn q base top lim:Nat):Prop:=Rec w rn 154 (rnL q base top lim)
section
variable {w:World} {S:Nat->Prop} {q rn base top lim:Nat} {v:Vm}
theorem YN8(hV:AD w S q v)(hn:v.n≠0)(h1:base<=lim)(h2:lim<=v.n):Calls prog 42 #[pP q,iI base,iI lim] w λe w'=>∃rn,e=.returned (.tuple #[pP rn,iI 0])/\Gr w w'/\w.heap.size<=rn/\FA w' rn q base base lim:=by
 have HW:=(I3 hV);have hn2:=hV.ok.n2;have d0:((v.n:Int)==0)=false:=by simp;omega
 have d1:decide ((base:Int)<0)=false:=φ Ω;have d2:decide ((lim:Int)<(base:Int))=false:=φ Ω;have d3:decide ((v.n:Int)<(lim:Int))=false:=φ Ω;have HR:=(Rec.new w 154 (rnL q base base lim));go_enter func42,ntmps42;go_wp2_with(go_at_call 52;refine AT (HW) ?_);go_ret2;exact⟨w.heap.size,rfl,(Gr.refl w).alloc _,π _,HR⟩
theorem PE(h:FA w rn q base top lim):cQ 136 #[pP rn] w (.bool false):=by
 have c0:=h.cc 0;go_enter func136,ntmps136;go_wp2;go_ret
 simp_all
theorem O8(h:FA w rn q base top lim):cQ 88 #[pP rn] w (iI base):=by
 have HN:=(PE h);have c0:=h.cc 1;go_enter func88,ntmps88;go_wp2_with(go_at_call 136;refine AT (HN) ?_);go_ret
 simp_all
theorem U9(h:FA w rn q base top lim):cQ 89 #[pP rn] w (iI top):=by
 have HN:=(PE h);have c0:=h.cc 2;go_enter func89,ntmps89;go_wp2_with(go_at_call 136;refine AT (HN) ?_);go_ret
 simp_all
theorem XT(h:FA w rn q base top lim){t:Nat}(h1:base<=t)(h2:t<=lim):Calls prog 90 #[pP rn,iI t] w λe w'=>e=.returned (iI 0)/\AB (λk=>k=rn) w w'/\FA w' rn q base t lim:=by
 have HN:=(PE h);have c1:=h.cc 1;have c2:=h.cc 2;have c3:=h.cc 3;have cf:=h.free 2;have cl:=h.lt;have HS:=(h.set 2 (iI t));have HT:Hid (AB (λk=>k=rn) w (w.setCell ⟨rn,2,none⟩ (.int .i64 t))):=⟨(AB.refl (λk=>k=rn) w).setCell (a:=⟨rn,2,none⟩) (λ_=>rfl) _⟩;have d1:decide ((t:Int)<(base:Int))=false:=φ Ω;have d2:decide ((lim:Int)<(t:Int))=false:=φ Ω;go_enter func90,ntmps90;go_wp2_with(go_at_call 136;refine AT (HN) ?_);go_ret;exact⟨rfl,HT.o,HS⟩
def VhE(w:World)(S:Nat->Prop)(q rn base top lim n:Nat)(v:Vm)(e:Ending)(w':World):Prop:=
 (lim<top+n/\e=.returned (.tuple #[iI 0,iI 21])/\Gr w w') ∨
 (top+n<=lim/\e=.returned (.tuple #[iI top,iI 0])/\AB (λk=>k=rn\/S k) w w'/\H9 w' (plus S w) q v (BT v top ((top+n:Nat):Int))/\FA w' rn q base (top+n) lim)
theorem Xej(h:FA w rn q base top lim)(hV:AD w S q v)(hS:¬S rn){n:Nat}(hn:1<=n)(htl:top<=lim)(hlv:lim<=v.n)(hE:top+n<=lim->BD v top ((top+n:Nat):Int)=0):Calls prog 103 #[pP rn,iI n] w (VhE w S q rn base top lim n v):=by
 have HN:=(PE h);have hn2:=hV.ok.n2;have c0:=h.cc 0;have c2:=h.cc 2;have c3:=h.cc 3;have cl:=h.lt;have d0:decide ((n:Int)<1)=false:=φ Ω;rcases ω lim (top+n)with D|V
 ·have d1:decide ((lim:Int)-(top:Int)<(n:Int))=true:=θ Ω;go_enter func103,ntmps103;go_upto_region 5 with(go_at_call 136;refine AT (HN) ?_);go_quiet (fail);go_wp2;go_ret2;exact .inl ⟨D,rfl,(Gr.refl w).drewN _⟩
 ·have d1:decide ((lim:Int)-(top:Int)<(n:Int))=false:=φ Ω;have Z:=(λ(W:World) (g:Gr w W)=>QJ (hV.gr g) top (top+n) Ω Ω);rw[hE V]at Z;have HR:=h;have E:=hS;have e1:(((top+n:Nat)):Int)=(top:Int)+n:=Ω
  rw[e1]at Z;go_enter func103,ntmps103;go_upto_region 5 with(go_at_call 136;refine AT (HN) ?_);go_quiet (fail);go_upto_region 7 with(fail);obtain⟨Sx,J,HS⟩:=AA.start λW'=>FA W' rn q base top lim;have c0:=AA.fact J λ_ h=>h.cell (j:=0) rfl;have c2:=AA.fact J λ_ h=>h.cell (j:=2) rfl;have Y:=HS.o _ (HR.gr ((Gr.refl w).drewN nq).drew);have N:Inhabited (AA Sx):=⟨⟨_,Y⟩⟩;clear J;refine AR Sx 16 [([0,1,2,3,4,5,6,7,8,9,10,11,12,13],14)] [15] (by kernel_rfl) (by kernel_rfl) Y ?_;refine AG ?_
  try simp only[AC,ζ,ξ]
  repeat(go_big_quiet_step (fail))
  refine ψ ?_;go_wp2_with((go_at_call 122;refine(Z _ ((Gr.refl w).drewN _)).mono ?_;rintro e w2 ⟨rfl,ht,hg⟩;have HG:=hg;have r2:=(HR.gr ((Gr.refl w).drewN (nq+1))).touch ht E;have k2:=r2.cc 2;have kf:=r2.free 2;have I:=r2));refine⟨.inr (AA.of (HS.o _ (I))),?_⟩;refine AS ?_
  try simp only[AC,ζ,ξ]
  repeat(go_big_quiet_step (fail))
  refine ψ ?_;refine τ ?_;clear c0 c2 Y N;go_wp2;go_ret2;refine .inr ⟨V,rfl,?_,?_,?_⟩
  ·exact((((Gr.refl w).drewN _).touch _).trans (ht.mono (λ_ _ h=>.inr h))).setCell (a:=⟨rn,2,none⟩) (λ_=>.inl rfl) _
  ·obtain⟨v',h1,h2⟩:=HG;rw[e1];refine⟨v',h1,h2.touch ((AB.refl (λk=>k=rn) _).setCell (a:=⟨rn,2,none⟩) (λ_=>rfl) _) (λk hk _ e=>?_)⟩;have:=HR.lt;rcases hk with hk|hk
   ·exact E (e▸hk)
   ·have:w.heap.size<=k:=hk;omega
  ·have:=I.set 2 (iI ((top:Int)+n))
   show Rec _ rn _ (rnL q base (top+n) lim)
   unfold rnL at this⊢;rw[e1];exact this
end
def CI(l l':List Bool):Prop:=l'.length=l.length/\∀i,at_ l i=true->at_ l' i=true
theorem CI.refl(l:List Bool):CI l l:=⟨rfl,λ_ h=>h⟩
theorem CI.trans{a b c:List Bool}(h:CI a b)(k:CI b c):CI a c:=⟨k.1.trans h.1,λi hi=>k.2 i (h.2 i hi)⟩
theorem CI.set(l:List Bool)(k:Nat):CI l (l.set k true):=by
 refine⟨ν ..,λi hi=>?_⟩;rcases ω k l.length with h|h
 ·rw[GA h]
  split
  ·rfl
  ·exact hi
 ·rw[List.set_eq_of_length_le h];exact hi
theorem CI.step(l:List Bool):CI l (CZ l):=by
 unfold CZ
 split
 ·exact CI.set _ _
 ·exact CI.refl _
theorem CI.run(A k n:Nat)(l:List Bool):CI l (GV A k n l):=by
 induction n generalizing l with
 | zero=>exact CI.refl _
 | succ n ih=>
  unfold GV
  split
  ·exact(CI.step l).trans (ih _)
  ·exact CI.refl _
theorem CI.touch(A k:Nat)(l:List Bool):CI l (JB A k l):=by
 unfold JB
 split
 ·exact CI.refl _
 ·exact(CI.run A k k l).trans (CI.set _ _)
theorem CI.mvd{l l':List Bool}(h:CI l l'):CA l<=CA l':=by
 unfold CA;rw[h.1];exact IZ λi _ hi=>h.2 i hi
theorem Sl.tch_mono(s:Sl)(b:Int):CI s.mv (s.tch b).mv:=by
 show CI s.mv (if inF s.L s.cf.to b then JB s.cf.ah ((b-s.cf.to).toNat/s.cf.bk) s.mv else s.mv)
 split
 ·exact CI.touch _ _ _
 ·exact CI.refl _
theorem Sl.lf_mono{s s':Sl}(h:CI s.mv s'.mv):s'.lf<=s.lf:=by
 have h1:=h.mvd;have h2:=h.1
 show s'.mv.length-CA s'.mv<=s.mv.length-CA s.mv
 omega
theorem QGs{l:List Bool}(hf:ftL l<l.length):CA (CZ l)=CA l+1/\CA l+1<=l.length:=by
 have hz:at_ l (ftL l)=false:=by
  have h1:(!at_ l (ftL l))=true:=GP (λk=>!at_ l k) _ hf;simpa using h1
 have h1:=JG hf hz;have h2:cnt (at_ (l.set (ftL l) true)) l.length<=l.length:=EG _ _
 have h3:CA (CZ l)=CA l+1:=by
  unfold CA CZ;rw[μ hf,ν];exact h1
 refine⟨h3,?_⟩;unfold CA;omega
theorem Sl.lf_step{s:Sl}(h:s.ft<s.mv.length):s.step.lf+1=s.lf:=by
 obtain⟨h1,h2⟩:=QGs (l:=s.mv) h
 show (CZ s.mv).length-CA (CZ s.mv)+1=s.mv.length-CA s.mv
 rw[QZ,h1];omega
structure HCf where
 kd:Nat
 pg:Nat
 bk:Nat
 wd:Nat
 sl:Nat
 st:Nat
 ah:Nat
 tr:Nat
def HCf.q(c:HCf):Nat:=max 1 (c.bk/c.pg)
def HCf.spare(c:HCf):Nat:=(c.ah+2)*(c.q+3)
def HCf.fr(c:HCf):Nat:=if c.kd=1 then c.wd/c.pg+c.spare else if c.kd=2 then 2*(c.wd/c.pg)else c.wd/c.pg
def HCf.n(c:HCf):Nat:=if c.kd=3 then c.pg+c.wd else c.pg+c.wd+c.wd
structure HCf.Ok(c:HCf):Prop where
 kd:1<=c.kd/\c.kd<=3
 pg:EF c.pg=true
 bk:BJ c.bk=true
 wd:16<=c.wd/\c.wd<=131072
 dv:c.wd%c.pg=0
 pw:c.pg<=c.wd
 sl:1<=c.sl/\c.sl<=64
 st:1<=c.st/\c.st<=4096
 ah:c.ah<=16
 fr:c.fr<=4096
def GF(c:HCf):List Value:=[iI c.kd,iI c.pg,iI c.bk,iI c.wd,iI c.sl,iI c.st,iI c.ah,.float .f64 c.tr]
def F7(c:HCf):Value:=.agg (GF c).toArray
structure HAd where
 hp:Nat
 q:Nat
 r:Nat
 g:Nat
 rn:Nat
def hpL(c:HCf)(A:HAd)(cy:Option Nat)(cyc blk:Int):List Value:=
 [iI c.kd,iI c.pg,iI c.bk,iI c.wd,iI c.sl,iI c.st,iI c.ah,.float .f64 c.tr,
  pP A.q,pP A.r,pP A.rn,.pointer (cy.map λy=>⟨y,0,none⟩),iI cyc,iI blk]
structure CD(w:World)(X:Nat->Prop)(A:HAd)(c:HCf)(base top:Nat)(rs:List Int)(cy:Option Nat)(cyc blk:Int):Prop where
 row:Rec w A.hp 92 (hpL c A cy cyc blk)
 rn:FA w A.rn A.q base top (base+c.wd)
 rt:AU w A.r A.g rs
 tab:AP w
 n1:A.hp≠A.r/\A.hp≠A.g/\A.hp≠A.rn/\A.hp≠1
 n2:A.r≠A.g/\A.r≠A.rn/\A.r≠1
 n3:A.g≠A.rn/\A.g≠1/\A.rn≠1
 x:¬X A.hp/\¬X A.r/\¬X A.g/\¬X A.rn/\¬X 1
section
variable {w w':World} {X S T:Nat->Prop} {A:HAd} {c:HCf} {base top:Nat} {rs:List Int} {cy:Option Nat} {cyc blk:Int}
theorem CD.lt(h:CD w X A c base top rs cy cyc blk):A.hp<w.heap.size/\A.r<w.heap.size/\A.g<w.heap.size/\A.rn<w.heap.size/\1<w.heap.size:=⟨h.row.lt,h.rt.lt.1,h.rt.lt.2,h.rn.lt,h.tab.lt⟩
theorem CD.touch(h:CD w X A c base top rs cy cyc blk)(t:AB T w w')(hT:¬T A.hp/\¬T A.r/\¬T A.g/\¬T A.rn/\¬T 1):CD w' X A c base top rs cy cyc blk:=
 ⟨h.row.touch t hT.1,h.rn.touch t hT.2.2.2.1,h.rt.touch t hT.2.1 hT.2.2.1,t.tab h.tab.lt hT.2.2.2.2 h.tab,h.n1,h.n2,h.n3,h.x⟩
theorem CD.gr(h:CD w X A c base top rs cy cyc blk)(g:Gr w w'):CD w' X A c base top rs cy cyc blk:=h.touch (g.touch (λ_=>False)) ⟨id,id,id,id,id⟩
theorem CD.mem(h:CD w X A c base top rs cy cyc blk)(t:AB X w w'):CD w' (plus X w) A c base top rs cy cyc blk:=by
 obtain⟨l1,l2,l3,l4,l5⟩:=h.lt;obtain⟨x1,x2,x3,x4,x5⟩:=h.x;have k:=h.touch t h.x;exact⟨k.row,k.rn,k.rt,k.tab,k.n1,k.n2,k.n3,λe=>e.elim x1 (λe=>by omega),λe=>e.elim x2 (λe=>by omega),λe=>e.elim x3 (λe=>by omega),λe=>e.elim x4 (λe=>by omega),λe=>e.elim x5 (λe=>by omega)⟩
theorem CD.sub{X':Nat->Prop}(h:CD w X A c base top rs cy cyc blk)(hx:∀k,k<w.heap.size->X' k->X k):CD w X' A c base top rs cy cyc blk:=by
 obtain⟨l1,l2,l3,l4,l5⟩:=h.lt;obtain⟨x1,x2,x3,x4,x5⟩:=h.x;exact⟨h.row,h.rn,h.rt,h.tab,h.n1,h.n2,h.n3,λe=>x1 (hx _ l1 e),λe=>x2 (hx _ l2 e),λe=>x3 (hx _ l3 e),λe=>x4 (hx _ l4 e),λe=>x5 (hx _ l5 e)⟩
theorem CD.root{rs':List Int}(h:CD w X A c base top rs cy cyc blk)(t:AB (λk=>k=A.g) w w')(hr:AU w' A.r A.g rs'):CD w' X A c base top rs' cy cyc blk:=
 ⟨h.row.touch t h.n1.2.1,h.rn.touch t (λe=>h.n3.1 e.symm),hr,t.tab h.tab.lt (λe=>h.n3.2.1 e.symm) h.tab,h.n1,h.n2,h.n3,h.x⟩
theorem CD.turn{top':Nat}(h:CD w X A c base top rs cy cyc blk)(t:AB (λk=>k=A.rn) w w')(hr:FA w' A.rn A.q base top' (base+c.wd)):CD w' X A c base top' rs cy cyc blk:=
 ⟨h.row.touch t h.n1.2.2.1,hr,h.rt.touch t h.n2.2.1 h.n3.1,t.tab h.tab.lt (λe=>h.n3.2.2 e.symm) h.tab,h.n1,h.n2,h.n3,h.x⟩
end
structure HVm(c:HCf)(v:Vm):Prop where
 n:v.n=c.n
 pg:v.pl.pg=c.pg
 rm:v.pl.rm=c.fr
def DC(c:HCf)(fr tp t0:Nat):Cf:=⟨fr,tp,t0,t0+c.wd,c.bk,c.st,c.ah⟩
def HpB(rm top:Nat)(u:Vm)(s:Sl)(v:Vm):Prop:=HpA top u s v/\v.pl.rm=rm
theorem T8(rm top:Nat)(u:Vm):SlJ (HpB rm top u):=⟨λ_ _ _ hO hA hk _ _=>hA.1.need hO hk,λ_ _ _ _ hO hA hk hm hc hM=>⟨hA.1.step hO hk hm hc hM,hM.rm.trans hA.2⟩⟩
structure G2(w:World)(X:Nat->Prop)(A:HAd)(c:HCf)(base top:Nat)(u:Vm)(y:Nat)(z:B8)(s:Sl)(v:Vm)(R Sv:Nat->Prop):Prop where
 cy:Cyc w R y A.q z s
 vm:AD w Sv A.q v
 hv:HVm c v
 ok:BO s v
 a:HpA top u s v
 x:∀k,R k\/Sv k->X k
 d:∀k,R k->¬Sv k
 tab:AP w
 t1:¬R 1
 t2:¬Sv 1
 bs:s.cf.to=base
 lm:s.cf.lm=base+c.wd
 bk:s.cf.bk=c.bk
 ah:s.cf.ah=c.ah
 kd:c.kd=1
def EU(w:World)(X:Nat->Prop)(A:HAd)(c:HCf)(base top:Nat)(u:Vm):Option Nat->Nat->Nat->Prop
 | none,lf,_=>AD w X A.q u/\HVm c u/\ShA base top u/\lf=0
 | some y,lf,nb=>∃z s v R Sv,G2 w X A c base top u y z s v R Sv/\s.lf=lf/\s.mv.length=nb
section
variable {w w':World} {X X' T:Nat->Prop} {A:HAd} {c:HCf} {base top:Nat} {u:Vm} {o:Option Nat} {lf nb:Nat}
theorem EU.touch(h:EU w X A c base top u o lf nb)(t:AB T w w')(hT:∀k,k<w.heap.size->T k->¬X k/\k≠1)(hx:∀k,X k->X' k):EU w' X' A c base top u o lf nb:=by
 match o,h with
 | none,⟨h1,h2,h3,h4⟩=>exact⟨(h1.touch t (λk hk hl ht=>(hT k hl ht).1 hk)).mono hx,h2,h3,h4⟩
 | some y,⟨z,s,v,R,Sv,h,e1,e2⟩=>
  have hl:=h.cy.od.lt;exact⟨z,s,v,R,Sv,⟨h.cy.touch t (λk hk ht=>(hT k (hl k hk) ht).1 (h.x k (.inl hk))),h.vm.touch t (λk hk hl ht=>(hT k hl ht).1 (h.x k (.inr hk))),h.hv,h.ok,h.a,λk hk=>hx k (h.x k hk),h.d,t.tab h.tab.lt (λht=>(hT _ h.tab.lt ht).2 rfl) h.tab,h.t1,h.t2,h.bs,h.lm,h.bk,h.ah,h.kd⟩,e1,e2⟩
theorem EU.gr(h:EU w X A c base top u o lf nb)(g:Gr w w'):EU w' X A c base top u o lf nb:=h.touch (g.touch (λ_=>False)) (λ_ _ h=>h.elim) (λ_ h=>h)
theorem EU.cut(h:EU w X A c base top u o lf nb):EU w (AE X w) A c base top u o lf nb:=by
 match o,h with
 | none,⟨h1,h2,h3,h4⟩=>exact⟨h1.cut,h2,h3,h4⟩
 | some y,⟨z,s,v,R,Sv,h,e1,e2⟩=>
  exact⟨z,s,v,R,AE Sv w,⟨h.cy,h.vm.cut,h.hv,h.ok,h.a,λk hk=>hk.elim (λhk=>⟨h.x k (.inl hk),h.cy.od.lt k hk⟩) (λhk=>⟨h.x k (.inr hk.1),hk.2⟩),λk hk hk2=>h.d k hk hk2.1,h.tab,h.t1,λhk=>h.t2 hk.1,h.bs,h.lm,h.bk,h.ah,h.kd⟩,e1,e2⟩
theorem EU.ok(h:EU w X A c base top u o lf nb):AF u:=by
 match o,h with
 | none,⟨h1,_⟩=>exact h1.ok
 | some y,⟨z,s,v,R,Sv,h,e1,e2⟩=>exact h.a.ok
end
def tyH:Option Nat->TypeId
 | none=>87
 | some _=>90
def fnH(a b:FuncId):Option Nat->FuncId
 | none=>a
 | some _=>b
def ptH(q:Nat):Option Nat->Value
 | none=>pP q
 | some y=>pP y
def spH(A:HAd)(c:HCf)(base top:Nat)(o:Option Nat)(lf nb:Nat):Sp:=
 ⟨tyH o,ptH A.q o,fnH 176 261 o,λa=>∃n:Nat,a=n/\base<=n/\n<top,True,λk=>k=1,
  λu X w=>(∃l,l<=lf/\EU w X A c base top u o l nb)/\1<w.heap.size⟩
section
variable {w w':World} {X:Nat->Prop} {A:HAd} {c:HCf} {base top:Nat} {u:Vm} {o:Option Nat} {lf nb:Nat}
theorem G2.tch{y:Nat}{z:B8}{s:Sl}{v v':Vm}{R Sv:Nat->Prop}(h:G2 w X A c base top u y z s v R Sv){a:Int}(hf:JH w w' R Sv y A.q z (HpB c.fr top u) (s.tch a) v'):G2 w' (plus X w) A c base top u y z (s.tch a) v' R (plus Sv w):=by
 have hl:=h.cy.od.lt;have J:=h.tab.lt;have Z:=hf.ok;refine⟨hf.cy,hf.vm,⟨?_,?_,?_⟩,hf.ok,hf.j.1,λk hk=>?_,λk hk Y=>?_,hf.t.tab J (λhk=>hk.elim h.t1 h.t2) h.tab,h.t1,λhk=>hk.elim h.t2 (λhk=>by omega),h.bs,h.lm,h.bk,h.ah,h.kd⟩
 ·rw[Z.mid.n,<-h.hv.n,h.ok.mid.n];rfl
 ·rw[Z.mid.pg,<-h.hv.pg,h.ok.mid.pg];rfl
 ·exact hf.j.2
 ·rcases hk with hk|hk|hk
  ·exact .inl (h.x k (.inl hk))
  ·exact .inl (h.x k (.inr hk))
  ·exact .inr hk
 ·rcases Y with Y|Y
  ·exact h.d k hk Y
  grind
theorem ZDq(n:Nat)(a:Addr)(w:World):(method (n+1) 90 (.pointer (some a)) "Load").run prog w=.ok (261,.pointer (some a)) w:=by kernel_rfl
theorem XjE(n:Nat)(a:Addr)(w:World):(nilAhead (n+1) 90 (.pointer (some a)) "Load").run prog w=.ok (some false) w:=by kernel_rfl
theorem IR(A:HAd)(c:HCf)(base top:Nat)(o:Option Nat)(lf nb:Nat):(spH A c base top o lf nb).Ok:=by
 refine⟨λn w=>?_,λn w=>?_,λargs w=>?_,λw=>?_,λh=>?_,λ{u S S' T' w w'} h t hT hs=>?_,λ{u S w} h k hk=>?_,λ{u S w} h=>?_,λ{u S w} h a ha=>?_⟩
 ·cases o with
  | none=>exact WG n _ w
  | some y=>exact XjE n _ w
 ·cases o with
  | none=>exact T9 n _ w
  | some y=>exact ZDq n _ w
 ·cases o with
  | none=>kernel_rfl
  | some y=>kernel_rfl
 ·cases o with
  | none=>kernel_rfl
  | some y=>kernel_rfl
 ·obtain⟨⟨l,-,hm⟩,-⟩:=h;exact hm.ok
 ·obtain⟨⟨l,hl,hm⟩,h2⟩:=h;exact⟨⟨l,hl,hm.touch t (λk hk ht=>hT k hk ht) hs⟩,υ h2 t.size⟩
 ·rw[show k=1 from hk];exact h.2
 ·obtain⟨⟨l,hl,hm⟩,h2⟩:=h;exact⟨⟨l,hl,hm.cut⟩,h2⟩
 ·obtain⟨⟨l,hl,hm⟩,h2⟩:=h;obtain⟨n,rfl,h3,h4⟩:=ha
  match o,hm with
  | none,⟨h5,h6,h7,h8⟩=>
   refine(JL h5 (n:Int)).mono ?_;rintro e w' ⟨rfl,g⟩;exact⟨rfl,g.touch _,⟨l,hl,(h5.gr g).mono (λ_ h=>.inl h),h6,h7,h8⟩,υ h2 g.size⟩
  | some y,⟨z,s,v,R,Sv,h,e1,e2⟩=>
   have hs:=h.ok.st;have hlm:=h.a.lm;have hln:=hs.cf.ln;have hn2:=hs.n2;refine(QeN (T8 c.fr top u) h.cy h.ok ⟨h.a,h.hv.rm⟩ h.tab h.t2 h.t1 h.vm h.d (n:Int) Ω).mono ?_;rintro e w' ⟨v',rfl,hf⟩;have Y:s.cf.to<=n:=by rw[h.bs];exact h3
   obtain⟨d1,d2⟩:=hf.j.1.ld hf.ok (a:=n) Y h4 (λi hi e=>by rw[e];exact Sl.tch_is hs hi);have d3:=h.a.un n Ω;refine⟨by simp_all,hf.t.mono (λk _ hk=>⟨trivial,h.x k hk⟩),⟨(s.tch n).lf,?_,z,s.tch n,v',R,plus Sv w,h.tch hf,rfl,?_⟩,υ h2 hf.t.size⟩
   ·have:=Sl.lf_mono (Sl.tch_mono s (n:Int));omega
   ·rw[(Sl.tch_mono s (n:Int)).1];exact e2
end
structure HSt where
 A:HAd
 X:Nat->Prop
 base:Nat
 top:Nat
 u:Vm
 F:Nat->Nat
 o:Option Nat
 lf:Nat
 nb:Nat
 cyc:Int
 blk:Int
def HSt.rs(s:HSt)(g:Gph):List Int:=g.S.map λx=>(s.F x:Int)
def HSt.S(s:HSt)(k:Nat):Prop:=s.X k\/k=s.A.hp\/k=s.A.g\/k=s.A.r\/k=s.A.rn
structure HIn(w:World)(c:HCf)(g:Gph)(s:HSt):Prop where
 com:CD w s.X s.A c s.base s.top (s.rs g) s.o s.cyc s.blk
 mem:EU w s.X s.A c s.base s.top s.u s.o s.lf s.nb
 img:Img s.u g s.F s.base s.top
 gok:g.Ok
 cok:c.Ok
 bt:s.base<=s.top/\s.top<=s.base+c.wd
 bs:s.base=c.pg\/(s.base=c.pg+c.wd/\c.kd≠3)
 sl:g.S.length=c.sl
section
variable {w w':World} {c:HCf} {g:Gph} {s:HSt}
theorem HIn.gr(h:HIn w c g s)(gr:Gr w w'):HIn w' c g s:=⟨h.com.gr gr,h.mem.gr gr,h.img,h.gok,h.cok,h.bt,h.bs,h.sl⟩
theorem HIn.touch{T:Nat->Prop}(h:HIn w c g s)(t:AB T w w')(hT:∀k,k<w.heap.size->T k->¬s.S k/\k≠1):HIn w' c g s:=by
 obtain⟨l1,l2,l3,l4,l5⟩:=h.com.lt
 exact⟨h.com.touch t ⟨λe=>(hT _ l1 e).1 (.inr (.inl rfl)),λe=>(hT _ l2 e).1 (.inr (.inr (.inr (.inl rfl)))),λe=>(hT _ l3 e).1 (.inr (.inr (.inl rfl))),λe=>(hT _ l4 e).1 (.inr (.inr (.inr (.inr rfl)))),λe=>(hT _ l5 e).2 rfl⟩,
  h.mem.touch t (λk hk e=>⟨λhx=>(hT k hk e).1 (.inl hx),(hT k hk e).2⟩) (λ_ h=>h),h.img,h.gok,h.cok,h.bt,h.bs,h.sl⟩
theorem HIn.cell(h:HIn w c g s){j:Nat}{x:Value}(hj:(hpL c s.A s.o s.cyc s.blk)[j]?=some x):w.cell? ⟨s.A.hp,j,none⟩=some x:=h.com.row.cell hj
theorem HIn.cc(h : HIn w c g s)(j : Nat){x : Value}(hj : (hpL c s.A s.o s.cyc s.blk)[j]?=some x := by exact rfl) : w.cell? ⟨s.A.hp,j,none⟩=some x := h.cell hj
theorem FK(h:HIn w c g s):cQ 50 #[pP s.A.hp] w (.bool false):=by
 have c8:=h.cc 8;go_enter func50,ntmps50;go_wp2;go_ret
 simp_all
def HSt.sp(s:HSt)(c:HCf):Sp:=spH s.A c s.base s.top s.o s.lf s.nb
theorem LG(h:HIn w c g s):Calls prog 70 #[pP s.A.hp] w λe w'=>e=.returned (s.sp c).v/\w=w':=by
 have c8:=h.cc 8;have c11:=h.cc 11;obtain⟨A,X,base,top,u,F,o,lf,nb,cyc,blk⟩:=s;cases o with
 | none=>
  go_enter func70,ntmps70;go_wp2;go_ret;exact⟨rfl,rfl⟩
 | some y=>
  go_enter func70,ntmps70;go_wp2;go_ret;exact⟨rfl,rfl⟩
structure HKp(s s':HSt):Prop where
 F:s'.F=s.F
 base:s'.base=s.base
 top:s'.top=s.top
theorem HKp.refl(s:HSt):HKp s s:=⟨rfl,rfl,rfl⟩
theorem HKp.trans{s1 s2 s3:HSt}(h:HKp s1 s2)(k:HKp s2 s3):HKp s1 s3:=⟨k.F.trans h.F,k.base.trans h.base,k.top.trans h.top⟩
structure XBF(w:World)(c:HCf)(g:Gph)(s s':HSt)(w':World):Prop where
 t:AB (λk=>k=s.A.hp) w w'
 i:HIn w' c g s'
 A:s'.A=s.A
 lf:s'.lf=s.lf
 o:s'.o=none↔s'.lf=0
 cyc:s'.cyc=if s.o≠none/\s.lf=0 then wrap64 (s.cyc+1)else s.cyc
 X:∀k,s'.X k->s.X k
 K:HKp s s'
theorem UK(h:HIn w c g s):Calls prog 71 #[pP s.A.hp] w λe w'=>e=.returned (.tuple #[])/\∃s',XBF w c g s s' w':=by
 have H:=h;have V:=h.cc 11;have cl:=h.com.row.lt;cases ho:s.o with
 | none=>
  rw[ho]at V;simp only[ξ8]at V;have Xa:s.lf=0:=by have:=h.mem;rw[ho]at this;exact this.2.2.2
  have HO:=ho;have Xf:=Xa;clear h ho Xa;go_enter func71,ntmps71;go_wp2;refine ζw (ζl rfl _ _ _) rfl ?_;exact⟨rfl,s,AB.refl _ _,H,rfl,rfl,⟨λ_=>Xf,λ_=>HO⟩,by rw[κ (λhh=>hh.1 HO)],λ_ h=>h,HKp.refl _⟩
 | some y=>
  rw[ho]at V;simp only[ξZ]at V;have hm:=h.mem;rw[ho]at hm;obtain⟨z,sl,v,R,Sv,Z,e1,e2⟩:=hm;have N:=(JiW Z.cy);have Xe:=Z;by_cases h0:sl.lf=0
  ·have J:=h.com.row;unfold hpL at J;rw[ho]at J;simp only[ξZ]at J;have Y:=J;have Xc:=(λ(W:World) (gg:Gr w W)=>QXi (Z.cy.gr gg));rw[θ h0]at N
   have Xg:sl.mv.length<=1048576:=by
    rw[Z.ok.st.len];have h1:=Z.ok.st.N_le;have h2:=Z.ok.st.n2;have h3:=Z.ok.st.bk.1
    have h4:nbl (sizes sl.L) sl.cf.bk<=sizes sl.L:=by
     refine ξU λh5=>?_;have h6:=(I0 h3).1 h5;have:=ξ3 (sizes sl.L) (show 0<sl.cf.bk by omega);omega
    omega
   obtain⟨m,D⟩:∃m,m=sl.mv.length:=⟨_,rfl⟩;rw[<-D]at Xc Xg;have HM:=ι D;have H0:=ι h0;have HE:=ι (ϑ ho (ϑ e1 e2));obtain⟨x,hx⟩:∃x,x=s.cyc:=⟨_,rfl⟩;obtain⟨b,I⟩:∃b,b=s.blk:=⟨_,rfl⟩;obtain⟨ap,hp⟩:∃ap,ap=s.A.hp:=⟨_,rfl⟩;rw[<-hx,<-I]at Y;rw[<-hp]at Y V cl;have Xj:=ι (ϑ hx (ϑ I hp));rw[<-hp];clear h h0 Z J ho e1 e2 hx I D hp;go_enter func71,ntmps71;go_upto_region 1 with(go_at_call 111;refine AT (N) ?_);clear V;have z0:=Y.free 13;have z1:=Y.cc 13;obtain⟨Sx,G,HS⟩:=AA.start λW'=>Gr w W';have Xd:=AA.fact G λ_ h=>(Y.gr h).cell (j:=11) rfl;have Xi:=AA.fact G λ_ h=>(Y.gr h).cell (j:=13) rfl;have E:=HS.o _ ((Gr.refl w).drew);have B:Inhabited (AA Sx):=⟨⟨_,E⟩⟩;clear G;refine AR Sx 12 [([0,1,2,3,4,5,6,7],8),([9,10,11],12)] [] (by kernel_rfl) (by kernel_rfl) E ?_;refine AG ?_
   try simp only[AC,ζ,ξ]
   repeat(go_big_quiet_step (fail))
   refine ψ ?_;go_wp2_with((go_at_call 112;refine AT (Xc _ (Gr.refl w).drew) ?_));refine⟨.inr (AA.of (HS.o _ ((Gr.refl w).drew))),?_⟩;refine AG ?_
   try simp only[AC,ζ,ξ]
   repeat(go_big_quiet_step (fail))
   refine ψ ?_;go_wp2;refine⟨.inl trivial,?_⟩;refine AS ?_;refine ψ ?_;refine τ ?_;clear Xd Xi E B;clear HS Sx;have z2:=Y.cc 11;have z3:=Y.cc 12;have zf:=Y.free;go_wp2;refine ζw (ζl rfl _ _ _) rfl ?_;obtain⟨rfl,rfl,rfl⟩:=Xj.o;have HO:=Xe;have hI:=H;have Xh:=HO.ok.st;have hr:=Y
   obtain⟨S1,S2⟩:=HO.a.shut HO.ok (λi hi=>by
    have hf:¬sl.ft<sl.mv.length:=sl.lf_zero.1 H0.o;have hb:=Xh.blk hi;unfold Sl.is
    exact sl.ft_on Ω)
   rw[HO.bs]at S1 S2;refine⟨rfl,{s with u:=v,X:=Sv,o:=none,lf:=0,nb:=0,cyc:=wrap64 (s.cyc+1),blk:=wrap64 (s.blk+m)},?_,?_,rfl,?_,⟨λ_=>rfl,λ_=>rfl⟩,?_,λk hk=>HO.x k (.inr hk),⟨rfl,rfl,rfl⟩⟩
   ·exact((((AB.refl (λk=>k=s.A.hp) w).setCell (a:=⟨s.A.hp,13,none⟩) (λ_=>rfl) _).drew).setCell (a:=⟨s.A.hp,11,none⟩) (λ_=>rfl) _).setCell (a:=⟨s.A.hp,12,none⟩) (λ_=>rfl) _
   ·have t:AB (λk=>k=s.A.hp) w (((w.setCell ⟨s.A.hp,13,none⟩ (.int .i64 (wrap64 (s.blk+m)))).drew.setCell ⟨s.A.hp,11,none⟩ (.pointer none)).setCell ⟨s.A.hp,12,none⟩ (.int .i64 (wrap64 (s.cyc+1)))):=
     ((((AB.refl (λk=>k=s.A.hp) w).setCell (a:=⟨s.A.hp,13,none⟩) (λ_=>rfl) _).drew).setCell (a:=⟨s.A.hp,11,none⟩) (λ_=>rfl) _).setCell (a:=⟨s.A.hp,12,none⟩) (λ_=>rfl) _
    have hc:=hI.com;have hx:=hc.x;refine⟨⟨(((hr.set 13 (iI (wrap64 (s.blk+m)))).gr (Gr.refl _).drew).set 11 (.pointer none)).set 12 (iI (wrap64 (s.cyc+1))),hc.rn.touch t (λe=>hc.n1.2.2.1 e.symm),hc.rt.touch t (λe=>hc.n1.1 e.symm) (λe=>hc.n1.2.1 e.symm),t.tab hc.tab.lt (λe=>hc.n1.2.2.2 e.symm) hc.tab,hc.n1,hc.n2,hc.n3,λe=>hx.1 (HO.x _ (.inr e)),λe=>hx.2.1 (HO.x _ (.inr e)),λe=>hx.2.2.1 (HO.x _ (.inr e)),λe=>hx.2.2.2.1 (HO.x _ (.inr e)),HO.t2⟩,⟨HO.vm.touch t (λk hk _ e=>hx.1 (by subst e;exact HO.x _ (.inr hk))),HO.hv,S1,rfl⟩,?_,hI.gok,hI.cok,hI.bt,hI.bs,hI.sl⟩;exact hI.img.mem λa a1 a2 _=>S2 a a1 a2
   ·rw[<-HE.o.2.1,H0.o]
   ·rw[μ ⟨by rw[HE.o.1];simp,by rw[<-HE.o.2.1];exact H0.o⟩]
  ·have HL:=ι h0;have HE:=ι (ϑ ho (ϑ e1 e2));rw[φ h0]at N;clear h h0 Z ho e1 e2;go_enter func71,ntmps71;go_wp2_with(go_at_call 111;refine AT (N) ?_);refine ζw (ζl rfl _ _ _) rfl ?_;have Xb:s.lf≠0:=by rw[<-HE.o.2.1];exact HL.o
   exact⟨rfl,s,AB.refl _ _,H,rfl,rfl,⟨(λe=>by rw[HE.o.1]at e;cases e),λe=>absurd e Xb⟩,by rw[κ (λhh=>Xb hh.2)],λ_ h=>h,HKp.refl _⟩
def HCf.ot(c:HCf)(base:Nat):Nat:=2*c.pg+c.wd-base
theorem HIn.ot(h:HIn w c g s):(c.ot s.base=c.pg+c.wd/\s.base=c.pg)\/(c.ot s.base=c.pg/\s.base=c.pg+c.wd):=by
 unfold HCf.ot;rcases h.bs with e|⟨e,-⟩
 ·omega
 omega
theorem VrP(h:HIn w c g s):Calls prog 120 #[pP s.A.hp] w λe w'=>e=.returned (iI (c.ot s.base))/\Gr w w':=by
 have J:=h.ot;have hpw:=h.cok.pw;have hwd:=h.cok.wd;have HC:=(λ(W:World) (gg:Gr w W)=>(h.com.gr gg).row);have HB:=(λ(W:World) (gg:Gr w W)=>O8 (h.com.gr gg).rn);obtain⟨ap,hp⟩:∃ap,ap=s.A.hp:=⟨_,rfl⟩;rw[<-hp]at HC⊢;have hv:(2*(c.pg:Int)+c.wd-s.base)=(c.ot s.base:Nat):=Ω
 have HV:=ι hv;obtain⟨b,hb⟩:∃b,b=s.base:=⟨_,rfl⟩;rw[<-hb]at HB HV J⊢;clear h hp hv hb;go_enter func120,ntmps120;go_upto_region 1 with(fail);obtain⟨Sx,Y,HS⟩:=AA.start λW'=>Gr w W';have y1:=AA.fact Y λ_ h=>(HC _ h).cell (j:=1) rfl;have y3:=AA.fact Y λ_ h=>(HC _ h).cell (j:=3) rfl;have y10:=AA.fact Y λ_ h=>(HC _ h).cell (j:=10) rfl;have Z:=HS.o _ ((Gr.refl w).drew);have inst:Inhabited (AA Sx):=⟨⟨_,Z⟩⟩;clear Y;refine AR Sx 19 [([0,1,2,3,4,5,6,7,8,9,10,11,12,13,14,15],16)] [17,18] (by kernel_rfl) (by kernel_rfl) Z ?_;refine AG ?_
 try simp only[AC,ζ,ξ]
 repeat(go_big_quiet_step (fail))
 refine ψ ?_;go_wp2_with((go_at_call 88;refine AT (HB _ (Gr.refl w).drew) ?_));refine⟨.inr (AA.of (HS.o _ ((Gr.refl w).drew))),?_⟩;refine AS ?_
 try simp only[AC,ζ,ξ]
 repeat(go_big_quiet_step (fail))
 refine ψ ?_;refine τ ?_;go_wp2;go_ret;exact⟨AL HV.o,(Gr.refl w).drew⟩
theorem QHg(W:World)(b:Nat)(x0 x1 x2 x3 x4 x5 x6:Value)(h:Rec W b 156 [x0,x1,x2,x3,x4,x5,x6]):(loadVar 156 ⟨b,0,none⟩).run prog W=.ok (.agg #[x0,x1,x2,x3,x4,x5,x6]) W:=by
 have a1:(isAgg 156).run prog W=.ok true W:=by kernel_rfl
 have a2:(sizeOf 156).run prog W=.ok 7 W:=by kernel_rfl
 have c0:=h.cc 0;have c1:=h.cc 1;have c2:=h.cc 2;have c3:=h.cc 3;have c4:=h.cc 4;have c5:=h.cc 5;have c6:=h.cc 6;simp[loadVar,Sem.run_bind,a1,a2,Result.andThen,loadCells,go_sem,c0,c1,c2,c3,c4,c5,c6]
theorem VZS(h:HIn w c g s):Calls prog 84 #[pP s.A.hp] w λe w'=>e=.returned (cfV (DC c s.base s.top (c.ot s.base)))/\Gr w w':=by
 have G:=h.ot;have hpw:=h.cok.pw;have hwd:=h.cok.wd;have N:=(Gr.refl w).alloc (.cells #[.int .i64 0,.int .i64 0,.int .i64 0,.int .i64 0,.int .i64 0,.int .i64 0,.int .i64 0] 156);have HO:=(VrP (h.gr N));have HC:=(λ(W:World) (gg:Gr w W)=>(h.com.gr gg).row);have HB:=(λ(W:World) (gg:Gr w W)=>O8 (h.com.gr gg).rn);have HT:=(λ(W:World) (gg:Gr w W)=>U9 (h.com.gr gg).rn);have HR:=(Rec.new w 156 [iI 0,iI 0,iI 0,iI 0,iI 0,iI 0,iI 0]);unfold cfV DC;dsimp only;obtain⟨ap,hp⟩:∃ap,ap=s.A.hp:=⟨_,rfl⟩;rw[<-hp]at HC HO⊢;obtain⟨d,hd⟩:∃d,d=c.ot s.base:=⟨_,rfl⟩;rw[<-hd]at HO G⊢;have HL:=h.com.row.lt;rw[<-hp]at HL;clear h hp hd;go_enter func84,ntmps84;go_upto_region 2 with(go_at_call 120;refine(HO).mono ?_;rintro e w1 ⟨rfl,V⟩;have I:=(N.trans V);have r1:=HR.gr V;clear V);have Z:Gr w w1.drew:=I.drew;have z0:=r1.cc 0;have z1:=r1.cc 1;have z2:=r1.cc 2;have z3:=r1.cc 3;have z4:=r1.cc 4;have z5:=r1.cc 5;have z6:=r1.cc 6;have zf:=r1.free;obtain⟨Sx,Y,HS⟩:=AA.start λW'=>Gr w W';have y2:=AA.fact Y λ_ h=>(HC _ h).cell (j:=2) rfl;have y3:=AA.fact Y λ_ h=>(HC _ h).cell (j:=3) rfl;have y5:=AA.fact Y λ_ h=>(HC _ h).cell (j:=5) rfl;have y6:=AA.fact Y λ_ h=>(HC _ h).cell (j:=6) rfl;have D:=AA.fact Y λ_ h=>(HC _ h).cell (j:=10) rfl;have J:=HS.o _ (Z);have E:Inhabited (AA Sx):=⟨⟨_,J⟩⟩;clear Y;refine AR Sx 34 [([0,1,2,3,5,6,7,8,10,11,12,13,14,15,16,17,18,19,20,21,22,23,24,25,26,27,28,29,30,31,32],4),([],9),([33],34)] [] (by kernel_rfl) (by kernel_rfl) J ?_;refine AG ?_
 try simp only[AC,ζ,ξ]
 repeat(go_big_quiet_step (fail))
 refine ψ ?_;go_wp2_with((go_at_call 88;refine AT (HB _ Z) ?_));refine⟨.inr (AA.of (HS.o _ (Z))),?_⟩;refine AG ?_
 try simp only[AC,ζ,ξ]
 repeat(go_big_quiet_step (fail))
 refine ψ ?_;go_wp2_with((go_at_call 89;refine AT (HT _ Z) ?_));refine⟨.inr (AA.of (HS.o _ (Z))),?_⟩;refine AG ?_
 try simp only[AC,ζ,ξ]
 repeat(go_big_quiet_step (fail))
 refine ψ ?_;go_wp2;refine⟨.inl trivial,?_⟩;refine AS ?_;refine ψ ?_;refine τ ?_;clear y2 y3 y5 y6 D J E;clear HS Sx;go_wp2;have R:=(((((((r1.set 0 (iI s.base)).set 1 (iI s.top)).set 2 (iI d)).set 3 (iI ((d:Int)+c.wd))).set 4 (iI c.bk)).set 5 (iI c.st)).set 6 (iI c.ah)).gr (Gr.refl _).drew;have hl:=QHg _ _ _ _ _ _ _ _ _ R;refine ζD (v:=.agg #[iI s.base,iI s.top,iI d,iI ((d:Int)+c.wd),iI c.bk,iI c.st,iI c.ah]) ?_ rfl ⟨rfl,?_⟩
 ·simp[results,results84,asAddr,hl]
 ·have t:AB (λk=>w.heap.size<=k) w w1:=I.touch _;exact(((((((t.setCell (a:=⟨w.heap.size,0,none⟩) (λ_=>π _) _).setCell (a:=⟨w.heap.size,1,none⟩) (λ_=>π _) _).setCell (a:=⟨w.heap.size,2,none⟩) (λ_=>π _) _).setCell (a:=⟨w.heap.size,3,none⟩) (λ_=>π _) _).setCell (a:=⟨w.heap.size,4,none⟩) (λ_=>π _) _).setCell (a:=⟨w.heap.size,5,none⟩) (λ_=>π _) _).setCell (a:=⟨w.heap.size,6,none⟩) (λ_=>π _) _ |>.mono (λk hk h=>by omega)).gr.drew
end
section
variable {w w':World} {X Sv:Nat->Prop} {A:HAd} {c:HCf} {b0 t0 b t:Nat} {rs:List Int} {cy:Option Nat} {cyc blk:Int} {v:Vm}
theorem XQQ(h:CD w X A c b0 t0 rs cy cyc blk)(hV:AD w Sv A.q v)(h1:b<=t)(h2:t<=b+c.wd)(h3:b+c.wd<=v.n)(hn:v.n≠0)(hX:∀k,X k->k<w.heap.size):Calls prog 86 #[pP A.hp,iI b,iI t] w λe w'=>e=.returned (.tuple #[])/\∃rn,w.heap.size<=rn/\AB (λk=>k=A.hp) w w'/\CD w' X {A with rn:=rn} c b t rs cy cyc blk:=by
 have hn2:=hV.ok.n2;have G:=(λ(W:World) (g:Gr w W)=>YN8 (base:=b) (lim:=b+c.wd) (hV.gr g) hn (ζM _ _) h3);rw[show (((b+c.wd:Nat)):Int)=(b:Int)+c.wd by omega]at G;have HC:=(λ(W:World) (g:Gr w W)=>(h.gr g).row);have HX:=hX;have HB:=(ϑ h1 h2);obtain⟨ap,J⟩:∃ap,ap=A.hp:=⟨_,rfl⟩;rw[<-J]at HC;have HA:=ι J;have Xg:=h.row.lt;rw[<-J]at Xg⊢;have hbw:b+c.wd<=524288:=Ω
 clear hV h1 h2 h3 hn hX J;go_enter func86,ntmps86;go_upto_region 0 with(fail);obtain⟨Sx,I,HS⟩:=AA.start λW'=>(∃r:Nat,Rec W' ap 92 (hpL c {A with rn:=r} cy cyc blk))
 have y3:∀p:AA Sx,p.w.cell? ⟨ap,3,none⟩=some (iI c.wd):=λp=>by have h:=AA.get I p;exact by obtain⟨r,h⟩:=h;exact h.cc 3
 have y8:∀p:AA Sx,p.w.cell? ⟨ap,8,none⟩=some (pP A.q):=λp=>by have h:=AA.get I p;exact by obtain⟨r,h⟩:=h;exact h.cc 8
 have D:=HS.o _ (⟨A.rn,HC _ (Gr.refl w).drew⟩);have inst:Inhabited (AA Sx):=⟨⟨_,D⟩⟩;clear I;refine AR Sx 20 [([0,1,2,3,4,5,6,7,8,9,10,11,12],13),([14,15,16,17,18],19)] [] (by kernel_rfl) (by kernel_rfl) D ?_;refine AG ?_
 try simp only[AC,ζ,ξ]
 repeat(go_big_quiet_step (fail))
 refine ψ ?_;go_wp2_with((go_at_call 42;refine(G _ (Gr.refl w).drew).mono ?_;rintro e w1 ⟨rn,rfl,V,Xd,N⟩;have Y:=((Gr.refl w).drew.trans V);have E:=(ϑ Xd N);have Xc:=(HC _ ((Gr.refl w).drew.trans V)).cell (j:=10) rfl;have zf:=(HC _ ((Gr.refl w).drew.trans V)).free 10));refine⟨.inr (AA.of (HS.o _ (⟨A.rn,HC _ Y⟩))),?_⟩;refine AG ?_
 try simp only[AC,ζ,ξ]
 repeat(go_big_quiet_step (fail))
 refine ψ ?_;go_wp2_with(fail);refine⟨.inr (AA.of (HS.o _ (⟨rn,(HC _ Y).set 10 (pP rn)⟩))),?_⟩;refine AS ?_
 try simp only[AC]
 repeat(go_big_quiet_step (fail))
 refine ψ ?_;refine τ ?_;have N:=E.2;have hrl:=E.1;have hsz:w.drew.heap.size=w.heap.size:=rfl;have Xe:rn≠ap:=Ω
 have tp:AB (λk=>k=ap) w1 (w1.setCell ⟨ap,10,none⟩ (.pointer (some ⟨rn,0,none⟩))):=(AB.refl (λk=>k=ap) w1).setCell (a:=⟨ap,10,none⟩) (λ_=>rfl) _;have Xf:=(XT (N.touch tp Xe) HB.1 HB.2);have B:=Rec.set (HC _ Y) 10 (pP rn);have Xa:=B;have Xc:=B.cc 10;go_wp2_with(go_at_call 90;refine(Xf).mono ?_;rintro e w3 ⟨rfl,Xh,Xb⟩;have Z:=Xh);refine ζw (ζl rfl _ _ _) rfl ?_;have hc:=h;obtain⟨l1,l2,l3,l4,l5⟩:=hc.lt;have eA:=HA.o;subst eA;have k:=hc.gr Y;refine⟨rfl,rn,by omega,((Y.touch (λk=>k=A.hp)).trans tp).trans' Z (λi hi e=>by omega),⟨?_,Xb,?_,?_,⟨hc.n1.1,hc.n1.2.1,by show A.hp≠rn;omega,hc.n1.2.2.2⟩,⟨hc.n2.1,by show A.r≠rn;omega,hc.n2.2.2⟩,⟨by show A.g≠rn;omega,hc.n3.2.1,by show rn≠_;omega⟩,⟨hc.x.1,hc.x.2.1,hc.x.2.2.1,λe=>by have:=HX _ e;show False;have:rn<w.heap.size:=this;omega,hc.x.2.2.2.2⟩⟩⟩
 ·exact(Xa.touch Z (by show A.hp≠rn;omega))
 ·exact(k.rt.touch tp (λe=>hc.n1.1 e.symm) (λe=>hc.n1.2.1 e.symm)).touch Z (by show A.r≠rn;omega) (by show A.g≠rn;omega)
 ·exact Z.tab (tp.tab k.tab.lt (λe=>hc.n1.2.2.2 e.symm) k.tab).lt (by show _≠rn;omega) (tp.tab k.tab.lt (λe=>hc.n1.2.2.2 e.symm) k.tab)
end
section
variable {w w':World} {c:HCf} {g:Gph} {s:HSt}
theorem HSt.len(s:HSt)(g:Gph):(s.rs g).length=g.S.length:=ξ1 ..
theorem LE(s:HSt)(g:Gph)(i:Int):slE (s.rs g) i=if g.sl i then 0 else 17:=by
 unfold slE Gph.sl;rw[s.len]
 simp_all
theorem MJ{g:Gph}{i:Int}(h:g.sl i=true):∃n:Nat,i=n/\n<g.S.length/\g.at i=g.S.getD n 0:=by
 unfold Gph.sl at h;rw[ζd,ζf,ζf]at h;exact⟨i.toNat,by omega,by omega,rfl⟩
theorem HSt.get(s:HSt)(g:Gph){n:Nat}(h:n<g.S.length):(s.rs g)[n]'(by rw[s.len];exact h)=(s.F (g.S.getD n 0):Int):=by
 unfold HSt.rs
 simp_all
def JV8(w:World)(g:Gph)(s:HSt)(l:List Int)(e:Ending)(w':World):Prop:=
 Gr w w'/\(((∀x∈l,g.sl x=true)/\∃v,e=.returned (.tuple #[v,iI 0])/\w'.ownsRow w.heap.size 3 1 v l.length (zs (l.map λx=>(s.F (g.at x):Int)))) ∨
  ((∃x∈l,g.sl x=false)/\e=.returned (.tuple #[.slice none 0 0,iI 17])))
theorem XEM(h:HIn w c g s){b:Nat}{l:List Int}(hl:l.length<=2)(hc:∀j (hj:j<l.length),w.cell? ⟨b,j,none⟩=some (iI l[j]))(hb:b<w.heap.size):
  Calls prog 68 #[pP s.A.hp,.slice (some ⟨b,0,none⟩) l.length l.length] w (JV8 w g s l):=by
 have HN:=(FK h);have D:=(λ(W:World) (gg:Gr w W)=>(h.com.gr gg).row)
 have HG:=(λ(W:World) (gg:Gr w W) (i:Int) (hi:g.sl i=true)=>(by
  obtain⟨n,rfl,h1,h2⟩:=MJ hi;have:=YU (h.com.gr gg).rt (i:=n) (by rw[s.len];exact h1);rw[s.get g h1,<-h2]at this
  exact this:Calls prog 55 #[pP s.A.r,iI i] W λe w'=>e=.returned (.tuple #[iI (s.F (g.at i)),iI 0])/\Gr W w'))
 have Xd:=(λ(W:World) (gg:Gr w W) (i:Int) (hi:g.sl i=false)=>VMw (h.com.gr gg).rt (i:=i) (by rw[LE,hi];decide));have Xc:=(λ(W:World) (gg:Gr w W) (j:Nat) (hj:j<l.length)=>(gg.cell hb j).trans (hc j hj));obtain⟨ap,E⟩:∃ap,ap=s.A.hp:=⟨_,rfl⟩;rw[<-E]at HN D⊢;have Xh:=h.com.row.lt;rw[<-E]at Xh;obtain⟨m,hm⟩:∃m,m=l.length:=⟨_,rfl⟩;rw[<-hm]at hl⊢;obtain⟨ii,Xi,Xf,Xe,Xg⟩:=info_parts SF;clear h hc E;go_enter func68,ntmps68;go_wp2_with(go_at_call 50;refine AT (HN) ?_)
 go_loopw [6,15] (λs6 s15 wr=>∃(j:Nat) (v:Value),j<=m/\s6=v/\s15=iI j/\Hid (Gr w wr)/\Hid (∀x∈l.take j,g.sl x=true)/\Hid (wr.ownsRow w.heap.size 3 1 v j (zs ((l.take j).map λx=>(s.F (g.at x):Int))))) (λ_ s15 _=>m-(intOf s15).toNat)
 case atStart=>exact⟨0,.slice none 0 0,by omega,rfl,rfl,⟨Gr.refl w⟩,⟨λx hx=>by simp at hx⟩,⟨GD _ _ _ _⟩⟩
 case round=>
  obtain⟨j,v6,hj,rfl,rfl,Z,Xa,HO⟩:=hrel;by_cases Y:j=m
  ·subst Y;go_wp2;go_ret2;refine⟨Z.o,.inl ⟨λx hx=>Xa.o x (by rw[hm,ζ3];exact hx),_,rfl,?_⟩⟩;have:=HO.o;rw[hm,ζ3]at this;exact this
  ·have N:j<l.length:=by have:=hm;omega
   have hjm:(j:Int)<(m:Int):=Ω
   have c0:=Xc _ Z.o j N;have r9:=(D _ Z.o).cell (j:=9) rfl;have pl:=(D _ Z.o).lt;obtain⟨x,hx⟩:∃x,x=l[j]:=⟨_,rfl⟩;rw[<-hx]at c0;have HX:Hid (x∈l/\l.take (j+1)=l.take j++[x]):=⟨by rw[hx];exact χ N,by rw[hx];exact ζY N⟩;have HJ:=(ϑ hj Y);cases hsl:g.sl x with
   | true=>
    clear hx N Y;go_upto_region 10 with(go_at_call 55;refine(HG _ Z.o x hsl).mono ?_;rintro e w2 ⟨rfl,J⟩;have I:=(Z.o.trans J);have G:=(CK HO.o J);clear J);go_wp2_with(at_builtin;refine wpList_append_own _ rfl _ _ 66 rfl w.heap.size 3 ii (iI 0) 1 8 underlying66 Xi Xf Xe Xg rfl (by decide) u6 j (zs ((l.take j).map λx=>(s.F (g.at x):Int))) rfl (CK G ((Gr.refl _).alloc _)) ⟨w2.heap.size,0,none⟩ 1 1 [iI (s.F (g.at x))] rfl rfl (cell_one_new _ _ _) (by simp[Value.oneCell']) (by unfold maxLen;omega) Ω (by have:=I.size;simp;omega) ?_;intro v' w5 B V _;have Xb:Hid (Gr w w5):=⟨(((I.touch (λi=>w.heap.size<=i)).trans (((Gr.refl w2).alloc _).touch _)).trans' (EB V (λi=>w.heap.size<=i) (λi e _=>(A9 G e).1)) (λ_ _ h=>h) |>.mono (λk hk h=>by omega)).gr⟩;clear V);go_round
    case rel=>
     refine⟨j+1,_,by have:=HJ;omega,rfl,by go_num,Xb,⟨λz hz=>?_⟩,⟨?_⟩⟩
     ·rw[HX.o.2]at hz;rcases ζt.1 hz with h1|h1
      ·exact Xa.o z h1
      ·rw[ζO.1 h1];exact hsl
     ·rw[HX.o.2,ζ6];have:=B;unfold zs at this⊢;rw[ζ6];exact this
    case measure=>have:=HJ;simp[intOf];omega
   | false=>
    clear hx N Y;go_wp2_with(go_at_call 55;refine(Xd _ Z.o x hsl).mono ?_;rintro e w2 ⟨rfl,J⟩;have I:=J;clear J);go_ret2;exact⟨Z.o.trans I,.inr ⟨⟨x,HX.o.1,hsl⟩,rfl⟩⟩
end
end Go.Proofs.YteihjlcmjecmfaaGreatDoor
