/- Part 10 of what QueueNobody leans on: my own lemmas, merged by shake.py. -/
import Derived.Test.YtggjoonlcjjgkaaGreatDoorQueueNobodyI
namespace Go.Proofs.YtggjoonlcjjgkaaGreatDoor
open _root_.Go.Proofs.Tryz
set_option maxHeartbeats 12800000
set_option maxRecDepth 100000
open Go.RowKit Go.Shelf Word
variable{z:BZ}{blk cyc:Int}{l l':List Bool}{O:List Int}{L:List Ob}{M W a b cp cr f g i j k lf nb p q0 r t0 x y:Nat}{m:Nat->Bool}{R Sv T X X':Nat->Prop}{A0:Option Addr}{cy o:Option Nat}{s s':Sl}{u u' v v' v1 v2:Vm}{w w':World}
section
variable{S:Nat->Prop}{q:Nat}{A:Sl->Vm->Prop}
def ZAh(w:World)(R S:Nat->Prop)(y q:Nat)(z:BZ)(A:Sl->Vm->Prop)(s:Sl)(a:Int)(e:Ending)(w':World):Prop:=
 ∃v',e=.returned (.tuple #[uU (v'.ldV a:Nat),iI (v'.ldE a)])/\I3 w w' R S y q z A (s.tch a) v'
theorem I3.gr{w1:World}(h:I3 w w1 R S y q z A s' v')(g:Gr w1 w'):I3 w w' R S y q z A s' v':=
 ⟨h.t.trans (g.touch _),h.cy.gr g,h.vm.gr g,h.ok,h.j⟩
theorem QeN(hJ:SlJ A)(hC:Cyc w R y q z s)(hO:BL s v)(hA:A s v)(hT:AP w)(htS:¬S 1)(htR:¬R 1)(hV:AD w S q v)(hdis:∀k,R k->¬S k)(a:Int)(ha:a<=9223372036854775807):
  Calls prog 259 #[pP y,iI a] w (ZAh w R S y q z A s a):=by
 have HT:=(ZK hJ hC hO hA hT htS htR hV hdis a ha);go_enter func259,ntmps259;go_upto_region 4 with(go_at_call 261;refine(HT).mono ?_;rintro e w1 ⟨v',rfl,hf⟩;have c0:=hf.cy.rc.cc 0);have Y:=(LQ hf.vm a);go_wp2_with(go_at_call 190;refine(Y).mono ?_;rintro e w2 ⟨rfl,J⟩;have Z:=J);go_ret2;exact⟨v',by rfl,hf.gr Z⟩
def JaS(w:World)(R S:Nat->Prop)(y q:Nat)(z:BZ)(A:Sl->Vm->Prop)(s:Sl)(a:Int)(x:Nat)(e:Ending)(w':World):Prop:=
 ∃v',e=.returned (iI (v'.ldE a))/\AB (λb=>R b\/S b) w w'/\Cyc w' R y q z (s.tch a)/\AD w' (plus S w) q (v'.st a x)/\BL (s.tch a) v'/\A (s.tch a) v'
theorem ZaI(hJ:SlJ A)(hC:Cyc w R y q z s)(hO:BL s v)(hA:A s v)(hT:AP w)(htS:¬S 1)(htR:¬R 1)(hV:AD w S q v)(hdis:∀k,R k->¬S k)(a:Int)(ha:a<=9223372036854775807)(hx:x<18446744073709551616):
  Calls prog 260 #[pP y,iI a,uU x] w (JaS w R S y q z A s a x):=by
 have HT:=(ZK (S:=AE S w) hJ hC hO hA hT (λh=>htS h.1) htR hV.cut (λk h h'=>hdis k h h'.1) a ha);have HR:=(θ hC.od.lt hdis);go_enter func260,ntmps260;go_upto_region 4 with(go_at_call 261;refine(HT).mono ?_;rintro e w1 ⟨v',rfl,hf⟩;have c0:=hf.cy.rc.cc 0);have Z:=(J3 hf.vm.cut a hx);obtain⟨er,Y⟩:∃er,er=v'.ldE a:=⟨_,rfl⟩;rw[<-Y]at Z;have N:=ι Y;clear Y;go_wp2_with(go_at_call 169;refine(Z).mono ?_;rintro e w2 ⟨rfl,J,I⟩;have V:=I);go_ret;refine⟨v',by rw[N.o];rfl,(hf.t.mono (λb _ h=>h.imp id (λh=>h.1))).trans' J (λb hb h=>?_),hf.cy.touch J (λb hb h=>?_),V.mono (λb hb=>?_),hf.ok,hf.j⟩
 ·rcases h.1 with h|h
  ·exact .inr h.1
  ·omega
 ·have:=HR.1 b hb;rcases h.1 with h|h
  ·exact HR.2 b hb h.1
  ·omega
 ·rcases hb.1 with h|h
  ·exact .inl h.1
  ·exact .inr h
end
theorem BL.store(h:BL s v)(hi:i<sizes s.L)(hm:s.is i=true)(hx:x<18446744073709551616):BL {s with c:=λj=>if j=i then x else s.c j} (v.st ((s.cf.to+i:Nat):Int) x):=by
 obtain⟨d1,d2⟩:=h.mid.dst i hi hm;have Y:=h.mid.ok.st_ldV x d1;have hs:=h.st;refine⟨⟨hs.pg,hs.n2,hs.cf,hs.good,hs.inn,hs.fit,hs.hd,hs.len⟩,⟨h.mid.ok.st _ hx,(BK.st v _ x).n.trans h.mid.n,(BK.st v _ x).pg.trans h.mid.pg,λj hj hu=>?_,λj hj hd=>?_⟩⟩
 ·have Z:(!s.is j)=true:=hu;obtain⟨h1,h2,h3⟩:=h.mid.src j hj Z;have J:j≠i:=λe=>by simp_all
  have ha:(((s.cf.to+i:Nat):Int)≠(AG s.L j:Nat)):=λe=>hs.apart ⟨(hs.srcs hj).1,(hs.srcs hj).2.1⟩ ⟨ζL _ i,(hs.dsts hi).1⟩ (by grind)
  show (v.st _ x).ldE _=0/\s.cv j _=(if j=i then x else s.c j)/\_
  rw[FB,Y,ϑ ha,ϑ J];exact⟨h1,h2,h3⟩
 ·show (v.st _ x).ldE _=0/\(v.st _ x).ldV _=(if j=i then x else s.c j)
  rw[FB,Y];by_cases e:j=i
  ·simp_all
  ·show v.ldE ((s.cf.to+j:Nat):Int)=0/\(if ((s.cf.to+i:Nat):Int)=((s.cf.to+j:Nat):Int)then x else v.ldV ((s.cf.to+j:Nat):Int))=_
   rw[ϑ Ω,ϑ e];exact h.mid.dst j hj hd
def AX(v:Vm)(c:Cf)(L:List Ob):Sl:=
 {n:=v.n,pg:=v.pl.pg,cf:=c,L:=L,hd:=λa=>v.rdH (a:Nat),c:=λi=>cvH L c.to (v.rdH ((L.getD (BS L i) (0,0)).1:Nat)) (i-sizes (L.take (BS L i))) (v.ldV (AG L i:Nat)),mv:=List.replicate (nbl (sizes L) c.bk) false}
structure EN(s:Sl)(v v':Vm)(q0 j:Nat):Prop where
 ok:AF v'
 n:v'.n=v.n
 pg:v'.pl.pg=v.pl.pg
 rm:v'.pl.rm=v.pl.rm
 map:∀p,p<v.pt.length->(v'.pt.getD p 0≠0↔v.pt.getD p 0≠0/\¬((q0<=p/\p<q0+j)/\s.on (λ_=>true) p=0))
 val:∀a:Nat,a<v.n->¬((q0<=a/v.pl.pg/\a/v.pl.pg<q0+j)/\s.on (λ_=>true) (a/v.pl.pg)=0)->v'.ldE a=v.ldE a/\v'.ldV a=v.ldV a
theorem Pln.touch{F n B base:Nat}(h:Pln w F p n B base L)(t:AB T w w')(hT:∀k,F<=k->k<w.heap.size->¬T k):Pln w' F p n B base L:=by
 obtain⟨h1,h2,h3,f,c0,c1,hF⟩:=h;exact⟨υ h1 t.size,h2,h3,f,(t.cell h1 (hT _ h2 h1) 0).trans c0,(t.cell h1 (hT _ h2 h1) 1).trans c1,hF.touch t hT⟩
theorem EN.zero(h:AF v)(q0:Nat):EN s v v q0 0:=
 ⟨h,rfl,rfl,rfl,λp _=>⟨λh=>⟨h,λh'=>by omega⟩,λh=>h.1⟩,λ_ _ _=>⟨rfl,rfl⟩⟩
theorem EN.keep(h:EN s v v' q0 j)(hz:s.on (λ_=>true) (q0+j)≠0):EN s v v' q0 (j+1):=by
 refine⟨h.ok,h.n,h.pg,h.rm,λp hp=>(h.map p hp).trans (and_congr_right λ_=>not_congr ⟨λ⟨⟨a,b⟩,c⟩=>⟨⟨a,by omega⟩,c⟩,λ⟨⟨a,b⟩,c⟩=>⟨⟨a,?_⟩,c⟩⟩),λa ha hn=>h.val a ha (λ⟨⟨x,y⟩,c⟩=>hn ⟨⟨x,by omega⟩,c⟩)⟩
 grind
theorem EN.drop(h:EN s v v' q0 j)(hz:s.on (λ_=>true) (q0+j)=0):EN s v (v'.um ((q0+j:Nat):Int)) q0 (j+1):=by
 obtain⟨s1,s2,s3,s4⟩:=YE v' ((q0+j:Nat):Int);by_cases hf:frE v'.pt ((q0+j:Nat):Int)=0
 ·refine⟨h.ok.um _,s1.trans h.n,s2.trans h.pg,s3.trans h.rm,λp hp=>?_,λa ha hn=>?_⟩
  ·rw[ZdX hf,h.map p hp,and_assoc]
   grind
  ·have J:a/v.pl.pg≠q0+j:=λe=>hn ⟨by omega,by simp_all⟩;have Z:a<v'.n:=by rw[h.n];exact ha
   have Y:a/v'.pl.pg≠q0+j:=by rw[h.pg];exact J
   rw[h.ok.um_ldE hf Z,ϑ Y,h.ok.um_ldV hf Z Y];exact h.val a ha (λ⟨⟨x,y⟩,c⟩=>hn ⟨⟨x,by omega⟩,c⟩)
 ·rw[PQ hf];refine⟨h.ok,h.n,h.pg,h.rm,λp hp=>?_,λa ha hn=>h.val a ha (λ⟨⟨x,y⟩,c⟩=>hn ⟨⟨x,by omega⟩,c⟩)⟩;rw[h.map p hp];refine and_congr_right λhv=>not_congr ⟨λ⟨⟨a,b⟩,c⟩=>⟨⟨a,by omega⟩,c⟩,λ⟨⟨a,b⟩,c⟩=>⟨⟨a,?_⟩,c⟩⟩;rcases χ p (q0+j)with h1|h1
  ·exact h1
  ·exfalso;obtain rfl:p=q0+j:=Ω
   have h2:=(h.map _ hp).2 ⟨hv,λ⟨⟨_,y⟩,_⟩=>by omega⟩
   have h3:q0+j<v'.pt.length:=by
    grind
   rw[LP h3,ϑ h2]at hf;exact hf rfl
theorem R9(n k:Nat):at_ (List.replicate n false) k=false:=by
 unfold at_
 grind
section
variable{c:Cf}{rs:List Int}
theorem LC(v:Vm)(c:Cf)(L:List Ob)(i:Nat):(AX v c L).is i=false:=R9 _ _
theorem Q7(v:Vm)(c:Cf)(L:List Ob):(AX v c L).mvd=0:=GO λ_ _=>R9 _ _
theorem Q20(v:Vm)(c:Cf)(L:List Ob):(AX v c L).ft=0:=F2 (ζh _) (λ_ h=>absurd h (ζQ _)) (λ_=>by show (!at_ (List.replicate _ false) 0)=true;rw[R9];rfl)
theorem X5(v:Vm)(c:Cf)(L:List Ob):(AX v c L).lf=nbl (sizes L) c.bk:=by
 unfold Sl.lf;rw[Q7];exact ζE
theorem OQ(hok:AF v)(hcf:GW v.pl.pg v.n c)(hI:EX v rs c.fr c.tp L)(hfit:sizes L<=c.lm-c.to):A7 (AX v c L):=by
 refine⟨hok.page,hok.n2,hcf,hI.1.mkd.good,λo ho=>?_,?_,λj hj=>?_,ζE⟩
 ·have:=hI.2 o ho
  show c.fr<=o.1/\o.1+o.2<=c.tp
  omega
 ·show c.to+sizes L<=c.lm
  have:=hcf.lm;omega
 ·have Y:j<L.length:=hj;obtain⟨h1,h2,h3⟩:=hI.1.mkd.ats _ (π Y);obtain⟨b,p,f,k,he,-,hh,hs,-,-,hz,-⟩:=O8 hI.1.sound h1;exact⟨p,f,k,hh,hs,by show L[j].2=1+p+f+k;omega⟩
theorem VN(hi:i<sizes L):(AX v c L).on (λ_=>true) (AG L i/v.pl.pg)≠0:=by
 have:1<=(AX v c L).on (λ_=>true) (AG L i/v.pl.pg):=Sl.on_pos (s:=AX v c L) (i:=i) hi rfl rfl;omega
theorem XE(hok:AF v)(hcf:GW v.pl.pg v.n c)(hI:EX v rs c.fr c.tp L)(hfit:sizes L<=c.lm-c.to)(hfull:FJ v L)(hU:EN (AX v c L) v v' q0 j):BL (AX v c L) v':=by
 have Y:=OQ hok hcf hI hfit;refine⟨Y,hU.ok,hU.n,hU.pg,λi hi _=>?_,λi hi hd=>?_⟩
 ·have D:i<sizes L:=hi;obtain⟨h1,h2,h3⟩:=Y.srcs hi;obtain⟨jo,hj,m,p,f,k,e1,e2,e3,e4,e5,e6,e7,e8,e9⟩:=Y.obj hi;have J:jo<L.length:=hj;have hv:=hU.val (AG L i) h3 (λh=>VN D h.2);have e4':AG L i=L[jo].1+m:=e4;have I:m<L[jo].2:=e2;have hl:=hfull _ (π J) m I;rw[show ((L[jo].1:Nat):Int)+(m:Int)=(AG L i:Nat)by omega]at hl;refine⟨hv.1.trans hl,?_,λhp=>?_⟩
  ·show (AX v c L).cv i (v'.ldV (AG L i:Nat))=_
   rw[hv.2];rfl
  ·show v'.ldV (AG L i:Nat)<=_
   rw[hv.2];obtain⟨E,Z⟩:=hp;rw[e5]at E Z;rw[e6,e7]at Z;obtain⟨hr,-,-⟩:=hI.1.mkd.ats _ (π J);obtain⟨b,p',f',k',he,-,hh,hs,-,-,hz,N⟩:=O8 hI.1.sound hr;have V:v.rdH (L[jo].1:Nat)=⟨p,f,k⟩:=e7;rw[hh]at V;have hpe:(p':Int)=p:=by injection V
   have hp2':(m:Int)<=(p:Int):=Z;have:=N (m-1) Ω;rw[show ((L[jo].1:Nat):Int)+1+((m-1:Nat):Int)=(AG L i:Nat)by omega]at this;exact this.2.1
 grind [LC]
theorem JlU(hok:AF v)(hcf:GW v.pl.pg v.n c)(hI:EX v rs c.fr c.tp L)(hfit:sizes L<=c.lm-c.to)(hfull:FJ v L)(hU:EN (AX v c L) v v' (c.fr/v.pl.pg) j)(hj:c.tp<=(c.fr/v.pl.pg+j)*v.pl.pg)
  (hm:∀p,p<v.pt.length->v.pt.getD p 0≠0->c.fr/v.pl.pg<=p/\p*v.pl.pg<c.tp):XU7 (AX v c L) v':=by
 have N:=OQ hok hcf hI hfit;have hS:=XE hok hcf hI hfit hfull hU
 have hlen:v'.pt.length=v.pt.length:=by
  have a1:=hok.np;have a2:=hU.ok.np;rw[hU.n,hU.pg,a1]at a2;exact(Nat.mul_right_cancel (by have:=hok.page;omega) a2).symm
 intro p hp;have J:p<v.pt.length:=Ω
 rw[hU.map p J];constructor
 ·rintro⟨h1,h2⟩;obtain⟨g1,g2⟩:=hm p J h1;left
  have V:p<c.fr/v.pl.pg+j:=by
   refine Nat.lt_of_not_le λh=>?_;have:=ζj v.pl.pg h;omega
  have E:(AX v c L).on (λ_=>true) p≠0:=λh=>h2 ⟨⟨g1,V⟩,h⟩;refine Classical.byContradiction λhno=>E (Sl.on_iff.2 λi hi _ e=>hno ⟨i,hi,e,LC v c L i⟩)
 ·rintro(⟨i,hi,rfl,-⟩|⟨i,-,-,h⟩)
  ·have Z:i<sizes L:=hi;have I:=(hS.mid.src i hi (by rw[LC];rfl)).1;have hv:=hU.val (AG L i) (N.srcs hi).2.2 (λh=>VN Z h.2);have Y:v.ldE (AG L i:Nat)=0:=hv.1.symm.trans I;obtain⟨a,e,h1,h2⟩:=AF.hit Y;obtain rfl:AG L i=a:=Ω
   exact⟨h2,λh=>VN Z h.2⟩
  grind [LC]
end
section
variable{q:Nat}{U:Nat->Bool}{ml:List Bool}{ft ah:Nat}{rs:List Int}
theorem X9b(hC:∀W,AB (λb=>b=g) w W->BC W R y q z s U ml lf ft ah)(hst:A7 s)(hR:AR w r g rs):
  Calls prog 135 #[pP r,.func (.func 162) #[pP y] #[]] w λe w'=>e=.returned (.tuple #[])/\AB (λb=>b=g) w w'/\AR w' r g (rs.map (toV s.L s.cf.to)):=by
 have h0:toV s.L s.cf.to 0=0:=by
  have h:¬AZ s.L 0<s.L.length:=λh=>by
   have h1:=H7 h;have h2:=(hst.inn _ (π h)).1;have:=hst.cf.fr;have:=hst.pg;omega
  exact(N3 h).1
 refine(WH (F:=162) (pre:=#[pP y]) (caps:=#[]) (λi W Z=>AB (λb=>b=g) w W/\Z=(rs.take i).map (toV s.L s.cf.to)) (λ_ _=>by kernel_rfl) hR ⟨AB.refl _ _,rfl⟩ ?_ ?_).mono ?_
 ·grind [IG]
 ·rintro i hi W Z ho ⟨t,e⟩ V hne W0 Y;refine(XLA (hC W0 (t.trans (Y.touch _))) rs[i]).mono ?_;rintro e' W' ⟨rfl,J⟩;have hb:=Xxa s.L s.cf.to rs[i];refine⟨_,rfl,(V.gr Y).gr J,λW'' t''=>⟨((t.trans (Y.touch _)).trans (J.touch _)).trans t'',?_⟩⟩
  grind [IG,Int.max_eq_left]
 simp_all
end
theorem Y4o{f g:Nat->Bool}{n:Nat}(P:Nat->Nat)(hg:∀p,g p=true->f p=true):∀K:Nat,(∀j,j<K->P j<n/\f (P j)=true/\g (P j)=false)->(∀i j,i<j->j<K->P i<P j)->cnt g n+K<=cnt f n:=λK h hm=>by
 have Y:∀k,k<=K->cnt (λp=>g p||(List.range k).any λj=>P j==p) n=cnt g n+k:=by
  intro k
  induction k with
  | zero=>simp_all
  | succ k ih=>
   intro hk;have h1:=h k Ω
   have h2:=UB (f:=λp=>g p||(List.range k).any λj=>P j==p) (i:=P k) h1.1 (by
    rw[ξ4];refine⟨h1.2.2,?_⟩;rw[List.any_eq_false];intro j hj;have:=hm j k (ξi.1 hj) Ω;simp only[ζ9]
    omega)
   grind [ξO,CO,ψm,Bool.or_assoc]
 rw[<-Y K (ν _)];refine IL λp _ hp=>?_
 grind
def Sl.pS(s:Sl)(m:Nat->Bool)(p:Nat):Bool:=(List.range (sizes s.L)).any λi=>!m (i/s.cf.bk)&&(AG s.L i/s.pg==p)
def Sl.pT(s:Sl)(top:Nat)(m:Nat->Bool)(p:Nat):Bool:=((List.range (sizes s.L)).any λi=>m (i/s.cf.bk)&&((s.cf.to+i)/s.pg==p))||((List.range (top-(s.cf.to+sizes s.L))).any λj=>(s.cf.to+sizes s.L+j)/s.pg==p)
def Sl.np(s:Sl):Nat:=s.n/s.pg
def Sl.U(s:Sl)(top:Nat)(m:Nat->Bool):Nat:=cnt (s.pS m) s.np+cnt (s.pT top m) s.np
def Sl.q(s:Sl):Nat:=max 1 (s.cf.bk/s.pg)
section
variable{top:Nat}{m':Nat->Bool}
theorem Sl.pS_iff:s.pS m p=true↔∃i,i<sizes s.L/\m (i/s.cf.bk)=false/\AG s.L i/s.pg=p:=by
 unfold Sl.pS
 simp_all
theorem Sl.pT_iff:s.pT top m p=true↔(∃i,i<sizes s.L/\m (i/s.cf.bk)=true/\(s.cf.to+i)/s.pg=p)\/∃a,s.cf.to+sizes s.L<=a/\a<top/\a/s.pg=p:=by
 unfold Sl.pT;rw[ζ3,ξ1,ξ1];refine or_congr ⟨?_,?_⟩ ⟨?_,?_⟩
 ·simp_all
 ·simp_all
 ·rintro⟨j,hj,h⟩;have:=ξi.1 hj;exact⟨_,ζL _ _,by omega,ζ9.1 h⟩
 ·rintro⟨a,h1,h2,h3⟩;exact⟨a-(s.cf.to+sizes s.L),ξi.2 Ω,ζ9.2 (by simp_all)⟩
theorem Sl.U_congr(h:∀k,k<s.mv.length->m k=m' k)(hs:A7 s):s.U top m=s.U top m':=by
 have e:∀i,i<sizes s.L->m (i/s.cf.bk)=m' (i/s.cf.bk):=λi hi=>h _ (hs.blk hi);unfold Sl.U;congr 1
 ·refine CO λp _=>ξ6.2 ?_;rw[Sl.pS_iff,Sl.pS_iff]
  grind
 ·refine CO λp _=>ξ6.2 ?_;rw[Sl.pT_iff,Sl.pT_iff];exact or_congr_left ⟨λ⟨i,h1,h2,h3⟩=>⟨i,h1,by simp_all,h3⟩,λ⟨i,h1,h2,h3⟩=>⟨i,h1,by simp_all,h3⟩⟩
theorem VG{n:Nat}{L:List Ob}(hg:AO n L){i:Nat}:∀d,i+d<sizes L->AG L i+d<=AG L (i+d)
 | 0,_=>ν _
 | d+1,h=>by
  have h1:=VG hg d (show i+d<sizes L by omega);have h2:=YYc hg (show i+d<i+(d+1)by omega) h;omega
theorem X7{n:Nat}(hg:AO n L)(hik:i<=k)(hk:k<sizes L):AG L i<=AG L k:=by
 have:=VG hg (i:=i) (k-i) Ω
 grind
theorem Xra{d:Nat}(hg:1<=g):(x+d)/g<x/g+d/g+2:=by
 rw[ζZ Ω,ξf,ξf];have h1:=ζv x g;have h2:=ξR x (show 0<g by omega);have h3:=ζv d g;have h4:=ξR d (show 0<g by omega)
 grind
theorem Sl.U_run(hs:A7 s)(hn:s.np*s.pg=s.n)(hab:a<b)(hb:b<=s.mv.length)(hm:∀k,a<=k->k<b->m k=false)(hm':∀k,m' k=(m k||decide (a<=k/\k<b))):s.U top m'<=s.U top m+3:=by
 have E:=hs.bk.1;have I:=hs.pg.1;have hg:=hs.good;obtain⟨i0,h0⟩:∃i0,i0=a*s.cf.bk:=⟨_,rfl⟩;obtain⟨i1,h1⟩:∃i1,i1=min (b*s.cf.bk) (sizes s.L):=⟨_,rfl⟩
 have h01:i0<i1:=by
  have h2:a*s.cf.bk<sizes s.L:=by rw[<-IM E,<-hs.len];omega
  have h3:(a+1)*s.cf.bk<=b*s.cf.bk:=ζj _ hab;rw[ξj]at h3;omega
 have Z:∀i,i<sizes s.L->((a<=i/s.cf.bk/\i/s.cf.bk<b)↔(i0<=i/\i<i1)):=λi hi=>by
  rw[ξb Ω,ζZ Ω];omega
 obtain⟨J,hJ⟩:∃J,J=(i1-1-i0)/s.pg:=⟨_,rfl⟩;have hJm:J*s.pg<=i1-1-i0:=by rw[hJ];exact ζk _ _
 have V:∀j,j<=J->i0+j*s.pg<i1:=λj hj=>by
  have:=ζj s.pg hj;omega
 have N:∀j,j+1<=J->AG s.L (i0+j*s.pg)/s.pg<AG s.L (i0+(j+1)*s.pg)/s.pg:=λj hj=>by
  have h2:=V (j+1) hj;have h3:=VG hg (i:=i0+j*s.pg) s.pg (by rw[ξj]at h2;omega);rw[show i0+j*s.pg+s.pg=i0+(j+1)*s.pg by rw[ξj];omega]at h3;have h4:=ζc (c:=s.pg) h3;rw[Nat.add_div_right _ (show 0<s.pg by omega)]at h4;omega
 have Y:∀d i,i+d<=J->AG s.L (i0+i*s.pg)/s.pg+d<=AG s.L (i0+(i+d)*s.pg)/s.pg:=λd=>by
  induction d with
  | zero=>intro i _;exact ν _
  | succ d ih=>
   intro i hi;have h2:=ih i Ω;have h3:=N (i+d) Ω;rw[show i+(d+1)=i+d+1 by omega];omega
 have hS:cnt (s.pS m') s.np+(J-1)<=cnt (s.pS m) s.np:=by
  refine Y4o (λj=>AG s.L (i0+(j+1)*s.pg)/s.pg) (λp hp=>?_) _ (λj hj=>?_) (λi j hij hj=>?_)
  ·obtain⟨i,hi,h2,h3⟩:=Sl.pS_iff.1 hp;rw[hm',ξ4]at h2;exact Sl.pS_iff.2 ⟨i,hi,h2.1,h3⟩
  ·have h2:=V (j+1) Ω;have hN:i0+(j+1)*s.pg<sizes s.L:=Ω
   have h3:=(Z _ hN).2 ⟨ζL _ _,h2⟩;refine⟨?_,Sl.pS_iff.2 ⟨_,hN,hm _ h3.1 h3.2,rfl⟩,?_⟩
   ·have h4:=(hs.srcs hN).2.2;rw[ζZ Ω,hn];exact h4
   ·refine Bool.eq_false_iff.2 λhp=>?_;obtain⟨i,hi,h4,h5⟩:=Sl.pS_iff.1 hp;rw[hm',ξ4,decide_eq_false_iff_not,Z i hi]at h4;rcases χ i i0 with h6|h6
    ·have h7:=ζc (c:=s.pg) (X7 hg (Nat.le_of_lt h6) Ω);have h8:=Y (j+1) 0 Ω;rw[Nat.zero_mul,ξo,ξE]at h8;omega
    ·have h7:=V J (ν _);have h8:=ζc (c:=s.pg) (X7 hg (show i0+J*s.pg<=i by omega) hi);have h9:=Y (J-(j+1)) (j+1) Ω;rw[show j+1+(J-(j+1))=J by omega]at h9;omega
  ·have:=Y (j-i) (i+1) Ω;rw[show i+1+(j-i)=j+1 by omega]at this;omega
 have hT:cnt (s.pT top m') s.np<=cnt (s.pT top m) s.np+(J+2):=by
  refine γ (IL (g:=λp=>s.pT top m p||decide ((s.cf.to+i0)/s.pg<=p/\p<(s.cf.to+i0)/s.pg+(J+2))) λp _ hp=>?_) (γ (WE _ _ _) (Nat.add_le_add_left (γ (Q2 _ _ _) Ω) _));rw[ζ3,ζd];rcases Sl.pT_iff.1 hp with⟨i,hi,h2,h3⟩|h2
  ·rw[hm',ζ3,ζd,Z i hi]at h2;rcases h2 with h2|h2
   ·exact .inl (Sl.pT_iff.2 (.inl ⟨i,hi,h2,h3⟩))
   ·right;rw[<-h3];refine⟨ζc Ω,?_⟩;have h4:=Xra (x:=s.cf.to+i0) (d:=i-i0) I;rw[show s.cf.to+i0+(i-i0)=s.cf.to+i by omega]at h4;have h5:=ζc (c:=s.pg) (show i-i0<=i1-1-i0 by omega);omega
  ·exact .inl (Sl.pT_iff.2 (.inr h2))
 unfold Sl.U;omega
def FH(m:Nat->Bool)(f t:Nat)(k:Nat):Bool:=m k||decide (f<=k/\k<t)
theorem Sl.U_fill(hs:A7 s)(hn:s.np*s.pg=s.n)(f:Nat):∀d,f+d<=s.mv.length->s.U top (FH m f (f+d))<=s.U top m+3*(cnt (λj=>m (f+j)) d+1):=λd hd=>by
 have Y:∀a b,f<=a->a<=b->b<=s.mv.length->(∀k,a<=k->k<b->m k=false)->s.U top (FH m f b)<=s.U top (FH m f a)+3:=λa b h1 h2 h3 h4=>by
  rcases Nat.eq_or_lt_of_le h2 with rfl|h2
  ·omega
  ·refine Sl.U_run hs hn h2 h3 (λk h5 h6=>?_) (λk=>?_)
   ·unfold FH;rw[h4 k h5 h6,φ Ω];rfl
   ·unfold FH;rw[Bool.or_assoc];congr 1;rw[<-Bool.decide_or];exact ξr.2 Ω
 have Z:∀d,f+d<=s.mv.length->∃a,f<=a/\a<=f+d/\(∀k,a<=k->k<f+d->m k=false)/\s.U top (FH m f a)<=s.U top m+3*cnt (λj=>m (f+j)) d:=by
  intro d
  induction d with
  | zero=>
   intro _;refine⟨f,ν _,ν _,λk h1 h2=>by omega,?_⟩;rw[Sl.U_congr (m':=m) (λk _=>by unfold FH;rw[φ Ω,Bool.or_false]) hs];omega
  | succ d ih=>
   intro h;obtain⟨a,h1,h2,h3,h4⟩:=ih Ω;rw[CL];cases hmk:m (f+d)with
   | false=>
    refine⟨a,h1,by omega,λk h5 h6=>?_,by simpa using h4⟩;rcases χ k (f+d)with h7|h7
    ·exact h3 k h5 h7
    ·rw[show k=f+d by omega];exact hmk
   | true=>
    refine⟨f+(d+1),by omega,ν _,λk h5 h6=>by omega,?_⟩;have h5:=Y a (f+d) h1 h2 Ω h3
    rw[Sl.U_congr (m:=FH m f (f+(d+1))) (m':=FH m f (f+d)) (λk _=>by
     unfold FH;by_cases e:k=f+d
     ·rw[e,hmk];rfl
     ·congr 1
      exact ξr.2 Ω) hs]
    simp only[Bool.toNat_true];omega
 obtain⟨a,h1,h2,h3,h4⟩:=Z d hd;have:=Y a (f+d) h1 h2 hd h3;omega
theorem Sl.U_more(hs:A7 s)(hpb:BG s.pg=true)(h:∀k,m k=true->m' k=true)(l:List Nat)(hl:∀k,k<s.mv.length->m' k=true->m k=true\/k∈l):s.U top m'<=s.U top m+l.length*s.q:=by
 have hpg:=hs.pg.1;obtain⟨b0,hb0⟩:s.pg∣s.cf.to:=Nat.dvd_of_mod_eq_zero hs.cf.at_
 have Y:∀i,(s.cf.to+i)/s.pg=b0+i/s.pg:=λi=>by
  grind [ζT,Nat.add_comm,Nat.add_mul_div_right]
 have hS:cnt (s.pS m') s.np<=cnt (s.pS m) s.np:=IL λp _ hp=>by
  obtain⟨i,hi,h2,h3⟩:=Sl.pS_iff.1 hp;refine Sl.pS_iff.2 ⟨i,hi,?_,h3⟩
  grind
 have hT:cnt (s.pT top m') s.np<=cnt (s.pT top m) s.np+l.length*s.q:=by
  let g:Nat->Nat->Bool:=λj p=>(List.range (sizes s.L)).any λi=>(i/s.cf.bk==j)&&((s.cf.to+i)/s.pg==p)
  have hg:∀j,cnt (g j) s.np<=s.q:=λj=>by
   obtain⟨a,ha⟩:=Zs5 hs.cf.bk hpb j;refine γ (IL (g:=λp=>decide (b0+a<=p/\p<b0+a+s.q)) λp _ hp=>?_) (γ (Q2 _ _ _) Ω);obtain⟨i,_,hi⟩:=ξ1.1 hp;obtain⟨e1,e2⟩:=ζ5.1 hi;have e1:i/s.cf.bk=j:=by simpa using e1
   have e2:(s.cf.to+i)/s.pg=p:=by simpa using e2
   have:=ha i e1;rw[Y]at e2;unfold Sl.q
   grind
  refine γ (IL (g:=λp=>s.pT top m p||l.any λj=>g j p) λp _ hp=>?_) (γ (WE _ _ _) (Nat.add_le_add_left (JuW l g λk _=>hg k) _));rw[ζ3];rcases Sl.pT_iff.1 hp with⟨i,hi,h2,h3⟩|h2
  ·rcases hl _ (hs.blk hi) h2 with h4|h4
   ·exact .inl (Sl.pT_iff.2 (.inl ⟨i,hi,h4,h3⟩))
   grind
  ·exact .inl (Sl.pT_iff.2 (.inr h2))
 unfold Sl.U;omega
theorem Sl.U_grow(hs:A7 s)(hn:s.np*s.pg=s.n)(hpb:BG s.pg=true)(h1:l.length=s.mv.length)(h2:l'.length=s.mv.length)(hll:∀k,at_ l k=true->at_ l' k=true)(ha:B7 l-ftL l<=s.cf.ah)(ha':B7 l' - ftL l'<=s.cf.ah):s.U top (at_ l')+s.q<=s.U top (at_ l)+(s.cf.ah+2)*(s.q+3):=by
 have hf:ftL l<=ftL l':=by
  refine ξS λh=>?_;have h3:ftL l' < l'.length:=υ h (by rw[h2,<-h1];exact GJ _ _);have h4:(!at_ l' (ftL l'))=true:=GB (λk=>!at_ l' k) l'.length h3;rw[hll _ (KH h)]at h4;cases h4
 have hf2:ftL l'<=s.mv.length:=by rw[<-h2];exact GJ _ _
 have hF:=Sl.U_fill (top:=top) (m:=at_ l) hs hn (ftL l) (ftL l' - ftL l) Ω;rw[show ftL l+(ftL l' - ftL l)=ftL l' by omega]at hF
 have hc:cnt (λj=>at_ l (ftL l+j)) (ftL l' - ftL l)<=s.cf.ah:=by
  have e1:=NY (l:=l) (m:=ftL l) (GJ _ _) (λi hi=>KH hi)
  have e2:∀d,ftL l+d<=l.length->cnt (λj=>at_ l (ftL l+j)) d<=cnt (λk=>decide (ftL l<=k)&&at_ l k) (ftL l+d):=by
   intro d
   induction d with
   | zero=>intro _;exact ζh _
   | succ d ih=>
    rw[show ftL l+(d+1)=ftL l+d+1 by omega,CL,CL,κ (show ftL l<=ftL l+d by omega),ξW];omega
  have e3:=e2 (ftL l' - ftL l) Ω;have e4:=RI (f:=λk=>decide (ftL l<=k)&&at_ l k) (show ftL l+(ftL l' - ftL l)<=l.length by omega);unfold B7 at ha;omega
 obtain⟨W,hW⟩:∃W:List Nat,W=(List.range l'.length).filter λj=>decide (ftL l'<=j)&&at_ l' j:=⟨_,rfl⟩
 have hWl:W.length+ftL l'=B7 l':=by
  have:=NY (l:=l') (m:=ftL l') (GJ _ _) (λi hi=>KH hi);unfold B7;rw[<-this,hW,<-List.countP_eq_length_filter];rfl
 have hM:=Sl.U_more (top:=top) (m:=FH (at_ l) (ftL l) (ftL l')) (m':=at_ l') hs hpb (λk hk=>by
  unfold FH at hk;rw[ζ3,ζd]at hk;rcases hk with hk|hk
  ·exact hll k hk
  ·exact KH hk.2) W (λk hk h=>by
  rcases χ k (ftL l')with h3|h3
  ·left;unfold FH;rw[ζ3,ζd];rcases χ k (ftL l)with h4|h4
   ·exact .inl (KH h4)
   ·exact .inr ⟨h4,h3⟩
  ·right;rw[hW,ξ5,ξi,h,κ h3]
   exact⟨by omega,rfl⟩)
 have hWq:W.length*s.q<=s.cf.ah*s.q:=ζj _ Ω;rw[ξf,Nat.mul_add,Nat.mul_add];omega
end
structure HpA(top:Nat)(u:Vm)(s:Sl)(v:Vm):Prop where
 pg:∀p,p<v.pt.length->(v.pt.getD p 0≠0↔s.pS (at_ s.mv) p=true\/s.pT top (at_ s.mv) p=true)
 ah:s.mvd-s.ft<=s.cf.ah
 fr:∃l:List Bool,l.length=s.mv.length/\(∀k,at_ l k=true->at_ s.mv k=true)/\B7 l-ftL l<=s.cf.ah/\s.U top (at_ l)+(s.cf.ah+2)*(s.q+3)<=v.pl.rm
 lm:s.cf.to+sizes s.L<=top/\top<=s.cf.lm
 ok:AF u
 un:∀a:Nat,a<s.n->u.ldE a=0
 c:∀i,i<sizes s.L->u.ldV (s.cf.to+i:Nat)=s.c i
 x:∀a:Nat,s.cf.to+sizes s.L<=a->a<top->v.ldE a=0/\v.ldV a=u.ldV a
theorem RF(v:Vm)(p0 k:Nat):(BR v p0 k).length<=k:=by
 induction k with
 | zero=>exact ν _
 | succ k ih=>
  grind [PC,ζt,ξg]
section
variable{top:Nat}
theorem BL.np(h:BL s v):s.np=v.pt.length/\s.np*s.pg=s.n:=by
 have h1:=h.mid.ok.len;have h2:=h.mid.ok.np;rw[h.mid.n,h.mid.pg]at h1;rw[h.mid.n,h.mid.pg]at h2;exact⟨h1.symm,by rw[show s.np=v.pt.length from h1.symm];exact h2.symm⟩
theorem Sl.pST(hs:A7 s)(hlm:top<=s.cf.lm)(h1:s.pS m p=true)(h2:s.pT top m p=true):False:=by
 obtain⟨i,hi,-,e⟩:=Sl.pS_iff.1 h1;have h3:=hs.srcs hi;rcases Sl.pT_iff.1 h2 with⟨j,hj,-,e2⟩|⟨a,a1,a2,e2⟩
 ·exact hs.apart ⟨h3.1,h3.2.1⟩ ⟨ζL _ j,(hs.dsts hj).1⟩ (e.trans e2.symm)
 ·exact hs.apart ⟨h3.1,h3.2.1⟩ ⟨by omega,by omega⟩ (e.trans e2.symm)
theorem HpA.used(hO:BL s v)(h:HpA top u s v):v.pl.used=s.U top (at_ s.mv):=by
 rw[hO.mid.ok.us];unfold Sl.U
 rw[hO.np.1,<-LD (λp=>by
  cases e1:s.pS (at_ s.mv) p with
  | false=>rfl
  | true=>
   cases e2:s.pT top (at_ s.mv) p with
   | false=>rfl
   | true=>exact absurd (Sl.pST hO.st h.lm.2 e1 e2) id)]
 refine CO λp hp=>ξ6.2 ?_;rw[ζ3,<-h.pg p hp,ψg]
theorem HpA.room(hO:BL s v)(h:HpA top u s v):v.pl.used+s.q<=v.pl.rm:=by
 obtain⟨l,h1,h2,h3,h4⟩:=h.fr;have Y:BG s.pg=true:=by rw[<-hO.mid.pg];exact hO.mid.ok.pl.pg
 have:=Sl.U_grow (top:=top) hO.st hO.np.2 Y h1 rfl h2 h3 h.ah;rw[h.used hO];omega
theorem HpA.need(hO:BL s v)(h:HpA top u s v)(hk:k<s.mv.length):A8 v ((s.cf.to+s.lo k:Nat):Int) ((s.cf.to+s.hi k:Nat):Int)=0:=by
 have hs:=hO.st;have E:=hO.mid.ok;have hpg:=hs.pg.1;have Y:=hO.mid.pg;have I:=hs.lohi hk;have hto:s.cf.to+s.hi k<=v.n:=by have:=hs.fit;have:=hs.cf.ln;rw[hO.mid.n];omega
 have D:BG s.pg=true:=by rw[<-Y];exact E.pl.pg
 obtain⟨p0,Z⟩:∃p0,p0=(s.cf.to+s.lo k)/s.pg:=⟨_,rfl⟩;obtain⟨p1,V⟩:∃p1,p1=(s.cf.to+s.hi k-1)/s.pg:=⟨_,rfl⟩;have hp01:p0<=p1:=by rw[Z,V];exact ζc Ω
 have eA:(((s.cf.to+s.lo k:Nat):Int)/(v.pl.pg:Int)).toNat=p0:=by
  rw[Y,show ((s.cf.to+s.lo k:Nat):Int)/(s.pg:Int)=(((s.cf.to+s.lo k)/s.pg:Nat):Int)from rfl,δ,Z]
 have eB:CT v ((s.cf.to+s.lo k:Nat):Int) ((s.cf.to+s.hi k:Nat):Int)=p1+1-p0:=by
  unfold CT;rw[Y,show ((s.cf.to+s.hi k:Nat):Int)-1=((s.cf.to+s.hi k-1:Nat):Int)by omega,show ((s.cf.to+s.hi k-1:Nat):Int)/(s.pg:Int)=(((s.cf.to+s.hi k-1)/s.pg:Nat):Int)from rfl,show ((s.cf.to+s.lo k:Nat):Int)/(s.pg:Int)=(((s.cf.to+s.lo k)/s.pg:Nat):Int)from rfl,<-Z,<-V];omega
 obtain⟨b0,N⟩:s.pg∣s.cf.to:=Nat.dvd_of_mod_eq_zero hs.cf.at_
 have J:∀i,(s.cf.to+i)/s.pg=b0+i/s.pg:=λi=>by
  rw[N,ζT,Nat.add_comm,Nat.add_mul_div_right _ _ Ω];omega
 obtain⟨a,ha⟩:=Zs5 hs.cf.bk D k
 have hw:p1+1-p0<=s.q:=by
  have h1:=ha (s.lo k) (ζ9.1 ((hs.inB Ω).2 ⟨ν _,I.1⟩));have h2:=ha (s.hi k-1) (ζ9.1 ((hs.inB Ω).2 ⟨by omega,by omega⟩));rw[J]at Z;rw[show s.cf.to+s.hi k-1=s.cf.to+(s.hi k-1)by omega,J]at V;unfold Sl.q;omega
 have hrm:=h.room hO;unfold A8;rw[ϑ Ω,ϑ Ω,eA,eB,μ];have h3:=RF v p0 (p1+1-p0);omega
theorem HpA.step(hO:BL s v)(h:HpA top u s v)(hk:k<s.mv.length)(hm:at_ s.mv k=false)(hc:k=s.ft\/s.mvd-s.ft<s.cf.ah)(hM:L7 s k v v'):HpA top u {s with mv:=s.mv.set k true} v':=by
 have hs:=hO.st;have V:v'.pt.length=v.pt.length:=by rw[hM.ok.mid.ok.len,hO.mid.ok.len,hM.ok.mid.n,hM.ok.mid.pg,hO.mid.n,hO.mid.pg]
 have N:=hs.lohi hk;have Y:∀i,at_ (s.mv.set k true) (i/s.cf.bk)=(s.is i||s.inB k i):=Sl.is_put hk
 have h1:({s with mv:=s.mv.set k true}:Sl).mvd=s.mvd+1:=by
  unfold Sl.mvd;rw[η];exact I2 hk hm
 refine⟨λp hp=>?_,?_,?_,h.lm,h.ok,h.un,h.c,λa a1 a2=>?_⟩
 ·rw[V]at hp;rw[hM.map p hp,h.pg p hp]
  have hT:({s with mv:=s.mv.set k true}:Sl).pT top (at_ (s.mv.set k true)) p=true↔s.pT top (at_ s.mv) p=true\/((s.cf.to+s.lo k)/s.pg<=p/\p<=(s.cf.to+s.hi k-1)/s.pg):=by
   show s.pT top (at_ (s.mv.set k true)) p=true↔_
   rw[Sl.pT_iff,Sl.pT_iff];constructor
   ·rintro(⟨i,hi,e1,e2⟩|e)
    ·rw[Y,ζ3]at e1;rcases e1 with e1|e1
     ·exact .inl (.inl ⟨i,hi,e1,e2⟩)
     ·have:=(hs.inB hi).1 e1;right;rw[<-e2];exact⟨ζc Ω,ζc Ω⟩
    ·exact .inl (.inr e)
   ·rintro((⟨i,hi,e1,e2⟩|e)|⟨e1,e2⟩)
    ·exact .inl ⟨i,hi,by rw[Y,show s.is i=true from e1];rfl,e2⟩
    ·exact .inr e
    ·left;have hpg:=hs.pg.1
     obtain⟨i,I,E,D⟩:∃i,s.lo k<=i/\i<s.hi k/\(s.cf.to+i)/s.pg=p:=by
      rcases χ (s.cf.to+s.lo k) (p*s.pg)with g|g
      ·refine⟨p*s.pg-s.cf.to,by omega,?_,?_⟩
       ·have:=(ξb Ω).1 e2;omega
       ·rw[show s.cf.to+(p*s.pg-s.cf.to)=p*s.pg by omega,ξz _ Ω]
      ·refine⟨s.lo k,ν _,N.1,?_⟩;have:=(ξb (show 0<s.pg by omega)).2 g;omega
     have J:i<sizes s.L:=Ω
     exact⟨i,J,by rw[Y,(hs.inB J).2 ⟨I,E⟩,Bool.or_true],D⟩
  have hS:({s with mv:=s.mv.set k true}:Sl).pS (at_ (s.mv.set k true)) p=true↔s.pS (at_ s.mv) p=true/\¬ ∃i,i<sizes s.L/\s.inB k i=true/\AG s.L i/s.pg=p/\∀j,j<sizes s.L->AG s.L j/s.pg=p->s.is j=true\/s.inB k j=true:=by
   show s.pS (at_ (s.mv.set k true)) p=true↔_
   rw[Sl.pS_iff,Sl.pS_iff];constructor
   ·rintro⟨i,hi,e1,e2⟩;rw[Y,ξ4]at e1;refine⟨⟨i,hi,e1.1,e2⟩,λ⟨j,_,_,_,g⟩=>?_⟩;rcases g i hi e2 with g|g
    ·rw[e1.1]at g;cases g
    ·rw[e1.2]at g;cases g
   ·rintro⟨⟨i,hi,e1,e2⟩,g⟩;have e1:s.is i=false:=e1;refine Classical.byContradiction λhno=>?_
    have Z:∀j,j<sizes s.L->AG s.L j/s.pg=p->s.is j=true\/s.inB k j=true:=λj hj he=>by
     refine Classical.byContradiction λhn=>hno ⟨j,hj,?_,he⟩;rw[Y];cases ea:s.is j <;> cases eb:s.inB k j <;> simp_all
    rcases Z i hi e2 with e|e
    ·rw[e1]at e;cases e
    ·exact g ⟨i,hi,e,e2,Z⟩
  show _↔({s with mv:=s.mv.set k true}:Sl).pS (at_ (s.mv.set k true)) p=true\/({s with mv:=s.mv.set k true}:Sl).pT top (at_ (s.mv.set k true)) p=true
  rw[hS,hT];constructor
  ·rintro⟨(e|e)|e,g⟩
   ·exact .inl ⟨e,g⟩
   ·exact .inr (.inl e)
   ·exact .inr (.inr e)
  ·rintro(⟨e,g⟩|e)
   ·exact⟨.inl (.inl e),g⟩
   ·refine⟨e.elim (λe=>.inl (.inr e)) .inr,λ⟨i,hi,hb,e2,_⟩=>?_⟩;have h5:s.pT top (at_ (s.mv.set k true)) p=true:=hT.2 e;refine Sl.pST hs h.lm.2 (m:=λ_=>false) (p:=p) (Sl.pS_iff.2 ⟨i,hi,rfl,e2⟩) ?_;exfalso;have h3:=hs.srcs hi;rcases Sl.pT_iff.1 h5 with⟨j,hj,-,e3⟩|⟨a,a1,a2,e3⟩
    ·exact hs.apart ⟨h3.1,h3.2.1⟩ ⟨ζL _ j,(hs.dsts hj).1⟩ (e2.trans e3.symm)
    ·exact hs.apart ⟨h3.1,h3.2.1⟩ ⟨by omega,by have:=h.lm;omega⟩ (e2.trans e3.symm)
 ·have hah:=h.ah
  show ({s with mv:=s.mv.set k true}:Sl).mvd-({s with mv:=s.mv.set k true}:Sl).ft<=s.cf.ah
  rw[h1]
  have h2:s.ft<=({s with mv:=s.mv.set k true}:Sl).ft:=by
   refine ξS λh=>?_
   have h3:({s with mv:=s.mv.set k true}:Sl).ft<(s.mv.set k true).length:=by
    rw[η];have:=s.ft_le;omega
   have h4:=({s with mv:=s.mv.set k true}:Sl).ft_off h3
   have h6:at_ (s.mv.set k true) ({s with mv:=s.mv.set k true}:Sl).ft=true:=by
    rw[FX hk]
    split
    ·rfl
    ·exact s.ft_on h
   rw[h6]at h4;cases h4
  rcases hc with rfl|hc
  ·have h3:=Vhb (l:=s.mv) hk;unfold CW at h3;rw[μ (show ftL s.mv<s.mv.length from hk)]at h3;have h4:s.ft<({s with mv:=s.mv.set s.ft true}:Sl).ft:=h3;omega
  ·omega
 ·obtain⟨l,a1,a2,a3,a4⟩:=h.fr;refine⟨l,by rw[a1];exact(η ..).symm,λj hj=>?_,a3,by rw[hM.rm];exact a4⟩;rw[FX hk]
  split
  ·rfl
  ·exact a2 j hj
 ·have a1:s.cf.to+sizes s.L<=a:=a1;have hlm:=h.lm;have hln:=hs.cf.ln;obtain⟨x1,x2⟩:=h.x a a1 a2;obtain⟨o1,o2⟩:=hM.oth a Ω (.inr Ω) (λi hi=>hs.apart ⟨(hs.srcs hi).1,(hs.srcs hi).2.1⟩ ⟨by omega,by omega⟩);exact⟨o2 x1,o1.trans x2⟩
end
theorem Zig{m:Nat}(h1:1<=m)(h2:m<=2048){f:Nat->Nat}(hf:∀a,f a<18446744073709551616):∃u:Vm,XH (m*256) u/\∀a:Nat,a<m*256->u.ldV a=f a:=by
 have Z:AF (Vm.new (m*256) 256 m):=AF.new (by unfold ES;simp;omega) (by decide) Ω Ω (Nat.mul_mod_left _ _);have hd:m*256/256=m:=ξz _ (by decide);have Y:(Vm.new (m*256) 256 m).pt.length=m:=by show (List.replicate (m*256/256) 0).length=m;simp_all
 have hm:=ZqK Z rfl (λp hp=>by exact NA _ _) (by rw[Y];exact ν _) (k:=m) Ω;have hn:(mpN (Vm.new (m*256) 256 m) m).n=m*256:=hm.n
 have hl:∀a:Nat,a<m*256->(mpN (Vm.new (m*256) 256 m) m).ldE a=0:=λa ha=>by
  rw[hm.ldE Z (show a<(Vm.new (m*256) 256 m).n from ha),μ];rw[ξi]
  show a/256<m
  omega
 have hs:=VYd hm.ok (λa ha=>hl a Ω) hf (k:=m*256) Ω;exact⟨_,⟨hs.ok,hs.sm.n.trans hn,λa ha=>by rw[hs.sm.ldE];exact hl a ha,by omega⟩,hs.vl⟩
section
variable{top:Nat}
theorem Sl.tch_is(hs:A7 s)(hi:i<sizes s.L):(s.tch ((s.cf.to+i:Nat):Int)).is i=true:=by
 have hb:=hs.blk hi;unfold Sl.tch Sl.is;rw[GD.2 Ω,μ rfl,show (((s.cf.to+i:Nat):Int)-(s.cf.to:Int)).toNat=i by omega];unfold IW
 split
 ·assumption
 ·rw[FX (by rw[JSM];exact hb),μ rfl]
theorem HpA.ld(hO:BL s v)(h:HpA top u s v)(h1:s.cf.to<=a)(h2:a<top)(hm:∀i,i<sizes s.L->a=s.cf.to+i->s.is i=true):v.ldE a=0/\v.ldV a=u.ldV a:=by
 rcases χ a (s.cf.to+sizes s.L)with h3|h3
 ·obtain⟨i,rfl⟩:∃i,a=s.cf.to+i:=⟨a-s.cf.to,by omega⟩;obtain⟨d1,d2⟩:=hO.mid.dst i Ω (hm i Ω rfl);exact⟨d1,by rw[d2,h.c i Ω]⟩
 ·exact h.x a h3 h2
theorem BL.beyond(h:BL s v)(h1:s.cf.to+sizes s.L<=a)(h2:a<s.cf.lm)(hl:v.ldE a=0)(hx:x<18446744073709551616):BL s (v.st a x):=by
 have Y:=h.mid.ok.st_ldV x hl;have hs:=h.st;refine⟨hs,⟨h.mid.ok.st _ hx,(BK.st v _ x).n.trans h.mid.n,(BK.st v _ x).pg.trans h.mid.pg,λj hj hu=>?_,λj hj hd=>?_⟩⟩
 ·have ha:((a:Nat):Int)≠(AG s.L j:Nat):=λe=>hs.apart ⟨(hs.srcs hj).1,(hs.srcs hj).2.1⟩ ⟨show s.cf.to<=a by omega,h2⟩ (by grind);rw[FB,Y,ϑ ha];exact h.mid.src j hj hu
 ·rw[FB,Y,ϑ Ω];exact h.mid.dst j hj hd
theorem HpA.put(hO:BL s v)(h:HpA top u s v)(h1:s.cf.to<=a)(h2:a<top)(hm:∀i,i<sizes s.L->a=s.cf.to+i->s.is i=true)(hx:x<18446744073709551616):∃c:Nat->Nat,BL {s with c:=c} (v.st a x)/\HpA top (u.st a x) {s with c:=c} (v.st a x):=by
 have hl:=(h.ld hO h1 h2 hm).1;have V:=hO.mid.ok.st_ldV x hl;have hs:=hO.st;have hlm:=h.lm;have N:u.ldE a=0:=h.un a (by have:=hs.cf.ln;omega);have Z:=h.ok.st_ldV x N;have Y:=BK.st v (a:Int) x
 have J:∀c:Nat->Nat,(∀i,i<sizes s.L->c i=if s.cf.to+i=a then x else s.c i)->HpA top (u.st a x) {s with c:=c} (v.st a x):=λc hc=>by
  refine⟨λp hpl=>by rw[Y.pt]at hpl⊢;exact h.pg p hpl,h.ah,by obtain⟨l,a1,a2,a3,a4⟩:=h.fr;exact⟨l,a1,a2,a3,by rw[Y.rm];exact a4⟩,h.lm,h.ok.st _ hx,λb hb=>by rw[FB];exact h.un b hb,λi hi=>?_,λb b1 b2=>?_⟩
  ·have hi:i<sizes s.L:=hi
   show (u.st a x).ldV ((s.cf.to+i:Nat):Int)=c i
   rw[Z,hc i hi,h.c i hi]
   grind
  ·rw[FB,V,Z];obtain⟨x1,x2⟩:=h.x b b1 b2
   simp_all
 rcases χ a (s.cf.to+sizes s.L)with h3|h3
 ·obtain⟨i,rfl⟩:∃i,a=s.cf.to+i:=⟨a-s.cf.to,by omega⟩;refine⟨λj=>if j=i then x else s.c j,hO.store Ω (hm i Ω rfl) hx,J _ λj hj=>?_⟩
  simp_all
 ·refine⟨s.c,hO.beyond h3 Ω hl hx,J _ λj hj=>?_⟩
  grind
theorem HpA.done(hO:BL s v)(h:HpA top u s v)(hall:∀i,i<sizes s.L->s.is i=true):(∀p,p<v.pt.length->(v.pt.getD p 0≠0↔∃a,s.cf.to<=a/\a<top/\a/s.pg=p))/\∀a:Nat,s.cf.to<=a->a<top->v.ldE a=0/\v.ldV a=u.ldV a:=by
 have hlm:=h.lm;refine⟨λp hp=>?_,λa h1 h2=>h.ld hO h1 h2 (λi hi _=>hall i hi)⟩;rw[h.pg p hp,Sl.pS_iff,Sl.pT_iff];constructor
 ·rintro(⟨i,hi,e1,e2⟩|⟨i,hi,e1,e2⟩|⟨a,a1,a2,a3⟩)
  ·have:=hall i hi;rw[show s.is i=false from e1]at this;cases this
  ·exact⟨_,ζL _ i,by omega,e2⟩
  ·exact⟨a,by omega,a2,a3⟩
 ·rintro⟨a,a1,a2,a3⟩;rcases χ a (s.cf.to+sizes s.L)with h3|h3
  ·exact .inr (.inl ⟨a-s.cf.to,by omega,hall _ Ω,by simp_all⟩)
  ·exact .inr (.inr ⟨a,h3,a2,a3⟩)
theorem XeJ(hO:BL s v)(hlm:top<=s.cf.lm)(hp:∀p,p<v.pt.length->(v.pt.getD p 0≠0↔s.pS (at_ s.mv) p=true\/s.pT top (at_ s.mv) p=true)):v.pl.used=s.U top (at_ s.mv):=by
 rw[hO.mid.ok.us];unfold Sl.U
 rw[hO.np.1,<-LD (λp=>by
  cases e1:s.pS (at_ s.mv) p with
  | false=>rfl
  | true=>
   cases e2:s.pT top (at_ s.mv) p with
   | false=>rfl
   | true=>exact absurd (Sl.pST hO.st hlm e1 e2) id)]
 refine CO λp hp'=>ξ6.2 ?_
 simp_all
theorem YV{n:Nat}(hn:n<=524288){f:Nat->Nat}(hf:∀a,f a<18446744073709551616):∃u:Vm,AF u/\(∀a:Nat,a<n->u.ldE a=0)/\∀a:Nat,a<n->u.ldV a=f a:=by
 obtain⟨u,h1,h2⟩:=Zig (m:=2048) Ω (ν _) hf;exact⟨u,h1.ok,λa ha=>h1.al a Ω,λa ha=>h2 a Ω⟩
theorem Jap{c:Cf}{rs:List Int}(hok:AF v)(hcf:GW v.pl.pg v.n c)(hI:EX v rs c.fr c.tp L)(hfit:sizes L<=c.lm-c.to)(hfull:FJ v L)(hU:EN (AX v c L) v v' (c.fr/v.pl.pg) j)(hj:c.tp<=(c.fr/v.pl.pg+j)*v.pl.pg)
  (hm:∀p,p<v.pt.length->v.pt.getD p 0≠0->c.fr/v.pl.pg<=p/\p*v.pl.pg<c.tp) (hrm:v.pl.used+(c.ah+2)*(max 1 (c.bk/v.pl.pg)+3)<=v.pl.rm):BL (AX v c L) v'/\∃u,HpA (c.to+sizes L) u (AX v c L) v':=by
 have V:=OQ hok hcf hI hfit;have hO:=XE hok hcf hI hfit hfull hU;have hP:=JlU hok hcf hI hfit hfull hU hj hm;have hlm:=hcf.lm;refine⟨hO,?_⟩
 obtain⟨u,u1,u2,u3⟩:=YV (n:=v.n) hok.n2 (f:=λa=>if c.to<=a/\a<c.to+sizes L then (AX v c L).c (a-c.to)else 0) (λa=>by
  split
  ·exact V.cv_lt _ (hok.ldV_lt _)
  ·omega)
 have Z:∀p,p<v'.pt.length->(v'.pt.getD p 0≠0↔(AX v c L).pS (at_ (AX v c L).mv) p=true\/(AX v c L).pT (c.to+sizes L) (at_ (AX v c L).mv) p=true):=λp hp=>by
  rw[hP p hp,Sl.pS_iff,Sl.pT_iff];refine or_congr ⟨λ⟨i,h1,h2,h3⟩=>⟨i,h1,h3,h2⟩,λ⟨i,h1,h2,h3⟩=>⟨i,h1,h3,h2⟩⟩ ⟨λ⟨i,h1,h2,h3⟩=>.inl ⟨i,h1,h3,h2⟩,?_⟩;rintro(⟨i,h1,h2,h3⟩|⟨a,a1,a2,-⟩)
  ·exact⟨i,h1,h3,h2⟩
  ·have a1:c.to+sizes L<=a:=a1;omega
 have J:v'.pt.length=v.pt.length:=by rw[hU.ok.len,hok.len,hU.n,hU.pg]
 have hus:v'.pl.used<=v.pl.used:=by
  rw[hU.ok.us,hok.us];unfold nz;rw[J];refine IL λp hp h=>?_;rw[ψg]at h⊢;exact((hU.map p hp).1 h).1
 have Y:c.to+sizes L<=c.lm:=Ω
 refine⟨u,Z,by rw[Q7,Nat.zero_sub];exact ζh _,⟨(AX v c L).mv,rfl,λ_ h=>h,?_,?_⟩,⟨ν _,Y⟩,u1,u2,λi hi=>?_,λa a1 a2=>?_⟩
 ·show (AX v c L).mvd-(AX v c L).ft<=c.ah
  rw[Q7,Nat.zero_sub];exact ζh _
 ·rw[<-XeJ hO Y Z,hU.rm]
  show v'.pl.used+(c.ah+2)*(max 1 (c.bk/v.pl.pg)+3)<=v.pl.rm
  omega
 ·have hi:i<sizes L:=hi
  show u.ldV ((c.to+i:Nat):Int)=_
  rw[u3 _ (by have:=hcf.ln;omega),μ ⟨by omega,by omega⟩,ξI]
 ·have a1:c.to+sizes L<=a:=a1;omega
theorem HpA.alloc(hO:BL s v)(h:HpA top u s v){n:Nat}(hs255:p+f+k<=255)(hn:n=1+p+f+k)(hlm:top+n<=s.cf.lm)(he:A8 v top ((top+n:Nat):Int)=0)(hG:BQ v v1 (BN v top ((top+n:Nat):Int)))(hu:v.pl.used+(n/s.pg+2+(s.cf.ah+2)*(s.q+3))<=v.pl.rm):
  ER v1 top ⟨p,f,k⟩=0/\BL s (mkVm v1 top ⟨p,f,k⟩)/\∃u',HpA (top+n) u' s (mkVm v1 top ⟨p,f,k⟩)/\(∀a:Nat,a<top->u'.ldV a=u.ldV a)/\u'.ldV top=C4 p f k/\∀i:Nat,i<p+f+k->u'.ldV ((top+1+i:Nat):Int)=0:=by
 have hs:=hO.st;have Z:=hO.mid.ok;have E:=hs.pg.1;have hln:=hs.cf.ln;have htop:=h.lm;have hto:=hs.cf.to;have hvn:=hO.mid.n;have N:=hO.mid.pg
 have hF:∀b,b∈BN v top ((top+n:Nat):Int)↔(top/s.pg<=b/\b<=(top+n-1)/s.pg)/\v.pt.getD b 0=0:=λb=>by
  unfold BN;rw[μ ⟨he,by omega⟩,VWG Z Ω Ω,N]
 have B:∀a:Nat,top<=a->a<top+n->v1.ldE a=0:=λa a1 a2=>by
  rw[hG.ldE Z Ω]
  split
  ·rfl
  ·rename_i J;rw[N,hF]at J;have h1:v.pt.getD (a/s.pg) 0≠0:=λe=>J ⟨⟨ζc a1,ζc Ω⟩,e⟩;have h2:=(Z.split (a:=a) Ω).1;unfold Vm.ldE;rw[μ ⟨by omega,by omega⟩,show ((a:Nat):Int)/(v.pl.pg:Int)=((a/v.pl.pg:Nat):Int)from rfl,LP h2,N,ϑ h1]
 obtain⟨m1,m2⟩:=W9 (v:=v1) hG.ok (t:=top) (p:=p) (f:=f) (c:=k) Ω hs255 (λj hj=>by
  rw[show (top:Int)+(j:Int)=((top+j:Nat):Int)by omega]
  exact B _ Ω Ω)
 obtain⟨v2,Xb⟩:∃v2,v2=mkVm v1 top ⟨p,f,k⟩:=⟨_,rfl⟩;have V:DX s s.is (λi=>!s.is i) v1:=hO.mid.grow hs hG;have Y:DR v1 v2:=by rw[Xb];exact(DR.refl hG.ok).mkVm _ _
 rw[<-Xb]at m2⊢;have I:∀b:Int,v2.ldE b=v1.ldE b:=λb=>Y.sm.ldE b
 have D:BL s v2:=by
  refine⟨hs,Y.ok,Y.sm.n.trans V.n,Y.sm.pg.trans V.pg,λi hi hu=>?_,λi hi hd=>?_⟩
  ·have h3:=hs.srcs hi;have Xa:∀b:Nat,top<=b->b<top+n->AG s.L i≠b:=λb b1 b2 e=>hs.apart ⟨h3.1,h3.2.1⟩ ⟨show s.cf.to<=b by omega,by omega⟩ (by rw[e]);have h4:=V.src i hi hu;rw[I,m2,ϑ (λe=>Xa top (ν _) Ω Ω),ϑ (λe=>Xa (AG s.L i) Ω Ω rfl)];exact h4
  ·rw[I,m2,ϑ Ω,ϑ Ω];exact V.dst i hi hd
 refine⟨m1,D,?_⟩
 obtain⟨u',u1,u2,u3⟩:=YV (n:=s.n) hs.n2 (f:=λa=>if a<top then u.ldV a else v2.ldV a) (λa=>by
  split
  ·exact h.ok.ldV_lt _
  ·exact Y.ok.ldV_lt _)
 have Xc:v2.pt.length=v.pt.length:=by rw[Y.sm.pt,hG.len Z]
 have G:∀b,b<v2.pt.length->(v2.pt.getD b 0≠0↔s.pS (at_ s.mv) b=true\/s.pT (top+n) (at_ s.mv) b=true):=λb hb=>by
  rw[Xc]at hb;rw[Y.sm.pt,hG.ma b hb,hF,h.pg b hb]
  have hT:s.pT (top+n) (at_ s.mv) b=true↔s.pT top (at_ s.mv) b=true\/(top/s.pg<=b/\b<=(top+n-1)/s.pg):=by
   rw[Sl.pT_iff,Sl.pT_iff,or_assoc];refine or_congr_right ⟨?_,?_⟩
   ·rintro⟨a,a1,a2,rfl⟩;rcases χ a top with h3|h3
    ·exact .inl ⟨a,a1,h3,rfl⟩
    ·exact .inr ⟨ζc h3,ζc Ω⟩
   ·rintro(⟨a,a1,a2,e⟩|⟨e1,e2⟩)
    ·exact⟨a,a1,by omega,e⟩
    ·rcases χ top (b*s.pg)with g|g
     ·refine⟨b*s.pg,by omega,?_,ξz _ Ω⟩;have:=(ξb (show 0<s.pg by omega)).1 e2;omega
     ·refine⟨top,by omega,by omega,?_⟩;have:=(ξb (show 0<s.pg by omega)).2 g;omega
  rw[hT];by_cases e:v.pt.getD b 0=0
  ·have J:=mt (h.pg b hb).2 (λhh=>hh e);constructor
   ·rintro(g|g)
    ·exact absurd g J
    ·exact .inr (.inr g.1)
   ·rintro(g|g|g)
    ·exact absurd (.inl g) J
    ·exact absurd (.inr g) J
    ·exact .inr ⟨g,e⟩
  ·have hy:=(h.pg b hb).1 e;exact⟨λ_=>hy.imp id .inl,λ_=>.inl hy⟩
 have Xd:top+n<=s.cf.lm:=hlm;refine⟨u',⟨G,h.ah,⟨s.mv,rfl,λ_ h=>h,h.ah,?_⟩,⟨by omega,hlm⟩,u1,u2,λi hi=>?_,λa a1 a2=>?_⟩,λa ha=>?_,?_,λi hi=>?_⟩
 ·rw[<-XeJ D Xd G,Y.sm.rm,hG.rm]
  have hus:v2.pl.used=v.pl.used+(BN v top ((top+n:Nat):Int)).length:=by
   rw[<-hG.us,Y.ok.us,hG.ok.us,Y.sm.pt]
  have Xe:(BN v top ((top+n:Nat):Int)).length<=n/s.pg+2:=by
   unfold BN;rw[μ ⟨he,by omega⟩];refine γ (RF _ _ _) ?_;unfold CT;rw[N,show ((top+n:Nat):Int)-1=((top+n-1:Nat):Int)by omega,show ((top+n-1:Nat):Int)/(s.pg:Int)=(((top+n-1)/s.pg:Nat):Int)from rfl,show (top:Int)/(s.pg:Int)=((top/s.pg:Nat):Int)from rfl];have h3:=Xra (x:=top) (d:=n-1) E;have h4:=ζc (c:=s.pg) (show n-1<=n by omega);rw[show top+(n-1)=top+n-1 by omega]at h3;generalize (top+n-1)/s.pg=x1 at h3⊢;generalize top/s.pg=x2 at h3⊢;generalize (n-1)/s.pg=x3 at h3 h4;generalize n/s.pg=x4 at h4⊢;omega
  generalize n/s.pg=x4 at Xe hu;omega
 ·rw[u3 _ (by have:=(hs.dsts hi).2;omega),μ Ω];exact h.c i hi
 ·have hb:a<s.n:=Ω
  rw[I];rcases χ a top with h3|h3
  ·obtain⟨x1,x2⟩:=h.x a a1 h3;rw[m2,ϑ Ω,ϑ Ω,u3 a hb,μ h3,hG.ldV_all Z Ω,hG.ldE Z Ω];exact⟨by split <;> first|rfl|exact x1,x2⟩
  ·rw[u3 a hb,ϑ Ω];exact⟨B a h3 a2,rfl⟩
 ·rw[u3 a Ω,μ ha]
 ·rw[u3 top Ω,ϑ Ω,m2,μ rfl]
 ·rw[u3 _ Ω,ϑ Ω,m2,ϑ Ω,μ Ω]
end
section
attribute [local go_sem] Oper.semAt_some
theorem XWt{m p1 b1 p2 b2 n:Nat}(hE:Ext w m p1 b1 p2 b2 n L)(hT:AP w)(hf:f<2147483648):
  Calls prog 142 #[pP m,iI 64,iI f] w λe w'=>∃ff B,e=.returned (.tuple #[pP ff,iI 0])/\Gr w w'/\Fwd w' w.heap.size ff n B f L:=by
 refine(UW hE hT 64 f (by decide)).mono ?_;have hb:FQ (f:Int)=true:=by unfold FQ;grind
 have hk:BG 64=true:=by decide
 rintro e w' ⟨hg,(⟨h,-⟩|⟨-,ff,B,base,hB,hbase,rfl,hF⟩)⟩
 ·simp_all
 ·obtain rfl:f=base:=Ω
  grind
structure UmP(w8 wx:World)(S5:Nat->Prop)(q r g:Nat)(v2:Vm)(out:List Int)(qs q0 j pg tp:Nat):Prop where
 t:AB S5 w8 wx
 vm:∃Sj,(∀b,Sj b->plus S5 w8 b)/\AD wx Sj q (umN v2 qs (q0+j-qs))
 rt:AR wx r g out
 q1:∀i,i<j->(q0+i)*pg<tp
section
variable{S:Nat->Prop}{q:Nat}{rs:List Int}
theorem JZL(hV:AD w S q v)(hn:v.n≠0)(hR:AR w r g rs)(hT:AP w)(htS:¬S 1)(hrS:¬S r)(hgS:¬S g)(fr tp room:Int):
  Calls prog 96 #[pP q,pP r,iI fr,iI tp,iI room] w (YYf w S q r g v rs fr tp room):=by
 have HV:=hV.cut;have HR:=hR;have HT:=hT;have I:=(θ htS (θ hrS hgS));have Vy:=hT.lt;have hrl:=hR.lt;have hn2:=hV.ok.n2;have Zg:=hV.ok.page;have Vn:=hV.ok;have V:=((Gr.refl w).alloc (.cells #[.pointer (some ⟨q,0,none⟩)] 78));have Yd:=Rec.new w 78 [pP q];obtain⟨W0,Yl⟩:∃W0,W0=w.alloc (.cells #[.pointer (some ⟨q,0,none⟩)] 78):=⟨_,rfl⟩;have hsz0:W0.heap.size=w.heap.size+1:=by rw[Yl,β]
 rw[show w.alloc (.cells ([.pointer (some ⟨q,0,none⟩)]:List Value).toArray 78)=W0 from Yl.symm]at Yd;rw[<-Yl]at V;have Mf:=Yd;have Je:=(JGL (HV.gr V) hn (HR.gr V) fr tp room);obtain⟨ce,hce⟩:∃ce:Int,ce=if GR v.n fr tp room then 0 else 5:=⟨_,rfl⟩
 rw[<-hce]at Je;have Jy:=ι hce;have c0:=Yd.cc 0;have cl:=Yd.lt;have Vx:=hn;clear hV hR hT htS hrS hgS Yd hce hn;have hmf:∀(fn:Fn) (first cap:Array Value) (w:World),(Instr.makeFunc fn first cap).run prog w=.ok (.func fn first cap) w:=λ_ _ _ _=>rfl;refine(τ (n:=5)).1 ?_;refine callsIn_of_wp_marks func96 rfl trivial ?_ rfl;simp only[ntmps96,ζS,ζA,ζ6,Nat.reduceAdd,Nat.reduceSub,ζJ,ζI,ζX,ζO,ζV,ζr];gi_upto_region 1 with(fail);rw[<-Yl];clear Yl;by_cases Xo:GR v.n fr tp room=true
 ·obtain⟨h1,h2,h3,h4,h5⟩:=QR.1 Xo;obtain rfl:ce=0:=by rw[Jy.o,μ Xo]
  have Yt:=Xo;obtain⟨f,rfl⟩:∃f:Nat,fr=f:=⟨fr.toNat,by omega⟩;obtain⟨t,rfl⟩:∃t:Nat,tp=t:=⟨tp.toNat,by omega⟩;obtain⟨k,rfl⟩:∃k:Nat,room=k:=⟨room.toNat,by omega⟩;have Mi:=(Jf0 (HV.gr V) Vx (HR.gr V) (V.tab Vy HT) (λh=>I.1 h.1) f t k Ω Ω Ω);clear Xo
  gi_upto_region 5 with(first
   | (refine⟨trivial,?_⟩;gi_at_call 140;refine(τ.2 (Je)).mono ?_;rintro e w1 ⟨rfl,rfl⟩)
   | (refine⟨trivial,?_⟩;gi_at_call 141;refine(τ.2 (Mi)).mono ?_;rintro e w1 ⟨Ze,Yp,(⟨L,m,p1,b1,p2,b2,hI,rfl,hE,Jh,Jk,Jc,Zw,Jj⟩|⟨Ue,rfl⟩)⟩ <;> (have Yg:=Ze;have Un:=Yp;have Zy:=(Mf.touch Ze (λh=>by have:=h.2;omega));have Va:=((HR.gr V).touch Ze (λh=>I.2.1 h.1) (λh=>I.2.2 h.1));have y0:=Zy.cc 0;have yl:=Zy.lt;clear Ze Yp)))
  ·have HI:=hI;have hw1:=Yg.size;have Us:=(HT.touch' ((V.touch _).trans Yg) (λh=>I.1 h.1));have Vz:=(XWt hE Us (f:=f) Ω);have HX:=hE;have Xx:=(θ Jh (θ Jk (θ Jc (θ Zw Jj))));clear hI hE Jh Jk Jc Zw Jj;gi_upto_region 8 with(refine⟨trivial,?_⟩;gi_at_call 142;refine(τ.2 (Vz)).mono ?_;rintro e w2 ⟨ff,B,rfl,Jz,hF⟩;have Vg:=ι Jz;have Ux:=ι hF;clear Jz hF);obtain⟨w3,Yi⟩:∃w3,w3=w2.alloc (.cells #[.pointer (some ⟨ff,0,none⟩)] 214):=⟨_,rfl⟩;have Zh:=Rec.new w2 214 [pP ff];obtain⟨fb,Yv⟩:∃fb,fb=w2.heap.size:=⟨_,rfl⟩;have Jm:Gr w2 w3:=by rw[Yi];exact(Gr.refl w2).alloc _
   have Ju:w3.heap.size=fb+1:=by rw[Yi,β,Yv]
   rw[show w2.alloc (.cells ([.pointer (some ⟨ff,0,none⟩)]:List Value).toArray 214)=w3 from Yi.symm]at Zh;rw[<-Yv]at Zh⊢;rw[<-Yi];have hz2:=Vg.o.size;have Uo:Hid (w1.heap.size<=fb/\fb+1=w3.heap.size/\w2.heap.size=fb):=⟨by omega,Ju.symm,Yv.symm⟩;have Uq:=Zh;have Xe:=(Vg.o.trans Jm);have Zt:=Jm;have Ur:=(Zy.gr Xe);have Md:=(Un.gr Xe);have Um:=(λ(W:World) (g:Gr w3 W)=>MF (Ux.o.gr (Zt.trans g)));have Uz:Hid (∀j (hj:j<L.length),f+sizes (L.take j)<=L[j].1):=⟨λj hj=>QW HI.1.mkd.good (fr:=f) (λo ho=>by have:=HI.2 o ho;omega) hj⟩;clear Yi Yv Zh Jm y0 yl c0 cl
   have Vp:f+sizes L<=t:=by
    have hI:=HI;rcases ζB L.length with h0|h0
    ·have:L=[]:=ζw h0;subst this;simp only[sizes];omega
    ·have hj:L.length-1<L.length:=Ω
     have e1:=Uz.o _ hj;have e2:=hI.2 _ (π hj);have e3:=E0 hj;rw[show L.length-1+1=L.length by omega,ζ7]at e3;omega
   have Zb:=(λ(W:World) (g:Gr w3 W)=>YrC (Md.gr g) f (f+sizes L) Ω Ω);obtain⟨nn,Jo⟩:∃nn,nn=sizes L:=⟨_,rfl⟩;have Xy:=ι Jo;obtain⟨E,hE⟩:∃E,E=A8 v f ((f+nn:Nat):Int):=⟨_,rfl⟩;rw[<-Jo]at Zb Um Vp;rw[<-hE]at Zb;have HE:=ι hE;have Xk:((f+nn:Nat):Int)=(f:Int)+(nn:Int):=by push_cast;rfl
   rw[Xk]at Zb;have Yf:=ι Xk;clear Jo hE Xk;have p0:=Ur.cc 0;have Ua:=Uq.cc 0;obtain⟨Sx,Xa,HS⟩:=AA.start λW'=>W'.cell? ⟨w.heap.size,0,none⟩=some (pP q)/\W'.cell? ⟨fb,0,none⟩=some (pP ff);have x1:=AA.fact Xa λ_ h=>h.1;have x2:=AA.fact Xa λ_ h=>h.2;have G:=HS.o (w3.drew) (⟨p0,Ua⟩);have Xh:Inhabited (AA Sx):=⟨⟨_,G⟩⟩;clear Xa;refine FZ Sx 6 [([0,1,2],3),([],4)] [5] F8 (by kernel_rfl) (by kernel_rfl) G ?_;refine C0 ?_
   try simp only[AC,ζ,ξ]
   repeat(go_big_quiet_step (fail))
   refine ψ ?_;gi_wp2_with((refine⟨trivial,?_⟩;gi_at_call 143;refine(τ.2 (Um _ (Gr.refl w3).drew)).mono ?_;rintro e w4 ⟨rfl,Uy⟩;have Xg:=ι ((Gr.refl w3).drew.trans Uy);have Vd:=ι (Ur.gr Xg.o);have Zm:=ι (Uq.gr Xg.o);clear Uy));refine⟨.inr (AA.of (HS.o _ (⟨Vd.o.cc 0,Zm.o.cc 0⟩))),?_⟩;refine C0 ?_
   try simp only[AC,ζ,ξ]
   repeat(go_big_quiet_step (fail))
   refine ψ ?_;gi_wp2_with((refine⟨trivial,?_⟩;gi_at_call 117;refine(τ.2 (Zb _ Xg.o)).mono ?_;rintro e w5 ⟨rfl,Za,Uc⟩;have Yq:=ι Za;have Zq:=ι Uc;have Js:=ι (Vd.o.touch Za (λh=>by have:=h.1.2;omega));have Zn:=ι (Zm.o.touch Za (λh=>by have:=h.1.2;have:=Uo.o;omega));clear Za Uc));refine⟨.inr (AA.of (HS.o _ (⟨Js.o.cc 0,Zn.o.cc 0⟩))),?_⟩;refine GH ?_
   try simp only[AC,ζ,ξ]
   repeat(go_big_quiet_step (fail))
   refine ψ ?_;refine ζb ?_;clear x1 x2 G Xh;clear HS Sx;clear p0 Ua;have Vc:=ι ((Va.gr (Xe.trans Xg.o)).touch Yq.o (λh=>I.2.1 h.1.1) (λh=>I.2.2 h.1.1));have Ys:Hid (AB S w w5):=⟨(((V.touch _).trans (Yg.mono (λi _ h=>h.1))).trans ((Xe.trans Xg.o).touch _)).trans (Yq.o.mono (λi _ h=>h.1.1))⟩;by_cases Yw:E=0
   ·subst Yw;obtain⟨v1,Yk,Yp⟩:=Zq.o;rw[<-Yf.o]at Yk;have Zf:=HE.o;rw[Xy.o]at Yk Zf;obtain⟨cx,-⟩:=YNw Vn HI Ω Ω Ω Zf.symm Yk;have Zd:=ι cx;have Uv:=ι Yk;have Ut:=ι Zf;obtain⟨S5,Jp⟩:∃S5,S5=AE (plus (AE (AE S w) W0) w4) w5:=⟨_,rfl⟩;have hz4:=Xg.o.size;have hz5:=Yq.o.size
    have Xd:Hid (∀b,S5 b->(S b/\b<w.heap.size\/w4.heap.size<=b)/\b<w5.heap.size):=⟨λb hb=>by
     rw[Jp]at hb
     exact⟨hb.1.imp (λh=>h.1) id,hb.2⟩⟩
    have Me:Hid (AD w5 S5 q v1):=⟨by rw[Jp];exact Yp.cut⟩;have c13l:=HX.hm;have Uh:Ext w5 m p1 b1 p2 b2 v.n L:=(HX.gr (Xe.trans Xg.o)).touch Yq.o (λh=>by have:=h.1.2;have:=Xx.1;omega) (λh=>by have:=h.1.2;have:=Xx.2.1;omega) (λh=>by have:=h.1.2;have:=Xx.2.2.1;omega) (λh=>by have:=h.1.2;have:=Xx.2.2.2.1;omega) (λh=>by have:=h.1.2;have:=Xx.2.2.2.2;omega);have Vq:=ι Uh;have Zs:=ι (HT.touch' Ys.o I.1);have Vh:AB (λi=>i<w.heap.size\/w3.heap.size<=i) w2 w5:=((Zt.trans Xg.o).touch _).trans (Yq.o.mono (λi _ h=>.inl h.1.2));have Vk:=ι Vh;clear Yk Zf Yp cx Jp Uh Vh;gi_upto_region 11 with(fail);gi_wp2_with(refine⟨trivial,?_⟩;gi_at_call 144;refine(τ.2 (JQ (some ⟨m,0,none⟩))).mono ?_;rintro e w6 ⟨rfl,rfl⟩);obtain⟨W6,Yo⟩:∃W6,W6=w5.alloc (.cells #[.pointer (some ⟨m,0,none⟩)] 93):=⟨_,rfl⟩;have Xt:Gr w5 W6:=by rw[Yo];exact(Gr.refl w5).alloc _
    have hs6:W6.heap.size=w5.heap.size+1:=by rw[Yo,β]
    have k6:W6.cell? ⟨w5.heap.size,0,none⟩=some (pP m):=by rw[Yo];exact(Boxed.new w5 93 (pP m)).cell
    rw[<-Yo];clear Yo;have hfz:=Uo.o;have Zo:Hid (∀W,AB (λi=>i<w.heap.size\/w3.heap.size<=i) W6 W->Fwd W w1.heap.size ff v.n B f L):=⟨λW tt=>Ux.o.touch ((Vk.o.trans (Xt.touch _)).trans tt) (λkk h1 h2 h=>by omega)⟩
    have Z:Hid (∀b,w.heap.size<=b->b<w4.heap.size->¬(S5 b\/W6.heap.size<=b)):=⟨λb h1 h2 h=>by
     rcases h with h|h
     ·have:=(Xd.o b h).1;omega
     ·omega⟩
    have Xj:Hid (∀b,¬S b->b<w.heap.size->¬(S5 b\/W6.heap.size<=b)):=⟨λb h1 h2 h=>by
     rcases h with h|h
     ·rcases(Xd.o b h).1 with h'|h'
      ·exact h1 h'.1
      ·omega
     ·omega⟩
    have Zi:Hid (∀b,S5 b\/W6.heap.size<=b->b<w.heap.size\/w3.heap.size<=b):=⟨λb h=>by
     rcases h with h|h
     ·have:=(Xd.o b h).1;omega
     ·omega⟩
    have hml:=HX.hm;have hp1l:=HX.v1.hp;have hb1l:=HX.v1.hb;have hp2l:=HX.v2.hp;have hb2l:=HX.v2.hb;obtain⟨Jh,Jk,Jc,Zw,Jj⟩:=Xx;have Jf:=ι (Js.o.gr Xt);have Yn:=ι (Zn.o.gr Xt);have Mg:=ι (Vc.o.gr Xt);have Ug:=Zs.o.lt;have Yy:=ι Xt;have Mj:=ι k6;clear k6 Xt
    have tI:∀(j:Nat) A B',(AB (λi=>S5 i\/W6.heap.size<=i) W6 A/\j<=L.length/\∃Xc,AD A S5 q Xc/\Pkd v1 Xc L f (sizes (L.take j)))->AB (λi=>W6.heap.size<=i/\i<W6.heap.size+2+4) A B'->(AB (λi=>S5 i\/W6.heap.size<=i) W6 B'/\j<=L.length/\∃Xc,AD B' S5 q Xc/\Pkd v1 Xc L f (sizes (L.take j))):=λj A B' h tt=>by
     obtain⟨h1,h2,Xc,h3,h4⟩:=h;exact⟨h1.trans (tt.mono (λi _ h=>.inr h.1)),h2,Xc,h3.touch tt (λi hi _ h=>by have:=(Xd.o i hi).2;omega),h4⟩
    refine LB (K:=4) (s0:=0) rfl Ω (gf:=187) (lb:=#[pP w5.heap.size]) rfl trivial (enters_of func187 (by kernel_rfl) rfl)
     (N8 _ w5.heap.size m p1 b1 p2 b2 v.n L _) (λ_=>rfl)
     (λ(j:Nat) A=>AB (λi=>S5 i\/W6.heap.size<=i) W6 A/\j<=L.length/\∃Xc,AD A S5 q Xc/\Pkd v1 Xc L f (sizes (L.take j))) (λ_ _=>False) tI (λ_ _ _ h _=>h)
     (λj A h=>⟨(Vq.o.gr Yy.o).touch h.1 (Z.o _ Ω Ω) (Z.o _ Ω Ω) (Z.o _ Ω Ω) (Z.o _ Ω Ω) (Z.o _ Ω Ω),(Yy.o.tab Ug Zs.o).touch' h.1 (Xj.o _ I.1 Ω),(h.1.cell Ω (λh=>by
      rcases h with h|h
      ·have:=(Xd.o _ h).2;omega
      ·omega) 0).trans Mj.o,h.2.1⟩)
     ⟨AB.refl _ _,ζh _,v1,Me.o.gr Yy.o,by simpa[sizes]using Pkd.zero Zd.o.ok L f⟩ ?round ?done (λ_ _ _ _ h _=>h.elim)
    case round=>
     intro lp j x W7 hsz7 Jl Xp;dsimp only[GE];gi_wp2;refine⟨Gr.refl _,λW8 Xl hI8=>?_⟩
     have Yx:j<L.length:=by
      rcases χ j L.length with h|h
      ·exact h
      ·unfold EI at Xp;rw[ζF h]at Xp;cases Xp
     obtain rfl:x=L[j]:=by unfold EI at Xp;rw[ζa Yx]at Xp;exact(Option.some.inj Xp).symm
     obtain⟨Ye,-,vx,Uk,Ul⟩:=hI8;have c5:=(Jf.o.touch Ye (Z.o _ Ω Ω)).cell (j:=0) rfl;have Ja:=(Yn.o.touch Ye (Z.o _ Ω Ω)).cell (j:=0) rfl;have Vv:=ι (Q2p Uk (λW tt=>Zo.o W ((Ye.mono (λi _ h=>Zi.o i h)).trans (tt.mono (λi _ h=>Zi.o i (.inl h.1))))) Zd.o Yx Ul);have Xz:=ι Ye;have Vi:=ι (E0 Yx);clear Jl Xp Xl Ye Uk Ul;gi_wp2_with(refine⟨trivial,?_⟩;gi_at_call 145;refine(CallsIn.inRound lp (τ.2 (Vv.o))).mono ?_;rintro e w7 ⟨rfl,Vf,v7,Vj,Vs⟩);refine⟨Vf.mono (λi _ h=>.inl (by have:=(Xd.o i h.1).2;omega)),j+1,rfl,Xz.o.trans (Vf.mono (λi _ h=>.inl h.1)),Yx,v7,Vj.mono (λb h=>h.1),?_⟩;rw[Vi.o];exact Vs
    case done=>
     rintro D j W7 hD rfl Jl hK;obtain⟨Xf,-,v2,Ud,Zz⟩:=Jl;rw[ζ7]at Zz;have c5:=(Jf.o.touch Xf (Z.o _ Ω Ω)).cell (j:=0) rfl;have Ja:=(Yn.o.touch Xf (Z.o _ Ω Ω)).cell (j:=0) rfl;have Xn:∀W,AB (λi=>i<w.heap.size\/w3.heap.size<=i) W7 W->Fwd W w1.heap.size ff v.n B f L:=λW tt=>Zo.o W ((Xf.mono (λi _ h=>Zi.o i h)).trans tt);have Vl:=ι (ZKw (λW tt=>Xn W (tt.mono (λi _ h=>.inl Ω))) Ja Ω (Mg.o.touch Xf (Xj.o r I.2.1 Ω) (Xj.o g I.2.2 Ω)) (Vco Zd.o));have Ma:=ι (Jf.o.touch Xf (Z.o _ Ω Ω));have Uu:=ι (Yn.o.touch Xf (Z.o _ Ω Ω));have Ui:=ι Xn;have Mc:=ι Xf;have Vt:=ι Ud;have Vb:=ι Zz;have HK:=ι hK;have HD:=ι hD;have hz7:=Xf.size;clear c5 Ja Xn Xf Ud Zz hK hD;gi_upto_region 16 with(refine⟨trivial,?_⟩;gi_at_call 135;refine(τ.2 (Vl.o)).mono ?_;rintro e w8 ⟨rfl,Xl,Uf⟩;have Xz:=ι Xl;have Vr:=ι Uf;have Jq:=ι (Ma.o.touch Xl (λh=>by omega));have Up:=ι (Uu.o.touch Xl (λh=>by omega));have hz8:=Xl.size;clear Xl Uf);have Uw:Hid (∀W,AB (λi=>i<w.heap.size\/w3.heap.size<=i) w8 W->Fwd W w1.heap.size ff v.n B f L):=⟨λW tt=>Ui.o W ((Xz.o.mono (λi _ h=>.inl Ω)).trans tt)⟩;have Yr:¬S5 g:=λh=>Xj.o g I.2.2 Ω (.inl h);have Ve:=ι (Vt.o.touch Xz.o (λb hb _ h=>Yr (h▸hb)));have Uj:=ι Yr;clear Yr;have Ya:Hid (D=W6.heap.size/\D<W7.heap.size/\D≠g/\¬S5 D):=⟨HD.o,(ζo.1 HK.o).1,by rw[HD.o];omega,λh=>by rw[HD.o]at h;have:=(Xd.o _ h).2;omega⟩;have Vw:Hid (w8.heap[D]?=some (.deferred (some []))):=⟨(Xz.o.block D Ya.o.2.1 Ya.o.2.2.1).trans HK.o⟩;have Yh:v2.pl.pg=v.pl.pg:=Vb.o.sm.pg.trans Uv.o.pg;have Zx:=ι (λ(W:World) (g':Gr w8 W)=>IJ (Ve.o.gr g'));rw[Yh]at Zx;obtain⟨pg,Xs⟩:∃pg,pg=v.pl.pg:=⟨_,rfl⟩;have Yu:=ι Xs;rw[<-Xs]at Zx Zg;have Mh:Hid (v2.pl.pg=pg):=⟨by rw[Yh,Xs]⟩;obtain⟨q0,Yc⟩:∃q0,q0=f/pg:=⟨_,rfl⟩;have Zj:q0*pg<=f:=by rw[Yc];exact ζk f pg
     have Jn:=ι Yc;have g1:((f:Int).tdiv (pg:Int))=(q0:Int):=by rw[Yc];rfl
     have g2:((f:Int)/(pg:Int))=(q0:Int):=by rw[Yc];rfl
     have hpg0:(pg:Int)≠0:=Ω
     have hq0n:q0<=524288:=by have:=ζ1 f pg;omega
     have Vu:=ι Zj;obtain⟨qs,Zv⟩:∃qs,qs=IS (f+nn) pg:=⟨_,rfl⟩;have Ji:=ι Zv
     have Zu:q0<=qs:=by
      rcases χ qs q0 with h|h
      ·exfalso;have h1:=(MA (nt:=f+nn) (q:=qs) Zg.1).2 (by rw[Zv];exact ν _);have h2:(qs+1)*pg<=q0*pg:=ζj _ Ω;rw[ξf,ξx]at h2;omega
      ·exact h
     have HQL:=ι Zu;have hft2:f+nn<=1048576:=Ω
     have Jv:Hid (UmP w8 w8 S5 q r g v2 (rs.map (toV L f)) qs q0 0 pg t):=⟨AB.refl _ _,⟨S5,λb h=>.inl h,by rw[show q0+0-qs=0 by omega];exact Ve.o⟩,Vr.o,λi hi=>absurd hi (ζQ _)⟩;have u5:=Jq.o.cc 0;have Yz:=Jq.o.lt;clear Xs Yc Yh Zj Zv Zu;gi_wp2_with(refine⟨trivial,?_⟩;gi_at_call 138;refine(τ.2 (Zx.o _ (Gr.refl w8))).mono ?_;rintro e w9 ⟨rfl,rfl⟩);clear u5 Yz
     gi_loopw [20] (λs20 wx=>∃j:Nat,Hid (UmP w8 wx S5 q r g v2 (rs.map (toV L f)) qs q0 j pg t)/\s20=iI ((q0+j:Nat):Int)) (λs20 _=>t-(intOf s20).toNat*pg)
     case atStart=>exact⟨0,Jv,rfl⟩
     case round=>
      clear Jv;obtain⟨j,HU,rfl⟩:=hrel;obtain⟨Sj,Jx,Jg⟩:=HU.o.vm;have Jd:=λ(W:World) (g':Gr wr W)=>IJ (Jg.gr g');rw[(LE v2 qs _).2.1,Mh.o]at Jd;have Xi:=ι Jd;have Jr:=ι Jg;have Xm:=ι Jx;have Xw:=ι (Jq.o.touch HU.o.t (λh=>Z.o _ (ν _) Ω (.inl h)));have Xr:=ι (Up.o.touch HU.o.t (λh=>Z.o fb Ω Ω (.inl h)));have Xq:=ι (λ(W:World) (g':Gr wr W)=>MF (Uw.o W ((HU.o.t.mono (λi _ h=>Zi.o i (.inl h))).trans (g'.touch _))));rw[<-Xy.o]at Xq;obtain⟨qq,Yj⟩:∃qq,qq=q0+j:=⟨_,rfl⟩;obtain⟨pp,Xv⟩:∃pp,pp=qq*pg:=⟨_,rfl⟩
      have hppb:pp<=1048576:=by
       rcases ζB j with h0|h0
       ·rw[Xv,Yj,h0,ξo];have:=Vu.o;omega
       ·have:=HU.o.q1 (j-1) Ω;have e:pp=(q0+(j-1))*pg+pg:=by rw[Xv,Yj,show q0+j=(q0+(j-1))+1 by omega,ξf,ξx]
        omega
      have hqb:qq<=pp:=by rw[Xv];exact ξY _ Ω
      have hmul:((qq:Int)*(pg:Int))=(pp:Int):=by rw[Xv];push_cast;rfl
      have J:=ι (θ Yj Xv);rw[<-Yj];clear Jd Jg Jx Yj Xv;have u5:=Xw.o.cc 0;have Yz:=Xw.o.lt;have u15:=Xr.o.cc 0;have Zr:=Xr.o.lt;by_cases Yb:pp<t
      ·have e1:decide ((pp:Int)<(t:Int))=true:=κ Ω;have e2:decide (pp<t)=true:=κ Yb;have Xu:=ι Yb;clear Yb;by_cases Zc:f+nn<=pp
       ·have e3:decide ((f:Int)+(nn:Int)<=(pp:Int))=true:=κ Ω;have Jb:=ι Zc;clear Zc;gi_upto_region 19 with(refine⟨trivial,?_⟩;gi_at_call 138;refine(τ.2 (Xi.o _ (Gr.refl wr))).mono ?_;rintro e Xb ⟨rfl,rfl⟩);obtain⟨Sx,Xa,HS⟩:=AA.start λW'=>W'.cell? ⟨w.heap.size,0,none⟩=some (pP q)/\W'.cell? ⟨fb,0,none⟩=some (pP ff);have x1:=AA.fact Xa λ_ h=>h.1;have x2:=AA.fact Xa λ_ h=>h.2;have G:=HS.o (wr.drew) (⟨u5,u15⟩);have Xh:Inhabited (AA Sx):=⟨⟨_,G⟩⟩;clear Xa;refine FZ Sx 7 [([0,1,4],2),([3],5)] [6] F8 (by kernel_rfl) (by kernel_rfl) G ?_;refine C0 ?_
        try simp only[AC,ζ,ξ]
        repeat(go_big_quiet_step (fail))
        refine ψ ?_;gi_wp2_with((refine⟨trivial,?_⟩;gi_at_call 138;refine(τ.2 (Xi.o _ (Gr.refl wr).drew)).mono ?_;rintro e Xb ⟨rfl,rfl⟩));refine⟨.inr (AA.of (HS.o _ (⟨u5,u15⟩))),?_⟩;refine C0 ?_
        try simp only[AC,ζ,ξ]
        repeat(go_big_quiet_step (fail))
        refine ψ ?_;gi_wp2_with((refine⟨trivial,?_⟩;gi_at_call 143;refine(τ.2 (Xq.o _ (Gr.refl wr).drew)).mono ?_;rintro e Xb ⟨rfl,N⟩;have Y:=ι ((Gr.refl wr).drew.trans N);have z5:=(Xw.o.gr Y.o).cell (j:=0) rfl;have Vo:=(Xw.o.gr Y.o).lt;have Ym:=(Xr.o.gr Y.o).cell (j:=0) rfl;clear N));refine⟨.inr (AA.of (HS.o _ (⟨z5,Ym⟩))),?_⟩;refine GH ?_
        try simp only[AC,ζ,ξ]
        repeat(go_big_quiet_step (fail))
        refine ψ ?_;refine ζb ?_;clear x1 x2 G Xh;clear HS Sx;clear u5 Yz u15 Zr Ym;gi_wp2_with(refine⟨trivial,?_⟩;gi_at_call 139;refine(τ.2 (MP (Jr.o.gr Y.o) (qq:Int))).mono ?_;rintro e w11 ⟨rfl,Zp,Zl⟩;have Zk:=ι Zp;have Ub:=ι Zl;clear Zp Zl);go_roundw
        case rel=>
         have hzx:=HU.o.t.size;have hzy:=Y.o.size;refine⟨j+1,⟨⟨?_,⟨plus Sj Xb,λb hb=>?_,?_⟩,?_,λi hi=>?_⟩⟩,?_⟩
         ·exact(HU.o.t.trans (Y.o.touch _)).trans' Zk.o (λb hb h=>(Xm.o b h).elim id (λh=>by omega))
         ·rcases hb with h|h
          ·exact Xm.o b h
          ·right;omega
         ·have h1:=Ub.o;have h2:=(MA (nt:=f+nn) (q:=qq) Zg.1).1 (by rw[<-J.o.2];exact Jb.o);rw[<-Ji.o]at h2;have e:q0+(j+1)-qs=(q0+j-qs)+1:=by have:=J.o.1;omega
          rw[e]
          show AD _ _ _ ((umN v2 qs (q0+j-qs)).um ((qs+(q0+j-qs):Nat):Int))
          rw[show qs+(q0+j-qs)=qq by have:=J.o.1;omega];exact h1
         ·refine(HU.o.rt.gr Y.o).touch Zk.o (λh=>?_) (λh=>?_)
          ·exact(Xm.o _ h).elim (λh=>Xj.o r I.2.1 Ω (.inl h)) (λh=>by omega)
          ·exact(Xm.o _ h).elim Uj.o (λh=>by omega)
         ·rcases χ i j with h|h
          ·exact HU.o.q1 i h
          ·obtain rfl:i=j:=Ω
           rw[<-J.o.1,<-J.o.2];exact Xu.o
         ·rw[show q0+(j+1)=qq+1 by rw[J.o.1];omega]
          go_num
        case measure=>
         have h1:=Xu.o;have h2:=J.o.2;simp only[intOf];rw[show ((qq:Int)+1).toNat=qq+1 by omega,δ,ξf,ξx,<-h2];omega
       ·have e3:decide ((f:Int)+(nn:Int)<=(pp:Int))=false:=φ Ω;have Jb:=ι Zc;clear Zc;gi_upto_region 19 with(refine⟨trivial,?_⟩;gi_at_call 138;refine(τ.2 (Xi.o _ (Gr.refl wr))).mono ?_;rintro e Xb ⟨rfl,rfl⟩);obtain⟨Sx,Xa,HS⟩:=AA.start λW'=>W'.cell? ⟨w.heap.size,0,none⟩=some (pP q)/\W'.cell? ⟨fb,0,none⟩=some (pP ff);have x1:=AA.fact Xa λ_ h=>h.1;have x2:=AA.fact Xa λ_ h=>h.2;have G:=HS.o (wr.drew) (⟨u5,u15⟩);have Xh:Inhabited (AA Sx):=⟨⟨_,G⟩⟩;clear Xa;refine FZ Sx 7 [([0,1,4],2),([3],5)] [6] F8 (by kernel_rfl) (by kernel_rfl) G ?_;refine C0 ?_
        try simp only[AC,ζ,ξ]
        repeat(go_big_quiet_step (fail))
        refine ψ ?_;gi_wp2_with((refine⟨trivial,?_⟩;gi_at_call 138;refine(τ.2 (Xi.o _ (Gr.refl wr).drew)).mono ?_;rintro e Xb ⟨rfl,rfl⟩));refine⟨.inr (AA.of (HS.o _ (⟨u5,u15⟩))),?_⟩;refine C0 ?_
        try simp only[AC,ζ,ξ]
        repeat(go_big_quiet_step (fail))
        refine ψ ?_;gi_wp2_with((refine⟨trivial,?_⟩;gi_at_call 143;refine(τ.2 (Xq.o _ (Gr.refl wr).drew)).mono ?_;rintro e Xb ⟨rfl,N⟩;have Y:=ι ((Gr.refl wr).drew.trans N);have z5:=(Xw.o.gr Y.o).cell (j:=0) rfl;have Vo:=(Xw.o.gr Y.o).lt;have Ym:=(Xr.o.gr Y.o).cell (j:=0) rfl;clear N));refine⟨.inr (AA.of (HS.o _ (⟨z5,Ym⟩))),?_⟩;refine GH ?_
        try simp only[AC,ζ,ξ]
        repeat(go_big_quiet_step (fail))
        refine ψ ?_;refine ζb ?_;clear x1 x2 G Xh;clear HS Sx;clear u5 Yz u15 Zr Ym;gi_wp2;go_roundw
        case rel=>
         refine⟨j+1,⟨⟨HU.o.t.trans (Y.o.touch _),⟨Sj,Xm.o,?_⟩,HU.o.rt.gr Y.o,λi hi=>?_⟩⟩,?_⟩
         ·have h1:=Jr.o.gr Y.o
          have h2:¬qs<=qq:=λh=>Jb.o (by
           rw[J.o.2]
           exact(MA Zg.1).2 (by rw[<-Ji.o];exact h))
          have e:q0+(j+1)-qs=q0+j-qs:=by have:=J.o.1;omega
          rw[e];exact h1
         ·rcases χ i j with h|h
          ·exact HU.o.q1 i h
          ·obtain rfl:i=j:=Ω
           rw[<-J.o.1,<-J.o.2];exact Xu.o
         ·rw[show q0+(j+1)=qq+1 by rw[J.o.1];omega]
          go_num
        case measure=>
         have h1:=Xu.o;have h2:=J.o.2;simp only[intOf];rw[show ((qq:Int)+1).toNat=qq+1 by omega,δ,ξf,ξx,<-h2];omega
      ·have e1:decide ((pp:Int)<(t:Int))=false:=φ Ω;have e2:decide (pp<t)=false:=φ Yb;have Xu:=ι Yb;clear Yb
       gi_wp2_with(first
        | (refine⟨trivial,?_⟩;gi_at_call 138;refine(τ.2 (Xi.o _ (Gr.refl wr))).mono ?_;rintro e Xb ⟨rfl,rfl⟩)
        | (refine⟨trivial,?_⟩;gi_at_call 143;refine(τ.2 (Xq.o _ (Gr.refl wr))).mono ?_;rintro e Xb ⟨rfl,N⟩;have Y:=ι N;clear N))
       have Mb:Xb.heap[D]?=some (.deferred (some [])):=by
        have h1:=HU.o.t.size;rw[Y.o.block (by have:=Ya.o.2.1;omega),HU.o.t.block D (by have:=Ya.o.2.1;omega) Ya.o.2.2.2];exact Vw.o
       refine⟨by simp,.inl ⟨_,_,rfl,run_takeDeferred Mb,?_⟩⟩;have tt:=DP Xb D (.deferred none);have hd:=Ya.o;have h8x:=HU.o.t.size;refine⟨.tuple #[iI ((f:Int)+(nn:Int)),iI 0],?_,?_,.inr ⟨Yt,.inr ⟨L,f,t,HI,rfl,rfl,.inr ⟨Ut.o.symm,?_,v1,v2,j,⟨Uv.o,Zd.o,Vb.o,?_,?_⟩,?_,?_⟩⟩⟩⟩
       ·simp[results,f96,go_sem]
       ·have a1:=Ys.o.trans (Yy.o.touch S)
        have a2:=a1.trans' Mc.o (λb hb h=>by
         rcases h with h|h
         ·rcases(Xd.o b h).1 with h'|h'
          ·exact h'.1
          ·omega
         ·omega)
        have a3:=(a2.mono (T:=λb=>b=g\/S b) (λ_ _ h=>.inr h)).trans (Xz.o.mono (λi _ h=>.inl h))
        have a4:=a3.trans' HU.o.t (λb hb h=>by
         rcases(Xd.o b h).1 with h'|h'
         ·exact .inr h'.1
         ·omega)
        exact(a4.trans (Y.o.touch _)).trans' tt (λb hb h=>by omega)
       ·rw[<-Xy.o];push_cast;rfl
       ·intro i hi;rw[<-Yu.o,<-Jn.o];exact HU.o.q1 i hi
       ·rw[<-Yu.o,<-Jn.o,<-J.o.1,<-J.o.2];have:=Xu.o;omega
       ·unfold EM;rw[<-Xy.o,<-Yu.o,<-Ji.o,<-Jn.o];refine((Jr.o.gr Y.o).touch tt (λb hb _ h=>?_)).mono (λb hb=>?_)
        ·rcases Xm.o b hb with h'|h'
         ·exact hd.2.2.2 (h▸h')
         ·omega
        ·rcases Xm.o b hb with h'|h'
         ·exact(Xd.o b h').1.imp (λh=>h.1) (λh=>by omega)
         ·right;omega
       ·exact(HU.o.rt.gr Y.o).touch tt (λh=>by omega) (λh=>hd.2.2.1 h.symm)
   ·have d0:(E !=0)=true:=by simpa using Yw
    have Jt:=ι Yw;clear Yw;gi_wp2;refine⟨.tuple #[iI 0,iI E],?_,Ys.o.mono (λi _ h=>.inr h),.inr ⟨Yt,.inr ⟨L,f,t,HI,rfl,rfl,.inl ⟨?_,?_,?_,Vc.o⟩⟩⟩⟩
    ·simp[results,f96,go_sem]
    ·rw[<-Xy.o,<-HE.o];exact Jt.o
    ·rw[<-Xy.o,<-HE.o]
    ·have hF:BN v f ((f+nn:Nat):Int)=[]:=by unfold BN;rw[ϑ (λh=>Jt.o (HE.o.trans h.1))]
     obtain⟨v',hg,hv⟩:=Zq.o;rw[<-Yf.o,hF]at hg;have h1:=Yg.size;have h2:=(Xe.trans Xg.o).size;exact⟨v',hg,hv.mono (λb hb=>hb.elim (λh=>.inl h.1.1) (λh=>.inr Ω))⟩
  ·have Jw:=ι Ue;clear Ue;gi_wp2;refine⟨.tuple #[iI 0,iI 25],?_,?_,.inr ⟨Yt,.inl ⟨Jw.o,rfl,?_,?_⟩⟩⟩
   ·simp[results,f96,go_sem]
   ·exact(V.touch _).trans (Yg.mono (λi _ h=>.inr h.1))
   ·exact Un.mono (λb h=>h.1.1)
   ·exact Va
 ·obtain rfl:ce=5:=by rw[Jy.o,ϑ Xo]
  have Yt:=Xo;clear Xo;gi_wp2_with(refine⟨trivial,?_⟩;gi_at_call 140;refine(τ.2 (Je)).mono ?_;rintro e w1 ⟨rfl,rfl⟩);refine⟨.tuple #[iI 0,iI 5],?_,?_,.inl ⟨by simpa using Yt,rfl,?_,?_⟩⟩
  ·simp[results,f96,go_sem]
  ·exact V.touch _
  ·exact(HV.gr V).mono (λb h=>h.1)
  ·exact HR.gr V
end
end
section
variable{A:Option Addr}{rs:List Int}
end
def us(l:List Nat):List Value:=l.map λx=>uU (x:Nat)
section
variable{A:Option Addr}{rs:List Int}
end
theorem TC(h:AF v){t:Nat}(_ht:t<=v.n)(hE:A8 v f t=0)(hG:BQ v v1 (BN v f t))(ha:a<v.n):
  v1.ldE a=0↔v.ldE a=0\/(f<t/\f/v.pl.pg<=a/v.pl.pg/\a/v.pl.pg<=(t-1)/v.pl.pg):=by
 rw[hG.ldE h ha];rcases χ f t with Y|Y
 ·have hF:BN v f t=BR v ((f:Int)/v.pl.pg).toNat (CT v f t):=by unfold BN;simp_all
  have e1:((f:Int)/(v.pl.pg:Int)).toNat=f/v.pl.pg:=by grind
  have e2:CT v f t=(t-1)/v.pl.pg+1-f/v.pl.pg:=by
   unfold CT
   grind
  have g0:f/v.pl.pg<=(t-1)/v.pl.pg:=ζc Ω;rw[hF];have hmem:a/v.pl.pg∈BR v ((f:Int)/v.pl.pg).toNat (CT v f t)↔(f/v.pl.pg<=a/v.pl.pg/\a/v.pl.pg<f/v.pl.pg+((t-1)/v.pl.pg+1-f/v.pl.pg))/\v.pt.getD (a/v.pl.pg) 0=0:=by grind [N6]
  by_cases h0:v.pt.getD (a/v.pl.pg) 0=0
  ·grind
  ·have hl:v.ldE a=0:=by rw[h.ldE_of ha,ϑ h0]
   omega
 ·have hF:BN v f t=[]:=by unfold BN;grind
  grind
section
variable{rs:List Int}{t:Nat}
theorem GA.base(d:GA v rs f t L v1 v2 j):(EM v v2 f (f+sizes L) j).n=v.n/\(EM v v2 f (f+sizes L) j).pl.pg=v.pl.pg/\(EM v v2 f (f+sizes L) j).pl.rm=v.pl.rm/\AF (EM v v2 f (f+sizes L) j)/\v2.n=v.n/\v2.pl.pg=v.pl.pg:=by
 obtain⟨e1,e2,e3,-⟩:=LE v2 (IS (f+sizes L) v.pl.pg) (f/v.pl.pg+j-IS (f+sizes L) v.pl.pg);have n2:v2.n=v.n:=d.st.sm.n.trans d.gr.n;have p2:v2.pl.pg=v.pl.pg:=d.st.sm.pg.trans d.gr.pg;exact⟨e1.trans n2,e2.trans p2,e3.trans (d.st.sm.rm.trans d.gr.rm),O6 d.st.ok _ _,n2,p2⟩
theorem GA.ldE(d:GA v rs f t L v1 v2 j)(h:AF v)(hE:A8 v f ((f+sizes L:Nat):Int)=0)(hn:f+sizes L<=v.n)(ha:a<v.n):
  (EM v v2 f (f+sizes L) j).ldE a=0↔(v.ldE a=0\/(0<sizes L/\f/v.pl.pg<=a/v.pl.pg/\a/v.pl.pg<=(f+sizes L-1)/v.pl.pg))/\¬(IS (f+sizes L) v.pl.pg<=a/v.pl.pg/\a/v.pl.pg<f/v.pl.pg+j):=by
 obtain⟨-,-,-,-,n2,p2⟩:=d.base;have h1:=TC h hn hE d.gr ha;unfold EM;rw[UP d.st.ok _ _ Ω,p2,d.st.sm.ldE];omega
theorem GA.ldV(d:GA v rs f t L v1 v2 j)(ha:a<v.n)(hl:¬(IS (f+sizes L) v.pl.pg<=a/v.pl.pg/\a/v.pl.pg<f/v.pl.pg+j)):(EM v v2 f (f+sizes L) j).ldV a=v2.ldV a:=by
 obtain⟨-,-,-,-,n2,p2⟩:=d.base;exact Z1 d.st.ok _ _ Ω (by grind)
theorem GA.word(d:GA v rs f t L v1 v2 j)(h:AF v)(hn:f+sizes L<=v.n)(hi:i<sizes L):(EM v v2 f (f+sizes L) j).ldV ((f+i:Nat):Int)=(IA v1 L f L).getD i 0:=by
 have hp:=h.page
 rw[d.ldV Ω (λhx=>by
  have h1:=(MA (nt:=f+sizes L) (pg:=v.pl.pg) hp.1).2 hx.1;have:=ζk (f+i) v.pl.pg
  omega)]
 exact d.st.row i hi
end
theorem Z9{pg tp:Nat}(h1:∀i,i<j->(q0+i)*pg<tp)(h2:tp<=(q0+j)*pg)(q:Nat)(hq:q0<=q):q<q0+j↔q*pg<tp:=by
 constructor
 ·intro h;have:=h1 (q-q0) Ω
  simp_all
 ·intro h;rcases χ q (q0+j)with h'|h'
  ·exact h'
  ·exfalso;have:=ζj pg h';omega
theorem PO(L:List Ob)(h:i<=j):sizes (L.take i)<=sizes (L.take j):=by
 induction j with
 | zero=>simp_all
 | succ j ih=>
  grind [χ,γ,E0,ψh]
structure KD(u a:Vm)(rs:List Int)(L:List Ob)(f n:Nat):Prop where
 mks:BD u rs n L
 un:u.n=n
 ok:AF u
 f1:1<=f
 top:f+sizes L<=n
 n2:n<=524288
 ge:∀o∈L,f<=o.1
 ld:∀i,i<sizes L->a.ldE ((f+i:Nat):Int)=0
 wd:∀i,i<sizes L->a.ldV ((f+i:Nat):Int)=(IA u L f L).getD i 0
section
variable{a:Vm}{rs:List Int}{n:Nat}
theorem KD.to(h:KD u a rs L f n){b:Int}(hb:Hs L b):∃j,∃hj:j<L.length,(L[j].1:Int)=b/\toV L f b=((f+sizes (L.take j):Nat):Int):=by
 obtain⟨o,ho,he⟩:=hb;obtain⟨j,hj,rfl⟩:=ζp ho;refine⟨j,hj,he,?_⟩;have h1:=(h.mks.mkd.good.sz _ (π hj)).1;have:=(QU h.mks.mkd.good (base:=f) hj (a:=b) Ω Ω).1;omega
theorem KD.zero(h:KD u a rs L f n):toV L f 0=0:=by
 have hn:¬AZ L 0<L.length:=λhx=>by
  have h1:=H7 hx;have h2:=h.ge _ (π hx);have:=h.f1;omega
 exact(N3 hn).1
theorem KD.word(h:KD u a rs L f n){m:Nat}(hj:j<L.length)(hm:m<L[j].2):a.ldE ((f+sizes (L.take j)+m:Nat):Int)=0/\a.ldV ((f+sizes (L.take j)+m:Nat):Int)=pkW u L f L[j].1 m:=by
 have h2:=I9 hj;have e:f+sizes (L.take j)+m=f+(sizes (L.take j)+m):=Ω
 rw[e];exact⟨h.ld _ Ω,by rw[h.wd _ Ω,Ywe u L f L hj hm]⟩
end
theorem QDj{a:Vm}{rs:List Int}{n:Nat}(h:KD u a rs L f n):L3 u a (Rch u rs) (toV L f) f (f+sizes L):=by
 have hM:=h.mks;have hn2:=h.n2;have Y:∀{j:Nat} (hj:j<L.length),u.osz ((L[j].1:Nat):Int)=(L[j].2:Nat):=λhj=>((hM.mkd.ats _ (π hj)).2.2).symm;refine⟨h.zero,λb hb m hm=>?_,λb hb=>?_,λb b' hb hb'=>?_⟩
 ·obtain⟨j,hj,rfl,e⟩:=h.to (hM.all _ hb);rw[Y hj]at hm;obtain⟨x1,x2⟩:=h.word hj (m:=m) Ω;rw[e,show ((f+sizes (L.take j):Nat):Int)+(m:Int)=((f+sizes (L.take j)+m:Nat):Int)by omega];refine⟨x1,?_⟩;rw[x2,VV u L f L[j].1 m rfl,show ((L[j].1:Nat):Int)+(m:Int)=((L[j].1+m:Nat):Int)by omega];by_cases hT:1<=m/\(m:Int)<=(u.rdH ((L[j].1:Nat):Int)).p
  ·rw[μ hT];by_cases h0:u.ldV ((L[j].1+m:Nat):Int)=0
   ·rw[ϑ (λhh=>hh.2 h0),h0];exact h.zero.symm
   ·rw[μ ⟨hT,h0⟩];have:=WC hM.mkd.good Ω f (u.ldV ((L[j].1+m:Nat):Int):Nat);omega
  ·rw[ϑ hT,ϑ (λhh=>hT hh.1)]
 ·obtain⟨j,hj,rfl,e⟩:=h.to (hM.all _ hb);have h1:=I9 hj;rw[e,Y hj];omega
 ·obtain⟨j,hj,rfl,e⟩:=h.to (hM.all _ hb);obtain⟨i,hi,rfl,e'⟩:=h.to (hM.all _ hb');have s1:=E0 hj;have s2:=E0 hi;rw[e,e',Y hj,Y hi];rcases ζR j i with hl|hl|hl
  ·have:=PO L (show j+1<=i by omega);exact .inr (.inl Ω)
  ·subst hl;exact .inl rfl
  ·have:=PO L (show i+1<=j by omega);exact .inr (.inr Ω)
structure ShA(base top:Nat)(v:Vm):Prop where
 ok:AF v
 al:base%v.pl.pg=0
 bt:base<=top/\top<=v.n
 pg:∀a:Nat,a<v.n->(v.ldE a=0↔base<=a/\a/v.pl.pg*v.pl.pg<top)
section
variable{base top:Nat}
theorem ShA.ld(h:ShA base top v)(h1:base<=a)(h2:a<top):v.ldE a=0:=(h.pg a (by have:=h.bt;omega)).2 ⟨h1,ξA (ζk _ _) h2⟩
theorem GF(hg:1<=g)(hb:b%g=0):b<=p*g↔b/g<=p:=by
 have h1:=ζv b g;rw[hb,ξo,ζT]at h1
 grind [Nat.le_of_mul_le_mul_right,ζj]
theorem ShA.map(h:ShA base top v)(hp:p<v.pt.length):v.pt.getD p 0≠0↔base/v.pl.pg<=p/\p*v.pl.pg<top:=by
 have Y:=h.ok.page.1
 have hn:p*v.pl.pg<v.n:=by
  have h1:=h.ok.np;have h2:=Nat.mul_lt_mul_of_pos_right hp (show 0<v.pl.pg by omega);omega
 have h1:=h.pg _ hn;have e:p*v.pl.pg/v.pl.pg=p:=ξz _ Ω;rw[h.ok.ldE_of hn,e,GF Y h.al]at h1;omega
theorem QP{base top:Nat}(hg:1<=g)(h1:base%g=0)(h2:W%g=0)(ht:top<=base+W)(hp:p*g<top):p<base/g+W/g:=by
 have e1:=ζv base g;have e2:=ζv W g;rw[h1,ξo,ζT]at e1;rw[h2,ξo,ζT]at e2;refine Nat.lt_of_mul_lt_mul_right (a:=g) ?_
 grind
theorem ShA.used(h:ShA base top v)(hW:W%v.pl.pg=0)(ht:top<=base+W):v.pl.used<=W/v.pl.pg:=by
 have Y:=h.ok.page.1;rw[h.ok.us];refine γ (IL (g:=λp=>decide (base/v.pl.pg<=p/\p<base/v.pl.pg+W/v.pl.pg)) λp hp hh=>?_) (γ (Q2 _ _ _) (ξn (ξI ..)));rw[ψg,h.map hp]at hh;exact κ ⟨hh.1,QP Y h.al hW ht hh.2⟩
theorem ShA.need(h:ShA base top v){n:Nat}(hn:1<=n)(hW:W%v.pl.pg=0)(ht:top+n<=base+W)(hb:base+W<=v.n)(hrm:W/v.pl.pg<=v.pl.rm):A8 v top ((top+n:Nat):Int)=0:=by
 have J:=h.ok.page.1;have V:=h.bt;obtain⟨p0,Z⟩:∃p0,p0=top/v.pl.pg:=⟨_,rfl⟩;obtain⟨p1,Y⟩:∃p1,p1=(top+n-1)/v.pl.pg:=⟨_,rfl⟩;have hp01:p0<=p1:=by rw[Z,Y];exact ζc Ω
 have hp1l:p1<v.pt.length:=by rw[Y];exact(h.ok.split (a:=top+n-1) Ω).1
 have eA:((top:Int)/(v.pl.pg:Int)).toNat=p0:=by
  rw[show (top:Int)/(v.pl.pg:Int)=((top/v.pl.pg:Nat):Int)from rfl,δ,Z]
 have eB:CT v top ((top+n:Nat):Int)=p1+1-p0:=by
  unfold CT;rw[show ((top+n:Nat):Int)-1=((top+n-1:Nat):Int)by omega,show ((top+n-1:Nat):Int)/(v.pl.pg:Int)=(((top+n-1)/v.pl.pg:Nat):Int)from rfl,show (top:Int)/(v.pl.pg:Int)=((top/v.pl.pg:Nat):Int)from rfl,<-Z,<-Y];omega
 unfold A8;rw[ϑ Ω,ϑ Ω,eA,eB,μ];rw[<-Y0i h.ok Ω];refine γ (IL (g:=λp=>decide (base/v.pl.pg<=p/\p<base/v.pl.pg+W/v.pl.pg)) λp hp hh=>?_) (γ (Q2 _ _ _) (γ (ξn (ξI ..)) hrm));rw[ζ3,ψg,ζd]at hh;refine κ ?_;rcases hh with hh|hh
 ·rw[h.map hp]at hh;exact⟨hh.1,QP J h.al hW Ω hh.2⟩
 ·have h1:base/v.pl.pg<=p0:=by rw[Z];exact ζc V.1
  refine⟨by omega,QP J h.al hW ht ?_⟩;have h2:=ζj v.pl.pg (show p<=p1 by omega);have h3:=ζk (top+n-1) v.pl.pg;rw[<-Y]at h3;omega
theorem ShA.alloc(h:ShA base top v){n:Nat}(hs255:p+f+k<=255)(hn:n=1+p+f+k)(h0:0<top)(hle:top+n<=v.n)(he:A8 v top ((top+n:Nat):Int)=0)(hG:BQ v v1 (BN v top ((top+n:Nat):Int))):
  ER v1 top ⟨p,f,k⟩=0/\ShA base (top+n) (mkVm v1 top ⟨p,f,k⟩)/\DR v1 (mkVm v1 top ⟨p,f,k⟩)/\(∀a:Nat,a<top->(mkVm v1 top ⟨p,f,k⟩).ldV a=v.ldV a)/\(mkVm v1 top ⟨p,f,k⟩).ldV top=C4 p f k/\∀i:Nat,i<p+f+k->(mkVm v1 top ⟨p,f,k⟩).ldV ((top+1+i:Nat):Int)=0:=by
 have Z:=h.ok.page.1;have J:=h.bt
 have hl:∀a:Nat,a<v.n->(v1.ldE a=0↔base<=a/\a/v.pl.pg*v.pl.pg<top+n):=λa ha=>by
  rw[TC h.ok hle he hG ha,h.pg a ha];have q1:=ζk a v.pl.pg;have q2:=ζv a v.pl.pg;constructor
  ·rintro(⟨a1,a2⟩|⟨-,a1,a2⟩)
   ·exact⟨a1,by omega⟩
   ·have h1:base/v.pl.pg<=a/v.pl.pg:=γ (ζc J.1) a1;have h2:=(GF Z h.al).2 h1;have h3:=ζj v.pl.pg a2;have h4:=ζk (top+n-1) v.pl.pg;exact⟨by omega,by omega⟩
  ·rintro⟨a1,a2⟩;rcases χ (a/v.pl.pg*v.pl.pg) top with h1|h1
   ·exact .inl ⟨a1,h1⟩
   ·refine .inr ⟨by omega,?_,?_⟩
    ·exact ζc Ω
    ·rw[ξb Ω];omega
 obtain⟨m1,m2⟩:=W9 (v:=v1) hG.ok (t:=top) (p:=p) (f:=f) (c:=k) h0 hs255 (λj hj=>by
  exact(hl _ Ω).2 ⟨by omega,by have:=ζk (top+j) v.pl.pg;omega⟩)
 have Y:DR v1 (mkVm v1 top ⟨p,f,k⟩):=(DR.refl hG.ok).mkVm _ _;refine⟨m1,⟨Y.ok,by rw[Y.sm.pg,hG.pg];exact h.al,⟨by omega,by rw[Y.sm.n,hG.n];exact hle⟩,λa ha=>?_⟩,Y,λa ha=>?_,?_,λi hi=>?_⟩
 ·rw[Y.sm.n,hG.n]at ha;rw[Y.sm.ldE,Y.sm.pg,hG.pg];exact hl a ha
 ·rw[m2,ϑ Ω,ϑ Ω];exact hG.ldV_all h.ok Ω
 ·rw[m2,μ rfl]
 grind
theorem HpA.shut(hO:BL s v)(h:HpA top u s v)(hall:∀i,i<sizes s.L->s.is i=true):ShA s.cf.to top v/\∀a:Nat,s.cf.to<=a->a<top->v.ldE a=0/\v.ldV a=u.ldV a:=by
 obtain⟨h1,h2⟩:=h.done hO hall;have hs:=hO.st;have Y:=hO.mid.pg;have Z:=hs.pg.1;have hlm:=h.lm;refine⟨⟨hO.mid.ok,by rw[Y];exact hs.cf.at_,⟨by omega,by have:=hs.cf.ln;rw[hO.mid.n];omega⟩,λa ha=>?_⟩,h2⟩;rw[hO.mid.ok.ldE_of ha,Y];have h3:=h1 (a/s.pg) (by rw[<-Y];exact(hO.mid.ok.split ha).1);have q1:=ζk a s.pg;have q2:=ζv a s.pg;constructor
 ·intro hh;have J:v.pt.getD (a/s.pg) 0≠0:=λe=>by rw[μ e]at hh;cases hh
  obtain⟨b,b1,b2,b3⟩:=h3.1 J;have h4:s.cf.to/s.pg<=a/s.pg:=by rw[<-b3];exact ζc b1
  have h5:=(GF Z hs.cf.at_).2 h4;have h6:=ζk b s.pg;rw[b3]at h6;exact⟨by omega,by omega⟩
 ·rintro⟨a1,a2⟩;have h4:s.cf.to<=a/s.pg*s.pg:=(GF Z hs.cf.at_).2 (ζc a1);exact ϑ (h3.2 ⟨a/s.pg*s.pg,h4,a2,ξz _ Ω⟩)
end
section
variable{base top:Nat}{g:Gph}{F:Nat->Nat}{c:Cf}{rs:List Int}
theorem Img.grown(h:Img v g F base top)(hv:AF v)(hG:∃E,BQ v v1 E)(ht:top<=v.n):Img v1 g F base top:=by
 obtain⟨E,hG⟩:=hG;refine h.mem λa h1 h2 hl=>⟨?_,hG.ldV_all hv Ω⟩
 rw[hG.ldE hv Ω];omega
theorem Img.roots(h:Img v g F base top){T:Int->Int}{lo hi:Nat}(hm:L3 v v' (Rch v (g.S.map λx=>(F x:Int))) T lo hi):(g.S.map λx=>(F x:Int)).map T=g.S.map λx=>(((T (F x)).toNat:Nat):Int):=by
 rw[List.map_map];refine ξG λx hx=>?_
 show T (F x)=_
 by_cases h0:x=0
 ·subst h0;rw[h.z];rw[show (((0:Nat):Int))=0 from rfl,hm.z];rfl
 ·have:=(hm.lo _ (h.rch_of (Gph.Rd.root hx h0))).1;omega
theorem ShA.needC(h:ShA base top v)(hW:W%v.pl.pg=0)(ht:top<=base+W){N:Nat}(hto:t0%v.pl.pg=0)(hN:N<=W)(hb:t0+N<=v.n)(hrm:2*(W/v.pl.pg)<=v.pl.rm):A8 v t0 ((t0+N:Nat):Int)=0:=by
 have Z:=h.ok.page.1;rcases ζB N with rfl|hN0
 ·unfold A8;omega
 obtain⟨p0,Y⟩:∃p0,p0=t0/v.pl.pg:=⟨_,rfl⟩;obtain⟨p1,J⟩:∃p1,p1=(t0+N-1)/v.pl.pg:=⟨_,rfl⟩;have hp01:p0<=p1:=by rw[Y,J];exact ζc Ω
 have eA:((t0:Int)/(v.pl.pg:Int)).toNat=p0:=by
  omega
 have eB:CT v t0 ((t0+N:Nat):Int)=p1+1-p0:=by
  unfold CT
  grind
 have hu:=h.used hW ht;have hl:=RF v p0 (p1+1-p0)
 have hp1W:p1<p0+W/v.pl.pg:=by
  rw[Y];refine QP Z hto hW (show t0+N<=t0+W by omega) ?_;have:=ζk (t0+N-1) v.pl.pg
  grind
 unfold A8
 grind
theorem ShA.copied(h:ShA c.fr c.tp v)(hcf:GW v.pl.pg v.n c)(hfit:c.to+sizes L<=c.lm)(hE:A8 v c.to ((c.to+sizes L:Nat):Int)=0){kq:Nat}(hD:S7 v rs c L v1 v2 k kq):
  ShA c.to (c.to+sizes L) (umN v2 (c.fr/v.pl.pg) kq)/\(umN v2 (c.fr/v.pl.pg) kq).n=v.n/\(umN v2 (c.fr/v.pl.pg) kq).pl.pg=v.pl.pg/\(umN v2 (c.fr/v.pl.pg) kq).pl.rm=v.pl.rm/\∀a:Nat,c.to<=a->a<c.to+sizes L->¬(c.fr/v.pl.pg<=a/v.pl.pg/\a/v.pl.pg<c.fr/v.pl.pg+kq):=by
 have Y:=h.ok.page.1;have hln:=hcf.ln;have hlm:=hcf.lm;obtain⟨e1,e2,e3,-⟩:=LE v2 (c.fr/v.pl.pg) kq;have n2:v2.n=v.n:=hD.st.cp.sm.n.trans hD.gr.n;have p2:v2.pl.pg=v.pl.pg:=hD.st.cp.sm.pg.trans hD.gr.pg;have hq:∀q,c.fr/v.pl.pg<=q->(q<c.fr/v.pl.pg+kq↔q*v.pl.pg<c.tp):=λq hq=>Z9 hD.q1 hD.q2 q hq
 have Z:∀a:Nat,c.to<=a->a<c.lm->¬(c.fr/v.pl.pg<=a/v.pl.pg/\a/v.pl.pg<c.fr/v.pl.pg+kq):=λa a1 a2 hh=>by
  have h1:=(hq _ hh.1).1 hh.2;have h2:=(GF Y hcf.af).2 hh.1;have h3:=ζk a v.pl.pg;have hu:=XSg (n:=c.tp) Y
  have hn:c.lm<=c.fr\/upN c.tp v.pl.pg<=c.to:=by
   have:=hcf.ap;omega
  rcases hn with e|e
  ·omega
  ·have h4:=(GF (b:=c.to) Y hcf.at_).2 (ζc a1);omega
 refine⟨⟨O6 hD.st.cp.ok _ _,?_,⟨ζL _ _,?_⟩,λa ha=>?_⟩,e1.trans n2,e2.trans p2,e3.trans (hD.st.cp.sm.rm.trans hD.gr.rm),λa a1 a2=>Z a a1 Ω⟩
 ·rw[e2,p2];exact hcf.at_
 ·omega
 ·rw[e1,n2]at ha;rw[e2,p2,UP hD.st.cp.ok _ _ (by rw[n2];exact ha),p2,hD.st.cp.sm.ldE];have h1:=TC h.ok Ω hE hD.gr ha;rw[h.pg a ha]at h1;have q1:=ζk a v.pl.pg;have q2:=ζv a v.pl.pg;by_cases hx:c.fr/v.pl.pg<=a/v.pl.pg/\a/v.pl.pg<c.fr/v.pl.pg+kq
  ·rw[μ hx];refine⟨(λhh=>by cases hh),λ⟨a1,a2⟩=>absurd hx ?_⟩;have h4:=(GF (b:=c.to) Y hcf.at_).2 (ζc a1);have:=Z (a/v.pl.pg*v.pl.pg) h4 Ω;rw[ξz _ (show 0<v.pl.pg by omega)]at this;exact this
  ·rw[ϑ hx,h1];constructor
   ·rintro(⟨a1,a2⟩|⟨a0,a1,a2⟩)
    ·have h2:c.fr/v.pl.pg<=a/v.pl.pg:=ζc a1;exact absurd ⟨h2,(hq _ h2).2 a2⟩ hx
    ·have h4:=(GF (b:=c.to) Y hcf.at_).2 a1;have h5:=ζj v.pl.pg a2;have h6:=ζk (c.to+sizes L-1) v.pl.pg;exact⟨by omega,by omega⟩
   ·rintro⟨a1,a2⟩;refine .inr ⟨?_,ζc a1,?_⟩
    ·have h4:=(GF (b:=c.to) Y hcf.at_).2 (ζc a1);omega
    ·rw[ξb Ω];omega
theorem ShA.packed(h:ShA base top v)(hfit:base+sizes L<=top)(hE:A8 v base ((base+sizes L:Nat):Int)=0)(hD:GA v rs base top L v1 v2 j):
  ShA base (base+sizes L) (EM v v2 base (base+sizes L) j)/\(EM v v2 base (base+sizes L) j).n=v.n/\(EM v v2 base (base+sizes L) j).pl.pg=v.pl.pg/\(EM v v2 base (base+sizes L) j).pl.rm=v.pl.rm:=by
 have Y:=h.ok.page.1;have hbt:=h.bt;obtain⟨b1,b2,b3,b4,-,-⟩:=hD.base;refine⟨⟨b4,by rw[b2];exact h.al,⟨ζL _ _,by omega⟩,λa ha=>?_⟩,b1,b2,b3⟩;rw[b1]at ha;rw[b2,hD.ldE h.ok hE Ω ha,h.pg a ha];have q1:=ζk a v.pl.pg;have q2:=ζv a v.pl.pg;rw[<-MA (nt:=base+sizes L) (pg:=v.pl.pg) (q:=a/v.pl.pg) Y];constructor
 ·rintro⟨h1|⟨a0,a1,a2⟩,h2⟩
  ·refine⟨h1.1,Nat.lt_of_not_le λh3=>h2 ⟨h3,(Z9 hD.q1 hD.q2 _ (ζc h1.1)).2 h1.2⟩⟩
  ·have h4:=(GF (b:=base) Y h.al).2 a1;have h5:=ζj v.pl.pg a2;have h6:=ζk (base+sizes L-1) v.pl.pg;omega
 omega
theorem YxV(hv:AF v)(hM:BD v rs v.n L)(hE:A8 v base ((base+sizes L:Nat):Int)=0)(hn:base+sizes L<=v.n)(hD:GA v rs base top L v1 v2 j):L3 v1 (EM v v2 base (base+sizes L) j) (Rch v1 rs) (toV L base) base (base+sizes L):=by
 have hw:=hD.gr.wider hv;have Y:=hv.page;refine QDj (n:=v.n) ⟨hw.marks hM,hD.gr.n,hD.gr.ok,hD.cx.fr1,hn,hv.n2,λo ho=>(hD.cx.inn o ho).1,λi hi=>?_,λi hi=>hD.word hv hn hi⟩;refine(hD.ldE hv hE hn Ω).2 ⟨.inr ⟨by omega,ζc Ω,ζc Ω⟩,λhx=>?_⟩;have h1:=(MA (nt:=base+sizes L) (pg:=v.pl.pg) Y.1).2 hx.1;have:=ζk (base+i) v.pl.pg;omega
end
theorem XUb{gv:Vm}{rs:List Int}{c:Cf}{n:Nat}(hM:BD v rs n L)(hn:n<=524288)
  (hg:∀i,i<sizes L->gv.ldE ((c.to+i:Nat):Int)=0/\gv.ldV ((c.to+i:Nat):Int)=(AX v c L).c i):L3 v gv (Rch v rs) (toV L c.to) c.to (c.to+sizes L):=by
 have hG:=hM.mkd.good
 have Y:∀{j:Nat} (hj:j<L.length),0<L[j].1/\v.osz ((L[j].1:Nat):Int)=(L[j].2:Nat):=λhj=>by
  obtain⟨-,h2,h3⟩:=hM.mkd.ats _ (π hj);have:=(C9 h2).1;exact⟨by omega,h3.symm⟩
 have hz:toV L c.to 0=0:=by
  refine(N3 λhx=>?_).1;have h1:=H7 hx;have h2:=(Y hx).1;omega
 have Z:∀a,Rch v rs a->∃(j:Nat) (hj:j<L.length),(L[j].1:Int)=a/\toV L c.to a=((c.to+sizes (L.take j):Nat):Int):=λa ha=>by
  obtain⟨o,ho,he⟩:=hM.all a ha;obtain⟨j,hj,rfl⟩:=ζp ho;have hs:=(hG.sz _ (π hj)).1;have:=(QU hG (base:=(c.to:Int)) hj (a:=a) Ω Ω).1;exact⟨j,hj,he,by omega⟩
 refine⟨hz,λb hb m hm=>?_,λb hb=>?_,λb b' hb hb'=>?_⟩
 ·obtain⟨j,hj,rfl,e⟩:=Z b hb;rw[(Y hj).2]at hm;have J:m<L[j].2:=Ω
  have hmid:=I9 hj;obtain⟨x1,x2⟩:=hg (sizes (L.take j)+m) Ω;rw[e,show ((c.to+sizes (L.take j):Nat):Int)+(m:Int)=((c.to+(sizes (L.take j)+m):Nat):Int)by omega];refine⟨x1,?_⟩
  have hc:(AX v c L).c (sizes (L.take j)+m)=cvH L c.to (v.rdH ((L[j].1:Nat):Int)) m (v.ldV ((L[j].1+m:Nat):Int)):=by
   show cvH L c.to (v.rdH ((L.getD (BS L (sizes (L.take j)+m)) (0,0)).1:Nat)) (sizes (L.take j)+m-sizes (L.take (BS L (sizes (L.take j)+m)))) (v.ldV (AG L (sizes (L.take j)+m):Nat))=_
   rw[Z5 hj J,YZF hj J,ξI,ω,ζa hj];rfl
  rw[x2,hc,show ((L[j].1:Nat):Int)+(m:Int)=((L[j].1+m:Nat):Int)by omega];unfold cvH;by_cases hT:1<=m/\(m:Int)<=(v.rdH ((L[j].1:Nat):Int)).p
  ·rw[μ hT];by_cases h0:v.ldV ((L[j].1+m:Nat):Int)=0
   ·rw[ϑ (λhh=>hh.2 h0),h0];exact hz.symm
   ·rw[μ ⟨hT,h0⟩];have:=WC hG Ω c.to (v.ldV ((L[j].1+m:Nat):Int):Nat);omega
  ·rw[ϑ hT,ϑ (λhh=>hT hh.1)]
 ·obtain⟨j,hj,rfl,e⟩:=Z b hb;have h1:=I9 hj;rw[e,(Y hj).2];omega
 ·obtain⟨j,hj,rfl,e⟩:=Z b hb;obtain⟨i,hi,rfl,e'⟩:=Z b' hb';have s1:=E0 hj;have s2:=E0 hi;rw[e,e',(Y hj).2,(Y hi).2];rcases ζR j i with hl|hl|hl
  ·have:=PO L (show j+1<=i by omega);exact .inr (.inl Ω)
  ·subst hl;exact .inl rfl
  ·have:=PO L (show i+1<=j by omega);exact .inr (.inr Ω)
def rnL(q base top lim:Nat):List Value:=[pP q,iI base,iI top,iI lim]
abbrev EW(w:World)(rn q base top lim:Nat):Prop:=Rec w rn 141 (rnL q base top lim)
section
variable{S:Nat->Prop}{q rn base top lim:Nat}
theorem YN8(hV:AD w S q v)(hn:v.n≠0)(h1:base<=lim)(h2:lim<=v.n):Calls prog 40 #[pP q,iI base,iI lim] w λe w'=>∃rn,e=.returned (.tuple #[pP rn,iI 0])/\Gr w w'/\w.heap.size<=rn/\EW w' rn q base base lim:=by
 have HW:=(KN hV);have hn2:=hV.ok.n2;have d0:((v.n:Int)==0)=false:=by simp;omega
 have d1:decide ((base:Int)<0)=false:=φ Ω;have d2:decide ((lim:Int)<(base:Int))=false:=φ Ω;have d3:decide ((v.n:Int)<(lim:Int))=false:=φ Ω;have HR:=(Rec.new w 141 (rnL q base base lim));go_enter func40,ntmps40;go_wp2_with(go_at_call 47;refine AM (HW) ?_);go_ret2;exact⟨w.heap.size,rfl,(Gr.refl w).alloc _,ν _,HR⟩
theorem O1(h:EW w rn q base top lim):cQ 148 #[pP rn] w (.bool false):=by
 have c0:=h.cc 0;go_enter func148,ntmps148;go_wp2;go_ret
 simp_all
theorem OU(h:EW w rn q base top lim):cQ 97 #[pP rn] w (iI base):=by
 have HN:=(O1 h);have c0:=h.cc 1;go_enter func97,ntmps97;go_wp2_with(go_at_call 148;refine AM (HN) ?_);go_ret
 simp_all
theorem UH(h:EW w rn q base top lim):cQ 98 #[pP rn] w (iI top):=by
 have HN:=(O1 h);have c0:=h.cc 2;go_enter func98,ntmps98;go_wp2_with(go_at_call 148;refine AM (HN) ?_);go_ret
 simp_all
theorem W8(h:EW w rn q base top lim){t:Nat}(h1:base<=t)(h2:t<=lim):Calls prog 99 #[pP rn,iI t] w λe w'=>e=.returned (iI 0)/\AB (λk=>k=rn) w w'/\EW w' rn q base t lim:=by
 have HN:=(O1 h);have c1:=h.cc 1;have c2:=h.cc 2;have c3:=h.cc 3;have cf:=h.free 2;have cl:=h.lt;have HS:=(h.set 2 (iI t));have HT:Hid (AB (λk=>k=rn) w (w.setCell ⟨rn,2,none⟩ (.int .i64 t))):=⟨(AB.refl (λk=>k=rn) w).setCell (a:=⟨rn,2,none⟩) (λ_=>rfl) _⟩;have d1:decide ((t:Int)<(base:Int))=false:=φ Ω;have d2:decide ((lim:Int)<(t:Int))=false:=φ Ω;go_enter func99,ntmps99;go_wp2_with(go_at_call 148;refine AM (HN) ?_);go_ret;exact⟨rfl,HT.o,HS⟩
def VhE(w:World)(S:Nat->Prop)(q rn base top lim n:Nat)(v:Vm)(e:Ending)(w':World):Prop:=
 (lim<top+n/\e=.returned (.tuple #[iI 0,iI 21])/\Gr w w') ∨
 (top+n<=lim/\e=.returned (.tuple #[iI top,iI 0])/\AB (λk=>k=rn\/S k) w w'/\G6 w' (plus S w) q v (BN v top ((top+n:Nat):Int))/\EW w' rn q base (top+n) lim)
theorem Xej(h:EW w rn q base top lim)(hV:AD w S q v)(hS:¬S rn){n:Nat}(hn:1<=n)(htl:top<=lim)(hlv:lim<=v.n)(hE:top+n<=lim->A8 v top ((top+n:Nat):Int)=0):Calls prog 108 #[pP rn,iI n] w (VhE w S q rn base top lim n v):=by
 have HN:=(O1 h);have hn2:=hV.ok.n2;have c0:=h.cc 0;have c2:=h.cc 2;have c3:=h.cc 3;have cl:=h.lt;have d0:decide ((n:Int)<1)=false:=φ Ω;rcases χ lim (top+n)with D|V
 ·have d1:decide ((lim:Int)-(top:Int)<(n:Int))=true:=κ Ω;go_enter func108,ntmps108;go_upto_region 5 with(go_at_call 148;refine AM (HN) ?_);go_quiet (fail);go_wp2;go_ret2;exact .inl ⟨D,rfl,(Gr.refl w).drewN _⟩
 ·have d1:decide ((lim:Int)-(top:Int)<(n:Int))=false:=φ Ω;have Y:=(λ(W:World) (g:Gr w W)=>P0 (hV.gr g) top (top+n) Ω Ω);rw[hE V]at Y;have HR:=h;have E:=hS;have e1:(((top+n:Nat)):Int)=(top:Int)+n:=Ω
  rw[e1]at Y;go_enter func108,ntmps108;go_upto_region 5 with(go_at_call 148;refine AM (HN) ?_);go_quiet (fail);go_upto_region 7 with(fail);obtain⟨Sx,J,HS⟩:=AA.start λW'=>EW W' rn q base top lim;have c0:=AA.fact J λ_ h=>h.cell (j:=0) rfl;have c2:=AA.fact J λ_ h=>h.cell (j:=2) rfl;have Z:=HS.o _ (HR.gr ((Gr.refl w).drewN nq).drew);have N:Inhabited (AA Sx):=⟨⟨_,Z⟩⟩;clear J;refine AW Sx 16 [([0,1,2,3,4,5,6,7,8,9,10,11,12,13],14)] [15] (by kernel_rfl) (by kernel_rfl) Z ?_;refine AH ?_
  try simp only[AC,ζ,ξ]
  repeat(go_big_quiet_step (fail))
  refine ψ ?_;go_wp2_with((go_at_call 117;refine(Y _ ((Gr.refl w).drewN _)).mono ?_;rintro e w2 ⟨rfl,ht,hg⟩;have HG:=hg;have r2:=(HR.gr ((Gr.refl w).drewN (nq+1))).touch ht E;have k2:=r2.cc 2;have kf:=r2.free 2;have I:=r2));refine⟨.inr (AA.of (HS.o _ (I))),?_⟩;refine BO ?_
  try simp only[AC,ζ,ξ]
  repeat(go_big_quiet_step (fail))
  refine ψ ?_;refine ζb ?_;clear c0 c2 Z N;go_wp2;go_ret2;refine .inr ⟨V,rfl,?_,?_,?_⟩
  ·exact((((Gr.refl w).drewN _).touch _).trans (ht.mono (λ_ _ h=>.inr h))).setCell (a:=⟨rn,2,none⟩) (λ_=>.inl rfl) _
  ·obtain⟨v',h1,h2⟩:=HG;rw[e1];refine⟨v',h1,h2.touch ((AB.refl (λk=>k=rn) _).setCell (a:=⟨rn,2,none⟩) (λ_=>rfl) _) (λk hk _ e=>?_)⟩;have:=HR.lt;rcases hk with hk|hk
   ·exact E (e▸hk)
   ·have:w.heap.size<=k:=hk;omega
  ·have:=I.set 2 (iI ((top:Int)+n))
   show Rec _ rn _ (rnL q base (top+n) lim)
   unfold rnL at this⊢;rw[e1];exact this
end
def CD(l l':List Bool):Prop:=l'.length=l.length/\∀i,at_ l i=true->at_ l' i=true
theorem CD.refl(l:List Bool):CD l l:=⟨rfl,λ_ h=>h⟩
theorem CD.trans{a b c:List Bool}(h:CD a b)(k:CD b c):CD a c:=⟨k.1.trans h.1,λi hi=>k.2 i (h.2 i hi)⟩
theorem CD.set(l:List Bool)(k:Nat):CD l (l.set k true):=by
 refine⟨η ..,λi hi=>?_⟩;rcases χ k l.length with h|h
 ·rw[FX h]
  simp_all
 grind [List.set_eq_of_length_le]
theorem CD.step(l:List Bool):CD l (CW l):=by
 unfold CW
 split
 ·exact CD.set _ _
 ·exact CD.refl _
theorem CD.run(A k n:Nat)(l:List Bool):CD l (GK A k n l):=by
 induction n generalizing l with
 | zero=>exact CD.refl _
 | succ n ih=>
  unfold GK
  split
  ·exact(CD.step l).trans (ih _)
  ·exact CD.refl _
theorem CD.touch(A k:Nat)(l:List Bool):CD l (IW A k l):=by
 unfold IW
 split
 ·exact CD.refl _
 ·exact(CD.run A k k l).trans (CD.set _ _)
theorem CD.mvd(h:CD l l'):B7 l<=B7 l':=by
 unfold B7;rw[h.1];exact IL λi _ hi=>h.2 i hi
theorem Sl.tch_mono(s:Sl)(b:Int):CD s.mv (s.tch b).mv:=by
 show CD s.mv (if inF s.L s.cf.to b then IW s.cf.ah ((b-s.cf.to).toNat/s.cf.bk) s.mv else s.mv)
 split
 ·exact CD.touch _ _ _
 ·exact CD.refl _
theorem Sl.lf_mono(h:CD s.mv s'.mv):s'.lf<=s.lf:=by
 have h1:=h.mvd;have h2:=h.1
 show s'.mv.length-B7 s'.mv<=s.mv.length-B7 s.mv
 omega
theorem QGs(hf:ftL l<l.length):B7 (CW l)=B7 l+1/\B7 l+1<=l.length:=by
 have hz:at_ l (ftL l)=false:=by
  have h1:(!at_ l (ftL l))=true:=GB (λk=>!at_ l k) _ hf
  simp_all
 have h1:=I2 hf hz;have h2:cnt (at_ (l.set (ftL l) true)) l.length<=l.length:=DZ _ _
 have h3:B7 (CW l)=B7 l+1:=by
  unfold B7 CW
  simp_all
 refine⟨h3,?_⟩;unfold B7;omega
theorem Sl.lf_step(h:s.ft<s.mv.length):s.step.lf+1=s.lf:=by
 obtain⟨h1,h2⟩:=QGs (l:=s.mv) h
 show (CW s.mv).length-B7 (CW s.mv)+1=s.mv.length-B7 s.mv
 rw[QI,h1];omega
structure HCf where
 kd:Nat
 pg:Nat
 bk:Nat
 wd:Nat
 sl:Nat
 st:Nat
 ah:Nat
 tr:Nat
variable{c:HCf}
def HCf.q(c:HCf):Nat:=max 1 (c.bk/c.pg)
def HCf.spare(c:HCf):Nat:=(c.ah+2)*(c.q+3)
def HCf.fr(c:HCf):Nat:=if c.kd=1 then c.wd/c.pg+c.spare else if c.kd=2 then 2*(c.wd/c.pg)else c.wd/c.pg
def HCf.n(c:HCf):Nat:=if c.kd=3 then c.pg+c.wd else c.pg+c.wd+c.wd
structure HCf.Ok(c:HCf):Prop where
 kd:1<=c.kd/\c.kd<=3
 pg:DY c.pg=true
 bk:BG c.bk=true
 wd:16<=c.wd/\c.wd<=131072
 dv:c.wd%c.pg=0
 pw:c.pg<=c.wd
 sl:1<=c.sl/\c.sl<=64
 st:1<=c.st/\c.st<=4096
 ah:c.ah<=16
 fr:c.fr<=4096
def G0(c:HCf):List Value:=[iI c.kd,iI c.pg,iI c.bk,iI c.wd,iI c.sl,iI c.st,iI c.ah,.float .f64 c.tr]
def GS(c:HCf):Value:=.agg (G0 c).toArray
structure HAd where
 hp:Nat
 q:Nat
 r:Nat
 g:Nat
 rn:Nat
variable{A:HAd}
def hpL(c:HCf)(A:HAd)(cy:Option Nat)(cyc blk:Int):List Value:=
 [iI c.kd,iI c.pg,iI c.bk,iI c.wd,iI c.sl,iI c.st,iI c.ah,.float .f64 c.tr,
  pP A.q,pP A.r,pP A.rn,.pointer (cy.map λy=>⟨y,0,none⟩),iI cyc,iI blk]
structure CB(w:World)(X:Nat->Prop)(A:HAd)(c:HCf)(base top:Nat)(rs:List Int)(cy:Option Nat)(cyc blk:Int):Prop where
 row:Rec w A.hp 83 (hpL c A cy cyc blk)
 rn:EW w A.rn A.q base top (base+c.wd)
 rt:AR w A.r A.g rs
 tab:AP w
 n1:A.hp≠A.r/\A.hp≠A.g/\A.hp≠A.rn/\A.hp≠1
 n2:A.r≠A.g/\A.r≠A.rn/\A.r≠1
 n3:A.g≠A.rn/\A.g≠1/\A.rn≠1
 x:¬X A.hp/\¬X A.r/\¬X A.g/\¬X A.rn/\¬X 1
section
variable{S:Nat->Prop}{base top:Nat}{rs:List Int}
theorem CB.lt(h:CB w X A c base top rs cy cyc blk):A.hp<w.heap.size/\A.r<w.heap.size/\A.g<w.heap.size/\A.rn<w.heap.size/\1<w.heap.size:=⟨h.row.lt,h.rt.lt.1,h.rt.lt.2,h.rn.lt,h.tab.lt⟩
theorem CB.touch(h:CB w X A c base top rs cy cyc blk)(t:AB T w w')(hT:¬T A.hp/\¬T A.r/\¬T A.g/\¬T A.rn/\¬T 1):CB w' X A c base top rs cy cyc blk:=
 ⟨h.row.touch t hT.1,h.rn.touch t hT.2.2.2.1,h.rt.touch t hT.2.1 hT.2.2.1,t.tab h.tab.lt hT.2.2.2.2 h.tab,h.n1,h.n2,h.n3,h.x⟩
theorem CB.gr(h:CB w X A c base top rs cy cyc blk)(g:Gr w w'):CB w' X A c base top rs cy cyc blk:=h.touch (g.touch (λ_=>False)) ⟨id,id,id,id,id⟩
theorem CB.mem(h:CB w X A c base top rs cy cyc blk)(t:AB X w w'):CB w' (plus X w) A c base top rs cy cyc blk:=by
 obtain⟨l1,l2,l3,l4,l5⟩:=h.lt;obtain⟨x1,x2,x3,x4,x5⟩:=h.x;have k:=h.touch t h.x;exact⟨k.row,k.rn,k.rt,k.tab,k.n1,k.n2,k.n3,λe=>e.elim x1 (λe=>by omega),λe=>e.elim x2 (λe=>by omega),λe=>e.elim x3 (λe=>by omega),λe=>e.elim x4 (λe=>by omega),λe=>e.elim x5 (λe=>by omega)⟩
theorem CB.sub(h:CB w X A c base top rs cy cyc blk)(hx:∀k,k<w.heap.size->X' k->X k):CB w X' A c base top rs cy cyc blk:=by
 obtain⟨l1,l2,l3,l4,l5⟩:=h.lt;obtain⟨x1,x2,x3,x4,x5⟩:=h.x;exact⟨h.row,h.rn,h.rt,h.tab,h.n1,h.n2,h.n3,λe=>x1 (hx _ l1 e),λe=>x2 (hx _ l2 e),λe=>x3 (hx _ l3 e),λe=>x4 (hx _ l4 e),λe=>x5 (hx _ l5 e)⟩
theorem CB.root{rs':List Int}(h:CB w X A c base top rs cy cyc blk)(t:AB (λk=>k=A.g) w w')(hr:AR w' A.r A.g rs'):CB w' X A c base top rs' cy cyc blk:=
 ⟨h.row.touch t h.n1.2.1,h.rn.touch t (λe=>h.n3.1 e.symm),hr,t.tab h.tab.lt (λe=>h.n3.2.1 e.symm) h.tab,h.n1,h.n2,h.n3,h.x⟩
theorem CB.turn{top':Nat}(h:CB w X A c base top rs cy cyc blk)(t:AB (λk=>k=A.rn) w w')(hr:EW w' A.rn A.q base top' (base+c.wd)):CB w' X A c base top' rs cy cyc blk:=
 ⟨h.row.touch t h.n1.2.2.1,hr,h.rt.touch t h.n2.2.1 h.n3.1,t.tab h.tab.lt (λe=>h.n3.2.2 e.symm) h.tab,h.n1,h.n2,h.n3,h.x⟩
end
structure HVm(c:HCf)(v:Vm):Prop where
 n:v.n=c.n
 pg:v.pl.pg=c.pg
 rm:v.pl.rm=c.fr
def C7(c:HCf)(fr tp t0:Nat):Cf:=⟨fr,tp,t0,t0+c.wd,c.bk,c.st,c.ah⟩
def HpB(rm top:Nat)(u:Vm)(s:Sl)(v:Vm):Prop:=HpA top u s v/\v.pl.rm=rm
theorem TI(rm top:Nat)(u:Vm):SlJ (HpB rm top u):=⟨λ_ _ _ hO hA hk _ _=>hA.1.need hO hk,λ_ _ _ _ hO hA hk hm hc hM=>⟨hA.1.step hO hk hm hc hM,hM.rm.trans hA.2⟩⟩
structure GQ(w:World)(X:Nat->Prop)(A:HAd)(c:HCf)(base top:Nat)(u:Vm)(y:Nat)(z:BZ)(s:Sl)(v:Vm)(R Sv:Nat->Prop):Prop where
 cy:Cyc w R y A.q z s
 vm:AD w Sv A.q v
 hv:HVm c v
 ok:BL s v
 a:HpA top u s v
 x:∀k,R k\/Sv k->X k
 d:∀k,R k->¬Sv k
 tab:AP w
 t1:¬R 1
 t2:¬Sv 1
 bs:s.cf.to=base
 lm:s.cf.lm=base+c.wd
 bk:s.cf.bk=c.bk
 ah:s.cf.ah=c.ah
 kd:c.kd=1
def EJ(w:World)(X:Nat->Prop)(A:HAd)(c:HCf)(base top:Nat)(u:Vm):Option Nat->Nat->Nat->Prop
 | none,lf,_=>AD w X A.q u/\HVm c u/\ShA base top u/\lf=0
 | some y,lf,nb=>∃z s v R Sv,GQ w X A c base top u y z s v R Sv/\s.lf=lf/\s.mv.length=nb
section
variable{base top:Nat}
theorem EJ.touch(h:EJ w X A c base top u o lf nb)(t:AB T w w')(hT:∀k,k<w.heap.size->T k->¬X k/\k≠1)(hx:∀k,X k->X' k):EJ w' X' A c base top u o lf nb:=by
 match o,h with
 | none,⟨h1,h2,h3,h4⟩=>exact⟨(h1.touch t (λk hk hl ht=>(hT k hl ht).1 hk)).mono hx,h2,h3,h4⟩
 | some y,⟨z,s,v,R,Sv,h,e1,e2⟩=>
  have hl:=h.cy.od.lt;exact⟨z,s,v,R,Sv,⟨h.cy.touch t (λk hk ht=>(hT k (hl k hk) ht).1 (h.x k (.inl hk))),h.vm.touch t (λk hk hl ht=>(hT k hl ht).1 (h.x k (.inr hk))),h.hv,h.ok,h.a,λk hk=>hx k (h.x k hk),h.d,t.tab h.tab.lt (λht=>(hT _ h.tab.lt ht).2 rfl) h.tab,h.t1,h.t2,h.bs,h.lm,h.bk,h.ah,h.kd⟩,e1,e2⟩
theorem EJ.gr(h:EJ w X A c base top u o lf nb)(g:Gr w w'):EJ w' X A c base top u o lf nb:=h.touch (g.touch (λ_=>False)) (λ_ _ h=>h.elim) (λ_ h=>h)
theorem EJ.cut(h:EJ w X A c base top u o lf nb):EJ w (AE X w) A c base top u o lf nb:=by
 match o,h with
 | none,⟨h1,h2,h3,h4⟩=>exact⟨h1.cut,h2,h3,h4⟩
 | some y,⟨z,s,v,R,Sv,h,e1,e2⟩=>
  exact⟨z,s,v,R,AE Sv w,⟨h.cy,h.vm.cut,h.hv,h.ok,h.a,λk hk=>hk.elim (λhk=>⟨h.x k (.inl hk),h.cy.od.lt k hk⟩) (λhk=>⟨h.x k (.inr hk.1),hk.2⟩),λk hk hk2=>h.d k hk hk2.1,h.tab,h.t1,λhk=>h.t2 hk.1,h.bs,h.lm,h.bk,h.ah,h.kd⟩,e1,e2⟩
theorem EJ.ok(h:EJ w X A c base top u o lf nb):AF u:=by
 match o,h with
 | none,⟨h1,_⟩=>exact h1.ok
 | some y,⟨z,s,v,R,Sv,h,e1,e2⟩=>exact h.a.ok
end
def tyH:Option Nat->TypeId
 | none=>78
 | some _=>81
def fnH(a b:FuncId):Option Nat->FuncId
 | none=>a
 | some _=>b
def ptH(q:Nat):Option Nat->Value
 | none=>pP q
 | some y=>pP y
def spH(A:HAd)(c:HCf)(base top:Nat)(o:Option Nat)(lf nb:Nat):Sp:=
 ⟨tyH o,ptH A.q o,fnH 190 259 o,λa=>∃n:Nat,a=n/\base<=n/\n<top,True,λk=>k=1,
  λu X w=>(∃l,l<=lf/\EJ w X A c base top u o l nb)/\1<w.heap.size⟩
section
variable{base top:Nat}
theorem GQ.tch(h:GQ w X A c base top u y z s v R Sv){a:Int}(hf:I3 w w' R Sv y A.q z (HpB c.fr top u) (s.tch a) v'):GQ w' (plus X w) A c base top u y z (s.tch a) v' R (plus Sv w):=by
 have hl:=h.cy.od.lt;have J:=h.tab.lt;have Z:=hf.ok;refine⟨hf.cy,hf.vm,⟨?_,?_,?_⟩,hf.ok,hf.j.1,λk hk=>?_,λk hk Y=>?_,hf.t.tab J (λhk=>hk.elim h.t1 h.t2) h.tab,h.t1,λhk=>hk.elim h.t2 (λhk=>by omega),h.bs,h.lm,h.bk,h.ah,h.kd⟩
 ·rw[Z.mid.n,<-h.hv.n,h.ok.mid.n];rfl
 ·rw[Z.mid.pg,<-h.hv.pg,h.ok.mid.pg];rfl
 ·exact hf.j.2
 ·rcases hk with hk|hk|hk
  ·exact .inl (h.x k (.inl hk))
  ·exact .inl (h.x k (.inr hk))
  ·exact .inr hk
 ·rcases Y with Y|Y
  ·exact h.d k hk Y
  grind
theorem ZDq(n:Nat)(a:Addr)(w:World):(method (n+1) 81 (.pointer (some a)) "Load").run prog w=.ok (259,.pointer (some a)) w:=by kernel_rfl
theorem XjE(n:Nat)(a:Addr)(w:World):(nilAhead (n+1) 81 (.pointer (some a)) "Load").run prog w=.ok (some false) w:=by kernel_rfl
theorem ID(A:HAd)(c:HCf)(base top:Nat)(o:Option Nat)(lf nb:Nat):(spH A c base top o lf nb).Ok:=by
 refine⟨λn w=>?_,λn w=>?_,λargs w=>?_,λw=>?_,λh=>?_,λ{u S S' T' w w'} h t hT hs=>?_,λ{u S w} h k hk=>?_,λ{u S w} h=>?_,λ{u S w} h a ha=>?_⟩
 ·cases o with
  | none=>exact VR n _ w
  | some y=>exact XjE n _ w
 ·cases o with
  | none=>exact TJ n _ w
  | some y=>exact ZDq n _ w
 ·cases o with
  | none=>kernel_rfl
  | some y=>kernel_rfl
 ·cases o with
  | none=>kernel_rfl
  | some y=>kernel_rfl
 ·obtain⟨⟨l,-,hm⟩,-⟩:=h;exact hm.ok
 ·obtain⟨⟨l,hl,hm⟩,h2⟩:=h;exact⟨⟨l,hl,hm.touch t (λk hk ht=>hT k hk ht) hs⟩,υ h2 t.size⟩
 ·rw[show k=1 from hk];exact h.2
 ·obtain⟨⟨l,hl,hm⟩,h2⟩:=h;exact⟨⟨l,hl,hm.cut⟩,h2⟩
 ·obtain⟨⟨l,hl,hm⟩,h2⟩:=h;obtain⟨n,rfl,h3,h4⟩:=ha
  match o,hm with
  | none,⟨h5,h6,h7,h8⟩=>
   refine(LQ h5 (n:Int)).mono ?_;rintro e w' ⟨rfl,g⟩;exact⟨rfl,g.touch _,⟨l,hl,(h5.gr g).mono (λ_ h=>.inl h),h6,h7,h8⟩,υ h2 g.size⟩
  | some y,⟨z,s,v,R,Sv,h,e1,e2⟩=>
   have hs:=h.ok.st;have hlm:=h.a.lm;have hln:=hs.cf.ln;have hn2:=hs.n2;refine(QeN (TI c.fr top u) h.cy h.ok ⟨h.a,h.hv.rm⟩ h.tab h.t2 h.t1 h.vm h.d (n:Int) Ω).mono ?_;rintro e w' ⟨v',rfl,hf⟩;have Y:s.cf.to<=n:=by rw[h.bs];exact h3
   obtain⟨d1,d2⟩:=hf.j.1.ld hf.ok (a:=n) Y h4 (λi hi e=>by rw[e];exact Sl.tch_is hs hi);have d3:=h.a.un n Ω;refine⟨by simp_all,hf.t.mono (λk _ hk=>⟨trivial,h.x k hk⟩),⟨(s.tch n).lf,?_,z,s.tch n,v',R,plus Sv w,h.tch hf,rfl,?_⟩,υ h2 hf.t.size⟩
   ·have:=Sl.lf_mono (Sl.tch_mono s (n:Int));omega
   ·rw[(Sl.tch_mono s (n:Int)).1];exact e2
end
structure HSt where
 A:HAd
 X:Nat->Prop
 base:Nat
 top:Nat
 u:Vm
 F:Nat->Nat
 o:Option Nat
 lf:Nat
 nb:Nat
 cyc:Int
 blk:Int
def HSt.rs(s:HSt)(g:Gph):List Int:=g.S.map λx=>(s.F x:Int)
def HSt.S(s:HSt)(k:Nat):Prop:=s.X k\/k=s.A.hp\/k=s.A.g\/k=s.A.r\/k=s.A.rn
structure HIn(w:World)(c:HCf)(g:Gph)(s:HSt):Prop where
 com:CB w s.X s.A c s.base s.top (s.rs g) s.o s.cyc s.blk
 mem:EJ w s.X s.A c s.base s.top s.u s.o s.lf s.nb
 img:Img s.u g s.F s.base s.top
 gok:g.Ok
 cok:c.Ok
 bt:s.base<=s.top/\s.top<=s.base+c.wd
 bs:s.base=c.pg\/(s.base=c.pg+c.wd/\c.kd≠3)
 sl:g.S.length=c.sl
section
variable{g:Gph}{s:HSt}
theorem HIn.gr(h:HIn w c g s)(gr:Gr w w'):HIn w' c g s:=⟨h.com.gr gr,h.mem.gr gr,h.img,h.gok,h.cok,h.bt,h.bs,h.sl⟩
theorem HIn.touch(h:HIn w c g s)(t:AB T w w')(hT:∀k,k<w.heap.size->T k->¬s.S k/\k≠1):HIn w' c g s:=by
 obtain⟨l1,l2,l3,l4,l5⟩:=h.com.lt
 exact⟨h.com.touch t ⟨λe=>(hT _ l1 e).1 (.inr (.inl rfl)),λe=>(hT _ l2 e).1 (.inr (.inr (.inr (.inl rfl)))),λe=>(hT _ l3 e).1 (.inr (.inr (.inl rfl))),λe=>(hT _ l4 e).1 (.inr (.inr (.inr (.inr rfl)))),λe=>(hT _ l5 e).2 rfl⟩,
  h.mem.touch t (λk hk e=>⟨λhx=>(hT k hk e).1 (.inl hx),(hT k hk e).2⟩) (λ_ h=>h),h.img,h.gok,h.cok,h.bt,h.bs,h.sl⟩
theorem HIn.cell(h:HIn w c g s){x:Value}(hj:(hpL c s.A s.o s.cyc s.blk)[j]?=some x):w.cell? ⟨s.A.hp,j,none⟩=some x:=h.com.row.cell hj
theorem HIn.cc(h : HIn w c g s)(j : Nat){x:Value}(hj : (hpL c s.A s.o s.cyc s.blk)[j]?=some x := by exact rfl) : w.cell? ⟨s.A.hp,j,none⟩=some x := h.cell hj
theorem G4(h:HIn w c g s):cQ 41 #[pP s.A.hp] w (.bool false):=by
 have c8:=h.cc 8;go_enter func41,ntmps41;go_wp2;go_ret
 simp_all
theorem Jvl(w:World):cQ 41 #[.pointer none] w (.bool true):=by
 go_enter func41,ntmps41;go_wp2;go_ret
 simp_all
def HSt.sp(s:HSt)(c:HCf):Sp:=spH s.A c s.base s.top s.o s.lf s.nb
theorem KV(h:HIn w c g s):Calls prog 58 #[pP s.A.hp] w λe w'=>e=.returned (s.sp c).v/\w=w':=by
 have c8:=h.cc 8;have c11:=h.cc 11;obtain⟨A,X,base,top,u,F,o,lf,nb,cyc,blk⟩:=s;cases o with
 | none=>
  go_enter func58,ntmps58;go_wp2;go_ret;exact⟨rfl,rfl⟩
 | some y=>
  go_enter func58,ntmps58;go_wp2;go_ret;exact⟨rfl,rfl⟩
structure HKp(s s':HSt):Prop where
 F:s'.F=s.F
 base:s'.base=s.base
 top:s'.top=s.top
theorem HKp.refl(s:HSt):HKp s s:=⟨rfl,rfl,rfl⟩
theorem HKp.trans{s1 s2 s3:HSt}(h:HKp s1 s2)(k:HKp s2 s3):HKp s1 s3:=⟨k.F.trans h.F,k.base.trans h.base,k.top.trans h.top⟩
structure XBF(w:World)(c:HCf)(g:Gph)(s s':HSt)(w':World):Prop where
 t:AB (λk=>k=s.A.hp) w w'
 i:HIn w' c g s'
 A:s'.A=s.A
 lf:s'.lf=s.lf
 o:s'.o=none↔s'.lf=0
 cyc:s'.cyc=if s.o≠none/\s.lf=0 then wrap64 (s.cyc+1)else s.cyc
 X:∀k,s'.X k->s.X k
 K:HKp s s'
theorem TT(h:HIn w c g s):Calls prog 43 #[pP s.A.hp] w λe w'=>e=.returned (.tuple #[])/\∃s',XBF w c g s s' w':=by
 have H:=h;have V:=h.cc 11;have cl:=h.com.row.lt;cases ho:s.o with
 | none=>
  rw[ho]at V;simp only[Option.map_none]at V;have Xa:s.lf=0:=by have:=h.mem;rw[ho]at this;exact this.2.2.2
  have HO:=ho;have Xe:=Xa;clear h ho Xa;go_enter func43,ntmps43;go_wp2;refine ζy (ζl rfl _ _ _) rfl ?_;exact⟨rfl,s,AB.refl _ _,H,rfl,rfl,⟨λ_=>Xe,λ_=>HO⟩,by rw[ϑ (λhh=>hh.1 HO)],λ_ h=>h,HKp.refl _⟩
 | some y=>
  rw[ho]at V;simp only[ψk]at V;have hm:=h.mem;rw[ho]at hm;obtain⟨z,sl,v,R,Sv,Z,e1,e2⟩:=hm;have N:=(JiW Z.cy);have Xf:=Z;by_cases h0:sl.lf=0
  ·have J:=h.com.row;unfold hpL at J;rw[ho]at J;simp only[ψk]at J;have Y:=J;have Xc:=(λ(W:World) (gg:Gr w W)=>QXi (Z.cy.gr gg));rw[κ h0]at N
   have Xi:sl.mv.length<=1048576:=by
    rw[Z.ok.st.len];have h1:=Z.ok.st.N_le;have h2:=Z.ok.st.n2;have h3:=Z.ok.st.bk.1
    have h4:nbl (sizes sl.L) sl.cf.bk<=sizes sl.L:=by
     refine ξS λh5=>?_;have h6:=(IM h3).1 h5;have:=ξY (sizes sl.L) (show 0<sl.cf.bk by omega);omega
    omega
   obtain⟨m,E⟩:∃m,m=sl.mv.length:=⟨_,rfl⟩;rw[<-E]at Xc Xi;have HM:=ι E;have H0:=ι h0;have HE:=ι (θ ho (θ e1 e2));obtain⟨x,hx⟩:∃x,x=s.cyc:=⟨_,rfl⟩;obtain⟨b,D⟩:∃b,b=s.blk:=⟨_,rfl⟩;obtain⟨ap,hp⟩:∃ap,ap=s.A.hp:=⟨_,rfl⟩;rw[<-hx,<-D]at Y;rw[<-hp]at Y V cl;have Xg:=ι (θ hx (θ D hp));rw[<-hp];clear h h0 Z J ho e1 e2 hx D E hp;go_enter func43,ntmps43;go_upto_region 1 with(go_at_call 80;refine AM (N) ?_);clear V;have z0:=Y.free 13;have z1:=Y.cc 13;obtain⟨Sx,G,HS⟩:=AA.start λW'=>Gr w W';have Xj:=AA.fact G λ_ h=>(Y.gr h).cell (j:=11) rfl;have Xh:=AA.fact G λ_ h=>(Y.gr h).cell (j:=13) rfl;have I:=HS.o _ ((Gr.refl w).drew);have B:Inhabited (AA Sx):=⟨⟨_,I⟩⟩;clear G;refine AW Sx 12 [([0,1,2,3,4,5,6,7],8),([9,10,11],12)] [] (by kernel_rfl) (by kernel_rfl) I ?_;refine AH ?_
   try simp only[AC,ζ,ξ]
   repeat(go_big_quiet_step (fail))
   refine ψ ?_;go_wp2_with((go_at_call 81;refine AM (Xc _ (Gr.refl w).drew) ?_));refine⟨.inr (AA.of (HS.o _ ((Gr.refl w).drew))),?_⟩;refine AH ?_
   try simp only[AC,ζ,ξ]
   repeat(go_big_quiet_step (fail))
   refine ψ ?_;go_wp2;refine⟨.inl trivial,?_⟩;refine BO ?_;refine ψ ?_;refine ζb ?_;clear Xj Xh I B;clear HS Sx;have z2:=Y.cc 11;have z3:=Y.cc 12;have zf:=Y.free;go_wp2;refine ζy (ζl rfl _ _ _) rfl ?_;obtain⟨rfl,rfl,rfl⟩:=Xg.o;have HO:=Xf;have hI:=H;have Xd:=HO.ok.st;have hr:=Y
   obtain⟨S1,S2⟩:=HO.a.shut HO.ok (λi hi=>by
    have hf:¬sl.ft<sl.mv.length:=sl.lf_zero.1 H0.o;have hb:=Xd.blk hi;unfold Sl.is
    exact sl.ft_on Ω)
   rw[HO.bs]at S1 S2;refine⟨rfl,{s with u:=v,X:=Sv,o:=none,lf:=0,nb:=0,cyc:=wrap64 (s.cyc+1),blk:=wrap64 (s.blk+m)},?_,?_,rfl,?_,⟨λ_=>rfl,λ_=>rfl⟩,?_,λk hk=>HO.x k (.inr hk),⟨rfl,rfl,rfl⟩⟩
   ·exact((((AB.refl (λk=>k=s.A.hp) w).setCell (a:=⟨s.A.hp,13,none⟩) (λ_=>rfl) _).drew).setCell (a:=⟨s.A.hp,11,none⟩) (λ_=>rfl) _).setCell (a:=⟨s.A.hp,12,none⟩) (λ_=>rfl) _
   ·have t:AB (λk=>k=s.A.hp) w (((w.setCell ⟨s.A.hp,13,none⟩ (.int .i64 (wrap64 (s.blk+m)))).drew.setCell ⟨s.A.hp,11,none⟩ (.pointer none)).setCell ⟨s.A.hp,12,none⟩ (.int .i64 (wrap64 (s.cyc+1)))):=
     ((((AB.refl (λk=>k=s.A.hp) w).setCell (a:=⟨s.A.hp,13,none⟩) (λ_=>rfl) _).drew).setCell (a:=⟨s.A.hp,11,none⟩) (λ_=>rfl) _).setCell (a:=⟨s.A.hp,12,none⟩) (λ_=>rfl) _
    have hc:=hI.com;have hx:=hc.x;refine⟨⟨(((hr.set 13 (iI (wrap64 (s.blk+m)))).gr (Gr.refl _).drew).set 11 (.pointer none)).set 12 (iI (wrap64 (s.cyc+1))),hc.rn.touch t (λe=>hc.n1.2.2.1 e.symm),hc.rt.touch t (λe=>hc.n1.1 e.symm) (λe=>hc.n1.2.1 e.symm),t.tab hc.tab.lt (λe=>hc.n1.2.2.2 e.symm) hc.tab,hc.n1,hc.n2,hc.n3,λe=>hx.1 (HO.x _ (.inr e)),λe=>hx.2.1 (HO.x _ (.inr e)),λe=>hx.2.2.1 (HO.x _ (.inr e)),λe=>hx.2.2.2.1 (HO.x _ (.inr e)),HO.t2⟩,⟨HO.vm.touch t (λk hk _ e=>hx.1 (by subst e;exact HO.x _ (.inr hk))),HO.hv,S1,rfl⟩,?_,hI.gok,hI.cok,hI.bt,hI.bs,hI.sl⟩;exact hI.img.mem λa a1 a2 _=>S2 a a1 a2
   ·rw[<-HE.o.2.1,H0.o]
   ·rw[μ ⟨by rw[HE.o.1];simp,by rw[<-HE.o.2.1];exact H0.o⟩]
  ·have HL:=ι h0;have HE:=ι (θ ho (θ e1 e2));rw[φ h0]at N;clear h h0 Z ho e1 e2;go_enter func43,ntmps43;go_wp2_with(go_at_call 80;refine AM (N) ?_);refine ζy (ζl rfl _ _ _) rfl ?_;have Xb:s.lf≠0:=by rw[<-HE.o.2.1];exact HL.o
   exact⟨rfl,s,AB.refl _ _,H,rfl,rfl,⟨(λe=>by rw[HE.o.1]at e;cases e),λe=>absurd e Xb⟩,by rw[ϑ (λhh=>Xb hh.2)],λ_ h=>h,HKp.refl _⟩
def HCf.ot(c:HCf)(base:Nat):Nat:=2*c.pg+c.wd-base
theorem HIn.ot(h:HIn w c g s):(c.ot s.base=c.pg+c.wd/\s.base=c.pg)\/(c.ot s.base=c.pg/\s.base=c.pg+c.wd):=by
 unfold HCf.ot;rcases h.bs with e|⟨e,-⟩
 ·omega
 omega
theorem VrP(h:HIn w c g s):Calls prog 133 #[pP s.A.hp] w λe w'=>e=.returned (iI (c.ot s.base))/\Gr w w':=by
 have J:=h.ot;have hpw:=h.cok.pw;have hwd:=h.cok.wd;have HC:=(λ(W:World) (gg:Gr w W)=>(h.com.gr gg).row);have HB:=(λ(W:World) (gg:Gr w W)=>OU (h.com.gr gg).rn);obtain⟨ap,hp⟩:∃ap,ap=s.A.hp:=⟨_,rfl⟩;rw[<-hp]at HC⊢;have hv:(2*(c.pg:Int)+c.wd-s.base)=(c.ot s.base:Nat):=Ω
 have HV:=ι hv;obtain⟨b,hb⟩:∃b,b=s.base:=⟨_,rfl⟩;rw[<-hb]at HB HV J⊢;clear h hp hv hb;go_enter func133,ntmps133;go_upto_region 1 with(fail);obtain⟨Sx,Y,HS⟩:=AA.start λW'=>Gr w W';have y1:=AA.fact Y λ_ h=>(HC _ h).cell (j:=1) rfl;have y3:=AA.fact Y λ_ h=>(HC _ h).cell (j:=3) rfl;have y10:=AA.fact Y λ_ h=>(HC _ h).cell (j:=10) rfl;have Z:=HS.o _ ((Gr.refl w).drew);have inst:Inhabited (AA Sx):=⟨⟨_,Z⟩⟩;clear Y;refine AW Sx 19 [([0,1,2,3,4,5,6,7,8,9,10,11,12,13,14,15],16)] [17,18] (by kernel_rfl) (by kernel_rfl) Z ?_;refine AH ?_
 try simp only[AC,ζ,ξ]
 repeat(go_big_quiet_step (fail))
 refine ψ ?_;go_wp2_with((go_at_call 97;refine AM (HB _ (Gr.refl w).drew) ?_));refine⟨.inr (AA.of (HS.o _ ((Gr.refl w).drew))),?_⟩;refine BO ?_
 try simp only[AC,ζ,ξ]
 repeat(go_big_quiet_step (fail))
 refine ψ ?_;refine ζb ?_;go_wp2;go_ret;exact⟨AL HV.o,(Gr.refl w).drew⟩
theorem QHg(W:World)(b:Nat)(x0 x1 x2 x3 x4 x5 x6:Value)(h:Rec W b 143 [x0,x1,x2,x3,x4,x5,x6]):(loadVar 143 ⟨b,0,none⟩).run prog W=.ok (.agg #[x0,x1,x2,x3,x4,x5,x6]) W:=by
 have a1:(isAgg 143).run prog W=.ok true W:=by kernel_rfl
 have a2:(sizeOf 143).run prog W=.ok 7 W:=by kernel_rfl
 have c0:=h.cc 0;have c1:=h.cc 1;have c2:=h.cc 2;have c3:=h.cc 3;have c4:=h.cc 4;have c5:=h.cc 5;have c6:=h.cc 6;simp[loadVar,Sem.run_bind,a1,a2,Result.andThen,loadCells,go_sem,c0,c1,c2,c3,c4,c5,c6]
theorem VZS(h:HIn w c g s):Calls prog 93 #[pP s.A.hp] w λe w'=>e=.returned (cfV (C7 c s.base s.top (c.ot s.base)))/\Gr w w':=by
 have D:=h.ot;have hpw:=h.cok.pw;have hwd:=h.cok.wd;have I:=(Gr.refl w).alloc (.cells #[.int .i64 0,.int .i64 0,.int .i64 0,.int .i64 0,.int .i64 0,.int .i64 0,.int .i64 0] 143);have HO:=(VrP (h.gr I));have HC:=(λ(W:World) (gg:Gr w W)=>(h.com.gr gg).row);have HB:=(λ(W:World) (gg:Gr w W)=>OU (h.com.gr gg).rn);have HT:=(λ(W:World) (gg:Gr w W)=>UH (h.com.gr gg).rn);have HR:=(Rec.new w 143 [iI 0,iI 0,iI 0,iI 0,iI 0,iI 0,iI 0]);unfold cfV C7;dsimp only;obtain⟨ap,hp⟩:∃ap,ap=s.A.hp:=⟨_,rfl⟩;rw[<-hp]at HC HO⊢;obtain⟨d,hd⟩:∃d,d=c.ot s.base:=⟨_,rfl⟩;rw[<-hd]at HO D⊢;have HL:=h.com.row.lt;rw[<-hp]at HL;clear h hp hd;go_enter func93,ntmps93;go_upto_region 2 with(go_at_call 133;refine(HO).mono ?_;rintro e w1 ⟨rfl,V⟩;have N:=(I.trans V);have r1:=HR.gr V;clear V);have Z:Gr w w1.drew:=N.drew;have z0:=r1.cc 0;have z1:=r1.cc 1;have z2:=r1.cc 2;have z3:=r1.cc 3;have z4:=r1.cc 4;have z5:=r1.cc 5;have z6:=r1.cc 6;have zf:=r1.free;obtain⟨Sx,Y,HS⟩:=AA.start λW'=>Gr w W';have y2:=AA.fact Y λ_ h=>(HC _ h).cell (j:=2) rfl;have y3:=AA.fact Y λ_ h=>(HC _ h).cell (j:=3) rfl;have y5:=AA.fact Y λ_ h=>(HC _ h).cell (j:=5) rfl;have y6:=AA.fact Y λ_ h=>(HC _ h).cell (j:=6) rfl;have G:=AA.fact Y λ_ h=>(HC _ h).cell (j:=10) rfl;have J:=HS.o _ (Z);have E:Inhabited (AA Sx):=⟨⟨_,J⟩⟩;clear Y;refine AW Sx 34 [([0,1,2,3,5,6,7,8,10,11,12,13,14,15,16,17,18,19,20,21,22,23,24,25,26,27,28,29,30,31,32],4),([],9),([33],34)] [] (by kernel_rfl) (by kernel_rfl) J ?_;refine AH ?_
 try simp only[AC,ζ,ξ]
 repeat(go_big_quiet_step (fail))
 refine ψ ?_;go_wp2_with((go_at_call 97;refine AM (HB _ Z) ?_));refine⟨.inr (AA.of (HS.o _ (Z))),?_⟩;refine AH ?_
 try simp only[AC,ζ,ξ]
 repeat(go_big_quiet_step (fail))
 refine ψ ?_;go_wp2_with((go_at_call 98;refine AM (HT _ Z) ?_));refine⟨.inr (AA.of (HS.o _ (Z))),?_⟩;refine AH ?_
 try simp only[AC,ζ,ξ]
 repeat(go_big_quiet_step (fail))
 refine ψ ?_;go_wp2;refine⟨.inl trivial,?_⟩;refine BO ?_;refine ψ ?_;refine ζb ?_;clear y2 y3 y5 y6 G J E;clear HS Sx;go_wp2;have R:=(((((((r1.set 0 (iI s.base)).set 1 (iI s.top)).set 2 (iI d)).set 3 (iI ((d:Int)+c.wd))).set 4 (iI c.bk)).set 5 (iI c.st)).set 6 (iI c.ah)).gr (Gr.refl _).drew;have hl:=QHg _ _ _ _ _ _ _ _ _ R;refine ζK (v:=.agg #[iI s.base,iI s.top,iI d,iI ((d:Int)+c.wd),iI c.bk,iI c.st,iI c.ah]) ?_ rfl ⟨rfl,?_⟩
 ·simp[results,results93,asAddr,hl]
 ·have t:AB (λk=>w.heap.size<=k) w w1:=N.touch _;exact(((((((t.setCell (a:=⟨w.heap.size,0,none⟩) (λ_=>ν _) _).setCell (a:=⟨w.heap.size,1,none⟩) (λ_=>ν _) _).setCell (a:=⟨w.heap.size,2,none⟩) (λ_=>ν _) _).setCell (a:=⟨w.heap.size,3,none⟩) (λ_=>ν _) _).setCell (a:=⟨w.heap.size,4,none⟩) (λ_=>ν _) _).setCell (a:=⟨w.heap.size,5,none⟩) (λ_=>ν _) _).setCell (a:=⟨w.heap.size,6,none⟩) (λ_=>ν _) _ |>.mono (λk hk h=>by omega)).gr.drew
end
section
variable{b0 t:Nat}{rs:List Int}
theorem XQQ(h:CB w X A c b0 t0 rs cy cyc blk)(hV:AD w Sv A.q v)(h1:b<=t)(h2:t<=b+c.wd)(h3:b+c.wd<=v.n)(hn:v.n≠0)(hX:∀k,X k->k<w.heap.size):Calls prog 95 #[pP A.hp,iI b,iI t] w λe w'=>e=.returned (.tuple #[])/\∃rn,w.heap.size<=rn/\AB (λk=>k=A.hp) w w'/\CB w' X {A with rn:=rn} c b t rs cy cyc blk:=by
 have hn2:=hV.ok.n2;have B:=(λ(W:World) (g:Gr w W)=>YN8 (base:=b) (lim:=b+c.wd) (hV.gr g) hn (ζL _ _) h3);rw[show (((b+c.wd:Nat)):Int)=(b:Int)+c.wd by omega]at B;have HC:=(λ(W:World) (g:Gr w W)=>(h.gr g).row);have HX:=hX;have HB:=(θ h1 h2);obtain⟨ap,J⟩:∃ap,ap=A.hp:=⟨_,rfl⟩;rw[<-J]at HC;have HA:=ι J;have Xh:=h.row.lt;rw[<-J]at Xh⊢;have hbw:b+c.wd<=524288:=Ω
 clear hV h1 h2 h3 hn hX J;go_enter func95,ntmps95;go_upto_region 0 with(fail);obtain⟨Sx,N,HS⟩:=AA.start λW'=>(∃r:Nat,Rec W' ap 83 (hpL c {A with rn:=r} cy cyc blk))
 have y3:∀p:AA Sx,p.w.cell? ⟨ap,3,none⟩=some (iI c.wd):=λp=>by have h:=AA.get N p;exact by obtain⟨r,h⟩:=h;exact h.cc 3
 have y8:∀p:AA Sx,p.w.cell? ⟨ap,8,none⟩=some (pP A.q):=λp=>by have h:=AA.get N p;exact by obtain⟨r,h⟩:=h;exact h.cc 8
 have E:=HS.o _ (⟨A.rn,HC _ (Gr.refl w).drew⟩);have inst:Inhabited (AA Sx):=⟨⟨_,E⟩⟩;clear N;refine AW Sx 20 [([0,1,2,3,4,5,6,7,8,9,10,11,12],13),([14,15,16,17,18],19)] [] (by kernel_rfl) (by kernel_rfl) E ?_;refine AH ?_
 try simp only[AC,ζ,ξ]
 repeat(go_big_quiet_step (fail))
 refine ψ ?_;go_wp2_with((go_at_call 40;refine(B _ (Gr.refl w).drew).mono ?_;rintro e w1 ⟨rn,rfl,V,Xf,I⟩;have Y:=((Gr.refl w).drew.trans V);have G:=(θ Xf I);have Xd:=(HC _ ((Gr.refl w).drew.trans V)).cell (j:=10) rfl;have zf:=(HC _ ((Gr.refl w).drew.trans V)).free 10));refine⟨.inr (AA.of (HS.o _ (⟨A.rn,HC _ Y⟩))),?_⟩;refine AH ?_
 try simp only[AC,ζ,ξ]
 repeat(go_big_quiet_step (fail))
 refine ψ ?_;go_wp2_with(fail);refine⟨.inr (AA.of (HS.o _ (⟨rn,(HC _ Y).set 10 (pP rn)⟩))),?_⟩;refine CV ?_;have I:=G.2;have hrl:=G.1;have hsz:w.drew.heap.size=w.heap.size:=rfl;have Xe:rn≠ap:=Ω
 have tp:AB (λk=>k=ap) w1 (w1.setCell ⟨ap,10,none⟩ (.pointer (some ⟨rn,0,none⟩))):=(AB.refl (λk=>k=ap) w1).setCell (a:=⟨ap,10,none⟩) (λ_=>rfl) _;have Xa:=(W8 (I.touch tp Xe) HB.1 HB.2);have D:=Rec.set (HC _ Y) 10 (pP rn);have Xc:=D;have Xd:=D.cc 10;go_wp2_with(go_at_call 99;refine(Xa).mono ?_;rintro e w3 ⟨rfl,Xb,Xg⟩;have Z:=Xb);refine ζy (ζl rfl _ _ _) rfl ?_;have hc:=h;obtain⟨l1,l2,l3,l4,l5⟩:=hc.lt;have eA:=HA.o;subst eA;have k:=hc.gr Y;refine⟨rfl,rn,by omega,((Y.touch (λk=>k=A.hp)).trans tp).trans' Z (λi hi e=>by omega),⟨?_,Xg,?_,?_,⟨hc.n1.1,hc.n1.2.1,by show A.hp≠rn;omega,hc.n1.2.2.2⟩,⟨hc.n2.1,by show A.r≠rn;omega,hc.n2.2.2⟩,⟨by show A.g≠rn;omega,hc.n3.2.1,by show rn≠_;omega⟩,⟨hc.x.1,hc.x.2.1,hc.x.2.2.1,λe=>by have:=HX _ e;show False;have:rn<w.heap.size:=this;omega,hc.x.2.2.2.2⟩⟩⟩
 ·exact(Xc.touch Z (by show A.hp≠rn;omega))
 ·exact(k.rt.touch tp (λe=>hc.n1.1 e.symm) (λe=>hc.n1.2.1 e.symm)).touch Z (by show A.r≠rn;omega) (by show A.g≠rn;omega)
 ·exact Z.tab (tp.tab k.tab.lt (λe=>hc.n1.2.2.2 e.symm) k.tab).lt (by show _≠rn;omega) (tp.tab k.tab.lt (λe=>hc.n1.2.2.2 e.symm) k.tab)
end
section
variable{g:Gph}{s:HSt}
theorem HSt.len(s:HSt)(g:Gph):(s.rs g).length=g.S.length:=List.length_map ..
theorem KR(s:HSt)(g:Gph)(i:Int):slE (s.rs g) i=if g.sl i then 0 else 17:=by
 unfold slE Gph.sl;rw[s.len]
 simp_all
theorem L1{g:Gph}{i:Int}(h:g.sl i=true):∃n:Nat,i=n/\n<g.S.length/\g.at i=g.S.getD n 0:=by
 unfold Gph.sl at h;rw[ζe,ζd,ζd]at h;exact⟨i.toNat,by omega,by omega,rfl⟩
theorem HSt.get(s:HSt)(g:Gph){n:Nat}(h:n<g.S.length):(s.rs g)[n]'(by rw[s.len];exact h)=(s.F (g.S.getD n 0):Int):=by
 unfold HSt.rs
 simp_all
def JV8(w:World)(g:Gph)(s:HSt)(l:List Int)(e:Ending)(w':World):Prop:=
 Gr w w'/\(((∀x∈l,g.sl x=true)/\∃v,e=.returned (.tuple #[v,iI 0])/\w'.ownsRow w.heap.size 3 1 v l.length (zs (l.map λx=>(s.F (g.at x):Int)))) ∨
  ((∃x∈l,g.sl x=false)/\e=.returned (.tuple #[.slice none 0 0,iI 17])))
theorem XEM(h:HIn w c g s){l:List Int}(hl:l.length<=2)(hc:∀j (hj:j<l.length),w.cell? ⟨b,j,none⟩=some (iI l[j]))(hb:b<w.heap.size):
  Calls prog 56 #[pP s.A.hp,.slice (some ⟨b,0,none⟩) l.length l.length] w (JV8 w g s l):=by
 have HN:=(G4 h);have D:=(λ(W:World) (gg:Gr w W)=>(h.com.gr gg).row)
 have HG:=(λ(W:World) (gg:Gr w W) (i:Int) (hi:g.sl i=true)=>(by
  obtain⟨n,rfl,h1,h2⟩:=L1 hi;have:=YA (h.com.gr gg).rt (i:=n) (by rw[s.len];exact h1);rw[s.get g h1,<-h2]at this
  exact this:Calls prog 66 #[pP s.A.r,iI i] W λe w'=>e=.returned (.tuple #[iI (s.F (g.at i)),iI 0])/\Gr W w'))
 have Xc:=(λ(W:World) (gg:Gr w W) (i:Int) (hi:g.sl i=false)=>Z3 (h.com.gr gg).rt (i:=i) (by rw[KR,hi];decide));have Xe:=(λ(W:World) (gg:Gr w W) (j:Nat) (hj:j<l.length)=>(gg.cell hb j).trans (hc j hj));obtain⟨ap,E⟩:∃ap,ap=s.A.hp:=⟨_,rfl⟩;rw[<-E]at HN D⊢;have Xb:=h.com.row.lt;rw[<-E]at Xb;obtain⟨m,hm⟩:∃m,m=l.length:=⟨_,rfl⟩;rw[<-hm]at hl⊢;obtain⟨ii,Xh,Xi,Xd,Xf⟩:=info_parts OP;clear h hc E;go_enter func56,ntmps56;go_wp2_with(go_at_call 41;refine AM (HN) ?_)
 go_loopw [6,15] (λs6 s15 wr=>∃(j:Nat) (v:Value),j<=m/\s6=v/\s15=iI j/\Hid (Gr w wr)/\Hid (∀x∈l.take j,g.sl x=true)/\Hid (wr.ownsRow w.heap.size 3 1 v j (zs ((l.take j).map λx=>(s.F (g.at x):Int))))) (λ_ s15 _=>m-(intOf s15).toNat)
 case atStart=>exact⟨0,.slice none 0 0,by omega,rfl,rfl,⟨Gr.refl w⟩,⟨λx hx=>by simp at hx⟩,⟨GX _ _ _ _⟩⟩
 case round=>
  obtain⟨j,v6,hj,rfl,rfl,Z,Xa,HO⟩:=hrel;by_cases Y:j=m
  ·subst Y;go_wp2;go_ret2;refine⟨Z.o,.inl ⟨λx hx=>Xa.o x (by rw[hm,ζ7];exact hx),_,rfl,?_⟩⟩;have:=HO.o;rw[hm,ζ7]at this;exact this
  ·have V:j<l.length:=by have:=hm;omega
   have hjm:(j:Int)<(m:Int):=Ω
   have c0:=Xe _ Z.o j V;have r9:=(D _ Z.o).cell (j:=9) rfl;have pl:=(D _ Z.o).lt;obtain⟨x,hx⟩:∃x,x=l[j]:=⟨_,rfl⟩;rw[<-hx]at c0;have HX:Hid (x∈l/\l.take (j+1)=l.take j++[x]):=⟨by rw[hx];exact π V,by rw[hx];exact ζW V⟩;have HJ:=(θ hj Y);cases hsl:g.sl x with
   | true=>
    clear hx V Y;go_upto_region 10 with(go_at_call 66;refine(HG _ Z.o x hsl).mono ?_;rintro e w2 ⟨rfl,J⟩;have I:=(Z.o.trans J);have G:=(CU HO.o J);clear J);go_wp2_with(at_builtin;refine wpList_append_own _ rfl _ _ 61 rfl w.heap.size 3 ii (iI 0) 1 8 underlying61 Xh Xi Xd Xf rfl (by decide) u6 j (zs ((l.take j).map λx=>(s.F (g.at x):Int))) rfl (CU G ((Gr.refl _).alloc _)) ⟨w2.heap.size,0,none⟩ 1 1 [iI (s.F (g.at x))] rfl rfl (cell_one_new _ _ _) (by simp[Value.oneCell']) (by unfold maxLen;omega) Ω (by have:=I.size;simp;omega) ?_;intro v' w5 B N _;have Xg:Hid (Gr w w5):=⟨(((I.touch (λi=>w.heap.size<=i)).trans (((Gr.refl w2).alloc _).touch _)).trans' (E4 N (λi=>w.heap.size<=i) (λi e _=>(BF G e).1)) (λ_ _ h=>h) |>.mono (λk hk h=>by omega)).gr⟩;clear N);go_round
    case rel=>
     refine⟨j+1,_,by have:=HJ;omega,rfl,by go_num,Xg,⟨λz hz=>?_⟩,⟨?_⟩⟩
     ·rw[HX.o.2]at hz;rcases ζg.1 hz with h1|h1
      ·exact Xa.o z h1
      ·rw[ζM.1 h1];exact hsl
     ·rw[HX.o.2,ζ2];have:=B;unfold zs at this⊢;rw[ζ2];exact this
    case measure=>have:=HJ;simp[intOf];omega
   | false=>
    clear hx V Y;go_wp2_with(go_at_call 66;refine(Xc _ Z.o x hsl).mono ?_;rintro e w2 ⟨rfl,J⟩;have I:=J;clear J);go_ret2;exact⟨Z.o.trans I,.inr ⟨⟨x,HX.o.1,hsl⟩,rfl⟩⟩
end
theorem XSy(n:Nat)(a:Addr)(w:World):(method (n+1) 81 (.pointer (some a)) "Store").run prog w=.ok (260,.pointer (some a)) w:=by kernel_rfl
theorem XgO(n:Nat)(a:Addr)(w:World):(nilAhead (n+1) 81 (.pointer (some a)) "Store").run prog w=.ok (some false) w:=by kernel_rfl
section
variable{base top:Nat}
theorem ShA.st(h:ShA base top v)(a:Int)(hx:x<18446744073709551616):ShA base top (v.st a x):=by
 have hs:=BK.st v a x;exact⟨h.ok.st a hx,by rw[hs.pg];exact h.al,by rw[hs.n];exact h.bt,λb hb=>by rw[hs.n]at hb;rw[FB,hs.pg];exact h.pg b hb⟩
theorem HVm.st(h:HVm c v)(a:Int)(x:Nat):HVm c (v.st a x):=by
 have hs:=BK.st v a x;exact⟨hs.n.trans h.n,hs.pg.trans h.pg,hs.rm.trans h.rm⟩
theorem U7(A:HAd)(c:HCf)(base top:Nat)(o:Option Nat)(lf nb:Nat):(spH A c base top o lf nb).Wr (fnH 169 260 o):=by
 refine⟨λn w=>?_,λn w=>?_,λargs w=>?_,λ{u S w} h a x ha hx=>?_⟩
 ·cases o with
  | none=>exact PK n _ w
  | some y=>exact XgO n _ w
 ·cases o with
  | none=>exact OR n _ w
  | some y=>exact XSy n _ w
 ·cases o with
  | none=>kernel_rfl
  | some y=>kernel_rfl
 ·obtain⟨⟨l,hl,hm⟩,h2⟩:=h;obtain⟨n,rfl,h3,h4⟩:=ha
  match o,hm with
  | none,⟨h5,h6,h7,h8⟩=>
   refine(J3 h5 (n:Int) hx).mono ?_;rintro e w' ⟨rfl,t,hv⟩;exact⟨rfl,t,⟨l,hl,hv.mono (λ_ h=>.inl h),h6.st _ _,h7.st _ hx,h8⟩,υ h2 t.size⟩
  | some y,⟨z,s,v,R,Sv,h,e1,e2⟩=>
   have hs:=h.ok.st;have hlm:=h.a.lm;have hln:=hs.cf.ln;have hn2:=hs.n2;refine(ZaI (TI c.fr top u) h.cy h.ok ⟨h.a,h.hv.rm⟩ h.tab h.t2 h.t1 h.vm h.d (n:Int) Ω hx).mono ?_;rintro e w' ⟨v',rfl,t,I,E,Y,hA⟩;have J:s.cf.to<=n:=by rw[h.bs];exact h3
   have V:∀i,i<sizes (s.tch n).L->n=(s.tch n).cf.to+i->(s.tch n).is i=true:=λi hi e=>by
    have e':n=s.cf.to+i:=e;have:=Sl.tch_is hs (i:=i) hi
    grind
   have d1:=(hA.1.ld Y (a:=n) J h4 V).1;have d3:=h.a.un n Ω;obtain⟨c',p1,p2⟩:=hA.1.put Y (a:=n) J h4 V hx;have N:=h.tab.lt;refine⟨by rw[d1,d3],t.mono (λk _ hk=>h.x k hk),⟨(s.tch n).lf,?_,z,{s.tch n with c:=c'},v'.st n x,R,plus Sv w,⟨I.same rfl rfl rfl rfl rfl,E,?_,p1,p2,λk hk=>?_,λk hk Z=>?_,t.tab N (λhk=>hk.elim h.t1 h.t2) h.tab,h.t1,λhk=>hk.elim h.t2 (λhk=>by omega),h.bs,h.lm,h.bk,h.ah,h.kd⟩,rfl,?_⟩,υ h2 t.size⟩
   ·have:=Sl.lf_mono (Sl.tch_mono s (n:Int));omega
   ·refine HVm.st ⟨?_,?_,hA.2⟩ _ _
    ·rw[Y.mid.n,<-h.hv.n,h.ok.mid.n];rfl
    ·rw[Y.mid.pg,<-h.hv.pg,h.ok.mid.pg];rfl
   ·rcases hk with hk|hk|hk
    ·exact .inl (h.x k (.inl hk))
    ·exact .inl (h.x k (.inr hk))
    ·exact .inr hk
   ·rcases Z with Z|Z
    ·exact h.d k hk Z
    ·have:=h.cy.od.lt k hk;omega
   ·rw[(Sl.tch_mono s (n:Int)).1];exact e2
end
section
variable{g g':Gph}{s:HSt}
theorem HIn.sp(h:HIn w c g s):(s.sp c).I s.u s.X w:=⟨⟨s.lf,ν _,h.mem⟩,h.com.tab.lt⟩
theorem HIn.hi(h:HIn w c g s):s.base+c.wd<=2147483647:=by
 have h1:=h.cok.wd;have h2:=h.cok.pw;rcases h.bs with e|⟨e,-⟩ <;> omega
theorem HIn.aft(h:HIn w c g s)(hW:(s.sp c).W u' s.X w w')(hi:Img u' g' s.F s.base s.top)(hg:g'.Ok)(hS:g'.S=g.S):∃l,l<=s.lf/\HIn w' c g' {s with X:=plus s.X w,u:=u',lf:=l}:=by
 obtain⟨t,⟨l,hl,hm⟩,-⟩:=hW;refine⟨l,hl,?_,hm,hi,hg,h.cok,h.bt,h.bs,by rw[hS];exact h.sl⟩;have:=h.com.mem t
 show CB w' (plus s.X w) s.A c s.base s.top (g'.S.map λx=>(s.F x:Int)) s.o s.cyc s.blk
 rw[hS];exact this
structure BA(w:World)(c:HCf)(s:HSt)(g':Gph)(s':HSt)(w':World):Prop where
 t:AB s.S w w'
 i:HIn w' c g' s'
 hp:s'.A.hp=s.A.hp
 S:∀k,s'.S k->plus s.S w k
 o:s'.o=none↔s'.lf=0
theorem Zis(h:HIn w c g s)(hW:(s.sp c).W u' s.X w w')(hi:Img u' g' s.F s.base s.top)(hg:g'.Ok)(hS:g'.S=g.S):
  Calls prog 43 #[pP s.A.hp] w' λe w2=>e=.returned (.tuple #[])/\∃s',BA w c s g' s' w2/\s'.A=s.A/\s'.lf<=s.lf/\s'.cyc=(if s.o≠none/\s'.lf=0 then wrap64 (s.cyc+1)else s.cyc)/\HKp s s'/\AB (λk=>k=s.A.hp) w' w2:=by
 obtain⟨l,hl,hI⟩:=h.aft hW hi hg hS;refine(TT hI).mono ?_;rintro e w2 ⟨rfl,s',h1⟩;refine⟨rfl,s',⟨?_,h1.i,by rw[h1.A],λk hk=>?_,h1.o⟩,h1.A,by rw[h1.lf];exact hl,by rw[h1.cyc,h1.lf],⟨h1.K.F,h1.K.base,h1.K.top⟩,h1.t⟩
 ·exact(hW.1.mono (λk _ hk=>.inl hk)).trans' h1.t (λk _ hk=>.inr (.inl hk))
 ·rcases hk with hk|hk|hk|hk|hk
  ·rcases h1.X k hk with h2|h2
   ·exact .inl (.inl h2)
   ·exact .inr h2
  ·rw[h1.A]at hk;exact .inl (.inr (.inl hk))
  ·rw[h1.A]at hk;exact .inl (.inr (.inr (.inl hk)))
  ·rw[h1.A]at hk;exact .inl (.inr (.inr (.inr (.inl hk))))
  ·rw[h1.A]at hk;exact .inl (.inr (.inr (.inr (.inr hk))))
end
end Go.Proofs.YtggjoonlcjjgkaaGreatDoor
