/- Part 8 of what ListNobody leans on: my own lemmas, merged by shake.py. -/
import Derived.Test.YteihjlcmjecmfaaGreatDoorListNobodyG
import Derived.Maps.OwnIn
namespace Go.Proofs.YteihjlcmjecmfaaGreatDoor
open _root_.Go.Proofs.Tryz
set_option maxHeartbeats 6400000
set_option maxRecDepth 100000
section
open Go.RowKit Word
def CpJ(w3:World)(S3:Nat->Prop)(K M q g:Nat)(v:Vm)(rs:List Int)(L:List Ob)(to:Nat)(i:Nat)(W:World)(out:List Int):Prop:=
 ∃O v' Si,(∀b,Si b->plus S3 w3 b)/\Ynt W Si K M q v to O v'/\CpS v rs L to O 0 0 v'/\O=X4e [] (rs.take i)/\out=(rs.take i).map (λa=>ZQE v O to a)/\XF4 (λb=>b=g\/(b=K\/b=M)\/S3 b) w3 W
structure CpL(w3 wr:World)(S3 Si:Nat->Prop)(K M q r g:Nat)(v:Vm)(rs out:List Int)(L:List Ob)(to k:Nat)(v':Vm):Prop where
 sub:∀b,Si b->plus S3 w3 b
 cat:Ynt wr Si K M q v to (QnE v rs k) v'
 st:CpS v rs L to (QnE v rs k) k 0 v'
 oe:out=rs.map (λa=>ZQE v (QnE v rs k) to a)
 t:XF4 (λb=>b=g\/(b=K\/b=M)\/S3 b) w3 wr
 rt:V5d wr r g out
def YZS(w:World)(S:Nat->Prop)(q r g:Nat)(v:Vm)(rs:List Int)(c:Cf)(e:Ending)(w':World):Prop:=
 ∃L,Zx6 v rs v.n L/\XF4 (λb=>b=g\/S b) w w' ∧
  ((Jsl v c.to ((c.to+sizes L:Nat):Int)≠0/\e=.returned (.tuple #[.int .i64 0,.int .i64 (Jsl v c.to ((c.to+sizes L:Nat):Int))])/\Y1U w' (plus S w) q v []/\V5d w' r g rs) ∨
   (Jsl v c.to ((c.to+sizes L:Nat):Int)=0/\e=.returned (.tuple #[.int .i64 ((c.to+sizes L:Nat):Int),.int .i64 0]) ∧
   ∃v1 v2 k kq,Qgx v rs c L v1 v2 k kq/\QXZ w' (plus S w) q (umN v2 (c.fr/v.pl.pg) kq)/\V5d w' r g (rs.map (λa=>ZQE v1 (QnE v1 rs k) c.to a))))
theorem Ynt.touch{S T:Nat->Prop}{w w':World}{K M q:Nat}{v v':Vm}{to:Nat}{O:List Int}(h:Ynt w S K M q v to O v')(t:XF4 T w w')(hK:¬T K)(hM:¬T M)(hS:∀b,S b->b<w.heap.size->¬T b):Ynt w' S K M q v to O v':=
 ⟨h.rc.touch t hK,h.mp.touch t hM,h.vm.touch t hS,h.nK,h.nM⟩
structure JFi(w3:World)(S3:Nat->Prop)(K M r g:Nat):Prop where
 r3:r<w3.heap.size
 g3:g<w3.heap.size
 rK:r≠K
 rM:r≠M
 gK:g≠K
 gM:g≠M
 rS:¬S3 r
 gS:¬S3 g
structure UmI(w3 wx:World)(S3:Nat->Prop)(K M q r g:Nat)(v:Vm)(out:List Int)(tt q0 j pg tp:Nat):Prop where
 t:XF4 (λb=>b=g\/(b=K\/b=M)\/S3 b) w3 wx
 vm:∃Sj,(∀b,Sj b->plus S3 w3 b)/\QXZ wx Sj q (umN v q0 j)/\¬Sj K
 rc:Rec wx K 206 [.pointer (some ⟨q,0,none⟩),.map (some M),.int .i64 tt]
 rt:V5d wx r g out
 q1:∀i,i<j->(q0+i)*pg<tp
theorem UmI.gr{w3 wx w':World}{S3:Nat->Prop}{K M q r g:Nat}{v:Vm}{out:List Int}{tt q0 j pg tp:Nat}(h:UmI w3 wx S3 K M q r g v out tt q0 j pg tp)(g':Gr wx w'):UmI w3 w' S3 K M q r g v out tt q0 j pg tp:=by
 obtain⟨h1,⟨Sj,h2,h3,h4⟩,h5,h6,h7⟩:=h;exact⟨h1.trans (g'.touch _),⟨Sj,h2,h3.gr g',h4⟩,h5.gr g',h6.gr g',h7⟩
section
variable {w3:World} {S3:Nat->Prop} {K M q r g to:Nat} {v1:Vm} {rs:List Int} {L:List Ob}
theorem Q0I(hcat:Ynt w3 S3 K M q v1 to [] v1)(cx:ZrG v1 rs L to)(fo:XKC v1 L)(hR:V5d w3 r g rs)(hrs:∀a∈rs,0<=a/\a<=2147483647)(sp:JFi w3 S3 K M r g):
  Calls prog 123 #[.pointer (some ⟨r,0,none⟩),.func (.func 124) #[.pointer (some ⟨K,0,none⟩)] #[]] w3 λe w'=>e=.returned (.tuple #[])/\∃out v' Si,CpL w3 w' S3 Si K M q r g v1 rs out L to 0 v':=by
 have h0:CpJ w3 S3 K M q g v1 rs L to 0 w3 []:=⟨[],v1,S3,λb h=>.inl h,hcat,⟨ξ1,(λ_ h=>by cases h),Cpd.nil cx.ok to,(λj hj=>absurd hj (ζV _)),.inr ⟨rfl,rfl⟩⟩,rfl,rfl,XF4.refl _ _⟩;refine(ZOv (F:=124) (pre:=#[.pointer (some ⟨K,0,none⟩)]) (caps:=#[]) (CpJ w3 S3 K M q g v1 rs L to) (λ_ _=>by kernel_rfl) hR h0 ?_ ?_).mono ?_
 ·rintro i hi W out ho ⟨O,v',Si,h1,h2,h3,h4,h5,h6⟩ hz;refine⟨O,v',Si,h1,h2,h3,?_,?_,h6⟩
  ·rw[V37 hi,QwE,<-h4,hz];exact(μ (.inl rfl)).symm
  ·rw[V37 hi,ζO,<-h5,hz]
   show out++[0]=out++[ZQE v1 O to 0]
   rw[YPv v1 _ (h3.zero cx)]
 ·rintro i hi W out ho ⟨O,v',Si,h1,h2,h3,h4,h5,h6⟩ U E W0 Z;obtain⟨q1,q2⟩:=hrs _ (χ hi);obtain⟨a,ha⟩:∃a:Nat,(a:Int)=rs[i]:=⟨rs[i].toNat,by omega⟩;have hr:Rch v1 rs a:=by rw[ha];exact Rch.root (χ hi) E
  have Y:=Zz2 (h2.gr Z) cx fo h3 (a:=a) (.inr hr) Ω;rw[ha]at Y;refine Y.mono ?_;rintro e W' ⟨I,rfl,ht,N,V⟩;have hzW:=h6.size;have hz0:=Z.size;have hz':=ht.size;have J:∀b,b<w3.heap.size->¬S3 b->¬Si b:=λb hb hn h=>(h1 b h).elim hn (λh=>by omega);have G:(a:Int)∈Yfl O a:=Q9S.2 (.inr ⟨rfl,by omega⟩);have D:0<=ZQE v1 (Yfl O (a:Int)) to a:=by have:=(VEW v1 (to:Int) G).1;omega
  rw[<-ha]at V N⊢;refine⟨_,rfl,(U.gr Z).touch ht (λh=>?_) (λh=>?_),λW'' t''=>⟨Yfl O a,I,plus Si W0,λb hb=>?_,N.touch t'' (Ne.symm sp.gK) (Ne.symm sp.gM) (λb hb _ e=>?_),V,?_,?_,?_⟩⟩
  ·rcases h with(h|h)|h
   ·exact sp.rK h
   ·exact sp.rM h
   ·exact J _ sp.r3 sp.rS h
  ·rcases h with(h|h)|h
   ·exact sp.gK h
   ·exact sp.gM h
   ·exact J _ sp.g3 sp.gS h
  ·rcases hb with h|h
   ·exact h1 b h
   ·right;omega
  ·subst e;rcases hb with h|h
   ·exact J _ sp.g3 sp.gS h
   ·have:=sp.g3;omega
  ·rw[V37 hi,QwE,<-h4,<-ha]
  ·obtain⟨X,hX⟩:=XTn O (a:Int);rw[V37 hi,ζO,<-ha,Int.max_eq_left D]
   show out++[_]=_++[_]
   congr 1;rw[h5]
   have hl:∀b∈rs.take i,b=0\/b∈O:=λb hb=>by
    by_cases h0:b=0
    ·exact .inl h0
    ·right;rw[h4];exact Z9b.2 (.inr ⟨hb,h0⟩)
   rw[hX];exact(XeB cx (by rw[<-hX];exact V.rch) hl).symm
  ·refine((h6.trans (Z.touch _)).trans' ht (λb hb h=>?_)).trans (t''.mono (λb _ h=>.inl h));rcases h with h|h
   ·exact .inr (.inl h)
   ·exact(h1 b h).elim (λh=>.inr (.inr h)) (λh=>by omega)
 ·rintro e w' ⟨rfl,out,-,⟨O,v',Si,h1,h2,h3,h4,h5,h6⟩,U⟩;rw[ζT]at h4 h5;have hO:O=QnE v1 rs 0:=h4;subst hO;exact⟨rfl,out,v',Si,h1,h2,h3,h5,h6,U⟩
end
section
variable {w:World} {S:Nat->Prop} {q r g:Nat} {v:Vm} {rs:List Int} {c:Cf}
theorem Qj5(hV:QXZ w S q v)(hR:V5d w r g rs)(hT:VRW w)(htS:¬S 1)(hrS:¬S r)(hgS:¬S g)(hc:JQF v rs c)(hm:∀a:Nat,c.fr<=a->a<c.tp->v.ldE a=0)(hrs:∀a∈rs,0<=a/\a<=2147483647):
  Calls prog 85 #[.pointer (some ⟨q,0,none⟩),.pointer (some ⟨r,0,none⟩),cfV c] w (YZS w S q r g v rs c):=by
 have HV:=hid hV.cut;have HR:=hid hR;have HT:=hid hT;have O:=hid (ν htS (ν hrS hgS));have HC:=hid hc;have HM:=hid hm;have Jd:=hid hrs;have Xt:=hc.cf;have Jm:=hV.ok.page;have Zw:=hV.ok;have hn2:=hV.ok.n2;have Jg:=hT.lt;have hrl:=hR.lt;have hto:=Xt.to;have hlm:=Xt.ln;have Jp:=Xt.fr;have Xa:=hid ((Gr.refl w).alloc (.cells #[.int .i64 c.fr,.int .i64 c.tp,.int .i64 c.to,.int .i64 c.lm,.int .i64 c.bk,.int .i64 c.st,.int .i64 c.ah] 156));have rb:=Rec.new w 156 [.int .i64 c.fr,.int .i64 c.tp,.int .i64 c.to,.int .i64 c.lm,.int .i64 c.bk,.int .i64 c.st,.int .i64 c.ah];obtain⟨W0,Xv⟩:∃W0,W0=w.alloc (.cells #[.int .i64 c.fr,.int .i64 c.tp,.int .i64 c.to,.int .i64 c.lm,.int .i64 c.bk,.int .i64 c.st,.int .i64 c.ah] 156):=⟨_,rfl⟩;have hsz0:W0.heap.size=w.heap.size+1:=by rw[Xv,η]
 rw[<-Xv]at Xa;rw[show w.alloc (.cells ([.int .i64 c.fr,.int .i64 c.tp,.int .i64 c.to,.int .i64 c.lm,.int .i64 c.bk,.int .i64 c.st,.int .i64 c.ah]:List Value).toArray 156)=W0 from Xv.symm]at rb;have Jh:=hid rb;have Zo:=hid (Qwc (HV.o.gr Xa.o) (HR.o.gr Xa.o) (Xa.o.tab Jg HT.o) (λh=>htS h.1) hc);have z0:=rb.cc 0;have z1:=rb.cc 1;have z2:=rb.cc 2;have z3:=rb.cc 3;have z4:=rb.cc 4;have z5:=rb.cc 5;have z6:=rb.cc 6;have zl:=rb.lt;have Yr:=hid Xt;have Zi:=hid Zw;unfold cfV at Zo⊢;clear hV hR hT htS hrS hgS hc hm hrs rb Xt Zw;go_enter func85,ntmps85;go_upto_region 1 with(fail);rw[<-Xv];clear Xv;go_upto_region 4 with(go_at_call 121;refine Zo.o.mono ?_;rintro e w1 ⟨L,hM,rfl,Yd,Xl⟩;have Yb:=hid hM;have Yc:=hid Yd;have Yu:=hid Xl;have Xo:=hid (Jh.o.touch Yd (λh=>by have:=h.2;omega));have Yz:=hid ((HR.o.gr Xa.o).touch Yd (λh=>O.o.2.1 h.1) (λh=>O.o.2.2 h.1));have y0:=Xo.o.cc 0;have y1:=Xo.o.cc 1;have y2:=Xo.o.cc 2;have yl:=Xo.o.lt;clear hM Yd Xl);obtain⟨Jl,Yn⟩:=HC.o.inn L Yb.o;obtain⟨nn,Yo⟩:∃nn,nn=sizes L:=⟨_,rfl⟩;have Xz:=hid Yo;rw[<-Yo]at Yn⊢;have Xu:(c.to:Int)+(nn:Int)=((c.to+nn:Nat):Int):=by push_cast;rfl
 have Yy:Hid (Calls prog 122 #[.pointer (some ⟨q,0,none⟩),.int .i64 c.to,.int .i64 ((c.to:Int)+(nn:Int))] w1 λe w'=>e=.returned (.int .i64 (Jsl v c.to ((c.to+nn:Nat):Int)))/\XF4 (ZOk S w) w1 w'/\Y1U w' (plus (ZOk S w) w1) q v (J5L v c.to ((c.to+nn:Nat):Int))):=⟨by
  rw[Xu];by_cases h0:nn=0
  ·subst h0;have hq:=VGS (v:=v) (f:=c.to) Ω;rw[ξj,hq.1,hq.2];refine(Q7x Yu.o c.to c.to Ω (π _)).mono ?_;rintro e w' ⟨rfl,hg⟩;exact⟨rfl,hg.touch _,v,Ji4.refl Zi.o,(Yu.o.gr hg).mono (λb hb=>.inl hb.1)⟩
  ·refine(VfQ Yu.o c.to (c.to+nn) Ω Ω).mono ?_;rintro e w' ⟨rfl,ht,v',hg,hv⟩
   exact⟨rfl,ht.mono (λb _ hb=>hb.1),v',hg,hv.mono (λb hb=>hb.imp (λh=>h.1) id)⟩⟩
 clear z0 z1 z2 z3 z4 z5 z6 zl Yo Xu;obtain⟨E,hE⟩:∃E,E=Jsl v c.to ((c.to+nn:Nat):Int):=⟨_,rfl⟩;have HE:=hid hE;rw[<-hE]at Yy;clear hE;by_cases Ye:E=0
 ·subst Ye;have Ji:=@run_makeMap prog;have hmf:∀(fn:Fn) (first cap:Array Value) (w:World),(Instr.makeFunc fn first cap).run prog w=.ok (.func fn first cap) w:=λ_ _ _ _=>rfl;go_upto_region 8 with(go_at_call 122;refine Yy.o.mono ?_;rintro e w2 ⟨rfl,Xd,Xn⟩;have Xs:=hid Xd;have Yq:=hid Xn;have Xc:=hid (Xo.o.touch Xd (λh=>by have:=h.2;omega));have Zq:=hid (Yz.o.touch Xd (λh=>O.o.2.1 h.1) (λh=>O.o.2.2 h.1));have x2:=Xc.o.cc 2;have xl:=Xc.o.lt;clear Xd Xn);obtain⟨v1,Yh,Xl⟩:=Yq.o;rw[Xz.o]at Yh;have hE:=HE.o;rw[Xz.o]at hE;obtain⟨cx,fo⟩:=Z25 Zi.o HC.o Yb.o hE.symm Yh HM.o;have hz1:=Yc.o.size;have hz2:=Xs.o.size;have Xb:∀b,ZOk (plus (ZOk S w) w1) w2 b->plus S w b/\b<w2.heap.size:=λb hb=>⟨hb.1.elim (λh=>.inl h.1) (λh=>.inr Ω),hb.2⟩
  have Xe:=VOf w2 (.map #[] 0) 206 [.pointer (some ⟨q,0,none⟩),.map (some w2.heap.size),.int .i64 c.to];have D:Gr w2 ((w2.alloc (.map #[] 0)).alloc (.cells #[.pointer (some ⟨q,0,none⟩),.map (some w2.heap.size),.int .i64 c.to] 206)):=((Gr.refl w2).alloc _).alloc _;have Xg:=(YER.made (P:=prog) (K:=3) w2).gr ((Gr.refl _).alloc (.cells #[.pointer (some ⟨q,0,none⟩),.map (some w2.heap.size),.int .i64 c.to] 206));obtain⟨M,hM⟩:∃M,M=w2.heap.size:=⟨_,rfl⟩;obtain⟨W3,Yg⟩:∃W3,W3=((w2.alloc (.map #[] 0)).alloc (.cells #[.pointer (some ⟨q,0,none⟩),.map (some w2.heap.size),.int .i64 c.to] 206)):=⟨_,rfl⟩;have hsz3:W3.heap.size=M+2:=by rw[Yg,η,η,hM]
  have hMw:w.heap.size<M:=by rw[hM];exact Xc.o.lt
  have hMw2:M<=w2.heap.size/\w2.heap.size<=M:=Ω
  rw[show (w2.alloc (.map #[] 0)).alloc (.cells ([.pointer (some ⟨q,0,none⟩),.map (some w2.heap.size),.int .i64 c.to]:List Value).toArray 206)=W3 from Yg.symm]at Xe;rw[<-Yg]at D Xg⊢;rw[<-hM]at Xe Xg Xb⊢;have hr1:=Yz.o.lt;have hr2:=Zq.o.lt;have Ym:Ynt W3 (ZOk (plus (ZOk S w) w1) w2) (M+1) M q v1 c.to [] v1:=⟨by simpa[Xmc]using Xe,Xg.congr (λy=>by simp[VZL]),Xl.cut.gr D,λh=>by have:=(Xb _ h).2;omega,λh=>by have:=(Xb _ h).2;omega⟩;have Zc:JFi W3 (ZOk (plus (ZOk S w) w1) w2) (M+1) M r g:=⟨by omega,by omega,by omega,by omega,by omega,by omega,λh=>(Xb _ h).1.elim O.o.2.1 (λh=>by omega),λh=>(Xb _ h).1.elim O.o.2.2 (λh=>by omega)⟩;have Jr:=hid (Q0I Ym cx fo (Zq.o.gr D) Jd.o Zc);have Xm:=hid (ν cx fo);have Yj:=hid D;have Yw:=hid Yh;have Zy:=hid Xb;have J:=hid Zc;have Je:=(Xc.o.gr D).cell (j:=2) rfl;have Jy:=(Xc.o.gr D).lt;clear Yh Xl cx fo Yg hM D Xg Xe Ym Zc Xb x2 xl y0 y1 y2 yl hE;go_upto_region 9 with(go_at_call 123;refine Jr.o.mono ?_;rintro e w4 ⟨rfl,Ys,v',Si,hL⟩;have HL:=hid hL;clear hL)
  have Yp:Hid (∀W' S',XF4 (λb=>b=g\/(b=M+1\/b=M)\/ZOk (plus (ZOk S w) w1) w2 b) W3 W'->Gr W' S'->Rec S' w.heap.size 156 [.int .i64 c.fr,.int .i64 c.tp,.int .i64 c.to,.int .i64 c.lm,.int .i64 c.bk,.int .i64 c.st,.int .i64 c.ah]):=⟨λW' S' t g'=>((Xc.o.gr Yj.o).touch t (λh=>by
   have h2:=Xc.o.lt;have h3:=Yj.o.size;rcases h with h|h|h
   ·omega
   ·omega
   ·rcases h.1 with h|h
    ·have:=h.2;omega
    ·omega)).gr g'⟩
  have V:=Yp.o _ _ HL.o.t (Gr.refl _);have u2:=V.cc 2;have ul:=V.lt;clear V Je Jy Ji;go_wp2
  go_loopw [12] (λs12 wr=>∃(k:Nat) (v':Vm) (Si:Nat->Prop),Hid (CpL W3 wr (ZOk (plus (ZOk S w) w1) w2) Si (M+1) M q r g v1 rs Ys L c.to k v')/\s12=.int .i64 ((c.to:Int)+Xmc v1 ((QnE v1 rs k).take k))) (λs12 _=>((c.to:Int)+sizes L+1-intOf s12).toNat)
  case atStart=>exact⟨0,v',Si,HL,by simp[Xmc]⟩
  case round=>
   obtain⟨k,Xi,Zg,Y,rfl⟩:=hrel;obtain⟨cx,fo⟩:=Xm.o;have N:=Y.o.st.lt;have c2:=Y.o.cat.rc.cc 2;have Xx:=cx.sum Y.o.st.nd Y.o.st.rch;have Zj:=YB0 v1 ((QnE v1 rs k).take k);have Zz:=ZWV v1 (QnE v1 rs k) k;have Xp:=cx.top;have Zd:v1.n=v.n:=Yw.o.n;clear u2 ul;by_cases hk:k<(QnE v1 rs k).length
   ·have Zl:=(QXB (cx.mks.sound.rd _ (Y.o.st.rch _ (χ hk)))).2.1;have Jt:=VZm v1 hk;have Zk:=ZWV v1 (QnE v1 rs k) (k+1);have Ja:=hid (ZQS Y.o.cat cx fo Y.o.st hk);have HK:=hid hk;have Jf:Hid (Xmc v1 ((QnE v1 rs k).take k)+1<=Xmc v1 ((QnE v1 rs k).take (k+1))):=⟨by omega⟩;obtain⟨aa,Zb⟩:∃aa:Nat,(aa:Int)=c.to+Xmc v1 ((QnE v1 rs k).take k):=⟨((c.to:Int)+Xmc v1 ((QnE v1 rs k).take k)).toNat,by omega⟩;obtain⟨tt,Xk⟩:∃tt:Nat,(tt:Int)=c.to+Xmc v1 (QnE v1 rs k):=⟨((c.to:Int)+Xmc v1 (QnE v1 rs k)).toNat,by omega⟩;have Jk:=hid Zb;rw[<-Zb]at Ja⊢;rw[<-Xk]at c2;have e0:decide ((aa:Int)<(tt:Int))=true:=κ Ω;have e1:decide (aa<tt)=true:=κ Ω;have HB:=hid (ν Zk Xx);clear hk Zl Jt Zk Zb Xk cx fo N Xx Zj Zz Xp Zd;go_wp2_with(go_at_call 125;refine Ja.o.mono ?_;rintro e w5 ⟨v3,rfl,Xq,Zf,Zs⟩;have Xj:=hid Xq;have Jj:=hid Zf;have Jn:=hid Zs;clear Xq Zf Zs);go_round
    case rel=>
     have Zh:=YnT HK.o;refine⟨k+1,v3,plus Zg wr,⟨⟨λb hb=>?_,by rw[Zh];exact Jj.o,by rw[Zh];exact Jn.o,?_,?_,?_⟩⟩,?_⟩
     ·have:=Y.o.t.size;rcases hb with h|h
      ·exact Y.o.sub b h
      ·right;omega
     ·rw[Y.o.oe];obtain⟨X,hX⟩:=VRh v1 rs k;have Zn:∀a∈QnE v1 rs k++X,Rch v1 rs a:=λa ha=>V16 Xm.o.1 (k+1) a (by rw[hX];exact ha);rw[hX]
      exact(XeB Xm.o.1 Zn (λa ha=>by
       by_cases h0:a=0
       ·exact .inl h0
       ·exact .inr (Zqu v1 rs k a ha h0))).symm
     ·refine Y.o.t.trans' Xj.o (λb hb h=>?_);rcases h with h|h
      ·exact .inr (.inl h)
      ·exact(Y.o.sub b h).elim (λh=>.inr (.inr h)) (λh=>by omega)
     ·refine Y.o.rt.touch Xj.o (λh=>?_) (λh=>?_)
      ·rcases h with(h|h)|h
       ·exact J.o.rK h
       ·exact J.o.rM h
       ·exact(Y.o.sub _ h).elim J.o.rS (λh=>by have:=J.o.r3;omega)
      ·rcases h with(h|h)|h
       ·exact J.o.gK h
       ·exact J.o.gM h
       ·exact(Y.o.sub _ h).elim J.o.gS (λh=>by have:=J.o.g3;omega)
     ·rw[VQN v1 rs k (by have:=HK.o;omega)]
    case measure=>
     have h1:=Jf.o;have h2:=HB.o;have h3:=Jk.o;simp only[intOf];omega
   ·have Yi:k=(QnE v1 rs k).length:=by
     rcases N with h|h
     ·exact absurd h hk
     ·exact h.1
    have Ze:=(cx.done Yi).2;rw[ψb (Nat.le_of_eq Yi.symm)];obtain⟨tt,Xk⟩:∃tt:Nat,(tt:Int)=c.to+Xmc v1 (QnE v1 rs k):=⟨((c.to:Int)+Xmc v1 (QnE v1 rs k)).toNat,by omega⟩;have Zx:tt=c.to+sizes L:=Ω
    rw[<-Xk]at c2⊢;have e0:decide ((tt:Int)<(tt:Int))=false:=ψ Ω;have Xw:Xi.pl.pg=v.pl.pg:=Y.o.st.cp.sm.pg.trans Yw.o.pg;have Yx:=hid (λ(W:World) (g':Gr wr W)=>VML (Y.o.cat.vm.gr g'));rw[Xw]at Yx;have Zp:=hid (ν Yi (ν Ze Zx));have Js:Hid (Rec wr (M+1) 206 [.pointer (some ⟨q,0,none⟩),.map (some M),.int .i64 tt]):=⟨by have:=Y.o.cat.rc;rw[<-Xk]at this;exact this⟩;obtain⟨pg,Xf⟩:∃pg,pg=v.pl.pg:=⟨_,rfl⟩;have Xy:=hid Xf;have Zr:=Yr.o.af;have htp:=Yr.o.tp;have htpn:=Yr.o.tn;rw[<-Xf]at Yx Jm Zr Jp;obtain⟨q0,Ya⟩:∃q0,q0=c.fr/pg:=⟨_,rfl⟩
    have Yk:q0*pg=c.fr:=by
     have:=ζx c.fr pg;rw[Zr,ζJ]at this;rw[Ya];omega
    have Yt:=hid Ya;have g1:((c.fr:Int).tdiv (pg:Int))=(q0:Int):=by rw[Ya];rfl
    have g2:((c.fr:Int)/(pg:Int))=(q0:Int):=by rw[Ya];rfl
    have hpg0:(pg:Int)≠0:=Ω
    have hq0n:q0<=524288:=by have:=ζ8 c.fr pg;omega
    have Jc:=hid Yk;have V:=Yp.o _ _ Y.o.t (Gr.refl _);have u0:=V.cc 0;have u1:=V.cc 1;have ul:=V.lt;have Jv:Hid (UmI W3 wr (ZOk (plus (ZOk S w) w1) w2) (M+1) M q r g Xi Ys tt q0 0 pg c.tp):=⟨Y.o.t,⟨Zg,Y.o.sub,Y.o.cat.vm,Y.o.cat.nK⟩,Js.o,Y.o.rt,λi hi=>absurd hi (ζV _)⟩;have HHK:=hid hk;have Jb:Hid (Xi.pl.pg=pg):=⟨by rw[Xw,Xf]⟩;clear V cx fo N Xx Zj Zz Xp Zd hk Yi Ze Xk Zx Xf Ya Xw Yk Jl Yn;go_upto_region 12 with(fail);obtain⟨Sx,U⟩:∃Sx:World->Prop,Sx=λW'=>W'.cell? ⟨w.heap.size,0,none⟩=some (.int .i64 c.fr):=⟨_,rfl⟩;have x1:∀p':ZJV Sx,p'.w.cell? ⟨w.heap.size,0,none⟩=some (.int .i64 c.fr):=λp=>ZJV.get U p;have Z:Sx wr.drew:=by rw[U];exact u0
    have Jx:=hid U;have I:Inhabited (ZJV Sx):=⟨⟨_,Z⟩⟩;clear U;refine Vv2 Sx 6 [([0,1,2],3)] [4,5] (by kernel_rfl) (by kernel_rfl) Z ?_;refine XGW ?_;simp only[XZy,ζ,ξ]
    repeat(go_big_quiet_step (fail))
    refine θ ?_;go_wp2_with(go_at_call 126;refine(Yx.o _ (Gr.refl wr).drew).mono ?_;rintro e w5 ⟨rfl,rfl⟩);refine⟨.inr (ZJV.of Z),?_⟩;refine Z9U ?_;simp only[XZy,ζ,ξ]
    repeat(go_big_quiet_step (fail))
    refine θ ?_;refine β ?_;clear x1 Z I;clear Jx Sx;go_wp2
    go_loopw [13] (λs13 wx=>∃j:Nat,Hid (UmI W3 wx (ZOk (plus (ZOk S w) w1) w2) (M+1) M q r g Xi Ys tt q0 j pg c.tp)/\s13=.int .i64 ((q0+j:Nat):Int)) (λs13 _=>c.tp-(intOf s13).toNat*pg)
    case atStart=>exact⟨0,⟨Jv.o.gr (Gr.refl wr).drew⟩,rfl⟩
    case round=>
     obtain⟨j,HU,rfl⟩:=hrel;clear u0 u1 ul c2;obtain⟨Sj,Zm,Za,Zv⟩:=HU.o.vm;have V:=Yp.o _ _ HU.o.t (Gr.refl _);have u1:=V.cc 1;have Yv:=VML (Za.gr (Gr.refl wr).drew);rw[(Jow Xi q0 j).2.1,Jb.o]at Yv;have Yl:=hid Yv;have Zt:=hid Za;have A:=hid (ν Zm Zv);obtain⟨qq,Xr⟩:∃qq,qq=q0+j:=⟨_,rfl⟩;obtain⟨pp,Xh⟩:∃pp,pp=qq*pg:=⟨_,rfl⟩
     have hppb:pp<=1048576:=by
      rcases ζE j with h0|h0
      ·rw[Xh,Xr,h0,ξj,Jc.o];omega
      ·have:=HU.o.q1 (j-1) Ω;have e:pp=(q0+(j-1))*pg+pg:=by rw[Xh,Xr,show q0+j=(q0+(j-1))+1 by omega,ξc,ξy]
       omega
     have hqb:qq<=pp:=by rw[Xh];exact ψa _ Ω
     have hmul:((qq:Int)*(pg:Int))=(pp:Int):=by rw[Xh];push_cast;rfl
     have G:=hid (ν Xr Xh);rw[<-Xr];clear V Yv Za Zm Zv Xr Xh;by_cases N:pp<c.tp
     ·have e1:decide ((pp:Int)<(c.tp:Int))=true:=κ Ω;have e2:decide (pp<c.tp)=true:=κ N;have Yf:=hid N;have Jw:=hid (λ(W:World) (g':Gr wr W)=>JYA (Zt.o.gr g') (qq:Int));clear N;go_upto_region 13 with(fail);obtain⟨Sx,U⟩:∃Sx:World->Prop,Sx=λW'=>W'.cell? ⟨w.heap.size,1,none⟩=some (.int .i64 c.tp):=⟨_,rfl⟩;have x1:∀p':ZJV Sx,p'.w.cell? ⟨w.heap.size,1,none⟩=some (.int .i64 c.tp):=λp=>ZJV.get U p;have Z:Sx wr.drew:=by rw[U];exact u1
      have I:Inhabited (ZJV Sx):=⟨⟨_,Z⟩⟩;clear U;refine Vv2 Sx 7 [([0,1,4,5],2)] [3,6] (by kernel_rfl) (by kernel_rfl) Z ?_;refine XGW ?_;simp only[XZy,ζ,ξ]
      repeat(go_big_quiet_step (fail))
      refine θ ?_;go_wp2_with(go_at_call 126;refine Yl.o.mono ?_;rintro e w5 ⟨rfl,rfl⟩);refine⟨.inr (ZJV.of Z),?_⟩;refine Z9U ?_;simp only[XZy,ζ,ξ]
      repeat(go_big_quiet_step (fail))
      refine θ ?_;refine β ?_;clear x1 Z I;clear Sx;go_wp2_with(go_at_call 127;refine(Jw.o _ (Gr.refl wr).drew).mono ?_;rintro e w5 ⟨rfl,Xq,Zu⟩;have Xj:=hid Xq;have Ju:=hid Zu;clear Xq Zu);go_round
      case rel=>
       have Jq:=HU.o.t.size;refine⟨j+1,⟨⟨?_,⟨plus Sj wr.drew,λb hb=>?_,?_,λh=>?_⟩,?_,?_,λi hi=>?_⟩⟩,?_⟩
       ·refine(HU.o.t.trans ((Gr.refl wr).drew.touch _)).trans' Xj.o (λb hb h=>?_);exact(A.o.1 b h).elim (λh=>.inr (.inr h)) (λh=>by omega)
       ·rcases hb with h|h
        ·exact A.o.1 b h
        ·right;exact ζb Jq h
       ·have:=Ju.o;rw[G.o.1]at this;exact this
       ·rcases h with h|h
        ·exact A.o.2 h
        ·have:=HU.o.rc.lt;exact absurd this (ξi h)
       ·exact(HU.o.rc.gr (Gr.refl wr).drew).touch Xj.o A.o.2
       ·refine(HU.o.rt.gr (Gr.refl wr).drew).touch Xj.o (λh=>?_) (λh=>?_)
        ·exact(A.o.1 _ h).elim J.o.rS (λh=>by have:=J.o.r3;omega)
        ·exact(A.o.1 _ h).elim J.o.gS (λh=>by have:=J.o.g3;omega)
       ·rcases γ i j with h|h
        ·exact HU.o.q1 i h
        ·obtain rfl:i=j:=Ω
         rw[<-G.o.1,<-G.o.2];exact Yf.o
       ·rw[show q0+(j+1)=qq+1 by rw[G.o.1];omega]
        go_num
      case measure=>
       have h1:=Yf.o;have h2:=G.o.2;simp only[intOf];rw[show ((qq:Int)+1).toNat=qq+1 by omega,τ,ξc,ξy,<-h2];omega
     ·have e1:decide ((pp:Int)<(c.tp:Int))=false:=ψ Ω;have e2:decide (pp<c.tp)=false:=ψ N;have Yf:=hid N;have c2:=HU.o.rc.cc 2;have c2l:=HU.o.rc.lt;clear N;go_upto_region 13 with(fail);obtain⟨Sx,U⟩:∃Sx:World->Prop,Sx=λW'=>W'.cell? ⟨w.heap.size,1,none⟩=some (.int .i64 c.tp):=⟨_,rfl⟩;have x1:∀p':ZJV Sx,p'.w.cell? ⟨w.heap.size,1,none⟩=some (.int .i64 c.tp):=λp=>ZJV.get U p;have Z:Sx wr.drew:=by rw[U];exact u1
      have I:Inhabited (ZJV Sx):=⟨⟨_,Z⟩⟩;clear U;refine Vv2 Sx 7 [([0,1,4,5],2)] [3,6] (by kernel_rfl) (by kernel_rfl) Z ?_;refine XGW ?_;simp only[XZy,ζ,ξ]
      repeat(go_big_quiet_step (fail))
      refine θ ?_;go_wp2_with(go_at_call 126;refine Yl.o.mono ?_;rintro e w5 ⟨rfl,rfl⟩);refine⟨.inr (ZJV.of Z),?_⟩;refine Z9U ?_;simp only[XZy,ζ,ξ]
      repeat(go_big_quiet_step (fail))
      refine θ ?_;refine β ?_;clear x1 Z I;clear Sx;go_wp2;go_ret2;have hz3:=Yj.o.size;have Jo:XF4 (λb=>b=g\/S b) w W3:=(((Xa.o.touch _).trans (Yc.o.mono (λi _ h=>.inr h.1))).trans (Xs.o.mono (λi _ h=>.inr h.1))).trans (Yj.o.touch _);have hE:=HE.o;rw[Xz.o]at hE;refine⟨L,Yb.o,?_,.inr ⟨hE.symm,?_,v1,Xi,k,j,⟨Yw.o,Xm.o.1,Xm.o.2,Zp.o.1,Y.o.st,?_,?_⟩,?_,?_⟩⟩
      ·refine(Jo.trans' HU.o.t (λb hb h=>?_)).trans ((Gr.refl wr).drew.touch _);rcases h with h|h|h
       ·exact .inl h
       ·omega
       ·exact(Zy.o b h).1.elim .inr (λh=>by omega)
      ·rw[<-Zp.o.2.2];exact Qh8 rfl rfl
      ·intro i hi;rw[<-Xy.o,<-Yt.o];exact HU.o.q1 i hi
      ·rw[<-Xy.o,<-Yt.o,<-G.o.1,<-G.o.2];have:=Yf.o;omega
      ·rw[<-Xy.o,<-Yt.o];refine(Zt.o.gr (Gr.refl wr).drew).mono (λb hb=>?_);exact(A.o.1 b hb).elim (λh=>(Zy.o b h).1) (λh=>.inr Ω)
      ·rw[<-Y.o.oe];exact HU.o.rt.gr (Gr.refl wr).drew
 ·have d0:(E !=0)=true:=by simpa using Ye
  go_wp2_with(go_at_call 122;refine Yy.o.mono ?_;rintro e w2 ⟨rfl,Xd,Xn⟩;have Xs:=hid Xd;have Yq:=hid Xn;clear Xd Xn);go_ret2;refine⟨L,Yb.o,?_,.inl ⟨?_,?_,?_,?_⟩⟩
  ·exact(((Xa.o.touch _).trans (Yc.o.mono (λi _ h=>.inr h.1))).trans (Xs.o.mono (λi _ h=>.inr h.1)))
  ·rw[<-Xz.o,<-HE.o];exact Ye
  ·rw[<-Xz.o,<-HE.o];exact Qh8 rfl rfl
  ·have hF:J5L v c.to ((c.to+nn:Nat):Int)=[]:=by unfold J5L;rw[ϑ (λh=>Ye (HE.o.trans h.1))]
   obtain⟨v',hg,hv⟩:=Yq.o;rw[hF]at hg;have:=Yc.o.size;exact⟨v',hg,hv.mono (λb hb=>hb.elim (λh=>.inl h.1) (λh=>.inr Ω))⟩
  ·exact Yz.o.touch Xs.o (λh=>O.o.2.1 h.1) (λh=>O.o.2.2 h.1)
end
end
section
open Go.RowKit Word
def Pln(w:World)(F p n B:Nat)(base:Nat)(L:List Ob):Prop:=
 p<w.heap.size/\F<=p/\Y1d B=true/\∃f,w.cell? ⟨p,0,none⟩=some (.pointer (some ⟨f,0,none⟩))/\w.cell? ⟨p,1,none⟩=some (.int .i64 B)/\Fwd w F f n B base L
theorem Pln.gr{w w':World}{F p n B base:Nat}{L:List Ob}(h:Pln w F p n B base L)(g:Gr w w'):Pln w' F p n B base L:=by
 obtain⟨h1,h2,h3,f,c0,c1,hF⟩:=h;exact⟨ω h1 g.size,h2,h3,f,(g.cell h1 0).trans c0,(g.cell h1 1).trans c1,hF.gr g⟩
def Vkw(w:World)(n:Nat)(L:List Ob)(k b:Int)(e:Ending)(w':World):Prop:=
 Gr w w'/\(((Y1d k&&ZZx b)=false/\e=.returned (.tuple #[.pointer none,.int .i64 5]))\/((Y1d k&&ZZx b)=true/\∃p B base:Nat,k=B/\b=base/\e=.returned (.tuple #[.pointer (some ⟨p,0,none⟩),.int .i64 0])/\Pln w' w.heap.size p n B base L))
theorem YGs{w:World}{m p1 b1 p2 b2 n:Nat}{L:List Ob}(hE:Ext w m p1 b1 p2 b2 n L)(hT:VRW w)(k b:Int)(hk:k<=9223372036854775807):
  Calls prog 155 #[.pointer (some ⟨m,0,none⟩),.int .i64 k,.int .i64 b] w (Vkw w n L k b):=by
 have HE:=hid hE;have HT:=hid hT;clear hE hT;cases hgo:(Y1d k&&ZZx b)with
 | false=>
  have HG:=hid hgo;clear hgo;go_enter func155,ntmps155;go_wp2_with(go_at_call 130;refine(XRP HE.o HT.o k b hk).mono ?_;rintro e w2 ⟨X,⟨-,rfl⟩|⟨hb,-⟩⟩;rotate_left;(rw[HG.o]at hb;cases hb);have Y:=hid X;clear X);go_ret2;exact⟨Y.o,.inl ⟨HG.o,rfl⟩⟩
 | true=>
  have HG:=hid hgo;have HK:=hid (ζ0.1 hgo).1;clear hgo;go_enter func155,ntmps155;go_wp2_with(go_at_call 130;refine(XRP HE.o HT.o k b hk).mono ?_;rintro e w2 ⟨X,⟨hb,-⟩|⟨-,f,B,base,hB,Z,rfl,hO⟩⟩;(rw[HG.o]at hb;cases hb);have Y:=hid X;have HO:=hid hO;have HB:=hid hB;have J:=hid Z;clear X hO hB Z);go_ret2;have hs:=Y.o.size;refine⟨Y.o.alloc _,.inr ⟨HG.o,_,B,base,HB.o,J.o,rfl,by simp,by omega,by rw[<-HB.o];exact HK.o,f,ζq ..,?_,HO.o.gr ((Gr.refl _).alloc _)⟩⟩;rw[<-HB.o];exact ζq ..
section
variable {w:World} {F p n B base:Nat} {L:List Ob}
theorem YY0{f:Nat}(c0:w.cell? ⟨p,0,none⟩=some (.pointer (some ⟨f,0,none⟩))):Calls prog 156 #[.pointer (some ⟨p,0,none⟩)] w λe w'=>e=.returned (.pointer (some ⟨f,0,none⟩))/\w=w':=by
 go_enter func156,ntmps156;go_wp2;go_ret;exact⟨rfl,rfl⟩
theorem Ynh(hP:Pln w F p n B base L):V4y prog 158 #[.pointer (some ⟨p,0,none⟩)] w (.int .i64 (nbl (sizes L) B:Nat)):=by
 obtain⟨h1,h2,h3,f,c0,c1,hF⟩:=hP;obtain⟨hg,hn⟩:=hF.good;have hs:=XY5 hg;have Y:=Quq h3;have HF:=hid hF;have HB:=hid h3;obtain⟨s,X⟩:∃s,s=sizes L:=⟨_,rfl⟩;have HS:=hid X.symm;rw[<-X]at hs⊢;obtain⟨u,hu⟩:∃u,u=(s+B-1)/B*B:=⟨_,rfl⟩;obtain⟨N,hN⟩:∃N,N=nbl s B:=⟨_,rfl⟩
 have hq:(u:Int)/(B:Int)=(N:Int):=by
  rw[hu,hN];unfold nbl;rw[Int.natCast_mul];exact Int.mul_ediv_cancel _ Ω
 have hul:(u:Int)<=1049600:=by
  have:=ζm (s+B-1) B;omega
 have HU:=hid hu.symm;have hNl:N<=s:=by rw[hN];exact J5D Ω
 rw[<-hN];have z0:∀xs m,(grow w xs m).cell? ⟨p,0,none⟩=some (.pointer (some ⟨f,0,none⟩)):=λxs m=>((grown w xs m).cell h1 0).trans c0;have z1:∀xs m,(grow w xs m).cell? ⟨p,1,none⟩=some (.int .i64 B):=λxs m=>((grown w xs m).cell h1 1).trans c1;have hb1:(1:Int)<=(B:Int):=Y.1;have hB0:((B:Int)==0)=false:=ζy.2 Ω;clear hF h3 hg X hu hN Y;unfold V4y;go_enter func158,ntmps158;go_wp2;refine XAX (by kernel_rfl) (by kernel_rfl) ?_
 repeat(go_big_quiet_step (first
  | (go_at_call 157;have hc:=λxs m=>Q14 (HF.o.gr (grown w xs m));simp only[HS.o]at hc;exact V4y.grown_same (hc _ _))
  | (go_at_call 196;have hc:=λxs m=>Xnz s B (ζb hs (ζb hn (by decide))) HB.o (grow w xs m);simp only[HU.o]at hc;exact V4y.grown_same (hc _ _))))
 refine θ ?_;intro _ J;obtain⟨⟨xs,nq⟩,Z⟩:=J;subst Z;go_wp2;go_ret;exact⟨rfl,grown w _ _⟩
def XV5(L:List Ob)(B:Nat)(k:Int):Bool:=decide (0<=k)&&decide (k<(nbl (sizes L) B:Nat))
def YmL(L:List Ob)(B:Nat)(base k:Int):Int:=if XV5 L B k then base+k*B else 0
def YBR(L:List Ob)(B:Nat)(base k:Int):Int:=if XV5 L B k then base+min (k*B+B) (sizes L:Nat)else 0
def Q5o(L:List Ob)(B:Nat)(k:Int):Int:=if XV5 L B k then 0 else 11
theorem Q5d{L:List Ob}{B:Nat}{base k:Int}(h:XV5 L B k=false):YmL L B base k=0/\YBR L B base k=0/\Q5o L B k=11:=by unfold YmL YBR Q5o;rw[h];exact⟨rfl,rfl,rfl⟩
theorem Jfd{L:List Ob}{B:Nat}{base k:Int}(h:XV5 L B k=true):YmL L B base k=base+k*B/\YBR L B base k=base+min (k*B+B) (sizes L:Nat)/\Q5o L B k=0:=by unfold YmL YBR Q5o;rw[h];exact⟨rfl,rfl,rfl⟩
theorem XyY{L:List Ob}{B:Nat}{k:Int}(h:k<0\/((nbl (sizes L) B:Nat):Int)<=k):XV5 L B k=false:=by
 unfold XV5;rcases h with h|h
 ·rw[ψ Ω];rfl
 ·rw[ψ (show ¬k<((nbl (sizes L) B:Nat):Int)by omega),ξ2]
theorem QC8{L:List Ob}{B j:Nat}(hB:1<=B)(h:XV5 L B j=true):j*B<sizes L:=by
 unfold XV5 at h;simp at h;exact(VjL hB).1 h
theorem Qy3(hP:Pln w F p n B base L)(k:Int):V4y prog 180 #[.pointer (some ⟨p,0,none⟩),.int .i64 k] w (.tuple #[.int .i64 (YmL L B base k),.int .i64 (YBR L B base k),.int .i64 (Q5o L B k)]):=by
 have HP:=hid hP;obtain⟨h1,h2,h3,f,c0,c1,hF⟩:=hP;obtain⟨hg,hn⟩:=hF.good;have hs:=XY5 hg;have Xb:=Quq h3;have HF:=hid hF;have hbs:=hF.2.2.1;clear hF h3 hg;obtain⟨N,hN⟩:∃N,N=nbl (sizes L) B:=⟨_,rfl⟩;have HN:=hid hN.symm;unfold V4y;by_cases I:k<0
 ·have E:=hid (Q5d (base:=base) (XyY (L:=L) (B:=B) (.inl I)));rw[E.o.1,E.o.2.1,E.o.2.2];have d0:decide (k<0)=true:=κ I;clear hN;go_enter func180,ntmps180;go_wp2
  go_ret3
  exact⟨rfl,Gr.refl _⟩
 ·obtain⟨j,rfl⟩:∃j:Nat,k=j:=⟨k.toNat,by omega⟩;have d0:decide ((j:Int)<0)=false:=ψ I;by_cases A:N<=j
  ·have E:=hid (Q5d (base:=base) (XyY (L:=L) (B:=B) (k:=j) (.inr Ω)));rw[E.o.1,E.o.2.1,E.o.2.2];have d1:decide (N<=j)=true:=κ A;clear hN;go_enter func180,ntmps180;go_wp2_with(go_at_call 158;refine(Ynh HP.o).mono ?_;rintro e w1 ⟨rfl,Z⟩;rw[HN.o])
   go_ret3
   exact⟨rfl,Z⟩
  ·have O:XV5 L B j=true:=by unfold XV5;rw[<-hN];simp;omega
   have Xa:=QC8 Ω O;have E:=hid (Jfd (base:=base) O);rw[E.o.1,E.o.2.1,E.o.2.2];obtain⟨t,ht⟩:∃t,t=j*B:=⟨_,rfl⟩;have X:(j:Int)*(B:Int)=(t:Int):=by rw[ht];push_cast;rfl
   rw[<-ht]at Xa;rw[X];obtain⟨s,D⟩:∃s,s=sizes L:=⟨_,rfl⟩;have HS:=hid D.symm;rw[<-D]at hs Xa⊢;have d1:decide (N<=j)=false:=ψ A;have w1:IntKind.i64.wrap ((j:Int)*(B:Int))=(t:Int):=by rw[X];exact ζA _ Ω
   have w2:IntKind.i64.wrap ((base:Int)+(t:Int))=(base:Int)+(t:Int):=ζA _ Ω;have w3:IntKind.i64.wrap ((base:Int)+(t:Int)+(B:Int))=(base:Int)+(t:Int)+(B:Int):=ζA _ Ω
   have hmin:∀w',(Builtin.min_ #[3,3] 3 #[.int .i64 ((base:Int)+(t:Int)+(B:Int)),.int .i64 ((base:Int)+(s:Int))]).run prog w'=.ok (.int .i64 ((base:Int)+min ((t:Int)+(B:Int)) (s:Int))) w':=λw'=>by
    rw[Xjn];rw[show min ((base:Int)+(t:Int)+(B:Int)) ((base:Int)+(s:Int))=(base:Int)+min ((t:Int)+(B:Int)) (s:Int)by omega]
   clear hN D ht O Xb X;go_enter func180,ntmps180;go_wp2_with(go_at_call 158;refine(Ynh HP.o).mono ?_;rintro e w1 ⟨rfl,Z⟩;rw[HN.o]);have U:=hid Z;clear Z
   rename World=>wz
   have z0:∀xs m,(grow wz xs m).cell? ⟨p,0,none⟩=some (.pointer (some ⟨f,0,none⟩)):=λxs m=>((U.o.trans (grown wz xs m)).cell h1 0).trans c0;have z1:∀xs m,(grow wz xs m).cell? ⟨p,1,none⟩=some (.int .i64 B):=λxs m=>((U.o.trans (grown wz xs m)).cell h1 1).trans c1;refine XAX (by kernel_rfl) (by kernel_rfl) ?_
   repeat(go_big_quiet_step ((go_at_call 214;have hc:=λxs m=>JwE (HF.o.gr (U.o.trans (grown wz xs m)));exact V4y.grown_same (hc _ _))))
   refine θ ?_;intro _ G;obtain⟨⟨xs,nq⟩,Y⟩:=G;subst Y;obtain⟨wy,V⟩:∃wy,wy=grow wz xs nq:=⟨_,rfl⟩;have J:=hid (show Gr w wy from by rw[V];exact U.o.trans (grown _ _ _));have y0:∀xs m,(grow wy xs m).cell? ⟨p,0,none⟩=some (.pointer (some ⟨f,0,none⟩)):=λxs m=>((J.o.trans (grown wy xs m)).cell h1 0).trans c0;have y1:∀xs m,(grow wy xs m).cell? ⟨p,1,none⟩=some (.int .i64 B):=λxs m=>((J.o.trans (grown wy xs m)).cell h1 1).trans c1;rw[<-V];clear V z0 z1;go_wp2;refine XAX (by kernel_rfl) (by kernel_rfl) ?_
   repeat(go_big_quiet_step ((go_at_call 131;have hc:=λxs m=>ZMu (HF.o.gr (J.o.trans (grown wy xs m)));simp only[HS.o]at hc;exact V4y.grown (hc _ _))))
   refine θ ?_;intro _ G;obtain⟨⟨ys,mq⟩,Y⟩:=G;subst Y;go_wp2
   go_ret3
   exact⟨rfl,J.o.trans (grown wy _ _)⟩
end
end
structure Pc where
 f:Int
 t:Int
 s:Nat
 deriving DecidableEq,Inhabited
def Jiq:List Pc->Int->Int->List Pc
 | [],x,y=>[⟨x,y,1⟩]
 | [p],x,y=>if p.f+p.s=x then [⟨p.f,p.t,p.s+1⟩]else [p,⟨x,y,1⟩]
 | p :: q :: r,x,y=>p :: Jiq (q :: r) x y
theorem YQf{P:List Pc}{x y:Int}(h:∀p,P.getLast?=some p->p.f+p.s≠x):Jiq P x y=P++[⟨x,y,1⟩]:=by
 induction P with
 | nil=>rfl
 | cons p r ih=>
  cases r with
  | nil=>unfold Jiq;rw[ϑ (h p rfl)];rfl
  | cons q r=>unfold Jiq;rw[ih (λp hp=>h p (by rw[<-hp];rfl))];rfl
theorem V1n{P:List Pc}{p:Pc}{x y:Int}(h:p.f+p.s=x):Jiq (P++[p]) x y=P++[⟨p.f,p.t,p.s+1⟩]:=by
 induction P with
 | nil=>simp[Jiq,h]
 | cons q r ih=>
  cases r with
  | nil=>simp only[ζL,ξb,Jiq]at ih⊢;rw[μ h]
  | cons s r=>simp only[ζL,Jiq]at ih⊢;rw[ih]
def pcs(g:Int->Int)(at_:Int):Nat->List Pc
 | 0=>[]
 | k+1=>Jiq (pcs g at_ k) (g (at_+k)) (at_+k)
structure VWD(g:Int->Int)(a:Int)(k:Nat)(P:List Pc):Prop where
 pos:∀p∈P,1<=p.s
 word:∀p∈P,∀i:Nat,i<p.s->g (p.t+i)=p.f+i
 first:∀h:0<P.length,P[0].t=a
 next:∀i (h:i+1<P.length),P[i+1].t=P[i].t+P[i].s/\P[i].f+P[i].s≠P[i+1].f
 last:∀p,P.getLast?=some p->p.t+p.s=a+k
 none:P=[]->k=0
theorem Z8N{α:Type}{P:List α}(h:P≠[]):∃Q p,P=Q++[p]:=⟨P.dropLast,P.getLast h,(ξW h).symm⟩
theorem QBb(g:Int->Int)(a:Int)(k:Nat):VWD g a k (pcs g a k):=by
 induction k with
 | zero=>exact⟨λp h=>(by cases h),λp h=>(by cases h),λh=>absurd h (by simp[pcs]),λi h=>absurd h (by simp[pcs]),λp h=>(by simp[pcs]at h),λ_=>rfl⟩
 | succ k ih=>
  unfold pcs;generalize pcs g a k=P at ih;by_cases hP:P=[]
  ·subst hP;obtain rfl:=ih.none rfl;refine⟨λp h=>?_,λp h i hi=>?_,λh=>by simp[Jiq],λi h=>absurd h (by simp[Jiq]),λp h=>?_,λh=>by simp[Jiq]at h⟩
   ·simp[Jiq]at h;subst h;exact π 1
   ·simp[Jiq]at h;subst h;have hi:i<1:=hi;obtain rfl:i=0:=Ω
    simp
   ·simp[Jiq]at h;subst h;simp
  ·obtain⟨Q,p,rfl⟩:=Z8N hP;have hl:=ih.last p (by simp);have hps:=ih.pos p (by simp);by_cases hx:p.f+p.s=g (a+k)
   ·rw[V1n hx];refine⟨λq h=>?_,λq h i hi=>?_,λh=>?_,λi h=>?_,λq h=>?_,λh=>by simp at h⟩
    ·rcases ζj.1 h with h|h
     ·exact ih.pos q (ξh _ h)
     ·rw[ζs.1 h];exact Nat.le_add_left ..
    ·rcases ζj.1 h with h|h
     ·exact ih.word q (ξh _ h) i hi
     ·rw[ζs.1 h]at hi⊢;have hi:i<p.s+1:=hi
      show g (p.t+i)=p.f+i
      rcases γ i p.s with h1|h1
      ·exact ih.word p (by simp) i h1
      ·obtain rfl:i=p.s:=Ω
       rw[hl,hx]
    ·have:=ih.first (by simp)
     cases Q with
     | nil=>simpa using this
     | cons q r=>simpa using this
    ·have X:i+1<(Q++[p]).length:=by simpa using h
     have:=ih.next i X
     have h':i+1<Q.length+1:=by simpa using h
     rcases γ (i+1) Q.length with h1|h1
     ·rw[ζI h1,ζI Ω]at this⊢;exact this
     ·obtain h2:i+1=Q.length:=Ω
      rw[ψs Ω,ζI Ω]at this⊢;simpa[h2]using this
    ·simp at h;subst h;show p.t+((p.s+1:Nat):Int)=_;push_cast;omega
   ·rw[YQf (λq h=>by simp at h;subst h;exact hx)];refine⟨λq h=>?_,λq h i hi=>?_,λh=>?_,λi h=>?_,λq h=>?_,λh=>by simp at h⟩
    ·rcases ζj.1 h with h|h
     ·exact ih.pos q h
     ·rw[ζs.1 h];exact π 1
    ·rcases ζj.1 h with h|h
     ·exact ih.word q h i hi
     ·rw[ζs.1 h]at hi⊢;have hi:i<1:=hi;obtain rfl:i=0:=Ω
      simp
    ·have:=ih.first (by simp)
     rw[ζI (by simp)];exact this
    ·have h':i+1<(Q++[p]).length+1:=by simpa using h
     rcases γ (i+1) (Q++[p]).length with h1|h1
     ·have:=ih.next i h1
      have h4:i<(Q++[p]).length:=Nat.lt_of_succ_lt h1;rw[ζI h1,ζI h4];exact this
     ·have h2:i+1=(Q++[p]).length:=Ω
      have h3:i=Q.length:=by simp at h2;omega
      rw[ψs Ω,ζI Ω];subst h3;simp only[h2,Nat.sub_self,List.getElem_singleton,ψs (π _)];exact⟨hl.symm,hx⟩
    ·simp at h;subst h;push_cast;omega
theorem QTh(g:Int->Int)(a:Int)(k:Nat):(pcs g a k).length<=k:=by
 induction k with
 | zero=>exact π _
 | succ k ih=>
  unfold pcs;generalize pcs g a k=P at ih;by_cases hP:P=[]
  ·subst hP;simp[Jiq]
  ·obtain⟨Q,p,rfl⟩:=Z8N hP;by_cases hx:p.f+p.s=g (a+k)
   ·rw[V1n hx];simp at ih⊢;omega
   ·rw[YQf (λq h=>by simp at h;subst h;exact hx)];simp at ih⊢;omega
theorem Qox{g:Int->Int}{a:Int}{k:Nat}{P:List Pc}(hP:pcs g a k=P)(hn:∀p,P.getLast?=some p->p.f+p.s≠g (a+k)){n:Nat}(h1:1<=n)(hw:∀i,i<n->g (a+k+i)=g (a+k)+i):
  pcs g a (k+n)=P++[⟨g (a+k),a+k,n⟩]:=by
 induction n with
 | zero=>omega
 | succ n ih=>
  by_cases h0:n=0
  ·subst h0
   show Jiq (pcs g a k) (g (a+k)) (a+k)=_
   rw[hP,YQf hn]
  ·have:=ih Ω (λi hi=>hw i Ω)
   show Jiq (pcs g a (k+n)) (g (a+(k+n:Nat))) (a+(k+n:Nat))=_
   have e:a+((k+n:Nat):Int)=a+k+n:=by push_cast;omega
   rw[this,e,hw n Ω,V1n (p:=⟨g (a+k),a+k,n⟩) rfl]
theorem VWD.ends{g:Int->Int}{a:Int}{k:Nat}{P:List Pc}(h:VWD g a k P):∀(d i:Nat) (hi:i<P.length),P.length-i=d->P[i].t+P[i].s<=a+k/\a<=P[i].t:=by
 have lo:∀i (hi:i<P.length),a<=P[i].t:=by
  intro i
  induction i with
  | zero=>intro hi;rw[h.first hi];exact ξU _
  | succ i ih=>
   intro hi;have:=(h.next i hi).1;have:=ih Ω;omega
 intro d
 induction d with
 | zero=>intro i hi hd;omega
 | succ d ih=>
  intro i hi hd;refine⟨?_,lo i hi⟩;by_cases hl:i+1<P.length
  ·have h1:=(h.next i hl).1;have h2:=(ih (i+1) hl Ω).1;omega
  ·have hne:P≠[]:=λe=>by subst e;simp at hi
   have:=h.last (P[i]) (by rw[List.getLast?_eq_getElem?];rw[show P.length-1=i by omega,δ hi]);omega
def YU8(P:List Pc)(z:Int)(i:Nat):Int:=if h:i<P.length then P[i].t else z
theorem ZXR{P:List Pc}{z:Int}{i:Nat}(h:i<P.length):YU8 P z i=P[i].t:=by unfold YU8;rw[dif_pos h]
theorem VID(P:List Pc)(z:Int):YU8 P z P.length=z:=by unfold YU8;rw[dif_neg (ζN _)]
theorem XLy{g:Int->Int}{a:Int}{k:Nat}{P:List Pc}(h:VWD g a k P)(hk:1<=k):YU8 P (a+k) 0=a:=by
 by_cases hP:P=[]
 ·have:=h.none hP;omega
 ·have hl:0<P.length:=List.length_pos_iff.2 hP;rw[ZXR hl,h.first hl]
theorem Xv7{g:Int->Int}{a:Int}{k:Nat}{P:List Pc}(h:VWD g a k P){i:Nat}(hi:i<P.length):YU8 P (a+k) (i+1)=P[i].t+P[i].s:=by
 by_cases hl:i+1<P.length
 ·rw[ZXR hl,(h.next i hl).1]
 ·have hx:=h.last (P[i]) (by rw[List.getLast?_eq_getElem?];rw[show P.length-1=i by omega,δ hi]);unfold YU8;rw[dif_neg hl,hx]
section
open Go.RowKit Word
theorem ZSj{n:Nat}{L:List Ob}(h:Q4l n L)(hn:n<=1048576)(base:Nat)(b:Int):0<=Xbb L base b/\Xbb L base b<=1048576:=by
 cases hin:inF L base b with
 | false=>rw[(Vtd hin).1];omega
 | true=>
  obtain⟨j,hj,_,e2,e3,_,_⟩:=Zeb h hin;have:=h.sz _ (χ hj);omega
section
variable {w:World} {F p n B base:Nat} {L:List Ob}
def ZZZ(L:List Ob)(base B:Nat)(b:Int):Int:=if inF L base b then (b-base)/B else 0
theorem ZAe(hP:Pln w F p n B base L)(hT:VRW w)(b:Int)(hb:b<=9223372036854775807):V4y prog 264 #[.pointer (some ⟨p,0,none⟩),.int .i64 b] w (.tuple #[.int .i64 (ZZZ L base B b),.int .i64 (Zdp L base b)]):=by
 obtain⟨h1,h2,h3,f,c0,c1,hF⟩:=hP;have U:=Quq h3;have hbs:=hF.2.2.1;have HF:=hid hF;have HT:=hid hT;obtain⟨hg,hn⟩:=hF.good;have hs:=XY5 hg;clear hF h3 hT hg;unfold V4y;cases hin:inF L base b with
 | false=>
  have E:=hid (Vtd hin);have E2:Hid (ZZZ L base B b=0):=⟨by unfold ZZZ;rw[hin];rfl⟩;rw[E.o.2.2,E2.o];clear hin;go_enter func264,ntmps264;go_wp2_with(go_at_call 232;refine(ZNk HF.o HT.o b hb).mono ?_;rintro e w1 ⟨rfl,X⟩;rw[E.o.1,E.o.2.2]);go_ret2;exact⟨rfl,X⟩
 | true=>
  obtain⟨i1,i2⟩:=Qy1.1 hin;have E2:Hid (ZZZ L base B b=(b-base)/B):=⟨by unfold ZZZ;rw[hin];rfl⟩;have E:Hid (Zdp L base b=0):=⟨by unfold Zdp;rw[hin];rfl⟩;rw[E.o,E2.o];have w1:IntKind.i64.wrap (b-(base:Int))=b-(base:Int):=ζA _ Ω;have hb1:(1:Int)<=(B:Int):=U.1;have Z:(0:Int)<=b-(base:Int):=Ω
  have hB0:((B:Int)==0)=false:=ζy.2 Ω;have hdiv:(b-(base:Int)).tdiv (B:Int)=(b-(base:Int))/(B:Int):=Int.tdiv_eq_ediv_of_nonneg Z;have hdl:(b-(base:Int))/(B:Int)<=b-(base:Int):=Int.ediv_le_self _ Z;have hd0:0<=(b-(base:Int))/(B:Int):=Int.ediv_nonneg Z Ω;have w2:IntKind.i64.wrap ((b-(base:Int))/(B:Int))=(b-(base:Int))/(B:Int):=ζA _ Ω;clear hin;go_enter func264,ntmps264;go_wp2_with(go_at_call 232;refine(ZNk HF.o HT.o b hb).mono ?_;rintro e w1 ⟨rfl,X⟩;rw[E.o]);have Y:=hid X;clear X
  rename World=>wz
  have z0:∀xs m,(grow wz xs m).cell? ⟨p,0,none⟩=some (.pointer (some ⟨f,0,none⟩)):=λxs m=>((Y.o.trans (grown wz xs m)).cell h1 0).trans c0;have z1:∀xs m,(grow wz xs m).cell? ⟨p,1,none⟩=some (.int .i64 B):=λxs m=>((Y.o.trans (grown wz xs m)).cell h1 1).trans c1;refine XAX (by kernel_rfl) (by kernel_rfl) ?_
  repeat(go_big_quiet_step ((go_at_call 214;have hc:=λxs m=>JwE (HF.o.gr (Y.o.trans (grown wz xs m)));exact V4y.grown_same (hc _ _))))
  refine θ ?_;intro _ V;obtain⟨⟨xs,nq⟩,J⟩:=V;subst J;go_wp2;go_ret2;exact⟨rfl,Y.o.trans (grown wz _ _)⟩
def VWm(w:World)(L:List Ob)(base at_ to:Nat)(e:Ending)(w':World):Prop:=
 ∃r:Nat,e=.returned (.tuple #[.int .i64 (Xbb L base at_),.int .i64 r])/\Gr w w'/\1<=r/\at_+r<=to/\(∀i,i<r->Xbb L base ((at_:Int)+i)=Xbb L base at_+i)/\(at_+r<to->Xbb L base at_+r≠Xbb L base ((at_:Int)+r))
theorem Zkm(hP:Pln w F p n B base L)(hT:VRW w)(at_ to:Nat)(ha:at_<to)(hto:(to:Int)<=4294967296):
  Calls prog 215 #[.pointer (some ⟨p,0,none⟩),.int .i64 at_,.int .i64 to] w (VWm w L base at_ to):=by
 obtain⟨h1,h2,h3,f,c0,c1,hF⟩:=hP;have HF:=hid hF;have HT:=hid hT;obtain⟨hg,hn⟩:=hF.good;have E:=hid (λb=>ZSj hg hn base b);obtain⟨v,hv⟩:∃v,v=Xbb L base at_:=⟨_,rfl⟩;have HV:=hid hv.symm;have D:=E.o at_;rw[<-hv]at D;clear hF h3 hT hg hv;go_enter func215,ntmps215;go_wp2_with(go_at_call 232;refine(ZNk HF.o HT.o at_ Ω).mono ?_;rintro e w1 ⟨rfl,V⟩;rw[HV.o];have G:=hid V;clear V)
 go_loopw [10] (λs wr=>∃r:Nat,Hid (1<=r/\at_+r<=to/\∀i,i<r->Xbb L base ((at_:Int)+i)=v+i)/\Hid (Gr w wr)/\s=.int .i64 r) (λs _=>to-(intOf s).toNat)
 case atStart=>exact⟨1,⟨π _,by omega,λi hi=>by obtain rfl:i=0:=Ω;simpa using HV.o⟩,G,rfl⟩
 case round=>
  rename World=>wr
  obtain⟨r,hr,X,rfl⟩:=hrel;obtain⟨N,O,-⟩:=hr.o;have k0:=(X.o.cell h1 0).trans c0;by_cases hlt:at_+r<to
  ·obtain⟨x,hx⟩:∃x,x=Xbb L base ((at_:Int)+(r:Int)):=⟨_,rfl⟩;have HX:=hid hx.symm;clear hx;by_cases Y:x=v+r
   ·have I:(x !=v+(r:Int))=false:=by simp[Y]
    have U:=hid Y;clear Y;go_wp2_with(go_at_call 232;refine(ZNk (HF.o.gr X.o) (X.o.tab HT.o.lt HT.o) _ Ω).mono ?_;rintro e w1 ⟨rfl,Z⟩;rw[HX.o];have J:=hid (X.o.trans Z);clear Z);go_roundw
    case rel=>exact⟨r+1,⟨by omega,by omega,λi hi=>by rcases γ i r with h|h;exact hr.o.2.2 i h;(obtain rfl:i=r:=Ω);rw[HX.o,U.o]⟩,J,by go_num⟩
    case measure=>simp[intOf];omega
   ·have I:(x !=v+(r:Int))=true:=by simp[Y]
    have U:=hid Y;clear Y;go_wp2_with(go_at_call 232;refine(ZNk (HF.o.gr X.o) (X.o.tab HT.o.lt HT.o) _ Ω).mono ?_;rintro e w1 ⟨rfl,Z⟩;rw[HX.o];have J:=hid (X.o.trans Z);clear Z);go_ret2;exact⟨r,by rw[HV.o];rfl,J.o,N,O,λi hi=>by rw[HV.o];exact hr.o.2.2 i hi,λ_ h=>U.o (by rw[<-HX.o,<-h,HV.o])⟩
  ·go_wp2;go_ret2;exact⟨r,by rw[HV.o];rfl,X.o,N,O,λi hi=>by rw[HV.o];exact hr.o.2.2 i hi,λh=>by omega⟩
end
def X7n(P:List Pc):List Value:=P.flatMap λq=>[.int .i64 q.f,.int .i64 q.t,.int .i64 (q.s:Nat)]
theorem YGE(P Q:List Pc):X7n (P++Q)=X7n P++X7n Q:=by simp[X7n]
theorem Zcu{P:List Pc}{i:Nat}(h:i<P.length):(X7n P)[i*3]?=some (.int .i64 P[i].f)/\(X7n P)[i*3+1]?=some (.int .i64 P[i].t)/\(X7n P)[i*3+2]?=some (.int .i64 (P[i].s:Nat)):=by
 induction P generalizing i with
 | nil=>exact absurd h (ζV _)
 | cons o r ih=>
  have e:X7n (o :: r)=.int .i64 o.f :: .int .i64 o.t :: .int .i64 (o.s:Nat) :: X7n r:=rfl;rw[e];cases i with
  | zero=>exact⟨rfl,rfl,rfl⟩
  | succ i=>
   have:=ih (i:=i) (by simpa using h);rw[show (i+1)*3=i*3+1+1+1 by omega];simpa using this
def VpR(w:World)(A:Option Addr)(P:List Pc):Prop:=∀i (h:i<P.length),∃g,A=some ⟨g,0,none⟩/\g<w.heap.size ∧
 w.cell? ⟨g,i*3,none⟩=some (.int .i64 P[i].f)/\w.cell? ⟨g,i*3+1,none⟩=some (.int .i64 P[i].t)/\w.cell? ⟨g,i*3+2,none⟩=some (.int .i64 (P[i].s:Nat))
theorem VpR.gr{w w':World}{A:Option Addr}{P:List Pc}(h:VpR w A P)(t:Gr w w'):VpR w' A P:=λi hi=>by
 obtain⟨g,rfl,h1,h2,h3,h4⟩:=h i hi;exact⟨g,rfl,ω h1 t.size,(t.cell h1 _).trans h2,(t.cell h1 _).trans h3,(t.cell h1 _).trans h4⟩
theorem XfI{w:World}{base T:Nat}{v:Value}{P:List Pc}(h:w.ownsRow base T 3 v P.length (X7n P)):∃A c,v=.slice A P.length c/\VpR w A P/\∀a,A=some a->base<=a.block:=by
 by_cases hn:P.length=0
 ·obtain⟨_,⟨rfl,_⟩|⟨g,c,cur,rfl,e2,_⟩⟩:=h
  ·exact⟨none,0,by rw[hn],λi hi=>by omega,λa e=>by cases e⟩
  ·exact⟨some ⟨g,0,none⟩,c,rfl,λi hi=>by omega,λa e=>by cases e;exact e2⟩
 ·obtain⟨g,c,rfl,hb,_,_,hg⟩:=YTP h hn;refine⟨some ⟨g,0,none⟩,c,rfl,λi hi=>?_,λa e=>by cases e;exact hb⟩;obtain⟨f1,f2,f3⟩:=Zcu hi;exact⟨g,rfl,hg,ZBn h f1,ZBn h f2,ZBn h f3⟩
theorem ZkK{w:World}{base T:Nat}{v:Value}{P:List Pc}{q:Pc}(h:w.ownsRow base T 3 v (P.length+1) (X7n P++[.int .i64 q.f,.int .i64 q.t,.int .i64 (q.s:Nat)])):w.ownsRow base T 3 v (P++[q]).length (X7n (P++[q])):=by
 rw[YGE,ζk];exact h
theorem Vdu:(prog.info? 260).map (λi=>(i.zero,i.size,i.bytes))=some (some (.agg #[.int .i64 0,.int .i64 0,.int .i64 0]),3,24):=by kernel_rfl
def ZLj(L:List Ob)(B base:Nat)(k:Int):List Pc:=pcs (Xbb L base) (YmL L B base k) (YBR L B base k-YmL L B base k).toNat
theorem JYH{L:List Ob}{B base:Nat}{k:Int}(h:XV5 L B k=false):ZLj L B base k=[]:=by
 unfold ZLj;rw[(Q5d h).1,(Q5d h).2.1];rfl
theorem VYq{n:Nat}{L:List Ob}(hg:Q4l n L)(hn:n<=1048576){B base:Nat}(hB:1<=B)(hb:base<2147483648){k:Int}(h:XV5 L B k=true):
  ∃a z:Nat,YmL L B base k=a/\YBR L B base k=z/\a<z/\z<=2148532224/\z<=a+B/\base<=a/\z<=base+sizes L:=by
 have hk0:0<=k:=by unfold XV5 at h;simp at h;exact h.1
 obtain⟨j,rfl⟩:∃j:Nat,k=j:=⟨k.toNat,by omega⟩;have hlt:=QC8 hB h;have hs:=XY5 hg;obtain⟨e1,e2,-⟩:=Jfd (base:=base) h;refine⟨base+j*B,base+min (j*B+B) (sizes L),by rw[e1];push_cast;rfl,by rw[e2,show (j:Int)*(B:Int)=((j*B:Nat):Int)by push_cast;rfl];omega,by omega,by omega,by omega,by omega,by omega⟩
theorem ZbI{n:Nat}{L:List Ob}(hg:Q4l n L)(hn:n<=1048576){B base:Nat}(hB:1<=B)(hb:base<2147483648)(k:Int):(ZLj L B base k).length<=B:=by
 cases hin:XV5 L B k with
 | false=>rw[JYH hin];simp
 | true=>
  obtain⟨a,z,ea,ez,_,_,hz,_,_⟩:=VYq hg hn hB hb hin;unfold ZLj;have:=QTh (Xbb L base) (YmL L B base k) (YBR L B base k-YmL L B base k).toNat;omega
section
variable {w:World} {F p n B base:Nat} {L:List Ob}
def Jzj(w:World)(P:List Pc)(c:Int)(e:Ending)(w':World):Prop:=
 ∃A cap,e=.returned (.tuple #[.slice A P.length cap,.int .i64 c])/\Gr w w'/\VpR w' A P/\∀a,A=some a->w.heap.size<=a.block
theorem Y4j(hP:Pln w F p n B base L)(hT:VRW w)(k:Int):
  Calls prog 181 #[.pointer (some ⟨p,0,none⟩),.int .i64 k] w (Jzj w (ZLj L B base k) (Q5o L B k)):=by
 have HP:=hid hP;have HT:=hid hT;obtain⟨h1,h2,h3,f,c0,c1,hF⟩:=hP;obtain⟨hg,hn⟩:=hF.good;have hbp:=Quq h3;have Xl:=hF.2.2.1;cases hin:XV5 L B k with
 | false=>
  have E:=hid (Q5d (base:=base) hin);have E2:=hid (JYH (base:=base) hin);rw[E2.o,E.o.2.2];clear hF h3 hg hin hT;go_enter func181,ntmps181;go_wp2_with(go_at_call 180;refine(Qy3 HP.o k).mono ?_;rintro e w1 ⟨rfl,J⟩;rw[E.o.1,E.o.2.1,E.o.2.2]);go_ret2;exact⟨none,0,rfl,J,λi hi=>absurd hi (by simp),λa e=>by cases e⟩
 | true=>
  obtain⟨a0,z,ea,ez,hlt,hz,hzB,-,-⟩:=VYq hg hn Ω Xl hin;have E:=hid (ν ea (ν ez (Jfd (base:=base) hin).2.2));have E2:Hid (ZLj L B base k=pcs (Xbb L base) a0 (z-a0)):=⟨by unfold ZLj;rw[ea,ez];congr 1;omega⟩;rw[E2.o,E.o.2.2];obtain⟨i0,hi,Xg,Xi,Xp⟩:=info_parts Vdu;obtain⟨g,Xb⟩:∃g,g=Xbb L base:=⟨_,rfl⟩;rw[<-Xb];have Xn:=hid Xb;clear hF h3 hg hin hT ea ez Xb;go_enter func181,ntmps181;go_wp2_with(go_at_call 180;refine(Qy3 HP.o k).mono ?_;rintro e w1 ⟨rfl,J⟩;rw[E.o.1,E.o.2.1,E.o.2.2];have G:=hid J;clear J)
  go_loopw [6,9] (λs6 s9 wr=>∃(X m:Nat) (P:List Pc),Hid (X=a0+m)/\X<=z/\a0<=X/\Hid (pcs g a0 m=P)/\P.length<=X/\Hid (X < z->∀q,P.getLast?=some q->q.f+q.s≠g X)/\Hid (wr.ownsRow w1.heap.size 260 3 s9 P.length (X7n P))/\Hid (XF4 (λi=>w1.heap.size<=i) w1 wr)/\s6=.int .i64 X) (λs6 _ _=>z-(intOf s6).toNat)
  case atStart=>exact⟨a0,0,[],⟨rfl⟩,by omega,π _,⟨rfl⟩,by simp,⟨λ_ q h=>by simp at h⟩,⟨Vm9 _ _ _ _⟩,⟨XF4.refl _ _⟩,rfl⟩
  case round=>
   obtain⟨X,m,P,I,hle,hge,hp,hpl,O,V,ht,rfl⟩:=hrel;have HG:=hid ((G.o.touch (λ_=>False)).trans' ht.o (λi hi h=>by have:=G.o.size;omega)).gr;have hwl:=ht.o.size;by_cases Xe:X < z
   ·go_wp2_with(first
     | (go_at_call 215;refine(Zkm (HP.o.gr HG.o) (HG.o.tab HT.o.lt HT.o) X z Xe Ω).mono ?_;rintro e w3 ⟨r,rfl,U,Xj,hr2,N,Xa⟩;rw[<-Xn.o]at N Xa⊢;have HR:=hid (ν N Xa);have Xo:=hid U;have Xc:=hid (Y9I V.o U);have hz3:=U.size;(obtain⟨fv,D⟩:∃fv,fv=g X:=⟨_,rfl⟩);have Xd:=hid D.symm;rw[<-D];clear N Xa U D)
     | (at_builtin;refine wpList_append_own _ rfl _ _ 256 rfl w1.heap.size 260 i0 _ 3 24 underlying256 hi Xg Xi Xp rfl (by decide) u9 P.length (X7n P) rfl (Y9I Xc.o ((Gr.refl _).alloc _)) ⟨w3.heap.size,0,none⟩ 1 1 [.int .i64 fv,.int .i64 X,.int .i64 r] rfl rfl (ξI (cs:=#[.int .i64 fv,.int .i64 X,.int .i64 r]) (t:=260) (fr:=(0,0)) (heap_alloc_new w3 _)) (by simp[Value.oneCell']) (by unfold maxLen;omega) Ω (by simp only[η];omega) ?_;intro v4 w4 Z Y _;have Xf:=hid (ZkK (q:=⟨fv,X,r⟩) Z);have Xh:=hid ((((Gr.refl w3).alloc (.cells #[.int .i64 fv,.int .i64 X,.int .i64 r] 260)).touch (λk=>w1.heap.size<=k)).trans (VxQ Y _ (λ_ e _=>(Vvr Xc.o e).1)));clear Z Y))
    go_roundw
    case rel=>
     refine⟨X + r,m+r,P++[⟨fv,X,r⟩],⟨by rw[I.o];omega⟩,by omega,by omega,⟨?_⟩,by simp;omega,⟨λhzz q hq=>?_⟩,Xf,⟨(ht.o.trans (Xo.o.touch _)).trans Xh.o⟩,by go_num⟩
     ·have e1:=I.o;have ee:(a0:Int)+(m:Int)=(X:Int):=Ω
      have hh:=Qox (g:=g) (a:=a0) (k:=m) hp.o (by rw[ee];exact O.o Xe) Xj (by rw[ee];exact HR.o.1);rw[hh,ee,Xd.o]
     ·simp at hq;subst hq;have:=HR.o.2 hzz;rw[Xd.o]at this;push_cast;exact this
    case measure=>simp[intOf];omega
   ·obtain rfl:X=z:=Ω
    go_wp2;go_ret2;obtain⟨A,c,hA,Xm,Xk⟩:=XfI V.o;have e1:=hp.o;have e2:m=X - a0:=by have:=I.o;omega
    subst e2;rw[e1];exact⟨A,c,by rw[<-hA];rfl,HG.o,Xm,λa h=>ζb G.o.size (Xk a h)⟩
end
end
section
open Go.RowKit Word
structure ZxU where
 pg:Nat
 H:List Hdr
 P:List Nat
 R:List Nat
 bk:Nat
 st:Nat
 ah:Nat
section
variable (x:ZxU)
end
structure Z1d(v v':Vm):Prop where
 ok:ZAR v'
 sm:VqE v v'
theorem Z1d.refl{v:Vm}(h:ZAR v):Z1d v v:=⟨h,VqE.refl v⟩
theorem Z1d.st{v v':Vm}(h:Z1d v v')(a:Int){x:Nat}(hx:x<18446744073709551616):Z1d v (v'.st a x):=⟨h.ok.st a hx,h.sm.trans (VqE.st _ _ _)⟩
theorem Z1d.mkV{v v':Vm}(h:Z1d v v')(a:Int){x:Nat}(hx:x<18446744073709551616)(m:Nat):Z1d v (mkV v' a x m):=by
 induction m with
 | zero=>exact h.st a hx
 | succ m ih=>exact ih.st _ (by decide)
theorem Z1d.mkVm{v v':Vm}(h:Z1d v v')(a:Int)(hd:Hdr):Z1d v (mkVm v' a hd):=by
 unfold Go.Proofs.YteihjlcmjecmfaaGreatDoor.mkVm
 split
 ·rename_i h0;unfold Y3I at h0
  split at h0
  ·cases h0
  ·split at h0
   ·cases h0
   ·rename_i h1;obtain⟨p,f,c,rfl,hs⟩:=XZe (ξl.1 h1);exact h.mkV a (ZXc (by simpa using hs)) _
 ·exact h
end
section
open Go.RowKit Word
theorem XS7{p f c:Nat}(hs:p+f+c<=255):tkE (YsO p f c)=0/\tkH (YsO p f c)=⟨p,f,c⟩:=by
 have e:YsO p f c=(4294967295-(p+256*f+65536*c+2768240640))*4294967296+(p+256*f+65536*c+2768240640):=rfl;have a1:YsO p f c%4294967296=p+256*f+65536*c+2768240640:=by rw[e];omega
 have a2:YsO p f c/4294967296=4294967295-(p+256*f+65536*c+2768240640):=by rw[e];omega
 have a3:YsO p f c%256=p:=by rw[e];omega
 have a4:YsO p f c/256%256=f:=by rw[e];omega
 have a5:YsO p f c/65536%256=c:=by rw[e];omega
 have X:Q3b (YsO p f c)=true:=by
  unfold Q3b;rw[a1,a2,a3,a4,a5];simp only[ζd,ζe];exact⟨⟨by omega,by first|trivial|rfl⟩,hs⟩
 unfold tkE tkH;rw[μ X,μ X,a3,a4,a5];exact⟨rfl,rfl⟩
theorem XUd{v:Vm}(h:ZAR v)(a:Int){x:Nat}(hx:x<18446744073709551616)(m:Nat)(hm:∀j:Nat,j<=m->v.ldE (a+j)=0)(b:Int):(mkV v a x m).ldV b=if b=a then x else if a<b/\b<=a+m then 0 else v.ldV b:=by
 induction m with
 | zero=>
  have h0:=hm 0 (π _);rw[show a+((0:Nat):Int)=a by omega]at h0
  show (v.st a x).ldV b=_
  rw[h.st_ldV x h0];by_cases e:a=b
  ·rw[μ e,μ e.symm]
  ·rw[ϑ e,ϑ (λh=>e h.symm),ϑ Ω]
 | succ m ih=>
  have ih:=ih (λj hj=>hm j Ω);have X:=((Z1d.refl h).mkV a hx m).ok
  have hl:(mkV v a x m).ldE (a+1+m)=0:=by
   rw[QBF,show a+1+(m:Int)=a+((m+1:Nat):Int)by omega];exact hm (m+1) (π _)
  show ((mkV v a x m).st (a+1+m) 0).ldV b=_
  rw[X.st_ldV 0 hl,ih];by_cases e:a+1+(m:Int)=b
  ·rw[μ e,ϑ Ω,μ Ω]
  ·rw[ϑ e];by_cases e2:b=a
   ·rw[μ e2,μ e2]
   ·rw[ϑ e2,ϑ e2];by_cases e3:a<b/\b<=a+m
    ·rw[μ e3,μ Ω]
    ·rw[ϑ e3,ϑ Ω]
theorem VzI{v:Vm}{a:Int}{n:Nat}(h:∀j:Nat,j<=n->v.ldE (a+j)=0):mkE v a n=0:=by
 induction n with
 | zero=>
  have:=h 0 (π _)
  rwa [show a+((0:Nat):Int)=a by omega]at this
 | succ n ih=>
  show (if mkE v a n≠0 then mkE v a n else v.ldE (a+1+n))=0
  rw[ϑ (λhn=>hn (ih (λj hj=>h j Ω))),show a+1+(n:Int)=a+((n+1:Nat):Int)by omega];exact h (n+1) (π _)
theorem JER{v:Vm}(h:ZAR v){t p f c:Nat}(ht:0<t)(hs:p+f+c<=255)(hl:∀j:Nat,j<=p+f+c->v.ldE ((t:Int)+j)=0):
  Y3I v t ⟨p,f,c⟩=0/\∀b:Int,(mkVm v t ⟨p,f,c⟩).ldV b=if b=t then YsO p f c else if (t:Int)<b/\b<=t+((p+f+c:Nat):Int)then 0 else v.ldV b:=by
 have e:((p:Int)+f+c).toNat=p+f+c:=Ω
 have h0:Y3I v t ⟨p,f,c⟩=0:=by
  unfold Y3I;rw[ϑ Ω,ϑ (by rw[JJj hs];decide)]
  show mkE v t ((p:Int)+f+c).toNat=0
  rw[e];exact VzI hl
 refine⟨h0,λb=>?_⟩;unfold mkVm;rw[μ h0]
 show (mkV v t (YsO p f c) ((p:Int)+f+c).toNat).ldV b=_
 rw[e];exact XUd h t (ZXc hs) _ hl b
section
variable {x:ZxU} {v0:Vm}
end
end
def Jt4(l xs:List Nat):List Nat:=xs.foldl (λl x=>if x≠0/\¬x∈l then l++[x]else l) l
def YtH(p:Nat->List Nat):Nat->List Nat->Nat->List Nat
 | 0,l,_=>l
 | f+1,l,i=>if i<l.length then YtH p f (Jt4 l (p (l.getD i 0))) (i+1)else l
theorem Xja(l:List Nat):Jt4 l []=l:=rfl
theorem ZSK(l:List Nat)(x:Nat)(xs:List Nat):Jt4 l (x :: xs)=Jt4 (if x≠0/\¬x∈l then l++[x]else l) xs:=rfl
theorem QBl:∀(xs l:List Nat) (y:Nat),y∈Jt4 l xs↔y∈l\/(y∈xs/\y≠0)
 | [],l,y=>by simp[Xja]
 | x :: xs,l,y=>by
  rw[ZSK,QBl xs];by_cases h:x≠0/\¬x∈l
  ·rw[μ h,ζj,ζs,ζH];constructor
   ·rintro((h1|rfl)|⟨h1,h2⟩)
    ·exact .inl h1
    ·exact .inr ⟨.inl rfl,h.1⟩
    ·exact .inr ⟨.inr h1,h2⟩
   ·rintro(h1|⟨rfl|h1,h2⟩)
    ·exact .inl (.inl h1)
    ·exact .inl (.inr rfl)
    ·exact .inr ⟨h1,h2⟩
  ·rw[ϑ h,ζH];constructor
   ·rintro(h1|⟨h1,h2⟩)
    ·exact .inl h1
    ·exact .inr ⟨.inr h1,h2⟩
   ·rintro(h1|⟨rfl|h1,h2⟩)
    ·exact .inl h1
    ·exact .inl (Classical.byContradiction λhh=>h ⟨h2,hh⟩)
    ·exact .inr ⟨h1,h2⟩
theorem Qxl:∀(xs l:List Nat),∃t,Jt4 l xs=l++t
 | [],l=>⟨[],by simp[Xja]⟩
 | x :: xs,l=>by
  rw[ZSK];by_cases h:x≠0/\¬x∈l
  ·obtain⟨t,ht⟩:=Qxl xs (l++[x]);exact⟨x :: t,by rw[μ h,ht,ζX];rfl⟩
  ·obtain⟨t,ht⟩:=Qxl xs l;exact⟨t,by rw[ϑ h,ht]⟩
def OkL(l:List Nat):Prop:=l.Nodup/\¬0∈l
theorem Y3O:∀(xs:List Nat) {l:List Nat},OkL l->OkL (Jt4 l xs)
 | [],_,h=>h
 | x :: xs,l,h=>by
  rw[ZSK];refine Y3O xs ?_;by_cases hx:x≠0/\¬x∈l
  ·rw[μ hx];refine⟨?_,?_⟩
   ·rw[ξu];exact⟨h.1,by simp,λa ha b hb e=>by rw[ζs]at hb;subst hb;subst e;exact hx.2 ha⟩
   ·rw[ζj,ζs];rintro(h1|h1)
    ·exact h.2 h1
    ·exact hx.1 h1.symm
  ·rw[ϑ hx];exact h
theorem QmW{l:List Nat}{i:Nat}(h:i<l.length):l.getD i 0∈l:=by
 rw[φ,δ h];exact χ h
theorem Jyy(p:Nat->List Nat):∀(f:Nat) (l:List Nat) (i:Nat),∃t,YtH p f l i=l++t
 | 0,l,_=>⟨[],by simp[YtH]⟩
 | f+1,l,i=>by
  unfold YtH
  split
  ·obtain⟨t,ht⟩:=Qxl (p (l.getD i 0)) l;obtain⟨t2,X⟩:=Jyy p f (Jt4 l (p (l.getD i 0))) (i+1);exact⟨t++t2,by rw[X,ht,ζX]⟩
  ·exact⟨[],by simp⟩
theorem ZRH(p:Nat->List Nat):∀(f:Nat) (l:List Nat) (i:Nat),OkL l->OkL (YtH p f l i)
 | 0,_,_,h=>h
 | f+1,l,i,h=>by
  unfold YtH
  split
  ·exact ZRH p f _ _ (Y3O _ h)
  ·exact h
def InL(N:Nat)(l:List Nat):Prop:=∀x∈l,1<=x/\x<=N
theorem InL.len{N:Nat}{l:List Nat}(h:InL N l)(hn:OkL l):l.length<=N:=by
 have h1:l ⊆ (List.range (N+1)).tail:=λx hx=>by
  have:=h x hx;rw[show (List.range (N+1)).tail=(List.range N).map (· + 1)by rw[List.range_succ_eq_map];rfl,ξp];exact⟨x-1,ζP.2 Ω,by omega⟩
 have h2:=hn.1.length_le_of_subset h1;rw[List.length_tail,List.length_range]at h2;omega
theorem Qg6{N:Nat}{l xs:List Nat}(h:InL N l)(hx:∀x∈xs,x<=N):InL N (Jt4 l xs):=λy hy=>by
 rcases(QBl _ _ _).1 hy with h1|⟨h1,h2⟩
 ·exact h y h1
 ·exact⟨by omega,hx y h1⟩
def YkB(p:Nat->List Nat)(l:List Nat)(i:Nat):Prop:=∀j,j<i->∀y∈p (l.getD j 0),y≠0->y∈l
theorem Vsy{l t:List Nat}{j:Nat}(h:j<l.length):(l++t).getD j 0=l.getD j 0:=by
 rw[φ,φ,ζB h]
theorem Ybq{p:Nat->List Nat}{N:Nat}(hp:∀x,1<=x->x<=N->∀y∈p x,y<=N):∀(f:Nat) (l:List Nat) (i:Nat),OkL l->InL N l->YkB p l i->i<=l.length->N+1<=f+i->YkB p (YtH p f l i) (YtH p f l i).length/\InL N (YtH p f l i)
 | 0,l,i,ho,hi,_,hil,hf=>by have:=hi.len ho;omega
 | f+1,l,i,ho,hi,hs,hil,hf=>by
  unfold YtH
  split
  ·rename_i h;have hx:=hi _ (QmW h);obtain⟨t,ht⟩:=Qxl (p (l.getD i 0)) l;refine Ybq hp f _ (i+1) (Y3O _ ho) (Qg6 hi (hp _ hx.1 hx.2)) (λj hj y hy h0=>?_) ?_ Ω
   ·rw[ht,Vsy Ω]at hy;rcases γ j i with X|X
    ·exact(QBl _ _ _).2 (.inl (hs j X y hy h0))
    ·obtain rfl:j=i:=Ω
     exact(QBl _ _ _).2 (.inr ⟨hy,h0⟩)
   ·rw[ht,ζk];omega
  ·rename_i h;obtain rfl:i=l.length:=Ω
   exact⟨hs,hi⟩
theorem Z7P{p:Nat->List Nat}{Q:Nat->Prop}(hp:∀x,Q x->∀y∈p x,y≠0->Q y):∀(f:Nat) (l:List Nat) (i:Nat),(∀x∈l,Q x)->∀x∈YtH p f l i,Q x
 | 0,_,_,h=>h
 | f+1,l,i,h=>by
  unfold YtH
  split
  ·rename_i hi;refine Z7P hp f _ (i+1) (λy hy=>?_);rcases(QBl _ _ _).1 hy with h1|⟨h1,h2⟩
   ·exact h y h1
   ·exact hp _ (h _ (QmW hi)) y h1 h2
  ·exact h
def Quy(p:Nat->List Nat)(N:Nat)(rs:List Nat):List Nat:=YtH p (N+1) (Jt4 [] rs) 0
theorem YVO:OkL []:=⟨ξ1,by simp⟩
theorem Zeq(p:Nat->List Nat)(N:Nat)(rs:List Nat):OkL (Quy p N rs):=ZRH _ _ _ _ (Y3O _ YVO)
theorem JOE{p:Nat->List Nat}{N:Nat}{rs:List Nat}(hp:∀x,1<=x->x<=N->∀y∈p x,y<=N)(hr:∀x∈rs,x<=N):InL N (Quy p N rs)/\(∀x∈rs,x≠0->x∈Quy p N rs)/\∀x∈Quy p N rs,∀y∈p x,y≠0->y∈Quy p N rs:=by
 have X:InL N (Jt4 [] rs):=Qg6 (λx hx=>absurd hx (by simp)) hr;obtain⟨h1,h2⟩:=Ybq hp (N+1) (Jt4 [] rs) 0 (Y3O _ YVO) X (λj hj=>absurd hj (ζV _)) (ζh _) Ω;refine⟨h2,λx hx h0=>?_,λx hx y hy h0=>?_⟩
 ·obtain⟨t,ht⟩:=Jyy p (N+1) (Jt4 [] rs) 0;unfold Quy;rw[ht];exact ξh _ ((QBl _ _ _).2 (.inr ⟨hx,h0⟩))
 ·obtain⟨j,hj,e⟩:=ψF.1 hx;refine h1 j hj y ?_ h0;have e2:(Quy p N rs).getD j 0=x:=by rw[φ,δ hj,ψe,e]
  unfold Quy at e2;rw[e2];exact hy
theorem VPa{p:Nat->List Nat}{N:Nat}{rs:List Nat}{Q:Nat->Prop}(hp:∀x,Q x->∀y∈p x,y≠0->Q y)(hr:∀x∈rs,x≠0->Q x):∀x∈Quy p N rs,Q x:=by
 refine Z7P hp _ _ _ (λx hx=>?_);rcases(QBl _ _ _).1 hx with h1|⟨h1,h2⟩
 ·exact absurd h1 (by simp)
 ·exact hr x h1 h2
structure GOb where
 p:Nat
 f:Nat
 k:Nat
 w:List Nat
structure Gph where
 L:List GOb
 S:List Nat
def GOb.hdr(o:GOb):Hdr:=⟨o.p,o.f,o.k⟩
def GOb.size(o:GOb):Nat:=1+o.p+o.f+o.k
def Gph.ob(g:Gph)(x:Nat):GOb:=if x=0 then ⟨0,0,0,[]⟩else g.L.getD (x-1) ⟨0,0,0,[]⟩
def Gph.pts(g:Gph)(x:Nat):List Nat:=(g.ob x).w.take (g.ob x).p
structure Gph.Ok(g:Gph):Prop where
 len:∀o∈g.L,o.w.length=o.p+o.f+o.k/\o.p+o.f+o.k<=255
 pt:∀o∈g.L,∀y∈o.w.take o.p,y<=g.L.length
 st:∀y∈g.S,y<=g.L.length
def Gph.Rd(g:Gph)(x:Nat):Prop:=∀P:Nat->Prop,(∀r∈g.S,r≠0->P r)->(∀a,P a->∀b∈g.pts a,b≠0->P b)->P x
theorem Gph.Rd.root{g:Gph}{r:Nat}(h:r∈g.S)(h0:r≠0):g.Rd r:=λ_ h1 _=>h1 r h h0
theorem Gph.Rd.step{g:Gph}{a b:Nat}(h:g.Rd a)(hb:b∈g.pts a)(h0:b≠0):g.Rd b:=λP h1 h2=>h2 a (h P h1 h2) b hb h0
theorem Gph.ob_mem{g:Gph}{x:Nat}(h1:1<=x)(h2:x<=g.L.length):g.ob x∈g.L:=by
 unfold Gph.ob;rw[ϑ Ω,φ,δ Ω];exact χ _
theorem Gph.Ok.pts_le{g:Gph}(h:g.Ok){x y:Nat}(hy:y∈g.pts x):y<=g.L.length:=by
 unfold Gph.pts at hy;rcases γ 0 x with hx|hx
 ·rcases γ g.L.length x with hl|hl
  ·have e:g.ob x=⟨0,0,0,[]⟩:=by
    unfold Gph.ob;rw[ϑ Ω,φ,ζf Ω];rfl
   rw[e]at hy;simp at hy
  ·exact h.pt _ (Gph.ob_mem hx hl) y hy
 ·have e:g.ob x=⟨0,0,0,[]⟩:=by unfold Gph.ob;rw[μ Ω]
  rw[e]at hy;simp at hy
theorem Gph.Ok.rd{g:Gph}(h:g.Ok){x:Nat}(hx:g.Rd x):1<=x/\x<=g.L.length:=
 hx (λx=>1<=x/\x<=g.L.length) (λr hr h0=>⟨by omega,h.st r hr⟩) (λ_ _ b hb h0=>⟨by omega,h.pts_le hb⟩)
def Gph.all(g:Gph):List Nat:=Quy g.pts g.L.length g.S
theorem Gph.Ok.mem_all{g:Gph}(h:g.Ok){x:Nat}:x∈g.all↔g.Rd x:=by
 obtain⟨h1,h2,h3⟩:=JOE (p:=g.pts) (N:=g.L.length) (rs:=g.S) (λx _ _ y hy=>h.pts_le hy) h.st;constructor
 ·intro hx;exact VPa (Q:=g.Rd) (λa ha b hb h0=>ha.step hb h0) (λr hr h0=>Gph.Rd.root hr h0) x hx
 ·intro hx;exact hx (λx=>x∈g.all) h2 h3
structure Img(v:Vm)(g:Gph)(F:Nat->Nat)(lo hi:Nat):Prop where
 z:F 0=0
 rd:∀x,g.Rd x->v.rdE (F x)=0
 hd:∀x,g.Rd x->v.rdH (F x)=(g.ob x).hdr
 pt:∀x,g.Rd x->∀i,i<(g.ob x).p->v.ptE (F x) i=0/\v.ptV (F x) i=F ((g.ob x).w.getD i 0)
 wd:∀x,g.Rd x->∀i,(g.ob x).p<=i->i<(g.ob x).p+(g.ob x).f+(g.ob x).k->v.ldE (F x+1+i:Nat)=0/\v.ldV (F x+1+i:Nat)=(g.ob x).w.getD i 0
 lo:∀x,g.Rd x->lo<=F x/\F x+(g.ob x).size<=hi
 dj:∀x y,g.Rd x->g.Rd y->x=y\/F x+(g.ob x).size<=F y\/F y+(g.ob y).size<=F x
section
variable {v:Vm} {g:Gph} {F:Nat->Nat} {lo hi:Nat}
theorem Img.pos(h:Img v g F lo hi){x:Nat}(hx:g.Rd x):0<F x:=by
 have:=(QXB (h.rd x hx)).1;omega
theorem Img.inj(h:Img v g F lo hi){x y:Nat}(hx:g.Rd x)(hy:g.Rd y)(e:F x=F y):x=y:=by
 have h1:=h.dj x y hx hy;have h2:1<=(g.ob x).size:=by unfold GOb.size;omega
 have h3:1<=(g.ob y).size:=by unfold GOb.size;omega
 omega
theorem Jat{g:Gph}(ho:g.Ok){x i:Nat}(hx:g.Rd x)(hi:i<(g.ob x).p):(g.ob x).w.getD i 0∈g.pts x:=by
 obtain⟨h1,h2⟩:=ho.rd hx;have hl:=(ho.len _ (Gph.ob_mem h1 h2)).1;unfold Gph.pts;rw[φ,δ Ω,ψe];exact List.mem_take_iff_getElem.2 ⟨i,by omega,rfl⟩
theorem Img.rch(h:Img v g F lo hi)(ho:g.Ok){a:Int}(ha:Rch v (g.S.map λx=>(F x:Int)) a):∃x,g.Rd x/\a=(F x:Nat):=by
 refine ha (λa=>∃x,g.Rd x/\a=(F x:Nat)) (λr hr h0=>?_) ?_
 ·obtain⟨x,hx,rfl⟩:=ξp.1 hr;refine⟨x,Gph.Rd.root hx (λe=>h0 ?_),rfl⟩;rw[e,h.z];rfl
 ·rintro a b ⟨x,hx,rfl⟩ ⟨-,i,hi,-,h1,rfl⟩;rw[h.hd x hx]at hi;have hi:(i:Int)<((g.ob x).p:Int):=hi;have hi:i<(g.ob x).p:=Ω
  have hp:=h.pt x hx i hi;rw[hp.2]at h1⊢;exact⟨_,hx.step (Jat ho hx hi) (λe=>h1 (by rw[e,h.z])),rfl⟩
theorem Img.rch_of(h:Img v g F lo hi){x:Nat}(hx:g.Rd x):Rch v (g.S.map λx=>(F x:Int)) (F x:Nat):=by
 have Y:g.Rd x/\Rch v (g.S.map λx=>(F x:Int)) (F x:Nat):=by
  refine hx (λx=>g.Rd x/\Rch v (g.S.map λx=>(F x:Int)) (F x:Nat)) (λr hr h0=>?_) ?_
  ·have:=Gph.Rd.root hr h0;have hp:=h.pos this;exact⟨this,Rch.root (ξp.2 ⟨r,hr,rfl⟩) Ω⟩
  ·rintro a ⟨ha,hr⟩ b hb h0;have X:=ha.step hb h0;refine⟨X,hr.step ⟨h.rd a ha,?_⟩⟩;obtain⟨i,hi,e⟩:=List.mem_take_iff_getElem.1 hb;have Z:i<(g.ob a).p:=Ω
   have hw:(g.ob a).w.getD i 0=b:=by rw[φ,δ Ω,ψe,e]
   obtain⟨p1,p2⟩:=h.pt a ha i Z;rw[hw]at p2;refine⟨i,?_,p1,?_,?_⟩
   ·rw[h.hd a ha]
    show (i:Int)<((g.ob a).p:Int)
    omega
   ·rw[p2];have:=h.pos X;omega
   ·rw[p2]
 exact Y.2
theorem Img.osz(h:Img v g F lo hi)(ho:g.Ok){x:Nat}(hx:g.Rd x):v.osz (F x)=(g.ob x).size:=by
 obtain⟨h1,h2⟩:=ho.rd hx;have hl:=(ho.len _ (Gph.ob_mem h1 h2)).2;unfold Vm.osz;rw[h.hd x hx];unfold Z3o JQC GOb.hdr inS GOb.size
 have e:(decide (0<=((g.ob x).p:Int)/\((g.ob x).p:Int)<256)&&decide (0<=((g.ob x).f:Int)/\((g.ob x).f:Int)<256)&&decide (0<=((g.ob x).k:Int)/\((g.ob x).k:Int)<256)&&decide (((g.ob x).p:Int)+((g.ob x).f:Int)+((g.ob x).k:Int)<256))=true:=by
  simp only[ζd,ζe];omega
 simp only[e,if_true];omega
theorem Img.sound(h:Img v g F lo hi)(ho:g.Ok):Xd6 v (g.S.map λx=>(F x:Int)) hi:=by
 refine⟨λa ha=>?_,λa ha i hi=>?_,λa ha=>?_,λa b ha hb=>?_⟩
 ·obtain⟨x,hx,rfl⟩:=h.rch ho ha;exact h.rd x hx
 ·obtain⟨x,hx,rfl⟩:=h.rch ho ha;rw[h.hd x hx]at hi;have hi:(i:Int)<((g.ob x).p:Int):=hi;exact(h.pt x hx i Ω).1
 ·obtain⟨x,hx,rfl⟩:=h.rch ho ha;rw[h.osz ho hx];have:=(h.lo x hx).2;omega
 ·obtain⟨x,hx,rfl⟩:=h.rch ho ha;obtain⟨y,hy,rfl⟩:=h.rch ho hb;rw[h.osz ho hx,h.osz ho hy];rcases h.dj x y hx hy with e|e|e
  ·exact .inl (by rw[e])
  ·exact .inr (.inl Ω)
  ·exact .inr (.inr Ω)
end
section
variable {v v':Vm}
theorem QFc{a i:Int}(h:v.ptE a i=0):v.rdE a=0/\Yoq (v.rdH a) i=1/\v.ldE (a+1+i)=0/\v.ldV (a+1+i)<=2147483647/\v.ptV a i=v.ldV (a+1+i):=by
 have hv:v.ptV a i=v.gtV a i 1:=by unfold Vm.ptV;rw[μ h]
 unfold Vm.ptE at h;by_cases h1:v.gtE a i 1=0
 ·rw[ϑ (by simpa using h1)]at h
  have h2:v.gtV a i 1<=2147483647:=by
   split at h
   ·omega
   ·omega
  unfold Vm.gtE at h1;by_cases h3:v.plE a i 1=0
  ·rw[ϑ (by simpa using h3)]at h1;have h4:v.gtV a i 1=v.ldV (a+1+i):=by unfold Vm.gtV;rw[ϑ (by simpa using h3)]
   unfold Vm.plE at h3;by_cases h5:v.rdE a=0
   ·rw[ϑ (by simpa using h5)]at h3
    have h6:Yoq (v.rdH a) i=1:=by
     split at h3
     ·assumption
     ·split at h3 <;> omega
    exact⟨h5,h6,h1,by omega,by rw[hv,h4]⟩
   ·rw[μ h5]at h3;exact absurd h3 h5
  ·rw[μ h3]at h1;exact absurd h1 h3
 ·rw[μ h1]at h;exact absurd h h1
theorem XXe{a i:Int}(h1:v.rdE a=0)(h2:Yoq (v.rdH a) i=1)(h3:v.ldE (a+1+i)=0)(h4:v.ldV (a+1+i)<=2147483647):v.ptE a i=0/\v.ptV a i=v.ldV (a+1+i):=by
 have e1:v.plE a i 1=0:=by unfold Vm.plE;rw[ϑ (by simpa using h1),μ h2]
 have e2:v.gtE a i 1=0:=by unfold Vm.gtE;rw[ϑ (by simpa using e1)];exact h3
 have e3:v.gtV a i 1=v.ldV (a+1+i):=by unfold Vm.gtV;rw[ϑ (by simpa using e1)]
 have e4:v.ptE a i=0:=by unfold Vm.ptE;rw[ϑ (by simpa using e2),ϑ Ω]
 exact⟨e4,by unfold Vm.ptV;rw[μ e4,e3]⟩
theorem Xtk{a:Int}(h:v.rdE a=0):0<a/\v.ldE a=0/\tkE (v.ldV a)=0/\v.rdH a=tkH (v.ldV a):=by
 unfold Vm.rdE at h;by_cases h0:a=0
 ·rw[μ h0]at h;omega
 ·rw[ϑ h0]at h;by_cases h1:a<0
  ·rw[μ h1]at h;omega
  ·rw[ϑ h1]at h;by_cases h2:v.ldE a=0
   ·rw[μ h2]at h;exact⟨by omega,h2,h,by unfold Vm.rdH;rw[μ ⟨by omega,h2⟩]⟩
   ·rw[ϑ h2]at h;exact absurd h h2
theorem Q66{a:Int}(h0:0<a)(h1:v.ldE a=0)(h2:tkE (v.ldV a)=0):v.rdE a=0/\v.rdH a=tkH (v.ldV a):=by
 unfold Vm.rdE Vm.rdH;rw[ϑ Ω,ϑ Ω,μ h1,μ ⟨h0,h1⟩];exact⟨h2,rfl⟩
structure XhE(v v':Vm)(Q:Int->Prop)(T:Int->Int)(lo hi:Nat):Prop where
 z:T 0=0
 wd:∀a,Q a->∀m:Nat,(m:Int)<v.osz a->v'.ldE (T a+m)=0/\(v'.ldV (T a+m):Int)=if 1<=m/\(m:Int)<=(v.rdH a).p then T (v.ldV (a+m))else v.ldV (a+m)
 lo:∀a,Q a->(lo:Int)<=T a/\T a+v.osz a<=hi
 dj:∀a b,Q a->Q b->a=b\/T a+v.osz a<=T b\/T b+v.osz b<=T a
theorem Img.moved{g:Gph}{F:Nat->Nat}{lo hi lo' hi':Nat}{T:Int->Int}(h:Img v g F lo hi)(ho:g.Ok)(hm:XhE v v' (Rch v (g.S.map λx=>(F x:Int))) T lo' hi')(h1:1<=lo')(h2:hi'<=2147483647):Img v' g (λx=>(T (F x)).toNat) lo' hi':=by
 have hr:=λx (hx:g.Rd x)=>h.rch_of hx
 have ht:∀x,g.Rd x->(((T (F x)).toNat:Nat):Int)=T (F x):=λx hx=>by
  have:=(hm.lo _ (hr x hx)).1;omega
 have hT:∀x,g.Rd x->0<=T (F x)/\T (F x)<=2147483647:=λx hx=>by
  have h3:=hm.lo _ (hr x hx);rw[h.osz ho hx]at h3;omega
 have hs:∀x,g.Rd x->v'.rdE (T (F x))=0/\v'.rdH (T (F x))=v.rdH (F x):=λx hx=>by
  obtain⟨a1,a2,a3,a4⟩:=Xtk (h.rd x hx);have h3:=hm.wd _ (hr x hx) 0 (by rw[h.osz ho hx];unfold GOb.size;omega);rw[ϑ Ω]at h3;simp only[Int.natCast_zero,Int.add_zero]at h3;have h4:=(hm.lo _ (hr x hx)).1;have e:v'.ldV (T (F x))=v.ldV (F x):=Ω
  have:=Q66 (v:=v') (a:=T (F x)) Ω h3.1 (by rw[e];exact a3);rw[e]at this;exact⟨this.1,this.2.trans a4.symm⟩
 refine⟨by rw[h.z];show (T 0).toNat=0;rw[hm.z];rfl,λx hx=>?_,λx hx=>?_,λx hx i hi=>?_,λx hx i h3 h4=>?_,λx hx=>?_,λx y hx hy=>?_⟩
 ·show v'.rdE (((T (F x)).toNat:Nat):Int)=0
  rw[ht x hx];exact(hs x hx).1
 ·show v'.rdH (((T (F x)).toNat:Nat):Int)=_
  rw[ht x hx,(hs x hx).2];exact h.hd x hx
 ·show v'.ptE (((T (F x)).toNat:Nat):Int) i=0/\v'.ptV (((T (F x)).toNat:Nat):Int) i=(T (F ((g.ob x).w.getD i 0))).toNat
  rw[ht x hx];obtain⟨p1,p2⟩:=h.pt x hx i hi;obtain⟨q1,q2,q3,q4,q5⟩:=QFc p1;rw[p2]at q5;have hw:=hm.wd _ (hr x hx) (1+i) (by rw[h.osz ho hx];unfold GOb.size;omega)
  have hp:(((1+i:Nat):Int))<=(v.rdH (F x)).p:=by
   rw[h.hd x hx]
   show (((1+i:Nat):Int))<=((g.ob x).p:Int)
   omega
  rw[μ ⟨by omega,hp⟩,show (F x:Int)+((1+i:Nat):Int)=(F x:Int)+1+i by omega,<-q5,show T (F x)+((1+i:Nat):Int)=T (F x)+1+i by omega]at hw
  have hb:0<=T (F ((g.ob x).w.getD i 0))/\T (F ((g.ob x).w.getD i 0))<=2147483647:=by
   by_cases e:(g.ob x).w.getD i 0=0
   ·rw[e,h.z];show 0<=T 0/\T 0<=_;rw[hm.z];omega
   ·exact hT _ (hx.step (Jat ho hx hi) e)
  obtain⟨r1,r2⟩:=XXe (v:=v') (a:=T (F x)) (i:=i) (hs x hx).1 (by rw[(hs x hx).2];exact q2) hw.1 (by have:=hw.2;omega);exact⟨r1,by rw[r2];have:=hw.2;omega⟩
 ·show v'.ldE (((T (F x)).toNat+1+i:Nat):Int)=0/\v'.ldV (((T (F x)).toNat+1+i:Nat):Int)=_
  obtain⟨w1,w2⟩:=h.wd x hx i h3 h4;have hw:=hm.wd _ (hr x hx) (1+i) (by rw[h.osz ho hx];unfold GOb.size;omega)
  have hp:¬(((1+i:Nat):Int))<=(v.rdH (F x)).p:=by
   rw[h.hd x hx]
   show ¬(((1+i:Nat):Int))<=((g.ob x).p:Int)
   omega
  rw[ϑ (λhh=>hp hh.2),show (F x:Int)+((1+i:Nat):Int)=((F x+1+i:Nat):Int)by omega,w2]at hw;have e:(((T (F x)).toNat+1+i:Nat):Int)=T (F x)+((1+i:Nat):Int):=by have:=ht x hx;omega
  rw[e];exact⟨hw.1,by have:=hw.2;omega⟩
 ·have h3:=hm.lo _ (hr x hx);rw[h.osz ho hx]at h3
  show lo'<=(T (F x)).toNat/\(T (F x)).toNat+_<=hi'
  omega
 ·have h3:=hm.dj _ _ (hr x hx) (hr y hy);rw[h.osz ho hx,h.osz ho hy]at h3;have e1:=ht x hx;have e2:=ht y hy
  show x=y\/(T (F x)).toNat+_<=(T (F y)).toNat\/(T (F y)).toNat+_<=(T (F x)).toNat
  rcases h3 with h3|h3|h3
  ·exact .inl (h.inj hx hy Ω)
  ·exact .inr (.inl Ω)
  ·exact .inr (.inr Ω)
end
section
open Go.RowKit Word
theorem JW8{v v1 v2:Vm}{rs:List Int}{c:Cf}{L:List Ob}{n k kq:Nat}(hv:ZAR v)(hM:Zx6 v rs n L)(hf:XKC v L)(hD:Qgx v rs c L v1 v2 k kq)
  (hu:∀a:Nat,c.to<=a->a<c.to+sizes L->¬(c.fr/v.pl.pg<=a/v.pl.pg/\a/v.pl.pg<c.fr/v.pl.pg+kq)):
  XhE v (umN v2 (c.fr/v.pl.pg) kq) (Rch v rs) (ZQE v1 (QnE v1 rs k) c.to) c.to (c.to+sizes L):=by
 have hw:=hD.gr.wider hv;have hS:=hM.sound;have X:=hD.st;obtain⟨J,N⟩:=hD.cx.done hD.ke;have Xf:=hD.ke;have I:=hD.cx.map;have htop:=hD.cx.top;obtain⟨O,hO⟩:∃O,O=QnE v1 rs k:=⟨_,rfl⟩;rw[<-hO]at X J N Xf⊢;have Z:∀a,Rch v rs a->∃(j:Nat) (hj:j<O.length),O[j]=a:=λa ha=>ζt (J a ((hw.rch hS a).2 ha));have U:∀a,Rch v rs a->v1.rdH a=v.rdH a:=λa ha=>(hw.rd (hS.rd a ha)).2;have Y:∀a,Rch v rs a->v1.osz a=v.osz a:=λa ha=>by unfold Vm.osz;rw[U a ha]
 have h0:(0:Int)∉O:=λh=>by
  have:=(QXB (hD.cx.mks.sound.rd _ (X.rch 0 h))).1;omega
 have Xc:v2.pl.pg=v.pl.pg:=X.cp.sm.pg.trans hD.gr.pg;have Xb:v2.n=v1.n:=X.cp.sm.n;refine⟨YPv v1 _ h0,λa ha m hm=>?_,λa ha=>?_,λa b ha hb=>?_⟩
 ·obtain⟨j,hj,rfl⟩:=Z a ha;have V:(m:Int)<v1.osz O[j]:=by rw[Y _ ha];exact hm
  have hpl:=place_lt v1 hj V;have hs0:=YB0 v1 (O.take j);obtain⟨i,hi⟩:∃i:Nat,(i:Int)=Xmc v1 (O.take j)+m:=⟨(Xmc v1 (O.take j)+m).toNat,by omega⟩;have hil:i<sizes L:=Ω
  rw[XjJ v1 X.nd _ hj];have e:(c.to:Int)+Xmc v1 (O.take j)+m=((c.to+i:Nat):Int):=Ω
  have E:¬(c.fr/v.pl.pg<=(c.to+i)/v2.pl.pg/\(c.to+i)/v2.pl.pg<c.fr/v.pl.pg+kq):=by
   rw[Xc];exact hu (c.to+i) Ω Ω
  have Xa:c.to+i<v2.n:=by rw[Xb];omega
  rw[e,X0U X.cp.ok _ _ Xa,VIn X.cp.ok _ _ Xa E,ϑ E,X.cp.sm.ldE];refine⟨I _ Ω Ω,?_⟩;obtain⟨o,ho,D⟩:=hM.all _ ha;have Xe:=(hM.mkd.ats o ho).2.2
  have Xd:v.ldE (O[j]+m)=0:=by
   rw[<-D];refine hf o ho m ?_;rw[D]at Xe;omega
  have A:=(hw.le _ Xd).2;have G:O.getD j 0=O[j]:=by rw[φ,δ hj];rfl
  rw[<-e];by_cases hT:1<=m/\(m:Int)<=(v.rdH O[j]).p
  ·rw[μ hT];have:=X.cp.trn j hj m V ⟨hT.1,.inl ⟨by omega,by rw[G,U _ ha];exact hT.2⟩⟩;rw[this,A]
  ·rw[ϑ hT,X.cp.raw j hj m V (λht=>hT (by
    obtain⟨t1,t2|t2⟩:=ht
    ·refine⟨t1,?_⟩;have:=t2.2;rw[G,U _ ha]at this;exact this
    ·omega)),A]
 ·obtain⟨j,hj,rfl⟩:=Z a ha;have:=VEW v1 (c.to:Int) (χ hj);rw[Y _ ha]at this;omega
 ·obtain⟨j,hj,rfl⟩:=Z a ha;obtain⟨i,hi,rfl⟩:=Z b hb;rw[XjJ v1 X.nd _ hj,XjJ v1 X.nd _ hi];have s1:=VZm v1 hj;have s2:=VZm v1 hi;rw[Y _ ha]at s1;rw[Y _ hb]at s2;rcases ζW j i with h|h|h
  ·have:=XCA v1 O (show j+1<=i from h);exact .inr (.inl Ω)
  ·subst h;exact .inl rfl
  ·have:=XCA v1 O (show i+1<=j from h);exact .inr (.inr Ω)
end
section
open Go.RowKit
theorem YER.put{P:Program}{k e t:TypeId}{w:World}{b n:Nat}{f:Int->Option Value}(h:YER P k w b n f)(K:Maps.Keyed P k)(ht:P.underlying t=some (.map k e))(hk:P.underlying k=some (.int .i64))(hn:n<maxLen)(key:Int)(val:Value)(hw:(Lit.int .i64 key).wf=true):
  ∃w',(Instr.mapUpdate t (.map (some b)) (.int .i64 key) val).run P w=.ok () w'/\YER P k w' b (n+1) (λy=>if y=key then some val else f y)/\XF4 (λi=>i=b) w w':=by
 obtain⟨D,hD,hf⟩:=h;have X:=Maps.keyOf_int_mk (P:=P) hk hw;obtain⟨w',Z,h1,h2⟩:=hD.update K ht hn X (val:=val) (d:=.held val) (ps:=[]) rfl;refine⟨w',Z,⟨_,h1,λy hy=>?_⟩,VxQ h2 _ (λi hi _=>by cases hi;rfl)⟩;by_cases e:y=key
 ·subst e;dsimp only;rw[μ rfl];refine⟨Maps.has_put_same hD.isMap (K.key X) _,λv hv z=>?_⟩;cases hv;exact Maps.atKey_put_same hD.isMap (K.key X) _ _
 ·dsimp only;rw[ϑ e];have Y:(Lit.int .i64 y)≠.int .i64 key:=λh=>e (by injection h);exact⟨(Maps.has_put_other Y _).trans (hf y hy).1,λv hv z=>(Maps.atKey_put_other Y _ _).trans ((hf y hy).2 v hv z)⟩
end
section
open Go.RowKit Word
theorem Gph.Rd.of{g g':Gph}(hs:∀r∈g'.S,r≠0->g.Rd r)(hp:∀x,g.Rd x->∀b∈g'.pts x,b≠0->g.Rd b){x:Nat}(h:g'.Rd x):g.Rd x:=h g.Rd hs hp
section
variable {v v':Vm} {g g':Gph} {F:Nat->Nat} {lo hi:Nat}
theorem Img.sub(h:Img v g F lo hi)(hr:∀x,g'.Rd x->g.Rd x)(ho:∀x,g'.Rd x->g'.ob x=g.ob x):Img v g' F lo hi:=by
 refine⟨h.z,λx hx=>h.rd x (hr x hx),λx hx=>by rw[ho x hx];exact h.hd x (hr x hx),λx hx i hi=>?_,λx hx i h1 h2=>?_,λx hx=>by rw[ho x hx];exact h.lo x (hr x hx),λx y hx hy=>by rw[ho x hx,ho y hy];exact h.dj x y (hr x hx) (hr y hy)⟩
 ·rw[ho x hx]at hi⊢;exact h.pt x (hr x hx) i hi
 ·rw[ho x hx]at h1 h2⊢;exact h.wd x (hr x hx) i h1 h2
theorem Img.slot(h:Img v g F lo hi){i y:Nat}(hy:y=0\/g.Rd y):Img v ⟨g.L,g.S.set i y⟩ F lo hi:=by
 have hr:∀x,(⟨g.L,g.S.set i y⟩:Gph).Rd x->g.Rd x:=λx hx=>Gph.Rd.of (g:=g) (g':=⟨g.L,g.S.set i y⟩) (λr hr h0=>by
  rcases ζp hr with h1|h1
  ·exact Gph.Rd.root h1 h0
  ·subst h1;exact hy.resolve_left h0) (λx hx b hb h0=>hx.step hb h0) hx
 exact h.sub hr (λx _=>rfl)
theorem Gph.Ok.slot(h:g.Ok){i y:Nat}(hy:y<=g.L.length):(⟨g.L,g.S.set i y⟩:Gph).Ok:=⟨h.len,h.pt,λz hz=>by
 rcases ζp hz with h1|h1
 ·exact h.st z h1
 ·rw[h1];exact hy⟩
theorem Img.mem(h:Img v g F lo hi)(he:∀a:Nat,lo<=a->a<hi->v.ldE a=0->v'.ldE a=0/\v'.ldV a=v.ldV a):Img v' g F lo hi:=by
 have X:∀x,g.Rd x->∀m,m<(g.ob x).size->lo<=F x+m/\F x+m<hi:=λx hx m hm=>by
  have:=h.lo x hx;omega
 have hs:∀x,g.Rd x->v'.rdE (F x)=0/\v'.rdH (F x)=v.rdH (F x):=λx hx=>by
  obtain⟨a1,a2,a3,a4⟩:=Xtk (h.rd x hx);obtain⟨b1,b2⟩:=X x hx 0 (by unfold GOb.size;omega);obtain⟨e1,e2⟩:=he (F x) Ω Ω a2;have:=Q66 (v:=v') a1 e1 (by rw[e2];exact a3);rw[e2]at this;exact⟨this.1,this.2.trans a4.symm⟩
 refine⟨h.z,λx hx=>(hs x hx).1,λx hx=>(hs x hx).2.trans (h.hd x hx),λx hx i hi=>?_,λx hx i h1 h2=>?_,h.lo,h.dj⟩
 ·obtain⟨p1,p2⟩:=h.pt x hx i hi;obtain⟨q1,q2,q3,q4,q5⟩:=QFc p1;obtain⟨b1,b2⟩:=X x hx (1+i) (by unfold GOb.size;omega);have e:(F x:Int)+1+(i:Int)=((F x+(1+i):Nat):Int):=Ω
  rw[e]at q3 q4 q5;obtain⟨e1,e2⟩:=he _ b1 b2 q3;have:=XXe (v:=v') (a:=(F x:Int)) (i:=i) (hs x hx).1 (by rw[(hs x hx).2];exact q2) (by rw[e];exact e1) (by rw[e,e2];exact q4);exact⟨this.1,by rw[this.2,e,e2,<-q5];exact p2⟩
 ·obtain⟨w1,w2⟩:=h.wd x hx i h1 h2;obtain⟨b1,b2⟩:=X x hx (1+i) (by unfold GOb.size;omega);rw[show F x+1+i=F x+(1+i)by omega]at w1 w2⊢;obtain⟨e1,e2⟩:=he _ b1 b2 w1;exact⟨e1,by rw[e2];exact w2⟩
end
end
section
open Go.RowKit Word
open Classical in
theorem Xd6.ex{v:Vm}{rs:List Int}{n:Nat}(hS:Xd6 v rs n):∃L,Zx6 v rs n L:=by
 have V:∀a,Rch v rs a->∃j:Nat,j<n/\(j:Int)=a:=λa ha=>by
  have h1:=hS.rm a ha;have h2:=QXB (hS.rd a ha);exact⟨a.toNat,by omega,by omega⟩
 obtain⟨M,hM⟩:∃M,M=((List.range n).filter (λj=>decide (Rch v rs ((j:Nat):Int)))).map (λj=>(j,(v.osz ((j:Nat):Int)).toNat)):=⟨_,rfl⟩
 have X:∀o∈M,∃j:Nat,j<n/\Rch v rs (j:Int)/\o=(j,(v.osz ((j:Nat):Int)).toNat):=λo ho=>by
  rw[hM]at ho;obtain⟨j,hj,rfl⟩:=ξp.1 ho;obtain⟨h1,h2⟩:=ξ6.1 hj;exact⟨j,ζP.1 h1,of_decide_eq_true h2,rfl⟩
 have Y:∀a,Rch v rs a->Hs M a:=λa ha=>by
  obtain⟨j,hj,rfl⟩:=V a ha;exact⟨(j,(v.osz ((j:Nat):Int)).toNat),by rw[hM];exact ξp.2 ⟨j,ξ6.2 ⟨ζP.2 hj,κ ha⟩,rfl⟩,rfl⟩
 refine⟨M,⟨⟨⟨?_,λo ho=>?_⟩,λo ho=>?_⟩,Y,λo ho=>?_⟩⟩
 ·rw[hM,ψu];refine ξ5 ?_ (List.Pairwise.filter _ List.pairwise_lt_range);intro i j hi hj hij;have Z:=of_decide_eq_true (ξ6.1 hi).2;have J:=of_decide_eq_true (ξ6.1 hj).2;have h1:=QXB (hS.rd _ Z);have h2:=QXB (hS.rd _ J);dsimp only;rcases hS.dj _ _ Z J with e|e|e
  ·omega
  ·omega
  ·omega
 ·obtain⟨j,hj,hr,rfl⟩:=X o ho;have h1:=hS.rm _ hr;have h2:=QXB (hS.rd _ hr);dsimp only;omega
 ·obtain⟨j,hj,hr,rfl⟩:=X o ho;have h2:=QXB (hS.rd _ hr);exact⟨hr,hS.rd _ hr,by dsimp only;omega⟩
 ·obtain⟨j,hj,hr,rfl⟩:=X o ho;intro i hi;have U:=hS.pt _ hr i hi;exact⟨U,λh0=>Y _ (hr.step ⟨hS.rd _ hr,i,hi,U,h0,rfl⟩)⟩
section
variable {v:Vm} {g:Gph} {F:Nat->Nat} {lo hi:Nat}
theorem Img.marks(h:Img v g F lo hi)(ho:g.Ok){n:Nat}(hn:hi<=n):∃L,Zx6 v (g.S.map λx=>(F x:Int)) n L:=by
 have hS:=h.sound ho;exact Xd6.ex ⟨hS.rd,hS.pt,λa ha=>by have:=hS.rm a ha;omega,hS.dj⟩
theorem Img.full(h:Img v g F lo hi)(ho:g.Ok){n:Nat}{L:List Ob}(hM:Zx6 v (g.S.map λx=>(F x:Int)) n L):XKC v L:=λo hoL m hm=>by
 obtain⟨h1,h2,h3⟩:=hM.mkd.ats o hoL;obtain⟨x,hx,e⟩:=h.rch ho h1;rw[e,h.osz ho hx]at h3;have h3:o.2=(g.ob x).size:=Ω
 rw[e];rcases ζE m with rfl|hp
 ·have:=(Xtk (h.rd x hx)).2.1;simpa using this
 ·obtain⟨i,rfl⟩:∃i,m=1+i:=⟨m-1,by omega⟩;have hi:i<(g.ob x).p+(g.ob x).f+(g.ob x).k:=by rw[h3]at hm;unfold GOb.size at hm;omega
  rcases γ i (g.ob x).p with X|X
  ·have:=(QFc (h.pt x hx i X).1).2.2.1;rw[show (F x:Int)+((1+i:Nat):Int)=(F x:Int)+1+i by omega];exact this
  ·have:=(h.wd x hx i X hi).1;rw[show (F x:Int)+((1+i:Nat):Int)=((F x+1+i:Nat):Int)by omega];exact this
theorem Img.inn(h:Img v g F lo hi)(ho:g.Ok){n:Nat}{L:List Ob}(hM:Zx6 v (g.S.map λx=>(F x:Int)) n L):∀o∈L,lo<=o.1/\o.1+o.2<=hi:=λo hoL=>by
 obtain⟨h1,h2,h3⟩:=hM.mkd.ats o hoL;obtain⟨x,hx,e⟩:=h.rch ho h1;rw[e,h.osz ho hx]at h3;have:=h.lo x hx;omega
def Gph.words(g:Gph):Nat:=(g.all.map λx=>(g.ob x).size).sum
theorem Img.sum(h:Img v g F lo hi)(ho:g.Ok):∀l:List Nat,(∀x∈l,g.Rd x)->Xmc v (l.map λx=>(F x:Int))=((l.map λx=>(g.ob x).size).sum:Nat)
 | [],_=>rfl
 | x :: l,hl=>by
  have h1:=h.sum ho l (λy hy=>hl y (ζo _ hy));simp only[ξX,Xmc,List.sum_cons];rw[h1,h.osz ho (hl x ζg)];omega
theorem Img.words(h:Img v g F lo hi)(ho:g.Ok){n:Nat}{L:List Ob}(hM:Zx6 v (g.S.map λx=>(F x:Int)) n L):sizes L=g.words:=by
 have hz:∀o∈L,(o.2:Int)=v.osz o.1:=λo hoL=>(hM.mkd.ats o hoL).2.2;have X:∀x∈g.all,g.Rd x:=λx hx=>ho.mem_all.1 hx;have hsum:=h.sum ho g.all X
 have Z:(g.all.map λx=>(F x:Int)).Nodup:=by
  have h1:=(Zeq g.pts g.L.length g.S).1;rw[List.Nodup,ψu];refine ξ5 ?_ h1;intro a b ha hb Y e;exact Y (h.inj (X a ha) (X b hb) Ω)
 have h1:Xmc v (g.all.map λx=>(F x:Int))<=sizes L:=XaN hz Z (λa ha=>by
  obtain⟨x,hx,rfl⟩:=ξp.1 ha
  exact hM.all _ (h.rch_of (X x hx)))
 have h2:(sizes L:Int)<=Xmc v (g.all.map λx=>(F x:Int)):=VJ9 hz (hM.mkd.good.pw.imp_of_mem (λ{a b} ha hb Y=>by have:=(hM.mkd.good.sz a ha).1;omega)) (λo hoL=>by
  obtain⟨x,hx,e⟩:=h.rch ho (hM.mkd.ats o hoL).1
  exact ξp.2 ⟨x,ho.mem_all.2 hx,e.symm⟩)
 unfold Gph.words;omega
end
end
section
open Go.RowKit Word
def GOb.put(o:GOb)(i y:Nat):GOb:=⟨o.p,o.f,o.k,o.w.set i y⟩
def Gph.put(g:Gph)(x i y:Nat):Gph:=⟨g.L.set (x-1) ((g.ob x).put i y),g.S⟩
section
variable {v v':Vm} {g:Gph} {F:Nat->Nat} {lo hi x i y:Nat}
theorem Gph.put_ob(h1:1<=x)(h2:x<=g.L.length)(z:Nat):(g.put x i y).ob z=if z=x then (g.ob x).put i y else g.ob z:=by
 by_cases e:z=x
 ·subst e;rw[μ rfl]
  show (if z=0 then _ else (g.L.set (z-1) ((g.ob z).put i y)).getD (z-1) ⟨0,0,0,[]⟩)=_
  rw[ϑ Ω,φ,ψA Ω];rfl
 ·rw[ϑ e]
  show (if z=0 then _ else (g.L.set (x-1) ((g.ob x).put i y)).getD (z-1) ⟨0,0,0,[]⟩)=if z=0 then _ else g.L.getD (z-1) ⟨0,0,0,[]⟩
  by_cases hz:z=0
  ·rw[μ hz,μ hz]
  ·rw[ϑ hz,ϑ hz,φ,φ,ψG Ω]
theorem Gph.put_rd(h1:1<=x)(h2:x<=g.L.length)(hy:i<(g.ob x).p->y=0\/g.Rd y){z:Nat}(h:(g.put x i y).Rd z):g.Rd z:=by
 refine Gph.Rd.of (g:=g) (g':=g.put x i y) (λr hr h0=>Gph.Rd.root hr h0) (λa ha b hb h0=>?_) h;unfold Gph.pts at hb;rw[Gph.put_ob h1 h2]at hb;by_cases e:a=x
 ·subst e;rw[μ rfl]at hb;have hb:b∈((g.ob a).w.set i y).take (g.ob a).p:=hb;rcases γ i (g.ob a).p with hi|hi
  ·rw[List.take_set]at hb;rcases ζp hb with h3|h3
   ·exact ha.step h3 h0
   ·subst h3;exact(hy hi).resolve_left h0
  ·rw[List.take_set_of_le hi]at hb;exact ha.step hb h0
 ·rw[ϑ e]at hb;exact ha.step hb h0
theorem Gph.Ok.put(h:g.Ok)(h1:1<=x)(h2:x<=g.L.length)(hy:i<(g.ob x).p->y<=g.L.length):(g.put x i y).Ok:=by
 have hx:=Gph.ob_mem h1 h2;have hl:(g.put x i y).L.length=g.L.length:=υ;refine⟨λo ho=>?_,λo ho z hz=>?_,λz hz=>by rw[hl];exact h.st z hz⟩
 ·rcases ζp ho with h3|h3
  ·exact h.len o h3
  ·rw[h3];have:=h.len _ hx;exact⟨by show ((g.ob x).w.set i y).length=_;rw[υ];exact this.1,this.2⟩
 ·rw[hl];rcases ζp ho with h3|h3
  ·exact h.pt o h3 z hz
  ·rw[h3]at hz;have hz:z∈((g.ob x).w.set i y).take (g.ob x).p:=hz;rcases γ i (g.ob x).p with hi|hi
   ·rw[List.take_set]at hz;rcases ζp hz with h4|h4
    ·exact h.pt _ hx z h4
    ·rw[h4];exact hy hi
   ·rw[List.take_set_of_le hi]at hz;exact h.pt _ hx z hz
theorem QZI(l:List Nat)(i j y:Nat)(hi:i<l.length):(l.set i y).getD j 0=if j=i then y else l.getD j 0:=by
 rw[φ,φ];by_cases e:j=i
 ·subst e;rw[μ rfl,ψA hi];rfl
 ·rw[ϑ e,ψG (λh=>e h.symm)]
theorem Img.put{top:Nat}(h:Img v g F lo top)(ho:g.Ok)(hx:g.Rd x)(hi:i<(g.ob x).p+(g.ob x).f+(g.ob x).k)(hy:i<(g.ob x).p->y=0\/g.Rd y)(ht:top<=2147483647)
  (hE:∀a:Nat,lo<=a->a<top->v.ldE a=0->v'.ldE a=0/\v'.ldV a=if a=F x+1+i then (if i<(g.ob x).p then F y else y)else v.ldV a):Img v' (g.put x i y) F lo top:=by
 obtain⟨x1,x2⟩:=ho.rd hx;have hr:∀z,(g.put x i y).Rd z->g.Rd z:=λz hz=>Gph.put_rd x1 x2 hy hz;have U:=λz=>Gph.put_ob (i:=i) (y:=y) x1 x2 z
 have X:∀z,((g.put x i y).ob z).p=(g.ob z).p/\((g.put x i y).ob z).f=(g.ob z).f/\((g.put x i y).ob z).k=(g.ob z).k/\((g.put x i y).ob z).size=(g.ob z).size/\((g.put x i y).ob z).hdr=(g.ob z).hdr:=λz=>by
  rw[U]
  split
  ·rename_i e;subst e;exact⟨rfl,rfl,rfl,rfl,rfl⟩
  ·exact⟨rfl,rfl,rfl,rfl,rfl⟩
 have hlen:=(ho.len _ (Gph.ob_mem x1 x2)).1
 have hw:∀z,g.Rd z->∀j,((g.put x i y).ob z).w.getD j 0=if z=x/\j=i then y else (g.ob z).w.getD j 0:=λz _ j=>by
  rw[U];by_cases e:z=x
  ·subst e;rw[μ rfl]
   show ((g.ob z).w.set i y).getD j 0=_
   rw[QZI _ _ _ _ Ω];by_cases e2:j=i
   ·rw[μ e2,μ ⟨rfl,e2⟩]
   ·rw[ϑ e2,ϑ (λhh=>e2 hh.2)]
  ·rw[ϑ e,ϑ (λhh=>e hh.1)]
 have Y:∀z,g.Rd z->∀m,m<(g.ob z).size->lo<=F z+m/\F z+m<top:=λz hz m hm=>by
  have:=h.lo z hz;omega
 have Z:∀z,g.Rd z->∀m,m<(g.ob z).size->(F z+m=F x+1+i↔z=x/\m=1+i):=λz hz m hm=>by
  have hsx:(g.ob x).size=1+(g.ob x).p+(g.ob x).f+(g.ob x).k:=rfl;constructor
  ·intro e;rcases h.dj z x hz hx with e2|e2|e2
   ·subst e2;exact⟨rfl,by omega⟩
   ·omega
   ·omega
  ·rintro⟨rfl,rfl⟩;omega
 have hs:∀z,g.Rd z->v'.rdE (F z)=0/\v'.rdH (F z)=v.rdH (F z):=λz hz=>by
  obtain⟨a1,a2,a3,a4⟩:=Xtk (h.rd z hz);have J:0<(g.ob z).size:=by unfold GOb.size;omega
  obtain⟨b1,b2⟩:=Y z hz 0 J;obtain⟨e1,e2⟩:=hE (F z) Ω Ω a2;rw[ϑ (λe=>by have:=(Z z hz 0 J).1 Ω;omega)]at e2;have:=Q66 (v:=v') a1 e1 (by rw[e2];exact a3);rw[e2]at this;exact⟨this.1,this.2.trans a4.symm⟩
 have hF:∀b,b=0\/g.Rd b->F b<=2147483647:=λb hb=>by
  rcases hb with rfl|hb
  ·rw[h.z];omega
  ·have:=h.lo b hb;omega
 refine⟨h.z,λz hz=>(hs z (hr z hz)).1,λz hz=>by rw[(X z).2.2.2.2];exact(hs z (hr z hz)).2.trans (h.hd z (hr z hz)),λz hz j hj=>?_,λz hz j h1 h2=>?_,λz hz=>by rw[(X z).2.2.2.1];exact h.lo z (hr z hz),λz z' hz hz'=>by rw[(X z).2.2.2.1,(X z').2.2.2.1];exact h.dj z z' (hr z hz) (hr z' hz')⟩
 ·rw[(X z).1]at hj;have hq:=hr z hz;obtain⟨p1,p2⟩:=h.pt z hq j hj;obtain⟨q1,q2,q3,q4,q5⟩:=QFc p1;have hm:1+j<(g.ob z).size:=by unfold GOb.size;omega
  obtain⟨b1,b2⟩:=Y z hq (1+j) hm;have e:(F z:Int)+1+(j:Int)=((F z+(1+j):Nat):Int):=Ω
  rw[e]at q3 q4 q5;obtain⟨e1,e2⟩:=hE _ b1 b2 q3;rw[hw z hq];by_cases hc:z=x/\j=i
  ·obtain⟨rfl,rfl⟩:=hc;rw[μ Ω,μ hj]at e2;have:=XXe (v:=v') (a:=(F z:Int)) (i:=j) (hs z hq).1 (by rw[(hs z hq).2];exact q2) (by rw[e];exact e1) (by rw[e,e2];exact hF _ (hy hj));rw[μ ⟨rfl,rfl⟩];exact⟨this.1,by rw[this.2,e,e2]⟩
  ·rw[ϑ (λhh=>by have:=(Z z hq (1+j) hm).1 hh;exact hc ⟨this.1,by omega⟩)]at e2;have:=XXe (v:=v') (a:=(F z:Int)) (i:=j) (hs z hq).1 (by rw[(hs z hq).2];exact q2) (by rw[e];exact e1) (by rw[e,e2];exact q4);rw[ϑ hc];exact⟨this.1,by rw[this.2,e,e2,<-q5];exact p2⟩
 ·rw[(X z).1]at h1;rw[(X z).1,(X z).2.1,(X z).2.2.1]at h2;have hq:=hr z hz;obtain⟨w1,w2⟩:=h.wd z hq j h1 h2;have hm:1+j<(g.ob z).size:=by unfold GOb.size;omega
  obtain⟨b1,b2⟩:=Y z hq (1+j) hm;rw[show F z+1+j=F z+(1+j)by omega]at w1 w2⊢;obtain⟨e1,e2⟩:=hE _ b1 b2 w1;refine⟨e1,?_⟩;rw[hw z hq,e2];by_cases hc:z=x/\j=i
  ·obtain⟨rfl,rfl⟩:=hc;rw[μ Ω,ϑ Ω,μ ⟨rfl,rfl⟩]
  ·rw[ϑ (λhh=>by have:=(Z z hq (1+j) hm).1 hh;exact hc ⟨this.1,by omega⟩),ϑ hc];exact w2
end
end
section
open Go.RowKit Word
def GOb.new(p f k:Nat):GOb:=⟨p,f,k,List.replicate (p+f+k) 0⟩
def Gph.add(g:Gph)(s p f k:Nat):Gph:=⟨g.L++[GOb.new p f k],g.S.set s (g.L.length+1)⟩
section
variable {v v':Vm} {g:Gph} {F:Nat->Nat} {lo hi s p f k:Nat}
theorem Gph.add_ob(z:Nat)(hz:z<=g.L.length):(g.add s p f k).ob z=g.ob z:=by
 show (if z=0 then _ else (g.L++[GOb.new p f k]).getD (z-1) ⟨0,0,0,[]⟩)=if z=0 then _ else g.L.getD (z-1) ⟨0,0,0,[]⟩
 by_cases h0:z=0
 ·rw[μ h0,μ h0]
 ·rw[ϑ h0,ϑ h0,φ,φ,ζB Ω]
theorem Gph.add_new:(g.add s p f k).ob (g.L.length+1)=GOb.new p f k:=by
 show (if g.L.length+1=0 then _ else (g.L++[GOb.new p f k]).getD (g.L.length+1-1) ⟨0,0,0,[]⟩)=_
 rw[ϑ Ω,Nat.add_sub_cancel,φ,ζQ (π _),Nat.sub_self];rfl
theorem XYc(j:Nat):(GOb.new p f k).w.getD j 0=0:=by
 show (List.replicate (p+f+k) 0).getD j 0=0
 rw[φ,ζD]
 split <;> rfl
theorem Gph.add_pts{b:Nat}(h:b∈(g.add s p f k).pts (g.L.length+1)):b=0:=by
 unfold Gph.pts at h;rw[Gph.add_new]at h;exact(List.mem_replicate.1 (ψj h)).2
theorem Gph.add_rd(ho:g.Ok){z:Nat}(h:(g.add s p f k).Rd z):g.Rd z\/z=g.L.length+1:=by
 refine h (λz=>g.Rd z\/z=g.L.length+1) (λr hr h0=>?_) (λa ha b hb h0=>?_)
 ·rcases ζp hr with h1|h1
  ·exact .inl (Gph.Rd.root h1 h0)
  ·exact .inr h1
 ·rcases ha with ha|rfl
  ·unfold Gph.pts at hb;rw[Gph.add_ob a (ho.rd ha).2]at hb;exact .inl (ha.step hb h0)
  ·exact absurd (Gph.add_pts hb) h0
theorem Gph.Ok.add(h:g.Ok)(hs:p+f+k<=255):(g.add s p f k).Ok:=by
 have hl:(g.add s p f k).L.length=g.L.length+1:=by show (g.L++[GOb.new p f k]).length=_;rw[ζk];rfl
 refine⟨λo ho=>?_,λo ho z hz=>?_,λz hz=>?_⟩
 ·rcases ζj.1 ho with h1|h1
  ·exact h.len o h1
  ·rw[ζs.1 h1];exact⟨ζC,hs⟩
 ·rw[hl];rcases ζj.1 ho with h1|h1
  ·have:=h.pt o h1 z hz;omega
  ·rw[ζs.1 h1]at hz;have:z=0:=(List.mem_replicate.1 (ψj hz)).2;omega
 ·rw[hl];rcases ζp hz with h1|h1
  ·have:=h.st z h1;omega
  ·omega
theorem Img.add(h:Img v g F lo hi)(ho:g.Ok)(hs:p+f+k<=255){A:Nat}(hA:hi<=A)(hlo:lo<=A)(hr:v'.rdE A=0)(hh:v'.rdH A=(GOb.new p f k).hdr)(hz:∀m:Nat,m<p+f+k->v'.ldE (A+1+m:Nat)=0/\v'.ldV (A+1+m:Nat)=0)
  (he:∀a:Nat,lo<=a->a<hi->v.ldE a=0->v'.ldE a=0/\v'.ldV a=v.ldV a):Img v' (g.add s p f k) (λx=>if x=g.L.length+1 then A else F x) lo (A+1+p+f+k):=by
 have hm:=h.mem he;have X:∀z,g.Rd z->z<=g.L.length/\¬z=g.L.length+1:=λz hz=>by have:=ho.rd hz;omega
 have N:(GOb.new p f k).size=1+p+f+k:=rfl;have Z:(GOb.new p f k).p=p:=rfl;have U:(GOb.new p f k).f=f:=rfl;have J:(GOb.new p f k).k=k:=rfl;refine⟨?_,λz hz'=>?_,λz hz'=>?_,λz hz' i hi'=>?_,λz hz' i a1 a2=>?_,λz hz'=>?_,λz z' hz1 hz2=>?_⟩
 ·show (if 0=g.L.length+1 then A else F 0)=0
  rw[ϑ Ω];exact h.z
 ·show v'.rdE ((if z=g.L.length+1 then A else F z:Nat):Int)=0
  rcases Gph.add_rd ho hz' with hq|rfl
  ·rw[ϑ (X z hq).2];exact hm.rd z hq
  ·rw[μ rfl];exact hr
 ·show v'.rdH ((if z=g.L.length+1 then A else F z:Nat):Int)=_
  rcases Gph.add_rd ho hz' with hq|rfl
  ·rw[ϑ (X z hq).2,Gph.add_ob z (X z hq).1];exact hm.hd z hq
  ·rw[μ rfl,Gph.add_new];exact hh
 ·show v'.ptE ((if z=g.L.length+1 then A else F z:Nat):Int) i=0/\v'.ptV ((if z=g.L.length+1 then A else F z:Nat):Int) i=(if ((g.add s p f k).ob z).w.getD i 0=g.L.length+1 then A else F (((g.add s p f k).ob z).w.getD i 0))
  rcases Gph.add_rd ho hz' with hq|rfl
  ·rw[Gph.add_ob z (X z hq).1]at hi'⊢;have hy:=ho.pts_le (Jat ho hq hi');rw[ϑ (X z hq).2,ϑ Ω];exact hm.pt z hq i hi'
  ·rw[Gph.add_new]at hi'⊢;rw[Z]at hi';rw[μ rfl,XYc,ϑ Ω,h.z];obtain⟨b1,b2⟩:=hz i Ω;have e:(A:Int)+1+(i:Int)=((A+1+i:Nat):Int):=Ω
   have V:Yoq (v'.rdH (A:Int)) (i:Int)=1:=by
    rw[hh];unfold Yoq Z3o JQC GOb.hdr inS;rw[Z,U,J]
    have e1:(decide (0<=(p:Int)/\(p:Int)<256)&&decide (0<=(f:Int)/\(f:Int)<256)&&decide (0<=(k:Int)/\(k:Int)<256)&&decide ((p:Int)+(f:Int)+(k:Int)<256))=true:=by
     simp only[ζd,ζe];omega
    simp only[e1,if_true];rw[μ Ω,μ Ω]
   have:=XXe (v:=v') (a:=(A:Int)) (i:=i) hr V (by rw[e];exact b1) (by rw[e,b2];omega);exact⟨this.1,by rw[this.2,e,b2]⟩
 ·show v'.ldE (((if z=g.L.length+1 then A else F z)+1+i:Nat):Int)=0/\v'.ldV (((if z=g.L.length+1 then A else F z)+1+i:Nat):Int)=_
  rcases Gph.add_rd ho hz' with hq|rfl
  ·rw[Gph.add_ob z (X z hq).1]at a1 a2⊢;rw[ϑ (X z hq).2];exact hm.wd z hq i a1 a2
  ·rw[Gph.add_new]at a1 a2⊢;rw[Z,U,J]at a2;rw[μ rfl,XYc];exact hz i a2
 ·show lo<=(if z=g.L.length+1 then A else F z)/\(if z=g.L.length+1 then A else F z)+_<=_
  rcases Gph.add_rd ho hz' with hq|rfl
  ·rw[ϑ (X z hq).2,Gph.add_ob z (X z hq).1];have:=h.lo z hq;omega
  ·rw[μ rfl,Gph.add_new,N];omega
 ·show z=z'\/(if z=g.L.length+1 then A else F z)+_<=(if z'=g.L.length+1 then A else F z')\/(if z'=g.L.length+1 then A else F z')+_<=(if z=g.L.length+1 then A else F z)
  rcases Gph.add_rd ho hz1 with hq|rfl
  ·rcases Gph.add_rd ho hz2 with Y|rfl
   ·rw[ϑ (X z hq).2,ϑ (X z' Y).2,Gph.add_ob z (X z hq).1,Gph.add_ob z' (X z' Y).1];exact h.dj z z' hq Y
   ·rw[ϑ (X z hq).2,μ rfl,Gph.add_ob z (X z hq).1];have:=h.lo z hq;exact .inr (.inl Ω)
  ·rcases Gph.add_rd ho hz2 with Y|rfl
   ·rw[μ rfl,ϑ (X z' Y).2,Gph.add_ob z' (X z' Y).1];have:=h.lo z' Y;exact .inr (.inr Ω)
   ·exact .inl rfl
end
end
section
open Go.RowKit Word
section
variable {v:Vm} {g:Gph} {F:Nat->Nat} {lo hi:Nat}
theorem Img.nodup(h:Img v g F lo hi)(ho:g.Ok):(g.all.map λx=>(F x:Int)).Nodup:=by
 have h1:=(Zeq g.pts g.L.length g.S).1;rw[List.Nodup,ψu];refine ξ5 ?_ h1;intro a b ha hb X e;exact X (h.inj (ho.mem_all.1 ha) (ho.mem_all.1 hb) Ω)
theorem Img.count(h:Img v g F lo hi)(ho:g.Ok){n:Nat}{L:List Ob}(hM:Zx6 v (g.S.map λx=>(F x:Int)) n L):L.length=g.all.length:=by
 have hd:(L.map λo=>(o.1:Int)).Nodup:=by
  rw[List.Nodup,ψu];refine ξ5 ?_ hM.mkd.good.pw;intro a b ha hb hab e;have:=(hM.mkd.good.sz a ha).1;omega
 have h1:=hd.length_le_of_subset (l₂:=g.all.map λx=>(F x:Int)) (λa ha=>by
  obtain⟨o,X,rfl⟩:=ξp.1 ha;obtain⟨x,hx,e⟩:=h.rch ho (hM.mkd.ats o X).1
  exact ξp.2 ⟨x,ho.mem_all.2 hx,e.symm⟩)
 have h2:=(h.nodup ho).length_le_of_subset (l₂:=L.map λo=>(o.1:Int)) (λa ha=>by
  obtain⟨x,hx,rfl⟩:=ξp.1 ha;obtain⟨o,X,e⟩:=hM.all _ (h.rch_of (ho.mem_all.1 hx))
  exact ξp.2 ⟨o,X,e⟩)
 rw[ξ7,ξ7]at h1 h2;omega
end
end
def JHm(b:Nat):Nat:=if b/4503599627370496=0 then b%4503599627370496 else (b%4503599627370496+4503599627370496)*2 ^ (b/4503599627370496-1)
def lv(B:Nat):List Nat->Nat
 | []=>0
 | x :: xs=>x+B*lv B xs
section
open Go.RowKit Word
def Gph.sl(g:Gph)(a:Int):Bool:=decide (0<=a)&&decide (a<g.S.length)
def Gph.at(g:Gph)(a:Int):Nat:=g.S.getD a.toNat 0
def Gph.fdE(g:Gph)(a i kd:Int):Int:=
 if g.sl a then (if g.at a=0 then 18 else if Yoq (g.ob (g.at a)).hdr i=0 then 19 else if Yoq (g.ob (g.at a)).hdr i=kd then 0 else 20)else 17
def Gph.fdV(g:Gph)(a i kd:Int):Nat:=if g.fdE a i kd=0 then (g.ob (g.at a)).w.getD i.toNat 0 else 0
def Gph.setSl(g:Gph)(a:Int)(y:Nat):Gph:=⟨g.L,g.S.set a.toNat y⟩
def Gph.setFd(g:Gph)(a i:Int)(y:Nat):Gph:=g.put (g.at a) i.toNat y
def Gph.alE(C:Nat)(g:Gph)(a:Int)(h:Hdr):Int:=if g.sl a then (if JQC h≠0 then 15 else if (C:Int)<g.words+Z3o h then 21 else 0)else 17
def Gph.alG(C:Nat)(g:Gph)(a:Int)(h:Hdr):Gph:=if g.alE C a h=0 then g.add a.toNat h.p.toNat h.f.toNat h.k.toNat else g
def Gph.two(g:Gph)(a b:Int)(e:Int):Int:=if g.sl a&&g.sl b then e else 17
def Gph.loE(g:Gph)(a b i:Int):Int:=g.two a b (g.fdE b i 1)
def Gph.loG(g:Gph)(a b i:Int):Gph:=if g.loE a b i=0 then g.setSl a (g.fdV b i 1)else g
def Gph.stE(g:Gph)(a i b:Int):Int:=g.two a b (g.fdE a i 1)
def Gph.stG(g:Gph)(a i b:Int):Gph:=if g.stE a i b=0 then g.setFd a i (g.at b)else g
def Gph.wrG(g:Gph)(a i kd:Int)(y:Nat):Gph:=if g.fdE a i kd=0 then g.setFd a i y else g
def Gph.cpG(g:Gph)(a b:Int):Gph:=if g.sl a&&g.sl b then g.setSl a (g.at b)else g
def Gph.clG(g:Gph)(a:Int):Gph:=if g.sl a then g.setSl a 0 else g
def Gph.slE(g:Gph)(a:Int):Int:=if g.sl a then 0 else 17
def Gph.shE(g:Gph)(a:Int):Int:=if g.sl a then (if g.at a=0 then 18 else 0)else 17
def Gph.shH(g:Gph)(a:Int):Hdr:=if g.shE a=0 then (g.ob (g.at a)).hdr else ⟨0,0,0⟩
end
section
open Go.RowKit Word
section
variable {w:World} {r g:Nat} {rs:List Int}
theorem VMw(h:V5d w r g rs){i:Int}(hi:slE rs i≠0):Calls prog 55 #[.pointer (some ⟨r,0,none⟩),.int .i64 i] w λe w'=>e=.returned (.tuple #[.int .i64 0,.int .i64 17])/\Gr w w':=by
 have HC:=hid (Vs4 (h.gr ((Gr.refl w).alloc (.cells #[.int .i64 i] 3))) (b:=w.heap.size) (i:=i) ((Rec.new w 3 [.int .i64 i]).cell (j:=0) rfl));rw[show slE rs i=17 by unfold slE at hi⊢;split at hi;exact absurd rfl hi;rename_i h;rw[ϑ h]]at HC;clear h hi;go_enter func55,ntmps55;go_wp2_with(go_at_call 101;refine HC.o.mono ?_;rintro e w1 ⟨rfl,rfl⟩);go_ret2;exact⟨rfl,(Gr.refl w).alloc _⟩
theorem QST(h:V5d w r g rs){i:Int}(hi:slE rs i≠0)(a:Int):Calls prog 60 #[.pointer (some ⟨r,0,none⟩),.int .i64 i,.int .i64 a] w λe w'=>e=.returned (.int .i64 17)/\Gr w w':=by
 have HC:=hid (Vs4 (h.gr ((Gr.refl w).alloc (.cells #[.int .i64 i] 3))) (b:=w.heap.size) (i:=i) ((Rec.new w 3 [.int .i64 i]).cell (j:=0) rfl));rw[show slE rs i=17 by unfold slE at hi⊢;split at hi;exact absurd rfl hi;rename_i h;rw[ϑ h]]at HC;clear h hi;go_enter func60,ntmps60;go_wp2_with(go_at_call 101;refine HC.o.mono ?_;rintro e w1 ⟨rfl,rfl⟩);go_ret;exact⟨rfl,(Gr.refl w).alloc _⟩
theorem ZP2(h:V5d w r g rs){b:Nat}{i k:Int}(c0:w.cell? ⟨b,0,none⟩=some (.int .i64 i))(c1:w.cell? ⟨b,1,none⟩=some (.int .i64 k)):Calls prog 101 #[.pointer (some ⟨r,0,none⟩),.slice (some ⟨b,0,none⟩) 2 2] w λe w'=>e=.returned (.int .i64 (if slE rs i=0 then slE rs k else 17))/\w=w':=by
 have cr:=h.rcd.cc 0;have Y:=h.le;have hbl:=ZQf c0;clear h;obtain⟨n,hn⟩:∃n,n=rs.length:=⟨_,rfl⟩
 have X:∀j:Int,(slE rs j=0/\decide (j<0)=false/\decide ((n:Int)<=j)=false)\/(slE rs j=17/\(decide (j<0)=true\/(decide (j<0)=false/\decide ((n:Int)<=j)=true))):=λj=>by
  unfold slE;rw[<-hn];rcases(by omega:j<0\/(0<=j/\(n:Int)<=j)\/(0<=j/\j<n))with h1|h1|h1
  ·exact .inr ⟨ϑ Ω,.inl (κ h1)⟩
  ·exact .inr ⟨ϑ Ω,.inr ⟨ψ Ω,κ h1.2⟩⟩
  ·exact .inl ⟨μ h1,ψ Ω,ψ Ω⟩
 rw[<-hn]at cr Y;have HI:=hid (X i);have HK:=hid (X k);generalize slE rs i=x at HI⊢;generalize slE rs k=y at HK⊢;clear X hn;rcases HI.o with⟨rfl,d0,d1⟩|⟨rfl,d⟩
 ·rw[μ rfl];clear HI;go_enter func101,ntmps101;go_wp2
  go_loopw [11] (λs11 wr=>∃j:Nat,j<=2/\wr=w/\s11=.int .i64 j/\Hid (j=2->y=0)) (λs11 _=>2-(intOf s11).toNat)
  case atStart=>exact⟨0,by omega,rfl,by simp,⟨λh=>by omega⟩⟩
  case round=>
   obtain⟨j,hj,rfl,rfl,HY⟩:=hrel;rcases(by omega:j=0\/j=1\/j=2)with rfl|rfl|rfl
   ·go_wp2;go_round
    case rel=>exact⟨1,by omega,trivial,by go_num,⟨λh=>by omega⟩⟩
    case measure=>simp[intOf]
   ·rcases HK.o with⟨rfl,q0,q1⟩|⟨rfl,q|⟨q,q2⟩⟩
    ·clear HK;go_wp2;go_round
     case rel=>exact⟨2,by omega,trivial,by go_num,⟨λ_=>trivial⟩⟩
     case measure=>simp[intOf]
    ·clear HK;go_wp2;go_ret;exact⟨rfl,rfl⟩
    ·clear HK;go_wp2;go_ret;exact⟨rfl,rfl⟩
   ·have hy:=HY.o rfl;subst hy;clear HK;go_wp2;go_ret;exact⟨rfl,rfl⟩
 ·rw[ϑ (by decide)];clear HI HK;rcases d with d0|⟨d0,d1⟩
  all_goals
   go_enter func101,ntmps101;go_wp2
   go_loopw [11] (λs11 wr=>wr=w/\s11=.int .i64 0) (λ_ _=>0)
   case atStart=>exact⟨rfl,rfl⟩
   case round=>
    obtain⟨rfl,rfl⟩:=hrel;go_wp2;go_ret;exact⟨rfl,rfl⟩
def Ywp(rs:List Int)(i k:Int):List Int:=if slE rs i=0/\slE rs k=0 then rs.set i.toNat (rs.getD k.toNat 0)else rs
theorem Jv2(h:V5d w r g rs)(i k:Int):Calls prog 75 #[.pointer (some ⟨r,0,none⟩),.int .i64 i,.int .i64 k] w λe w'=>e=.returned (.int .i64 (if slE rs i=0 then slE rs k else 17))/\XF4 (λb=>b=g) w w'/\V5d w' r g (Ywp rs i k):=by
 have hg:=(Gr.refl w).alloc (.cells #[.int .i64 i,.int .i64 k] 3);have J:=hid h;have HC:=hid (ZP2 (h.gr hg) (b:=w.heap.size) (i:=i) (k:=k) ((Rec.new w 3 [.int .i64 i,.int .i64 k]).cell (j:=0) rfl) ((Rec.new w 3 [.int .i64 i,.int .i64 k]).cell (j:=1) rfl));have h':=h.gr hg;have HR:=hid h';have Xa:=h'.le;have Y:∀j,slE rs j=0\/slE rs j=17:=λj=>by unfold slE;split;exact .inl rfl;exact .inr rfl
 by_cases X:slE rs i=0/\slE rs k=0
 ·have Z:∀j,slE rs j=0->0<=j/\j<rs.length:=λj hj=>by
   unfold slE at hj
   split at hj
   ·assumption
   ·cases hj
  obtain⟨i',rfl⟩:∃i':Nat,i=i':=⟨i.toNat,by have:=Z i X.1;omega⟩;obtain⟨k',rfl⟩:∃k':Nat,k=k':=⟨k.toNat,by have:=Z _ X.2;omega⟩;have hi:=(Z _ X.1).2;have hk:=(Z _ X.2).2;have V:i' < rs.length:=Ω
  have O:k' < rs.length:=Ω
  have HX:Hid (Ywp rs i' k'=rs.set i' rs[k']):=⟨by unfold Ywp;rw[μ X,τ,τ,φ,δ O];rfl⟩;have E:=hid (λ(W:World) (gg:Gr w W)=>(J.o.gr gg).cell O);have A:=hid ((J.o.gr hg).cell V);have G:=hid (λ(W:World) (gg:Gr w W)=>QxS (J.o.gr gg).row i');rw[μ X.1,X.2]at HC⊢;obtain⟨x,hx⟩:∃x,x=rs[k']:=⟨_,rfl⟩;rw[<-hx]at E HX;obtain⟨n,hn⟩:∃n,n=rs.length:=⟨_,rfl⟩;have I:=hid (λ(W:World) (gg:Gr w W)=>(J.o.gr gg).rcd.cell (j:=0) rfl);rw[<-hn]at I Xa hi hk V O;have HI0:=hid V;clear h h' hx hn X Y Z;go_enter func75,ntmps75;go_upto_region 3 with(go_at_call 101;refine HC.o.mono ?_;rintro e w1 ⟨rfl,rfl⟩);have z0:=G.o _ hg;have z1:=A.o;generalize rs[i']=xo at z1;obtain⟨Sx,U,HS⟩:=ZJV.start λW'=>Gr w W';have y0:=ZJV.fact U λ_ h=>I.o _ h;have y1:=ZJV.fact U λ_ h=>E.o _ h;have y2:∀p:ZJV Sx,p.w.frozen? ⟨g,i',none⟩=false:=λp=>by have h:=ZJV.get U p;exact G.o _ h
  have N:=HS.o _ (hg.drew);have D:Inhabited (ZJV Sx):=⟨⟨_,N⟩⟩;clear U;refine Vv2 Sx 13 [([0,1,2,3,4,5,6,7,8,9,10,11,12],13)] [] (by kernel_rfl) (by kernel_rfl) N ?_;refine XGW ?_
  try simp only[XZy,ζ,ξ]
  repeat(go_big_quiet_step (fail))
  refine θ ?_;go_wp2;refine⟨.inl trivial,?_⟩;refine Z9U ?_;refine θ ?_;refine β ?_;clear y0 y1 y2 N D;clear HS Sx;go_wp2;go_ret;exact⟨rfl,XF4.setCell (S:=λb=>b=g) (hg.drew.touch _) (a:=⟨g,i',none⟩) (λ_=>rfl) _,by rw[HX.o];exact(J.o.gr hg.drew).set i' x⟩
 ·have HX:Hid (Ywp rs i k=rs):=⟨ϑ X⟩
  have he:(if slE rs i=0 then slE rs k else 17)=17:=by
   rcases Y i with h1|h1
   ·rw[μ h1];exact(Y k).resolve_left (λh2=>X ⟨h1,h2⟩)
   ·rw[ϑ (by rw[h1];decide)]
  rw[he]at HC⊢;clear h h' X Y he;go_enter func75,ntmps75;go_wp2_with(go_at_call 101;refine HC.o.mono ?_;rintro e w1 ⟨rfl,rfl⟩);go_ret;exact⟨rfl,hg.touch _,by rw[HX.o];exact HR.o⟩
end
end
section
open Go.RowKit Word
theorem VBi(b:Nat)(w:World):(callFunc 63 #[.int .u64 b]).run prog w=.ok (.value (.float .f64 b)) w:=by kernel_rfl
theorem ZI9(b:Nat)(w:World):(callFunc 49 #[.float .f64 b]).run prog w=.ok (.value (.int .u64 b)) w:=by kernel_rfl
theorem J1k(b:Nat)(w:World):Calls prog 22 #[.int .u64 b] w λe w'=>e=.returned (.float .f64 b)/\w=w':=by
 have h1:=VBi b;go_enter func22,ntmps22;go_wp2;go_ret;exact⟨rfl,rfl⟩
theorem ZYt(b:Nat)(w:World):Calls prog 19 #[.float .f64 b] w λe w'=>e=.returned (.int .u64 b)/\w=w':=by
 have h1:=ZI9 b;go_enter func19,ntmps19;go_wp2;go_ret;exact⟨rfl,rfl⟩
end
section
open Go.RowKit Word
structure Sp.Wr(z:Sp)(FS:FuncId):Prop where
 ns:∀n w,(nilAhead (n+1) z.T z.rv "Store").run prog w=.ok (some false) w
 ms:∀n w,(method (n+1) z.T z.rv "Store").run prog w=.ok (FS,z.rv) w
 cs:∀args w,(callFunc FS args).run prog w=.ok (.enter FS args) w
 st:∀{u S w},z.I u S w->∀(a:Int) (x:Nat),z.P a->x<18446744073709551616->Calls prog FS #[z.rv,.int .i64 a,.int .u64 x] w (λe w'=>e=.returned (.int .i64 (u.ldE a))/\XF4 S w w'/\z.I (u.st a x) (plus S w) w')
def Sp.W(z:Sp)(u:Vm)(S:Nat->Prop)(w w':World):Prop:=XF4 S w w'/\z.I u (plus S w) w'
def Vm.seV(v:Vm)(a i kd:Int)(x:Nat):Vm:=if v.plE a i kd=0 then v.st (a+1+i) x else v
section
variable {z:Sp} {FS:FuncId} {v:Vm} {S:Nat->Prop} {w w1 w':World}
theorem Sp.E.toW(h:z.E v S w w'):z.W v S w w':=⟨h.1.mono (λ_ _ h=>h.2),h.2⟩
theorem Sp.E.transW{v':Vm}(h:z.E v S w w1)(k:z.W v' (plus S w) w1 w')(hS:z.Ok):z.W v' S w w':=by
 have hz:=h.1.size;refine⟨(h.1.mono (λ_ _ h=>h.2)).trans' k.1 (λi hi hh=>hh.elim id (λh=>by omega)),hS.mono k.2 (λi hi=>?_)⟩;rcases hi with h1|h1
 ·exact h1
 ·exact .inr Ω
theorem Sp.W.gr(h:z.W v S w w1)(g:Gr w1 w')(hS:z.Ok):z.W v S w w':=⟨h.1.trans (g.touch _),hS.gr h.2 g⟩
theorem QV8(hS:z.Ok)(hI:z.I v S w)(a i:Int)(hP:0<a->z.P a)(hQ:v.plE a i 3=0->z.P (a+1+i)):Calls prog 113 #[z.v,.int .i64 a,.int .i64 i] w λe w'=>e=.returned (.tuple #[.int .u64 (v.gtV a i 3:Nat),.int .i64 (v.gtE a i 3)])/\z.E v S w w':=by
 have HG:=hid (QbF hS hI a i 3 (by decide) hP hQ);unfold Sp.v at HG⊢;clear hS hI hP hQ;go_enter func113,ntmps113;go_wp2_with(go_at_call 115;refine(HG.o).mono ?_;rintro e w1 ⟨rfl,X⟩;have Y:=hid X;clear X);go_ret2;exact⟨rfl,Y.o⟩
theorem QUr(hS:z.Ok)(hI:z.I v S w)(a i:Int)(hP:0<a->z.P a)(hQ:v.plE a i 2=0->z.P (a+1+i)):Calls prog 114 #[z.v,.int .i64 a,.int .i64 i] w λe w'=>e=.returned (.tuple #[.float .f64 (v.gtV a i 2),.int .i64 (v.gtE a i 2)])/\z.E v S w w':=by
 have HG:=hid (QbF hS hI a i 2 (by decide) hP hQ);unfold Sp.v at HG⊢;clear hS hI hP hQ;generalize v.gtV a i 2=x at HG⊢;go_enter func114,ntmps114
 go_wp2_with(first
  | (go_at_call 115;refine(HG.o).mono ?_;rintro e w1 ⟨rfl,X⟩;have Y:=hid X;clear X)
  | (go_at_call 22;refine JmE (J1k x _) ?_))
 go_ret2;exact⟨rfl,Y.o⟩
theorem QnX(hS:z.Ok)(hW:z.Wr FS)(hI:z.I v S w)(a i kd:Int)(hk:kd≠0)(hP:0<a->z.P a)(hQ:v.plE a i kd=0->z.P (a+1+i)){x:Nat}(hx:x<18446744073709551616):Calls prog 161 #[z.v,.int .i64 a,.int .i64 i,.int .i64 kd,.int .u64 x] w λe w'=>e=.returned (.int .i64 (v.gtE a i kd))/\z.W (v.seV a i kd x) S w w':=by
 have HS:=hid hS;have X:=hid (JJW hS hI a i kd hk hP);have n1:=hW.ns;have n2:=hW.ms;have n3:=hW.cs;have HW:=hid hW;have HX:=hid hx;unfold Sp.v at X⊢;by_cases hE:v.plE a i kd=0
 ·have HE:Hid (v.gtE a i kd=v.ldE (a+1+i)/\v.seV a i kd x=v.st (a+1+i) x):=⟨⟨ϑ (λh=>h hE),μ hE⟩⟩;have HA:Hid (v.plA a i kd=a+1+i):=⟨μ hE⟩;rw[hE,HA.o]at X;have J:=hid (hQ hE);generalize a+1+i=V at HE X J;clear hE hS hI hP hQ HA hW hx;go_enter func161,ntmps161
  go_wp2_with(first
   | (go_at_call 116;refine(X.o).mono ?_;rintro e w1 ⟨rfl,Y⟩;have Z:=hid Y;clear Y)
   | (refine(HW.o.st Z.o.2 V x J.o HX.o).mono ?_;rintro e w2 ⟨rfl,U⟩;have N:Hid (z.W (v.st V x) (plus S w) w1 w2):=⟨U⟩;clear U))
  go_ret;exact⟨ZzN HE.o.1.symm,by rw[HE.o.2];exact Z.o.transW N.o HS.o⟩
 ·have HE:Hid (v.gtE a i kd=v.plE a i kd/\v.seV a i kd x=v):=⟨⟨μ hE,ϑ hE⟩⟩;obtain⟨y,hy⟩:∃y,y=v.plE a i kd:=⟨_,rfl⟩;have d2:(y==0)=false:=by rw[hy];simpa using hE
  rw[<-hy]at HE X;clear hE hy hS hI hP hQ hW hx;go_enter func161,ntmps161;go_wp2_with(go_at_call 116;refine(X.o).mono ?_;rintro e w1 ⟨rfl,Y⟩;have Z:=hid Y;clear Y);go_ret;exact⟨ZzN HE.o.1.symm,by rw[HE.o.2];exact Z.o.toW⟩
theorem XXd(hS:z.Ok)(hW:z.Wr FS)(hI:z.I v S w)(a i:Int)(hP:0<a->z.P a)(hQ:v.plE a i 3=0->z.P (a+1+i)){x:Nat}(hx:x<18446744073709551616):Calls prog 117 #[z.v,.int .i64 a,.int .i64 i,.int .u64 x] w λe w'=>e=.returned (.int .i64 (v.gtE a i 3))/\z.W (v.seV a i 3 x) S w w':=by
 have HG:=hid (QnX hS hW hI a i 3 (by decide) hP hQ hx);unfold Sp.v at HG⊢;clear hS hI hP hQ hW hx;go_enter func117,ntmps117;go_wp2_with(go_at_call 161;refine(HG.o).mono ?_;rintro e w1 ⟨rfl,X⟩;have Y:=hid X;clear X);go_ret;exact⟨rfl,Y.o⟩
theorem Ycv(hS:z.Ok)(hW:z.Wr FS)(hI:z.I v S w)(a i:Int)(hP:0<a->z.P a)(hQ:v.plE a i 2=0->z.P (a+1+i)){x:Nat}(hx:x<18446744073709551616):Calls prog 118 #[z.v,.int .i64 a,.int .i64 i,.float .f64 x] w λe w'=>e=.returned (.int .i64 (v.gtE a i 2))/\z.W (v.seV a i 2 x) S w w':=by
 have HG:=hid (QnX hS hW hI a i 2 (by decide) hP hQ hx);unfold Sp.v at HG⊢;clear hS hI hP hQ hW hx;go_enter func118,ntmps118
 go_wp2_with(first
  | (go_at_call 19;refine JmE (ZYt x _) ?_)
  | (go_at_call 161;refine(HG.o).mono ?_;rintro e w1 ⟨rfl,X⟩;have Y:=hid X;clear X))
 go_ret;exact⟨rfl,Y.o⟩
theorem Xz9(hS:z.Ok)(hW:z.Wr FS)(hI:z.I v S w)(a i:Int)(hP:0<a->z.P a)(hQ:v.plE a i 1=0->z.P (a+1+i)){x:Nat}(hx:x<=2147483647):Calls prog 76 #[z.v,.int .i64 a,.int .i64 i,.int .i64 x] w λe w'=>e=.returned (.int .i64 (v.gtE a i 1))/\z.W (v.seV a i 1 x) S w w':=by
 have HS:=hid hS;have X:=hid (JJW hS hI a i 1 (by decide) hP);have n1:=hW.ns;have n2:=hW.ms;have n3:=hW.cs;have HW:=hid hW;have HX:Hid (x<18446744073709551616):=⟨by omega⟩;have e1:decide ((x:Int)<0)=false:=ψ Ω;have e2:decide (2147483647<(x:Int))=false:=ψ Ω;have e3:IntKind.u64.wrap (x:Int)=(x:Int):=by rw[ξF];omega
 unfold Sp.v at X⊢;by_cases hE:v.plE a i 1=0
 ·have HE:Hid (v.gtE a i 1=v.ldE (a+1+i)/\v.seV a i 1 x=v.st (a+1+i) x):=⟨⟨ϑ (λh=>h hE),μ hE⟩⟩;have HA:Hid (v.plA a i 1=a+1+i):=⟨μ hE⟩;rw[hE,HA.o]at X;have J:=hid (hQ hE);generalize a+1+i=V at HE X J;clear hE hS hI hP hQ HA hW hx;go_enter func76,ntmps76
  go_wp2_with(first
   | (go_at_call 116;refine(X.o).mono ?_;rintro e w1 ⟨rfl,Y⟩;have Z:=hid Y;clear Y)
   | (refine(HW.o.st Z.o.2 V x J.o HX.o).mono ?_;rintro e w2 ⟨rfl,U⟩;have N:Hid (z.W (v.st V x) (plus S w) w1 w2):=⟨U⟩;clear U))
  go_ret;exact⟨ZzN HE.o.1.symm,by rw[HE.o.2];exact Z.o.transW N.o HS.o⟩
 ·have HE:Hid (v.gtE a i 1=v.plE a i 1/\v.seV a i 1 x=v):=⟨⟨μ hE,ϑ hE⟩⟩;obtain⟨y,hy⟩:∃y,y=v.plE a i 1:=⟨_,rfl⟩;have d2:(y==0)=false:=by rw[hy];simpa using hE
  rw[<-hy]at HE X;clear hE hy hS hI hP hQ hW hx;go_enter func76,ntmps76;go_wp2_with(go_at_call 116;refine(X.o).mono ?_;rintro e w1 ⟨rfl,Y⟩;have Z:=hid Y;clear Y);go_ret;exact⟨ZzN HE.o.1.symm,by rw[HE.o.2];exact Z.o.toW⟩
end
end
section
open Go.RowKit Word
def Gph.Ro(g:Gph)(x:Nat):Prop:=x=0\/g.Rd x
theorem Gph.at_ro{g:Gph}{i:Int}(h:g.sl i=true):g.Ro (g.at i):=by
 unfold Gph.sl at h;rw[ζd,ζe,ζe]at h;by_cases h0:g.at i=0
 ·exact .inl h0
 ·refine .inr (Gph.Rd.root ?_ h0);unfold Gph.at;rw[φ,δ Ω];exact χ _
def Gph.erE(g:Gph)(x:Nat)(i kd:Int):Int:=if x=0 then 18 else if Yoq (g.ob x).hdr i=0 then 19 else if Yoq (g.ob x).hdr i=kd then 0 else 20
theorem Gph.fdE_er{g:Gph}{a:Int}(h:g.sl a=true)(i kd:Int):g.fdE a i kd=g.erE (g.at a) i kd:=by unfold Gph.fdE Gph.erE;rw[μ h]
section
variable {v:Vm} {g:Gph} {F:Nat->Nat} {lo hi:Nat}
theorem Z3T{g:Gph}(ho:g.Ok){x:Nat}(hx:g.Rd x){i kd:Int}(hk:kd≠0)(h:Yoq (g.ob x).hdr i=kd):∃n:Nat,i=n/\n<(g.ob x).p+(g.ob x).f+(g.ob x).k/\(kd=1↔n<(g.ob x).p):=by
 obtain⟨h1,h2⟩:=ho.rd hx;have hl:=(ho.len _ (Gph.ob_mem h1 h2)).2;have hN:Z3o (g.ob x).hdr=1+((g.ob x).p:Int)+(g.ob x).f+(g.ob x).k:=μ (JJj hl);unfold Yoq at h;rw[hN]at h
 split at h
 ·rename_i hin;refine⟨i.toNat,by omega,by omega,?_⟩;have hp:(g.ob x).hdr.p=((g.ob x).p:Int):=rfl;rw[hp]at h
  split at h
  ·exact⟨λ_=>by omega,λ_=>h.symm⟩
  ·split at h
   ·exact⟨λe=>by omega,λe=>by omega⟩
   ·exact⟨λe=>by omega,λe=>by omega⟩
 ·exact absurd h.symm hk
theorem Img.plE(h:Img v g F lo hi){x:Nat}(hx:g.Ro x)(i:Int){kd:Int}(hk:kd≠0):v.plE (F x) i kd=g.erE x i kd:=by
 unfold Vm.plE Gph.erE;rcases hx with rfl|hx
 ·rw[h.z,μ rfl];have:v.rdE ((0:Nat):Int)=18:=by unfold Vm.rdE;rw[μ (by rfl)]
  rw[this,μ (by decide)]
 ·have hp:=h.pos hx;have h0:x≠0:=λe=>by rw[e,h.z]at hp;omega
  rw[h.rd x hx,ϑ (λhh=>hh rfl),h.hd x hx,ϑ h0];by_cases e:Yoq (g.ob x).hdr i=kd
  ·rw[μ e,ϑ (by rw[e];exact hk),μ e]
  ·rw[ϑ e,ϑ e]
theorem Img.inP(h:Img v g F lo hi)(ho:g.Ok){x:Nat}(hx:g.Ro x){i kd:Int}(hk:kd≠0)(he:g.erE x i kd=0):g.Rd x/\∃n:Nat,i=n/\n<(g.ob x).p+(g.ob x).f+(g.ob x).k/\(kd=1↔n<(g.ob x).p)/\(F x:Int)+1+i=((F x+1+n:Nat):Int)/\lo<=F x+1+n/\F x+1+n<hi:=by
 unfold Gph.erE at he;have h0:x≠0:=λe=>by rw[μ e]at he;cases he
 rw[ϑ h0]at he;have hr:=hx.resolve_left h0
 have e:Yoq (g.ob x).hdr i=kd:=by
  by_cases e:Yoq (g.ob x).hdr i=kd
  ·exact e
  ·rw[ϑ e]at he
   split at he <;> cases he
 obtain⟨n,rfl,h1,h2⟩:=Z3T ho hr hk e;have:=h.lo x hr;have hz:(g.ob x).size=1+(g.ob x).p+(g.ob x).f+(g.ob x).k:=rfl;exact⟨hr,n,rfl,h1,h2,by omega,by omega,by omega⟩
theorem Img.gtE(h:Img v g F lo hi)(ho:g.Ok){x:Nat}(hx:g.Ro x)(i:Int){kd:Int}(hk:kd≠0):v.gtE (F x) i kd=g.erE x i kd:=by
 unfold Vm.gtE;rw[h.plE hx i hk];by_cases he:g.erE x i kd=0
 ·rw[ϑ (λhh=>hh he),he];obtain⟨hr,n,rfl,h1,h2,h3,-,-⟩:=h.inP ho hx hk he;rw[h3];rcases γ n (g.ob x).p with h4|h4
  ·have:=(QFc (h.pt x hr n h4).1).2.2.1;rw[h3]at this;exact this
  ·exact(h.wd x hr n h4 h1).1
 ·rw[μ he]
theorem Img.gtV(h:Img v g F lo hi)(ho:g.Ok){x:Nat}(hx:g.Ro x)(i:Int){kd:Int}(hk:kd≠0)(hk1:kd≠1):v.gtV (F x) i kd=if g.erE x i kd=0 then (g.ob x).w.getD i.toNat 0 else 0:=by
 unfold Vm.gtV;rw[h.plE hx i hk];by_cases he:g.erE x i kd=0
 ·rw[ϑ (λhh=>hh he),μ he];obtain⟨hr,n,rfl,h1,h2,h3,-,-⟩:=h.inP ho hx hk he;rw[h3];exact(h.wd x hr n (ξ3 λh4=>hk1 (h2.2 h4)) h1).2
 ·rw[μ he,ϑ he]
theorem Img.ptE(h:Img v g F lo hi)(ho:g.Ok){x:Nat}(hx:g.Ro x)(i:Int):v.ptE (F x) i=g.erE x i 1/\(g.erE x i 1=0->v.ptV (F x) i=F ((g.ob x).w.getD i.toNat 0)/\g.Ro ((g.ob x).w.getD i.toNat 0)):=by
 by_cases he:g.erE x i 1=0
 ·obtain⟨hr,n,rfl,h1,h2,h3,-,-⟩:=h.inP ho hx (by decide) he;have h4:=h2.1 rfl;obtain⟨p1,p2⟩:=h.pt x hr n h4;refine⟨p1.trans he.symm,λ_=>⟨p2,?_⟩⟩;by_cases h0:(g.ob x).w.getD n 0=0
  ·exact .inl h0
  ·exact .inr (hr.step (Jat ho hr h4) h0)
 ·refine⟨?_,λhh=>absurd hh he⟩;unfold Vm.ptE;rw[h.gtE ho hx i (by decide),μ he]
theorem Img.seV(h:Img v g F lo hi)(hv:ZAR v)(ho:g.Ok){x:Nat}(hx:g.Ro x)(i:Int){kd:Int}(hk:kd≠0)(y:Nat)(hy:kd=1->g.Ro y)(hhi:hi<=2147483647):g.erE x i kd=0->Img (v.seV (F x) i kd (if kd=1 then F y else y)) (g.put x i.toNat y) F lo hi:=λhe=>by
 obtain⟨hr,n,rfl,h1,h2,h3,h4,h5⟩:=h.inP ho hx hk he;have Y:v.plE (F x) n kd=0:=(h.plE hx n hk).trans he;unfold Vm.seV;rw[μ Y,h3,τ]
 have hl:v.ldE ((F x+1+n:Nat):Int)=0:=by
  have:=h.gtE ho hx n hk;unfold Vm.gtE at this;rw[ϑ (λhh=>hh Y),he,h3]at this;exact this
 refine h.put ho hr h1 (λhn=>hy (h2.2 hn)) hhi λa a1 a2 a3=>?_;rw[Zpt,hv.st_ldV _ hl];refine⟨a3,?_⟩;by_cases e:a=F x+1+n
 ·rw[μ Ω,μ e];by_cases X:kd=1
  ·rw[μ X,μ (h2.1 X)]
  ·rw[ϑ X,ϑ (λhn=>X (h2.2 hn))]
 ·rw[ϑ Ω,ϑ e]
end
end
section
open Go.RowKit
theorem Y7w{F:Fence}{nF:Nat}{P:Program}(w:World){ops:Array Oper}{rest:List Oper}{o:Oper}{a:Act}{Q:Exit->Act->World->Prop}
  (hg:o.guard=none) (m x v:Operand) (t:TypeId) (hop:o.op=Op.mapUpdate t m x v)
  (k e:TypeId) (K:Maps.Keyed P k) (ht:P.underlying t=some (.map k e)) (hk:P.underlying k=some (.int .i64)) (b n:Nat) (f:Int->Option Value)
  (hm:a.eval m=.map (some b)) (hown:YER P k w b n f) (hn:n<maxLen) (key:Int) (val:Value) (hx:a.eval x=.int .i64 key) (hv:a.eval v=val) (hw:(Lit.int .i64 key).wf=true)
  (hK:∀w',YER P k w' b (n+1) (λy=>if y=key then some val else f y)->XF4 (λi=>i=b) w w'->wpListIn F nF P ops Q rest (a.put o.dst undef) w'):
  wpListIn F nF P ops Q (o :: rest) a w:=by
 obtain⟨w',X,h1,h2⟩:=hown.put K ht hk hn key val hw;refine wpListIn_plain hg λK' hK'=>?_;unfold Oper.wpIn;refine⟨by simp[Oper.about,hop],?_⟩;rw[Oper.semAt_plain F _ _ (by rw[hop];intro c Y;cases Y)];simp[execOp,hop,hm,hx,hv,X,Result.andThen];exact hK' _ _ (hK w' h1 h2)
theorem V63{F:Fence}{nF:Nat}{P:Program}(w:World){ops:Array Oper}{rest:List Oper}{o:Oper}{a:Act}{Q:Exit->Act->World->Prop}
  (hg:o.guard=none) (l c:Operand) (t:TypeId) (hop:o.op=Op.makeSlice t l c)
  (base:Nat) (e:TypeId) (i:TypeInfo) (z:Value) (size:Nat) (h1:P.underlying t=some (.slice e)) (h2:P.info? e=some i) (h3:i.zero=some z) (h4:i.size=size)
  (kl kc:IntKind) (n:Nat) (hl:a.eval l=.int kl n) (hc:a.eval c=.int kc n) (b1:n*size<=16777216) (b2:i.bytes*n<=281474976710656) (b3:n<=maxLen) (b4:base<=w.heap.size)
  (hK:∀w',w'.ownsRow base e size (.slice (some ⟨w.heap.size,0,none⟩) n n) n (madeCells z.cells (n*size)).toList->w.grownBy w' none->wpListIn F nF P ops Q rest (a.put o.dst (.slice (some ⟨w.heap.size,0,none⟩) n n)) w'):
  wpListIn F nF P ops Q (o :: rest) a w:=by
 obtain⟨w',X,r1,r2⟩:=run_makeSlice_full (P:=P) w base t e i z size h1 h2 h3 h4 kl kc n b1 b2 b3 b4;refine wpListIn_plain hg λK' hK'=>?_;unfold Oper.wpIn;refine⟨by simp[Oper.about,hop],?_⟩;rw[Oper.semAt_plain F _ _ (by rw[hop];intro c Y;cases Y)];simp[execOp,hop,hl,hc,X,Result.andThen];exact hK' _ _ (hK w' r1 r2)
theorem Ya9{F:Fence}{nF:Nat}{P:Program}(w:World){ops:Array Oper}{rest:List Oper}{o:Oper}{a:Act}{Q:Exit->Act->World->Prop}
  (hg:o.guard=none) (t:TypeId) (hop:o.op=Op.makeMap t none) (hK:wpListIn F nF P ops Q rest (a.put o.dst (.map (some w.heap.size))) (w.alloc (.map #[] 0))):wpListIn F nF P ops Q (o :: rest) a w:=by
 have X:(Instr.makeMap t none).run P w=.ok (.map (some w.heap.size)) (w.alloc (.map #[] 0)):=rfl;refine wpListIn_plain hg λK' hK'=>?_;unfold Oper.wpIn;refine⟨by simp[Oper.about,hop],?_⟩;rw[Oper.semAt_plain F _ _ (by rw[hop];intro c Y;cases Y)];simp[execOp,hop,X,Result.andThen];exact hK' _ _ hK
theorem J0U(z:Value)(n:Nat):(madeCells #[z] n).toList=List.replicate n z:=by
 unfold madeCells;apply ζ9
 ·simp
 ·intro i h1 h2;simp[ψi]
end
section
open Go.RowKit Word
def JbY(md:Region.Mode)(ops:Array Oper)(ds:List (Nat×List Nat)):Bool:=ds.all λd=>match ops[d.1]? with
 | some o=>d.2.all λi=>o.after.any λe=>Region.binds md e&&e.on==i
 | none=>false
def Ykw(md:Region.Mode)(ops:Array Oper):Bool:=(List.range ops.size).all λj=>match ops[j]? with
 | some o=>o.after.all λe=>!Region.binds md e||decide (e.on<j)
 | none=>true
def XEe(l0:Array Bool)(ds:List (Nat×List Nat))(n:Nat):Bool:=(List.range n).all λk=>l0.getD k false||ds.any λd=>d.1==k
def upD(D:Nat->Bool)(k:Nat):Nat->Bool:=λj=>if j=k then true else D j
theorem XRT{f g:Nat->Bool}{n i:Nat}(h:∀j,g j=true->f j=true)(hi:i<n)(h1:f i=true)(h2:g i=false):cnt g n+1<=cnt f n:=by
 have X:∀m,cnt g m+(if i<m then 1 else 0)<=cnt f m:=λm=>by
  induction m with
  | zero=>simp[YAO]
  | succ m ih=>
   rw[Z10,Z10];by_cases e:i=m
   ·subst e;rw[μ (ξr _),h1,h2];rw[ϑ (ζN _)]at ih;simpa using ih
   ·have h3:=h m;have h4:(g m).toNat<=(f m).toNat:=by cases hg:g m <;> cases hf:f m <;> simp_all
    by_cases h5:i<m
    ·rw[μ h5]at ih;rw[μ Ω];omega
    ·rw[ϑ h5]at ih;rw[ϑ Ω];omega
 have:=X n;rw[μ hi]at this;exact this
section
variable {F:Fence} {n:Nat} {P:Program} {l:List Oper} {Q:Exit->Act->World->Prop} {md:Region.Mode} {S:World->Prop} {z:Nat}
def JBT(F:Fence)(n:Nat)(P:Program)(l:List Oper)(S:World->Prop)(Q:Exit->Act->World->Prop)(I:(Nat->Bool)->Act->World->Prop):List (Nat×List Nat)->Prop
 | []=>True
 | d :: r=>(∀(D:Nat->Bool) (a:Act) (w:World),I D a w->S w->D d.1=false->(∀i∈d.2,D i=true)->wpListIn F n P l.toArray (Exit.then (λa2 w2=>S w2/\I (upD D d.1) a2 w2) Q) (XZy l [d.1]) a w)/\JBT F n P l S Q I r
theorem J0P{I:(Nat->Bool)->Act->World->Prop}{ds:List (Nat×List Nat)}(h:JBT F n P l S Q I ds){d:Nat×List Nat}(hd:d∈ds):
  ∀(D:Nat->Bool) (a:Act) (w:World),I D a w->S w->D d.1=false->(∀i∈d.2,D i=true)->wpListIn F n P l.toArray (Exit.then (λa2 w2=>S w2/\I (upD D d.1) a2 w2) Q) (XZy l [d.1]) a w:=by
 induction ds with
 | nil=>cases hd
 | cons e r ih=>
  rcases ζH.1 hd with rfl|hd
  ·exact h.1
  ·exact ih h.2 hd
theorem YEX{listed:Array Bool}(hlow:Ykw md l.toArray=true)(hr:Region.ready md l.toArray listed=[])(hs:listed.size=l.toArray.size):∀j,j<l.toArray.size->listed.getD j false=true:=by
 intro j
 induction j using Nat.strongRecOn with
 | ind j ih=>
  intro hj;cases hb:listed.getD j false with
  | true=>rfl
  | false=>
   exfalso;have X:l.toArray[j]?=some l.toArray[j]:=ψt hj;have hl:=ξt.1 hlow j (ζP.2 hj);rw[X]at hl;have hl:(l.toArray[j].after.all λe=>!Region.binds md e||decide (e.on<j))=true:=hl
   have hm:j∈Region.ready md l.toArray listed:=by
    refine mem_ready.2 ⟨?_,_,X,λe he hbe=>?_⟩
    ·rw[ξ0,ψt Ω]at hb⊢;exact hb
    ·have h1:=Array.all_eq_true_iff_forall_mem.1 hl e he;rw[hbe]at h1;have h2:e.on<j:=by simpa using h1
     exact ih e.on h2 Ω
   rw[hr]at hm;cases hm
theorem Q8R{listed:Array Bool}{i:Nat}(hi:i<listed.size):(λj=>(listed.setIfInBounds i true).getD j false)=upD (λj=>listed.getD j false) i:=by
 funext j
 unfold upD;simp only[ξ0,Array.getElem?_setIfInBounds];by_cases h:j=i
 ·subst h;rw[μ rfl,μ rfl,μ hi];rfl
 ·rw[ϑ (λe=>h e.symm),ϑ h]
theorem QPK{I:(Nat->Bool)->Act->World->Prop}{ds:List (Nat×List Nat)}(hlow:Ykw md l.toArray=true)(hwt:JbY md l.toArray ds=true)(hst:JBT F n P l S Q I ds)
  (hfin:∀(D:Nat->Bool) (a:Act) (w:World),I D a w->S w->(∀j,j<l.toArray.size->D j=true)->Q .normal a w):
  ∀(f:Nat) (listed:Array Bool) (a:Act) (w:World),ZVQ md l.toArray listed->listed.size=l.toArray.size->cnt (λj=>!listed.getD j false) l.toArray.size<=f →
   (∀k,k<l.toArray.size->listed.getD k false=false->∃d∈ds,d.1=k)->S w->I (λj=>listed.getD j false) a w->Vxn F n P md l.toArray Q S z f listed a w:=by
 intro f
 induction f with
 | zero=>
  intro listed a w hc hs hf Y hS hI
  have X:∀j,j<l.toArray.size->listed.getD j false=true:=λj hj=>by
   have:=VMy (ψE.1 hf) j hj;simpa using this
  refine⟨?_,hfin _ a w hI hS X⟩;cases hr:Region.ready md l.toArray listed with
  | nil=>rfl
  | cons i r=>
   exfalso;have hi:i∈Region.ready md l.toArray listed:=by rw[hr];exact ζg ..
   obtain⟨h1,o,ho,-⟩:=mem_ready.1 hi;have Z:i<l.toArray.size:=(ζn.1 ho).1;exact X2k h1 (X i Z)
 | succ f ih=>
  intro listed a w hc hs hf Y hS hI;refine⟨λhr=>hfin _ a w hI hS (YEX hlow hr hs),λi hi=>?_⟩;obtain⟨h1,o,ho,X⟩:=mem_ready.1 hi;have Z:i<l.toArray.size:=(ζn.1 ho).1
  have U:listed.getD i false=false:=by
   rw[ξ0,ψt Ω]at h1⊢;exact h1
  obtain⟨d,hd,rfl⟩:=Y i Z U;have hw:=ξt.1 hwt d hd;rw[ho]at hw;have hw:(d.2.all λi=>o.after.any λe=>Region.binds md e&&e.on==i)=true:=hw
  have V:∀i∈d.2,listed.getD i false=true:=λi hi=>by
   have h2:=ξt.1 hw i hi;obtain⟨e,he,h3⟩:=Array.any_eq_true'.1 h2;obtain⟨h4,h5⟩:=ζ0.1 h3;have h5:e.on=i:=by simpa using h5
   rw[<-h5];exact X e he h4
  have J:=J0P hst hd _ a w hI hS U V;rw[XJH ho]at J;refine ZRK ho (λa2 w2 h2=>⟨.inr h2.1,ih _ a2 w2 (hc.set hi) (by rw[Array.size_setIfInBounds];exact hs) ?_ ?_ h2.1 ?_⟩) J
  ·have hd':=XRT (f:=λj=>!listed.getD j false) (g:=λj=>!(listed.setIfInBounds d.1 true).getD j false) (n:=l.toArray.size) (i:=d.1) (λj hj=>by
    have e:=congrFun (Q8R (listed:=listed) (i:=d.1) Ω) j;rw[e]at hj;unfold upD at hj
    split at hj
    ·simp at hj
    ·exact hj) Z (by rw[U];rfl) (by
    have e:=congrFun (Q8R (listed:=listed) (i:=d.1) Ω) d.1;rw[e];unfold upD
    rw[μ rfl];rfl)
   omega
  ·intro k hk hl;have e:=congrFun (Q8R (listed:=listed) (i:=d.1) Ω) k;rw[e]at hl;unfold upD at hl
   split at hl
   ·cases hl
   ·exact Y k hk hl
  ·rw[Q8R Ω];exact h2.2
theorem JSy{id:Nat}{a:Act}{w:World}(S:World->Prop)(qs:List Nat)(l0:Array Bool)(ds:List (Nat×List Nat))(I:(Nat->Bool)->Act->World->Prop)(hF:∀f,F.fn f)(hm:P.follows .mixedOrders=true)
  (hB:(XH2 l.toArray&&Region.noSelect l.toArray&&Ykw .any l.toArray&&JbY .any l.toArray ds&&XEe l0 ds l.toArray.size&&decide (ZFy .any l.toArray qs (Array.replicate l.toArray.size false)=some l0)&&decide (l0.size=l.toArray.size)&&decide (qs.length+cnt (λj=>!l0.getD j false) l.toArray.size=l.toArray.size))=true) (hS:S w.drew)
  (h:wpQuiet P l.toArray (λw'=>∃p:ZJV S,w'=p.w) (λa'=>I (λj=>l0.getD j false) a' w.drew) (XZy l qs) a)
  (hst:JBT F n P l (λw'=>∃p:ZJV S,w'=p.w) (NoPanic Q) I ds)
  (hfin:∀(D:Nat->Bool) (a:Act) (w:World),I D a w->(∃p:ZJV S,w=p.w)->(∀j,j<l.toArray.size->D j=true)->NoPanic Q .normal a w):(Code.region id l.toArray true).wpIn F n P Q a w:=by
 simp only[ζd,ζe]at hB;obtain⟨⟨⟨⟨⟨⟨⟨N,X⟩,J⟩,U⟩,Y⟩,V⟩,O⟩,Z⟩:=hB;refine wpIn_mono (wpIn_region_any hm ?_) NoPanic.imp;have hz:Xzl .any l.toArray l.toArray.size=true:=by unfold Xzl;simp
 have:=ZAo (F:=F) (n:=n) (P:=P) (Q:=NoPanic Q) (S:=λw'=>∃p:ZJV S,w'=p.w) (md:=.any) (f:=cnt (λj=>!l0.getD j false) l.toArray.size) (K:=λa'=>I (λj=>l0.getD j false) a' w.drew) hF N X (λc a b w h=>h) hz (ZJV.of hS)
  (λa hc hI=>QPK J U hst hfin _ l0 a w.drew hc O (π _) (λk hk hl=>by
   have:=ξt.1 Y k (ζP.2 hk);rw[hl,Bool.false_or]at this;obtain⟨d,hd,e⟩:=ξs.1 this
   exact⟨d,hd,by simpa using e⟩) (ZJV.of hS) hI) qs _ a V (ZVQ.none .any l.toArray) h
 rw[Z]at this;exact J9t _ _ _ _ this
theorem VMF{id:Nat}{a:Act}{w:World}(S:World->Prop)(qs:List Nat)(l0:Array Bool)(ds:List (Nat×List Nat))(I:Act->(Nat->Bool)->Act->World->Prop)(hF:∀f,F.fn f)(hm:P.follows .mixedOrders=true)
  (hB:(XH2 l.toArray&&Region.noSelect l.toArray&&Ykw .any l.toArray&&JbY .any l.toArray ds&&XEe l0 ds l.toArray.size&&decide (ZFy .any l.toArray qs (Array.replicate l.toArray.size false)=some l0)&&decide (l0.size=l.toArray.size)&&decide (qs.length+cnt (λj=>!l0.getD j false) l.toArray.size=l.toArray.size))=true) (hS:S w.drew)
  (h:wpQuiet P l.toArray (λw'=>∃p:ZJV S,w'=p.w) (λa'=>I a (λj=>l0.getD j false) a' w.drew) (XZy l qs) a)
  (hst:JBT F n P l (λw'=>∃p:ZJV S,w'=p.w) (NoPanic Q) (I a) ds)
  (hfin:∀(D:Nat->Bool) (a':Act) (w:World),I a D a' w->(∃p:ZJV S,w=p.w)->(∀j,j<l.toArray.size->D j=true)->NoPanic Q .normal a' w):(Code.region id l.toArray true).wpIn F n P Q a w:=
 JSy S qs l0 ds (I a) hF hm hB hS h hst hfin
end
end
section
open Go.RowKit
section
variable {P:Program} {ops:Array Oper} {Q:Exit->Act->World->Prop} {md:Region.Mode} {S:World->Prop}
def Q7j(P:Program)(md:Region.Mode)(ops:Array Oper)(Q:Exit->Act->World->Prop)(S:World->Prop)(z:Nat):Nat->Array Bool->Act->World->Prop
 | 0,listed,a,w=>Region.ready md ops listed=[]/\Q .normal a w
 | f+1,listed,a,w=>
  (Region.ready md ops listed=[]->Q .normal a w) ∧
  ∀i∈Region.ready md ops listed,wpOp P ops Q i (λa' w'=>(z<=i\/S w')/\Q7j P md ops Q S z f (listed.setIfInBounds i true) a' w') a w
theorem ZmF{z:Nat}:∀(f:Nat) (listed:Array Bool) (a:Act) (w:World),Q7j P md ops Q S z f listed a w->wpAny P md ops Q f listed a w
 | 0,_,_,_,h=>h
 | f+1,_,_,_,h=>⟨h.1,λi hi=>wpOp_mono (λa' w' h'=>ZmF f _ a' w' h'.2) (h.2 i hi)⟩
def QlW(md:Region.Mode)(ops:Array Oper)(z:Nat):Bool:=(List.range ops.size).all λk=>decide (k<z)||(List.range z).all λi=>anc md ops ops.size k i
theorem JAl{listed:Array Bool}{z k i:Nat}(hz:QlW md ops z=true)(h:ZVQ md ops listed)(hr:k∈Region.ready md ops listed)(hk:z<=k)(hi:i<z):listed.getD i false=true:=by
 obtain⟨_,oz,X,Y⟩:=mem_ready.1 hr;simp only[QlW,ζY,ζe,ξt,ζP]at hz;have Z:k<ops.size:=(ζn.1 X).1;exact JZc h _ k i oz X Y (((hz k Z).resolve_left Ω) i hi)
theorem YjG{z i:Nat}{oi:Oper}{v:Value}(hi:ops[i]?=some oi)(hiz:i<z)(hsel:∀(j:Nat) (o:Oper) cs b,ops[j]?=some o->o.op≠.select cs b)
  (hQ:∀c a w,Q (.panic c) (a.put oi.dst v) w->Q (.panic c) a w) (hz:QlW md ops z=true):
  ∀(f:Nat) (listed:Array Bool) (a:Act) (w:World),ZVQ md ops listed →
   (∀j oj,ops[j]?=some oj->j≠i->listed.getD j true=false->(∀e∈oj.after,Region.binds md e=true->e.on≠i)->oi.apart ops oj=true) →
   i∈Region.ready md ops listed->YieldsIf P ops S oi v a->S w →
   Q7j P md ops Q S z f (listed.setIfInBounds i true) (a.put oi.dst v) w->Q7j P md ops Q S z (f+1) listed a w:=by
 intro f
 induction f with
 | zero=>
  intro listed a w _ _ hr hy hS H;refine⟨λh=>(by rw[h]at hr;cases hr),λj hj=>?_⟩;by_cases X:j=i
  ·subst X;exact hy.wpOp hi hS ⟨.inr hS,H⟩
  ·have:=ready_mono hj X;rw[H.1]at this;cases this
 | succ f ih=>
  intro listed a w I Y hr hy hS H;refine⟨λh=>(by rw[h]at hr;cases hr),λj hj=>?_⟩;by_cases X:j=i
  ·subst X;exact hy.wpOp hi hS ⟨.inr hS,H⟩
  ·have h1:=H.2 j (ready_mono hj X);obtain⟨U,oj,V,O⟩:=mem_ready.1 hj;have Z:=(mem_ready.1 hr).1;have D:¬z<=j:=λe=>X2k Z (JAl hz I hj e hiz);have N:∀e∈oj.after,Region.binds md e=true->e.on≠i:=λe he hb heq=>X2k Z (heq▸O e he hb);have h2:=wpOp_putIf V (Y j oj V X U N) (λcs b=>hsel i oi cs b hi) (λcs b=>hsel j oj cs b V) hQ hy h1
   have J:∀k ok,ops[k]?=some ok->k≠i->(listed.setIfInBounds j true).getD k true=false →
     (∀e∈ok.after,Region.binds md e=true->e.on≠i)->oi.apart ops ok=true:=λk ok hk hki Z hno=>by
    refine Y k ok hk hki ?_ hno;by_cases E:j=k
    ·subst E;exact U
    ·rw[getD_set_ne true E]at Z;exact Z
   refine wpOp_mono (λa' w' h3=>?_) h2;obtain⟨h3,h4,h5⟩:=h3;have G:S w':=h4.resolve_left D;refine⟨h4,ih (listed.setIfInBounds j true) a' w' (I.set hj) J (ready_mono hr (Ne.symm X)) h3 G ?_⟩;rw[ψv _ _ X];exact h5
def ZU3(md:Region.Mode)(ops:Array Oper)(z:Nat):List (Bool×Nat)->Array Bool->Bool
 | [],listed=>(Region.ready md ops listed).isEmpty
 | (true,k) :: r,listed=>decide (Region.ready md ops listed=[k])&&(decide (k<z)||r.all λx=>x.1)&&ZU3 md ops z r (listed.setIfInBounds k true)
 | (false,k) :: r,listed=>(Region.ready md ops listed).contains k&&Region.free md ops listed k&&((ops[k]?).any QK6)&&decide (k<z)&&ZU3 md ops z r (listed.setIfInBounds k true)
def YqH(P:Program)(l:List Oper)(S:World->Prop)(z:Nat)(Q:Exit->Act->World->Prop):List (List Nat×Nat)->List Nat->Act->World->Prop
 | [],fin,a,w=>wpQuiet P l.toArray S (λa'=>Q .normal a' w) (XZy l fin) a
 | (qs,k) :: r,fin,a,w=>wpQuiet P l.toArray S (λa'=>wpList P l.toArray (Exit.then (λa2 w2=>(z<=k\/S w2)/\YqH P l S z Q r fin a2 w2) Q) (XZy l [k]) a' w) (XZy l qs) a
end
section
variable {P:Program} {l:List Oper} {Q:Exit->Act->World->Prop} {md:Region.Mode} {S:World->Prop} {z:Nat}
theorem Yo2(hsel:Region.noSelect l.toArray=true)(hQ:∀c a b w,Q (.panic c) b w->Q (.panic c) a w)(hz:QlW md l.toArray z=true){w:World}{K:Act->Prop}{R:List (Bool×Nat)}{f:Nat}
  (hK:∀listed a,ZU3 md l.toArray z R listed=true->ZVQ md l.toArray listed->K a->Q7j P md l.toArray Q S z f listed a w):
  ∀(qs:List Nat) (listed:Array Bool) (a:Act),(S w\/qs=[])->ZU3 md l.toArray z (qs.map (λk=>(false,k))++R) listed=true->ZVQ md l.toArray listed->wpQuiet P l.toArray S K (XZy l qs) a →
   Q7j P md l.toArray Q S z (qs.length+f) listed a w
 | [],listed,a,_,hB,hc,h=>by simpa using hK listed a hB hc h
 | k :: qs,listed,a,hS,hB,hc,h=>by
  have hS:S w:=hS.resolve_right (by simp);simp only[ξX,ζL,ZU3,ζd]at hB;obtain⟨⟨⟨⟨hr,hf⟩,hq⟩,J⟩,U⟩:=hB;cases ho:l.toArray[k]? with
  | none=>rw[ho]at hq;cases hq
  | some o=>
   rw[ho]at hq;have hq:QK6 o=true:=hq;have X:k∈Region.ready md l.toArray listed:=by simpa using hr
   rw[XJH ho]at h;simp only[wpQuiet]at h
   have hy:∃v,YieldsIf P l.toArray S o v a/\wpQuiet P l.toArray S K (XZy l qs) (a.put o.dst v):=by
    split at h
    ·rename_i hw;obtain⟨v,h1,h2⟩:=h;exact⟨v,XIs hq hw h1,h2⟩
    ·rename_i hw;exact⟨undef,.inr ⟨by simpa using hw,rfl⟩,h⟩
   obtain⟨v,hy,Z⟩:=hy;have Y:(k :: qs).length+f=(qs.length+f)+1:=by simp;omega
   rw[Y];exact YjG ho (by simpa using J) (Region.noSelect_spec hsel) (λc a w h=>hQ c a _ w h) hz _ listed a w hc (Region.free_spec ho hf) X hy hS (Yo2 hsel hQ hz hK qs _ _ (.inl hS) U (hc.set X) Z)
theorem ZHG(hsel:Region.noSelect l.toArray=true)(hQ:∀c a b w,Q (.panic c) b w->Q (.panic c) a w)(hz:QlW md l.toArray z=true):
  ∀(segs:List (List Nat×Nat)) (fin:List Nat) (listed:Array Bool) (a:Act) (w:World),ZU3 md l.toArray z (XA5 segs fin) listed=true->ZVQ md l.toArray listed->(S w\/((XA5 segs fin).all λx=>x.1)=true)->YqH P l S z Q segs fin a w →
   Q7j P md l.toArray Q S z (XA5 segs fin).length listed a w
 | [],fin,listed,a,w,hB,hc,hS,h=>by
  have hS':S w\/fin=[]:=hS.imp id λh=>by
   cases fin with
   | nil=>rfl
   | cons x y=>simp[XA5]at h
  have:=Yo2 (R:=[]) (f:=0) (K:=λa'=>Q .normal a' w) hsel hQ hz (λlisted a hB _ h=>⟨by simpa[ZU3]using hB,h⟩) fin listed a hS' (by simpa[XA5]using hB) hc h;simpa[XA5]using this
 | (qs,k) :: r,fin,listed,a,w,hB,hc,hS,h=>by
  have hS':S w\/qs=[]:=hS.imp id λh=>by
   cases qs with
   | nil=>rfl
   | cons x y=>simp[XA5]at h
  have Y:(XA5 ((qs,k) :: r) fin).length=qs.length+((XA5 r fin).length+1):=by simp[XA5]
  rw[Y];refine Yo2 hsel hQ hz (λlisted a hB hc h=>?_) qs listed a hS' (by simpa[XA5]using hB) hc h;simp only[ZU3,ζd,ζe,ζY]at hB;obtain⟨⟨hr,J⟩,Z⟩:=hB;have X:k∈Region.ready md l.toArray listed:=by rw[hr];simp
  refine⟨λh0=>(by rw[hr]at h0;cases h0),λi hi=>?_⟩;rw[hr]at hi;obtain rfl:i=k:=by simpa using hi
  obtain⟨_,o,ho,_⟩:=mem_ready.1 X;rw[XJH ho]at h;refine X8H ho (λa2 w2 h2=>⟨h2.1,ZHG hsel hQ hz r fin _ a2 w2 Z (hc.set X) ?_ h2.2⟩) h;rcases h2.1 with h3|h3
  ·exact .inr (J.resolve_left Ω)
  ·exact .inl h3
theorem Xw6{qs:List Nat}{k:Nat}{r:List (List Nat×Nat)}{fin:List Nat}{a:Act}{w:World}
  (h:wpQuiet P l.toArray S (λa'=>wpList P l.toArray (Exit.then (λa2 w2=>(z<=k\/S w2)/\YqH P l S z Q r fin a2 w2) Q) (XZy l [k]) a' w) (XZy l qs) a):YqH P l S z Q ((qs,k) :: r) fin a w:=h
theorem YqX{fin:List Nat}{a:Act}{w:World}(h:wpQuiet P l.toArray S (λa'=>Q .normal a' w) (XZy l fin) a):YqH P l S z Q [] fin a w:=h
theorem YvE{id:Nat}{a:Act}{w:World}(S:World->Prop)(z:Nat)(segs:List (List Nat×Nat))(fin:List Nat)(hm:P.follows .mixedOrders=true)
  (hB:(Region.noSelect l.toArray&&QlW .any l.toArray z&&ZU3 .any l.toArray z (XA5 segs fin) (Array.replicate l.toArray.size false)&&(XA5 segs fin).length==l.toArray.size)=true) (hS:S w.drew)
  (h:YqH P l (λw'=>∃p:ZJV S,w'=p.w) z (NoPanic Q) segs fin a w.drew):(Code.region id l.toArray true).wp P Q a w:=by
 simp only[ζd,ζZ]at hB;obtain⟨⟨⟨Y,hz⟩,hB⟩,X⟩:=hB;refine wp_region_noPanic (wp_region_any hm ?_);have:=ZHG (P:=P) (Q:=NoPanic Q) (md:=.any) Y (λc a b w h=>h) hz segs fin _ a w.drew hB (ZVQ.none .any l.toArray) (.inl (ZJV.of hS)) h;rw[X]at this;exact ZmF _ _ _ _ this
end
end
end Go.Proofs.YteihjlcmjecmfaaGreatDoor
