/- Part 6 of what Trees leans on: my own lemmas, merged by shake.py. -/
import Derived.Test.YtbdimhlaaoadgaaGreatDoorTreesE
namespace Go.Proofs.YtbdimhlaaoadgaaGreatDoor
open _root_.Go.Proofs.Tryz
set_option maxHeartbeats 6400000
set_option maxRecDepth 100000
open Go.RowKit Word
variable{c:Cf}{a room:Int}{O rs:List Int}{l:List Nat}{L:List Ob}{B K M N T b b12 b5 base cp f hi i j k lo m n p1 p2 q r to x y:Nat}{p:Nat->List Nat}{F:Nat->Nat}{Q S S3 SV:Nat->Prop}{A:Option Addr}{z:Sp}{v v' v1:Vm}{w w' w3:World}
section
variable{G SW:Nat->Prop}{c:MkC}{s:MkS}{r vi:Int}{X:Int->Prop}
theorem ZQv(hso:DP v rs c.n)(h:BJ w SV G SW c v s r vi)(hp:∀a,Rch v rs a->c.z.Rd v a)(hi:CE v rs c.n c.R X s)(ha:a≠0->Rch v rs a):Calls prog 178 #[pP c.k,iI a] w (ES w SV G SW c v (XLt s v rs c X a r vi) False):=by
 have H:=h;have HI:=hi;by_cases h0:a=0
 ·subst h0;clear h hi ha hp;go_enter func178,ntmps178;go_wp2;refine ζz (ζl rfl _ _ _) rfl ?_;exact ES.ok (AB.refl _ _) (H.up H.bB) ⟨HI,DK.refl _,λh=>absurd rfl h,rfl,rfl⟩
 ·have hR:=ha h0;have HR:=hR;have d0:(a==0)=false:=by simpa using h0
  have c0:=h.row.cc 0;have c1:=h.row.cc 1;unfold Sp.v at c0;have O:=(KV h.ext h.tab a);unfold GG at O;have N:=hi.mkd.good;by_cases hs:Hs s.L a
  ·obtain⟨f1,f2⟩:=Jqz N hs;rw[f2,θ f1]at O;have HS:=hs;clear h hi ha hp h0 hR hs N f1 f2;go_enter func178,ntmps178;go_wp2_with(go_at_call 222;refine O.mono ?_;rintro e w1 ⟨rfl,rfl⟩);refine ζz (ζl rfl _ _ _) rfl ?_;exact ES.ok (AB.refl _ _) (H.up H.bB) ⟨HI,DK.refl _,λ_=>HS,rfl,rfl⟩
  ·have Xk:=(λhf=>Z8n hs hf);have HNS:=hs;obtain⟨st,Xi⟩:∃st,st=obS s.L (A9 s.L a):=⟨_,rfl⟩;obtain⟨sz,Xs⟩:∃sz,sz=obZ s.L (A9 s.L a):=⟨_,rfl⟩;obtain⟨fb,Xj⟩:∃fb,fb=decide (A9 s.L a<s.L.length):=⟨_,rfl⟩;rw[<-Xi,<-Xs,<-Xj]at O;rw[<-Xi]at Xk;have Xn:=Xj
   have Xu:fb=false\/(fb=true/\(st==a)=false):=by
    cases hb:fb with
    | false=>exact .inl rfl
    | true=>exact .inr ⟨rfl,by have:=Xk (of_decide_eq_true (Xn.symm.trans hb));simpa using this⟩
   have D:=(λW (g:Gr w W)=>(NP h.zk.1 (h.zk.1.gr h.vm g) a (hp a hR).1).mono λ_ _ hh=>ψ hh.1 (hh.2.ro h.zk.2));unfold Sp.v at D;have Xw:s.L.length<=1048576:=β N.len h.ext.nb.2;have Yc:sizes s.L<=1048576:=β (FT N) h.ext.nb.2;by_cases hE:v.rdE a=0
   ·have HE:=hE;obtain⟨-,-,p,f,k,hh,Xy⟩:=F3 hE;have V:=DC hE;have Xb:=(λW=>LV ⟨p,f,k⟩ W);have ho:v.osz a=CF ⟨p,f,k⟩:=by unfold Vm.osz;rw[hh]
    rw[<-ho]at Xb;rw[hE,hh]at D;unfold AM at D Xb;obtain⟨z,hz⟩:∃z,z=v.osz a:=⟨_,rfl⟩;rw[<-hz]at Xb V;have HZ:=ι hz;have Xd:=ι (λW (g:Gr w W)=>Zc1 (h.ext.gr g) (g.tab h.tab.lt h.tab) a z);unfold V0 at Xd;have Z:=h.sep;have HT1:=ι (λ(W W':World) (g:Gr w W) (t:AB (AR c.m c.b1 c.b2) W W') (x:Ext W' c.m c.p1 c.b1 c.p2 c.b2 c.n s.L)=>(⟨MkC.vm h.zk.1 Z (h.zk.1.gr h.vm g) t (λi e=>.inr (.inl e)),x,(h.stk.gr g).touch t (λi hi _ e=>Z.mg i e hi),(h.wk.gr g).touch t (λi hi _ e=>Z.sw i hi (.inr (.inl e))),(h.row.gr g).touch t Z.k1,t.tab (g.tab h.tab.lt h.tab).lt (λe=>Z.tab (.inr (.inl e))) (g.tab h.tab.lt h.tab),Z,β h.bB (β g.size t.size),h.zk⟩:BJ W' SV G SW c v s r vi));by_cases hA:DA s.L c.n a z=0
    ·have HA:=ι hA;rw[hA]at Xd;have Xe:=ι (VNW (c:=c) (r:=r) (vi:=vi) hA);have Xp:=h.sep.k2;have Yb:=ι Xp;have Xo:=ι (hi.push hR hE (by rw[<-hz];exact hA));rw[<-hz]at Xo;have hz1:1<=z:=V.2.1;have hz2:z<=256:=V.2.2;obtain⟨LN,Xf⟩:∃LN:Nat,LN=s.L.length:=⟨_,rfl⟩;obtain⟨SN,Xh⟩:∃SN:Nat,SN=sizes s.L:=⟨_,rfl⟩;rw[<-Xf]at Xw Xe;rw[<-Xh]at Yc Xe;have Y:=ι (ψ Xf Xh);clear h hi ha hp h0 hR hs N Xi Xs Xj hE Xk Xn hh Xy ho hz hA Z Xp V Xf Xh;rcases Xu with rfl|⟨rfl,d3⟩
     all_goals
      go_enter func178,ntmps178
      go_wp2_with(first
       | (go_at_call 222;refine O.mono ?_;rintro e w1 ⟨rfl,rfl⟩)
       | (go_at_call 93;refine(D _ (Gr.refl _)).mono ?_;rintro e w1 ⟨rfl,Xr⟩;have Xt:=ι (Xr.alloc (.cells #[.int .i64 p,.int .i64 f,.int .i64 k] 64));clear Xr)
       | (go_at_call 229;(with_reducible refine(WZ _ _).mono ?_);rintro e w2 ⟨rfl,rfl⟩)
       | (go_at_call 78;refine(Xb _).mono ?_;rintro e w3 ⟨rfl,Xg⟩;have E:=ι (Xt.o.trans Xg);have kk1:=(H.gr (Xt.o.trans Xg)).row.cell (j:=1) rfl;clear Xg)
       | (go_at_call 211;refine(Xd.o _ E.o).mono ?_;rintro e w4 ⟨rfl,Xa,Xm⟩;have Xv:=ι Xm;have Xz:=ι Xa;have I:=ι (H.gr E.o);have Xc:=ι (I.o.row.touch Xa I.o.sep.k1);have y2:=Xc.o.cc 2;have y4:=Xc.o.cc 4;have y5:=Xc.o.cc 5;have yf:=Xc.o.free;have Ya:=ι (I.o.stk.touch Xa (λi hi _ e=>I.o.sep.mg i e hi));rw[<-Y.o.1]at y4;rw[<-Y.o.2]at y5;clear Xa Xm)
       | (go_at_call 230;refine(Y4L (Ya.o.set2 Yb.o) a).mono ?_;intro e w5 hp;have Xx:(∃b,e=.returned (.bool b)):=by {rcases hp with⟨_,rfl,_⟩|⟨_,rfl,_⟩ <;> exact⟨_,rfl⟩};have HP:=ι hp;obtain⟨pb,rfl⟩:=Xx;clear hp))
      refine ζz (ζl rfl _ _ _) rfl ?_;have Xq:=Xe.o;rw[Y.o.1,Y.o.2]at Xq
      have Xl:∀st' lost',s.push c.R (C2 s.L c.n a z) a=⟨C2 s.L c.n a z,st',lost'⟩->AB G ((w4.setCell ⟨c.k,4,none⟩ (.int .i64 ((s.L.length:Nat)+1))).setCell ⟨c.k,5,none⟩ (.int .i64 ((sizes s.L:Nat)+z))) w5/\CA w5 (plus G ((w4.setCell ⟨c.k,4,none⟩ (.int .i64 ((s.L.length:Nat)+1))).setCell ⟨c.k,5,none⟩ (.int .i64 ((sizes s.L:Nat)+z)))) c.g st' c.R lost'->ES w SV G SW c v (XLt s v rs c X a r vi) False (.returned (.tuple #[])) w5:=λst' lost' hpe ⟨U,J⟩=>by
       obtain⟨q1,q2,q3⟩:=Xo.o;rw[hpe]at q1 q2 q3;obtain⟨m5,t5⟩:=I.o.pushed Xz.o Xv.o U J Xq;exact ES.ok ((E.o.touch _).trans t5) (m5.sub (λi hi=>hi.imp id (λh'=>β E.o.size h')) (H.sep.plus H.bB)) ⟨q1,q2,λ_=>q3,rfl,rfl⟩
      rcases HP.o with⟨hf,-,U,J⟩|⟨hf,-,U,J⟩
      ·refine Xl s.st true (ξ Ω) ⟨?_,?_⟩
       ·rw[Y.o.1,Y.o.2]at U;exact U
       ·rw[Y.o.1,Y.o.2]at J;exact J
      ·refine Xl (s.st++[a]) s.lost (φ hf) ⟨?_,?_⟩
       ·rw[Y.o.1,Y.o.2]at U;exact U
       ·rw[Y.o.1,Y.o.2]at J;exact J
    ·exact absurd hso (hi.mkd.fail hR hs (by rw[<-hz];exact hA))
   ·exact absurd hso (ZFY hR hE)
theorem VCq(hso:DP v rs c.n)(h:BJ w SV G SW c v s r vi)(hp:∀a,Rch v rs a->c.z.Rd v a)(hi:CE v rs c.n c.R X s)(ha:Hs s.L a):Calls prog 183 #[pP c.k,iI a] w (ES w SV G SW c v (Yr9 s v rs c X a r) False):=by
 have H:=h;have HI:=hi;obtain⟨hR,hE⟩:=hi.mkd.hs ha;obtain⟨-,-,p,f,k,hh,hsm⟩:=F3 hE;have HR:=(ψ hR (ψ hE hh));have Xa:=(hp a hR);have U:=(λW (g:Gr w W)=>(NP h.zk.1 (h.zk.1.gr h.vm g) a (hp a hR).1).mono λ_ _ hh=>ψ hh.1 (hh.2.ro h.zk.2));have HP:=hp;rw[hE,hh]at U;unfold Sp.v AM at U;have c0:=h.row.cc 0;unfold Sp.v at c0;have HN:=(Rec.new w 64 [iI p,iI f,iI k]);clear h hi ha hp hR hE hh;go_enter func183,ntmps183
 go_wp2_with(first
  | (go_at_call 93;refine(U _ (Gr.refl _)).mono ?_;rintro e w1 ⟨rfl,Xe⟩;have Xf:=(Xe.alloc (.cells #[.int .i64 p,.int .i64 f,.int .i64 k] 64));clear Xe)
  | (go_at_call 229;(with_reducible refine(WZ _ _).mono ?_);rintro e w2 ⟨rfl,rfl⟩))
 go_loopw [24] (λs24 wr=>∃(j:Nat) (s':MkS) (r' vi':Int),j<=p/\Hid (BJ wr SV (plus G w) SW c v s' r' vi')/\Hid (AB (c.T G) w wr)/\Hid (CE v rs c.n c.R X s'/\DK s s'/\ClN v s'.L a j/\r'=r)/\s24=iI j) (λs24 _=>p-(intOf s24).toNat)
 case atStart=>exact⟨0,s,r,vi,by omega,⟨(H.gr Xf).up H.bB⟩,⟨Xf.touch _⟩,⟨HI,DK.refl _,λi hi=>by omega,rfl⟩,rfl⟩
 case round=>
  obtain⟨j,s',r',vi',hj,HM,HT,HJ,rfl⟩:=hrel;have k0:=HM.o.row.cc 0;have k7:=HM.o.row.cc 7;have kf:=HM.o.row.free 7;unfold Sp.v at k0;clear c0;by_cases Y:j=p
  ·subst Y;go_wp2;refine ζz (ζl rfl _ _ _) rfl ?_;obtain⟨q1,q2,q3,q4⟩:=HJ.o;exact ES.ok (HT.o.trans (PD 7 _)) (HM.o.set (r':=r') (vi':=wrap64 (vi' + 1)) rfl) ⟨q1,q2,q3.cl (by rw[HR.2.2];exact ψB _),q4⟩
  ·have D:(j:Int)<(p:Int):=Ω
   have J:=((YJ HM.o.zk.1 HM.o.vm a (j:Int) Xa.1 (Xa.2 _)).mono λ_ _ hh=>ψ hh.1 (hh.2.ro HM.o.zk.2));unfold Sp.v at J;have Xb:Hid (v.ptE a j=0->((v.ptV a j:Nat):Int)≠0->Rch v rs (v.ptV a j:Nat)):=⟨λh1 h2=>HR.1.step ⟨HR.2.1,j,by rw[HR.2.2];exact D,h1,by omega,rfl⟩⟩;have O:=(ψ hj Y);clear hj Y;by_cases Z:v.ptE a j=0
   ·have Xd:=Z;rw[Z]at J;obtain⟨x,hx⟩:∃x,x=v.ptV a j:=⟨_,rfl⟩;rw[<-hx]at J Xb;have Xj:=ι hx;clear Z hx
    go_wp2_with(first
     | (go_at_call 117;refine J.mono ?_;rintro e w2 ⟨rfl,V⟩;have Xk:=ι (HM.o.gr V);have N:=ι (HT.o.trans (V.touch _));clear V)
     | (go_at_call 229;(with_reducible refine(WZ _ _).mono ?_);rintro e w3 ⟨rfl,rfl⟩)
     | (go_at_call 178;refine(ZQv hso Xk.o HP HJ.o.1 (Xb.o Xd)).mono ?_;rintro e w4 ⟨E,(⟨rfl,s4,r4,Xg,Xc,I⟩|⟨-,⟨⟩,-⟩)⟩;(have Xl:=ι (JS N.o E);have Xh:=ι (Xc.back N.o.size H.sep H.bB);have Xi:=ι I;clear E Xc I)))
    ·go_round
     case rel=>
      obtain⟨q1,q2,q3,q4⟩:=HJ.o;obtain⟨p1,p2,p3,p4,p5⟩:=Xi.o;refine⟨j+1,s4,r4,Xg,by have:=O;omega,Xh,Xl,⟨p1,q2.trans p2,(q3.mono p2.sub).succ Xd (λh0=>?_),p4.trans q4⟩,by go_num⟩;rw[<-Xj.o]at h0⊢;exact p3 Ω
     case measure=>have:=O;simp[intOf];omega
   ·exact absurd hso (J7J HR.1 (by rw[HR.2.2];exact D) Z)
theorem Ytl(hso:DP v rs c.n)(h:BJ w SV G SW c v s r vi)(hp:∀a,Rch v rs a->c.z.Rd v a)(hi:CE v rs c.n c.R X s):Calls prog 179 #[pP c.k] w (ES w SV G SW c v (VA5 s v rs c X r vi) False):=by
 have H:=h;have HI:=hi;have c2:=h.row.cc 2;have HP:=hp;go_enter func179,ntmps179;go_wp2_with(go_at_call 231;refine(VPs H).mono ?_;rintro e w1 ⟨a0,b0,st0,rfl,D,Xg,Xc⟩;have Xf:=ι D;have Xd:=ι (Xg.up (w:=w) H.bB);have N:=Xc)
 go_loopg [2,3] (2*c.n+s.st.length) (λk s2 s3 wr=>∃(a:Int) (b:Bool) (s':MkS) (r' Z:Int),s2=iI a/\s3=.bool b/\Hid (BJ wr SV (plus G w) SW c v s' r' Z)/\Hid (AB (c.T G) w wr)/\Hid (DK s s'/\(MQ s r vi->MQ s' r' Z)/\DrS v rs c X s' a b k))
 case atStart=>
  refine⟨a0,b0,_,r,vi,rfl,rfl,Xd,Xf,⟨ZE (DK.refl _) N,λh=>h,DrS.of HI N Ω⟩⟩
 case round=>
  obtain⟨a,b,s',r',Z,rfl,rfl,HM,HT,HJ⟩:=hrel;have k2:=HM.o.row.cc 2;cases b with
  | false=>
   go_wp2;refine ζz (ζl rfl _ _ _) rfl ?_;obtain⟨q1,q2,q3,-⟩:=HJ.o;rcases q3 with⟨-,h1,h2⟩|⟨h1,-⟩
   ·exact ES.ok HT.o HM.o ⟨h2,q1,h1,q2⟩
   ·cases h1
  | true=>
   have HA:Hid (Hs s'.L a/\CE v rs c.n c.R (λx=>X x\/x=a) s'/\2*c.n+s'.st.length+1<=2*s'.L.length+gk):=⟨by
    obtain⟨q1,q2,q3,q4⟩:=HJ.o;rcases q3 with⟨h1,-⟩|⟨-,h1,h2⟩
    ·cases h1
    ·exact⟨h1,h2,q4⟩⟩
   go_wp2_with(first
    | (go_at_call 183;refine(VCq hso HM.o HP HA.o.2.1 HA.o.1).mono ?_;rintro e w4 ⟨U,(⟨rfl,s4,r4,O,Y,J⟩|⟨-,⟨⟩,-⟩)⟩;(have Xi:=(JS HT.o U);have E:=(Y.back HT.o.size H.sep H.bB);have Xb:=ι J;have k4:=Y.row.cc 2;clear U Y J))
    | (go_at_call 231;refine(VPs E).mono ?_;rintro e w5 ⟨a5,b5,st5,rfl,Xe,I,Xa⟩;have Xj:=ι (JS Xi Xe);have Xh:=ι I;have V:=Xa))
   ·have hgk:1<=gk:=by
     have:=HA.o.2.2;have:=HA.o.2.1.mkd.good.len;omega
    go_roundg (gk-1)
    case measure=>omega
    case rel=>
     obtain⟨q1,q2,-⟩:=HJ.o;obtain⟨p1,p2,p3,p4⟩:=Xb.o;have hme:=HA.o.2.2;have Y:=p2.mea;refine⟨a5,b5,_,r4,O,rfl,rfl,Xh,Xj,⟨ZE (q1.trans p2) V,λ_ h0=>absurd h0 (QHb (p2.sub a HA.o.1)),DrS.of (p1.done p3 (λx hx=>hx)) V Ω⟩⟩
theorem XHI(hso:DP v rs c.n)(h:BJ w SV G SW c v s0 0 0)(hp:∀a,Rch v rs a->c.z.Rd v a)(hA:FK (c.T G) w A rs)(hlen:rs.length<=maxLen):
  Calls prog 130 #[pP c.k,.slice A rs.length cp] w (ES w SV G SW c v (OE v rs c) False):=by
 have H:=h;have HA:=hA;have HP:=hp;have c6:=h.row.cc 6;have kf:=h.row.free 6;obtain⟨N,hN⟩:∃N,N=rs.length:=⟨_,rfl⟩;rw[<-hN]at hlen⊢;have HN:=ι hN;unfold maxLen at hlen;clear h hA hN hp;go_enter func130,ntmps130;go_wp2;have Yg:Hid (BJ (w.setCell ⟨c.k,6,none⟩ (.int .i64 1)) SV (plus G w) SW c v s0 1 0):=⟨(H.set (r':=1) (vi':=0) rfl).up H.bB⟩;have Ym:Hid (AB (c.T G) w (w.setCell ⟨c.k,6,none⟩ (.int .i64 1))):=⟨PD 6 _⟩;obtain⟨w1,Yk⟩:∃w1,w1=w.setCell ⟨c.k,6,none⟩ (.int .i64 1):=⟨_,rfl⟩;rw[<-Yk]at Yg Ym⊢;clear c6 kf Yk
 go_loopw [14] (λs14 wr=>∃(j:Nat) (s:MkS) (r vi:Int),j<=N/\Hid (BJ wr SV (plus G w) SW c v s r vi)/\Hid (AB (c.T G) w wr)/\Hid (UC v rs c j s r vi)/\s14=iI j) (λs14 _=>N-(intOf s14).toNat)
 case atStart=>exact⟨0,s0,1,0,ζf _,Yg,Ym,⟨⟨Mk.nil _ _ _,(λ_ h=>by cases h),ζf _,(λa ha=>absurd rfl (QHb ha))⟩,rfl,(λx hx=>by cases hx),(λ_=>⟨rfl,rfl⟩),(λh=>by cases h)⟩,rfl⟩
 case round=>
  obtain⟨j,s,r,vi,hj,HM,HT,HJ,rfl⟩:=hrel;by_cases Z:j=N
  ·subst Z;have Yn:Hid (UC v rs c rs.length s r vi):=⟨by have:=HJ.o;rwa [HN.o]at this⟩;clear HJ hj;go_wp2
   go_loopg [] (c.n+1) (λk wr=>∃(s:MkS) (r vi:Int),Hid (BJ wr SV (plus G w) SW c v s r vi)/\Hid (AB (c.T G) w wr)/\Hid (UC v rs c rs.length s r vi)/\Hid (s.lost=true->c.n+1<=s.L.length+k))
   case atStart=>exact⟨s,r,vi,HM,HT,Yn,⟨λ_=>by omega⟩⟩
   case round=>
    clear HM HT Yn;clear s r vi;obtain⟨wo,rfl⟩:∃wo:World,wo=wr:=⟨_,rfl⟩;obtain⟨s,r,vi,HM,HT,HJ,HK⟩:=hrel;have k2:=HM.o.row.cc 2;obtain⟨L,st,lost⟩:=s;have Yf:=(XPh HM.o.stk);cases lost with
    | false=>
     go_wp2_with(go_at_call 180;refine Yf.mono ?_;rintro e w2 ⟨rfl,rfl⟩);refine ζz (ζl rfl _ _ _) rfl ?_;obtain⟨q1,q2,q3,q4,q5⟩:=HJ.o;exact ES.ok HT.o HM.o ⟨q1.marks (λ_ h=>h) q2 rfl (λx hx h0=>q3 x (by rw[ξd];exact hx) h0),q4⟩
    | true=>
     have Yx:st=[]:=HJ.o.2.1;subst Yx;have Xp:=HM.o.cut;obtain⟨G1,Xu⟩:∃G1,G1=AC (plus G w) wo:=⟨_,rfl⟩;rw[<-Xu]at Xp;have Xx:Hid (∀i,G1 i->plus G w i/\i<wo.heap.size):=⟨λi hi=>by rw[Xu]at hi;exact hi⟩;have Yy:=HJ.o.2.2.2.2 rfl;have Yj:=HJ.o.1.mkd.good;have Yr:L.length<=1048576:=β Yj.len HM.o.ext.nb.2;obtain⟨LN,Xk⟩:∃LN,LN=L.length:=⟨_,rfl⟩;have D:=ι Xk;rw[<-Xk]at Yr;clear Xu Yj Xk
     go_wp2_with(first
      | (go_at_call 180;refine Yf.mono ?_;rintro e w2 ⟨rfl,rfl⟩)
      | (go_at_call 181;refine(Qf8 Xp.stk).mono ?_;rintro e w2 ⟨rfl,Xo,Yb⟩;have Xh:=(BJ.popped (L:=L) (st:=[]) (lost:=true) Xp Xo Yb);have k6:=Xh.row.cc 6;have k1:=Xh.row.cc 1;have kf:=Xh.row.free 6;have Yc:=Xo;clear Xo Yb)
      | (go_at_call 182;have Xi:=(λx:Int=>Xh.set (j:=6) (u:=iI x) (r':=x) (vi':=vi) rfl);refine(Yde (Xi _).ext (Xi _).tab ((Xi _).row.cell (j:=1) rfl)).mono ?_;rintro e w3 ⟨vL,rfl,Xm,Xv⟩;have Xd:=((Xi _).gr Xm);have Xy:=ι Xm;obtain⟨A3,Yl,rfl,Ys,h32⟩:=C7 Xv;have Xs:=ι Xv;rw[<-D.o]at Xs;rw[<-D.o]at Ys;clear Xm Xv))
     have hz2:wo.heap.size<=w2.heap.size:=Yc.size;have hz3:w2.heap.size<=w3.heap.size:=by simpa using Xy.o.size
     have hzw:w.heap.size<=wo.heap.size:=HT.o.size;have hBw:c.B<=w.heap.size:=H.bB
     have Yd:Hid (∀g,(Value.slice A3 LN Yl).ownBlock=some g->¬c.T (plus G1 w3) g):=⟨λg hg ht=>by
      obtain⟨a1,a2⟩:=BE Xs.o hg;have a1:w2.heap.size<=g:=by simpa using a1
      rcases ht with h1|h1|h1|h1
      ·have:=H.sep.kB;omega
      ·have:=H.sep.mB g h1;omega
      ·have:=(Xx.o g h1).2;omega
      ·omega⟩
     have Xz:Hid (DF c SV G1 SW):=⟨Xd.sep⟩;have Yw:Hid (AB (c.T G1) wo w3):=⟨((Yc.mono (λi _ h=>.inr (.inr h))).trans (PD 6 _)).trans (Xy.o.touch _)⟩;clear k1 k2 k6 kf;rw[<-D.o]
     go_loopw [46] (λs46 wy=>∃(j:Nat) (s':MkS) (r' vi':Int),j<=LN/\Hid (BJ wy SV (plus G1 w3) SW c v s' r' vi')/\Hid (AB (c.T G1) w3 wy)/\Hid (wy.ownsRow 0 3 1 (.slice A3 LN Yl) LN (LA L LN))/\Hid (CE v rs c.n c.R (KZ L j) s'/\DK ⟨L,[],false⟩ s'/\s'.st=[])/\s46=iI j) (λs46 _=>LN-(intOf s46).toNat)
     case atStart=>
      exact⟨0,⟨L,[],false⟩,_,vi,ζf _,⟨Xd.up (w:=w3) Xd.bB⟩,⟨AB.refl _ _⟩,⟨QrH Xs.o (ζf _)⟩,⟨HJ.o.1.found,DK.refl _,rfl⟩,rfl⟩
     case round=>
      obtain⟨j,s',r',vi',hj,Yh,Xl,Xr,Xg,rfl⟩:=hrel;by_cases Z:j=LN
      ·subst Z;go_wp2
       have hgk:1<=gk:=by
        have:=HK.o (by simp);have h2:=HJ.o.1.mkd.good.len;have h2:L.length<=c.n:=h2;have h3:c.n+1<=L.length+gk:=this;omega
       go_roundg (gk-1)
       case measure=>omega
       case rel=>
        obtain⟨q1,q2,q3⟩:=Xg.o;have U:=q2.len;have U:L.length<=s'.L.length:=U;have Yq:AB (c.T (plus G w)) wo wr:=(Yw.o.trans Xl.o).mono (λi _ h=>h.imp id (λh=>h.imp id (λh=>(Xx.o i h).1)));have Ya:s'.L≠[]:=λe=>by have h1:=U;rw[e]at h1;exact Yy (ζy (Nat.le_zero.1 h1))
        refine⟨s',r',vi',⟨Yh.o.sub (λi h=>h.elim (λh=>(Xx.o i h).1) (λh=>.inr Ω)) (H.sep.plus H.bB)⟩,⟨JS HT.o Yq⟩,⟨q1.weak (λa h=>absurd h (by rw[D.o];exact Jdx a)),q3,λx hx h0=>q2.sub _ (HJ.o.2.2.1 x hx h0),λh=>absurd h Ya,λ_=>Ya⟩,⟨λhl=>?_⟩⟩;have h5:=HK.o (by simp);have h5:c.n+1<=L.length+gk:=h5;rcases q2.los hl with h|h
        ·cases h
        ·have h:L.length<s'.L.length:=h;omega
      ·have J:j<L.length:=by have:=D.o;omega
       have Yu:(j:Int)<(LN:Int):=Ω
       obtain⟨g,cc',ea,-,-,-,-⟩:=E6 Xr.o Ω;simp only[Value.slice.injEq]at ea;obtain⟨rfl,-,rfl⟩:=ea;obtain⟨a,ha⟩:∃a:Int,a=(L[j].1:Nat):=⟨_,rfl⟩;have kc:=BS Xr.o (j:=j) (u:=iI a) (by rw[ha];unfold LA zs;rw[D.o,ξd];simp[J]);have Ye:Hid (Hs L a/\a=(L[j].1:Nat)):=⟨⟨L[j],μ J,ha.symm⟩,ha⟩;have V:=ι (ψ hj (ψ Z J));clear hj Z ha
       go_wp2_with(first
        | (go_at_call 183;refine(VCq hso Yh.o HP Xg.o.1 (Xg.o.2.1.sub a Ye.o.1)).mono ?_;rintro e w4 ⟨O,(⟨rfl,s4,r4,Yo,Xe,Xb⟩|⟨-,⟨⟩,-⟩)⟩;(have Yv:=ι (BX Xr.o O Yd.o);have Xf:=ι (JS Xl.o O);have Xn:=ι (Xe.back Xl.o.size Xz.o Xd.bB);have I:=ι Xb;clear O Xe Xb))
        | (go_at_call 179;refine(Ytl hso Xn.o HP (I.o.1.done I.o.2.2.1 (Y:=KZ L (j+1)) (λx hx=>by rw[Ye.o.2];exact J6E V.o.2.2 hx))).mono ?_;rintro e w5 ⟨E,(⟨rfl,s5,r5,Xj,Xa,Xc⟩|⟨-,⟨⟩,-⟩)⟩;(have Yp:=ι (BX Yv.o E Yd.o);have Xw:=ι (JS Xf.o E);have Xt:=ι (Xa.back Xf.o.size Xz.o Xd.bB);have Xq:=ι Xc;clear E Xa Xc)))
       ·go_round
        case rel=>
         obtain⟨p1,p2,p3,p4⟩:=I.o;obtain⟨t1,t2,t3,t4⟩:=Xq.o;refine⟨j+1,s5,r5,Xj,by have:=V.o;omega,Xt,Xw,Yp,⟨t1,(Xg.o.2.1.trans p2).trans t2,t3⟩,by go_num⟩
        case measure=>have:=V.o;simp[intOf];omega
  ·have Yu:(j:Int)<(N:Int):=Ω
   have J:j<rs.length:=by have:=HN.o;omega
   obtain⟨b,o,rfl,hb,Yi,e0⟩:=HA j J;have i0:=(HT.o.cell hb Yi (o+j)).trans e0;obtain⟨a,ha⟩:∃a,a=rs[j]:=⟨_,rfl⟩;rw[<-ha]at i0 e0;have Yt:Hid (a≠0->Rch v rs a):=⟨λh0=>Rch.root (by rw[ha];exact μ J) h0⟩
   have Yz:Hid (∀x,x∈rs.take (j+1)->x∈rs.take j\/x=a):=⟨λx hx=>by
    rw[ζ4 J]at hx
    exact(ζe.1 hx).imp id (λh=>by rw[ha];exact ζO.1 h)⟩
   have V:=ι (ψ hj Z);clear hj Z J ha e0 Yi
   go_wp2_with(first
    | (go_at_call 178;refine(ZQv hso HM.o HP HJ.o.1 Yt.o).mono ?_;rintro e w4 ⟨O,(⟨rfl,s4,r4,Yo,Xe,Xb⟩|⟨-,⟨⟩,-⟩)⟩;(have Xf:=ι (JS HT.o O);have Xn:=ι (Xe.back HT.o.size H.sep H.bB);have I:=ι Xb;clear O Xe Xb))
    | (go_at_call 179;refine(Ytl hso Xn.o HP I.o.1).mono ?_;rintro e w5 ⟨E,(⟨rfl,s5,r5,Xj,Xa,Xc⟩|⟨-,⟨⟩,-⟩)⟩;(have Xw:=ι (JS Xf.o E);have Xt:=ι (Xa.back Xf.o.size H.sep H.bB);have Xq:=ι Xc;clear E Xa Xc)))
   ·go_round
    case rel=>
     obtain⟨q1,q2,q3,q4,q5⟩:=HJ.o;obtain⟨p1,p2,p3,rfl,rfl⟩:=I.o;obtain⟨t1,t2,t3,t4⟩:=Xq.o;have U:=p2.trans t2;refine⟨j+1,s5,r5,Xj,by have:=V.o;omega,Xt,Xw,⟨t1,t3,λx hx h0=>?_,t4 (λh=>q4 ?_),λhl=>?_⟩,by go_num⟩
     ·rcases Yz.o x hx with h|rfl
      ·exact U.sub _ (q3 x h h0)
      ·exact t2.sub _ (p3 h0)
     ·have:=p2.len;rw[h]at this;exact ζy (by simpa using this)
     ·have h5:=U.len;rcases U.los hl with h|h
      ·exact λe=>q5 h (ζy (by rw[e]at h5;simpa using h5))
      ·intro e;rw[e]at h;simp at h
    case measure=>have:=V.o;simp[intOf];omega
theorem ViA(hso:DP v rs c.n)(hrow:Rec w c.k 213 (WO c.z c.m c.g (.pointer none) [] 0 0))(hp:∀a,Rch v rs a->c.z.Rd v a)(h:BJ (w.setCell ⟨c.k,3,none⟩ (.pointer (some ⟨c.wk,0,none⟩))) SV G SW c v s0 0 0)
  (c12:w.cell? ⟨b12,0,none⟩=some (pP c.k)) (c5:w.cell? ⟨b5,0,none⟩=some (.slice A rs.length cp)) (n12:b12≠c.k) (n5:b5≠c.k) (hA:FK (c.T G) w A rs) (hlen:rs.length<=maxLen):
  Calls prog 129 #[pP c.wk,pP b12,pP b5] w (ES w SV G SW c v (OE v rs c) False):=by
 have k3:=hrow.cc 3;have kf:=hrow.free 3;have U:(w.setCell ⟨c.k,3,none⟩ (.pointer (some ⟨c.wk,0,none⟩))).heap.size=w.heap.size:=World.size_setCell ..;have V:=hA.touch (PD (w:=w) (c:=c) (G:=G) 3 (pP c.wk)) (λ_ _ h=>h);have Y:=(XHI hso (cp:=cp) h hp V hlen)
 have J:Hid (∀e w',ES (w.setCell ⟨c.k,3,none⟩ (.pointer (some ⟨c.wk,0,none⟩))) SV G SW c v (OE v rs c) False e w'->ES w SV G SW c v (OE v rs c) False e w'):=⟨λe w' he=>by
  obtain⟨ht,he⟩:=he;unfold plus at he;rw[U]at he
  exact⟨(PD 3 _).trans ht,he⟩⟩
 have tk:=(AB.refl (λi=>i=c.k) w).setCell (a:=⟨c.k,3,none⟩) (λ_=>rfl) (pP c.wk);have x5:=(tk.cell (AV c5) n5 0).trans c5;have x12:=(tk.cell (AV c12) n12 0).trans c12;go_enter func129,ntmps129;go_wp2_with(go_at_call 130;refine Y.mono ?_;intro e w1 he;have he:=J.o _ _ he;rcases he with⟨Z,(⟨rfl,h1⟩|⟨-,⟨⟩,-⟩)⟩)
 ·refine ζz (ζl rfl _ _ _) rfl ?_;exact⟨Z,.inl ⟨rfl,h1⟩⟩
end
def Vck(w:World)(SV SG:Nat->Prop)(z:Sp)(k m p1 b1 p2 b2 n g:Nat)(v:Vm)(rs:List Int)(e:Ending)(w':World):Prop:=
 AB (λi=>i=k\/AR m b1 b2 i\/SG i\/SV i) w w'/\∃L r vi,e=.returned (.agg #[iI 0,iI 0])/\M3 w' SV z k m p1 b1 p2 b2 n g v L r vi/\BM v rs n L/\(L=[]->r=1/\vi=0)
theorem Xe3{SG:Nat->Prop}{b1 b2 g R:Nat}(hz:z.Ok/\¬z.M)(hso:DP v rs n)(hp:∀a,Rch v rs a->z.Rd v a)(hD:∀i,z.D i->i<w.heap.size/\¬(i=k\/AR m b1 b2 i\/SG i))(hV:z.I v SV w)(hE:Ext w m p1 b1 p2 b2 n [])(hS:CA w SG g [] R false)(hR:Rec w k 213 (WO z m g (.pointer none) [] 0 0))(hT:AO w)
  (c12:w.cell? ⟨b12,0,none⟩=some (pP k)) (c5:w.cell? ⟨b5,0,none⟩=some (.slice A rs.length cp)) (n12:b12≠k) (n5:b5≠k) (hA:FK (λi=>i=k\/AR m b1 b2 i\/SG i) w A rs) (hlen:rs.length<=maxLen)
  (hSV:∀i,SV i->i<w.heap.size/\¬(i=k\/AR m b1 b2 i\/SG i)) (hSG:∀i,SG i->i<w.heap.size) (hp1:¬(p1=k\/AR m b1 b2 p1\/SG p1)) (hp2:¬(p2=k\/AR m b1 b2 p2\/SG p2)) (htb:¬(1=k\/AR m b1 b2 1\/SG 1))
  (hkm:¬AR m b1 b2 k) (hkg:¬SG k) (hmg:∀i,AR m b1 b2 i->¬SG i):
  Calls prog 128 #[z.v,.func (.func 129) #[] #[pP b12,pP b5]] w (Vck w SV SG z k m p1 b1 p2 b2 n g v rs):=by
 have Xh:(AN w z.v).heap.size=w.heap.size+2:=by unfold AN;rw[γ,γ]
 obtain⟨W0,Y⟩:∃W0,W0=EZ (AN w z.v) (w.heap.size+1):=⟨_,rfl⟩;have Xd:W0.heap.size=w.heap.size+5:=by rw[Y];unfold EZ;rw[γ,γ,γ,Xh]
 have g1:Gr w (AN w z.v):=((Gr.refl w).alloc _).alloc _;have g2:Gr (AN w z.v) W0:=by rw[Y];exact(((Gr.refl _).alloc _).alloc _).alloc _
 have g0:Gr w W0:=g1.trans g2;have Xi:=hR.lt
 have V:∀i,AR m b1 b2 i->i<w.heap.size:=λi hi=>by
  rcases hi with rfl|rfl|rfl
  ·exact hE.hm
  ·exact hE.v1.hb
  ·exact hE.v2.hb
 have hp1l:p1<w.heap.size:=hE.v1.hp;have hp2l:p2<w.heap.size:=hE.v2.hp;have htl:=hT.lt;obtain⟨c,hc⟩:∃c:MkC,c=⟨k,z,m,p1,b1,p2,b2,n,g,R,w.heap.size+1,w.heap.size+5⟩:=⟨_,rfl⟩
 have Xf:∀i,c.T SG i->i<w.heap.size:=λi hi=>by
  rw[hc]at hi;rcases hi with rfl|hi|hi
  ·exact Xi
  ·exact V i hi
  ·exact hSG i hi
 have U:DF c SV SG (λi=>i=w.heap.size+1):=by
  have J:=Xf;rw[hc]at J⊢;exact⟨λi hi=>⟨by have:=(hSV i hi).1;show i<w.heap.size+5;omega,(hSV i hi).2⟩,λi hi=>⟨by show i<w.heap.size+5;omega,λh=>by have:=J i h;omega⟩,⟨by show _<w.heap.size+5;omega,htb⟩,⟨by show p1<w.heap.size+5;omega,hp1⟩,⟨by show p2<w.heap.size+5;omega,hp2⟩,hkm,hkg,by show k<w.heap.size+5;omega,hmg,λi hi=>by have:=V i hi;show i<w.heap.size+5;omega,λi hi=>⟨by have:=(hD i hi).1;show i<w.heap.size+5;omega,(hD i hi).2⟩⟩
 have Xg:BJ (W0.setCell ⟨c.k,3,none⟩ (.pointer (some ⟨c.wk,0,none⟩))) SV SG (λi=>i=w.heap.size+1) c v s0 0 0:=by
  have tk:AB (λi=>i=c.k) W0 (W0.setCell ⟨c.k,3,none⟩ (.pointer (some ⟨c.wk,0,none⟩))):=(AB.refl (λi=>i=c.k) _).setCell (a:=⟨c.k,3,none⟩) (λ_=>rfl) _;have hw:=(Q7 w z.v).gr g2;rw[hc]at tk U⊢;refine⟨hz.1.fr (hz.1.gr hV g0) tk (λi _ e=>⟨λh=>(hSV i h).2 (.inl e),λh=>(hD i h).2 (.inl e)⟩) (λ_ h=>h),(hE.gr g0).touch tk (λe=>hkm (.inl e.symm)) (λe=>hp1 (.inl e)) (λe=>hkm (.inr (.inl e.symm))) (λe=>hp2 (.inl e)) (λe=>hkm (.inr (.inr e.symm))),(hS.gr g0).touch tk (λi hi _ e=>hkg (by subst e;exact hi)),hw.touch tk (λi hi _ e=>by have e:i=k:=e;omega),(hR.gr g0).set 3 (pP (w.heap.size+1)),tk.tab (g0.tab hT.lt hT).lt (λe=>htb (.inl e)) (g0.tab hT.lt hT),U,?_,hz⟩
  show w.heap.size+5<=_
  rw[World.size_setCell,Xd];exact ϑ _
 have N:=ViA (by rw[hc];exact hso) (w:=W0) (b12:=b12) (b5:=b5) (cp:=cp) (A:=A) (rs:=rs) (by rw[hc];exact hR.gr g0) (by rw[hc];exact hp) Xg (by rw[hc];exact(g0.cell (AV c12) 0).trans c12) ((g0.cell (AV c5) 0).trans c5) (by rw[hc];exact n12) (by rw[hc];exact n5)
  (by rw[hc];exact hA.gr g0) hlen
 have Z:Calls prog 129 (#[pP (w.heap.size+1)]++#[pP b12,pP b5]) W0
   (PU (c.T SG) W0 (λw1=>∃s r vi,BJ w1 SV (plus SG W0) (λi=>i=w.heap.size+1) c v s r vi/\OE v rs c s r vi)):=by
  have hb:=N;rw[show c.wk=w.heap.size+1 by rw[hc]]at hb;refine hb.mono ?_;rintro e w1 ⟨ht,(⟨rfl,s,r,vi,hm,hp⟩|⟨-,⟨⟩,-⟩)⟩;exact⟨ht,rfl,s,r,vi,hm,hp⟩
 have Xc:=X5 (w:=w) (sp:=z.v) (F:=129) (caps:=#[pP b12,pP b5]) ⟨_,_,rfl⟩ VUu (by rw[<-Y];exact Z) (λi h1 h2 _ h=>by have:=Xf i h;omega);refine Xc.mono ?_;rintro e w' ⟨w1,O,⟨s,r,vi,hm,E,Xe⟩,rfl,Xa⟩;rw[<-Y]at O;subst hc;have T1:AB (λi=>i=k\/AR m b1 b2 i\/SG i\/SV i) w w1:=(g0.touch _).trans' O (λi hi h=>h.imp id (λh=>h.imp id .inl))
 have Xb:∀(W1 W2:World) (L:List Ob) (r vi:Int),M3 W1 SV z k m p1 b1 p2 b2 n g v L r vi->AB (λi=>w.heap.size<=i) W1 W2->M3 W2 SV z k m p1 b1 p2 b2 n g v L r vi:=λW1 W2 L r vi h t=>
  h.touch t (λi hi h=>by have:=(hSV i hi).1;omega) (λi hi h=>by have:=V i hi;omega) Ω Ω Ω Ω (λi hi h=>by have:=(hD i hi).1;omega)
 exact⟨T1.trans' Xa (λi hi h=>by omega),s.L,r,vi,rfl,Xb _ _ _ _ _ ⟨hz.1,hm.vm,hm.ext,hm.tab,_,hm.row⟩ Xa,E,Xe⟩
def Yiw(w:World)(SV:Nat->Prop)(z:Sp)(m p1 b1 p2 b2 n:Nat)(v:Vm)(rs:List Int)(e:Ending)(w':World):Prop:=
 AB (λi=>AR m b1 b2 i\/SV i) w w'/\z.I v SV w'/\∃L r vi,e=.returned (.tuple #[QUw (L.length:Nat) (sizes L:Nat) r vi,iI 0])/\Ext w' m p1 b1 p2 b2 n L/\BM v rs n L/\(L=[]->r=1/\vi=0)
section
variable{b1 b2:Nat}{L0:List Ob}
theorem VVP(hso:DP v rs n)(hz:z.Ok/\¬z.M)(hp:∀a,Rch v rs a->z.Rd v a)(hD:∀i,z.D i->i<w.heap.size/\¬AR m b1 b2 i)(hV:z.I v SV w)(hE:Ext w m p1 b1 p2 b2 n L0)(hT:AO w)(hA:FK (AR m b1 b2) w A rs)(hlen:rs.length<=maxLen)
  (hvm:∀i,SV i->¬AR m b1 b2 i) (hv1:¬SV p1) (hv2:¬SV p2) (hvt:¬SV 1) (htm:¬AR m b1 b2 1)  (HRM:1<=room/\room<=4096):
  Calls prog 68 #[z.v,.slice A rs.length cp,pP m,iI room] w (Yiw w SV z m p1 b1 p2 b2 n v rs):=by
 have HE:=hE;have HV:=(hz.1.ct hV);have HZ:=hz;have HP:=hp;have HD:=hD;have HT:=hT;have HA:=hA;have hn1:=hE.nb.1;have dn:((n:Int)==0)=false:=by simp;omega
 have Ye:∀i,AR m b1 b2 i->i<w.heap.size:=λi hi=>by
  rcases hi with rfl|rfl|rfl
  ·exact hE.hm
  ·exact hE.v1.hb
  ·exact hE.v2.hb
 have Xk:p1<w.heap.size:=hE.v1.hp;have Xj:p2<w.heap.size:=hE.v2.hp;have Yh:=hT.lt
 have Xb:¬AR m b1 b2 p1:=λh=>by
  rcases h with h|h|h
  ·exact hE.am.1 h.symm
  ·exact hE.v1.ne h
  ·exact hE.ab.1 h
 have O:¬AR m b1 b2 p2:=λh=>by
  rcases h with h|h|h
  ·exact hE.am.2.2.1 h.symm
  ·exact hE.ab.2.1 h
  ·exact hE.v2.ne h
 have Xg:=Ye;obtain⟨N,hN⟩:∃N,N=rs.length:=⟨_,rfl⟩;have HN:=ι hN;rw[<-hN]at hlen⊢;have h5:=(ZC w (.cells #[.slice A N cp] 70) (.cells #[.int .i64 0,.int .i64 0,.int .i64 0,.int .i64 0] 124) 70 [.slice A N cp]).2;have h8:=(ZC w (.cells #[.slice A N cp] 70) (.cells #[] 70) 124 [iI 0,iI 0,iI 0,iI 0]).1;have Yd:=h5;have Yb:=h8;have Xe:Gr w ((w.alloc (.cells #[.slice A N cp] 70)).alloc (.cells #[.int .i64 0,.int .i64 0,.int .i64 0,.int .i64 0] 124)):=((Gr.refl w).alloc _).alloc _;have Xz:((w.alloc (.cells #[.slice A N cp] 70)).alloc (.cells #[.int .i64 0,.int .i64 0,.int .i64 0,.int .i64 0] 124)).heap.size=w.heap.size+2:=by rw[γ,γ]
 obtain⟨wa,E⟩:∃wa,wa=((w.alloc (.cells #[.slice A N cp] 70)).alloc (.cells #[.int .i64 0,.int .i64 0,.int .i64 0,.int .i64 0] 124)):=⟨_,rfl⟩;rw[show (w.alloc (.cells ([.slice A N cp]:List Value).toArray 70)).alloc (.cells #[.int .i64 0,.int .i64 0,.int .i64 0,.int .i64 0] 124)=wa from E.symm]at Yd;rw[show (w.alloc (.cells #[.slice A N cp] 70)).alloc (.cells ([.int .i64 0,.int .i64 0,.int .i64 0,.int .i64 0]:List Value).toArray 124)=wa from E.symm]at Yb;rw[<-E]at Xe Xz;have Yn:=Xe;have Yj:=ι E;have Xw:=(HE.gr Xe);have Xm:Hid (∀i,AC SV w i->i<w.heap.size/\¬AR m b1 b2 i):=⟨λi hi=>⟨hi.2,hvm i hi.1⟩⟩;have Yg:=(ψ hv1 (ψ hv2 (ψ hvt (ψ htm (ψ Xb O)))));clear hV hz hp hD hE hT hA h5 h8 E Xe hvm hv1 hv2 hvt htm Xb O Ye hN
 have Yo:Hid (∀W,Calls prog 126 #[iI room] W λe w'=>e=.returned (.tuple #[pP W.heap.size,iI 0])/\Gr W w'/\CA w' (λk=>W.heap.size<=k) W.heap.size [] room.toNat false):=⟨λW=>(VgV room W).mono λe w' h=>by
  rcases h with⟨h1,-⟩|⟨-,-,h1,h2,h3⟩
  ·omega
  ·exact⟨h1,h2,h3⟩⟩
 unfold Sp.v;go_enter func68,ntmps68;go_upto_region 1 with(fail);rw[<-Yj.o];obtain⟨gs,Xv⟩:∃gs,gs=wa.heap.size:=⟨_,rfl⟩;have Yi:=Xv
 go_upto_region 8 with(first
  | (go_at_call 125;refine(FH Xw).mono ?_;rintro e w1 ⟨rfl,rfl⟩)
  | (go_at_call 126;refine(Yo.o _).mono ?_;rintro e ws ⟨rfl,Xt,Xy⟩;have Y:=Xt;have Yf:=Xy.cut)
  | (go_at_call 127;refine(Zca (Xw.gr Y)).mono ?_;rintro e w3 ⟨rfl,Yk,Yt⟩;have Xd:=Yk;have Yp:=Yt))
 have Ya:Hid (CA ws (AC (λk=>w.heap.size+2<=k) ws) (w.heap.size+2) [] room.toNat false):=⟨by have:=Yf;rw[Xz]at this;exact this⟩;have Yq:=Y.size;have hz3:=Xd.size;have Yl:w.heap.size+2<=w3.heap.size:=Ω
 have U:∀i,AR m b1 b2 i->i<w.heap.size:=Xg;obtain⟨hv1,hv2,hvt,htm,Xb,O⟩:=Yg;have g2:Gr w3 ((w3.alloc (.cells #[.iface z.T z.rv,.pointer (some ⟨m,0,none⟩),.pointer (some ⟨w.heap.size+2,0,none⟩),.pointer none,.int .i64 0,.int .i64 0,.int .i64 0,.int .i64 0] 213)).alloc (.cells #[.pointer (some ⟨w3.heap.size,0,none⟩)] 210)):=((Gr.refl w3).alloc _).alloc _;have Xa:((w3.alloc (.cells #[.iface z.T z.rv,.pointer (some ⟨m,0,none⟩),.pointer (some ⟨w.heap.size+2,0,none⟩),.pointer none,.int .i64 0,.int .i64 0,.int .i64 0,.int .i64 0] 213)).alloc (.cells #[.pointer (some ⟨w3.heap.size,0,none⟩)] 210)).heap.size=w3.heap.size+2:=by rw[γ,γ]
 have Xf:=LF w3 (.cells #[.iface z.T z.rv,.pointer (some ⟨m,0,none⟩),.pointer (some ⟨w.heap.size+2,0,none⟩),.pointer none,.int .i64 0,.int .i64 0,.int .i64 0,.int .i64 0] 213) 210 [pP w3.heap.size];have rk:=(Rec.new w3 213 [.iface z.T z.rv,pP m,pP (w.heap.size+2),.pointer none,iI 0,iI 0,iI 0,iI 0]).gr ((Gr.refl _).alloc (.cells #[.pointer (some ⟨w3.heap.size,0,none⟩)] 210));obtain⟨W,hW⟩:∃W,W=((w3.alloc (.cells #[.iface z.T z.rv,.pointer (some ⟨m,0,none⟩),.pointer (some ⟨w.heap.size+2,0,none⟩),.pointer none,.int .i64 0,.int .i64 0,.int .i64 0,.int .i64 0] 213)).alloc (.cells #[.pointer (some ⟨w3.heap.size,0,none⟩)] 210)):=⟨_,rfl⟩;rw[<-hW]at g2 Xa⊢;rw[show (w3.alloc (.cells #[.iface z.T z.rv,.pointer (some ⟨m,0,none⟩),.pointer (some ⟨w.heap.size+2,0,none⟩),.pointer none,.int .i64 0,.int .i64 0,.int .i64 0,.int .i64 0] 213)).alloc (.cells ([.pointer (some ⟨w3.heap.size,0,none⟩)]:List Value).toArray 210)=W from hW.symm]at Xf;rw[show (w3.alloc (.cells ([.iface z.T z.rv,.pointer (some ⟨m,0,none⟩),.pointer (some ⟨w.heap.size+2,0,none⟩),.pointer none,.int .i64 0,.int .i64 0,.int .i64 0,.int .i64 0]:List Value).toArray 213)).alloc (.cells #[.pointer (some ⟨w3.heap.size,0,none⟩)] 210)=W from hW.symm]at rk;have tW:AB (AR m b1 b2) w W:=((Yn.trans Y).touch _ |>.trans Xd).trans (g2.touch _)
 have J:∀i,i<w.heap.size->¬AR m b1 b2 i->¬(i=w3.heap.size\/AR m b1 b2 i\/AC (λk=>w.heap.size+2<=k) ws i):=λi hi hn h=>by
  rcases h with h|h|h
  ·omega
  ·exact hn h
  ·have:=h.1;omega
 have V:=Xe3 (w:=W) (SV:=AC SV w) (SG:=AC (λk=>w.heap.size+2<=k) ws) (z:=z) (k:=w3.heap.size) (m:=m) (g:=w.heap.size+2) (R:=room.toNat) (b12:=w3.heap.size+1) (b5:=w.heap.size) (cp:=cp) (v:=v) (rs:=rs) (A:=A)
  HZ hso HP (λi hi=>⟨by have:=(HD i hi).1;omega,J i (HD i hi).1 (HD i hi).2⟩) (HZ.1.fr HV tW (λi _ h=>⟨λhi=>(Xm.o i hi).2 h,λhi=>(HD i hi).2 h⟩) (λ_ h=>h)) (Yp.gr g2) ((Ya.o.touch Xd (λi hi _ h=>by have:=U i h;have:=hi.1;omega)).gr g2) rk (tW.tab HT.lt htm HT)
  (Xf.cc 0) (by rw[<-HN.o];exact(((Yd.gr Y).touch Xd (λh=>by have:=U _ h;omega)).gr g2).cell (j:=0) rfl) Ω Ω
  ((HA.mono (T':=λi=>i=w3.heap.size\/AR m b1 b2 i\/AC (λk=>w.heap.size+2<=k) ws i) (λb hb h=>by
   rcases h with h|h|h
   ·omega
   ·exact h
   ·have:=h.1;omega)).touch tW (λ_ _ h=>.inr (.inl h))) (by rw[<-HN.o];exact hlen)
  (λi hi=>⟨by have:=hi.2;omega,λh=>by
   rcases h with h|h|h
   ·have:=hi.2;omega
   ·exact(Xm.o i hi).2 h
   ·have:=hi.2;have:=h.1;omega⟩) (λi hi=>by have:=hi.2;omega) (J _ Xk Xb) (J _ Xj O) (J _ Yh htm) (λh=>by have:=U _ h;omega) (λh=>by have:=h.2;omega) (λi hi h=>by have:=U i hi;have:=h.1;omega)
 have Xi:=V;have Ys:=tW;have Xo:=Xf;have Xx:=(((Yb.gr Y).touch Xd (λh=>by have:=U _ h;omega)).gr g2);have Xs:=(ψ Yl (ψ Xa Yq))
 have Xq:Hid (∀i,w.heap.size<=i->i<w.heap.size+2\/i=w3.heap.size+1->¬(i=w3.heap.size\/AR m b1 b2 i\/AC (λk=>w.heap.size+2<=k) ws i\/AC SV w i)):=⟨λi h1 h2 h=>by
  rcases h with h|h|h|h
  ·omega
  ·have:=U i h;omega
  ·have:=h.1;have:=h.2;omega
  ·have:=h.2;omega⟩
 unfold Sp.v at Xi;clear V tW Xf rk hW g2 J Xa U Xb O hv1 hv2 hvt htm Xv Yi;have hcf:=VUu;have hmf:∀(fn:Fn) (first cap:Array Value) (w:World),(Instr.makeFunc fn first cap).run prog w=.ok (.func fn first cap) w:=λ_ _ _ _=>rfl
 go_wp2_with(first
  | (go_at_call 128;refine Xi.mono ?_;rintro e w5 ⟨Xl,L,r,vi,rfl,Xp,Ym,Yc⟩;(have Yu:=Xl;have Xr:=Xp;have Xn:=Xo.touch Xl (Xq.o _ (by have:=Xs.1;omega) (.inr rfl));have R8:=Xx.touch Xl (Xq.o _ Ω (.inl Ω));have x12:=Xn.cc 0;have l12:=Xn.lt;have l8:=R8.lt;have e0:=R8.cc 0;have e1:=R8.cc 1;have e2:=R8.cc 2;have e3:=R8.cc 3;have ef:=R8.free;obtain⟨wk,Z⟩:=Xp.row;have k4:=Z.cc 4;have k5:=Z.cc 5;have k6:=Z.cc 6;have k7:=Z.cc 7;have lk:=Z.lt;have Xu:=R8)))
 ·have Xh:=λW=>(Gr.refl W).alloc (.cells #[.int .i64 0,.int .i64 0] 215);have R:=(((((Xu).set 0 (iI (L.length:Nat))).set 1 (iI (sizes L:Nat))).set 2 (iI r)).set 3 (iI vi)).gr (Xh _);have hl:=V7d _ _ 0 _ _ _ _ (R.cc 0) (R.cc 1) (R.cc 2) (R.cc 3);have tf:=O6 w5 (w.heap.size+1) (iI (L.length:Nat)) (iI (sizes L:Nat)) (iI r) (iI vi)
  have hT:AB (λi=>AR m b1 b2 i\/SV i) w w5:=(Ys.mono (λi _ h=>.inl h)).trans' Yu (λi hi h=>by
   rcases h with h|h|h|h
   ·have:=Xs.1;omega
   ·exact .inl h
   ·have:=h.1;omega
   ·exact .inr h.1)
  have Yr:=(hT.trans' tf (λi hi h=>by omega)).trans ((Xh _).touch _);refine ζG (v:=.tuple #[.agg #[iI (L.length:Nat),iI (sizes L:Nat),iI r,iI vi],iI 0]) ?_ rfl ⟨Yr,?_,L,r,vi,rfl,?_,Ym,Yc⟩
  ·rw[results_cell_tmp rfl];simp[asAddr,Result.andThen,hl]
  ·exact HZ.1.mono (HZ.1.gr (HZ.1.fr Xr.vm tf (λi _ h=>⟨λhi=>by have:=hi.2;omega,λhi=>by have:=(HD i hi).1;omega⟩) (λ_ h=>h)) (Xh _)) (λi hi=>hi.1)
  ·have Xc:∀i,i<w.heap.size->i≠w.heap.size+1:=λi h=>by omega
   exact(Xr.ext.touch tf (Xc _ (Xg _ (.inl rfl))) (Xc _ Xk) (Xc _ (Xg _ (.inr (.inl rfl)))) (Xc _ Xj) (Xc _ (Xg _ (.inr (.inr rfl))))).gr (Xh _)
theorem UV(hso:DP v rs n)(hV:AD w SV q v)(hE:Ext w m p1 b1 p2 b2 n L0)(hT:AO w)(hA:FK (AR m b1 b2) w A rs)(hlen:rs.length<=maxLen)
  (hvm:∀i,SV i->¬AR m b1 b2 i) (hv1:¬SV p1) (hv2:¬SV p2) (hvt:¬SV 1) (htm:¬AR m b1 b2 1)  (hr:1<=room/\room<=4096):
  Calls prog 68 #[spV q,.slice A rs.length cp,pP m,iI room] w (Yiw w SV (spM q) m p1 b1 p2 b2 n v rs):=
 VVP (z:=spM q) hso ⟨SI q,λh=>h⟩ (λ_ _=>⟨λ_=>trivial,λ_ _=>trivial⟩) (λ_ h=>h.elim) hV hE hT hA hlen hvm hv1 hv2 hvt htm hr
end
open Go.Shelf
section
attribute [local go_sem] Oper.semAt_some
structure P6(v:Vm)(rs:List Int)(c:Cf):Prop where
 cf:G9 v.pl.pg v.n c
 sd:DP v rs v.n
 inn:∀L,BM v rs v.n L->(∀o∈L,c.fr<=o.1/\o.1+o.2<=c.tp)/\c.to+sizes L<=c.lm
def V1i(w:World)(S:Nat->Prop)(q:Nat)(v:Vm)(rs:List Int)(e:Ending)(w':World):Prop:=
 ∃L,BM v rs v.n L/\e=.returned (.tuple #[iI (sizes L:Nat),iI 0])/\AB S w w'/\AD w' (AC S w) q v
structure ZD(w wx:World)(S:Nat->Prop)(q m p1 b1 p2 b2 b11:Nat)(v:Vm)(rs:List Int)(c:Cf)(L:List Ob)(r vi:Int):Prop where
 t:AB S w wx
 vm:AD wx (AC S w) q v
 ex:Ext wx m p1 b1 p2 b2 v.n L
 mks:BM v rs v.n L
 st:Rec wx b11 124 [iI (L.length:Nat),iI (sizes L:Nat),iI r,iI vi]
 bx:Rec wx w.heap.size 171 [iI c.fr,iI c.tp,iI c.to,iI c.lm,iI c.bk,iI c.st,iI c.ah]
 r6:Rec wx (w.heap.size+1) 3 [iI 0]
 r7:Rec wx (w.heap.size+2) 29 [iI 0]
 lm:w.heap.size+3<=m
 l1:w.heap.size+3<=p1
 l2:w.heap.size+3<=b1
 l3:w.heap.size+3<=p2
 l4:w.heap.size+3<=b2
 l5:w.heap.size+3<=b11
section
variable{g:Nat}
theorem Qwc(hV:AD w S q v)(hR:AW w r g rs)(hT:AO w)(htS:¬S 1)(hc:P6 v rs c):
  Calls prog 149 #[pP q,pP r,cfV c] w (V1i w S q v rs):=by
 have HV:=hV.cut;have HR:=hR;have HT:=hT;have Zj:=htS;have HC:=hc;have Jf:=hT.lt;have Xu:=hc.cf;have Jc:1<=v.n:=by have:=Xu.fr;have:=Xu.tp;have:=Xu.tn;have:=hV.ok.page.1;omega
 have hn2:=hV.ok.n2;have Jl:rs.length≠0:=λe=>hR.ne (ζy e);have Jm:=hR.le;have HX:=(λW=>OQ v.n Jc Ω W);have Jn:=(ψ Xu.st.1 Xu.st.2);obtain⟨n,Yh⟩:∃n,n=rs.length:=⟨_,rfl⟩;have HN:=ι Yh;rw[<-Yh]at Jl Jm;have d0:((n:Int)==0)=false:=by simp;omega
 have g1:Gr w (((w.alloc (.cells #[.int .i64 c.fr,.int .i64 c.tp,.int .i64 c.to,.int .i64 c.lm,.int .i64 c.bk,.int .i64 c.st,.int .i64 c.ah] 171)).alloc (.cells #[.int .i64 0] 3)).alloc (.cells #[.int .i64 0] 29)):=(((Gr.refl w).alloc _).alloc _).alloc _;have Zx:=g1;clear hV hR hT htS hc Xu Yh g1;refine(δ (n:=5)).1 ?_;refine callsIn_of_wp_marks func149 rfl trivial ?_ rfl;simp only[ntmps149,ζ0,ζu,ξc,Nat.reduceAdd,Nat.reduceSub,ζR,ζQ,ζ5,ζX,ζU,ζC];unfold cfV;gi_upto_region 1 with(fail);obtain⟨W0,Xi⟩:∃W0,W0=(((w.alloc (.cells #[.int .i64 c.fr,.int .i64 c.tp,.int .i64 c.to,.int .i64 c.lm,.int .i64 c.bk,.int .i64 c.st,.int .i64 c.ah] 171)).alloc (.cells #[.int .i64 0] 3)).alloc (.cells #[.int .i64 0] 29)):=⟨_,rfl⟩;have Zf:W0.heap.size=w.heap.size+3:=by rw[Xi];simp only[γ]
 have Zh:Gr w W0:=by rw[Xi];exact Zx
 have rb:Rec W0 w.heap.size 171 [iI c.fr,iI c.tp,iI c.to,iI c.lm,iI c.bk,iI c.st,iI c.ah]:=by rw[Xi];exact(Rec.new w _ [iI c.fr,iI c.tp,iI c.to,iI c.lm,iI c.bk,iI c.st,iI c.ah]).gr (((Gr.refl _).alloc _).alloc _)
 have r6:Rec W0 (w.heap.size+1) 3 [iI 0]:=by rw[Xi];exact(LF w _ 3 [iI 0]).gr ((Gr.refl _).alloc _)
 have r7:Rec W0 (w.heap.size+2) 29 [iI 0]:=by
  rw[Xi];have:=LF (w.alloc (.cells #[.int .i64 c.fr,.int .i64 c.tp,.int .i64 c.to,.int .i64 c.lm,.int .i64 c.bk,.int .i64 c.st,.int .i64 c.ah] 171)) (.cells #[.int .i64 0] 3) 29 [iI 0];rw[γ]at this;exact this
 rw[<-Xi];clear Xi Zx;have Xb:=Zh;have Zu:=rb;have Jq:=r6;have Je:=r7;obtain⟨z0,z1,z2,z3,z4,z5,z6,zl⟩:=rb.k7;have Ys:=(λ(W:World) (g:Gr w W)=>XO (HR.gr g));rw[<-HN.o]at Ys;have Zp:=(λ(W:World) (g:Gr w W)=>QzK (HV.gr g) HC.cf);unfold cfV at Zp;have Jp:=(λ(W:World) (g:Gr w W)=>I8 (HV.gr g));clear rb r6 r7 Zh
 gi_upto_region 7 with(first
  | (refine⟨trivial,?_⟩;gi_at_call 188;refine(δ.2 (Ys _ Xb)).mono ?_;rintro e w1 ⟨rfl,rfl⟩)
  | (refine⟨trivial,?_⟩;gi_at_call 189;refine(δ.2 (Zp _ Xb)).mono ?_;rintro e w1 ⟨rfl,U⟩;have Xp:=U;clear U)
  | (refine⟨trivial,?_⟩;gi_at_call 67;refine(δ.2 (Jp _ (Xb.trans Xp))).mono ?_;rintro e w2 ⟨rfl,rfl⟩)
  | (refine⟨trivial,?_⟩;gi_at_call 66;refine(δ.2 (HX _)).mono ?_;rintro e w3 ⟨m,p1,b1,p2,b2,rfl,Zg,Zo,Xo,Xr,Xl,Xt,Xk⟩;have N:=(Xp.trans Zg);have Xs:=Zo;have HB:=(ψ (β Xp.size Xo) (ψ (β Xp.size Xr) (ψ (β Xp.size Xl) (ψ (β Xp.size Xt) (β Xp.size Xk)))));clear Zg Zo Xo Xr Xl Xt Xk))
 gi_cut [11,12]from 15 (λs11 s12 wx=>∃(I:Nat) (L:List Ob) (rv vi:Int),s11=pP I/\s12=iI 0/\Hid (ZD w wx S q m p1 b1 p2 b2 I v rs c L rv vi))
 case first=>
  have Jo:=HB;obtain⟨Xo,Xr,Xl,Xt,Xk⟩:=Jo;rw[Zf]at Xo Xr Xl Xt Xk;have Yx:=Xs.hm;have Yu:=Xs.v1.hp;have Yl:=Xs.v1.hb;have Yt:=Xs.v2.hp;have Yc:=Xs.v2.hb
  have Xn:∀i,AR m b1 b2 i->w.heap.size+3<=i/\i<w3.heap.size:=λi hi=>by
   rcases hi with rfl|rfl|rfl
   ·exact⟨Xo,Yx⟩
   ·exact⟨Xl,Yl⟩
   ·exact⟨Xk,Yc⟩
  have Zc:=Xn;have Yk:=(λ(W:World) (g:Gr w3 W)=>S9 (HR.gr ((Xb.trans N).trans g)));rw[<-HN.o]at Yk
  have Xw:Hid (∀(W:World) (g1 cp:Nat),Gr w3 W->w3.heap.size<=g1->W.ownsRow 0 3 1 (.slice (some ⟨g1,0,none⟩) n cp) n (zs rs)->Calls prog 68 #[.iface 91 (pP q),.slice (some ⟨g1,0,none⟩) n cp,pP m,iI c.st] W λe w'=>
    ∃(L:List Ob) (rv vi:Int),e=.returned (.tuple #[.agg #[iI (L.length:Nat),iI (sizes L:Nat),iI rv,iI vi],iI 0])/\AB (λi=>AR m b1 b2 i\/AC S w i) W w'/\AD w' (AC S w) q v/\Ext w' m p1 b1 p2 b2 v.n L/\BM v rs v.n L):=⟨λW g1 cp hg U ho=>by
   rw[HN.o]at ho⊢;have Yn:=(Xb.trans N).trans hg;refine(UV HC.sd (HV.gr Yn) (Xs.gr hg) (Yn.tab HT.lt HT) (λi hi=>?_) (by unfold maxLen;have:=HN.o;omega) (λi hi h=>by have:=(Xn i h).1;have:=hi.2;omega) (λh=>by have:=h.2;omega) (λh=>by have:=h.2;omega) (λh=>Zj h.1) (λh=>by have:=(Xn _ h).1;omega) (room:=(c.st:Int)) (by have:=Jn;omega)).mono ?_
   ·exact⟨g1,0,rfl,(BE ho rfl).2,λh=>by have:=(Xn _ h).2;omega,by rw[ξt];exact BS ho (L5 hi)⟩
   ·rintro e w' ⟨ht,hv,L,r',vi,rfl,he,hm,-⟩
    exact⟨L,r',vi,rfl,ht,hv,he,hm⟩⟩
  have Yz:Hid (∀(W1 W2 W3:World) (I:Nat) (L:List Ob) (rv vi:Int),Gr w3 W1->AB (λi=>AR m b1 b2 i\/AC S w i) W1 W2->AD W2 (AC S w) q v->Ext W2 m p1 b1 p2 b2 v.n L->BM v rs v.n L->AB (λi=>i=I) W2 W3->w3.heap.size<=I →
    Rec W3 I 124 [iI (L.length:Nat),iI (sizes L:Nat),iI rv,iI vi]->ZD w W3 S q m p1 b1 p2 b2 I v rs c L rv vi):=⟨λW1 W2 W3 I L rv vi hg ht hv he hm ht3 hb hr=>by
   have hz3:=(Xb.trans N).size;have hz13:=N.size;have Yn:=(Xb.trans N).trans hg
   have Yy:∀i,i<w.heap.size+3->w.heap.size<=i->¬(AR m b1 b2 i\/AC S w i):=λi h1 h2 h=>by
    rcases h with h|h
    ·have:=(Xn i h).1;omega
    ·have:=h.2;omega
   refine⟨((Yn.touch _).trans (ht.mono (T:=λi=>AR m b1 b2 i\/S i) (λi _ h=>h.imp id (λh=>h.1)))).trans' (T:=λi=>i=I) ht3 (λi hi h=>by omega) |>.mono (λi hi h=>h.elim (λh=>by have:=(Xn i h).1;omega) id),hv.touch ht3 (λi hi _ h=>by have:=hi.2;omega),he.touch ht3 Ω Ω Ω Ω Ω,hm,hr,?_,?_,?_,Xo,Xr,Xl,Xt,Xk,by omega⟩
   ·exact((Zu.gr (N.trans hg)).touch ht (Yy _ Ω Ω)).touch ht3 Ω
   ·exact((Jq.gr (N.trans hg)).touch ht (Yy _ Ω Ω)).touch ht3 Ω
   ·exact((Je.gr (N.trans hg)).touch ht (Yy _ Ω Ω)).touch ht3 Ω⟩
  have Xg:=Zu.gr N;have x5:=Xg.cc 5;have Ze:=Xg.lt;have KS:Hid (∀W',Gr w3 W'->W'.cell? ⟨w.heap.size,5,none⟩=some (iI c.st)):=⟨λW' h=>(h.cell Ze 5).trans x5⟩
  have KT:Hid (∀W1 W',Gr w3 W1->AB (λi=>AR m b1 b2 i\/AC S w i) W1 W'->W'.cell? ⟨w.heap.size,5,none⟩=some (iI c.st)):=⟨λW1 W' h t=>(t.cell (κ Ze h.size) (λh=>by
   rcases h with h|h
   ·have:=(Zc _ h).1;omega
   ·have:=h.2;omega) 5).trans ((h.cell Ze 5).trans x5)⟩
  obtain⟨Sx,Yo⟩:∃Sx:World->Prop,Sx=λW'=>W'.cell? ⟨w.heap.size,5,none⟩=some (iI c.st):=⟨_,rfl⟩;have y1:∀p':AA Sx,p'.w.cell? ⟨w.heap.size,5,none⟩=some (iI c.st):=λp=>AA.get Yo p;have Zr:Sx w3.drew:=by rw[Yo];exact x5
  have O:=ι Yo;have inst:Inhabited (AA Sx):=⟨⟨_,Zr⟩⟩;clear Yo x5 Xg z0 z1 z2 z3 z4 z5 z6 zl Xn Xo Xr Xl Xt Xk Yx Yu Yl Yt Yc;refine ZZ Sx (.two [0,1,2,4,5,6] 3 (.two [] 7 (.one [8,9,10] 11 (.one [] 12 (.fin [13]))) 11 (.one [] 7 (.one [8,9,10] 12 (.fin [13])))) 11 (.one [] 3 (.one [] 7 (.one [8,9,10] 12 (.fin [13]))))) G3 Zr ?_;refine QX ?_;simp only[AG,ν,π]
  repeat(go_big_quiet_step (fail))
  refine ζd ⟨?_,?_⟩
  ·gi_wp2_with(refine⟨trivial,?_⟩;gi_at_call 69;refine(δ.2 (Yk _ (Gr.refl w3).drew)).mono ?_;rintro e w4 ⟨g1,c1,rfl,Xv,Yi,Yg⟩;have Y:=ι ((Gr.refl w3).drew.trans Xv);have Yq:=ι Yg;have Yp:=ι Yi;clear Xv Yg Yi);refine⟨AA.of (by rw[O.o];exact KS.o _ Y.o),?_⟩;refine QX ?_;simp only[AG,ν,π];refine ζd ⟨?_,?_⟩
   ·gi_wp2_with(refine⟨trivial,?_⟩;gi_at_call 68;refine(δ.2 (Xw.o _ g1 c1 Y.o Yp.o Yq.o)).mono ?_;rintro e w5 ⟨L,rv,vi,rfl,E,Xf,Xe,Xd⟩;have J:=ι E;have Yd:=ι Xf;have Yj:=ι Xe;have Ym:=ι Xd;clear E Xf Xe Xd);refine⟨AA.of (by rw[O.o];exact KT.o _ _ Y.o J.o),?_⟩;refine L8 ?_;have u5:=KT.o _ _ Y.o J.o;have Zq:=AV u5;gi_wp2;refine⟨AA.of (by rw[O.o];exact(((Gr.refl w5).alloc _).cell Zq 5).trans u5),?_⟩;refine I4 ?_;simp only[AG,ν,π];refine ζd ?_;gi_wp2;refine⟨AA.of (by rw[O.o];exact(((Gr.refl w5).alloc _).cell Zq 5).trans u5),?_⟩;refine NE ?_;gi_wp2
    gi_meet
    exact⟨_,L,rv,vi,rfl,rfl,⟨Yz.o _ _ _ _ L rv vi Y.o J.o Yd.o Yj.o Ym.o (((Gr.refl w5).alloc _).touch _) (β Y.o.size J.o.size) (Rec.new w5 _ [iI (L.length:Nat),iI (sizes L:Nat),iI rv,iI vi])⟩⟩
   ·have x4:=KS.o _ Y.o;have Zk:=AV x4;gi_wp2;refine⟨AA.of (by rw[O.o];exact(((Gr.refl w4).alloc _).cell Zk 5).trans x4),?_⟩;refine I4 ?_;simp only[AG,ν,π];refine ζd ?_;have Xa:=ι (Rec.new w4 124 [iI 0,iI 0,iI 0,iI 0]);have V:=ι (Y.o.alloc (.cells #[.int .i64 0,.int .i64 0,.int .i64 0,.int .i64 0] 124))
    have Xx:Hid (¬(AR m b1 b2 w4.heap.size\/AC S w w4.heap.size)):=⟨λh=>by
     have:=Y.o.size;rcases h with h|h
     ·have:=(Zc _ h).2;omega
     ·have:=h.2;have:=(Xb.trans N).size;omega⟩
    have Xy:Hid (¬w.heap.size=w4.heap.size):=⟨by have:=Y.o.size;omega⟩;have Zi:=ι (CL Yq.o ((Gr.refl w4).alloc (.cells #[.int .i64 0,.int .i64 0,.int .i64 0,.int .i64 0] 124)));have Ye:Hid (w3.heap.size<=w4.heap.size):=⟨Y.o.size⟩;obtain⟨bA,Xh⟩:∃bA,bA=w4.heap.size:=⟨_,rfl⟩;obtain⟨WA,Xj⟩:∃WA,WA=w4.alloc (.cells #[.int .i64 0,.int .i64 0,.int .i64 0,.int .i64 0] 124):=⟨_,rfl⟩;rw[show w4.alloc (.cells ([.int .i64 0,.int .i64 0,.int .i64 0,.int .i64 0]:List Value).toArray 124)=WA from Xj.symm]at Xa;rw[<-Xj]at V Zi⊢;rw[<-Xh]at Xa Xx Xy Ye⊢;clear Xh Xj x4 Zk;gi_wp2_with(refine⟨trivial,?_⟩;gi_at_call 68;refine(δ.2 (Xw.o _ g1 c1 V.o Yp.o Zi.o)).mono ?_;rintro e w5 ⟨L,rv,vi,rfl,E,Xf,Xe,Xd⟩;have J:=ι E;have Yd:=ι Xf;have Yj:=ι Xe;have Ym:=ι Xd;have Z:=ι (Xa.o.touch E (Xx.o));have q0:=Z.o.cc 0;have q1:=Z.o.cc 1;have q2:=Z.o.cc 2;have q3:=Z.o.cc 3;have qf:=Z.o.free;have ql:=Z.o.lt;clear E Xf Xe Xd);refine⟨AA.of (by rw[O.o];exact KT.o _ _ V.o J.o),?_⟩;refine L8 ?_;gi_wp2;have R5:=(((Z.o.set 0 (iI (L.length:Nat))).set 1 (iI (sizes L:Nat))).set 2 (iI rv)).set 3 (iI vi);have t5:=O6 w5 bA (iI (L.length:Nat)) (iI (sizes L:Nat)) (iI rv) (iI vi);have KF:=(t5.cell (AV (KT.o _ _ V.o J.o)) Xy.o 5).trans (KT.o _ _ V.o J.o);refine⟨AA.of (by rw[O.o];exact KF),?_⟩;refine NE ?_;gi_wp2
    gi_meet
    exact⟨_,L,rv,vi,rfl,rfl,⟨Yz.o _ _ _ _ L rv vi V.o J.o Yd.o Yj.o Ym.o t5 Ye.o R5⟩⟩
  ·gi_wp2;have x3:=KS.o _ (Gr.refl w3);have Jk:=AV x3;refine⟨AA.of (by rw[O.o];exact KS.o _ ((Gr.refl w3).alloc _).drew),?_⟩;refine I4 ?_;simp only[AG,ν,π];refine ζd ?_;have Xa:=ι ((Rec.new w3 124 [iI 0,iI 0,iI 0,iI 0]).gr (Gr.refl _).drew);have V:=ι ((Gr.refl w3).alloc (.cells #[.int .i64 0,.int .i64 0,.int .i64 0,.int .i64 0] 124)).drew
   have Xx:Hid (¬(AR m b1 b2 w3.heap.size\/AC S w w3.heap.size)):=⟨λh=>by
    rcases h with h|h
    ·have:=(Zc _ h).2;omega
    ·have:=h.2;have:=(Xb.trans N).size;omega⟩
   have Xy:Hid (¬w.heap.size=w3.heap.size):=⟨by omega⟩;have Ye:Hid (w3.heap.size<=w3.heap.size):=⟨ϑ _⟩;obtain⟨WA,Xj⟩:∃WA,WA=(w3.alloc (.cells #[.int .i64 0,.int .i64 0,.int .i64 0,.int .i64 0] 124)).drew:=⟨_,rfl⟩;rw[show (w3.alloc (.cells ([.int .i64 0,.int .i64 0,.int .i64 0,.int .i64 0]:List Value).toArray 124)).drew=WA from Xj.symm]at Xa;rw[<-Xj]at V⊢;clear Xj;obtain⟨bA,Xh⟩:∃bA,bA=w3.heap.size:=⟨_,rfl⟩;rw[<-Xh]at Xa Xx Xy;rw[show w3.heap.size<=w3.heap.size↔w3.heap.size<=bA by rw[Xh]]at Ye;rw[show w3.heap.size=bA from Xh.symm];clear Xh x3 Jk;gi_wp2_with(refine⟨trivial,?_⟩;gi_at_call 69;refine(δ.2 (Yk _ V.o)).mono ?_;rintro e w4 ⟨g1,c1,rfl,Xv,Yi,Yg⟩;have Y:=ι (V.o.trans Xv);have Zt:=ι (Xa.o.gr Xv);have Yq:=ι Yg;have Yp:=ι (β V.o.size Yi);clear Xv Yg Yi);refine⟨AA.of (by rw[O.o];exact KS.o _ Y.o),?_⟩;refine I4 ?_;simp only[AG,ν,π];refine ζd ?_;gi_wp2_with(refine⟨trivial,?_⟩;gi_at_call 68;refine(δ.2 (Xw.o _ g1 c1 Y.o Yp.o Yq.o)).mono ?_;rintro e w5 ⟨L,rv,vi,rfl,E,Xf,Xe,Xd⟩;have J:=ι E;have Yd:=ι Xf;have Yj:=ι Xe;have Ym:=ι Xd;have Z:=ι (Zt.o.touch E (Xx.o));have q0:=Z.o.cc 0;have q1:=Z.o.cc 1;have q2:=Z.o.cc 2;have q3:=Z.o.cc 3;have qf:=Z.o.free;have ql:=Z.o.lt;clear E Xf Xe Xd);refine⟨AA.of (by rw[O.o];exact KT.o _ _ Y.o J.o),?_⟩;refine L8 ?_;gi_wp2;have R5:=(((Z.o.set 0 (iI (L.length:Nat))).set 1 (iI (sizes L:Nat))).set 2 (iI rv)).set 3 (iI vi);have t5:=O6 w5 bA (iI (L.length:Nat)) (iI (sizes L:Nat)) (iI rv) (iI vi);have KF:=(t5.cell (AV (KT.o _ _ Y.o J.o)) Xy.o 5).trans (KT.o _ _ Y.o J.o);refine⟨AA.of (by rw[O.o];exact KF),?_⟩;refine NE ?_;gi_wp2
   gi_meet
   exact⟨_,L,rv,vi,rfl,rfl,⟨Yz.o _ _ _ _ L rv vi Y.o J.o Yd.o Yj.o Ym.o t5 Ye.o R5⟩⟩
 case rest=>
  obtain⟨I,L,rv,vi,rfl,rfl,HI⟩:=hcut;clear z0 z1 z2 z3 z4 z5 z6 zl;obtain⟨Zv,Yv⟩:=HC.inn L HI.o.mks;have Jg:=ι Zv;have Zs:=ι Yv;clear Zv Yv;gi_wp2_with(refine⟨trivial,?_⟩;gi_at_call 160;refine(δ.2 (KJ (some ⟨m,0,none⟩))).mono ?_;rintro e w1 ⟨rfl,rfl⟩);obtain⟨W1,Ya⟩:∃W1,W1=wc.alloc (.cells #[.pointer (some ⟨m,0,none⟩)] 120):=⟨_,rfl⟩;have U:Gr wc W1:=by rw[Ya];exact(Gr.refl wc).alloc _
  have hs1:W1.heap.size=wc.heap.size+1:=by rw[Ya,γ]
  have k4:W1.cell? ⟨wc.heap.size,0,none⟩=some (pP m):=by
   rw[Ya];exact(Boxed.new wc 120 (pP m)).cell
  rw[<-Ya];have hex:=HI.o.ex;have Yx:=hex.hm;have Yu:=hex.v1.hp;have Yl:=hex.v1.hb;have Yt:=hex.v2.hp;have Yc:=hex.v2.hb;have hwz:=HI.o.t.size;have Za:AO wc:=HI.o.t.tab Jf Zj HT;have Jj:=ι Za;have Zm:=Za.lt;have Zd:=HI.o.bx;have hrl:=Zd.lt;clear Ya Za hex;have tI:∀(j:Nat) A B,(AB (λi=>W1.heap.size<=i) W1 A/\j<=L.length)->AB (λi=>W1.heap.size<=i/\i<W1.heap.size+2+4) A B->(AB (λi=>W1.heap.size<=i) W1 B/\j<=L.length):=λj A B h t=>⟨h.1.trans (t.mono (λi _ h=>h.1)),h.2⟩
  refine L3 (K:=4) (s0:=0) rfl Ω (gf:=213) (lb:=#[pP wc.heap.size]) rfl trivial (enters_of func213 (by kernel_rfl) rfl)
   (PC _ wc.heap.size m p1 b1 p2 b2 v.n L _) (λ_=>rfl)
   (λ(j:Nat) A=>AB (λi=>W1.heap.size<=i) W1 A/\j<=L.length) (λ_ _=>False) tI (λ_ _ _ h _=>h)
   (λj A h=>⟨(HI.o.ex.gr U).touch h.1 Ω Ω Ω Ω Ω,(U.tab Zm Jj.o).touch' h.1 Ω,(h.1.cell Ω Ω 0).trans k4,h.2⟩)
   ⟨AB.refl _ _,ζf _⟩ ?round ?done ?stop
  case round=>
   intro lp j x W3 hsz3 Xc Xm;dsimp only[GO];gi_wp2;refine⟨Gr.refl _,λW4 ht4 hI4=>?_⟩
   have Yr:j<L.length:=by
    rcases υ j L.length with h|h
    ·exact h
    ·unfold ER at Xm;rw[ζN h]at Xm;cases Xm
   obtain rfl:x=L[j]:=by unfold ER at Xm;rw[η Yr]at Xm;exact(Option.some.inj Xm).symm
   obtain⟨i1,i2⟩:=Jg.o _ (μ Yr);have Xz:=(Zd.gr U).touch hI4.1 Ω;obtain⟨c0,c1,cl⟩:=Xz.k2;have Zl:=(HI.o.ex.good.sz _ (μ Yr)).2;obtain⟨sa,Zn⟩:∃s,s=L[j].1:=⟨_,rfl⟩;obtain⟨sz,Xq⟩:∃s,s=L[j].2:=⟨_,rfl⟩;rw[<-Zn]at i1 i2 Zl⊢;rw[<-Xq]at i2 Zl⊢;have e0:decide ((sa:Int)<(c.fr:Int))=false:=ζ Ω;have e1:decide ((c.tp:Int)<(sa:Int)+(sz:Int))=false:=ζ Ω;have e2:decide (sa<c.fr)=false:=ζ Ω;have Jd:=ι hI4;clear Xc hI4 Xm ht4 Zn Xq;gi_wp2;exact⟨AB.refl _ _,j+1,rfl,Jd.o.1,Yr⟩
  case done=>
   rintro D j W3 hD rfl Xc hK;have hs5l:=HI.o.l5;have hb11l:=HI.o.st.lt;have Zb:=(HI.o.st.gr U).touch Xc.1 Ω;have Xg:=(Zd.gr U).touch Xc.1 Ω;have Yf:=(HI.o.r6.gr U).touch Xc.1 (by have:=HI.o.r6.lt;omega);have Yb:=(HI.o.r7.gr U).touch Xc.1 (by have:=HI.o.r7.lt;omega);have a1:=Zb.cc 1;have al:=Zb.lt;have c3:=Xg.cc 3;have c2:=Xg.cc 2;have cl:=Xg.lt;have q0:=Yf.cc 0;have q1:=Yf.free 0;have ql:=Yf.lt;have p0:=Yb.cc 0;have p1':=Yb.free 0;have pl:=Yb.lt;have Jb:=Zs.o;have hlm:=HC.cf.ln;have Zz:=HI.o.vm;obtain⟨sz,Xq⟩:∃s,s=sizes L:=⟨_,rfl⟩;have Jh:=ι Xq;rw[<-Xq]at a1 Jb;have e0:decide ((c.lm:Int)-(c.to:Int)<(sz:Int))=false:=ζ Ω;have HK:=ι hK;have HD:=ι hD;have Zw:=ι Xc;have Xa:=ι Yf;have Zy:=ι Yb;have hs3:=Xc.1.size;clear hK hD Xc Xq Zb Xg Yf Yb;gi_wp2
   have tg:AB (λi=>i=w.heap.size+1\/i=w.heap.size+2) W3 ((W3.setCell ⟨w.heap.size+1,0,none⟩ (.int .i64 (sz:Int))).setCell ⟨w.heap.size+1+1,0,none⟩ (.int .i64 0)):=
    ((AB.refl _ W3).setCell (a:=⟨w.heap.size+1,0,none⟩) (λ_=>.inl rfl) _).setCell (a:=⟨w.heap.size+1+1,0,none⟩) (λ_=>.inr rfl) _
   have b6:Rec ((W3.setCell ⟨w.heap.size+1,0,none⟩ (.int .i64 (sz:Int))).setCell ⟨w.heap.size+1+1,0,none⟩ (.int .i64 0)) (w.heap.size+1) 3 [iI (sz:Int)]:=
    (Xa.o.set 0 (iI (sz:Int))).touch ((AB.refl (λi=>i=w.heap.size+1+1) _).setCell (a:=⟨w.heap.size+1+1,0,none⟩) (λ_=>rfl) _) Ω
   have b7:Rec ((W3.setCell ⟨w.heap.size+1,0,none⟩ (.int .i64 (sz:Int))).setCell ⟨w.heap.size+1+1,0,none⟩ (.int .i64 0)) (w.heap.size+2) 29 [iI 0]:=
    (Zy.o.touch ((AB.refl (λi=>i=w.heap.size+1) W3).setCell (a:=⟨w.heap.size+1,0,none⟩) (λ_=>rfl) (iI (sz:Int))) Ω).set 0 (iI 0)
   have hD:=HD.o;have Yw:=(tg.block D (ζs.1 HK.o).1 Ω).trans HK.o;generalize ((W3.setCell ⟨w.heap.size+1,0,none⟩ (.int .i64 (sz:Int))).setCell ⟨w.heap.size+1+1,0,none⟩ (.int .i64 0))=W5 at *
   have k6:=b6.cc 0;have k7:=b7.cc 0;rw[show w.heap.size+2=w.heap.size+1+1 from rfl]at k7;refine⟨by simp,.inl ⟨_,_,rfl,run_takeDeferred Yw,?_⟩⟩;have Ji:=cell_kept k6 (grownBy_putObj' _ D (.deferred none)) (λr e=>by cases e;exact⟨_,Yw,rfl⟩);have Ja:=cell_kept k7 (grownBy_putObj' _ D (.deferred none)) (λr e=>by cases e;exact⟨_,Yw,rfl⟩);have tD:AB (λi=>W1.heap.size<=i) W5 (W5.putObj D (.deferred none)):=DH _ D _ Ω;refine⟨.tuple #[iI (sz:Int),iI 0],?_,?_⟩
   ·simp[results,f149,go_sem,Ji,Ja]
   ·refine⟨L,HI.o.mks,by rw[Jh.o],?_,?_⟩
    ·exact(((HI.o.t.trans (U.touch _)).trans' Zw.o.1 (λi hi h=>by omega)).trans' tg (λi hi h=>by omega)).trans' tD (λi hi h=>by omega)
    ·exact(((Zz.gr U).touch Zw.o.1 (λi hi _ h=>by have:=hi.2;omega)).touch tg (λi hi _ h=>by have:=hi.2;omega)).touch tD (λi hi _ h=>by have:=hi.2;omega)
  case stop=>
   rintro D c W3 hD h hK;exact h.elim
end
end
theorem VH(h:AF v){t:Nat}(ht:t<=v.n)(hE:BK v f t=0)(hG:BW v v1 (BY v f t)){a:Nat}(h1:f<=a)(h2:a<t):v1.ldE a=0:=by
 have hF:BY v f t=BZ v ((f:Int)/v.pl.pg).toNat (CW v f t):=by unfold BY;grind
 rw[hG.ldE h Ω,hF];by_cases h0:v.pt.getD (a/v.pl.pg) 0=0
 ·rw[φ];rw[PA];refine⟨?_,h0⟩;have e1:((f:Int)/(v.pl.pg:Int)).toNat=f/v.pl.pg:=by grind
  have e2:CW v f t=(t-1)/v.pl.pg+1-f/v.pl.pg:=by
   unfold CW
   grind
  have g1:f/v.pl.pg<=a/v.pl.pg:=ζc h1;have g2:a/v.pl.pg<=(t-1)/v.pl.pg:=ζc Ω;omega
 ·split
  ·rfl
  ·rw[h.ldE_of Ω,ξ h0]
theorem VGS(hf:f<=v.n):BK v f f=0/\BY v f f=[]:=by
 have hE:BK v f f=0:=by unfold BK;omega
 refine⟨hE,?_⟩;unfold BY
 simp_all
theorem Z25(h:AF v)(hc:P6 v rs c)(hM:BM v rs v.n L)(hE:BK v c.to ((c.to+sizes L:Nat):Int)=0)(hG:BW v v1 (BY v c.to ((c.to+sizes L:Nat):Int)))
  (hm:∀a:Nat,c.fr<=a->a<c.tp->v.ldE a=0):DI v1 rs L c.to/\FR v1 L:=by
 obtain⟨Z,htot⟩:=hc.inn L hM;have hw:=hG.wider h;have hp:=h.page;have Y:=hc.cf;have hln:=Y.ln;have hto:=Y.to;refine⟨⟨hG.ok,?_,by omega,λo ho=>?_,λa h1 h2=>VH h Ω hE hG h1 h2,by rw[hG.n];omega⟩,λo ho m hmo=>?_⟩
 ·rw[hG.n];exact hw.marks hM
 ·have hi:=Z o ho;have hs:1<=o.2:=(hM.mkd.good.sz o ho).1
  have hsz:1<=sizes L:=by
   have:∀l:List Ob,o∈l->o.2<=sizes l:=λl=>by
    induction l with
    | nil=>intro h;cases h
    | cons b r ih=>
     intro h;simp only[sizes];rcases ζi.1 h with rfl|h
     ·omega
     ·have:=ih h;omega
   grind
  have hup:c.tp<=upN c.tp v.pl.pg:=by
   unfold upN;have h1:=ζx (c.tp+v.pl.pg-1) v.pl.pg;have h2:=ξV (c.tp+v.pl.pg-1) (show 0<v.pl.pg by omega)
   grind
  have hap:=Y.ap;omega
 ·have hi:=Z o ho;have:=hm (o.1+m) Ω Ω;exact(hw.le _ (by exact this)).1
structure UR(v:Vm)(rs:List Int)(c:Cf)(L:List Ob)(v1 v2:Vm)(k kq:Nat):Prop where
 gr:BW v v1 (BY v c.to ((c.to+sizes L:Nat):Int))
 cx:DI v1 rs L c.to
 fo:FR v1 L
 ke:k=(AT v1 rs k).length
 st:CpS v1 rs L c.to (AT v1 rs k) k 0 v2
 q1:∀j,j<kq->(c.fr/v.pl.pg+j)*v.pl.pg<c.tp
 q2:c.tp<=(c.fr/v.pl.pg+kq)*v.pl.pg
theorem VQN(v:Vm)(rs:List Int)(k:Nat)(h:j<=(AT v rs k).length):(AT v rs (k+1)).take j=(AT v rs k).take j:=by
 obtain⟨X,hX⟩:=VU v rs k
 grind
theorem YnT(h:k<(AT v rs k).length):AT v rs (k+1)=DG (AT v rs k) (DN v ((AT v rs k).getD k 0)):=by
 show (if _ then _ else _)=_
 rw[φ h]
theorem XeB(c:DI v rs L to){X:List Int}(hR:∀a∈O++X,Rch v rs a){l:List Int}(hl:∀a∈l,a=0\/a∈O):l.map (λa=>BV v (O++X) to a)=l.map (λa=>BV v O to a):=by
 apply ξO;intro a ha;exact Vqd v X to (λh=>by have:=(DC (c.mks.sound.rd _ (hR 0 h))).1;omega) (hl a ha)
def CpJ(w3:World)(S3:Nat->Prop)(K M q g:Nat)(v:Vm)(rs:List Int)(L:List Ob)(to:Nat)(i:Nat)(W:World)(out:List Int):Prop:=
 ∃O v' Si,(∀b,Si b->plus S3 w3 b)/\C6 W Si K M q v to O v'/\CpS v rs L to O 0 0 v'/\O=DG [] (rs.take i)/\out=(rs.take i).map (λa=>BV v O to a)/\AB (λb=>b=g\/(b=K\/b=M)\/S3 b) w3 W
structure CpL(w3 wr:World)(S3 Si:Nat->Prop)(K M q r g:Nat)(v:Vm)(rs out:List Int)(L:List Ob)(to k:Nat)(v':Vm):Prop where
 sub:∀b,Si b->plus S3 w3 b
 cat:C6 wr Si K M q v to (AT v rs k) v'
 st:CpS v rs L to (AT v rs k) k 0 v'
 oe:out=rs.map (λa=>BV v (AT v rs k) to a)
 t:AB (λb=>b=g\/(b=K\/b=M)\/S3 b) w3 wr
 rt:AW wr r g out
def YZS(w:World)(S:Nat->Prop)(q r g:Nat)(v:Vm)(rs:List Int)(c:Cf)(e:Ending)(w':World):Prop:=
 ∃L,BM v rs v.n L/\AB (λb=>b=g\/S b) w w' ∧
  ((BK v c.to ((c.to+sizes L:Nat):Int)≠0/\e=.returned (.tuple #[iI 0,iI (BK v c.to ((c.to+sizes L:Nat):Int))])/\I9 w' (plus S w) q v []/\AW w' r g rs) ∨
   (BK v c.to ((c.to+sizes L:Nat):Int)=0/\e=.returned (.tuple #[iI ((c.to+sizes L:Nat):Int),iI 0]) ∧
   ∃v1 v2 k kq,UR v rs c L v1 v2 k kq/\AD w' (plus S w) q (umN v2 (c.fr/v.pl.pg) kq)/\AW w' r g (rs.map (λa=>BV v1 (AT v1 rs k) c.to a))))
theorem C6.touch{T:Nat->Prop}(h:C6 w S K M q v to O v')(t:AB T w w')(hK:¬T K)(hM:¬T M)(hS:∀b,S b->b<w.heap.size->¬T b):C6 w' S K M q v to O v':=
 ⟨h.rc.touch t hK,h.mp.touch t hM,h.vm.touch t hS,h.nK,h.nM⟩
structure YV(w3:World)(S3:Nat->Prop)(K M r g:Nat):Prop where
 r3:r<w3.heap.size
 g3:g<w3.heap.size
 rK:r≠K
 rM:r≠M
 gK:g≠K
 gM:g≠M
 rS:¬S3 r
 gS:¬S3 g
structure UmI(w3 wx:World)(S3:Nat->Prop)(K M q r g:Nat)(v:Vm)(out:List Int)(tt q0 j pg tp:Nat):Prop where
 t:AB (λb=>b=g\/(b=K\/b=M)\/S3 b) w3 wx
 vm:∃Sj,(∀b,Sj b->plus S3 w3 b)/\AD wx Sj q (umN v q0 j)/\¬Sj K
 rc:Rec wx K 235 [pP q,.map (some M),iI tt]
 rt:AW wx r g out
 q1:∀i,i<j->(q0+i)*pg<tp
theorem UmI.gr{wx:World}{g:Nat}{out:List Int}{tt q0 pg tp:Nat}(h:UmI w3 wx S3 K M q r g v out tt q0 j pg tp)(g':Gr wx w'):UmI w3 w' S3 K M q r g v out tt q0 j pg tp:=by
 obtain⟨h1,⟨Sj,h2,h3,h4⟩,h5,h6,h7⟩:=h;exact⟨h1.trans (g'.touch _),⟨Sj,h2,h3.gr g',h4⟩,h5.gr g',h6.gr g',h7⟩
section
variable{g:Nat}
theorem Q0I(hcat:C6 w3 S3 K M q v1 to [] v1)(cx:DI v1 rs L to)(fo:FR v1 L)(hR:AW w3 r g rs)(hrs:∀a∈rs,0<=a/\a<=2147483647)(sp:YV w3 S3 K M r g):
  Calls prog 151 #[pP r,.func (.func 152) #[pP K] #[]] w3 λe w'=>e=.returned (.tuple #[])/\∃out v' Si,CpL w3 w' S3 Si K M q r g v1 rs out L to 0 v':=by
 have h0:CpJ w3 S3 K M q g v1 rs L to 0 w3 []:=⟨[],v1,S3,λb h=>.inl h,hcat,⟨ξi,(λ_ h=>by cases h),Cpd.nil cx.ok to,(λj hj=>absurd hj (ζA _)),.inr ⟨rfl,rfl⟩⟩,rfl,rfl,AB.refl _ _⟩;refine(X7 (F:=152) (pre:=#[pP K]) (caps:=#[]) (CpJ w3 S3 K M q g v1 rs L to) (λ_ _=>by kernel_rfl) hR h0 ?_ ?_).mono ?_
 ·rintro i hi W out ho ⟨O,v',Si,h1,h2,h3,h4,h5,h6⟩ hz;refine⟨O,v',Si,h1,h2,h3,?_,?_,h6⟩
  ·rw[IX hi,U8,<-h4,hz];exact(φ (.inl rfl)).symm
  ·rw[IX hi,ζ1,<-h5,hz]
   show out++[0]=out++[BV v1 O to 0]
   rw[O8 v1 _ (h3.zero cx)]
 ·rintro i hi W out ho ⟨O,v',Si,h1,h2,h3,h4,h5,h6⟩ J I W0 Z;obtain⟨q1,q2⟩:=hrs _ (μ hi);obtain⟨a,ha⟩:∃a:Nat,(a:Int)=rs[i]:=⟨rs[i].toNat,by omega⟩;have hr:Rch v1 rs a:=by rw[ha];exact Rch.root (μ hi) I
  have Y:=Zz2 (h2.gr Z) cx fo h3 (a:=a) (.inr hr) Ω;rw[ha]at Y;refine Y.mono ?_;rintro e W' ⟨D,rfl,ht,N,V⟩;have hzW:=h6.size;have hz0:=Z.size;have U:∀b,b<w3.heap.size->¬S3 b->¬Si b:=λb hb hn h=>(h1 b h).elim hn (λh=>by omega);have Xa:(a:Int)∈CM O a:=NV.2 (.inr ⟨rfl,by omega⟩);have E:0<=BV v1 (CM O (a:Int)) to a:=by have:=(VJ v1 (to:Int) Xa).1;omega
  rw[<-ha]at V N⊢;refine⟨_,rfl,(J.gr Z).touch ht (λh=>?_) (λh=>?_),λW'' t''=>⟨CM O a,D,plus Si W0,λb hb=>?_,N.touch t'' (Ne.symm sp.gK) (Ne.symm sp.gM) (λb hb _ e=>?_),V,?_,?_,?_⟩⟩
  ·rcases h with(h|h)|h
   ·exact sp.rK h
   ·exact sp.rM h
   ·exact U _ sp.r3 sp.rS h
  ·rcases h with(h|h)|h
   ·exact sp.gK h
   ·exact sp.gM h
   ·exact U _ sp.g3 sp.gS h
  ·rcases hb with h|h
   ·exact h1 b h
   ·right;omega
  ·subst e;rcases hb with h|h
   ·exact U _ sp.g3 sp.gS h
   ·have:=sp.g3;omega
  ·rw[IX hi,U8,<-h4,<-ha]
  ·obtain⟨X,hX⟩:=WN O (a:Int);rw[IX hi,ζ1,<-ha,Int.max_eq_left E];congr 1;rw[h5]
   have hl:∀b∈rs.take i,b=0\/b∈O:=λb hb=>by
    by_cases h0:b=0
    ·exact .inl h0
    ·right;rw[h4];exact SU.2 (.inr ⟨hb,h0⟩)
   rw[hX];exact(XeB cx (by rw[<-hX];exact V.rch) hl).symm
  ·refine((h6.trans (Z.touch _)).trans' ht (λb hb h=>?_)).trans (t''.mono (λb _ h=>.inl h));rcases h with h|h
   ·exact .inr (.inl h)
   ·exact(h1 b h).elim (λh=>.inr (.inr h)) (λh=>by omega)
 ·rintro e w' ⟨rfl,out,-,⟨O,v',Si,h1,h2,h3,h4,h5,h6⟩,J⟩;rw[ξd]at h4 h5;have hO:O=AT v1 rs 0:=h4;subst hO;exact⟨rfl,out,v',Si,h1,h2,h3,h5,h6,J⟩
end
section
variable{g:Nat}
theorem Qj5(hV:AD w S q v)(hR:AW w r g rs)(hT:AO w)(htS:¬S 1)(hrS:¬S r)(hgS:¬S g)(hc:P6 v rs c)(hm:∀a:Nat,c.fr<=a->a<c.tp->v.ldE a=0)(hrs:∀a∈rs,0<=a/\a<=2147483647):
  Calls prog 102 #[pP q,pP r,cfV c] w (YZS w S q r g v rs c):=by
 have HV:=hV.cut;have HR:=hR;have HT:=hT;have I:=(ψ htS (ψ hrS hgS));have HC:=hc;have HM:=hm;have Jg:=hrs;have Xx:=hc.cf;have Jc:=hV.ok.page;have Zh:=hV.ok;have hn2:=hV.ok.n2;have Jr:=hT.lt;have hrl:=hR.lt;have hto:=Xx.to;have hlm:=Xx.ln;have Je:=Xx.fr;have Xf:=((Gr.refl w).alloc (.cells #[.int .i64 c.fr,.int .i64 c.tp,.int .i64 c.to,.int .i64 c.lm,.int .i64 c.bk,.int .i64 c.st,.int .i64 c.ah] 171));have rb:=Rec.new w 171 [iI c.fr,iI c.tp,iI c.to,iI c.lm,iI c.bk,iI c.st,iI c.ah];obtain⟨W0,Xp⟩:∃W0,W0=w.alloc (.cells #[.int .i64 c.fr,.int .i64 c.tp,.int .i64 c.to,.int .i64 c.lm,.int .i64 c.bk,.int .i64 c.st,.int .i64 c.ah] 171):=⟨_,rfl⟩;have hsz0:W0.heap.size=w.heap.size+1:=by rw[Xp,γ]
 rw[<-Xp]at Xf;rw[show w.alloc (.cells ([.int .i64 c.fr,.int .i64 c.tp,.int .i64 c.to,.int .i64 c.lm,.int .i64 c.bk,.int .i64 c.st,.int .i64 c.ah]:List Value).toArray 171)=W0 from Xp.symm]at rb;have Jw:=rb;have Zv:=(Qwc (HV.gr Xf) (HR.gr Xf) (Xf.tab Jr HT) (λh=>htS h.1) hc);obtain⟨z0,z1,z2,z3,z4,z5,z6,zl⟩:=rb.k7;have Yr:=Xx;have Zt:=Zh;unfold cfV at Zv⊢;clear hV hR hT htS hrS hgS hc hm hrs rb Xx Zh;go_enter func102,ntmps102;go_upto_region 1 with(fail);rw[<-Xp];clear Xp;go_upto_region 4 with(go_at_call 149;refine Zv.mono ?_;rintro e w1 ⟨L,hM,rfl,Yk,Xy⟩;have Yj:=hM;have Yl:=Yk;have Yu:=Xy;have Ya:=(Jw.touch Yk (λh=>by have:=h.2;omega));have Za:=ι ((HR.gr Xf).touch Yk (λh=>I.2.1 h.1) (λh=>I.2.2 h.1));obtain⟨y0,y1,y2,yl⟩:=Ya.k3;clear hM Yk Xy);obtain⟨Jx,Yp⟩:=HC.inn L Yj;obtain⟨nn,Yx⟩:∃nn,nn=sizes L:=⟨_,rfl⟩;have Xw:=ι Yx;rw[<-Yx]at Yp⊢;have Yc:(c.to:Int)+(nn:Int)=((c.to+nn:Nat):Int):=by push_cast;rfl
 have Yq:Hid (Calls prog 150 #[pP q,iI c.to,iI ((c.to:Int)+(nn:Int))] w1 λe w'=>e=.returned (iI (BK v c.to ((c.to+nn:Nat):Int)))/\AB (AC S w) w1 w'/\I9 w' (plus (AC S w) w1) q v (BY v c.to ((c.to+nn:Nat):Int))):=⟨by
  rw[Yc];by_cases h0:nn=0
  ·subst h0;have hq:=VGS (v:=v) (f:=c.to) Ω;rw[ξk,hq.1,hq.2];refine(Z3 Yu c.to c.to Ω (ϑ _)).mono ?_;rintro e w' ⟨rfl,hg⟩;exact⟨rfl,hg.touch _,v,BW.refl Zt,(Yu.gr hg).mono (λb hb=>.inl hb.1)⟩
  ·refine(RD Yu c.to (c.to+nn) Ω Ω).mono ?_;rintro e w' ⟨rfl,ht,v',hg,hv⟩
   exact⟨rfl,ht.mono (λb _ hb=>hb.1),v',hg,hv.mono (λb hb=>hb.imp (λh=>h.1) id)⟩⟩
 clear z0 z1 z2 z3 z4 z5 z6 zl Yx Yc;obtain⟨E,hE⟩:∃E,E=BK v c.to ((c.to+nn:Nat):Int):=⟨_,rfl⟩;have HE:=ι hE;rw[<-hE]at Yq;clear hE;by_cases Yd:E=0
 ·subst Yd;have Jj:=@run_makeMap prog;have hmf:∀(fn:Fn) (first cap:Array Value) (w:World),(Instr.makeFunc fn first cap).run prog w=.ok (.func fn first cap) w:=λ_ _ _ _=>rfl;go_upto_region 8 with(go_at_call 150;refine Yq.o.mono ?_;rintro e w2 ⟨rfl,Xd,Xs⟩;have Xz:=ι Xd;have Zd:=ι Xs;have Xe:=ι (Ya.touch Xd (λh=>by have:=h.2;omega));have Zu:=ι (Za.o.touch Xd (λh=>I.2.1 h.1) (λh=>I.2.2 h.1));have x2:=Xe.o.cc 2;have xl:=Xe.o.lt;clear Xd Xs);obtain⟨v1,Yh,Xy⟩:=Zd.o;rw[Xw.o]at Yh;have hE:=HE.o;rw[Xw.o]at hE;obtain⟨cx,fo⟩:=Z25 Zt HC Yj hE.symm Yh HM;have hz1:=Yl.size;have hz2:=Xz.o.size;have Xa:∀b,AC (plus (AC S w) w1) w2 b->plus S w b/\b<w2.heap.size:=λb hb=>⟨hb.1.elim (λh=>.inl h.1) (λh=>.inr Ω),hb.2⟩
  have Xh:=LF w2 (.map #[] 0) 235 [pP q,.map (some w2.heap.size),iI c.to];have D:Gr w2 ((w2.alloc (.map #[] 0)).alloc (.cells #[.pointer (some ⟨q,0,none⟩),.map (some w2.heap.size),.int .i64 c.to] 235)):=((Gr.refl w2).alloc _).alloc _;have Xi:=(BH.made (P:=prog) (K:=3) w2).gr ((Gr.refl _).alloc (.cells #[.pointer (some ⟨q,0,none⟩),.map (some w2.heap.size),.int .i64 c.to] 235));obtain⟨M,hM⟩:∃M,M=w2.heap.size:=⟨_,rfl⟩;obtain⟨W3,Yf⟩:∃W3,W3=((w2.alloc (.map #[] 0)).alloc (.cells #[.pointer (some ⟨q,0,none⟩),.map (some w2.heap.size),.int .i64 c.to] 235)):=⟨_,rfl⟩;have hsz3:W3.heap.size=M+2:=by rw[Yf,γ,γ,hM]
  have hMw:w.heap.size<M:=by rw[hM];exact Xe.o.lt
  have hMw2:M<=w2.heap.size/\w2.heap.size<=M:=Ω
  rw[show (w2.alloc (.map #[] 0)).alloc (.cells ([.pointer (some ⟨q,0,none⟩),.map (some w2.heap.size),.int .i64 c.to]:List Value).toArray 235)=W3 from Yf.symm]at Xh;rw[<-Yf]at D Xi⊢;rw[<-hM]at Xh Xi Xa⊢;have hr1:=Za.o.lt;have hr2:=Zu.o.lt;have Yo:C6 W3 (AC (plus (AC S w) w1) w2) (M+1) M q v1 c.to [] v1:=⟨by simpa[AJ]using Xh,Xi.congr (λy=>by simp[LG]),Xy.cut.gr D,λh=>by have:=(Xa _ h).2;omega,λh=>by have:=(Xa _ h).2;omega⟩;have Yw:YV W3 (AC (plus (AC S w) w1) w2) (M+1) M r g:=⟨by omega,by omega,by omega,by omega,by omega,by omega,λh=>(Xa _ h).1.elim I.2.1 (λh=>by omega),λh=>(Xa _ h).1.elim I.2.2 (λh=>by omega)⟩;have Jd:=ι (Q0I Yo cx fo (Zu.o.gr D) Jg Yw);have Xv:=ι (ψ cx fo);have Yi:=ι D;have Yy:=ι Yh;have Zq:=ι Xa;have U:=ι Yw;have Ju:=(Xe.o.gr D).cell (j:=2) rfl;have Js:=(Xe.o.gr D).lt;clear Yh Xy cx fo Yf hM D Xi Xh Yo Yw Xa x2 xl y0 y1 y2 yl hE;go_upto_region 9 with(go_at_call 151;refine Jd.o.mono ?_;rintro e w4 ⟨rfl,out,v',Si,hL⟩;have HL:=ι hL;clear hL)
  have Yt:Hid (∀W' S',AB (λb=>b=g\/(b=M+1\/b=M)\/AC (plus (AC S w) w1) w2 b) W3 W'->Gr W' S'->Rec S' w.heap.size 171 [iI c.fr,iI c.tp,iI c.to,iI c.lm,iI c.bk,iI c.st,iI c.ah]):=⟨λW' S' t g'=>((Xe.o.gr Yi.o).touch t (λh=>by
   have h2:=Xe.o.lt;have h3:=Yi.o.size;rcases h with h|h|h
   ·omega
   ·omega
   ·rcases h.1 with h|h
    ·have:=h.2;omega
    ·omega)).gr g'⟩
  have V:=Yt.o _ _ HL.o.t (Gr.refl _);have u2:=V.cc 2;have ul:=V.lt;clear V Ju Js Jj;go_wp2
  go_loopw [12] (λs12 wr=>∃(k:Nat) (v':Vm) (Si:Nat->Prop),Hid (CpL W3 wr (AC (plus (AC S w) w1) w2) Si (M+1) M q r g v1 rs out L c.to k v')/\s12=iI ((c.to:Int)+AJ v1 ((AT v1 rs k).take k))) (λs12 _=>((c.to:Int)+sizes L+1-intOf s12).toNat)
  case atStart=>exact⟨0,v',Si,HL,by simp[AJ]⟩
  case round=>
   obtain⟨k,Xj,Zi,Y,rfl⟩:=hrel;obtain⟨cx,fo⟩:=Xv.o;have N:=Y.o.st.lt;have c2:=Y.o.cat.rc.cc 2;have Xn:=cx.sum Y.o.st.nd Y.o.st.rch;have Zw:=GF v1 ((AT v1 rs k).take k);have Ja:=S8 v1 (AT v1 rs k) k;have Xu:=cx.top;have Zo:v1.n=v.n:=Yy.o.n;clear u2 ul;by_cases hk:k<(AT v1 rs k).length
   ·have Zn:=(DC (cx.mks.sound.rd _ (Y.o.st.rch _ (μ hk)))).2.1;have Jk:=LH v1 hk;have Zj:=S8 v1 (AT v1 rs k) (k+1);have Zs:=ι (ZQS Y.o.cat cx fo Y.o.st hk);have HK:=ι hk;have Jq:Hid (AJ v1 ((AT v1 rs k).take k)+1<=AJ v1 ((AT v1 rs k).take (k+1))):=⟨by omega⟩;obtain⟨aa,Ys⟩:∃aa:Nat,(aa:Int)=c.to+AJ v1 ((AT v1 rs k).take k):=⟨((c.to:Int)+AJ v1 ((AT v1 rs k).take k)).toNat,by omega⟩;obtain⟨tt,Xk⟩:∃tt:Nat,(tt:Int)=c.to+AJ v1 (AT v1 rs k):=⟨((c.to:Int)+AJ v1 (AT v1 rs k)).toNat,by omega⟩;have Jn:=ι Ys;rw[<-Ys]at Zs⊢;rw[<-Xk]at c2;have e0:decide ((aa:Int)<(tt:Int))=true:=θ Ω;have e1:decide (aa<tt)=true:=θ Ω;have HB:=ι (ψ Zj Xn);clear hk Zn Jk Zj Ys Xk cx fo N Xn Zw Ja Xu Zo;go_wp2_with(go_at_call 153;refine Zs.o.mono ?_;rintro e w5 ⟨v3,rfl,Xo,Zm,Jb⟩;have Xl:=ι Xo;have Jf:=ι Zm;have Jz:=ι Jb;clear Xo Zm Jb);go_round
    case rel=>
     have Zp:=YnT HK.o;refine⟨k+1,v3,plus Zi wr,⟨⟨λb hb=>?_,by rw[Zp];exact Jf.o,by rw[Zp];exact Jz.o,?_,?_,?_⟩⟩,?_⟩
     ·have:=Y.o.t.size;rcases hb with h|h
      ·exact Y.o.sub b h
      ·right;omega
     ·rw[Y.o.oe];obtain⟨X,hX⟩:=VU v1 rs k;have Zl:∀a∈AT v1 rs k++X,Rch v1 rs a:=λa ha=>V16 Xv.o.1 (k+1) a (by rw[hX];exact ha);rw[hX]
      exact(XeB Xv.o.1 Zl (λa ha=>by
       by_cases h0:a=0
       ·exact .inl h0
       ·exact .inr (Zqu v1 rs k a ha h0))).symm
     ·refine Y.o.t.trans' Xl.o (λb hb h=>?_);rcases h with h|h
      ·exact .inr (.inl h)
      ·exact(Y.o.sub b h).elim (λh=>.inr (.inr h)) (λh=>by omega)
     ·refine Y.o.rt.touch Xl.o (λh=>?_) (λh=>?_)
      ·rcases h with(h|h)|h
       ·exact U.o.rK h
       ·exact U.o.rM h
       ·exact(Y.o.sub _ h).elim U.o.rS (λh=>by have:=U.o.r3;omega)
      ·rcases h with(h|h)|h
       ·exact U.o.gK h
       ·exact U.o.gM h
       ·exact(Y.o.sub _ h).elim U.o.gS (λh=>by have:=U.o.g3;omega)
     ·rw[VQN v1 rs k (by have:=HK.o;omega)]
    case measure=>
     have h1:=Jq.o;have h2:=HB.o;have h3:=Jn.o;simp only[intOf];omega
   ·have Ye:k=(AT v1 rs k).length:=by
     rcases N with h|h
     ·exact absurd h hk
     ·exact h.1
    have Ze:=(cx.done Ye).2;rw[ψt (ψj Ye.symm)];obtain⟨tt,Xk⟩:∃tt:Nat,(tt:Int)=c.to+AJ v1 (AT v1 rs k):=⟨((c.to:Int)+AJ v1 (AT v1 rs k)).toNat,by omega⟩;have Zk:tt=c.to+sizes L:=Ω
    rw[<-Xk]at c2⊢;have e0:decide ((tt:Int)<(tt:Int))=false:=ζ Ω;have Xq:Xj.pl.pg=v.pl.pg:=Y.o.st.cp.sm.pg.trans Yy.o.pg;have Zb:=ι (λ(W:World) (g':Gr wr W)=>I0 (Y.o.cat.vm.gr g'));rw[Xq]at Zb;have Zy:=ι (ψ Ye (ψ Ze Zk));have Jp:Hid (Rec wr (M+1) 235 [pP q,.map (some M),iI tt]):=⟨by have:=Y.o.cat.rc;rw[<-Xk]at this;exact this⟩;obtain⟨pg,Xg⟩:∃pg,pg=v.pl.pg:=⟨_,rfl⟩;have Xt:=ι Xg;have Zg:=Yr.af;have htp:=Yr.tp;have htpn:=Yr.tn;rw[<-Xg]at Zb Jc Zg Je;obtain⟨q0,Yb⟩:∃q0,q0=c.fr/pg:=⟨_,rfl⟩
    have Yn:q0*pg=c.fr:=by
     have:=ζx c.fr pg;rw[Zg,ζ3]at this;rw[Yb];omega
    have Zc:=ι Yb;have g1:((c.fr:Int).tdiv (pg:Int))=(q0:Int):=by rw[Yb];rfl
    have g2:((c.fr:Int)/(pg:Int))=(q0:Int):=by rw[Yb];rfl
    have hpg0:(pg:Int)≠0:=Ω
    have hq0n:q0<=524288:=by have:=ζ8 c.fr pg;omega
    have Jm:=ι Yn;have V:=Yt.o _ _ Y.o.t (Gr.refl _);obtain⟨u0,u1,ul⟩:=V.k2;have Jt:Hid (UmI W3 wr (AC (plus (AC S w) w1) w2) (M+1) M q r g Xj out tt q0 0 pg c.tp):=⟨Y.o.t,⟨Zi,Y.o.sub,Y.o.cat.vm,Y.o.cat.nK⟩,Jp.o,Y.o.rt,λi hi=>absurd hi (ζA _)⟩;have HHK:=ι hk;have Jy:Hid (Xj.pl.pg=pg):=⟨by rw[Xq,Xg]⟩;clear V cx fo N Xn Zw Ja Xu Zo hk Ye Ze Xk Zk Xg Yb Xq Yn Jx Yp;go_upto_region 12 with(fail);obtain⟨Sx,J⟩:∃Sx:World->Prop,Sx=λW'=>W'.cell? ⟨w.heap.size,0,none⟩=some (iI c.fr):=⟨_,rfl⟩;have x1:∀p':AA Sx,p'.w.cell? ⟨w.heap.size,0,none⟩=some (iI c.fr):=λp=>AA.get J p;have Z:Sx wr.drew:=by rw[J];exact u0
    have Jv:=ι J;have O:Inhabited (AA Sx):=⟨⟨_,Z⟩⟩;clear J;refine AI Sx 6 [([0,1,2],3)] [4,5] Z ?_;refine AE ?_;go_wp2_with(go_at_call 154;refine(Zb.o _ (Gr.refl wr).drew).mono ?_;rintro e w5 ⟨rfl,rfl⟩);refine⟨.inr (AA.of Z),?_⟩;refine AL ?_;clear x1 Z O;clear Jv Sx;go_wp2
    go_loopw [13] (λs13 wx=>∃j:Nat,Hid (UmI W3 wx (AC (plus (AC S w) w1) w2) (M+1) M q r g Xj out tt q0 j pg c.tp)/\s13=iI ((q0+j:Nat):Int)) (λs13 _=>c.tp-(intOf s13).toNat*pg)
    case atStart=>exact⟨0,⟨Jt.o.gr (Gr.refl wr).drew⟩,rfl⟩
    case round=>
     obtain⟨j,HU,rfl⟩:=hrel;clear u0 u1 ul c2;obtain⟨Sj,Zf,Yz,Zr⟩:=HU.o.vm;have V:=Yt.o _ _ HU.o.t (Gr.refl _);have u1:=V.cc 1;have Yv:=I0 (Yz.gr (Gr.refl wr).drew);rw[(L7 Xj q0 j).2.1,Jy.o]at Yv;have Ym:=ι Yv;have Zx:=ι Yz;have Xb:=ι (ψ Zf Zr);obtain⟨qq,Xr⟩:∃qq,qq=q0+j:=⟨_,rfl⟩;obtain⟨pp,Xm⟩:∃pp,pp=qq*pg:=⟨_,rfl⟩
     have hppb:pp<=1048576:=by
      rcases ζJ j with h0|h0
      ·rw[Xm,Xr,h0,ξk,Jm.o];omega
      ·have:=HU.o.q1 (j-1) Ω;have e:pp=(q0+(j-1))*pg+pg:=by rw[Xm,Xr,show q0+j=(q0+(j-1))+1 by omega,ξl,ξM]
       omega
     have hqb:qq<=pp:=by rw[Xm];exact ξ6 _ Ω
     have hmul:((qq:Int)*(pg:Int))=(pp:Int):=by rw[Xm];push_cast;rfl
     have Xc:=ι (ψ Xr Xm);rw[<-Xr];clear V Yv Yz Zf Zr Xr Xm;by_cases N:pp<c.tp
     ·have e1:decide ((pp:Int)<(c.tp:Int))=true:=θ Ω;have e2:decide (pp<c.tp)=true:=θ N;have Yg:=ι N;have Jl:=ι (λ(W:World) (g':Gr wr W)=>NN (Zx.o.gr g') (qq:Int));clear N;go_upto_region 13 with(fail);obtain⟨Sx,J⟩:∃Sx:World->Prop,Sx=λW'=>W'.cell? ⟨w.heap.size,1,none⟩=some (iI c.tp):=⟨_,rfl⟩;have x1:∀p':AA Sx,p'.w.cell? ⟨w.heap.size,1,none⟩=some (iI c.tp):=λp=>AA.get J p;have Z:Sx wr.drew:=by rw[J];exact u1
      have O:Inhabited (AA Sx):=⟨⟨_,Z⟩⟩;clear J;refine AI Sx 7 [([0,1,4,5],2)] [3,6] Z ?_;refine AE ?_;go_wp2_with(go_at_call 154;refine Ym.o.mono ?_;rintro e w5 ⟨rfl,rfl⟩);refine⟨.inr (AA.of Z),?_⟩;refine AL ?_;clear x1 Z O;clear Sx;go_wp2_with(go_at_call 155;refine(Jl.o _ (Gr.refl wr).drew).mono ?_;rintro e w5 ⟨rfl,Xo,Zz⟩;have Xl:=ι Xo;have Jo:=ι Zz;clear Xo Zz);go_round
      case rel=>
       have Ji:=HU.o.t.size;refine⟨j+1,⟨⟨?_,⟨plus Sj wr.drew,λb hb=>?_,?_,λh=>?_⟩,?_,?_,λi hi=>?_⟩⟩,?_⟩
       ·refine(HU.o.t.trans ((Gr.refl wr).drew.touch _)).trans' Xl.o (λb hb h=>?_);exact(Xb.o.1 b h).elim (λh=>.inr (.inr h)) (λh=>by omega)
       ·rcases hb with h|h
        ·exact Xb.o.1 b h
        ·right;exact β Ji h
       ·have:=Jo.o;rw[Xc.o.1]at this;exact this
       ·rcases h with h|h
        ·exact Xb.o.2 h
        ·have:=HU.o.rc.lt;exact absurd this (ξj h)
       ·exact(HU.o.rc.gr (Gr.refl wr).drew).touch Xl.o Xb.o.2
       ·refine(HU.o.rt.gr (Gr.refl wr).drew).touch Xl.o (λh=>?_) (λh=>?_)
        ·exact(Xb.o.1 _ h).elim U.o.rS (λh=>by have:=U.o.r3;omega)
        ·exact(Xb.o.1 _ h).elim U.o.gS (λh=>by have:=U.o.g3;omega)
       ·rcases υ i j with h|h
        ·exact HU.o.q1 i h
        ·obtain rfl:i=j:=Ω
         rw[<-Xc.o.1,<-Xc.o.2];exact Yg.o
       ·rw[show q0+(j+1)=qq+1 by rw[Xc.o.1];omega]
        go_num
      case measure=>
       have h1:=Yg.o;have h2:=Xc.o.2;simp only[intOf];rw[show ((qq:Int)+1).toNat=qq+1 by omega,χ,ξl,ξM,<-h2];omega
     ·have e1:decide ((pp:Int)<(c.tp:Int))=false:=ζ Ω;have e2:decide (pp<c.tp)=false:=ζ N;have Yg:=ι N;have c2:=HU.o.rc.cc 2;have c2l:=HU.o.rc.lt;clear N;go_upto_region 13 with(fail);obtain⟨Sx,J⟩:∃Sx:World->Prop,Sx=λW'=>W'.cell? ⟨w.heap.size,1,none⟩=some (iI c.tp):=⟨_,rfl⟩;have x1:∀p':AA Sx,p'.w.cell? ⟨w.heap.size,1,none⟩=some (iI c.tp):=λp=>AA.get J p;have Z:Sx wr.drew:=by rw[J];exact u1
      have O:Inhabited (AA Sx):=⟨⟨_,Z⟩⟩;clear J;refine AI Sx 7 [([0,1,4,5],2)] [3,6] Z ?_;refine AE ?_;go_wp2_with(go_at_call 154;refine Ym.o.mono ?_;rintro e w5 ⟨rfl,rfl⟩);refine⟨.inr (AA.of Z),?_⟩;refine AL ?_;clear x1 Z O;clear Sx;go_wp2;go_ret2;have hz3:=Yi.o.size;have Jh:AB (λb=>b=g\/S b) w W3:=(((Xf.touch _).trans (Yl.mono (λi _ h=>.inr h.1))).trans (Xz.o.mono (λi _ h=>.inr h.1))).trans (Yi.o.touch _);have hE:=HE.o;rw[Xw.o]at hE;refine⟨L,Yj,?_,.inr ⟨hE.symm,?_,v1,Xj,k,j,⟨Yy.o,Xv.o.1,Xv.o.2,Zy.o.1,Y.o.st,?_,?_⟩,?_,?_⟩⟩
      ·refine(Jh.trans' HU.o.t (λb hb h=>?_)).trans ((Gr.refl wr).drew.touch _);rcases h with h|h|h
       ·exact .inl h
       ·omega
       ·exact(Zq.o b h).1.elim .inr (λh=>by omega)
      ·rw[<-Zy.o.2.2];exact BP rfl rfl
      ·intro i hi;rw[<-Xt.o,<-Zc.o];exact HU.o.q1 i hi
      ·rw[<-Xt.o,<-Zc.o,<-Xc.o.1,<-Xc.o.2];have:=Yg.o;omega
      ·rw[<-Xt.o,<-Zc.o];refine(Zx.o.gr (Gr.refl wr).drew).mono (λb hb=>?_);exact(Xb.o.1 b hb).elim (λh=>(Zq.o b h).1) (λh=>.inr Ω)
      ·rw[<-Y.o.oe];exact HU.o.rt.gr (Gr.refl wr).drew
 ·have d0:(E !=0)=true:=by simpa using Yd
  go_wp2_with(go_at_call 150;refine Yq.o.mono ?_;rintro e w2 ⟨rfl,Xd,Xs⟩;have Xz:=ι Xd;have Zd:=ι Xs;clear Xd Xs);go_ret2;refine⟨L,Yj,?_,.inl ⟨?_,?_,?_,?_⟩⟩
  ·exact(((Xf.touch _).trans (Yl.mono (λi _ h=>.inr h.1))).trans (Xz.o.mono (λi _ h=>.inr h.1)))
  ·rw[<-Xw.o,<-HE.o];exact Yd
  ·rw[<-Xw.o,<-HE.o];exact BP rfl rfl
  ·have hF:BY v c.to ((c.to+nn:Nat):Int)=[]:=by unfold BY;rw[ξ (λh=>Yd (HE.o.trans h.1))]
   obtain⟨v',hg,hv⟩:=Zd.o;rw[hF]at hg;have:=Yl.size;exact⟨v',hg,hv.mono (λb hb=>hb.elim (λh=>.inl h.1) (λh=>.inr Ω))⟩
  ·exact Za.o.touch Xz.o (λh=>I.2.1 h.1) (λh=>I.2.2 h.1)
end
def Pln(w:World)(F p n B:Nat)(base:Nat)(L:List Ob):Prop:=
 p<w.heap.size/\F<=p/\BL B=true/\∃f,w.cell? ⟨p,0,none⟩=some (pP f)/\w.cell? ⟨p,1,none⟩=some (iI B)/\Fwd w F f n B base L
theorem Pln.gr{F p:Nat}(h:Pln w F p n B base L)(g:Gr w w'):Pln w' F p n B base L:=by
 obtain⟨h1,h2,h3,f,c0,c1,hF⟩:=h;exact⟨κ h1 g.size,h2,h3,f,(g.cell h1 0).trans c0,(g.cell h1 1).trans c1,hF.gr g⟩
def Vkw(w:World)(n:Nat)(L:List Ob)(k b:Int)(e:Ending)(w':World):Prop:=
 Gr w w'/\(((BL k&&FY b)=false/\e=.returned (.tuple #[.pointer none,iI 5]))\/((BL k&&FY b)=true/\∃p B base:Nat,k=B/\b=base/\e=.returned (.tuple #[pP p,iI 0])/\Pln w' w.heap.size p n B base L))
theorem YGs{b1 b2:Nat}(hE:Ext w m p1 b1 p2 b2 n L)(hT:AO w)(k b:Int)(hk:k<=9223372036854775807):
  Calls prog 191 #[pP m,iI k,iI b] w (Vkw w n L k b):=by
 have HT:=hT;cases hgo:(BL k&&FY b)with
 | false=>
  go_enter func191,ntmps191;go_wp2_with(go_at_call 158;refine(WM hE HT k b hk).mono ?_;rintro e w2 ⟨Y,⟨-,rfl⟩|⟨hb,-⟩⟩;rotate_left;(rw[hgo]at hb;cases hb);have U:=Y);go_ret2;exact⟨U,.inl ⟨hgo,rfl⟩⟩
 | true=>
  have HK:=(ζY.1 hgo).1;go_enter func191,ntmps191;go_wp2_with(go_at_call 158;refine(WM hE HT k b hk).mono ?_;rintro e w2 ⟨Y,⟨hb,-⟩|⟨-,f,B,base,hB,J,rfl,hO⟩⟩;(rw[hgo]at hb;cases hb);have HO:=hO;have HB:=hB;have Z:=J);go_ret2;have hs:=Y.size;refine⟨Y.alloc _,.inr ⟨hgo,_,B,base,HB,Z,rfl,by simp,by omega,by rw[<-HB];exact HK,f,ζM ..,?_,HO.gr ((Gr.refl _).alloc _)⟩⟩
  simp_all
section
variable{F p:Nat}
theorem SP(c0:w.cell? ⟨p,0,none⟩=some (pP f)):cQ 192 #[pP p] w (pP f):=by
 go_enter func192,ntmps192;go_wp2;go_ret
 simp_all
theorem XU(hP:Pln w F p n B base L):A4 prog 194 #[pP p] w (iI (nbl (sizes L) B:Nat)):=by
 obtain⟨h1,h2,h3,f,c0,c1,hF⟩:=hP;obtain⟨hg,hn⟩:=hF.good;have hs:=FT hg;have J:=DD h3;have HB:=h3;obtain⟨s,Y⟩:∃s,s=sizes L:=⟨_,rfl⟩;have HS:=Y.symm;rw[<-Y]at hs⊢;obtain⟨u,hu⟩:∃u,u=(s+B-1)/B*B:=⟨_,rfl⟩;obtain⟨N,hN⟩:∃N,N=nbl s B:=⟨_,rfl⟩
 have hq:(u:Int)/(B:Int)=(N:Int):=by
  rw[hu,hN];unfold nbl
  grind [Int.natCast_mul,Int.mul_ediv_cancel]
 have hul:(u:Int)<=1049600:=by
  have:=ζn (s+B-1) B;omega
 have HU:=hu.symm;have hNl:N<=s:=by grind [LY]
 rw[<-hN];have z0:∀xs m,(grow w xs m).cell? ⟨p,0,none⟩=some (pP f):=λxs m=>((grown w xs m).cell h1 0).trans c0;have z1:∀xs m,(grow w xs m).cell? ⟨p,1,none⟩=some (iI B):=λxs m=>((grown w xs m).cell h1 1).trans c1;have hb1:(1:Int)<=(B:Int):=J.1;have hB0:((B:Int)==0)=false:=ζD.2 Ω;clear h3 hg Y hu hN J;unfold A4;go_enter func194,ntmps194;go_wp2;refine I5 (by kernel_rfl) (by kernel_rfl) ?_
 repeat(go_big_quiet_step (first
  | (go_at_call 193;have hc:=λxs m=>ZY (hF.gr (grown w xs m));simp only[HS]at hc;exact A4.grown_same (hc _ _))
  | (go_at_call 235;have hc:=λxs m=>Xnz s B (β hs (β hn (by decide))) HB (grow w xs m);simp only[HU]at hc;exact A4.grown_same (hc _ _))))
 refine ζd ?_;intro _ U;obtain⟨⟨xs,nq⟩,Z⟩:=U;subst Z;go_wp2;go_ret;exact⟨rfl,grown w _ _⟩
def DO(L:List Ob)(B:Nat)(k:Int):Bool:=decide (0<=k)&&decide (k<(nbl (sizes L) B:Nat))
def ID(L:List Ob)(B:Nat)(base k:Int):Int:=if DO L B k then base+k*B else 0
def JA(L:List Ob)(B:Nat)(base k:Int):Int:=if DO L B k then base+min (k*B+B) (sizes L:Nat)else 0
def L9(L:List Ob)(B:Nat)(k:Int):Int:=if DO L B k then 0 else 11
theorem NU{base k:Int}(h:DO L B k=false):ID L B base k=0/\JA L B base k=0/\L9 L B k=11:=by unfold ID JA L9;simp_all
theorem NR{base k:Int}(h:DO L B k=true):ID L B base k=base+k*B/\JA L B base k=base+min (k*B+B) (sizes L:Nat)/\L9 L B k=0:=by unfold ID JA L9;simp_all
theorem XyY{k:Int}(h:k<0\/((nbl (sizes L) B:Nat):Int)<=k):DO L B k=false:=by
 unfold DO
 grind
theorem QC8(hB:1<=B)(h:DO L B j=true):j*B<sizes L:=by
 unfold DO at h;simp at h
 grind [I3]
theorem U9(hP:Pln w F p n B base L)(k:Int):A4 prog 169 #[pP p,iI k] w (.tuple #[iI (ID L B base k),iI (JA L B base k),iI (L9 L B k)]):=by
 have HP:=hP;obtain⟨h1,h2,h3,f,c0,c1,hF⟩:=hP;obtain⟨hg,hn⟩:=hF.good;have hs:=FT hg;have Xb:=DD h3;have hbs:=hF.2.2.1;obtain⟨N,hN⟩:∃N,N=nbl (sizes L) B:=⟨_,rfl⟩;have HN:=hN.symm;unfold A4;by_cases Xc:k<0
 ·have E:=(NU (base:=base) (XyY (L:=L) (B:=B) (.inl Xc)));rw[E.1,E.2.1,E.2.2];go_enter func169,ntmps169;go_wp2
  go_ret3
  exact⟨rfl,Gr.refl _⟩
 ·obtain⟨j,rfl⟩:∃j:Nat,k=j:=⟨k.toNat,by omega⟩;by_cases hk1:N<=j
  ·have E:=(NU (base:=base) (XyY (L:=L) (B:=B) (k:=j) (.inr Ω)));rw[E.1,E.2.1,E.2.2];clear hN;go_enter func169,ntmps169;go_wp2_with(go_at_call 194;refine(XU HP).mono ?_;rintro e w1 ⟨rfl,Y⟩;rw[HN])
   go_ret3
   exact⟨rfl,Y⟩
  ·have O:DO L B j=true:=by unfold DO;rw[<-hN];simp;omega
   have Xa:=QC8 Ω O;have E:=(NR (base:=base) O);rw[E.1,E.2.1,E.2.2];obtain⟨t,ht⟩:∃t,t=j*B:=⟨_,rfl⟩;have Z:(j:Int)*(B:Int)=(t:Int):=by rw[ht];push_cast;rfl
   rw[<-ht]at Xa;rw[Z];obtain⟨s,D⟩:∃s,s=sizes L:=⟨_,rfl⟩;have HS:=D.symm;rw[<-D]at hs Xa⊢;have w1:IntKind.i64.wrap ((j:Int)*(B:Int))=(t:Int):=by rw[Z];exact ζw _ Ω
   have w2:IntKind.i64.wrap ((base:Int)+(t:Int))=(base:Int)+(t:Int):=ζw _ Ω;have w3:IntKind.i64.wrap ((base:Int)+(t:Int)+(B:Int))=(base:Int)+(t:Int)+(B:Int):=ζw _ Ω
   have hmin:∀w',(Builtin.min_ #[3,3] 3 #[iI ((base:Int)+(t:Int)+(B:Int)),iI ((base:Int)+(s:Int))]).run prog w'=.ok (iI ((base:Int)+min ((t:Int)+(B:Int)) (s:Int))) w':=λw'=>by
    rw[WU];rw[show min ((base:Int)+(t:Int)+(B:Int)) ((base:Int)+(s:Int))=(base:Int)+min ((t:Int)+(B:Int)) (s:Int)by omega]
   clear hN D ht O Xb Z;go_enter func169,ntmps169;go_wp2_with(go_at_call 194;refine(XU HP).mono ?_;rintro e w1 ⟨rfl,Y⟩;rw[HN])
   rename World=>wz
   have z0:∀xs m,(grow wz xs m).cell? ⟨p,0,none⟩=some (pP f):=λxs m=>((Y.trans (grown wz xs m)).cell h1 0).trans c0;have z1:∀xs m,(grow wz xs m).cell? ⟨p,1,none⟩=some (iI B):=λxs m=>((Y.trans (grown wz xs m)).cell h1 1).trans c1;refine I5 (by kernel_rfl) (by kernel_rfl) ?_
   repeat(go_big_quiet_step ((go_at_call 220;have hc:=λxs m=>ZQ (hF.gr (Y.trans (grown wz xs m)));exact A4.grown_same (hc _ _))))
   refine ζd ?_;intro _ I;obtain⟨⟨xs,nq⟩,J⟩:=I;subst J;obtain⟨wy,V⟩:∃wy,wy=grow wz xs nq:=⟨_,rfl⟩;have U:=(show Gr w wy from by rw[V];exact Y.trans (grown _ _ _));have y0:∀xs m,(grow wy xs m).cell? ⟨p,0,none⟩=some (pP f):=λxs m=>((U.trans (grown wy xs m)).cell h1 0).trans c0;have y1:∀xs m,(grow wy xs m).cell? ⟨p,1,none⟩=some (iI B):=λxs m=>((U.trans (grown wy xs m)).cell h1 1).trans c1;rw[<-V];clear V z0 z1;go_wp2;refine I5 (by kernel_rfl) (by kernel_rfl) ?_
   repeat(go_big_quiet_step ((go_at_call 159;have hc:=λxs m=>NC (hF.gr (U.trans (grown wy xs m)));simp only[HS]at hc;exact A4.grown (hc _ _))))
   refine ζd ?_;intro _ I;obtain⟨⟨ys,mq⟩,J⟩:=I;subst J;go_wp2
   go_ret3
   exact⟨rfl,U.trans (grown wy _ _)⟩
end
structure Pc where
 f:Int
 t:Int
 s:Nat
 deriving DecidableEq,Inhabited
variable{P:List Pc}
def DZ:List Pc->Int->Int->List Pc
 | [],x,y=>[⟨x,y,1⟩]
 | [p],x,y=>if p.f+p.s=x then [⟨p.f,p.t,p.s+1⟩]else [p,⟨x,y,1⟩]
 | p :: q :: r,x,y=>p :: DZ (q :: r) x y
theorem XI{x y:Int}(h:∀p,P.getLast?=some p->p.f+p.s≠x):DZ P x y=P++[⟨x,y,1⟩]:=by
 induction P with
 | nil=>rfl
 | cons p r ih=>
  cases r with
  | nil=>unfold DZ;simp_all
  | cons q r=>unfold DZ;simp_all
theorem VC{p:Pc}{x y:Int}(h:p.f+p.s=x):DZ (P++[p]) x y=P++[⟨p.f,p.t,p.s+1⟩]:=by
 induction P with
 | nil=>simp[DZ,h]
 | cons q r ih=>
  cases r with
  | nil=>simp only[ζC,ζU,DZ]at ih⊢;rw[φ h]
  | cons s r=>simp only[ζC,DZ]at ih⊢;rw[ih]
def pcs(g:Int->Int)(at_:Int):Nat->List Pc
 | 0=>[]
 | k+1=>DZ (pcs g at_ k) (g (at_+k)) (at_+k)
structure ML(g:Int->Int)(a:Int)(k:Nat)(P:List Pc):Prop where
 pos:∀p∈P,1<=p.s
 word:∀p∈P,∀i:Nat,i<p.s->g (p.t+i)=p.f+i
 first:∀h:0<P.length,P[0].t=a
 next:∀i (h:i+1<P.length),P[i+1].t=P[i].t+P[i].s/\P[i].f+P[i].s≠P[i+1].f
 last:∀p,P.getLast?=some p->p.t+p.s=a+k
 none:P=[]->k=0
theorem Z8N{α:Type}{P:List α}(h:P≠[]):∃Q p,P=Q++[p]:=⟨P.dropLast,P.getLast h,(ξU h).symm⟩
theorem QBb(g:Int->Int)(a:Int)(k:Nat):ML g a k (pcs g a k):=by
 induction k with
 | zero=>exact⟨λp h=>(by cases h),λp h=>(by cases h),λh=>absurd h (by simp[pcs]),λi h=>absurd h (by simp[pcs]),λp h=>(by simp[pcs]at h),λ_=>rfl⟩
 | succ k ih=>
  unfold pcs;generalize pcs g a k=P at ih;by_cases hP:P=[]
  ·subst hP;obtain rfl:=ih.none rfl;refine⟨λp h=>?_,λp h i hi=>?_,λh=>by simp[DZ],λi h=>absurd h (by simp[DZ]),λp h=>?_,λh=>by simp[DZ]at h⟩
   ·simp[DZ]at h;subst h;exact ϑ 1
   ·simp[DZ]at h;subst h;have hi:i<1:=hi;obtain rfl:i=0:=Ω
    simp
   ·simp[DZ]at h;subst h;simp
  ·obtain⟨Q,p,rfl⟩:=Z8N hP;have hl:=ih.last p (by simp);have hps:=ih.pos p (by simp);by_cases hx:p.f+p.s=g (a+k)
   ·rw[VC hx];refine⟨λq h=>?_,λq h i hi=>?_,λh=>?_,λi h=>?_,λq h=>?_,λh=>by simp at h⟩
    ·rcases ζe.1 h with h|h
     ·exact ih.pos q (ζk _ h)
     ·rw[ζO.1 h];exact Nat.le_add_left ..
    ·rcases ζe.1 h with h|h
     ·exact ih.word q (ζk _ h) i hi
     ·rw[ζO.1 h]at hi⊢;have hi:i<p.s+1:=hi
      show g (p.t+i)=p.f+i
      rcases υ i p.s with h1|h1
      ·exact ih.word p (by simp) i h1
      ·obtain rfl:i=p.s:=Ω
       rw[hl,hx]
    ·have:=ih.first (by simp)
     cases Q with
     | nil=>simpa using this
     | cons q r=>simpa using this
    ·have Y:i+1<(Q++[p]).length:=by simpa using h
     have:=ih.next i Y
     have h':i+1<Q.length+1:=by simpa using h
     rcases υ (i+1) Q.length with h1|h1
     ·rw[ζH h1,ζH Ω]at this⊢;exact this
     ·obtain h2:i+1=Q.length:=Ω
      rw[ξZ Ω,ζH Ω]at this⊢;simpa[h2]using this
    ·simp at h;subst h;show p.t+((p.s+1:Nat):Int)=_;omega
   ·rw[XI (λq h=>by simp at h;subst h;exact hx)];refine⟨λq h=>?_,λq h i hi=>?_,λh=>?_,λi h=>?_,λq h=>?_,λh=>by simp at h⟩
    ·rcases ζe.1 h with h|h
     ·exact ih.pos q h
     ·rw[ζO.1 h];exact ϑ 1
    ·rcases ζe.1 h with h|h
     ·exact ih.word q h i hi
     ·rw[ζO.1 h]at hi⊢;have hi:i<1:=hi;obtain rfl:i=0:=Ω
      simp
    ·have:=ih.first (by simp)
     rw[ζH (by simp)];exact this
    ·have h':i+1<(Q++[p]).length+1:=by simpa using h
     rcases υ (i+1) (Q++[p]).length with h1|h1
     ·have:=ih.next i h1
      have h4:i<(Q++[p]).length:=Nat.lt_of_succ_lt h1;rw[ζH h1,ζH h4];exact this
     ·have h2:i+1=(Q++[p]).length:=Ω
      have h3:i=Q.length:=by simp at h2;omega
      rw[ξZ Ω,ζH Ω];subst h3;simp only[h2,Nat.sub_self,List.getElem_singleton,ξZ (ϑ _)];exact⟨hl.symm,hx⟩
    ·simp at h;subst h;push_cast;omega
theorem QTh(g:Int->Int)(a:Int)(k:Nat):(pcs g a k).length<=k:=by
 induction k with
 | zero=>exact ϑ _
 | succ k ih=>
  unfold pcs;generalize pcs g a k=P at ih;by_cases hP:P=[]
  ·subst hP;simp[DZ]
  ·obtain⟨Q,p,rfl⟩:=Z8N hP
   grind [VC,XI]
theorem Qox{g:Int->Int}(hP:pcs g a k=P)(hn:∀p,P.getLast?=some p->p.f+p.s≠g (a+k))(h1:1<=n)(hw:∀i,i<n->g (a+k+i)=g (a+k)+i):
  pcs g a (k+n)=P++[⟨g (a+k),a+k,n⟩]:=by
 induction n with
 | zero=>omega
 | succ n ih=>
  by_cases h0:n=0
  ·subst h0
   show DZ (pcs g a k) (g (a+k)) (a+k)=_
   rw[hP,XI hn]
  ·have:=ih Ω (λi hi=>hw i Ω)
   show DZ (pcs g a (k+n)) (g (a+(k+n:Nat))) (a+(k+n:Nat))=_
   grind [VC]
theorem ML.ends{g:Int->Int}(h:ML g a k P):∀(d i:Nat) (hi:i<P.length),P.length-i=d->P[i].t+P[i].s<=a+k/\a<=P[i].t:=by
 have lo:∀i (hi:i<P.length),a<=P[i].t:=by
  intro i
  induction i with
  | zero=>intro hi;rw[h.first hi];omega
  | succ i ih=>
   intro hi;have:=(h.next i hi).1
   grind
 intro d
 induction d with
 | zero=>omega
 | succ d ih=>
  intro i hi hd;refine⟨?_,lo i hi⟩;by_cases hl:i+1<P.length
  ·have h1:=(h.next i hl).1
   grind
  ·have:=h.last (P[i]) (by grind);omega
def J2(P:List Pc)(z:Int)(i:Nat):Int:=if h:i<P.length then P[i].t else z
theorem YA{z:Int}(h:i<P.length):J2 P z i=P[i].t:=by unfold J2;simp_all
theorem VID(P:List Pc)(z:Int):J2 P z P.length=z:=by unfold J2;simp_all
theorem XLy{g:Int->Int}(h:ML g a k P)(hk:1<=k):J2 P (a+k) 0=a:=by
 by_cases hP:P=[]
 ·have:=h.none hP;omega
 ·have hl:0<P.length:=List.length_pos_iff.2 hP;rw[YA hl,h.first hl]
theorem Xv7{g:Int->Int}(h:ML g a k P)(hi:i<P.length):J2 P (a+k) (i+1)=P[i].t+P[i].s:=by
 by_cases hl:i+1<P.length
 ·rw[YA hl,(h.next i hl).1]
 ·have hx:=h.last (P[i]) (by grind);unfold J2
  grind
theorem ZSj(h:AP n L)(hn:n<=1048576)(base:Nat)(b:Int):0<=CQ L base b/\CQ L base b<=1048576:=by
 cases hin:inF L base b with
 | false=>grind [MN]
 | true=>
  obtain⟨j,hj,_,e2,e3,_,_⟩:=Zeb h hin;have:=h.sz _ (μ hj);omega
section
variable{F p:Nat}
def G0(L:List Ob)(base B:Nat)(b:Int):Int:=if inF L base b then (b-base)/B else 0
theorem ZAe(hP:Pln w F p n B base L)(hT:AO w)(b:Int)(hb:b<=9223372036854775807):A4 prog 315 #[pP p,iI b] w (.tuple #[iI (G0 L base B b),iI (FZ L base b)]):=by
 obtain⟨h1,h2,h3,f,c0,c1,hF⟩:=hP;have U:=DD h3;have hbs:=hF.2.2.1;have HT:=hT;obtain⟨hg,hn⟩:=hF.good;have hs:=FT hg;unfold A4;cases hin:inF L base b with
 | false=>
  have E:=ι (MN hin);have E2:Hid (G0 L base B b=0):=⟨by unfold G0;rw[hin];rfl⟩;rw[E.o.2.2,E2.o];go_enter func315,ntmps315;go_wp2_with(go_at_call 260;refine(ND hF HT b hb).mono ?_;rintro e w1 ⟨rfl,Y⟩;rw[E.o.1,E.o.2.2]);go_ret2
  simp_all
 | true=>
  obtain⟨i1,i2⟩:=FG.1 hin;have E2:Hid (G0 L base B b=(b-base)/B):=⟨by unfold G0;rw[hin];rfl⟩;have E:Hid (FZ L base b=0):=⟨by unfold FZ;rw[hin];rfl⟩;rw[E.o,E2.o];have w1:IntKind.i64.wrap (b-(base:Int))=b-(base:Int):=ζw _ Ω;have hb1:(1:Int)<=(B:Int):=U.1;have Z:(0:Int)<=b-(base:Int):=Ω
  have hB0:((B:Int)==0)=false:=ζD.2 Ω;have hdiv:(b-(base:Int)).tdiv (B:Int)=(b-(base:Int))/(B:Int):=Int.tdiv_eq_ediv_of_nonneg Z;have hdl:(b-(base:Int))/(B:Int)<=b-(base:Int):=Int.ediv_le_self _ Z;have hd0:0<=(b-(base:Int))/(B:Int):=Int.ediv_nonneg Z Ω;have w2:IntKind.i64.wrap ((b-(base:Int))/(B:Int))=(b-(base:Int))/(B:Int):=ζw _ Ω;go_enter func315,ntmps315;go_wp2_with(go_at_call 260;refine(ND hF HT b hb).mono ?_;rintro e w1 ⟨rfl,Y⟩;rw[E.o])
  rename World=>wz
  have z0:∀xs m,(grow wz xs m).cell? ⟨p,0,none⟩=some (pP f):=λxs m=>((Y.trans (grown wz xs m)).cell h1 0).trans c0;have z1:∀xs m,(grow wz xs m).cell? ⟨p,1,none⟩=some (iI B):=λxs m=>((Y.trans (grown wz xs m)).cell h1 1).trans c1;refine I5 (by kernel_rfl) (by kernel_rfl) ?_
  repeat(go_big_quiet_step ((go_at_call 220;have hc:=λxs m=>ZQ (hF.gr (Y.trans (grown wz xs m)));exact A4.grown_same (hc _ _))))
  refine ζd ?_;intro _ V;obtain⟨⟨xs,nq⟩,J⟩:=V;subst J;go_wp2;go_ret2;exact⟨rfl,Y.trans (grown wz _ _)⟩
def VWm(w:World)(L:List Ob)(base at_ to:Nat)(e:Ending)(w':World):Prop:=
 ∃r:Nat,e=.returned (.tuple #[iI (CQ L base at_),iI r])/\Gr w w'/\1<=r/\at_+r<=to/\(∀i,i<r->CQ L base ((at_:Int)+i)=CQ L base at_+i)/\(at_+r<to->CQ L base at_+r≠CQ L base ((at_:Int)+r))
theorem Zkm(hP:Pln w F p n B base L)(hT:AO w)(at_ to:Nat)(ha:at_<to)(hto:(to:Int)<=4294967296):
  Calls prog 221 #[pP p,iI at_,iI to] w (VWm w L base at_ to):=by
 obtain⟨h1,h2,h3,f,c0,c1,hF⟩:=hP;have HT:=hT;obtain⟨hg,hn⟩:=hF.good;have D:=(λb=>ZSj hg hn base b);obtain⟨v,hv⟩:∃v,v=CQ L base at_:=⟨_,rfl⟩;have HV:=hv.symm;have O:=D at_;rw[<-hv]at O;clear h3 hT hg hv;go_enter func221,ntmps221;go_wp2_with(go_at_call 260;refine(ND hF HT at_ Ω).mono ?_;rintro e w1 ⟨rfl,I⟩;rw[HV];have Xa:=ι I)
 go_loopw [10] (λs wr=>∃r:Nat,Hid (1<=r/\at_+r<=to/\∀i,i<r->CQ L base ((at_:Int)+i)=v+i)/\Hid (Gr w wr)/\s=iI r) (λs _=>to-(intOf s).toNat)
 case atStart=>exact⟨1,⟨ϑ _,by omega,λi hi=>by obtain rfl:i=0:=Ω;simpa using HV⟩,Xa,rfl⟩
 case round=>
  rename World=>wr
  obtain⟨r,hr,Y,rfl⟩:=hrel;obtain⟨V,N,-⟩:=hr.o;have k0:=(Y.o.cell h1 0).trans c0;by_cases hlt:at_+r<to
  ·obtain⟨x,hx⟩:∃x,x=CQ L base ((at_:Int)+(r:Int)):=⟨_,rfl⟩;have HX:=hx.symm;clear hx;by_cases J:x=v+r
   ·have E:(x !=v+(r:Int))=false:=by simp[J]
    go_wp2_with(go_at_call 260;refine(ND (hF.gr Y.o) (Y.o.tab HT.lt HT) _ Ω).mono ?_;rintro e w1 ⟨rfl,Z⟩;rw[HX];have U:=ι (Y.o.trans Z);clear Z);go_roundw
    case rel=>exact⟨r+1,⟨by omega,by omega,λi hi=>by rcases υ i r with h|h;exact hr.o.2.2 i h;(obtain rfl:i=r:=Ω);rw[HX,J]⟩,U,by go_num⟩
    case measure=>simp[intOf];omega
   ·have E:(x !=v+(r:Int))=true:=by simp[J]
    go_wp2_with(go_at_call 260;refine(ND (hF.gr Y.o) (Y.o.tab HT.lt HT) _ Ω).mono ?_;rintro e w1 ⟨rfl,Z⟩;rw[HX];have U:=ι (Y.o.trans Z);clear Z);go_ret2;exact⟨r,by rw[HV];rfl,U.o,V,N,λi hi=>by rw[HV];exact hr.o.2.2 i hi,λ_ h=>J (by rw[<-HX,<-h,HV])⟩
  ·go_wp2;go_ret2;exact⟨r,by rw[HV];rfl,Y.o,V,N,λi hi=>by rw[HV];exact hr.o.2.2 i hi,λh=>by omega⟩
end
def FI(P:List Pc):List Value:=P.flatMap λq=>[iI q.f,iI q.t,iI (q.s:Nat)]
theorem YGE(P Q:List Pc):FI (P++Q)=FI P++FI Q:=by simp[FI]
theorem Zcu(h:i<P.length):(FI P)[i*3]?=some (iI P[i].f)/\(FI P)[i*3+1]?=some (iI P[i].t)/\(FI P)[i*3+2]?=some (iI (P[i].s:Nat)):=by
 induction P generalizing i with
 | nil=>grind
 | cons o r ih=>
  have e:FI (o :: r)=iI o.f :: iI o.t :: iI (o.s:Nat) :: FI r:=rfl;rw[e];cases i with
  | zero=>simp_all
  | succ i=>
   grind
def H8(w:World)(A:Option Addr)(P:List Pc):Prop:=∀i (h:i<P.length),∃g,A=some ⟨g,0,none⟩/\g<w.heap.size ∧
 w.cell? ⟨g,i*3,none⟩=some (iI P[i].f)/\w.cell? ⟨g,i*3+1,none⟩=some (iI P[i].t)/\w.cell? ⟨g,i*3+2,none⟩=some (iI (P[i].s:Nat))
theorem H8.gr(h:H8 w A P)(t:Gr w w'):H8 w' A P:=λi hi=>by
 obtain⟨g,rfl,h1,h2,h3,h4⟩:=h i hi;exact⟨g,rfl,κ h1 t.size,(t.cell h1 _).trans h2,(t.cell h1 _).trans h3,(t.cell h1 _).trans h4⟩
theorem XfI{v:Value}(h:w.ownsRow base T 3 v P.length (FI P)):∃A c,v=.slice A P.length c/\H8 w A P/\∀a,A=some a->base<=a.block:=by
 by_cases hn:P.length=0
 ·obtain⟨_,⟨rfl,_⟩|⟨g,c,cur,rfl,e2,_⟩⟩:=h
  ·exact⟨none,0,by rw[hn],λi hi=>by omega,λa e=>by cases e⟩
  ·exact⟨some ⟨g,0,none⟩,c,rfl,λi hi=>by omega,λa e=>by grind⟩
 ·obtain⟨g,c,rfl,hb,_,_,hg⟩:=E6 h hn;refine⟨some ⟨g,0,none⟩,c,rfl,λi hi=>?_,λa e=>by grind⟩
  grind [Zcu,BS]
theorem ZkK{v:Value}{q:Pc}(h:w.ownsRow base T 3 v (P.length+1) (FI P++[iI q.f,iI q.t,iI (q.s:Nat)])):w.ownsRow base T 3 v (P++[q]).length (FI (P++[q])):=by
 rw[YGE,ζr];exact h
theorem Vdu:(prog.info? 260).map (λi=>(i.zero,i.size,i.bytes))=some (some (.agg #[iI 0,iI 0,iI 0]),3,24):=by kernel_rfl
def II(L:List Ob)(B base:Nat)(k:Int):List Pc:=pcs (CQ L base) (ID L B base k) (JA L B base k-ID L B base k).toNat
theorem ZF{k:Int}(h:DO L B k=false):II L B base k=[]:=by
 unfold II;rw[(NU h).1,(NU h).2.1];rfl
theorem VYq(hg:AP n L)(hn:n<=1048576)(hB:1<=B)(hb:base<2147483648){k:Int}(h:DO L B k=true):
  ∃a z:Nat,ID L B base k=a/\JA L B base k=z/\a<z/\z<=2148532224/\z<=a+B/\base<=a/\z<=base+sizes L:=by
 have hk0:0<=k:=by unfold DO at h;simp_all
 obtain⟨j,rfl⟩:∃j:Nat,k=j:=⟨k.toNat,by omega⟩;have hlt:=QC8 hB h;have hs:=FT hg;obtain⟨e1,e2,-⟩:=NR (base:=base) h;refine⟨base+j*B,base+min (j*B+B) (sizes L),by rw[e1];rfl,by omega,by omega,by omega,by omega,by omega,by omega⟩
theorem ZbI(hg:AP n L)(hn:n<=1048576)(hB:1<=B)(hb:base<2147483648)(k:Int):(II L B base k).length<=B:=by
 cases hin:DO L B k with
 | false=>grind [ZF]
 | true=>
  obtain⟨a,z,ea,ez,_,_,hz,_,_⟩:=VYq hg hn hB hb hin;unfold II
  grind [QTh]
section
variable{F p:Nat}
def Jzj(w:World)(P:List Pc)(c:Int)(e:Ending)(w':World):Prop:=
 ∃A cap,e=.returned (.tuple #[.slice A P.length cap,iI c])/\Gr w w'/\H8 w' A P/\∀a,A=some a->w.heap.size<=a.block
theorem Y4j(hP:Pln w F p n B base L)(hT:AO w)(k:Int):
  Calls prog 170 #[pP p,iI k] w (Jzj w (II L B base k) (L9 L B k)):=by
 have HP:=hP;obtain⟨h1,h2,h3,f,c0,c1,hF⟩:=hP;obtain⟨hg,hn⟩:=hF.good;have hbp:=DD h3;have Xh:=hF.2.2.1;cases hin:DO L B k with
 | false=>
  have E:=(NU (base:=base) hin);have E2:=ι (ZF (base:=base) hin);rw[E2.o,E.2.2];clear hF h3 hg hin;go_enter func170,ntmps170;go_wp2_with(go_at_call 169;refine(U9 HP k).mono ?_;rintro e w1 ⟨rfl,U⟩;rw[E.1,E.2.1,E.2.2]);go_ret2;exact⟨none,0,rfl,U,λi hi=>absurd hi (by simp),λa e=>by cases e⟩
 | true=>
  obtain⟨a0,z,ea,ez,hlt,hz,hzB,-,-⟩:=VYq hg hn Ω Xh hin;have E:=(ψ ea (ψ ez (NR (base:=base) hin).2.2));have E2:Hid (II L B base k=pcs (CQ L base) a0 (z-a0)):=⟨by unfold II;rw[ea,ez];congr 1;omega⟩;rw[E2.o,E.2.2];obtain⟨i0,hi,Xi,Xq,Xm⟩:=info_parts Vdu;obtain⟨g,Xb⟩:∃g,g=CQ L base:=⟨_,rfl⟩;rw[<-Xb];have Xo:=Xb;clear hF h3 hg hin ea ez Xb;go_enter func170,ntmps170;go_wp2_with(go_at_call 169;refine(U9 HP k).mono ?_;rintro e w1 ⟨rfl,U⟩;rw[E.1,E.2.1,E.2.2];have Xc:=U;clear U)
  go_loopw [6,9] (λs6 s9 wr=>∃(Y m:Nat) (P:List Pc),Hid (Y=a0+m)/\Y<=z/\a0<=Y/\Hid (pcs g a0 m=P)/\P.length<=Y/\Hid (Y < z->∀q,P.getLast?=some q->q.f+q.s≠g Y)/\Hid (wr.ownsRow w1.heap.size 260 3 s9 P.length (FI P))/\Hid (AB (λi=>w1.heap.size<=i) w1 wr)/\s6=iI Y) (λs6 _ _=>z-(intOf s6).toNat)
  case atStart=>exact⟨a0,0,[],⟨rfl⟩,by omega,ϑ _,⟨rfl⟩,by simp,⟨λ_ q h=>by simp at h⟩,⟨GP _ _ _ _⟩,⟨AB.refl _ _⟩,rfl⟩
  case round=>
   obtain⟨Y,m,P,D,hle,hge,hp,hpl,N,V,ht,rfl⟩:=hrel;have HG:=((Xc.touch (λ_=>False)).trans' ht.o (λi hi h=>by have:=Xc.size;omega)).gr;have hwl:=ht.o.size;by_cases Xe:Y < z
   ·go_wp2_with(first
     | (go_at_call 221;refine(Zkm (HP.gr HG) (HG.tab hT.lt hT) Y z Xe Ω).mono ?_;rintro e w3 ⟨r,rfl,O,Xl,hr2,I,Xa⟩;rw[<-Xo]at I Xa⊢;have HR:=(ψ I Xa);have Xg:=(CL V.o O);have hz3:=O.size;(obtain⟨fv,Xd⟩:∃fv,fv=g Y:=⟨_,rfl⟩);have Xf:=Xd.symm;rw[<-Xd];clear I Xa Xd)
     | (at_builtin;refine wpList_append_own _ rfl _ _ 256 rfl w1.heap.size 260 i0 _ 3 24 underlying256 hi Xi Xq Xm rfl (by decide) u9 P.length (FI P) rfl (CL Xg ((Gr.refl _).alloc _)) ⟨w3.heap.size,0,none⟩ 1 1 [iI fv,iI Y,iI r] rfl rfl (ξv (cs:=#[iI fv,iI Y,iI r]) (t:=260) (fr:=(0,0)) (heap_alloc_new w3 _)) (by simp[Value.oneCell']) (by unfold maxLen;omega) Ω (by simp only[γ];omega) ?_;intro v4 w4 J Z _;have Xn:=ι (ZkK (q:=⟨fv,Y,r⟩) J);have Xp:=((((Gr.refl w3).alloc (.cells #[.int .i64 fv,.int .i64 Y,.int .i64 r] 260)).touch (λk=>w1.heap.size<=k)).trans (DM Z _ (λ_ e _=>(BE Xg e).1)));clear J Z))
    go_roundw
    case rel=>
     refine⟨Y + r,m+r,P++[⟨fv,Y,r⟩],⟨by rw[D.o];omega⟩,by omega,by omega,⟨?_⟩,by simp;omega,⟨λhzz q hq=>?_⟩,Xn,⟨(ht.o.trans (O.touch _)).trans Xp⟩,by go_num⟩
     ·have e1:=D.o;have ee:(a0:Int)+(m:Int)=(Y:Int):=Ω
      have hh:=Qox (g:=g) (a:=a0) (k:=m) hp.o (by rw[ee];exact N.o Xe) Xl (by rw[ee];exact HR.1);rw[hh,ee,Xf]
     ·simp at hq;subst hq;have:=HR.2 hzz;rw[Xf]at this;push_cast;exact this
    case measure=>simp[intOf];omega
   ·obtain rfl:Y=z:=Ω
    go_wp2;go_ret2;obtain⟨A,c,hA,Xj,Xk⟩:=XfI V.o;have e1:=hp.o;have e2:m=Y - a0:=by have:=D.o;omega
    subst e2;rw[e1];exact⟨A,c,by rw[<-hA];rfl,HG,Xj,λa h=>β Xc.size (Xk a h)⟩
end
structure ZxU where
 pg:Nat
 H:List Hdr
 P:List Nat
 R:List Nat
 bk:Nat
 st:Nat
 ah:Nat
section
variable(x:ZxU)
end
structure DY(v v':Vm):Prop where
 ok:AF v'
 sm:BR v v'
theorem DY.refl(h:AF v):DY v v:=⟨h,BR.refl v⟩
theorem DY.st(h:DY v v')(a:Int)(hx:x<18446744073709551616):DY v (v'.st a x):=⟨h.ok.st a hx,h.sm.trans (BR.st _ _ _)⟩
theorem DY.mkV{v v':Vm}(h:DY v v')(a:Int){x:Nat}(hx:x<18446744073709551616)(m:Nat):DY v (mkV v' a x m):=by
 induction m with
 | zero=>exact h.st a hx
 | succ m ih=>exact ih.st _ (by decide)
theorem DY.mkVm{v v':Vm}(h:DY v v')(a:Int)(hd:Hdr):DY v (mkVm v' a hd):=by
 unfold Go.Proofs.YtbdimhlaaoadgaaGreatDoor.mkVm
 split
 ·rename_i h0;unfold GY at h0
  split at h0
  ·cases h0
  ·split at h0
   ·cases h0
   ·rename_i h1;obtain⟨p,f,c,rfl,hs⟩:=RY (ξD.1 h1);exact h.mkV a (YB (by simp_all)) _
 ·exact h
theorem XS7{p c:Nat}(hs:p+f+c<=255):tkE (CY p f c)=0/\tkH (CY p f c)=⟨p,f,c⟩:=by
 have e:CY p f c=(4294967295-(p+256*f+65536*c+2768240640))*4294967296+(p+256*f+65536*c+2768240640):=rfl;have a1:CY p f c%4294967296=p+256*f+65536*c+2768240640:=Ω
 have a2:CY p f c/4294967296=4294967295-(p+256*f+65536*c+2768240640):=Ω
 have a3:CY p f c%256=p:=Ω
 have a4:CY p f c/256%256=f:=Ω
 have a5:CY p f c/65536%256=c:=Ω
 have hok:F8 (CY p f c)=true:=by
  unfold F8;rw[a1,a2,a3,a4,a5];simp only[ζh,ζg]
  grind
 unfold tkE tkH
 simp_all
theorem XUd(h:AF v)(a:Int)(hx:x<18446744073709551616)(m:Nat)(hm:∀j:Nat,j<=m->v.ldE (a+j)=0)(b:Int):(mkV v a x m).ldV b=if b=a then x else if a<b/\b<=a+m then 0 else v.ldV b:=by
 induction m with
 | zero=>
  have h0:=hm 0 (ϑ _);rw[show a+((0:Nat):Int)=a by omega]at h0
  show (v.st a x).ldV b=_
  rw[h.st_ldV x h0]
  grind
 | succ m ih=>
  have ih:=ih (λj hj=>hm j Ω);have Y:=((DY.refl h).mkV a hx m).ok
  have hl:(mkV v a x m).ldE (a+1+m)=0:=by
   rw[QBF,show a+1+(m:Int)=a+((m+1:Nat):Int)by omega];exact hm (m+1) (ϑ _)
  show ((mkV v a x m).st (a+1+m) 0).ldV b=_
  rw[Y.st_ldV 0 hl,ih]
  grind
theorem VzI(h:∀j:Nat,j<=n->v.ldE (a+j)=0):mkE v a n=0:=by
 induction n with
 | zero=>
  have:=h 0 (ϑ _)
  rwa [show a+((0:Nat):Int)=a by omega]at this
 | succ n ih=>
  show (if mkE v a n≠0 then mkE v a n else v.ldE (a+1+n))=0
  rw[ξ (λhn=>hn (ih (λj hj=>h j Ω))),show a+1+(n:Int)=a+((n+1:Nat):Int)by omega];exact h (n+1) (ϑ _)
theorem YT(h:AF v){t p c:Nat}(ht:0<t)(hs:p+f+c<=255)(hl:∀j:Nat,j<=p+f+c->v.ldE ((t:Int)+j)=0):
  GY v t ⟨p,f,c⟩=0/\∀b:Int,(mkVm v t ⟨p,f,c⟩).ldV b=if b=t then CY p f c else if (t:Int)<b/\b<=t+((p+f+c:Nat):Int)then 0 else v.ldV b:=by
 have h0:GY v t ⟨p,f,c⟩=0:=by
  unfold GY;rw[ξ Ω,ξ (by grind [EG])];exact VzI hl
 refine⟨h0,λb=>?_⟩;unfold mkVm;rw[φ h0];exact XUd h t (YB hs) _ hl b
section
variable{x:ZxU}{v0:Vm}
end
def FN(l xs:List Nat):List Nat:=xs.foldl (λl x=>if x≠0/\¬x∈l then l++[x]else l) l
def FX(p:Nat->List Nat):Nat->List Nat->Nat->List Nat
 | 0,l,_=>l
 | f+1,l,i=>if i<l.length then FX p f (FN l (p (l.getD i 0))) (i+1)else l
theorem Xja(l:List Nat):FN l []=l:=rfl
theorem X9(l:List Nat)(x:Nat)(xs:List Nat):FN l (x :: xs)=FN (if x≠0/\¬x∈l then l++[x]else l) xs:=rfl
theorem KX:∀(xs l:List Nat) (y:Nat),y∈FN l xs↔y∈l\/(y∈xs/\y≠0)
 | [],l,y=>by simp[Xja]
 | x :: xs,l,y=>by
  rw[X9,KX xs]
  grind
theorem Q0:∀(xs l:List Nat),∃t,FN l xs=l++t
 | [],l=>⟨[],by simp[Xja]⟩
 | x :: xs,l=>by
  rw[X9];by_cases h:x≠0/\¬x∈l
  ·obtain⟨t,ht⟩:=Q0 xs (l++[x])
   simp_all
  ·obtain⟨t,ht⟩:=Q0 xs l
   grind
def OkL(l:List Nat):Prop:=l.Nodup/\¬0∈l
theorem OZ:∀(xs:List Nat) {l:List Nat},OkL l->OkL (FN l xs)
 | [],_,h=>h
 | x :: xs,l,h=>by
  rw[X9];refine OZ xs ?_;by_cases hx:x≠0/\¬x∈l
  ·rw[φ hx];refine⟨?_,?_⟩
   ·rw[ζE];exact⟨h.1,by simp,λa ha b hb e=>by simp_all⟩
   ·rw[ζe,ζO];rintro(h1|h1)
    ·exact h.2 h1
    omega
  grind
theorem QmW(h:i<l.length):l.getD i 0∈l:=by
 simp_all
theorem ZV(p:Nat->List Nat):∀(f:Nat) (l:List Nat) (i:Nat),∃t,FX p f l i=l++t
 | 0,l,_=>⟨[],by simp[FX]⟩
 | f+1,l,i=>by
  unfold FX
  split
  ·obtain⟨t,ht⟩:=Q0 (p (l.getD i 0)) l;obtain⟨t2,ht2⟩:=ZV p f (FN l (p (l.getD i 0))) (i+1)
   simp_all
  simp_all
theorem ZRH(p:Nat->List Nat):∀(f:Nat) (l:List Nat) (i:Nat),OkL l->OkL (FX p f l i)
 | 0,_,_,h=>h
 | f+1,l,i,h=>by
  unfold FX
  split
  ·exact ZRH p f _ _ (OZ _ h)
  ·exact h
def InL(N:Nat)(l:List Nat):Prop:=∀x∈l,1<=x/\x<=N
theorem InL.len(h:InL N l)(hn:OkL l):l.length<=N:=by
 have h1:l ⊆ (List.range (N+1)).tail:=λx hx=>by
  have:=h x hx
  grind
 have h2:=hn.1.length_le_of_subset h1
 simp_all
theorem Qg6{xs:List Nat}(h:InL N l)(hx:∀x∈xs,x<=N):InL N (FN l xs):=λy hy=>by
 rcases(KX _ _ _).1 hy with h1|⟨h1,h2⟩
 ·exact h y h1
 grind
def YkB(p:Nat->List Nat)(l:List Nat)(i:Nat):Prop:=∀j,j<i->∀y∈p (l.getD j 0),y≠0->y∈l
theorem Vsy{t:List Nat}(h:j<l.length):(l++t).getD j 0=l.getD j 0:=by
 grind
theorem Ybq{p:Nat->List Nat}{N:Nat}(hp:∀x,1<=x->x<=N->∀y∈p x,y<=N):∀(f:Nat) (l:List Nat) (i:Nat),OkL l->InL N l->YkB p l i->i<=l.length->N+1<=f+i->YkB p (FX p f l i) (FX p f l i).length/\InL N (FX p f l i)
 | 0,l,i,ho,hi,_,hil,hf=>by have:=hi.len ho;omega
 | f+1,l,i,ho,hi,hs,hil,hf=>by
  unfold FX
  split
  ·rename_i h;have hx:=hi _ (QmW h);obtain⟨t,ht⟩:=Q0 (p (l.getD i 0)) l;refine Ybq hp f _ (i+1) (OZ _ ho) (Qg6 hi (hp _ hx.1 hx.2)) (λj hj y hy h0=>?_) ?_ Ω
   ·rw[ht,Vsy Ω]at hy;rcases υ j i with Y|Y
    ·exact(KX _ _ _).2 (.inl (hs j Y y hy h0))
    grind [KX]
   grind
  grind
theorem Z7P{p:Nat->List Nat}{Q:Nat->Prop}(hp:∀x,Q x->∀y∈p x,y≠0->Q y):∀(f:Nat) (l:List Nat) (i:Nat),(∀x∈l,Q x)->∀x∈FX p f l i,Q x
 | 0,_,_,h=>h
 | f+1,l,i,h=>by
  unfold FX
  split
  ·rename_i hi;refine Z7P hp f _ (i+1) (λy hy=>?_)
   grind [KX,QmW]
  ·exact h
def G7(p:Nat->List Nat)(N:Nat)(rs:List Nat):List Nat:=FX p (N+1) (FN [] rs) 0
theorem YVO:OkL []:=⟨ξi,by simp⟩
theorem YE(p:Nat->List Nat)(N:Nat)(rs:List Nat):OkL (G7 p N rs):=ZRH _ _ _ _ (OZ _ YVO)
theorem JOE{rs:List Nat}(hp:∀x,1<=x->x<=N->∀y∈p x,y<=N)(hr:∀x∈rs,x<=N):InL N (G7 p N rs)/\(∀x∈rs,x≠0->x∈G7 p N rs)/\∀x∈G7 p N rs,∀y∈p x,y≠0->y∈G7 p N rs:=by
 have Y:InL N (FN [] rs):=Qg6 (λx hx=>absurd hx (by simp)) hr;obtain⟨h1,h2⟩:=Ybq hp (N+1) (FN [] rs) 0 (OZ _ YVO) Y (λj hj=>absurd hj (ζA _)) (ζf _) Ω;refine⟨h2,λx hx h0=>?_,λx hx y hy h0=>?_⟩
 ·obtain⟨t,ht⟩:=ZV p (N+1) (FN [] rs) 0;unfold G7
  grind [ζk,KX]
 ·obtain⟨j,hj,e⟩:=ψd.1 hx;refine h1 j hj y ?_ h0;have e2:(G7 p N rs).getD j 0=x:=by simp_all
  unfold G7 at e2
  simp_all
theorem VPa{rs:List Nat}(hp:∀x,Q x->∀y∈p x,y≠0->Q y)(hr:∀x∈rs,x≠0->Q x):∀x∈G7 p N rs,Q x:=by
 refine Z7P hp _ _ _ (λx hx=>?_)
 grind [KX]
structure GOb where
 p:Nat
 f:Nat
 k:Nat
 w:List Nat
structure Gph where
 L:List GOb
 S:List Nat
variable{g g':Gph}
def GOb.hdr(o:GOb):Hdr:=⟨o.p,o.f,o.k⟩
def GOb.size(o:GOb):Nat:=1+o.p+o.f+o.k
def Gph.ob(g:Gph)(x:Nat):GOb:=if x=0 then ⟨0,0,0,[]⟩else g.L.getD (x-1) ⟨0,0,0,[]⟩
def Gph.pts(g:Gph)(x:Nat):List Nat:=(g.ob x).w.take (g.ob x).p
structure Gph.Ok(g:Gph):Prop where
 len:∀o∈g.L,o.w.length=o.p+o.f+o.k/\o.p+o.f+o.k<=255
 pt:∀o∈g.L,∀y∈o.w.take o.p,y<=g.L.length
 st:∀y∈g.S,y<=g.L.length
def Gph.Rd(g:Gph)(x:Nat):Prop:=∀P:Nat->Prop,(∀r∈g.S,r≠0->P r)->(∀a,P a->∀b∈g.pts a,b≠0->P b)->P x
theorem Gph.Rd.root(h:r∈g.S)(h0:r≠0):g.Rd r:=λ_ h1 _=>h1 r h h0
theorem Gph.Rd.step{a:Nat}(h:g.Rd a)(hb:b∈g.pts a)(h0:b≠0):g.Rd b:=λP h1 h2=>h2 a (h P h1 h2) b hb h0
theorem Gph.ob_mem(h1:1<=x)(h2:x<=g.L.length):g.ob x∈g.L:=by
 unfold Gph.ob
 grind
theorem Gph.Ok.pts_le(h:g.Ok)(hy:y∈g.pts x):y<=g.L.length:=by
 unfold Gph.pts at hy;rcases υ 0 x with hx|hx
 ·rcases υ g.L.length x with hl|hl
  ·have e:g.ob x=⟨0,0,0,[]⟩:=by
    unfold Gph.ob
    grind
   simp_all
  ·exact h.pt _ (Gph.ob_mem hx hl) y hy
 ·have e:g.ob x=⟨0,0,0,[]⟩:=by unfold Gph.ob;simp_all
  simp_all
theorem Gph.Ok.rd(h:g.Ok)(hx:g.Rd x):1<=x/\x<=g.L.length:=
 hx (λx=>1<=x/\x<=g.L.length) (λr hr h0=>⟨by omega,h.st r hr⟩) (λ_ _ b hb h0=>⟨by omega,h.pts_le hb⟩)
def Gph.all(g:Gph):List Nat:=G7 g.pts g.L.length g.S
theorem Gph.Ok.mem_all(h:g.Ok):x∈g.all↔g.Rd x:=by
 obtain⟨h1,h2,h3⟩:=JOE (p:=g.pts) (N:=g.L.length) (rs:=g.S) (λx _ _ y hy=>h.pts_le hy) h.st;constructor
 ·intro hx;exact VPa (Q:=g.Rd) (λa ha b hb h0=>ha.step hb h0) (λr hr h0=>Gph.Rd.root hr h0) x hx
 ·intro hx;exact hx (λx=>x∈g.all) h2 h3
structure Img(v:Vm)(g:Gph)(F:Nat->Nat)(lo hi:Nat):Prop where
 z:F 0=0
 rd:∀x,g.Rd x->v.rdE (F x)=0
 hd:∀x,g.Rd x->v.rdH (F x)=(g.ob x).hdr
 pt:∀x,g.Rd x->∀i,i<(g.ob x).p->v.ptE (F x) i=0/\v.ptV (F x) i=F ((g.ob x).w.getD i 0)
 wd:∀x,g.Rd x->∀i,(g.ob x).p<=i->i<(g.ob x).p+(g.ob x).f+(g.ob x).k->v.ldE (F x+1+i:Nat)=0/\v.ldV (F x+1+i:Nat)=(g.ob x).w.getD i 0
 lo:∀x,g.Rd x->lo<=F x/\F x+(g.ob x).size<=hi
 dj:∀x y,g.Rd x->g.Rd y->x=y\/F x+(g.ob x).size<=F y\/F y+(g.ob y).size<=F x
theorem Img.pos(h:Img v g F lo hi)(hx:g.Rd x):0<F x:=by
 have:=(DC (h.rd x hx)).1;omega
theorem Img.inj(h:Img v g F lo hi)(hx:g.Rd x)(hy:g.Rd y)(e:F x=F y):x=y:=by
 have h1:=h.dj x y hx hy;have h2:1<=(g.ob x).size:=by unfold GOb.size;omega
 have h3:1<=(g.ob y).size:=by unfold GOb.size;omega
 omega
theorem P9(ho:g.Ok)(hx:g.Rd x)(hi:i<(g.ob x).p):(g.ob x).w.getD i 0∈g.pts x:=by
 obtain⟨h1,h2⟩:=ho.rd hx;have hl:=(ho.len _ (Gph.ob_mem h1 h2)).1;rw[ω,η Ω,Option.getD_some];exact List.mem_take_iff_getElem.2 ⟨i,by omega,rfl⟩
theorem Img.rch(h:Img v g F lo hi)(ho:g.Ok)(ha:Rch v (g.S.map λx=>(F x:Int)) a):∃x,g.Rd x/\a=(F x:Nat):=by
 refine ha (λa=>∃x,g.Rd x/\a=(F x:Nat)) (λr hr h0=>?_) ?_
 ·obtain⟨x,hx,rfl⟩:=ζK.1 hr;refine⟨x,Gph.Rd.root hx (λe=>h0 ?_),rfl⟩;rw[e,h.z];rfl
 ·rintro a b ⟨x,hx,rfl⟩ ⟨-,i,hi,-,h1,rfl⟩;rw[h.hd x hx]at hi;have hi:(i:Int)<((g.ob x).p:Int):=hi;have hi:i<(g.ob x).p:=Ω
  have hp:=h.pt x hx i hi;rw[hp.2]at h1⊢;exact⟨_,hx.step (P9 ho hx hi) (λe=>h1 (by rw[e,h.z])),rfl⟩
theorem Img.rch_of(h:Img v g F lo hi)(hx:g.Rd x):Rch v (g.S.map λx=>(F x:Int)) (F x:Nat):=by
 have Z:g.Rd x/\Rch v (g.S.map λx=>(F x:Int)) (F x:Nat):=by
  refine hx (λx=>g.Rd x/\Rch v (g.S.map λx=>(F x:Int)) (F x:Nat)) (λr hr h0=>?_) ?_
  ·have:=Gph.Rd.root hr h0;have hp:=h.pos this;exact⟨this,Rch.root (ζK.2 ⟨r,hr,rfl⟩) Ω⟩
  ·rintro a ⟨ha,hr⟩ b hb h0;have Y:=ha.step hb h0;refine⟨Y,hr.step ⟨h.rd a ha,?_⟩⟩;obtain⟨i,hi,e⟩:=List.mem_take_iff_getElem.1 hb;have J:i<(g.ob a).p:=Ω
   have hw:(g.ob a).w.getD i 0=b:=by rw[ω,η Ω,Option.getD_some,e]
   obtain⟨p1,p2⟩:=h.pt a ha i J;rw[hw]at p2;refine⟨i,?_,p1,?_,?_⟩
   ·rw[h.hd a ha]
    show (i:Int)<((g.ob a).p:Int)
    omega
   ·have:=h.pos Y;omega
   ·rw[p2]
 exact Z.2
theorem Img.osz(h:Img v g F lo hi)(ho:g.Ok)(hx:g.Rd x):v.osz (F x)=(g.ob x).size:=by
 obtain⟨h1,h2⟩:=ho.rd hx;have hl:=(ho.len _ (Gph.ob_mem h1 h2)).2;unfold Vm.osz;rw[h.hd x hx];unfold CF C1 GOb.hdr inS GOb.size
 grind
theorem Img.sound(h:Img v g F lo hi)(ho:g.Ok):DP v (g.S.map λx=>(F x:Int)) hi:=by
 refine⟨λa ha=>?_,λa ha i hi=>?_,λa ha=>?_,λa b ha hb=>?_⟩
 ·obtain⟨x,hx,rfl⟩:=h.rch ho ha;exact h.rd x hx
 ·obtain⟨x,hx,rfl⟩:=h.rch ho ha;rw[h.hd x hx]at hi;have hi:(i:Int)<((g.ob x).p:Int):=hi;exact(h.pt x hx i Ω).1
 ·obtain⟨x,hx,rfl⟩:=h.rch ho ha;rw[h.osz ho hx];have:=(h.lo x hx).2;omega
 ·obtain⟨x,hx,rfl⟩:=h.rch ho ha;obtain⟨y,hy,rfl⟩:=h.rch ho hb;rw[h.osz ho hx,h.osz ho hy];rcases h.dj x y hx hy with e|e|e
  ·simp_all
  ·omega
  omega
theorem NW{i:Int}(h:v.ptE a i=0):v.rdE a=0/\BO (v.rdH a) i=1/\v.ldE (a+1+i)=0/\v.ldV (a+1+i)<=2147483647/\v.ptV a i=v.ldV (a+1+i):=by
 have hv:v.ptV a i=v.gtV a i 1:=by unfold Vm.ptV;rw[φ h]
 unfold Vm.ptE at h;by_cases h1:v.gtE a i 1=0
 ·have h2:v.gtV a i 1<=2147483647:=by
   omega
  unfold Vm.gtE at h1;by_cases h3:v.plE a i 1=0
  ·rw[ξ (by simpa using h3)]at h1;have h4:v.gtV a i 1=v.ldV (a+1+i):=by unfold Vm.gtV;rw[ξ (by simpa using h3)]
   unfold Vm.plE at h3;omega
  omega
 omega
theorem OR{i:Int}(h1:v.rdE a=0)(h2:BO (v.rdH a) i=1)(h3:v.ldE (a+1+i)=0)(h4:v.ldV (a+1+i)<=2147483647):v.ptE a i=0/\v.ptV a i=v.ldV (a+1+i):=by
 have e1:v.plE a i 1=0:=by unfold Vm.plE;omega
 have e2:v.gtE a i 1=0:=by unfold Vm.gtE;omega
 have e3:v.gtV a i 1=v.ldV (a+1+i):=by unfold Vm.gtV;simp_all
 have e4:v.ptE a i=0:=by unfold Vm.ptE;omega
 exact⟨e4,by unfold Vm.ptV;simp_all⟩
theorem SB(h:v.rdE a=0):0<a/\v.ldE a=0/\tkE (v.ldV a)=0/\v.rdH a=tkH (v.ldV a):=by
 unfold Vm.rdE at h;by_cases h0:a=0
 ·omega
 ·rw[ξ h0]at h;by_cases h1:a<0
  ·omega
  ·rw[ξ h1]at h;by_cases h2:v.ldE a=0
   ·rw[φ h2]at h;exact⟨by omega,h2,h,by unfold Vm.rdH;grind⟩
   omega
theorem QM(h0:0<a)(h1:v.ldE a=0)(h2:tkE (v.ldV a)=0):v.rdE a=0/\v.rdH a=tkH (v.ldV a):=by
 unfold Vm.rdE Vm.rdH
 grind
structure MX(v v':Vm)(Q:Int->Prop)(T:Int->Int)(lo hi:Nat):Prop where
 z:T 0=0
 wd:∀a,Q a->∀m:Nat,(m:Int)<v.osz a->v'.ldE (T a+m)=0/\(v'.ldV (T a+m):Int)=if 1<=m/\(m:Int)<=(v.rdH a).p then T (v.ldV (a+m))else v.ldV (a+m)
 lo:∀a,Q a->(lo:Int)<=T a/\T a+v.osz a<=hi
 dj:∀a b,Q a->Q b->a=b\/T a+v.osz a<=T b\/T b+v.osz b<=T a
theorem Img.moved{lo' hi':Nat}{T:Int->Int}(h:Img v g F lo hi)(ho:g.Ok)(hm:MX v v' (Rch v (g.S.map λx=>(F x:Int))) T lo' hi')(h1:1<=lo')(h2:hi'<=2147483647):Img v' g (λx=>(T (F x)).toNat) lo' hi':=by
 have hr:=λx (hx:g.Rd x)=>h.rch_of hx
 have ht:∀x,g.Rd x->(((T (F x)).toNat:Nat):Int)=T (F x):=λx hx=>by
  have:=(hm.lo _ (hr x hx)).1;omega
 have hT:∀x,g.Rd x->0<=T (F x)/\T (F x)<=2147483647:=λx hx=>by
  have h3:=hm.lo _ (hr x hx);rw[h.osz ho hx]at h3;omega
 have hs:∀x,g.Rd x->v'.rdE (T (F x))=0/\v'.rdH (T (F x))=v.rdH (F x):=λx hx=>by
  obtain⟨a1,a2,a3,a4⟩:=SB (h.rd x hx);have h3:=hm.wd _ (hr x hx) 0 (by rw[h.osz ho hx];unfold GOb.size;omega);rw[ξ Ω]at h3;simp only[Int.natCast_zero,Int.add_zero]at h3;have h4:=(hm.lo _ (hr x hx)).1;have e:v'.ldV (T (F x))=v.ldV (F x):=Ω
  have:=QM (v:=v') (a:=T (F x)) Ω h3.1 (by rw[e];exact a3);rw[e]at this;exact⟨this.1,this.2.trans a4.symm⟩
 refine⟨by rw[h.z];show (T 0).toNat=0;rw[hm.z];rfl,λx hx=>?_,λx hx=>?_,λx hx i hi=>?_,λx hx i h3 h4=>?_,λx hx=>?_,λx y hx hy=>?_⟩
 ·show v'.rdE (((T (F x)).toNat:Nat):Int)=0
  rw[ht x hx];exact(hs x hx).1
 ·show v'.rdH (((T (F x)).toNat:Nat):Int)=_
  rw[ht x hx,(hs x hx).2];exact h.hd x hx
 ·show v'.ptE (((T (F x)).toNat:Nat):Int) i=0/\v'.ptV (((T (F x)).toNat:Nat):Int) i=(T (F ((g.ob x).w.getD i 0))).toNat
  rw[ht x hx];obtain⟨p1,p2⟩:=h.pt x hx i hi;obtain⟨q1,q2,q3,q4,q5⟩:=NW p1;rw[p2]at q5;have hw:=hm.wd _ (hr x hx) (1+i) (by rw[h.osz ho hx];unfold GOb.size;omega)
  have hp:(((1+i:Nat):Int))<=(v.rdH (F x)).p:=by
   rw[h.hd x hx]
   show (((1+i:Nat):Int))<=((g.ob x).p:Int)
   omega
  rw[φ ⟨by omega,hp⟩,show (F x:Int)+((1+i:Nat):Int)=(F x:Int)+1+i by omega,<-q5,show T (F x)+((1+i:Nat):Int)=T (F x)+1+i by omega]at hw
  have hb:0<=T (F ((g.ob x).w.getD i 0))/\T (F ((g.ob x).w.getD i 0))<=2147483647:=by
   by_cases e:(g.ob x).w.getD i 0=0
   ·rw[e,h.z];show 0<=T 0/\T 0<=_;rw[hm.z];omega
   ·exact hT _ (hx.step (P9 ho hx hi) e)
  obtain⟨r1,r2⟩:=OR (v:=v') (a:=T (F x)) (i:=i) (hs x hx).1 (by rw[(hs x hx).2];exact q2) hw.1 Ω;exact⟨r1,by omega⟩
 ·obtain⟨w1,w2⟩:=h.wd x hx i h3 h4;have hw:=hm.wd _ (hr x hx) (1+i) (by rw[h.osz ho hx];unfold GOb.size;omega)
  have hp:¬(((1+i:Nat):Int))<=(v.rdH (F x)).p:=by
   rw[h.hd x hx]
   show ¬(((1+i:Nat):Int))<=((g.ob x).p:Int)
   omega
  rw[ξ (λhh=>hp hh.2),show (F x:Int)+((1+i:Nat):Int)=((F x+1+i:Nat):Int)by omega,w2]at hw;have e:(((T (F x)).toNat+1+i:Nat):Int)=T (F x)+((1+i:Nat):Int):=by have:=ht x hx;omega
  rw[e];exact⟨hw.1,by omega⟩
 ·have h3:=hm.lo _ (hr x hx);rw[h.osz ho hx]at h3;omega
 ·have h3:=hm.dj _ _ (hr x hx) (hr y hy);rw[h.osz ho hx,h.osz ho hy]at h3;have e1:=ht x hx;have e2:=ht y hy;rcases h3 with h3|h3|h3
  ·exact .inl (h.inj hx hy Ω)
  ·exact .inr (.inl Ω)
  ·exact .inr (.inr Ω)
theorem JW8{v2:Vm}{kq:Nat}(hv:AF v)(hM:BM v rs n L)(hf:FR v L)(hD:UR v rs c L v1 v2 k kq)
  (hu:∀a:Nat,c.to<=a->a<c.to+sizes L->¬(c.fr/v.pl.pg<=a/v.pl.pg/\a/v.pl.pg<c.fr/v.pl.pg+kq)):
  MX v (umN v2 (c.fr/v.pl.pg) kq) (Rch v rs) (BV v1 (AT v1 rs k) c.to) c.to (c.to+sizes L):=by
 have hw:=hD.gr.wider hv;have hS:=hM.sound;have Y:=hD.st;obtain⟨U,D⟩:=hD.cx.done hD.ke;have Xg:=hD.ke;have Xa:=hD.cx.map;have htop:=hD.cx.top;obtain⟨O,hO⟩:∃O,O=AT v1 rs k:=⟨_,rfl⟩;rw[<-hO]at Y U D Xg⊢;have J:∀a,Rch v rs a->∃(j:Nat) (hj:j<O.length),O[j]=a:=λa ha=>ζo (U a ((hw.rch hS a).2 ha));have V:∀a,Rch v rs a->v1.rdH a=v.rdH a:=λa ha=>(hw.rd (hS.rd a ha)).2;have Z:∀a,Rch v rs a->v1.osz a=v.osz a:=λa ha=>by unfold Vm.osz;rw[V a ha]
 have h0:(0:Int)∉O:=λh=>by
  have:=(DC (hD.cx.mks.sound.rd _ (Y.rch 0 h))).1;omega
 have Xe:v2.pl.pg=v.pl.pg:=Y.cp.sm.pg.trans hD.gr.pg;have hn2:v2.n=v1.n:=Y.cp.sm.n;refine⟨O8 v1 _ h0,λa ha m hm=>?_,λa ha=>?_,λa b ha hb=>?_⟩
 ·obtain⟨j,hj,rfl⟩:=J a ha;have N:(m:Int)<v1.osz O[j]:=by rw[Z _ ha];exact hm
  have hpl:=place_lt v1 hj N;have hs0:=GF v1 (O.take j);obtain⟨i,hi⟩:∃i:Nat,(i:Int)=AJ v1 (O.take j)+m:=⟨(AJ v1 (O.take j)+m).toNat,by omega⟩;have hil:i<sizes L:=Ω
  rw[WT v1 Y.nd _ hj];have e:(c.to:Int)+AJ v1 (O.take j)+m=((c.to+i:Nat):Int):=Ω
  have Xc:¬(c.fr/v.pl.pg<=(c.to+i)/v2.pl.pg/\(c.to+i)/v2.pl.pg<c.fr/v.pl.pg+kq):=by
   rw[Xe];exact hu (c.to+i) Ω Ω
  have I:c.to+i<v2.n:=Ω
  rw[e,WD Y.cp.ok _ _ I,VIn Y.cp.ok _ _ I Xc,ξ Xc,Y.cp.sm.ldE];refine⟨Xa _ Ω Ω,?_⟩;obtain⟨o,ho,Xb⟩:=hM.all _ ha;have Xh:=(hM.mkd.ats o ho).2.2
  have Xf:v.ldE (O[j]+m)=0:=by
   rw[<-Xb];refine hf o ho m ?_;rw[Xb]at Xh;omega
  have E:=(hw.le _ Xf).2;have Xd:O.getD j 0=O[j]:=by rw[ω,η hj];rfl
  rw[<-e];by_cases hT:1<=m/\(m:Int)<=(v.rdH O[j]).p
  ·rw[φ hT];have:=Y.cp.trn j hj m N ⟨hT.1,.inl ⟨by omega,by rw[Xd,V _ ha];exact hT.2⟩⟩;rw[this,E]
  ·rw[ξ hT,Y.cp.raw j hj m N (λht=>hT (by
    obtain⟨t1,t2|t2⟩:=ht
    ·refine⟨t1,?_⟩;have:=t2.2;rw[Xd,V _ ha]at this;exact this
    ·omega)),E]
 ·obtain⟨j,hj,rfl⟩:=J a ha;have:=VJ v1 (c.to:Int) (μ hj);rw[Z _ ha]at this;omega
 ·obtain⟨j,hj,rfl⟩:=J a ha;obtain⟨i,hi,rfl⟩:=J b hb;rw[WT v1 Y.nd _ hj,WT v1 Y.nd _ hi];have s1:=LH v1 hj;have s2:=LH v1 hi;rw[Z _ ha]at s1;rw[Z _ hb]at s2;rcases ζZ j i with h|h|h
  ·have:=RS v1 O (show j+1<=i from h);exact .inr (.inl Ω)
  ·subst h;exact .inl rfl
  ·have:=RS v1 O (show i+1<=j from h);exact .inr (.inr Ω)
theorem BH.put{P:Program}{k e t:TypeId}{f:Int->Option Value}(h:BH P k w b n f)(K:Maps.Keyed P k)(ht:P.underlying t=some (.map k e))(hk:P.underlying k=some (.int .i64))(hn:n<maxLen)(key:Int)(val:Value)(hw:(Lit.int .i64 key).wf=true):
  ∃w',(Instr.mapUpdate t (.map (some b)) (.int .i64 key) val).run P w=.ok () w'/\BH P k w' b (n+1) (λy=>if y=key then some val else f y)/\AB (λi=>i=b) w w':=by
 obtain⟨D,hD,hf⟩:=h;have Y:=Maps.keyOf_int_mk (P:=P) hk hw;obtain⟨w',J,h1,h2⟩:=hD.update K ht hn Y (val:=val) (d:=.held val) (ps:=[]) rfl;refine⟨w',J,⟨_,h1,λy hy=>?_⟩,DM h2 _ (λi hi _=>by cases hi;rfl)⟩;by_cases e:y=key
 ·subst e;dsimp only;rw[φ rfl];refine⟨Maps.has_put_same hD.isMap (K.key Y) _,λv hv z=>?_⟩;cases hv;exact Maps.atKey_put_same hD.isMap (K.key Y) _ _
 ·dsimp only;rw[ξ e];have Z:(Lit.int .i64 y)≠.int .i64 key:=λh=>e (by injection h);exact⟨(Maps.has_put_other Z _).trans (hf y hy).1,λv hv z=>(Maps.atKey_put_other Z _ _).trans ((hf y hy).2 v hv z)⟩
theorem Gph.Rd.of(hs:∀r∈g'.S,r≠0->g.Rd r)(hp:∀x,g.Rd x->∀b∈g'.pts x,b≠0->g.Rd b)(h:g'.Rd x):g.Rd x:=h g.Rd hs hp
theorem Img.sub(h:Img v g F lo hi)(hr:∀x,g'.Rd x->g.Rd x)(ho:∀x,g'.Rd x->g'.ob x=g.ob x):Img v g' F lo hi:=by
 refine⟨h.z,λx hx=>h.rd x (hr x hx),λx hx=>by rw[ho x hx];exact h.hd x (hr x hx),λx hx i hi=>?_,λx hx i h1 h2=>?_,λx hx=>by rw[ho x hx];exact h.lo x (hr x hx),λx y hx hy=>by rw[ho x hx,ho y hy];exact h.dj x y (hr x hx) (hr y hy)⟩
 ·rw[ho x hx]at hi⊢;exact h.pt x (hr x hx) i hi
 ·rw[ho x hx]at h1 h2⊢;exact h.wd x (hr x hx) i h1 h2
theorem Img.slot(h:Img v g F lo hi)(hy:y=0\/g.Rd y):Img v ⟨g.L,g.S.set i y⟩ F lo hi:=by
 have hr:∀x,(⟨g.L,g.S.set i y⟩:Gph).Rd x->g.Rd x:=λx hx=>Gph.Rd.of (g:=g) (g':=⟨g.L,g.S.set i y⟩) (λr hr h0=>by
  rcases ζV hr with h1|h1
  ·exact Gph.Rd.root h1 h0
  simp_all) (λx hx b hb h0=>hx.step hb h0) hx
 exact h.sub hr (λx _=>rfl)
theorem Gph.Ok.slot(h:g.Ok)(hy:y<=g.L.length):(⟨g.L,g.S.set i y⟩:Gph).Ok:=⟨h.len,h.pt,λz hz=>by
 rcases ζV hz with h1|h1
 ·exact h.st z h1
 simp_all⟩
theorem Img.mem(h:Img v g F lo hi)(he:∀a:Nat,lo<=a->a<hi->v.ldE a=0->v'.ldE a=0/\v'.ldV a=v.ldV a):Img v' g F lo hi:=by
 have Y:∀x,g.Rd x->∀m,m<(g.ob x).size->lo<=F x+m/\F x+m<hi:=λx hx m hm=>by
  have:=h.lo x hx;omega
 have hs:∀x,g.Rd x->v'.rdE (F x)=0/\v'.rdH (F x)=v.rdH (F x):=λx hx=>by
  obtain⟨a1,a2,a3,a4⟩:=SB (h.rd x hx);obtain⟨b1,b2⟩:=Y x hx 0 (by unfold GOb.size;omega);obtain⟨e1,e2⟩:=he (F x) Ω Ω a2;have:=QM (v:=v') a1 e1 (by rw[e2];exact a3);rw[e2]at this;exact⟨this.1,this.2.trans a4.symm⟩
 refine⟨h.z,λx hx=>(hs x hx).1,λx hx=>(hs x hx).2.trans (h.hd x hx),λx hx i hi=>?_,λx hx i h1 h2=>?_,h.lo,h.dj⟩
 ·obtain⟨p1,p2⟩:=h.pt x hx i hi;obtain⟨q1,q2,q3,q4,q5⟩:=NW p1;obtain⟨b1,b2⟩:=Y x hx (1+i) (by unfold GOb.size;omega);have e:(F x:Int)+1+(i:Int)=((F x+(1+i):Nat):Int):=Ω
  rw[e]at q3 q4 q5;obtain⟨e1,e2⟩:=he _ b1 b2 q3;have:=OR (v:=v') (a:=(F x:Int)) (i:=i) (hs x hx).1 (by rw[(hs x hx).2];exact q2) (by rw[e];exact e1) (by rw[e,e2];exact q4);exact⟨this.1,by rw[this.2,e,e2,<-q5];exact p2⟩
 ·obtain⟨w1,w2⟩:=h.wd x hx i h1 h2;obtain⟨b1,b2⟩:=Y x hx (1+i) (by unfold GOb.size;omega);rw[show F x+1+i=F x+(1+i)by omega]at w1 w2⊢;obtain⟨e1,e2⟩:=he _ b1 b2 w1;exact⟨e1,by rw[e2];exact w2⟩
end Go.Proofs.YtbdimhlaaoadgaaGreatDoor
