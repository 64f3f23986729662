/- Part 14 of what ListNobody leans on: my own lemmas, merged by shake.py. -/
import Derived.Test.YteihjlcmjecmfaaGreatDoorListNobodyM
namespace Go.Proofs.YteihjlcmjecmfaaGreatDoor
open _root_.Go.Proofs.Tryz
set_option maxHeartbeats 6400000
set_option maxRecDepth 100000
section
open Go.RowKit Go.Shelf Word
section
variable {w w' w1 w2:World} {c:HCf} {g g':Gph} {s:HSt} {n:Nat}
def J77(w:World)(c:HCf)(s:HSt)(g':Gph)(w':World):Prop:=∃s',Xfw w c s g' s' w'
theorem HIn.getSl(h:HIn w c g s)(a:Int):∃y,Calls prog 55 #[.pointer (some ⟨s.A.r,0,none⟩),.int .i64 a] w λe w'=>e=.returned (.tuple #[.int .i64 y,.int .i64 (if g.sl a then 0 else 17)])/\Gr w w':=by
 cases hs:g.sl a with
 | false=>exact⟨0,VMw h.com.rt (by rw[YGy,hs];decide)⟩
 | true=>
  obtain⟨i,rfl,h1,h2⟩:=XdH hs;exact⟨_,Jwg h.com.rt (i:=i) (by rw[s.len];exact h1)⟩
theorem J6F(h:HIn w c g s)(hn:s.o=none↔s.lf=0)(a:Int)(x:Hdr):Calls prog 21 #[.pointer (some ⟨s.A.hp,0,none⟩),.int .i64 a,X79 x] w λe w'=>e=.returned (.int .i64 (g.alE c.wd a x))/\J77 w c s (g.alG c.wd a x) w':=by
 have hc:=h.cut;have Xm:=(Gr.refl w).alloc (.cells #[.int .i64 x.p,.int .i64 x.f,.int .i64 x.k] 63);have HN:=hid (XuX (hc.gr Xm));have H0:Hid (∀W,Gr w W->J77 w c s g W):=⟨λW gg=>⟨s,Xfw.gr (Xfw.refl h hn) gg⟩⟩;have G:=hid (Rec.new w 63 [.int .i64 x.p,.int .i64 x.f,.int .i64 x.k]);have Y:=hid Xm;have HC:=hid (λ(W:World) (gg:Gr w W)=>(hc.com.gr gg).row);have Yi:(s.cut w).A=s.A:=rfl;have N:=hid (λ(W:World) (gg:Gr w W)=>(hc.gr gg).getSl a);have L:=hid (λ(W:World) (gg:Gr w W) (m:Nat) (h1:1<=m) (h2:m<=256)=>XLK (hc.gr gg) hn h1 h2)
 have Yb:¬(s.cut w).S w.heap.size:=by
  obtain⟨l1,l2,l3,l4,l5⟩:=h.com.lt;rintro(e|e|e|e|e)
  ·exact ζN _ e.2
  ·exact absurd e (by show w.heap.size≠s.A.hp;omega)
  ·exact absurd e (by show w.heap.size≠s.A.g;omega)
  ·exact absurd e (by show w.heap.size≠s.A.r;omega)
  ·exact absurd e (by show w.heap.size≠s.A.rn;omega)
 have Xx:=hid Yb;have E:=hid (λ(W:World)=>Jld x W);have Xe:=hid (λ(W:World)=>ZUg x W);have cl:=h.com.row.lt;obtain⟨ap,hp⟩:∃ap,ap=s.A.hp:=⟨_,rfl⟩;have HP:=hid hp;rw[Yi]at HN HC L N;rw[<-hp]at HN HC L cl⊢;have Xa:Hid (∀{W W':World} {g':Gph} {s':HSt},Gr w W->Xfw W c (s.cut w) g' s' W'->J77 w c s g' W'):=⟨λgg hr=>⟨_,Xfw.cutGr gg hr⟩⟩;have z0:=(G.o).cell (j:=0) rfl;have z1:=(G.o).cell (j:=1) rfl;have z2:=(G.o).cell (j:=2) rfl;unfold X79 at E Xe⊢;clear h hn hc Xm Yi Yb hp;by_cases Z:g.sl a=true
 ·by_cases he:JQC x=0
  ·obtain⟨np,nf,nk,rfl,hs⟩:=XZe he;obtain⟨n,Xg⟩:∃n,n=1+np+nf+nk:=⟨_,rfl⟩
   have hN:Z3o ⟨np,nf,nk⟩=(n:Int):=by
    unfold Z3o;rw[μ he,Xg]
    show 1+(np:Int)+nf+nk=_
    omega
   have Xh:g.alE c.wd a ⟨np,nf,nk⟩=if (c.wd:Int)<g.words+(n:Int)then 21 else 0:=by unfold Gph.alE;rw[μ Z,ϑ (λhh=>hh he),hN]
   rw[he]at E;rw[hN]at Xe;have Yr:=hid Z;have Yc:=hid (ν hs Xg);simp only[Z,if_true]at N;by_cases Xi:c.wd<g.words+n
   ·have HE:Hid (g.alE c.wd a ⟨np,nf,nk⟩=21/\g.alG c.wd a ⟨np,nf,nk⟩=g):=⟨by
     have e:g.alE c.wd a ⟨np,nf,nk⟩=21:=by rw[Xh,μ Ω]
     exact⟨e,by unfold Gph.alG;rw[e];rfl⟩⟩
    have Xs:=hid (λ(W:World) (gg:Gr w W)=>(L.o W gg n Ω Ω).mono (R':=λe w'=>e=.returned (.tuple #[.int .i64 0,.int .i64 21])/\∃s',Xfw W c (s.cut w) g s' w') λe w' hh=>by
     rcases hh with⟨-,h2,h3⟩|⟨h1,-⟩
     ·exact⟨h2,h3⟩
     ·omega)
    clear Z he hs Xg hN Xh Xi L;go_enter func21,ntmps21;go_upto_region 3 with(go_at_call 50;refine JmE (HN.o) ?_);have y9:=(HC.o _ Y.o).cell (j:=9) rfl;have yl:=ZQf y9;obtain⟨y,J⟩:=N.o _ Y.o;have HG:=hid J;clear J;go_upto_region 6 with(go_at_call 55;refine(HG.o).mono ?_;rintro e w1 ⟨rfl,X⟩;have I:=hid (Y.o.trans X);have zb:=G.o.gr X;have Xl:=hid zb;have z0:=zb.cc 0;have z1:=zb.cc 1;have z2:=zb.cc 2;have zl:=zb.lt;clear X zb);go_upto_region 9 with(go_at_call 56;refine(E.o _).mono ?_;rintro e w2 ⟨rfl,U⟩;have Xd:=hid (I.o.trans U);have zb:=Xl.o.gr U;clear z0 z1 z2 zl;have Yg:=hid zb;have z0:=zb.cc 0;have z1:=zb.cc 1;have z2:=zb.cc 2;have zl:=zb.lt;clear U zb);go_wp2_with(first|(go_at_call 57;refine(Xs.o _ O.o).mono ?_;rintro e w4 ⟨rfl,s',hr⟩;have V:=hid hr;clear hr)|(go_at_call 58;refine(Xe.o _).mono ?_;rintro e w3 ⟨rfl,B⟩;have O:=hid (Xd.o.trans B);clear B));go_ret;exact⟨ZzN HE.o.1.symm,by rw[HE.o.2];exact Xa.o O.o V.o⟩
   ·have HE:Hid (g.alE c.wd a ⟨np,nf,nk⟩=0/\g.alG c.wd a ⟨np,nf,nk⟩=g.add a.toNat np nf nk):=⟨by
     have e:g.alE c.wd a ⟨np,nf,nk⟩=0:=by rw[Xh,ϑ Ω]
     exact⟨e,by unfold Gph.alG;rw[μ e];rfl⟩⟩
    have Xs:=hid (λ(W:World) (gg:Gr w W)=>(L.o W gg n Ω Ω).mono (R':=λe w'=>∃s' w1,e=.returned (.tuple #[.int .i64 s'.top,.int .i64 0])/\Xfw W c (s.cut w) g s' w1/\HAl w1 c g s' n w') λe w' hh=>by
     rcases hh with⟨h1,-⟩|⟨-,s',w1,h2,h3,h4⟩
     ·omega
     ·exact⟨s',w1,h3,h2,h4⟩)
    clear Z he hs Xg hN Xh Xi L;go_enter func21,ntmps21;go_upto_region 3 with(go_at_call 50;refine JmE (HN.o) ?_);have y9:=(HC.o _ Y.o).cell (j:=9) rfl;have yl:=ZQf y9;obtain⟨y,J⟩:=N.o _ Y.o;have HG:=hid J;clear J;go_upto_region 6 with(go_at_call 55;refine(HG.o).mono ?_;rintro e w1 ⟨rfl,X⟩;have I:=hid (Y.o.trans X);have zb:=G.o.gr X;have Xl:=hid zb;have z0:=zb.cc 0;have z1:=zb.cc 1;have z2:=zb.cc 2;have zl:=zb.lt;clear X zb);go_upto_region 9 with(go_at_call 56;refine(E.o _).mono ?_;rintro e w2 ⟨rfl,U⟩;have Xd:=hid (I.o.trans U);have zb:=Xl.o.gr U;clear z0 z1 z2 zl;have Yg:=hid zb;have z0:=zb.cc 0;have z1:=zb.cc 1;have z2:=zb.cc 2;have zl:=zb.lt;clear U zb);go_upto_region 12 with(first|(go_at_call 57;refine(Xs.o _ O.o).mono ?_;rintro e w5 ⟨s',w4,rfl,hr,ha⟩;have V:=hid hr;have Xo:=hid ha;clear hr ha)|(go_at_call 58;refine(Xe.o _).mono ?_;rintro e w3 ⟨rfl,B⟩;have O:=hid (Xd.o.trans B);have Xz:=hid (Yg.o.gr B);clear B));clear z0 z1 z2 zl y9 yl
    have Xt:Rec w5 w.heap.size 63 [.int .i64 np,.int .i64 nf,.int .i64 nk]:=by
     have hb3:=Xz.o.lt;have Yq:¬s'.S w.heap.size:=λhk=>(V.o.S _ hk).elim Xx.o (λe=>by omega);refine(Xz.o.touch V.o.t Xx.o).touch Xo.o.t (λhk=>Yq ?_);rcases hk with hk|hk
     ·exact .inr (.inr (.inr (.inr hk)))
     ·exact .inl hk
    have Xw:=hid Xt
    have Xj:Rec w5 ap 92 (hpL c s'.A s'.o s'.cyc s'.blk):=by
     have:=Xo.o.com.row;rw[V.o.hp]at this;rw[HP.o];exact this
    have Ye:=hid Xj;have Xf:=HAl.mkd V.o.i V.o.o Xo.o Yc.o.1 Yc.o.2 Yr.o;unfold spV X79 at Xf;have Yf:s'.A.hp=ap:=V.o.hp.trans HP.o.symm;rw[Yf]at Xf;have Yl:=hid Xf;clear Xt Xj Xf Yf;obtain⟨Sx,Xc,HS⟩:=ZJV.start λW'=>(Rec W' ap 92 (hpL c s'.A s'.o s'.cyc s'.blk)/\Rec W' w.heap.size 63 [.int .i64 np,.int .i64 nf,.int .i64 nk])
    have y8:∀p:ZJV Sx,p.w.cell? ⟨ap,8,none⟩=some (.pointer (some ⟨s'.A.q,0,none⟩)):=λp=>by have h:=ZJV.get Xc p;exact h.1.cell (j:=8) rfl
    have Yk:∀p:ZJV Sx,p.w.cell? ⟨w.heap.size,0,none⟩=some (.int .i64 np):=λp=>by have h:=ZJV.get Xc p;exact h.2.cell (j:=0) rfl
    have Yo:∀p:ZJV Sx,p.w.cell? ⟨w.heap.size,1,none⟩=some (.int .i64 nf):=λp=>by have h:=ZJV.get Xc p;exact h.2.cell (j:=1) rfl
    have Yj:∀p:ZJV Sx,p.w.cell? ⟨w.heap.size,2,none⟩=some (.int .i64 nk):=λp=>by have h:=ZJV.get Xc p;exact h.2.cell (j:=2) rfl
    have Xq:=HS.o _ (⟨Ye.o.gr (Gr.refl w5).drew,Xw.o.gr (Gr.refl w5).drew⟩);have Xu:Inhabited (ZJV Sx):=⟨⟨_,Xq⟩⟩;clear Xc;refine Vv2 Sx 7 [([0,1,2,3,4,5,6],7)] [] (by kernel_rfl) (by kernel_rfl) Xq ?_;refine XGW ?_
    try simp only[XZy,ζ,ξ]
    repeat(go_big_quiet_step (fail))
    refine θ ?_;go_wp2_with((go_at_call 59;refine(Yl.o _ (Gr.refl w5).drew).mono ?_;rintro e w6 ⟨rfl,Xv,-,Yh⟩;have Ys:=hid Xv;have Yp:=hid Yh;clear Xv Yh));refine⟨.inl trivial,?_⟩;refine Z9U ?_
    try simp only[XZy]
    repeat(go_big_quiet_step (fail))
    refine θ ?_;refine β ?_;clear y8 Yk Yo Yj Xq Xu;clear HS Sx;have y9:=Ys.o.cc 9;have yl:=ZQf y9;go_upto_region 14 with(go_at_call 60;refine(Yp.o).mono ?_;rintro e w7 ⟨rfl,s4,h4,-,-⟩;have M:=hid (V.o.trans h4);clear h4);clear y9 yl;have Xr:s4.A.hp=ap:=M.o.hp.trans HP.o.symm;have Ya:=hid Xr;have y0:=M.o.i.cc 0;have Xb:=M.o.i.cc 11;rw[Xr]at y0 Xb;have yl:=ZQf y0;clear Xr;by_cases hk:c.kd=1
    ·have hd:((c.kd:Int)==1)=true:=by rw[hk];rfl
     cases ho:s4.o with
     | some y'=>
      rw[ho]at Xb;simp only[ξV]at Xb;clear hk ho;go_wp2;go_ret;exact⟨ZzN HE.o.1.symm,by rw[HE.o.2];exact Xa.o O.o M.o⟩
     | none=>
      rw[ho]at Xb;simp only[ψl]at Xb;have Xp:=Y88 M.o.i;rw[Ya.o]at Xp;have Yn:=hid Xp;have Xy:=hid (λ(W:World) (gg:Gr w7 W)=>JG2 (M.o.i.gr gg) ho hk);rw[Ya.o]at Xy;clear hk ho Xp;go_upto_region 15 with(go_at_call 61;refine(Yn.o).mono ?_;rintro e w8 ⟨b,rfl,Yd⟩;have Xn:=hid Yd;clear Yd;cases b)
      ·go_ret;exact⟨ZzN HE.o.1.symm,by rw[HE.o.2];exact Xa.o O.o (M.o.gr Xn.o)⟩
      ·go_wp2_with(go_at_call 62;refine(Xy.o _ Xn.o).mono ?_;rintro e w9 ⟨rfl,s5,h5,-,-⟩;have Ym:=hid ((M.o.gr Xn.o).trans h5);clear h5);go_ret;exact⟨ZzN HE.o.1.symm,by rw[HE.o.2];exact Xa.o O.o Ym.o⟩
    ·have hd:((c.kd:Int)==1)=false:=by simp;omega
     clear hk;go_wp2;go_ret;exact⟨ZzN HE.o.1.symm,by rw[HE.o.2];exact Xa.o O.o M.o⟩
  ·have HE:Hid (g.alE c.wd a x=15/\g.alG c.wd a x=g):=⟨by
    have e:g.alE c.wd a x=15:=by unfold Gph.alE;rw[μ Z,μ he]
    exact⟨e,by unfold Gph.alG;rw[e];rfl⟩⟩
   have Xk:JQC x=15:=(Vhh x).resolve_left he;rw[Xk]at E;simp only[Z,if_true]at N;clear Z he Xk;go_enter func21,ntmps21;go_upto_region 3 with(go_at_call 50;refine JmE (HN.o) ?_);have y9:=(HC.o _ Y.o).cell (j:=9) rfl;have yl:=ZQf y9;obtain⟨y,J⟩:=N.o _ Y.o;have HG:=hid J;clear J;go_upto_region 6 with(go_at_call 55;refine(HG.o).mono ?_;rintro e w1 ⟨rfl,X⟩;have I:=hid (Y.o.trans X);have zb:=G.o.gr X;have z0:=zb.cc 0;have z1:=zb.cc 1;have z2:=zb.cc 2;have zl:=zb.lt;clear X zb);go_wp2_with(go_at_call 56;refine(E.o _).mono ?_;rintro e w2 ⟨rfl,U⟩;have Xd:=hid (I.o.trans U);clear U);go_ret;exact⟨ZzN HE.o.1.symm,by rw[HE.o.2];exact H0.o _ Xd.o⟩
 ·have HE:Hid (g.alE c.wd a x=17/\g.alG c.wd a x=g):=⟨by
   have e:g.alE c.wd a x=17:=by unfold Gph.alE;rw[ϑ Z]
   exact⟨e,by unfold Gph.alG;rw[e];rfl⟩⟩
  simp only[Z]at N;clear Z;go_enter func21,ntmps21;go_upto_region 3 with(go_at_call 50;refine JmE (HN.o) ?_);have y9:=(HC.o _ Y.o).cell (j:=9) rfl;have yl:=ZQf y9;obtain⟨y,J⟩:=N.o _ Y.o;have HG:=hid J;clear J;go_wp2_with(go_at_call 55;refine(HG.o).mono ?_;rintro e w1 ⟨rfl,X⟩;have I:=hid (Y.o.trans X);clear X);go_ret;exact⟨ZzN HE.o.1.symm,by rw[HE.o.2];exact H0.o _ I.o⟩
end
end
section
open Go.RowKit Go.Shelf Word
section
variable {P:Program} {l:List Oper} {Q:Exit->Act->World->Prop} {S:World->Prop}
end
section
variable {w w' w1 w2:World} {c:HCf} {g g':Gph} {s:HSt} {n:Nat}
theorem Sp.E.own{z:Sp}{u:Vm}{S:Nat->Prop}{wB:World}(hz:z.Ok)(gB:Gr w wB)(h:z.E u S wB w2){x:Nat}(t:XF4 (λk=>k=x) w2 w')(hx:w.heap.size<=x/\x<wB.heap.size)(hS:¬S x)(hD:¬z.D x):z.W u S w w':=by
 refine⟨((gB.touch S).trans (h.1.mono (λ_ _ h=>h.2))).trans' t (λk hk e=>by omega),hz.fr h.2 t (λk hk e=>?_) (λk hk=>hk.imp id (λhk=>ζb gB.size hk))⟩;subst e;exact⟨λhk=>hk.elim hS (λhk=>by omega),hD⟩
theorem HOp.own{w0 w3:World}(gr:Gr w w0)(h:HOp w0 c (s.cut w) g' w3){b:Nat}(t:XF4 (λk=>k=b) w3 w')(hb:w.heap.size<=b/\b<w0.heap.size)(hl:s.A.hp<w.heap.size/\s.A.r<w.heap.size/\s.A.g<w.heap.size/\s.A.rn<w.heap.size/\1<w.heap.size):HOp w c s g' w':=by
 obtain⟨s',hr,hs⟩:=h
 have X:¬(s.cut w).S b:=by
  rintro(e|e|e|e|e)
  ·have:=e.2;omega
  ·have:b=s.A.hp:=e;omega
  ·have:b=s.A.g:=e;omega
  ·have:b=s.A.r:=e;omega
  ·have:b=s.A.rn:=e;omega
 have hi:HIn w' c g' s':=hr.i.touch t (λk hk e=>by
  subst e
  exact⟨λhk2=>(hr.S _ hk2).elim X (λe=>by omega),by omega⟩)
 have hc:=Xfw.cutGr gr hr;exact⟨s',⟨hc.t.trans' t (λk hk e=>by omega),hi,hc.hp,hc.S,hc.o⟩,⟨hs.lf,hs.cyc⟩⟩
theorem VN4(W:World)(b:Nat)(z0 z1 z2:Value):XF4 (λi=>i=b) W (((W.setCell ⟨b,0,none⟩ z0).setCell ⟨b,1,none⟩ z1).setCell ⟨b,2,none⟩ z2):=
 (((XF4.refl (λi=>i=b) W).setCell (a:=⟨b,0,none⟩) (λ_=>rfl) _).setCell (a:=⟨b,1,none⟩) (λ_=>rfl) _).setCell (a:=⟨b,2,none⟩) (λ_=>rfl) _
theorem HIn.shp(h:HIn w c g s){a:Int}(hs:g.sl a=true):s.u.rdE (s.F (g.at a):Nat)=g.shE a/\s.u.rdH (s.F (g.at a):Nat)=g.shH a:=by
 unfold Gph.shH Gph.shE;rw[μ hs];rcases Gph.at_ro hs with h0|hr
 ·rw[h0,h.img.z,μ rfl,ϑ (by decide)];exact⟨rfl,rfl⟩
 ·have hp:=h.img.pos hr;have h0:g.at a≠0:=λe=>by rw[e,h.img.z]at hp;omega
  rw[ϑ h0,μ rfl];exact⟨h.img.rd _ hr,h.img.hd _ hr⟩
end
end
section
open Go.RowKit Go.Shelf Word
section
variable {w w' w1 w2:World} {c:HCf} {g g':Gph} {s:HSt} {n:Nat}
theorem VcO(h:HIn w c g s)(hn:s.o=none↔s.lf=0)(a:Int):Calls prog 26 #[.pointer (some ⟨s.A.hp,0,none⟩),.int .i64 a] w λe w'=>e=.returned (.tuple #[X79 (g.shH a),.int .i64 (g.shE a)])/\HOp w c s g w':=by
 have Xc:=(Gr.refl w).alloc (.cells #[.int .i64 0,.int .i64 0,.int .i64 0] 63);have hc:=h.cut.gr Xc;have Xw:=h.com.lt;have Yc:=Rec.new w 63 [.int .i64 0,.int .i64 0,.int .i64 0];have Xu:(s.cut w).A=s.A:=rfl;have hz:(w.alloc (.cells #[.int .i64 0,.int .i64 0,.int .i64 0] 63)).heap.size=w.heap.size+1:=η ..;obtain⟨w0,Xb⟩:∃w0,w0=w.alloc (.cells #[.int .i64 0,.int .i64 0,.int .i64 0] 63):=⟨_,rfl⟩;have Xr:Rec w0 w.heap.size 63 [.int .i64 0,.int .i64 0,.int .i64 0]:=by rw[Xb];exact Yc
 clear Yc;rw[<-Xb]at Xc hc hz;obtain⟨F0,F1⟩:=Vtp hc a;have HC:=hid hc;have Xm:=hid Xc;have Xn:=hid Xr;have HN:=hid hn;have L:=hid (ν Xw hz);have Ya:=hid Xb;have KL:=hid (λ(W:World) (blk:Nat) (p q r:Value)=>JIC W blk p q r);rw[Xu]at F0 F1;rw[show (s.cut w).F=s.F from rfl]at F1;cases hsl:g.sl a with
 | false=>
  have HF:=hid (F0 hsl)
  have HE:Hid (g.shE a=17/\g.shH a=⟨0,0,0⟩):=⟨by
   have e:g.shE a=17:=by unfold Gph.shE;rw[hsl];rfl
   exact⟨e,by unfold Gph.shH;rw[e];rfl⟩⟩
  generalize s.A.hp=ap at HF⊢;clear h hc hn hsl F0 F1 Xc Xr Xw hz Xu Xb;go_enter func26,ntmps26;go_upto_region 1 with(fail);rw[<-Ya.o];go_upto_region 3 with(go_at_call 68;refine(HF.o).mono ?_;rintro e w1 ⟨rfl,hg⟩;have HG:=hid hg;have r1:=Xn.o.gr hg;have Yf:=hid r1;have z0:=r1.cc 0;have z1:=r1.cc 1;have z2:=r1.cc 2;have zf:=r1.free;have zl:=r1.lt;clear hg r1);go_wp2;have R3:=Rec.set (Rec.set (Rec.set Yf.o 0 (.int .i64 0)) 1 (.int .i64 0)) 2 (.int .i64 0);refine ζR (v:=.tuple #[X79 ⟨0,0,0⟩,.int .i64 17]) ?_ rfl ?_
  ·rw[results_cell_tmp rfl];have hl:=KL.o _ w.heap.size _ _ _ (R3.cc 0) (R3.cc 1) (R3.cc 2);simp[asAddr,Result.andThen,hl,X79]
  ·refine⟨by rw[HE.o.1,HE.o.2],HOp.own Xm.o (HOp.same HC.o HN.o HG.o) (VN4 _ _ _ _ _) ⟨π _,by rw[L.o.2];omega⟩ L.o.1⟩
 | true=>
  have HF:=hid (F1 hsl);have Ye:=Gph.at_ro hsl;have Xj:=hid (λ(W:World) (gg:Gr w0 W)=>Z4p (hc.cut.gr gg));have O:=hid (λ(W:World) (gg:Gr w0 W)=>JYm (QBN ..) (hc.cut.gr gg).sp (s.F (g.at a):Nat) (hc.cut.rdP Ye));obtain⟨e1,e2⟩:=h.shp hsl;have e3:((s.cut w).cut w0).u=s.u:=rfl;rw[e3,e1,e2]at O;have Xi:=hid (λ(W1 W2:World) (gr:Gr w0 W1) (he:(((s.cut w).cut w0).sp c).W s.u ((s.cut w).cut w0).X W1 W2)=>YKV hc hn gr he h.img h.gok rfl);have Xp:((s.cut w).cut w0).A.hp=s.A.hp:=rfl;have Xq:(s.cut w).A.hp=s.A.hp:=rfl;rw[Xp]at Xj;rw[Xq]at Xi;have Xo:=hid (λ(W WB W2 W3:World) (x:Nat) (gW:Gr w0 W) (gB:Gr W WB) (he:(((s.cut w).cut w0).sp c).E s.u ((s.cut w).cut w0).X WB W2) (t:XF4 (λk=>k=x) W2 W3) (hx:W.heap.size<=x/\x<WB.heap.size)=>Sp.E.own (QBN ..) gB he t hx (λhk=>by have:=hk.2;have:=gW.size;omega) (λhk=>by have:x=1:=hk;have:=gW.size;omega))
  have Xs:Hid (¬(s.cut w).S w.heap.size):=⟨by
   rintro(e|e|e|e|e)
   ·exact ζN _ e.2
   ·exact absurd e (by show w.heap.size≠s.A.hp;omega)
   ·exact absurd e (by show w.heap.size≠s.A.g;omega)
   ·exact absurd e (by show w.heap.size≠s.A.r;omega)
   ·exact absurd e (by show w.heap.size≠s.A.rn;omega)⟩
  have Xl:Hid (∀x,w0.heap.size<=x->x≠s.A.hp):=⟨λx hx e=>by omega⟩;generalize g.shE a=re at O⊢;generalize g.shH a=hd at O⊢;obtain⟨xp,xf,xk⟩:=hd;generalize (s.F (g.at a):Nat)=ad at HF O;obtain⟨ap,hp⟩:∃ap,ap=s.A.hp:=⟨_,rfl⟩;rw[<-hp]at HF Xj Xi Xl⊢;clear h hc hn hsl F0 F1 Xc Xr Xw hz Xu Xb Ye e1 e2 e3 Xp Xq hp;unfold X79 at O;go_enter func26,ntmps26;go_upto_region 1 with(fail);rw[<-Ya.o];go_upto_region 4 with(go_at_call 68;refine(HF.o).mono ?_;rintro e w1 ⟨gb,cp,rfl,Xz,Xx,Xy⟩;have Y:=hid Xz;have V:=hid Xy;have Xv:=hid Xx;clear Xz Xy Xx);obtain⟨Sx,Xk⟩:∃Sx:World->Prop,Sx=λW'=>W'.cell? ⟨gb,0,none⟩=some (.int .i64 (ad:Nat)):=⟨_,rfl⟩;have y0:∀p':ZJV Sx,p'.w.cell? ⟨gb,0,none⟩=some (.int .i64 (ad:Nat)):=λp=>ZJV.get Xk p;have Yb:Sx w1.drew:=by rw[Xk];exact V.o
  have U:=hid Xk;have inst:Inhabited (ZJV Sx):=⟨⟨_,Yb⟩⟩;clear Xk;refine JzF Sx (.two [0,2,3,4] 1 (.two [] 5 (.one [6,7,8] 9 (.one [] 10 (.fin [11]))) 9 (.one [] 5 (.one [6,7,8] 10 (.fin [11])))) 9 (.one [] 1 (.one [] 5 (.one [6,7,8] 10 (.fin [11]))))) (by kernel_rfl) (by kernel_rfl) Yb ?_;refine JbS ?_;simp only[XZy,ζ,ξ]
  repeat(go_big_quiet_step (fail))
  refine θ ⟨?_,?_⟩
  ·go_wp2_with(go_at_call 70;refine JmE (Xj.o _ Y.o.drew) ?_);refine⟨ZJV.of (by rw[U.o];exact V.o),?_⟩;refine JbS ?_;simp only[XZy,ζ,ξ];refine θ ⟨?_,?_⟩
   ·go_wp2_with(go_at_call 69;refine(O.o _ Y.o.drew).mono ?_;rintro e w2 ⟨rfl,he⟩;have N:=hid he;clear he);have KC:w2.cell? ⟨gb,0,none⟩=some (.int .i64 (ad:Nat)):=(N.o.1.cell (ZQf V.o) (λhk=>ζN _ (ω hk.2.2 Xv.o)) 0).trans V.o;have Yd:=ZQf KC;refine⟨ZJV.of (by rw[U.o];exact KC),?_⟩;refine QbJ ?_;simp only[XZy,ζ,ξ]
    repeat(go_big_quiet_step (fail))
    refine θ ?_;go_wp2;refine⟨ZJV.of (by rw[U.o];exact(((Gr.refl w2).alloc _).cell Yd 0).trans KC),?_⟩;refine QbJ ?_;simp only[XZy,ζ,ξ];refine θ ?_;go_wp2;refine⟨ZJV.of (by rw[U.o];exact(((Gr.refl w2).alloc _).cell Yd 0).trans KC),?_⟩;refine Vy6 ?_;simp only[XZy,ζ,ξ]
    repeat(go_big_quiet_step (fail))
    refine θ ?_;refine β ?_;have Xe:Hid ((((s.cut w).cut w0).sp c).W s.u ((s.cut w).cut w0).X w1.drew (w2.alloc (.cells #[.int .i64 xp,.int .i64 xf,.int .i64 xk] 63))):=⟨N.o.toW.gr ((Gr.refl w2).alloc _) (QBN ..)⟩;have Xg:Hid (Rec (w2.alloc (.cells #[.int .i64 xp,.int .i64 xf,.int .i64 xk] 63)) w2.heap.size 63 [.int .i64 xp,.int .i64 xf,.int .i64 xk]):=⟨Rec.new w2 _ [.int .i64 xp,.int .i64 xf,.int .i64 xk]⟩;have Hw2.heap.size:Hid (w0.heap.size<=w2.heap.size):=⟨ζb Y.o.size N.o.1.size⟩;go_wp2_with(go_at_call 71;refine(Xi.o _ _ Y.o.drew Xe.o).mono ?_;rintro e w3 ⟨rfl,s',hr,hs,-,ht⟩;have I:=hid (ν hr hs);have rx:=Xg.o.touch ht (Xl.o _ Hw2.heap.size.o);have k0:=rx.cc 0;have k1:=rx.cc 1;have k2:=rx.cc 2;have kl:=rx.lt;have r3:=Xn.o.touch hr.t Xs.o;have Xf:=hid r3;have z0:=r3.cc 0;have z1:=r3.cc 1;have z2:=r3.cc 2;have zf:=r3.free;have zl:=r3.lt;clear hr hs ht rx r3);have R3:=Rec.set (Rec.set (Rec.set Xf.o 0 (.int .i64 xp)) 1 (.int .i64 xf)) 2 (.int .i64 xk);refine ζR (v:=.tuple #[X79 ⟨xp,xf,xk⟩,.int .i64 re]) ?_ rfl ?_
    ·rw[results_cell_tmp rfl];have hl:=KL.o _ w.heap.size _ _ _ (R3.cc 0) (R3.cc 1) (R3.cc 2);simp[asAddr,Result.andThen,hl,X79]
    ·exact⟨rfl,HOp.own Xm.o ⟨s',I.o.1,I.o.2⟩ (VN4 _ _ _ _ _) ⟨π _,by rw[L.o.2];omega⟩ L.o.1⟩
   ·go_wp2;have Z:=(Gr.refl w1.drew).alloc (.cells #[.int .i64 0,.int .i64 0,.int .i64 0] 63);have Xh:=Rec.new w1.drew 63 [.int .i64 0,.int .i64 0,.int .i64 0];have G:=(Z.cell (ZQf V.o) 0).trans V.o;refine⟨ZJV.of (by rw[U.o];exact G),?_⟩;refine QbJ ?_;simp only[XZy,ζ,ξ];refine θ ?_;obtain⟨WB,J⟩:∃WB,WB=(w1.alloc (.cells #[.int .i64 0,.int .i64 0,.int .i64 0] 63)).drew:=⟨_,rfl⟩;have M:Hid (Gr w1.drew WB):=⟨by rw[J];exact Z⟩;have Xd:Hid (Rec WB w1.heap.size 63 [.int .i64 0,.int .i64 0,.int .i64 0]):=⟨by rw[J];exact Xh⟩;have Xa:Hid (WB.cell? ⟨gb,0,none⟩=some (.int .i64 (ad:Nat))):=⟨by rw[J];exact G⟩;rw[<-J];clear J Z Xh G;go_wp2_with(go_at_call 69;refine(O.o _ (Y.o.drew.trans M.o)).mono ?_;rintro e w2 ⟨rfl,he⟩;have N:=hid he;have r2:=Xd.o.touch he.1 (λhk=>by have:=hk.2.2;have:=Y.o.size;omega);have Xt:=hid r2;have q0:=r2.cc 0;have q1:=r2.cc 1;have q2:=r2.cc 2;have qf:=r2.free;have ql:=r2.lt;clear he r2);have KC:w2.cell? ⟨gb,0,none⟩=some (.int .i64 (ad:Nat)):=(N.o.1.cell (ZQf Xa.o) (λhk=>ζN _ (ω hk.2.2 Xv.o)) 0).trans Xa.o;have B:=hid KC;clear KC;refine⟨ZJV.of (by rw[U.o];exact B.o),?_⟩;refine QbJ ?_;simp only[XZy,ζ,ξ]
    repeat(go_big_quiet_step (fail))
    refine θ ?_;go_wp2;refine⟨ZJV.of (by rw[U.o];exact((VN4 w2 w1.heap.size (.int .i64 xp) (.int .i64 xf) (.int .i64 xk)).cell (ZQf B.o) (λe=>by have:=ZQf V.o;have e:gb=w1.heap.size:=e;omega) 0).trans B.o),?_⟩;refine Vy6 ?_;simp only[XZy,ζ,ξ]
    repeat(go_big_quiet_step (fail))
    refine θ ?_;refine β ?_;have Xe:Hid ((((s.cut w).cut w0).sp c).W s.u ((s.cut w).cut w0).X w1.drew (((w2.setCell ⟨w1.heap.size,0,none⟩ (.int .i64 xp)).setCell ⟨w1.heap.size,1,none⟩ (.int .i64 xf)).setCell ⟨w1.heap.size,2,none⟩ (.int .i64 xk))):=⟨Xo.o _ _ _ _ _ Y.o.drew M.o N.o (VN4 _ _ _ _ _) ⟨π _,Xd.o.lt⟩⟩;have Xg:Hid (Rec (((w2.setCell ⟨w1.heap.size,0,none⟩ (.int .i64 xp)).setCell ⟨w1.heap.size,1,none⟩ (.int .i64 xf)).setCell ⟨w1.heap.size,2,none⟩ (.int .i64 xk)) w1.heap.size 63 [.int .i64 xp,.int .i64 xf,.int .i64 xk]):=⟨((Xt.o.set 0 (.int .i64 xp)).set 1 (.int .i64 xf)).set 2 (.int .i64 xk)⟩;have Hw1.heap.size:Hid (w0.heap.size<=w1.heap.size):=⟨Y.o.size⟩;clear q0 q1 q2 qf ql;go_wp2_with(go_at_call 71;refine(Xi.o _ _ Y.o.drew Xe.o).mono ?_;rintro e w3 ⟨rfl,s',hr,hs,-,ht⟩;have I:=hid (ν hr hs);have rx:=Xg.o.touch ht (Xl.o _ Hw1.heap.size.o);have k0:=rx.cc 0;have k1:=rx.cc 1;have k2:=rx.cc 2;have kl:=rx.lt;have r3:=Xn.o.touch hr.t Xs.o;have Xf:=hid r3;have z0:=r3.cc 0;have z1:=r3.cc 1;have z2:=r3.cc 2;have zf:=r3.free;have zl:=r3.lt;clear hr hs ht rx r3);have R3:=Rec.set (Rec.set (Rec.set Xf.o 0 (.int .i64 xp)) 1 (.int .i64 xf)) 2 (.int .i64 xk);refine ζR (v:=.tuple #[X79 ⟨xp,xf,xk⟩,.int .i64 re]) ?_ rfl ?_
    ·rw[results_cell_tmp rfl];have hl:=KL.o _ w.heap.size _ _ _ (R3.cc 0) (R3.cc 1) (R3.cc 2);simp[asAddr,Result.andThen,hl,X79]
    ·exact⟨rfl,HOp.own Xm.o ⟨s',I.o.1,I.o.2⟩ (VN4 _ _ _ _ _) ⟨π _,by rw[L.o.2];omega⟩ L.o.1⟩
  ·go_wp2;have Z:=(Gr.refl w1.drew).alloc (.cells #[.int .i64 0,.int .i64 0,.int .i64 0] 63);have Xh:=Rec.new w1.drew 63 [.int .i64 0,.int .i64 0,.int .i64 0];have G:=(Z.cell (ZQf V.o) 0).trans V.o;refine⟨ZJV.of (by rw[U.o];exact G),?_⟩;refine QbJ ?_;simp only[XZy,ζ,ξ];refine θ ?_;obtain⟨WB,J⟩:∃WB,WB=(w1.alloc (.cells #[.int .i64 0,.int .i64 0,.int .i64 0] 63)).drew:=⟨_,rfl⟩;have M:Hid (Gr w1.drew WB):=⟨by rw[J];exact Z⟩;have Xd:Hid (Rec WB w1.heap.size 63 [.int .i64 0,.int .i64 0,.int .i64 0]):=⟨by rw[J];exact Xh⟩;have Xa:Hid (WB.cell? ⟨gb,0,none⟩=some (.int .i64 (ad:Nat))):=⟨by rw[J];exact G⟩;rw[<-J];clear J Z Xh G;go_wp2_with(go_at_call 70;refine JmE (Xj.o _ (Y.o.drew.trans M.o)) ?_);refine⟨ZJV.of (by rw[U.o];exact Xa.o),?_⟩;refine QbJ ?_;simp only[XZy,ζ,ξ];refine θ ?_;go_wp2_with(go_at_call 69;refine(O.o _ (Y.o.drew.trans M.o)).mono ?_;rintro e w2 ⟨rfl,he⟩;have N:=hid he;have r2:=Xd.o.touch he.1 (λhk=>by have:=hk.2.2;have:=Y.o.size;omega);have Xt:=hid r2;have q0:=r2.cc 0;have q1:=r2.cc 1;have q2:=r2.cc 2;have qf:=r2.free;have ql:=r2.lt;clear he r2);have KC:w2.cell? ⟨gb,0,none⟩=some (.int .i64 (ad:Nat)):=(N.o.1.cell (ZQf Xa.o) (λhk=>ζN _ (ω hk.2.2 Xv.o)) 0).trans Xa.o;have B:=hid KC;clear KC;refine⟨ZJV.of (by rw[U.o];exact B.o),?_⟩;refine QbJ ?_;simp only[XZy,ζ,ξ]
   repeat(go_big_quiet_step (fail))
   refine θ ?_;go_wp2;refine⟨ZJV.of (by rw[U.o];exact((VN4 w2 w1.heap.size (.int .i64 xp) (.int .i64 xf) (.int .i64 xk)).cell (ZQf B.o) (λe=>by have:=ZQf V.o;have e:gb=w1.heap.size:=e;omega) 0).trans B.o),?_⟩;refine Vy6 ?_;simp only[XZy,ζ,ξ]
   repeat(go_big_quiet_step (fail))
   refine θ ?_;refine β ?_;have Xe:Hid ((((s.cut w).cut w0).sp c).W s.u ((s.cut w).cut w0).X w1.drew (((w2.setCell ⟨w1.heap.size,0,none⟩ (.int .i64 xp)).setCell ⟨w1.heap.size,1,none⟩ (.int .i64 xf)).setCell ⟨w1.heap.size,2,none⟩ (.int .i64 xk))):=⟨Xo.o _ _ _ _ _ Y.o.drew M.o N.o (VN4 _ _ _ _ _) ⟨π _,Xd.o.lt⟩⟩;have Xg:Hid (Rec (((w2.setCell ⟨w1.heap.size,0,none⟩ (.int .i64 xp)).setCell ⟨w1.heap.size,1,none⟩ (.int .i64 xf)).setCell ⟨w1.heap.size,2,none⟩ (.int .i64 xk)) w1.heap.size 63 [.int .i64 xp,.int .i64 xf,.int .i64 xk]):=⟨((Xt.o.set 0 (.int .i64 xp)).set 1 (.int .i64 xf)).set 2 (.int .i64 xk)⟩;have Hw1.heap.size:Hid (w0.heap.size<=w1.heap.size):=⟨Y.o.size⟩;clear q0 q1 q2 qf ql;go_wp2_with(go_at_call 71;refine(Xi.o _ _ Y.o.drew Xe.o).mono ?_;rintro e w3 ⟨rfl,s',hr,hs,-,ht⟩;have I:=hid (ν hr hs);have rx:=Xg.o.touch ht (Xl.o _ Hw1.heap.size.o);have k0:=rx.cc 0;have k1:=rx.cc 1;have k2:=rx.cc 2;have kl:=rx.lt;have r3:=Xn.o.touch hr.t Xs.o;have Xf:=hid r3;have z0:=r3.cc 0;have z1:=r3.cc 1;have z2:=r3.cc 2;have zf:=r3.free;have zl:=r3.lt;clear hr hs ht rx r3);have R3:=Rec.set (Rec.set (Rec.set Xf.o 0 (.int .i64 xp)) 1 (.int .i64 xf)) 2 (.int .i64 xk);refine ζR (v:=.tuple #[X79 ⟨xp,xf,xk⟩,.int .i64 re]) ?_ rfl ?_
   ·rw[results_cell_tmp rfl];have hl:=KL.o _ w.heap.size _ _ _ (R3.cc 0) (R3.cc 1) (R3.cc 2);simp[asAddr,Result.andThen,hl,X79]
   ·exact⟨rfl,HOp.own Xm.o ⟨s',I.o.1,I.o.2⟩ (VN4 _ _ _ _ _) ⟨π _,by rw[L.o.2];omega⟩ L.o.1⟩
end
end
section
open Go.RowKit Go.Shelf Word
theorem YBx(n lo hi:Int)(hn:n<=9223372036854775807)(w:World):Calls prog 79 #[.int .i64 n,.int .i64 lo,.int .i64 hi] w λe w'=>e=.returned (.bool (XuW n&&decide (lo<=n)&&decide (n<=hi)))/\w=w':=by
 have HP:=hid (VWY n hn w);cases h1:XuW n with
 | false=>
  rw[h1]at HP;clear h1 hn;go_enter func79,ntmps79;go_wp2_with(go_at_call 119;refine JmE (HP.o) ?_);go_ret;exact⟨rfl,rfl⟩
 | true=>
  rw[h1]at HP;by_cases h2:lo<=n
  ·have d2:decide (lo<=n)=true:=κ h2;clear h1 hn h2;go_enter func79,ntmps79;go_wp2_with(go_at_call 119;refine JmE (HP.o) ?_);go_ret;exact⟨by rw[d2];rfl,rfl⟩
  ·have d2:decide (lo<=n)=false:=ψ h2;clear h1 hn h2;go_enter func79,ntmps79;go_wp2_with(go_at_call 119;refine JmE (HP.o) ?_);go_ret;exact⟨by rw[d2];rfl,rfl⟩
end
section
open Go.RowKit Go.Shelf Word
structure CfI where
 kd:Int
 pg:Int
 bk:Int
 wd:Int
 sl:Int
 st:Int
 ah:Int
 tr:Nat
def CfI.V(c:CfI):Value:=.agg #[.int .i64 c.kd,.int .i64 c.pg,.int .i64 c.bk,.int .i64 c.wd,.int .i64 c.sl,.int .i64 c.st,.int .i64 c.ah,.float .f64 c.tr]
def CfI.nat(c:CfI):HCf:=⟨c.kd.toNat,c.pg.toNat,c.bk.toNat,c.wd.toNat,c.sl.toNat,c.st.toNat,c.ah.toNat,c.tr⟩
def CfI.base(c:CfI):Bool:=
 decide (1<=c.kd)&&decide (c.kd<=3)&&XiS c.pg 1 256&&XiS c.bk 1 1024&&XiS c.wd 16 131072&&decide (c.pg<=c.wd) &&
 (decide (1<=c.sl)&&decide (c.sl<=64)&&decide (1<=c.st)&&decide (c.st<=4096)&&decide (0<=c.ah)&&decide (c.ah<=16))
def CfI.may(c:CfI):Bool:=c.base&&decide (c.nat.fr<=4096)
theorem CfI.base_in{c:CfI}(h:c.base=true):(1<=c.kd/\c.kd<=3/\XiS c.pg 1 256=true/\XiS c.bk 1 1024=true/\XiS c.wd 16 131072=true/\c.pg<=c.wd)/\(1<=c.sl/\c.sl<=64/\1<=c.st/\c.st<=4096/\0<=c.ah/\c.ah<=16):=by
 unfold CfI.base at h;simp only[ζd,ζe]at h;obtain⟨⟨⟨⟨⟨⟨a,b⟩,c⟩,d⟩,e⟩,f⟩,⟨⟨⟨⟨⟨g,i⟩,j⟩,k⟩,l⟩,m⟩⟩:=h;exact⟨⟨a,b,c,d,e,f⟩,g,i,j,k,l,m⟩
theorem CfI.nat_V{c:CfI}(h:c.base=true):c.V=Jdq c.nat:=by
 obtain⟨⟨h1,h2,h3,h4,h5,h6⟩,h7,h8,h9,h10,h11,h12⟩:=CfI.base_in h;have t3:=Jo9 h3;have t4:=Jo9 h4;have t5:=Jo9 h5;obtain⟨kd,pg,bk,wd,sl,st,ah,tr⟩:=c;obtain⟨kd,rfl⟩:∃n:Nat,kd=n:=⟨kd.toNat,by dsimp only at *;omega⟩;obtain⟨pg,rfl⟩:∃n:Nat,pg=n:=⟨pg.toNat,by dsimp only at *;omega⟩;obtain⟨bk,rfl⟩:∃n:Nat,bk=n:=⟨bk.toNat,by dsimp only at *;omega⟩;obtain⟨wd,rfl⟩:∃n:Nat,wd=n:=⟨wd.toNat,by dsimp only at *;omega⟩;obtain⟨sl,rfl⟩:∃n:Nat,sl=n:=⟨sl.toNat,by dsimp only at *;omega⟩;obtain⟨st,rfl⟩:∃n:Nat,st=n:=⟨st.toNat,by dsimp only at *;omega⟩;obtain⟨ah,rfl⟩:∃n:Nat,ah=n:=⟨ah.toNat,by dsimp only at *;omega⟩;rfl
theorem CfI.may_ok{c:CfI}(h:c.may=true):c.nat.Ok:=by
 unfold CfI.may at h;rw[ζd,ζe]at h;obtain⟨hb,hf⟩:=h;obtain⟨⟨h1,h2,h3,h4,h5,h6⟩,h7,h8,h9,h10,h11,h12⟩:=CfI.base_in hb;have t3:=Jo9 h3;have t4:=Jo9 h4;have t5:=Jo9 h5;have e3:((c.pg.toNat:Nat):Int)=c.pg:=ξx Ω;have e4:((c.bk.toNat:Nat):Int)=c.bk:=ξx Ω;have e5:((c.wd.toNat:Nat):Int)=c.wd:=ξx Ω;refine⟨⟨?_,?_⟩,?_,?_,⟨?_,?_⟩,?_,?_,⟨?_,?_⟩,⟨?_,?_⟩,?_,hf⟩
 ·show 1<=c.kd.toNat;omega
 ·show c.kd.toNat<=3;omega
 ·show Jnk (c.pg.toNat:Int)=true
  unfold Jnk;rw[e3,<-X1d,κ t3.2.1,ξP];unfold XiS;rw[t3.2.2,κ t3.1,κ Ω];rfl
 ·show Y1d (c.bk.toNat:Int)=true
  rw[e4,<-X1d];exact h4
 ·show 16<=c.wd.toNat;omega
 ·show c.wd.toNat<=131072;omega
 ·show c.wd.toNat%c.pg.toNat=0
  exact V2o (by rw[e3];exact t3.2.2) (by rw[e5];exact t5.2.2) Ω Ω Ω
 ·show c.pg.toNat<=c.wd.toNat;omega
 ·show 1<=c.sl.toNat;omega
 ·show c.sl.toNat<=64;omega
 ·show 1<=c.st.toNat;omega
 ·show c.st.toNat<=4096;omega
 ·show c.ah.toNat<=16;omega
theorem QuJ(n lo hi:Int)(hn:n<=9223372036854775807)(w:World):Calls prog 79 #[.int .i64 n,.int .i64 lo,.int .i64 hi] w λe w'=>e=.returned (.bool (XiS n lo hi))/\w=w':=YBx n lo hi hn w
theorem Qa3{c:HCf}(hbk:Y1d c.bk=true)(hp:1<=c.pg)(hah:c.ah<=16)(hwd:c.wd<=131072)(w:World):Calls prog 40 #[Jdq c] w λe w'=>e=.returned (.int .i64 c.fr)/\Gr w w':=by
 obtain⟨Y,Z,J⟩:=HCf.q_in hbk hah;have HS:=hid (λ(W:World)=>Yny hbk hp hah W);have q1:((c.wd:Int).tdiv (c.pg:Int))=((c.wd/c.pg:Nat):Int):=rfl;have U:c.wd/c.pg<=c.wd:=ζ8 _ _;have HR:=hid (Rec.new w 41 (X2H c));have hF:c.fr=if c.kd=1 then c.wd/c.pg+c.spare else if c.kd=2 then 2*(c.wd/c.pg)else c.wd/c.pg:=rfl
 have X:=hid ((Gr.refl w).alloc (.cells (X2H c).toArray 41));generalize c.fr=fr at hF⊢;generalize c.spare=sp at J HS hF;generalize c.q=qq at Y Z;generalize c.wd/c.pg=dd at q1 U hF;unfold Jdq at HS⊢;unfold X2H at *
 have r:=HR.o;have c0:=r.cc 0;have c1:=r.cc 1;have c2:=r.cc 2;have c3:=r.cc 3;have c4:=r.cc 4;have c5:=r.cc 5;have c6:=r.cc 6;have c7:=r.cc 7;clear r hbk Y Z
 have h3:(c.kd=1/\((c.kd:Int)==1)=true/\fr=dd+sp)\/(((c.kd:Int)==1)=false/\((c.kd:Int)==2)=true/\fr=2*dd)\/(((c.kd:Int)==1)=false/\((c.kd:Int)==2)=false/\fr=dd):=by
  by_cases h1:c.kd=1
  ·rw[μ h1]at hF;exact .inl ⟨h1,by rw[h1];rfl,hF⟩
  ·rw[ϑ h1]at hF;have e1:((c.kd:Int)==1)=false:=beq_false_of_ne Ω;by_cases h2:c.kd=2
   ·rw[μ h2]at hF;exact .inr (.inl ⟨e1,by rw[h2];rfl,hF⟩)
   ·rw[ϑ h2]at hF;exact .inr (.inr ⟨e1,beq_false_of_ne Ω,hF⟩)
 clear hF;rcases h3 with⟨-,h4,hf⟩|⟨h4,h5,hf⟩|⟨h4,h5,hf⟩
 ·have HF:=hid hf;clear hf;go_enter func40,ntmps40;go_wp2_with(go_at_call 82;refine(HS.o _).mono ?_;rintro e w1 ⟨rfl,hg⟩;have HG:=hid hg;clear hg);go_ret;exact⟨by rw[HF.o];exact ZzN (by push_cast;rfl),X.o.trans HG.o⟩
 ·have HF:=hid hf;clear hf;go_enter func40,ntmps40;go_wp2;go_ret;exact⟨by rw[HF.o];exact ZzN (by push_cast;rfl),X.o⟩
 ·have HF:=hid hf;clear hf;go_enter func40,ntmps40;go_wp2;go_ret;exact⟨by rw[HF.o];rfl,X.o⟩
theorem XVm{b1 b2 b3 b4 b5 b6 b7 b8 b9 b10 b11 b12:Bool}:b1=false\/(b1=true/\b2=false)\/(b1=true/\b2=true/\b3=false)\/(b1=true/\b2=true/\b3=true/\b4=false)\/(b1=true/\b2=true/\b3=true/\b4=true/\b5=false) ∨
  (b1=true/\b2=true/\b3=true/\b4=true/\b5=true/\b6=false)\/(b1=true/\b2=true/\b3=true/\b4=true/\b5=true/\b6=true/\b7=false)\/(b1=true/\b2=true/\b3=true/\b4=true/\b5=true/\b6=true/\b7=true/\b8=false) ∨
  (b1=true/\b2=true/\b3=true/\b4=true/\b5=true/\b6=true/\b7=true/\b8=true/\b9=false)\/(b1=true/\b2=true/\b3=true/\b4=true/\b5=true/\b6=true/\b7=true/\b8=true/\b9=true/\b10=false) ∨
  (b1=true/\b2=true/\b3=true/\b4=true/\b5=true/\b6=true/\b7=true/\b8=true/\b9=true/\b10=true/\b11=false)\/(b1=true/\b2=true/\b3=true/\b4=true/\b5=true/\b6=true/\b7=true/\b8=true/\b9=true/\b10=true/\b11=true/\b12=false) ∨
  (b1=true/\b2=true/\b3=true/\b4=true/\b5=true/\b6=true/\b7=true/\b8=true/\b9=true/\b10=true/\b11=true/\b12=true):=by
 cases b1 <;> simp
 cases b2 <;> simp
 cases b3 <;> simp
 cases b4 <;> simp
 cases b5 <;> simp
 cases b6 <;> simp
 cases b7 <;> simp
 cases b8 <;> simp
 cases b9 <;> simp
 cases b10 <;> simp
 cases b11 <;> simp
def CfI.Bd(c:CfI):Prop:=c.pg<=9223372036854775807/\c.bk<=9223372036854775807/\c.wd<=9223372036854775807
theorem VZi(c:CfI)(hb:c.Bd)(w:World):Calls prog 38 #[c.V] w λe w'=>e=.returned (.int .i64 (if c.may then 0 else 22))/\Gr w w':=by
 obtain⟨hb1,hb2,hb3⟩:=hb;have HM:Hid (c.may=(c.base&&decide (c.nat.fr<=4096))):=⟨rfl⟩
 have X:Hid (c.base=(decide (1<=c.kd)&&decide (c.kd<=3)&&XiS c.pg 1 256&&XiS c.bk 1 1024&&XiS c.wd 16 131072&&decide (c.pg<=c.wd) &&
  (decide (1<=c.sl)&&decide (c.sl<=64)&&decide (1<=c.st)&&decide (c.st<=4096)&&decide (0<=c.ah)&&decide (c.ah<=16)))):=⟨rfl⟩
 have Y:Hid (c.base=true->∀W,Calls prog 40 #[c.V] W λe w'=>e=.returned (.int .i64 c.nat.fr)/\Gr W w'):=⟨λh W=>by
  obtain⟨⟨h1,h2,h3,h4,h5,h6⟩,h7,h8,h9,h10,h11,h12⟩:=CfI.base_in h;have t3:=Jo9 h3;have t4:=Jo9 h4;have t5:=Jo9 h5;rw[CfI.nat_V h];refine Qa3 ?_ ?_ ?_ ?_ W
  ·show Y1d (c.bk.toNat:Int)=true
   rw[show ((c.bk.toNat:Nat):Int)=c.bk from ξx Ω,<-X1d];exact h4
  ·show 1<=c.pg.toNat;omega
  ·show c.ah.toNat<=16;omega
  ·show c.wd.toNat<=131072;omega⟩
 obtain⟨re,J⟩:∃re:Int,re=if c.may then 0 else 22:=⟨_,rfl⟩
 rw[<-J];have U:=hid J;clear J;generalize c.may=my at HM U;generalize c.base=ba at HM X Y;generalize c.nat.fr=fr at HM Y;unfold CfI.V at Y⊢;have M:=hid ((Gr.refl w).alloc (.cells #[.int .i64 c.kd,.int .i64 c.pg,.int .i64 c.bk,.int .i64 c.wd,.int .i64 c.sl,.int .i64 c.st,.int .i64 c.ah,.float .f64 c.tr] 41));have r:=Rec.new w 41 [.int .i64 c.kd,.int .i64 c.pg,.int .i64 c.bk,.int .i64 c.wd,.int .i64 c.sl,.int .i64 c.st,.int .i64 c.ah,.float .f64 c.tr];have c0:=r.cc 0;have c1:=r.cc 1;have c2:=r.cc 2;have c3:=r.cc 3;have c4:=r.cc 4;have c5:=r.cc 5;have c6:=r.cc 6;have c7:=r.cc 7;clear r;obtain⟨kd,pg,bk,wd,sl,st,ah,tr⟩:=c;dsimp only at *
 obtain⟨b1,D1⟩:∃b,decide (1<=kd)=b:=⟨_,rfl⟩;obtain⟨b2,D2⟩:∃b,decide (kd<=3)=b:=⟨_,rfl⟩;obtain⟨b3,D3⟩:∃b,XiS pg 1 256=b:=⟨_,rfl⟩;obtain⟨b4,D4⟩:∃b,XiS bk 1 1024=b:=⟨_,rfl⟩;obtain⟨b5,D5⟩:∃b,XiS wd 16 131072=b:=⟨_,rfl⟩;obtain⟨b6,D6⟩:∃b,decide (pg<=wd)=b:=⟨_,rfl⟩;obtain⟨b7,D7⟩:∃b,decide (1<=sl)=b:=⟨_,rfl⟩;obtain⟨b8,D8⟩:∃b,decide (sl<=64)=b:=⟨_,rfl⟩;obtain⟨b9,D9⟩:∃b,decide (1<=st)=b:=⟨_,rfl⟩;obtain⟨O,G⟩:∃b,decide (st<=4096)=b:=⟨_,rfl⟩;obtain⟨L,I⟩:∃b,decide (0<=ah)=b:=⟨_,rfl⟩;obtain⟨E,N⟩:∃b,decide (ah<=16)=b:=⟨_,rfl⟩;rw[D1,D2,D3,D4,D5,D6,D7,D8,D9,G,I,N]at X;rcases @XVm b1 b2 b3 b4 b5 b6 b7 b8 b9 O L E with rfl|⟨rfl,rfl⟩|⟨rfl,rfl,rfl⟩|⟨rfl,rfl,rfl,rfl⟩|⟨rfl,rfl,rfl,rfl,rfl⟩|⟨rfl,rfl,rfl,rfl,rfl,rfl⟩|⟨rfl,rfl,rfl,rfl,rfl,rfl,rfl⟩|⟨rfl,rfl,rfl,rfl,rfl,rfl,rfl,rfl⟩|⟨rfl,rfl,rfl,rfl,rfl,rfl,rfl,rfl,rfl⟩|⟨rfl,rfl,rfl,rfl,rfl,rfl,rfl,rfl,rfl,rfl⟩|⟨rfl,rfl,rfl,rfl,rfl,rfl,rfl,rfl,rfl,rfl,rfl⟩|⟨rfl,rfl,rfl,rfl,rfl,rfl,rfl,rfl,rfl,rfl,rfl,rfl⟩|⟨rfl,rfl,rfl,rfl,rfl,rfl,rfl,rfl,rfl,rfl,rfl,rfl⟩
 case' inr.inr.inr.inr.inr.inr.inr.inr.inr.inr.inr.inr=>
  have Z:ba=true:=by rw[X.o];rfl
  have HF:=hid (Y.o Z)
  have hx:(decide (4096<(fr:Int))=true/\my=false)\/(decide (4096<(fr:Int))=false/\my=true):=by
   rw[HM.o,Z,ξY];by_cases h:fr<=4096
   ·exact .inr ⟨ψ Ω,κ h⟩
   ·exact .inl ⟨κ Ω,ψ h⟩
  clear Z HM X Y;obtain⟨d,e⟩|⟨d,e⟩:=hx
 all_goals
  try(have e:my=false:=by rw[HM.o,X.o];simp)
  try clear HM X Y
  have HE:Hid (re=if my then 0 else 22):=⟨U.o⟩;rw[e]at HE;clear e;go_enter func38,ntmps38
  go_wp2_with(first
   | (go_at_call 79;refine JmE (QuJ _ _ _ (by assumption) _) ?_)
   | (go_at_call 40;refine(HF.o _).mono ?_;rintro e w1 ⟨rfl,hg⟩;have HG:=hid hg;clear hg))
  go_ret;exact⟨by rw[HE.o];rfl,by first|exact M.o.trans HG.o|exact M.o⟩
end
section
open Go.RowKit Go.Shelf Word
def Gph.nil(sl:Nat):Gph:=⟨[],List.replicate sl 0⟩
theorem Gph.nil_rd{sl x:Nat}:¬(Gph.nil sl).Rd x:=λh=>h (λ_=>False) (λ_ hr h0=>h0 (ξn hr)) (λ_ h=>h.elim)
theorem Gph.nil_ok(sl:Nat):(Gph.nil sl).Ok:=⟨(λo ho=>by cases ho),(λo ho=>by cases ho),λy hy=>by rw[ξn hy];exact ζh _⟩
theorem Q6y{n pg rm a:Nat}(ha:a<n)(h5:n%pg=0)(h6:1<=pg):(Vm.new n pg rm).ldE a≠0:=by
 have hd:n/pg*pg=n:=by have:=ζx n pg;rw[h5,ζJ]at this;omega
 have e1:a/pg<n/pg:=(ζ4 h6).2 (by rw[hd];exact ha);unfold Vm.ldE;rw[μ ⟨ψr _,by exact_mod_cast ha⟩]
 show frE (List.replicate (n/pg) 0) ((a/pg:Nat):Int)≠0
 rw[VP8 (by rw[ζC];exact e1),VBu];decide
theorem ZzW{n pg rm base:Nat}(h1:Y4M rm=true)(h2:Jnk pg=true)(h3:1<=n)(h4:n<=524288)(h5:n%pg=0)(hb:base%pg=0)(hn:base<=n)(h6:1<=pg):ShA base base (Vm.new n pg rm):=by
 refine⟨ZAR.new h1 h2 h3 h4 h5,hb,⟨π _,hn⟩,λa ha=>⟨λh=>absurd h (Q6y ha h5 h6),λ⟨k1,k2⟩=>?_⟩⟩;have k2:a/pg*pg<base:=k2;have:=(Vod (p:=a/pg) h6 hb).2 (ζc k1);omega
theorem Xei{c:HCf}(hc:c.Ok):Y4M c.fr=true:=by
 have h1:=hc.fr;have h2:=hc.wd;have h3:=hc.pw;have hp:=hc.pg1;have h4:1<=c.wd/c.pg:=(Nat.one_le_div_iff Ω).2 h3;have h5:1<=c.fr:=by unfold HCf.fr;split <;> (try split) <;> omega
 unfold Y4M;simp;omega
theorem YRa{c:HCf}(hc:c.Ok):c.pg+c.wd<=c.n/\c.n<=524288/\c.n%c.pg=0:=by
 have h2:=hc.wd;have h3:=hc.pw;have h4:=hc.dv;unfold HCf.n
 split
 ·refine⟨π _,by omega,?_⟩;rw[Nat.add_mod_left];exact h4
 ·refine⟨by omega,by omega,?_⟩;rw[ξO,Nat.add_mod_left,Nat.add_mod,h4];simp
theorem HIn.new{w:World}{c:HCf}(hc:c.Ok){A:HAd}{X:Nat->Prop}(hrow:Rec w A.hp 92 (hpL c A none 0 0))(hrn:Joi w A.rn A.q c.pg c.pg (c.pg+c.wd))(hrt:V5d w A.r A.g (List.replicate c.sl 0))(hv:QXZ w X A.q (Vm.new c.n c.pg c.fr))(hT:VRW w)
  (n1:A.hp≠A.r/\A.hp≠A.g/\A.hp≠A.rn/\A.hp≠1) (n2:A.r≠A.rn/\A.r≠1) (n3:A.g≠A.rn/\A.g≠1/\A.rn≠1)
  (hx:¬X A.hp/\¬X A.r/\¬X A.g/\¬X A.rn/\¬X 1):HIn w c (Gph.nil c.sl) ⟨A,X,c.pg,c.pg,Vm.new c.n c.pg c.fr,λ_=>0,none,0,0,0,0⟩:=by
 obtain⟨w1,w2,w3⟩:=YRa hc;have hp:=hc.pg1;refine⟨⟨hrow,hrn,?_,hT,n1,⟨λe=>hrt.dif e.symm,n2⟩,n3,hx⟩,⟨hv,⟨rfl,rfl,rfl⟩,ZzW (base:=c.pg) (n:=c.n) (Xei hc) hc.pg Ω w2 w3 (Nat.mod_self _) (show c.pg<=c.n by omega) hp,rfl⟩,⟨rfl,λx hx=>absurd hx Gph.nil_rd,λx hx=>absurd hx Gph.nil_rd,λx hx=>absurd hx Gph.nil_rd,λx hx=>absurd hx Gph.nil_rd,λx hx=>absurd hx Gph.nil_rd,λx y hx=>absurd hx Gph.nil_rd⟩,Gph.nil_ok _,hc,⟨π _,ζS _ _⟩,.inl rfl,ζC⟩
 have:HSt.rs ⟨A,X,c.pg,c.pg,Vm.new c.n c.pg c.fr,λ_=>0,none,0,0,0,0⟩ (Gph.nil c.sl)=List.replicate c.sl 0:=by
  unfold HSt.rs Gph.nil;rw[ψq];rfl
 rw[this];exact hrt
structure Zqv(w:World)(c:HCf)(s:HSt)(w':World):Prop where
 gr:Gr w w'
 i:HIn w' c (Gph.nil c.sl) s
 o:s.o=none
 lf:s.lf=0
 S:∀k,s.S k->w.heap.size<=k/\k<w'.heap.size
theorem QR7{n:Nat}(h:Jnk (n:Int)=true):n<=256:=by
 unfold Jnk at h;simp at h;omega
theorem Xcy(c:CfI)(hb:c.Bd)(hm:c.may=true)(w:World)(hT:VRW w):Calls prog 15 #[c.V] w λe w'=>∃s,e=.returned (.tuple #[.pointer (some ⟨s.A.hp,0,none⟩),.int .i64 0])/\Zqv w c.nat s w':=by
 have HC:=hid (λ(W:World)=>VZi c hb W);rw[hm]at HC;simp only[if_true]at HC;have Z:=CfI.may_ok hm;have Xx:c.base=true:=by unfold CfI.may at hm;simp at hm;exact hm.1
 rw[CfI.nat_V Xx]at HC⊢;generalize c.nat=d at Z HC⊢;clear hb hm Xx c;have Ys:=hid Z;have HT:=hid hT;obtain⟨p1,p2,p3⟩:=YRa Z;have hp:=Z.pg1;have hwd:=Z.wd;have hpw:=Z.pw;have Yl:=QR7 Z.pg;have Xl:=hid (λ(W:World)=>Qa3 Z.bk hp Z.ah Ω W);have Xd:=hid (λ(W:World)=>ZEa (Xei Z) Z.pg (show 1<=d.n by omega) p2 p3 hp Yl W);have Yo:=hid (λ(W:World)=>YuH Z.sl.1 Z.sl.2 W)
 have hN:(d.kd=3/\((d.kd:Int) !=3)=false/\(d.n:Int)=(d.pg:Int)+d.wd)\/(d.kd≠3/\((d.kd:Int) !=3)=true/\(d.n:Int)=(d.pg:Int)+d.wd+d.wd):=by
  unfold HCf.n;by_cases h:d.kd=3
  ·exact .inl ⟨h,by rw[h];rfl,by rw[μ h];push_cast;rfl⟩
  ·exact .inr ⟨h,ψd.2 Ω,by rw[ϑ h];push_cast;rfl⟩
 have Yu:=hid (Rec.new w 41 (X2H d));have Yv:=hid ((Gr.refl w).alloc (.cells (X2H d).toArray 41));obtain⟨n,hn⟩:∃n,n=d.n:=⟨_,rfl⟩;obtain⟨fr,Xr⟩:∃fr,fr=d.fr:=⟨_,rfl⟩;rw[<-hn]at hN Xd p1 p2;rw[<-Xr]at Xd Xl;have Xy:=hid (ν hn Xr);have Yi:=hT.lt;have Yx:=hid Yi;unfold Jdq at HC Xl⊢;unfold X2H at *
 clear Z hT p3 hn Xr;rcases hN with⟨-,k3,hN⟩|⟨-,k3,hN⟩
 all_goals
  rw[hN]at Xd;clear hN Yi;go_enter func15,ntmps15;go_upto_region 8 with(go_at_call 38;refine(HC.o _).mono ?_;rintro e w1 ⟨rfl,hg⟩;have Yp:=hid (Yv.o.trans hg);have r1:=Yu.o.gr hg;have Xu:=hid r1;have c0:=r1.cc 0;have c1:=r1.cc 1;have c2:=r1.cc 2;have c3:=r1.cc 3;have c4:=r1.cc 4;have c5:=r1.cc 5;have c6:=r1.cc 6;have c7:=r1.cc 7;have cl:=r1.lt;clear r1 hg);have I:=Rec.new w1 92 [.int .i64 d.kd,.int .i64 d.pg,.int .i64 d.bk,.int .i64 d.wd,.int .i64 d.sl,.int .i64 d.st,.int .i64 d.ah,.float .f64 d.tr,.pointer none,.pointer none,.pointer none,.pointer none,.int .i64 0,.int .i64 0];have Xf:=(Gr.refl w1).alloc (.cells #[.int .i64 d.kd,.int .i64 d.pg,.int .i64 d.bk,.int .i64 d.wd,.int .i64 d.sl,.int .i64 d.st,.int .i64 d.ah,.float .f64 d.tr,.pointer none,.pointer none,.pointer none,.pointer none,.int .i64 0,.int .i64 0] 92);have Xj:=η w1 (.cells #[.int .i64 d.kd,.int .i64 d.pg,.int .i64 d.bk,.int .i64 d.wd,.int .i64 d.sl,.int .i64 d.st,.int .i64 d.ah,.float .f64 d.tr,.pointer none,.pointer none,.pointer none,.pointer none,.int .i64 0,.int .i64 0] 92);obtain⟨w2,Yj⟩:∃w2,w2=w1.alloc (.cells #[.int .i64 d.kd,.int .i64 d.pg,.int .i64 d.bk,.int .i64 d.wd,.int .i64 d.sl,.int .i64 d.st,.int .i64 d.ah,.float .f64 d.tr,.pointer none,.pointer none,.pointer none,.pointer none,.int .i64 0,.int .i64 0] 92):=⟨_,rfl⟩;rw[<-Yj]at I Xf Xj⊢;have Yg:=hid I;have Yr:=hid Xf;have Xm:=hid Xj;have M:=hid (Xu.o.gr Xf);obtain⟨hb,Xp⟩:∃hb,hb=w1.heap.size:=⟨_,rfl⟩;rw[<-Xp]at Yg Xm⊢;have Xo:=hid Xp;clear I Xf Xj Yj Xp c0 c1 c2 c3 c4 c5 c6 c7 cl;have J:Hid (¬w.heap.size=hb):=⟨λe=>by have:=Xu.o.lt;rw[<-Xo.o]at this;omega⟩;obtain⟨Sx,Y,HS⟩:=ZJV.start λW'=>XF4 (λk=>k=hb) w2 W';have y0:=ZJV.fact Y λ_ h=>(M.o.touch h J.o).cell (j:=0) rfl;have y1:=ZJV.fact Y λ_ h=>(M.o.touch h J.o).cell (j:=1) rfl;have y2:=ZJV.fact Y λ_ h=>(M.o.touch h J.o).cell (j:=2) rfl;have y3:=ZJV.fact Y λ_ h=>(M.o.touch h J.o).cell (j:=3) rfl;have y4:=ZJV.fact Y λ_ h=>(M.o.touch h J.o).cell (j:=4) rfl;have y5:=ZJV.fact Y λ_ h=>(M.o.touch h J.o).cell (j:=5) rfl;have y6:=ZJV.fact Y λ_ h=>(M.o.touch h J.o).cell (j:=6) rfl;have y7:=ZJV.fact Y λ_ h=>(M.o.touch h J.o).cell (j:=7) rfl;have N:=HS.o _ ((Gr.refl w2).drew.touch _);have E:Inhabited (ZJV Sx):=⟨⟨_,N⟩⟩;clear Y;refine Vv2 Sx 13 [([0,1,2,3,4],5),([],6),([7,8,9,10,11],12)] [] (by kernel_rfl) (by kernel_rfl) N ?_;refine XGW ?_
  try simp only[XZy,ζ,ξ]
  repeat(go_big_quiet_step (fail))
  refine θ ?_;go_wp2_with((go_at_call 40;refine(Xl.o _).mono ?_;rintro e w3 ⟨rfl,hg⟩;have B:=hid ((Gr.refl w2).drew.trans hg);clear hg));refine⟨.inr (ZJV.of (HS.o _ (B.o.touch _))),?_⟩;refine XGW ?_
  try simp only[XZy,ζ,ξ]
  repeat(go_big_quiet_step (fail))
  refine θ ?_;go_wp2_with((go_at_call 39;refine(Xd.o _).mono ?_;rintro e w4 ⟨q,rfl,hg,hv⟩;have Za:=hid hv;have Ya:=hid hg;have Xa:=hid (B.o.trans hg);have r4:=Yg.o.gr (B.o.trans hg);have Ym:=hid r4;have z8:=r4.cc 8;have zf:=r4.free;have zl:=r4.lt;clear hg hv r4));refine⟨.inr (ZJV.of (HS.o _ (Xa.o.touch _))),?_⟩;refine XGW ?_
  try simp only[XZy,ζ,ξ]
  repeat(go_big_quiet_step (fail))
  refine θ ?_;go_wp2_with(fail);refine⟨.inr (ZJV.of (HS.o _ ((Xa.o.touch (λk=>k=hb)).setCell (a:=⟨hb,8,none⟩) (λ_=>rfl) _))),?_⟩;refine Z9U ?_
  try simp only[XZy]
  repeat(go_big_quiet_step (fail))
  refine θ ?_;refine β ?_;clear y0 y1 y2 y3 y4 y5 y6 y7 N E;clear HS Sx;clear z8 zf zl;have Xh:=Ym.o.set 8 (.pointer (some ⟨q,0,none⟩));have Xb:=(XF4.refl (λk=>k=hb) w4).setCell (a:=⟨hb,8,none⟩) (λ_=>rfl) (.pointer (some ⟨q,0,none⟩));obtain⟨w5,Yb⟩:∃w5,w5=w4.setCell ⟨hb,8,none⟩ (.pointer (some ⟨q,0,none⟩)):=⟨_,rfl⟩;rw[<-Yb]at Xh Xb⊢;have Yq:=hid Xh;have Xk:=hid Xb;have Xq:=(M.o.gr Xa.o).touch Xb J.o;have Zc:=hid Xq;have c4:=Xq.cc 4;clear Xh Xb Yb Xq;go_upto_region 10 with(go_at_call 41;refine(Yo.o _).mono ?_;rintro e w6 ⟨r,g,rfl,hg,hr,Yc,I⟩;have Yf:=hid (ν hr (ν Yc I));have O:=hid hg;have r6:=Yq.o.gr hg;have Zb:=hid r6;have z9:=r6.cc 9;have zf:=r6.free;have zl:=r6.lt;clear hg hr Yc I r6);clear z9 zf zl c4;have Xs:=Zb.o.set 9 (.pointer (some ⟨r,0,none⟩));have Xe:=(XF4.refl (λk=>k=hb) w6).setCell (a:=⟨hb,9,none⟩) (λ_=>rfl) (.pointer (some ⟨r,0,none⟩));obtain⟨w7,Xz⟩:∃w7,w7=w6.setCell ⟨hb,9,none⟩ (.pointer (some ⟨r,0,none⟩)):=⟨_,rfl⟩;rw[<-Xz]at Xs Xe⊢;have Xc:=hid Xe;have Yd:Hid (Rec w7 hb 92 [.int .i64 d.kd,.int .i64 d.pg,.int .i64 d.bk,.int .i64 d.wd,.int .i64 d.sl,.int .i64 d.st,.int .i64 d.ah,.float .f64 d.tr,.pointer (some ⟨q,0,none⟩),.pointer (some ⟨r,0,none⟩),.pointer none,.pointer none,.int .i64 0,.int .i64 0]):=⟨Xs⟩;have Xw:=hid ((Zc.o.gr O.o).touch Xe J.o);clear Xs Xe Xz;have Xi:Hid (hb<w3.heap.size):=⟨by have:=B.o.size;rw[Xm.o]at this;rw[Xo.o]at this⊢;omega⟩
  have Xv:Hid (QXZ w7 (ZOk (λk=>w3.heap.size<=k) w4) q (Vm.new n d.pg fr)):=⟨by
   have h1:=Za.o.cut.touch Xk.o (λk hk _ e=>by have:=hk.1;have:=Xi.o;omega)
   exact(h1.gr O.o).touch Xc.o (λk hk _ e=>by have:=hk.1;have:=Xi.o;omega)⟩
  have Yn:Hid (∀W,Gr w7 W->Calls prog 42 #[.pointer (some ⟨q,0,none⟩),.int .i64 d.pg,.int .i64 ((d.pg:Int)+d.wd)] W λe w'=>∃rn,e=.returned (.tuple #[.pointer (some ⟨rn,0,none⟩),.int .i64 0])/\Gr W w'/\W.heap.size<=rn/\Joi w' rn q d.pg d.pg (d.pg+d.wd)):=⟨λW gg=>by
   have:=YN8 (base:=d.pg) (lim:=d.pg+d.wd) (Xv.o.gr gg) (show n≠0 by omega) Ω (show d.pg+d.wd<=n from p1);rw[show (((d.pg+d.wd:Nat):Int))=(d.pg:Int)+d.wd by push_cast;rfl]at this
   exact this⟩
  obtain⟨Sx,Y,HS⟩:=ZJV.start λW'=>(∃v:Value,Rec W' hb 92 [.int .i64 d.kd,.int .i64 d.pg,.int .i64 d.bk,.int .i64 d.wd,.int .i64 d.sl,.int .i64 d.st,.int .i64 d.ah,.float .f64 d.tr,.pointer (some ⟨q,0,none⟩),.pointer (some ⟨r,0,none⟩),v,.pointer none,.int .i64 0,.int .i64 0])/\XF4 (λk=>k=hb) w7 W';have y8:=ZJV.fact Y λ_ h=>by obtain⟨⟨v,h⟩,-⟩:=h;exact h.cc 8
  have y1:=ZJV.fact Y λ_ h=>(Xw.o.touch h.2 J.o).cell (j:=1) rfl;have y3:=ZJV.fact Y λ_ h=>(Xw.o.touch h.2 J.o).cell (j:=3) rfl;have N:=HS.o _ (⟨⟨_,Yd.o.gr (Gr.refl w7).drew⟩,(Gr.refl w7).drew.touch _⟩);have E:Inhabited (ZJV Sx):=⟨⟨_,N⟩⟩;clear Y;refine Vv2 Sx 19 [([0,1,2,3,4,5,6,7,8,9,10,11],12),([13,14,15,16,17],18)] [] (by kernel_rfl) (by kernel_rfl) N ?_;refine XGW ?_
  try simp only[XZy,ζ,ξ]
  repeat(go_big_quiet_step (fail))
  refine θ ?_;go_wp2_with((go_at_call 42;refine(Yn.o _ (Gr.refl w7).drew).mono ?_;rintro e w8 ⟨rn,rfl,hg,G,Yh⟩;have U:=hid ((Gr.refl w7).drew.trans hg);have Yk:=hid (ν G Yh);have r8:=Yd.o.gr ((Gr.refl w7).drew.trans hg);have Xn:=hid r8;have Yw:=r8.cc 10;have zf:=r8.free;have zl:=r8.lt;clear hg G Yh r8));refine⟨.inr (ZJV.of (HS.o _ (⟨⟨_,Xn.o⟩,U.o.touch _⟩))),?_⟩;refine XGW ?_
  try simp only[XZy,ζ,ξ]
  repeat(go_big_quiet_step (fail))
  refine θ ?_;go_wp2_with(fail);refine⟨.inr (ZJV.of (HS.o _ (⟨⟨_,Xn.o.set 10 (.pointer (some ⟨rn,0,none⟩))⟩,(U.o.touch (λk=>k=hb)).setCell (a:=⟨hb,10,none⟩) (λ_=>rfl) _⟩))),?_⟩;refine Z9U ?_
  try simp only[XZy]
  repeat(go_big_quiet_step (fail))
  refine θ ?_;refine β ?_;clear y8 y1 y3 N E;clear HS Sx;clear Yw zf zl;go_wp2;go_ret2;have Yz:=Xn.o.set 10 (.pointer (some ⟨rn,0,none⟩));have L:=(XF4.refl (λk=>k=hb) w8).setCell (a:=⟨hb,10,none⟩) (λ_=>rfl) (.pointer (some ⟨rn,0,none⟩));have Xg:=Yp.o;have z1:=Xg.size;have z2:=Xm.o;have z34:=Ya.o.size;have z3:=B.o.size;have hh:=Xo.o;have zt5:=Xk.o.size;have z56:=O.o.size;have zt7:=Xc.o.size;have z78:=U.o.size;obtain⟨Ye,l1,l2⟩:=Yf.o;obtain⟨Yy,G⟩:=Yk.o;have l3:w7.heap.size<=rn:=Yy;have lr:=Ye.lt;have Yt:=Yx.o;have lb:=Xi.o
  have Xt:Gr w (w8.setCell ⟨hb,10,none⟩ (.pointer (some ⟨rn,0,none⟩))):=by
   have t1:XF4 (λk=>k=hb) w2 _:=(((Xa.o.touch (λk=>k=hb)).trans Xk.o).trans (O.o.touch _)).trans ((Xc.o.trans (U.o.touch _)).trans L);have t2:XF4 (λk=>k=hb) w _:=((Xg.trans Yr.o).touch (λk=>k=hb)).trans t1;exact(t2.mono (T:=λ_=>False) (λk hk e=>by omega)).gr
  have hsz:w8.heap.size<=(w8.setCell ⟨hb,10,none⟩ (.pointer (some ⟨rn,0,none⟩))).heap.size:=L.size
  have hI:=HIn.new (w:=w8.setCell ⟨hb,10,none⟩ (.pointer (some ⟨rn,0,none⟩))) Ys.o (A:=⟨hb,q,r,g,rn⟩) (X:=ZOk (λk=>w3.heap.size<=k) w4) Yz (G.touch L (λe=>by omega)) (((Ye.touch Xc.o (λe=>by omega) (λe=>by omega)).gr U.o).touch L (λe=>by omega) (λe=>by omega))
   (by have:=((Xv.o.gr U.o).touch L (λk hk _ e=>by have:=hk.1;omega));rw[Xy.o.1,Xy.o.2]at this;exact this) (Xt.tab Yt HT.o)
   ⟨show hb≠r by omega,show hb≠g by omega,show hb≠rn by omega,show hb≠_ by omega⟩ ⟨show r≠rn by omega,show r≠_ by omega⟩ ⟨show g≠rn by omega,show g≠_ by omega,show rn≠_ by omega⟩
   ⟨λe=>by have:w3.heap.size<=hb:=e.1;omega,λe=>by have:r<w4.heap.size:=e.2;omega,λe=>by have:g<w4.heap.size:=e.2;omega,λe=>by have:rn<w4.heap.size:=e.2;omega,λe=>by have:w3.heap.size<=1:=e.1;omega⟩
  refine⟨_,rfl,Xt,hI,rfl,rfl,λk hk=>?_⟩;rcases hk with hk|hk|hk|hk|hk
  ·have h1:w3.heap.size<=k:=hk.1;have h2:k<w4.heap.size:=hk.2;omega
  ·have hk:k=hb:=hk;omega
  ·have hk:k=g:=hk;omega
  ·have hk:k=r:=hk;omega
  ·have hk:k=rn:=hk;have:=G.lt;omega
end
section
open Go.RowKit Go.Shelf Word
structure HLv(w0:World)(K:Nat->Prop)(c:HCf)(hb:Nat)(g:Gph)(w:World):Prop where
 gr:Gr w0 w
 ex:∃s:HSt,s.A.hp=hb/\HIn w c g s/\(s.o=none↔s.lf=0)/\∀k,s.S k->w0.heap.size<=k/\¬K k
 kl:∀k,K k->k<w.heap.size
def hlT(w0:World)(K:Nat->Prop)(k:Nat):Prop:=w0.heap.size<=k/\¬K k
section
variable {w0 w w':World} {K K':Nat->Prop} {c:HCf} {hb:Nat} {g g':Gph}
theorem HSt.cut_S{s:HSt}(h:HIn w c g s):∀k,(s.cut w).S k->s.S k/\k<w.heap.size:=λk hk=>by
 obtain⟨l1,l2,l3,l4,l5⟩:=h.com.lt;rcases hk with hk|hk|hk|hk|hk
 ·exact⟨.inl hk.1,hk.2⟩
 ·exact⟨.inr (.inl hk),by rw[hk];exact l1⟩
 ·exact⟨.inr (.inr (.inl hk)),by rw[hk];exact l3⟩
 ·exact⟨.inr (.inr (.inr (.inl hk))),by rw[hk];exact l2⟩
 ·exact⟨.inr (.inr (.inr (.inr hk))),by rw[hk];exact l4⟩
theorem HLv.own(h:HLv w0 K c hb g w)(gr:Gr w w')(hK:∀k,K' k->K k\/(w.heap.size<=k/\k<w'.heap.size)):HLv w0 K' c hb g w':=by
 obtain⟨h1,⟨s,e1,e2,e3,e4⟩,h3⟩:=h;refine⟨h1.trans gr,⟨s.cut w,e1,e2.cut.gr gr,e3,λk hk=>?_⟩,λk hk=>?_⟩
 ·obtain⟨k1,k2⟩:=HSt.cut_S e2 k hk;refine⟨(e4 k k1).1,λhk'=>?_⟩;rcases hK k hk' with h4|h4
  ·exact(e4 k k1).2 h4
  ·omega
 ·rcases hK k hk with h4|h4
  ·exact ω (h3 k h4) gr.size
  ·exact h4.2
theorem HLv.get(h:HLv w0 K c hb g w)(gr:Gr w w'):HLv w0 K c hb g w':=h.own gr (λ_ h=>.inl h)
theorem HLv.res{s s':HSt}(h1:Gr w0 w)(h3:∀k,K k->k<w.heap.size)(e1:s.A.hp=hb)(e4:∀k,s.S k->w0.heap.size<=k/\¬K k)(r:Xfw w c s g' s' w'):XF4 (hlT w0 K) w w'/\HLv w0 K c hb g' w':=by
 have t:XF4 (hlT w0 K) w w':=r.t.mono (λk _ hk=>e4 k hk);refine⟨t,?_,⟨s',by rw[r.hp];exact e1,r.i,r.o,λk hk=>?_⟩,λk hk=>ω (h3 k hk) t.size⟩
 ·exact((h1.touch (hlT w0 K)).trans t |>.mono (T:=λ_=>False) (λk hk e=>by have:=e.1;omega)).gr
 ·rcases r.S k hk with hk|hk
  ·exact e4 k hk
  ·exact⟨by have:=h1.size;omega,λh=>by have:=h3 k h;omega⟩
theorem HLv.new{s:HSt}(r:Zqv w0 c s w'):HLv w0 (λ_=>False) c s.A.hp (Gph.nil c.sl) w':=
 ⟨r.gr,⟨s,rfl,r.i,⟨λ_=>r.lf,λ_=>r.o⟩,λk hk=>⟨(r.S k hk).1,id⟩⟩,λ_ h=>h.elim⟩
theorem HLv.alloc(h:HLv w0 K c hb g w)(a:Int)(x:Hdr):Calls prog 21 #[.pointer (some ⟨hb,0,none⟩),.int .i64 a,X79 x] w λe w'=>e=.returned (.int .i64 (g.alE c.wd a x))/\XF4 (hlT w0 K) w w'/\HLv w0 K c hb (g.alG c.wd a x) w':=by
 obtain⟨h1,⟨s,rfl,e2,e3,e4⟩,h3⟩:=h;refine(J6F e2 e3 a x).mono ?_;rintro e w' ⟨rfl,s',r⟩;exact⟨rfl,HLv.res h1 h3 rfl e4 r⟩
end
end
section
open Go.RowKit Go.Shelf Word
def HLo(w0:World)(K:Nat->Prop)(c:HCf)(hb:Nat)(w:World)(v:Value)(g':Gph)(e:Ending)(w':World):Prop:=e=.returned v/\XF4 (hlT w0 K) w w'/\HLv w0 K c hb g' w'
section
variable {w0 w w':World} {K:Nat->Prop} {c:HCf} {hb:Nat} {g g':Gph} {v:Value} {f:FuncId} {args:Array Value}
theorem HLv.of_op(h:HLv w0 K c hb g w)(hc:∀s:HSt,s.A.hp=hb->HIn w c g s->(s.o=none↔s.lf=0)->Calls prog f args w λe w'=>e=.returned v/\HOp w c s g' w'):Calls prog f args w (HLo w0 K c hb w v g'):=by
 obtain⟨h1,⟨s,e1,e2,e3,e4⟩,h3⟩:=h;refine(hc s e1 e2 e3).mono ?_;rintro e w' ⟨rfl,s',r,-⟩;exact⟨rfl,HLv.res h1 h3 e1 e4 r⟩
theorem HLv.getW(h:HLv w0 K c hb g w)(a i:Int):Calls prog 72 #[.pointer (some ⟨hb,0,none⟩),.int .i64 a,.int .i64 i] w (HLo w0 K c hb w (.tuple #[.int .u64 (g.fdV a i 3:Nat),.int .i64 (g.fdE a i 3)]) g):=h.of_op (λ_ e1 e2 e3=>e1▸J4u e2 e3 a i)
theorem HLv.getF(h:HLv w0 K c hb g w)(a i:Int):Calls prog 73 #[.pointer (some ⟨hb,0,none⟩),.int .i64 a,.int .i64 i] w (HLo w0 K c hb w (.tuple #[.float .f64 (g.fdV a i 2),.int .i64 (g.fdE a i 2)]) g):=h.of_op (λ_ e1 e2 e3=>e1▸QNL e2 e3 a i)
theorem HLv.setW(h:HLv w0 K c hb g w)(a i:Int){x:Nat}(hx:x<18446744073709551616):Calls prog 77 #[.pointer (some ⟨hb,0,none⟩),.int .i64 a,.int .i64 i,.int .u64 x] w (HLo w0 K c hb w (.int .i64 (g.fdE a i 3)) (g.wrG a i 3 x)):=h.of_op (λ_ e1 e2 e3=>e1▸Vld e2 e3 a i hx)
theorem HLv.setF(h:HLv w0 K c hb g w)(a i:Int){x:Nat}(hx:x<18446744073709551616):Calls prog 78 #[.pointer (some ⟨hb,0,none⟩),.int .i64 a,.int .i64 i,.float .f64 x] w (HLo w0 K c hb w (.int .i64 (g.fdE a i 2)) (g.wrG a i 2 x)):=h.of_op (λ_ e1 e2 e3=>e1▸Xe2 e2 e3 a i hx)
theorem HLv.load(h:HLv w0 K c hb g w)(a b i:Int):Calls prog 33 #[.pointer (some ⟨hb,0,none⟩),.int .i64 a,.int .i64 b,.int .i64 i] w (HLo w0 K c hb w (.int .i64 (g.loE a b i)) (g.loG a b i)):=h.of_op (λ_ e1 e2 e3=>e1▸V9V e2 e3 a b i)
theorem HLv.stor(h:HLv w0 K c hb g w)(a i b:Int):Calls prog 36 #[.pointer (some ⟨hb,0,none⟩),.int .i64 a,.int .i64 i,.int .i64 b] w (HLo w0 K c hb w (.int .i64 (g.stE a i b)) (g.stG a i b)):=h.of_op (λ_ e1 e2 e3=>e1▸QmE e2 e3 a i b)
theorem HLv.copy(h:HLv w0 K c hb g w)(a b:Int):Calls prog 35 #[.pointer (some ⟨hb,0,none⟩),.int .i64 a,.int .i64 b] w (HLo w0 K c hb w (.int .i64 (g.two a b 0)) (g.cpG a b)):=h.of_op (λ_ e1 e2 e3=>e1▸Xxc e2 e3 a b)
theorem HLv.clr(h:HLv w0 K c hb g w)(a:Int):Calls prog 28 #[.pointer (some ⟨hb,0,none⟩),.int .i64 a] w (HLo w0 K c hb w (.int .i64 (g.slE a)) (g.clG a)):=h.of_op (λ_ e1 e2 e3=>e1▸JfK e2 e3 a)
theorem HLv.shap(h:HLv w0 K c hb g w)(a:Int):Calls prog 26 #[.pointer (some ⟨hb,0,none⟩),.int .i64 a] w (HLo w0 K c hb w (.tuple #[X79 (g.shH a),.int .i64 (g.shE a)]) g):=h.of_op (λ_ e1 e2 e3=>e1▸VcO e2 e3 a)
theorem HLv.allo(h:HLv w0 K c hb g w)(a:Int)(x:Hdr):Calls prog 21 #[.pointer (some ⟨hb,0,none⟩),.int .i64 a,X79 x] w (HLo w0 K c hb w (.int .i64 (g.alE c.wd a x)) (g.alG c.wd a x)):=h.alloc a x
end
end
section
open Go.RowKit Go.Shelf Word
structure YbM(w0:World)(K:Nat->Prop)(c:HCf)(hb lb hd at_ off:Nat)(g:Gph)(w:World):Prop where
 hv:HLv w0 K c hb g w
 row:Rec w lb 77 [.pointer (some ⟨hb,0,none⟩),.int .i64 hd,.int .i64 at_,.int .i64 off]
 kl:K lb
section
variable {w0 w w':World} {K:Nat->Prop} {c:HCf} {hb lb hd at_ off:Nat} {g g':Gph}
theorem YbM.next(h:YbM w0 K c hb lb hd at_ off g w)(t:XF4 (hlT w0 K) w w')(hl:HLv w0 K c hb g' w'):YbM w0 K c hb lb hd at_ off g' w':=⟨hl,h.row.touch t (λe=>e.2 h.kl),h.kl⟩
theorem YbM.gr(h:YbM w0 K c hb lb hd at_ off g w)(gr:Gr w w'):YbM w0 K c hb lb hd at_ off g w':=⟨h.hv.get gr,h.row.gr gr,h.kl⟩
theorem JY5(h:YbM w0 K c hb lb hd at_ off g w):Calls prog 30 #[.pointer (some ⟨lb,0,none⟩)] w λe w'=>e=.returned (.bool false)/\w=w':=by
 have c0:=h.row.cc 0;clear h;go_enter func30,ntmps30;go_wp2;go_ret;exact⟨rfl,rfl⟩
theorem ZRU(h:YbM w0 K c hb lb hd at_ off g w):Calls prog 29 #[.pointer (some ⟨lb,0,none⟩)] w (HLo w0 K c hb w (.tuple #[]) (YYI at_ off g)):=by
 have HQ:=hid h;have HT:=hid (XF4.refl (hlT w0 K) w);have c0:=h.row.cc 0;have c1:=h.row.cc 1;have c2:=h.row.cc 2;have c3:=h.row.cc 3;have cl:=h.row.lt;clear h;unfold HLo;go_enter func29,ntmps29;go_upto_region 0 with(fail);clear c0 c1 c2 c3 cl;obtain⟨Sx,Y,HS⟩:=ZJV.start λW'=>Rec W' lb 77 [.pointer (some ⟨hb,0,none⟩),.int .i64 hd,.int .i64 at_,.int .i64 off];have y0:=ZJV.fact Y λ_ h=>h.cell (j:=0) rfl;have y2:=ZJV.fact Y λ_ h=>h.cell (j:=2) rfl;have X:=HS.o _ (HQ.o.row.gr (Gr.refl _).drew);have Z:Inhabited (ZJV Sx):=⟨⟨_,X⟩⟩;clear Y;refine Vv2 Sx 8 [([0,1,2,3,4,5,6,7],8)] [] (by kernel_rfl) (by kernel_rfl) X ?_;refine XGW ?_
 try simp only[XZy,ζ,ξ]
 repeat(go_big_quiet_step (fail))
 refine θ ?_;go_wp2_with((go_at_call 28;refine((HQ.o.gr (Gr.refl _).drew).hv.clr _).mono ?_;rintro e w1 ⟨rfl,ht,hl⟩;replace HT:=hid ((HT.o.trans ((Gr.refl _).drew.touch _)).trans ht);replace HQ:=hid ((HQ.o.gr (Gr.refl _).drew).next ht hl);clear ht hl));refine⟨.inl trivial,?_⟩;refine Z9U ?_
 try simp only[XZy]
 repeat(go_big_quiet_step (fail))
 refine θ ?_;refine β ?_;clear y0 y2 X Z;clear HS Sx;have c0:=HQ.o.row.cc 0;have c1:=HQ.o.row.cc 1;have c2:=HQ.o.row.cc 2;have c3:=HQ.o.row.cc 3;have cl:=HQ.o.row.lt;go_upto_region 1 with(fail);clear c0 c1 c2 c3 cl;obtain⟨Sx,Y,HS⟩:=ZJV.start λW'=>Rec W' lb 77 [.pointer (some ⟨hb,0,none⟩),.int .i64 hd,.int .i64 at_,.int .i64 off];have y0:=ZJV.fact Y λ_ h=>h.cell (j:=0) rfl;have y3:=ZJV.fact Y λ_ h=>h.cell (j:=3) rfl;have X:=HS.o _ (HQ.o.row.gr (Gr.refl _).drew);have Z:Inhabited (ZJV Sx):=⟨⟨_,X⟩⟩;clear Y;refine Vv2 Sx 8 [([0,1,2,3,4,5,6,7],8)] [] (by kernel_rfl) (by kernel_rfl) X ?_;refine XGW ?_
 try simp only[XZy,ζ,ξ]
 repeat(go_big_quiet_step (fail))
 refine θ ?_;go_wp2_with((go_at_call 28;refine((HQ.o.gr (Gr.refl _).drew).hv.clr _).mono ?_;rintro e w1 ⟨rfl,ht,hl⟩;replace HT:=hid ((HT.o.trans ((Gr.refl _).drew.touch _)).trans ht);replace HQ:=hid ((HQ.o.gr (Gr.refl _).drew).next ht hl);clear ht hl));refine⟨.inl trivial,?_⟩;refine Z9U ?_
 try simp only[XZy]
 repeat(go_big_quiet_step (fail))
 refine θ ?_;refine β ?_;clear y0 y3 X Z;clear HS Sx;have c0:=HQ.o.row.cc 0;have c1:=HQ.o.row.cc 1;have c2:=HQ.o.row.cc 2;have c3:=HQ.o.row.cc 3;have cl:=HQ.o.row.lt;go_wp2
 go_end0
 exact⟨rfl,HT.o,HQ.o.hv⟩
theorem Jqm(h:YbM w0 K c hb lb hd at_ off g w)(u:FrameMode):CallsD prog 29 #[.pointer (some ⟨lb,0,none⟩)] u w λe u' w'=>u'=u/\HLo w0 K c hb w (.tuple #[]) (YYI at_ off g) e w':=by
 have HQ:=hid h;have HT:=hid (XF4.refl (hlT w0 K) w);have c0:=h.row.cc 0;have c1:=h.row.cc 1;have c2:=h.row.cc 2;have c3:=h.row.cc 3;have cl:=h.row.lt;clear h;unfold HLo
 go_enter_d func29,ntmps29
 go_upto_region 0 with(fail);clear c0 c1 c2 c3 cl;obtain⟨Sx,Y,HS⟩:=ZJV.start λW'=>Rec W' lb 77 [.pointer (some ⟨hb,0,none⟩),.int .i64 hd,.int .i64 at_,.int .i64 off];have y0:=ZJV.fact Y λ_ h=>h.cell (j:=0) rfl;have y2:=ZJV.fact Y λ_ h=>h.cell (j:=2) rfl;have X:=HS.o _ (HQ.o.row.gr (Gr.refl _).drew);have Z:Inhabited (ZJV Sx):=⟨⟨_,X⟩⟩;clear Y;refine Vv2 Sx 8 [([0,1,2,3,4,5,6,7],8)] [] (by kernel_rfl) (by kernel_rfl) X ?_;refine XGW ?_
 try simp only[XZy,ζ,ξ]
 repeat(go_big_quiet_step (fail))
 refine θ ?_;go_wp2_with((go_at_call 28;refine((HQ.o.gr (Gr.refl _).drew).hv.clr _).mono ?_;rintro e w1 ⟨rfl,ht,hl⟩;replace HT:=hid ((HT.o.trans ((Gr.refl _).drew.touch _)).trans ht);replace HQ:=hid ((HQ.o.gr (Gr.refl _).drew).next ht hl);clear ht hl));refine⟨.inl trivial,?_⟩;refine Z9U ?_
 try simp only[XZy]
 repeat(go_big_quiet_step (fail))
 refine θ ?_;refine β ?_;clear y0 y2 X Z;clear HS Sx;have c0:=HQ.o.row.cc 0;have c1:=HQ.o.row.cc 1;have c2:=HQ.o.row.cc 2;have c3:=HQ.o.row.cc 3;have cl:=HQ.o.row.lt;go_upto_region 1 with(fail);clear c0 c1 c2 c3 cl;obtain⟨Sx,Y,HS⟩:=ZJV.start λW'=>Rec W' lb 77 [.pointer (some ⟨hb,0,none⟩),.int .i64 hd,.int .i64 at_,.int .i64 off];have y0:=ZJV.fact Y λ_ h=>h.cell (j:=0) rfl;have y3:=ZJV.fact Y λ_ h=>h.cell (j:=3) rfl;have X:=HS.o _ (HQ.o.row.gr (Gr.refl _).drew);have Z:Inhabited (ZJV Sx):=⟨⟨_,X⟩⟩;clear Y;refine Vv2 Sx 8 [([0,1,2,3,4,5,6,7],8)] [] (by kernel_rfl) (by kernel_rfl) X ?_;refine XGW ?_
 try simp only[XZy,ζ,ξ]
 repeat(go_big_quiet_step (fail))
 refine θ ?_;go_wp2_with((go_at_call 28;refine((HQ.o.gr (Gr.refl _).drew).hv.clr _).mono ?_;rintro e w1 ⟨rfl,ht,hl⟩;replace HT:=hid ((HT.o.trans ((Gr.refl _).drew.touch _)).trans ht);replace HQ:=hid ((HQ.o.gr (Gr.refl _).drew).next ht hl);clear ht hl));refine⟨.inl trivial,?_⟩;refine Z9U ?_
 try simp only[XZy]
 repeat(go_big_quiet_step (fail))
 refine θ ?_;refine β ?_;clear y0 y3 X Z;clear HS Sx;have c0:=HQ.o.row.cc 0;have c1:=HQ.o.row.cc 1;have c2:=HQ.o.row.cc 2;have c3:=HQ.o.row.cc 3;have cl:=HQ.o.row.lt;go_wp2
 go_end0
 exact⟨rfl,HT.o,HQ.o.hv⟩
theorem YdF(h:YbM w0 K c hb lb hd at_ off g w){s:Int}(h0:g.shE s=0):Calls prog 31 #[.pointer (some ⟨lb,0,none⟩),.int .i64 s] w (HLo w0 K c hb w (.bool true) (g)):=by
 have HQ:=hid h;have HT:=hid (XF4.refl (hlT w0 K) w);have c0:=h.row.cc 0;have c1:=h.row.cc 1;have c2:=h.row.cc 2;have c3:=h.row.cc 3;have cl:=h.row.lt;clear h;unfold HLo;have X:=hid (λ(V:World) (hV:YbM w0 K c hb lb hd at_ off g V)=>hV.hv.shap s);unfold X79 at X;have d0:(g.shE s==0)=true:=by rw[ζZ];exact h0
 generalize g.shE s=E at X d0;generalize (g.shH s).p=h1 at X;generalize (g.shH s).f=h2 at X;generalize (g.shH s).k=h3 at X;clear h0;go_enter func31,ntmps31;go_wp2_with(go_at_call 26;refine(X.o _ HQ.o).mono ?_;rintro e w1 ⟨rfl,ht,hl⟩;replace HT:=hid (HT.o.trans ht);replace HQ:=hid (HQ.o.next ht hl);replace c0:=HQ.o.row.cc 0;replace c1:=HQ.o.row.cc 1;replace c2:=HQ.o.row.cc 2;replace c3:=HQ.o.row.cc 3;replace cl:=HQ.o.row.lt;clear ht hl);go_ret;exact⟨rfl,HT.o.trans (((Gr.refl _).alloc _).touch _),HQ.o.hv.get ((Gr.refl _).alloc _)⟩
theorem ZEA(h:YbM w0 K c hb lb hd at_ off g w){s:Int}(h0:¬g.shE s=0):Calls prog 31 #[.pointer (some ⟨lb,0,none⟩),.int .i64 s] w (HLo w0 K c hb w (.bool false) (g)):=by
 have HQ:=hid h;have HT:=hid (XF4.refl (hlT w0 K) w);have c0:=h.row.cc 0;have c1:=h.row.cc 1;have c2:=h.row.cc 2;have c3:=h.row.cc 3;have cl:=h.row.lt;clear h;unfold HLo;have X:=hid (λ(V:World) (hV:YbM w0 K c hb lb hd at_ off g V)=>hV.hv.shap s);unfold X79 at X;have d0:(g.shE s==0)=false:=by rw[ζy];exact h0
 generalize g.shE s=E at X d0;generalize (g.shH s).p=h1 at X;generalize (g.shH s).f=h2 at X;generalize (g.shH s).k=h3 at X;clear h0;go_enter func31,ntmps31;go_wp2_with(go_at_call 26;refine(X.o _ HQ.o).mono ?_;rintro e w1 ⟨rfl,ht,hl⟩;replace HT:=hid (HT.o.trans ht);replace HQ:=hid (HQ.o.next ht hl);replace c0:=HQ.o.row.cc 0;replace c1:=HQ.o.row.cc 1;replace c2:=HQ.o.row.cc 2;replace c3:=HQ.o.row.cc 3;replace cl:=HQ.o.row.lt;clear ht hl);go_ret;exact⟨rfl,HT.o.trans (((Gr.refl _).alloc _).touch _),HQ.o.hv.get ((Gr.refl _).alloc _)⟩
theorem VdK(h:YbM w0 K c hb lb hd at_ off g w)(s:Int):Calls prog 32 #[.pointer (some ⟨lb,0,none⟩),.int .i64 s] w (HLo w0 K c hb w (.tuple #[.int .u64 (g.fdV s 2 3:Nat),.float .f64 (g.fdV s 1 2)]) (g)):=by
 have HQ:=hid h;have HT:=hid (XF4.refl (hlT w0 K) w);have c0:=h.row.cc 0;have c1:=h.row.cc 1;have c2:=h.row.cc 2;have c3:=h.row.cc 3;have cl:=h.row.lt;clear h;unfold HLo;have Y:=hid (λ(V:World) (hV:YbM w0 K c hb lb hd at_ off g V)=>hV.hv.getW s 2);have X:=hid (λ(V:World) (hV:YbM w0 K c hb lb hd at_ off g V)=>hV.hv.getF s 1);generalize g.fdV s 2 3=x at Y⊢;generalize g.fdE s 2 3=e1 at Y;generalize g.fdV s 1 2=y at X⊢;generalize g.fdE s 1 2=e2 at X;go_enter func32,ntmps32
 go_wp2_with(first
  | (go_at_call 72;refine(Y.o _ HQ.o).mono ?_;rintro e w1 ⟨rfl,ht,hl⟩;replace HT:=hid (HT.o.trans ht);replace HQ:=hid (HQ.o.next ht hl);replace c0:=HQ.o.row.cc 0;replace c1:=HQ.o.row.cc 1;replace c2:=HQ.o.row.cc 2;replace c3:=HQ.o.row.cc 3;replace cl:=HQ.o.row.lt;clear ht hl)
  | (go_at_call 73;refine(X.o _ HQ.o).mono ?_;rintro e w1 ⟨rfl,ht,hl⟩;replace HT:=hid (HT.o.trans ht);replace HQ:=hid (HQ.o.next ht hl);replace c0:=HQ.o.row.cc 0;replace c1:=HQ.o.row.cc 1;replace c2:=HQ.o.row.cc 2;replace c3:=HQ.o.row.cc 3;replace cl:=HQ.o.row.lt;clear ht hl))
 go_ret2;exact⟨rfl,HT.o,HQ.o.hv⟩
theorem XSo(h:YbM w0 K c hb lb hd at_ off g w)(s:Int){x y:Nat}(hx:x<18446744073709551616)(hy:y<18446744073709551616):Calls prog 37 #[.pointer (some ⟨lb,0,none⟩),.int .i64 s,.int .u64 x,.float .f64 y] w (HLo w0 K c hb w (.tuple #[]) ((g.wrG s 2 3 x).wrG s 1 2 y)):=by
 have HQ:=hid h;have HT:=hid (XF4.refl (hlT w0 K) w);have c0:=h.row.cc 0;have c1:=h.row.cc 1;have c2:=h.row.cc 2;have c3:=h.row.cc 3;have cl:=h.row.lt;clear h;unfold HLo;have HX:=hid hx;have HY:=hid hy;clear hx hy;go_enter func37,ntmps37
 go_wp2_with(first
  | (go_at_call 77;refine(HQ.o.hv.setW _ _ HX.o).mono ?_;rintro e w1 ⟨rfl,ht,hl⟩;replace HT:=hid (HT.o.trans ht);replace HQ:=hid (HQ.o.next ht hl);replace c0:=HQ.o.row.cc 0;replace c1:=HQ.o.row.cc 1;replace c2:=HQ.o.row.cc 2;replace c3:=HQ.o.row.cc 3;replace cl:=HQ.o.row.lt;clear ht hl)
  | (go_at_call 78;refine(HQ.o.hv.setF _ _ HY.o).mono ?_;rintro e w1 ⟨rfl,ht,hl⟩;replace HT:=hid (HT.o.trans ht);replace HQ:=hid (HQ.o.next ht hl);replace c0:=HQ.o.row.cc 0;replace c1:=HQ.o.row.cc 1;replace c2:=HQ.o.row.cc 2;replace c3:=HQ.o.row.cc 3;replace cl:=HQ.o.row.lt;clear ht hl))
 go_end0
 exact⟨rfl,HT.o,HQ.o.hv⟩
theorem X3p(h:YbM w0 K c hb lb hd at_ off g w){x y:Nat}(hx:x<18446744073709551616)(hy:y<18446744073709551616)(he:g.alE c.wd at_ ⟨1,1,1⟩=0):Calls prog 10 #[.pointer (some ⟨lb,0,none⟩),.int .u64 x,.float .f64 y] w (HLo w0 K c hb w (.int .i64 0) (YNL hd at_ off x y c.wd g)):=by
 have HQ:=hid h;have HT:=hid (XF4.refl (hlT w0 K) w);have c0:=h.row.cc 0;have c1:=h.row.cc 1;have c2:=h.row.cc 2;have c3:=h.row.cc 3;have cl:=h.row.lt;clear h;unfold HLo;have HX:=hid hx;have HY:=hid hy;have HE:=hid he;have J:=hid (λ(V:World) (hV:YbM w0 K c hb lb hd at_ off g V)=>hV.hv.allo at_ ⟨1,1,1⟩);unfold X79 at J;dsimp only at J;rw[he]at J;have HP:Hid (YNL hd at_ off x y c.wd g=YYI at_ off (((((g.alG c.wd at_ ⟨1,1,1⟩).wrG at_ 2 3 x).wrG at_ 1 2 y).stG at_ 0 hd).cpG hd at_)):=⟨by unfold YNL;rw[μ he]⟩;rw[HP.o];clear hx hy he HE;go_enter func10,ntmps10;go_upto_region 3 with(go_at_call 30;refine(JY5 HQ.o).mono ?_;rintro e w1 ⟨rfl,rfl⟩);clear c0 c1 c2 c3 cl;obtain⟨Sx,X,HS⟩:=ZJV.start λW'=>Rec W' lb 77 [.pointer (some ⟨hb,0,none⟩),.int .i64 hd,.int .i64 at_,.int .i64 off];have y0:=ZJV.fact X λ_ h=>h.cell (j:=0) rfl;have y2:=ZJV.fact X λ_ h=>h.cell (j:=2) rfl;have Y:=HS.o _ (HQ.o.row.gr (Gr.refl _).drew);have Z:Inhabited (ZJV Sx):=⟨⟨_,Y⟩⟩;clear X;refine Vv2 Sx 11 [([0,1,2,3,4,5,6,7,8],9)] [10] (by kernel_rfl) (by kernel_rfl) Y ?_;refine XGW ?_
 try simp only[XZy,ζ,ξ]
 repeat(go_big_quiet_step (fail))
 refine θ ?_;go_wp2_with((go_at_call 21;refine(J.o _ (HQ.o.gr (Gr.refl _).drew)).mono ?_;rintro e w1 ⟨rfl,ht,hl⟩;replace HT:=hid ((HT.o.trans ((Gr.refl _).drew.touch _)).trans ht);replace HQ:=hid ((HQ.o.gr (Gr.refl _).drew).next ht hl);clear ht hl));refine⟨.inr (ZJV.of (HS.o _ (HQ.o.row))),?_⟩;refine Z9U ?_
 try simp only[XZy,ζ,ξ]
 repeat(go_big_quiet_step (fail))
 refine θ ?_;refine β ?_;clear y0 y2 Y Z;clear HS Sx;have c0:=HQ.o.row.cc 0;have c1:=HQ.o.row.cc 1;have c2:=HQ.o.row.cc 2;have c3:=HQ.o.row.cc 3;have cl:=HQ.o.row.lt;go_upto_region 7 with(go_at_call 37;refine(XSo HQ.o _ HX.o HY.o).mono ?_;rintro e w1 ⟨rfl,ht,hl⟩;replace HT:=hid (HT.o.trans ht);replace HQ:=hid (HQ.o.next ht hl);replace c0:=HQ.o.row.cc 0;replace c1:=HQ.o.row.cc 1;replace c2:=HQ.o.row.cc 2;replace c3:=HQ.o.row.cc 3;replace cl:=HQ.o.row.lt;clear ht hl);clear c0 c1 c2 c3 cl;obtain⟨Sx,X,HS⟩:=ZJV.start λW'=>Rec W' lb 77 [.pointer (some ⟨hb,0,none⟩),.int .i64 hd,.int .i64 at_,.int .i64 off];have y0:=ZJV.fact X λ_ h=>h.cell (j:=0) rfl;have y1:=ZJV.fact X λ_ h=>h.cell (j:=1) rfl;have y2:=ZJV.fact X λ_ h=>h.cell (j:=2) rfl;have Y:=HS.o _ (HQ.o.row.gr (Gr.refl _).drew);have Z:Inhabited (ZJV Sx):=⟨⟨_,Y⟩⟩;clear X;refine Vv2 Sx 12 [([0,1,2,3,4,5,6,7,8,9,10,11],12)] [] (by kernel_rfl) (by kernel_rfl) Y ?_;refine XGW ?_
 try simp only[XZy,ζ,ξ]
 repeat(go_big_quiet_step (fail))
 refine θ ?_;go_wp2_with((go_at_call 36;refine((HQ.o.gr (Gr.refl _).drew).hv.stor _ _ _).mono ?_;rintro e w1 ⟨rfl,ht,hl⟩;replace HT:=hid ((HT.o.trans ((Gr.refl _).drew.touch _)).trans ht);replace HQ:=hid ((HQ.o.gr (Gr.refl _).drew).next ht hl);clear ht hl));refine⟨.inl trivial,?_⟩;refine Z9U ?_
 try simp only[XZy]
 repeat(go_big_quiet_step (fail))
 refine θ ?_;refine β ?_;clear y0 y1 y2 Y Z;clear HS Sx;have c0:=HQ.o.row.cc 0;have c1:=HQ.o.row.cc 1;have c2:=HQ.o.row.cc 2;have c3:=HQ.o.row.cc 3;have cl:=HQ.o.row.lt;go_upto_region 8 with(fail);clear c0 c1 c2 c3 cl;obtain⟨Sx,X,HS⟩:=ZJV.start λW'=>Rec W' lb 77 [.pointer (some ⟨hb,0,none⟩),.int .i64 hd,.int .i64 at_,.int .i64 off];have y0:=ZJV.fact X λ_ h=>h.cell (j:=0) rfl;have y1:=ZJV.fact X λ_ h=>h.cell (j:=1) rfl;have y2:=ZJV.fact X λ_ h=>h.cell (j:=2) rfl;have Y:=HS.o _ (HQ.o.row.gr (Gr.refl _).drew);have Z:Inhabited (ZJV Sx):=⟨⟨_,Y⟩⟩;clear X;refine Vv2 Sx 12 [([0,1,2,3,4,5,6,7,8,9,10,11],12)] [] (by kernel_rfl) (by kernel_rfl) Y ?_;refine XGW ?_
 try simp only[XZy,ζ,ξ]
 repeat(go_big_quiet_step (fail))
 refine θ ?_;go_wp2_with((go_at_call 35;refine((HQ.o.gr (Gr.refl _).drew).hv.copy _ _).mono ?_;rintro e w1 ⟨rfl,ht,hl⟩;replace HT:=hid ((HT.o.trans ((Gr.refl _).drew.touch _)).trans ht);replace HQ:=hid ((HQ.o.gr (Gr.refl _).drew).next ht hl);clear ht hl));refine⟨.inl trivial,?_⟩;refine Z9U ?_
 try simp only[XZy]
 repeat(go_big_quiet_step (fail))
 refine θ ?_;refine β ?_;clear y0 y1 y2 Y Z;clear HS Sx;have c0:=HQ.o.row.cc 0;have c1:=HQ.o.row.cc 1;have c2:=HQ.o.row.cc 2;have c3:=HQ.o.row.cc 3;have cl:=HQ.o.row.lt;go_wp2_with(go_at_call 29;refine(ZRU HQ.o).mono ?_;rintro e w1 ⟨rfl,ht,hl⟩;replace HT:=hid (HT.o.trans ht);replace HQ:=hid (HQ.o.next ht hl);replace c0:=HQ.o.row.cc 0;replace c1:=HQ.o.row.cc 1;replace c2:=HQ.o.row.cc 2;replace c3:=HQ.o.row.cc 3;replace cl:=HQ.o.row.lt;clear ht hl);go_ret;exact⟨rfl,HT.o,HQ.o.hv⟩
theorem YKh(h:YbM w0 K c hb lb hd at_ off g w){x y:Nat}(hx:x<18446744073709551616)(hy:y<18446744073709551616)(he:¬g.alE c.wd at_ ⟨1,1,1⟩=0):Calls prog 10 #[.pointer (some ⟨lb,0,none⟩),.int .u64 x,.float .f64 y] w (HLo w0 K c hb w (.int .i64 (g.alE c.wd at_ ⟨1,1,1⟩)) (YNL hd at_ off x y c.wd g)):=by
 have HQ:=hid h;have HT:=hid (XF4.refl (hlT w0 K) w);have c0:=h.row.cc 0;have c1:=h.row.cc 1;have c2:=h.row.cc 2;have c3:=h.row.cc 3;have cl:=h.row.lt;clear h;unfold HLo;have HX:=hid hx;have HY:=hid hy;have HE:=hid he;have X:=hid (λ(V:World) (hV:YbM w0 K c hb lb hd at_ off g V)=>hV.hv.allo at_ ⟨1,1,1⟩);unfold X79 at X;dsimp only at X;have HP:Hid (YNL hd at_ off x y c.wd g=g/\g.alG c.wd at_ ⟨1,1,1⟩=g):=⟨by unfold YNL;rw[ϑ he],by unfold Gph.alG;rw[ϑ he]⟩;rw[HP.o.1];rw[HP.o.2]at X;have d0:(g.alE c.wd at_ ⟨1,1,1⟩ !=0)=true:=by rw[ψd];exact he
 generalize g.alE c.wd at_ ⟨1,1,1⟩=E at X d0⊢;clear hx hy he HE;go_enter func10,ntmps10;go_upto_region 3 with(go_at_call 30;refine(JY5 HQ.o).mono ?_;rintro e w1 ⟨rfl,rfl⟩);clear c0 c1 c2 c3 cl;obtain⟨Sx,Z,HS⟩:=ZJV.start λW'=>Rec W' lb 77 [.pointer (some ⟨hb,0,none⟩),.int .i64 hd,.int .i64 at_,.int .i64 off];have y0:=ZJV.fact Z λ_ h=>h.cell (j:=0) rfl;have y2:=ZJV.fact Z λ_ h=>h.cell (j:=2) rfl;have Y:=HS.o _ (HQ.o.row.gr (Gr.refl _).drew);have J:Inhabited (ZJV Sx):=⟨⟨_,Y⟩⟩;clear Z;refine Vv2 Sx 11 [([0,1,2,3,4,5,6,7,8],9)] [10] (by kernel_rfl) (by kernel_rfl) Y ?_;refine XGW ?_
 try simp only[XZy,ζ,ξ]
 repeat(go_big_quiet_step (fail))
 refine θ ?_;go_wp2_with((go_at_call 21;refine(X.o _ (HQ.o.gr (Gr.refl _).drew)).mono ?_;rintro e w1 ⟨rfl,ht,hl⟩;replace HT:=hid ((HT.o.trans ((Gr.refl _).drew.touch _)).trans ht);replace HQ:=hid ((HQ.o.gr (Gr.refl _).drew).next ht hl);clear ht hl));refine⟨.inr (ZJV.of (HS.o _ (HQ.o.row))),?_⟩;refine Z9U ?_
 try simp only[XZy,ζ,ξ]
 repeat(go_big_quiet_step (fail))
 refine θ ?_;refine β ?_;clear y0 y2 Y J;clear HS Sx;have c0:=HQ.o.row.cc 0;have c1:=HQ.o.row.cc 1;have c2:=HQ.o.row.cc 2;have c3:=HQ.o.row.cc 3;have cl:=HQ.o.row.lt;go_wp2;go_ret;exact⟨rfl,HT.o,HQ.o.hv⟩
end
end
section
open Go.RowKit Go.Shelf Word
section
variable {w0 w w':World} {K:Nat->Prop} {c:HCf} {hb lb hd at_ off:Nat} {g g':Gph}
theorem Jod(h:YbM w0 K c hb lb hd at_ off g w){i:Int}(h0:i<0):Calls prog 34 #[.pointer (some ⟨lb,0,none⟩),.int .i64 i] w (HLo w0 K c hb w (.bool false) (g)):=by
 have HQ:=hid h;have HT:=hid (XF4.refl (hlT w0 K) w);have c0:=h.row.cc 0;have c1:=h.row.cc 1;have c2:=h.row.cc 2;have c3:=h.row.cc 3;have cl:=h.row.lt;clear h;unfold HLo;go_enter func34,ntmps34;go_wp2;go_ret;exact⟨rfl,HT.o,HQ.o.hv⟩
theorem Qwn(h:YbM w0 K c hb lb hd at_ off g w){k:Nat}(hk:k<=9223372036854775807)(h0:(Xpk hd at_ k g).shE at_=0):Calls prog 34 #[.pointer (some ⟨lb,0,none⟩),.int .i64 k] w (HLo w0 K c hb w (.bool true) (Xpk hd at_ k g)):=by
 have HQ:=hid h;have HT:=hid (XF4.refl (hlT w0 K) w);have c0:=h.row.cc 0;have c1:=h.row.cc 1;have c2:=h.row.cc 2;have c3:=h.row.cc 3;have cl:=h.row.lt;clear h;unfold HLo;obtain⟨G,hG⟩:∃G,G=Xpk hd at_ k g:=⟨_,rfl⟩;rw[<-hG]at h0⊢;have H0:=hid h0;have HG:=hid hG;have V:¬(k:Int)<0:=Ω
 clear h0 hG;go_enter func34,ntmps34;go_upto_region 3 with(fail);clear c0 c1 c2 c3 cl;obtain⟨Sx,X,HS⟩:=ZJV.start λW'=>Rec W' lb 77 [.pointer (some ⟨hb,0,none⟩),.int .i64 hd,.int .i64 at_,.int .i64 off];have y0:=ZJV.fact X λ_ h=>h.cell (j:=0) rfl;have y1:=ZJV.fact X λ_ h=>h.cell (j:=1) rfl;have y2:=ZJV.fact X λ_ h=>h.cell (j:=2) rfl;have Y:=HS.o _ (HQ.o.row.gr (Gr.refl _).drew);have Z:Inhabited (ZJV Sx):=⟨⟨_,Y⟩⟩;clear X;refine Vv2 Sx 12 [([0,1,2,3,4,5,6,7,8,9,10,11],12)] [] (by kernel_rfl) (by kernel_rfl) Y ?_;refine XGW ?_
 try simp only[XZy,ζ,ξ]
 repeat(go_big_quiet_step (fail))
 refine θ ?_;go_wp2_with((go_at_call 35;refine((HQ.o.gr (Gr.refl _).drew).hv.copy _ _).mono ?_;rintro e w1 ⟨rfl,ht,hl⟩;replace HT:=hid ((HT.o.trans ((Gr.refl _).drew.touch _)).trans ht);replace HQ:=hid ((HQ.o.gr (Gr.refl _).drew).next ht hl);clear ht hl));refine⟨.inl trivial,?_⟩;refine Z9U ?_
 try simp only[XZy]
 repeat(go_big_quiet_step (fail))
 refine θ ?_;refine β ?_;clear y0 y1 y2 Y Z;clear HS Sx;have c0:=HQ.o.row.cc 0;have c1:=HQ.o.row.cc 1;have c2:=HQ.o.row.cc 2;have c3:=HQ.o.row.cc 3;have cl:=HQ.o.row.lt;have HI:Hid (JOs at_ k (g.cpG at_ hd)=G):=⟨HG.o.symm⟩;clear V HG;go_wp2
 go_loopw [1] (λs1 wr=>∃(j:Nat) (gj:Gph),j<=9223372036854775807/\s1=.int .i64 j/\Hid (YbM w0 K c hb lb hd at_ off gj wr)/\Hid (XF4 (hlT w0 K) w wr)/\Hid (JOs at_ j gj=G)) (λs1 _=>(intOf s1).toNat)
 case atStart=>exact⟨k,_,hk,rfl,HQ,HT,HI⟩
 case round=>
  clear HQ HT HI c0 c1 c2 c3 cl;obtain⟨j,gj,hj,rfl,HQ,HT,HI⟩:=hrel;have c0:=HQ.o.row.cc 0;have c1:=HQ.o.row.cc 1;have c2:=HQ.o.row.cc 2;have c3:=HQ.o.row.cc 3;have cl:=HQ.o.row.lt;cases j with
  | zero=>
   have d0:decide ((0:Int)<((0:Nat):Int))=false:=by decide
   have J:Hid (gj=G):=⟨HI.o⟩;have H2:Hid (gj.shE at_=0):=⟨by rw[J.o];exact H0.o⟩;go_wp2_with(go_at_call 31;refine(YdF HQ.o H2.o).mono ?_;rintro e w1 ⟨rfl,ht,hl⟩;replace HT:=hid (HT.o.trans ht);replace HQ:=hid (HQ.o.next ht hl);replace c0:=HQ.o.row.cc 0;replace c1:=HQ.o.row.cc 1;replace c2:=HQ.o.row.cc 2;replace c3:=HQ.o.row.cc 3;replace cl:=HQ.o.row.lt;clear ht hl);go_ret;exact⟨rfl,HT.o,J.o▸HQ.o.hv⟩
  | succ j=>
   have d0:decide ((0:Int)<((j+1:Nat):Int))=true:=by rw[ζe];omega
   have d1:((j+1:Nat):Int)-1=(j:Int):=Ω
   have hjI:(0:Int)<((j+1:Nat):Int):=Ω
   have HJ:=hid hj;by_cases h1:gj.shE at_=0
   ·have H1:=hid h1;have U:Hid (JOs at_ j (gj.loG at_ at_ 0)=G):=⟨by have:=HI.o;rw[show JOs at_ (j+1) gj=if gj.shE at_=0 then JOs at_ j (gj.loG at_ at_ 0)else gj from rfl,μ h1]at this;exact this⟩;clear h1 HI;go_upto_region 6 with(go_at_call 31;refine(YdF HQ.o H1.o).mono ?_;rintro e w1 ⟨rfl,ht,hl⟩;replace HT:=hid (HT.o.trans ht);replace HQ:=hid (HQ.o.next ht hl);replace c0:=HQ.o.row.cc 0;replace c1:=HQ.o.row.cc 1;replace c2:=HQ.o.row.cc 2;replace c3:=HQ.o.row.cc 3;replace cl:=HQ.o.row.lt;clear ht hl);clear c0 c1 c2 c3 cl;obtain⟨Sx,X,HS⟩:=ZJV.start λW'=>Rec W' lb 77 [.pointer (some ⟨hb,0,none⟩),.int .i64 hd,.int .i64 at_,.int .i64 off];have y0:=ZJV.fact X λ_ h=>h.cell (j:=0) rfl;have y2:=ZJV.fact X λ_ h=>h.cell (j:=2) rfl;have Y:=HS.o _ (HQ.o.row.gr (Gr.refl _).drew);have Z:Inhabited (ZJV Sx):=⟨⟨_,Y⟩⟩;clear X;refine Vv2 Sx 12 [([0,1,2,3,4,5,6,7,8,9,10,11],12)] [] (by kernel_rfl) (by kernel_rfl) Y ?_;refine XGW ?_
    try simp only[XZy,ζ,ξ]
    repeat(go_big_quiet_step (fail))
    refine θ ?_;go_wp2_with((go_at_call 33;refine((HQ.o.gr (Gr.refl _).drew).hv.load _ _ _).mono ?_;rintro e w1 ⟨rfl,ht,hl⟩;replace HT:=hid ((HT.o.trans ((Gr.refl _).drew.touch _)).trans ht);replace HQ:=hid ((HQ.o.gr (Gr.refl _).drew).next ht hl);clear ht hl));refine⟨.inl trivial,?_⟩;refine Z9U ?_
    try simp only[XZy]
    repeat(go_big_quiet_step (fail))
    refine θ ?_;refine β ?_;clear y0 y2 Y Z;clear HS Sx;have c0:=HQ.o.row.cc 0;have c1:=HQ.o.row.cc 1;have c2:=HQ.o.row.cc 2;have c3:=HQ.o.row.cc 3;have cl:=HQ.o.row.lt;go_wp2;go_round
    case rel=>exact⟨j,_,by have:=HJ.o;omega,by go_num,HQ,HT,U⟩
    case measure=>simp[intOf]
   ·have J:Hid (gj=G):=⟨by have:=HI.o;rw[show JOs at_ (j+1) gj=if gj.shE at_=0 then JOs at_ j (gj.loG at_ at_ 0)else gj from rfl,ϑ h1]at this;exact this⟩;have H1:=hid h1;clear h1 HI;exact absurd (J.o▸H0.o) H1.o
theorem JXc(h:YbM w0 K c hb lb hd at_ off g w){k:Nat}(hk:k<=9223372036854775807)(h0:¬(Xpk hd at_ k g).shE at_=0):Calls prog 34 #[.pointer (some ⟨lb,0,none⟩),.int .i64 k] w (HLo w0 K c hb w (.bool false) (Xpk hd at_ k g)):=by
 have HQ:=hid h;have HT:=hid (XF4.refl (hlT w0 K) w);have c0:=h.row.cc 0;have c1:=h.row.cc 1;have c2:=h.row.cc 2;have c3:=h.row.cc 3;have cl:=h.row.lt;clear h;unfold HLo;obtain⟨G,hG⟩:∃G,G=Xpk hd at_ k g:=⟨_,rfl⟩;rw[<-hG]at h0⊢;have H0:=hid h0;have HG:=hid hG;have V:¬(k:Int)<0:=Ω
 clear h0 hG;go_enter func34,ntmps34;go_upto_region 3 with(fail);clear c0 c1 c2 c3 cl;obtain⟨Sx,X,HS⟩:=ZJV.start λW'=>Rec W' lb 77 [.pointer (some ⟨hb,0,none⟩),.int .i64 hd,.int .i64 at_,.int .i64 off];have y0:=ZJV.fact X λ_ h=>h.cell (j:=0) rfl;have y1:=ZJV.fact X λ_ h=>h.cell (j:=1) rfl;have y2:=ZJV.fact X λ_ h=>h.cell (j:=2) rfl;have Y:=HS.o _ (HQ.o.row.gr (Gr.refl _).drew);have Z:Inhabited (ZJV Sx):=⟨⟨_,Y⟩⟩;clear X;refine Vv2 Sx 12 [([0,1,2,3,4,5,6,7,8,9,10,11],12)] [] (by kernel_rfl) (by kernel_rfl) Y ?_;refine XGW ?_
 try simp only[XZy,ζ,ξ]
 repeat(go_big_quiet_step (fail))
 refine θ ?_;go_wp2_with((go_at_call 35;refine((HQ.o.gr (Gr.refl _).drew).hv.copy _ _).mono ?_;rintro e w1 ⟨rfl,ht,hl⟩;replace HT:=hid ((HT.o.trans ((Gr.refl _).drew.touch _)).trans ht);replace HQ:=hid ((HQ.o.gr (Gr.refl _).drew).next ht hl);clear ht hl));refine⟨.inl trivial,?_⟩;refine Z9U ?_
 try simp only[XZy]
 repeat(go_big_quiet_step (fail))
 refine θ ?_;refine β ?_;clear y0 y1 y2 Y Z;clear HS Sx;have c0:=HQ.o.row.cc 0;have c1:=HQ.o.row.cc 1;have c2:=HQ.o.row.cc 2;have c3:=HQ.o.row.cc 3;have cl:=HQ.o.row.lt;have HI:Hid (JOs at_ k (g.cpG at_ hd)=G):=⟨HG.o.symm⟩;clear V HG;go_wp2
 go_loopw [1] (λs1 wr=>∃(j:Nat) (gj:Gph),j<=9223372036854775807/\s1=.int .i64 j/\Hid (YbM w0 K c hb lb hd at_ off gj wr)/\Hid (XF4 (hlT w0 K) w wr)/\Hid (JOs at_ j gj=G)) (λs1 _=>(intOf s1).toNat)
 case atStart=>exact⟨k,_,hk,rfl,HQ,HT,HI⟩
 case round=>
  clear HQ HT HI c0 c1 c2 c3 cl;obtain⟨j,gj,hj,rfl,HQ,HT,HI⟩:=hrel;have c0:=HQ.o.row.cc 0;have c1:=HQ.o.row.cc 1;have c2:=HQ.o.row.cc 2;have c3:=HQ.o.row.cc 3;have cl:=HQ.o.row.lt;cases j with
  | zero=>
   have d0:decide ((0:Int)<((0:Nat):Int))=false:=by decide
   have J:Hid (gj=G):=⟨HI.o⟩;have H2:Hid (¬gj.shE at_=0):=⟨by rw[J.o];exact H0.o⟩;go_wp2_with(go_at_call 31;refine(ZEA HQ.o H2.o).mono ?_;rintro e w1 ⟨rfl,ht,hl⟩;replace HT:=hid (HT.o.trans ht);replace HQ:=hid (HQ.o.next ht hl);replace c0:=HQ.o.row.cc 0;replace c1:=HQ.o.row.cc 1;replace c2:=HQ.o.row.cc 2;replace c3:=HQ.o.row.cc 3;replace cl:=HQ.o.row.lt;clear ht hl);go_ret;exact⟨rfl,HT.o,J.o▸HQ.o.hv⟩
  | succ j=>
   have d0:decide ((0:Int)<((j+1:Nat):Int))=true:=by rw[ζe];omega
   have d1:((j+1:Nat):Int)-1=(j:Int):=Ω
   have hjI:(0:Int)<((j+1:Nat):Int):=Ω
   have HJ:=hid hj;by_cases h1:gj.shE at_=0
   ·have H1:=hid h1;have U:Hid (JOs at_ j (gj.loG at_ at_ 0)=G):=⟨by have:=HI.o;rw[show JOs at_ (j+1) gj=if gj.shE at_=0 then JOs at_ j (gj.loG at_ at_ 0)else gj from rfl,μ h1]at this;exact this⟩;clear h1 HI;go_upto_region 6 with(go_at_call 31;refine(YdF HQ.o H1.o).mono ?_;rintro e w1 ⟨rfl,ht,hl⟩;replace HT:=hid (HT.o.trans ht);replace HQ:=hid (HQ.o.next ht hl);replace c0:=HQ.o.row.cc 0;replace c1:=HQ.o.row.cc 1;replace c2:=HQ.o.row.cc 2;replace c3:=HQ.o.row.cc 3;replace cl:=HQ.o.row.lt;clear ht hl);clear c0 c1 c2 c3 cl;obtain⟨Sx,X,HS⟩:=ZJV.start λW'=>Rec W' lb 77 [.pointer (some ⟨hb,0,none⟩),.int .i64 hd,.int .i64 at_,.int .i64 off];have y0:=ZJV.fact X λ_ h=>h.cell (j:=0) rfl;have y2:=ZJV.fact X λ_ h=>h.cell (j:=2) rfl;have Y:=HS.o _ (HQ.o.row.gr (Gr.refl _).drew);have Z:Inhabited (ZJV Sx):=⟨⟨_,Y⟩⟩;clear X;refine Vv2 Sx 12 [([0,1,2,3,4,5,6,7,8,9,10,11],12)] [] (by kernel_rfl) (by kernel_rfl) Y ?_;refine XGW ?_
    try simp only[XZy,ζ,ξ]
    repeat(go_big_quiet_step (fail))
    refine θ ?_;go_wp2_with((go_at_call 33;refine((HQ.o.gr (Gr.refl _).drew).hv.load _ _ _).mono ?_;rintro e w1 ⟨rfl,ht,hl⟩;replace HT:=hid ((HT.o.trans ((Gr.refl _).drew.touch _)).trans ht);replace HQ:=hid ((HQ.o.gr (Gr.refl _).drew).next ht hl);clear ht hl));refine⟨.inl trivial,?_⟩;refine Z9U ?_
    try simp only[XZy]
    repeat(go_big_quiet_step (fail))
    refine θ ?_;refine β ?_;clear y0 y2 Y Z;clear HS Sx;have c0:=HQ.o.row.cc 0;have c1:=HQ.o.row.cc 1;have c2:=HQ.o.row.cc 2;have c3:=HQ.o.row.cc 3;have cl:=HQ.o.row.lt;go_wp2;go_round
    case rel=>exact⟨j,_,by have:=HJ.o;omega,by go_num,HQ,HT,U⟩
    case measure=>simp[intOf]
   ·have J:Hid (gj=G):=⟨by have:=HI.o;rw[show JOs at_ (j+1) gj=if gj.shE at_=0 then JOs at_ j (gj.loG at_ at_ 0)else gj from rfl,ϑ h1]at this;exact this⟩;have H1:=hid h1;clear h1 HI;go_wp2_with(go_at_call 31;refine(ZEA HQ.o H1.o).mono ?_;rintro e w1 ⟨rfl,ht,hl⟩;replace HT:=hid (HT.o.trans ht);replace HQ:=hid (HQ.o.next ht hl);replace c0:=HQ.o.row.cc 0;replace c1:=HQ.o.row.cc 1;replace c2:=HQ.o.row.cc 2;replace c3:=HQ.o.row.cc 3;replace cl:=HQ.o.row.lt;clear ht hl);go_ret;exact⟨rfl,HT.o,J.o▸HQ.o.hv⟩
theorem VZK(h:YbM w0 K c hb lb hd at_ off g w){k:Nat}(hk:k<=9223372036854775807)(h0:(Xpk hd at_ k g).shE at_=0):Calls prog 8 #[.pointer (some ⟨lb,0,none⟩),.int .i64 k] w (HLo w0 K c hb w (.tuple #[.int .u64 ((Xpk hd at_ k g).fdV at_ 2 3:Nat),.float .f64 ((Xpk hd at_ k g).fdV at_ 1 2),.int .i64 0]) (YYI at_ off (Xpk hd at_ k g))):=by
 have HQ:=hid h;have HT:=hid (XF4.refl (hlT w0 K) w);have c0:=h.row.cc 0;have c1:=h.row.cc 1;have c2:=h.row.cc 2;have c3:=h.row.cc 3;have cl:=h.row.lt;clear h;unfold HLo;have HF:=hid h0;have X:=hid (λ(V:World) (hV:YbM w0 K c hb lb hd at_ off (Xpk hd at_ k g) V)=>VdK hV at_);generalize (Xpk hd at_ k g).fdV at_ 2 3=x at X⊢;generalize (Xpk hd at_ k g).fdV at_ 1 2=y at X⊢;clear h0
 go_enter_defers func8,ntmps8
 go_wp2_with(first
  | (go_at_call 30;refine(JY5 HQ.o).mono ?_;rintro e w1 ⟨rfl,rfl⟩)
  | (go_at_call 34;refine(Qwn HQ.o hk HF.o).mono ?_;rintro e w1 ⟨rfl,ht,hl⟩;replace HT:=hid (HT.o.trans ht);replace HQ:=hid (HQ.o.next ht hl);replace c0:=HQ.o.row.cc 0;replace c1:=HQ.o.row.cc 1;replace c2:=HQ.o.row.cc 2;replace c3:=HQ.o.row.cc 3;replace cl:=HQ.o.row.lt;clear ht hl)
  | (go_at_call 32;refine(X.o _ HQ.o).mono ?_;rintro e w1 ⟨rfl,ht,hl⟩;replace HT:=hid (HT.o.trans ht);replace HQ:=hid (HQ.o.next ht hl);replace c0:=HQ.o.row.cc 0;replace c1:=HQ.o.row.cc 1;replace c2:=HQ.o.row.cc 2;replace c3:=HQ.o.row.cc 3;replace cl:=HQ.o.row.lt;clear ht hl))
 refine leaves_cons (f:=29) (args:=#[.pointer (some ⟨lb,0,none⟩)]) (by simp) (by simp[go_sem]) ?_;refine(Jqm HQ.o _).mono ?_;rintro e u' w2 ⟨rfl,rfl,ht,hl⟩;have Y:=hid (HT.o.trans ht);simp only[Leaves,settle];refine⟨_,by simp[results,results8,go_sem],rfl,Y.o,hl⟩
theorem ZFc(h:YbM w0 K c hb lb hd at_ off g w){k:Nat}(hk:k<=9223372036854775807)(h0:¬(Xpk hd at_ k g).shE at_=0):Calls prog 8 #[.pointer (some ⟨lb,0,none⟩),.int .i64 k] w (HLo w0 K c hb w (.tuple #[.int .u64 0,.float .f64 0,.int .i64 6]) (YYI at_ off (Xpk hd at_ k g))):=by
 have HQ:=hid h;have HT:=hid (XF4.refl (hlT w0 K) w);have c0:=h.row.cc 0;have c1:=h.row.cc 1;have c2:=h.row.cc 2;have c3:=h.row.cc 3;have cl:=h.row.lt;clear h;unfold HLo;have HF:=hid h0;have X:=hid (λ(V:World) (hV:YbM w0 K c hb lb hd at_ off (Xpk hd at_ k g) V)=>VdK hV at_);clear h0
 go_enter_defers func8,ntmps8
 go_wp2_with(first
  | (go_at_call 30;refine(JY5 HQ.o).mono ?_;rintro e w1 ⟨rfl,rfl⟩)
  | (go_at_call 34;refine(JXc HQ.o hk HF.o).mono ?_;rintro e w1 ⟨rfl,ht,hl⟩;replace HT:=hid (HT.o.trans ht);replace HQ:=hid (HQ.o.next ht hl);replace c0:=HQ.o.row.cc 0;replace c1:=HQ.o.row.cc 1;replace c2:=HQ.o.row.cc 2;replace c3:=HQ.o.row.cc 3;replace cl:=HQ.o.row.lt;clear ht hl)
  | (go_at_call 32;refine(X.o _ HQ.o).mono ?_;rintro e w1 ⟨rfl,ht,hl⟩;replace HT:=hid (HT.o.trans ht);replace HQ:=hid (HQ.o.next ht hl);replace c0:=HQ.o.row.cc 0;replace c1:=HQ.o.row.cc 1;replace c2:=HQ.o.row.cc 2;replace c3:=HQ.o.row.cc 3;replace cl:=HQ.o.row.lt;clear ht hl))
 refine leaves_cons (f:=29) (args:=#[.pointer (some ⟨lb,0,none⟩)]) (by simp) (by simp[go_sem]) ?_;refine(Jqm HQ.o _).mono ?_;rintro e u' w2 ⟨rfl,rfl,ht,hl⟩;have Y:=hid (HT.o.trans ht);simp only[Leaves,settle];refine⟨_,by simp[results,results8,go_sem],rfl,Y.o,hl⟩
theorem X4w(h:YbM w0 K c hb lb hd at_ off g w){i:Int}(h0:i<0):Calls prog 8 #[.pointer (some ⟨lb,0,none⟩),.int .i64 i] w (HLo w0 K c hb w (.tuple #[.int .u64 0,.float .f64 0,.int .i64 6]) (YYI at_ off g)):=by
 have HQ:=hid h;have HT:=hid (XF4.refl (hlT w0 K) w);have c0:=h.row.cc 0;have c1:=h.row.cc 1;have c2:=h.row.cc 2;have c3:=h.row.cc 3;have cl:=h.row.lt;clear h;unfold HLo;have HF:=hid h0;have X:=hid (λ(V:World) (hV:YbM w0 K c hb lb hd at_ off g V)=>VdK hV at_);clear h0
 go_enter_defers func8,ntmps8
 go_wp2_with(first
  | (go_at_call 30;refine(JY5 HQ.o).mono ?_;rintro e w1 ⟨rfl,rfl⟩)
  | (go_at_call 34;refine(Jod HQ.o HF.o).mono ?_;rintro e w1 ⟨rfl,ht,hl⟩;replace HT:=hid (HT.o.trans ht);replace HQ:=hid (HQ.o.next ht hl);replace c0:=HQ.o.row.cc 0;replace c1:=HQ.o.row.cc 1;replace c2:=HQ.o.row.cc 2;replace c3:=HQ.o.row.cc 3;replace cl:=HQ.o.row.lt;clear ht hl)
  | (go_at_call 32;refine(X.o _ HQ.o).mono ?_;rintro e w1 ⟨rfl,ht,hl⟩;replace HT:=hid (HT.o.trans ht);replace HQ:=hid (HQ.o.next ht hl);replace c0:=HQ.o.row.cc 0;replace c1:=HQ.o.row.cc 1;replace c2:=HQ.o.row.cc 2;replace c3:=HQ.o.row.cc 3;replace cl:=HQ.o.row.lt;clear ht hl))
 refine leaves_cons (f:=29) (args:=#[.pointer (some ⟨lb,0,none⟩)]) (by simp) (by simp[go_sem]) ?_;refine(Jqm HQ.o _).mono ?_;rintro e u' w2 ⟨rfl,rfl,ht,hl⟩;have Y:=hid (HT.o.trans ht);simp only[Leaves,settle];refine⟨_,by simp[results,results8,go_sem],rfl,Y.o,hl⟩
end
end
section
open Go.RowKit Go.Shelf Word
theorem Chn.nxt{g:Gph}:∀{T:List Nat} {y:Nat} {D:List (Nat×Nat)},Chn g y T D->∀i,i<T.length->∃f w,Nd g (T.getD i 0) (T.getD (i+1) 0) f w
 | [],_,_,_,_,hi=>absurd hi (ζV _)
 | x :: T,_,_,⟨e,f,w,nx,D',e2,hn,hc⟩,0,_=>by
  have:(x :: T).getD 1 0=nx:=by
   cases T with
   | nil=>exact hc.1.symm
   | cons z T=>exact hc.1.symm
  exact⟨f,w,by rw[this];exact hn⟩
 | x :: T,_,_,⟨e,f,w,nx,D',e2,hn,hc⟩,i+1,hi=>hc.nxt i (by simpa using hi)
section
variable {w0 w w':World} {K:Nat->Prop} {c:HCf} {hb lb hd at_ off:Nat} {g g':Gph} {T:List Nat} {D:List (Nat × Nat)}
theorem Qw3(h:YbM w0 K c hb lb hd at_ off g w)(hg:LsG g hd at_ off T D)(hk:g.Ok):Calls prog 9 #[.pointer (some ⟨lb,0,none⟩)] w λe w'=>∃g',Vop g g' hd at_ off T D/\HLo w0 K c hb w (.tuple #[]) g' e w':=by
 have HQ:=hid h;have HT:=hid (XF4.refl (hlT w0 K) w);have c0:=h.row.cc 0;have c1:=h.row.cc 1;have c2:=h.row.cc 2;have c3:=h.row.cc 3;have cl:=h.row.lt;clear h;have U:=hid (TnG.start hg hk);have HG:=hid hg;clear hg hk;go_enter func9,ntmps9;go_wp2_with(go_at_call 30;refine(JY5 HQ.o).mono ?_;rintro e w1 ⟨rfl,rfl⟩)
 go_loopg [] T.length (λn wr=>∃(g1:Gph) (T1 R:List Nat) (D1 E:List (Nat×Nat)),Hid (T1.length=n)/\Hid (YbM w0 K c hb lb hd at_ off g1 wr)/\Hid (XF4 (hlT w0 K) w wr)/\Hid (TnG g g1 hd at_ off T1 R T D1 E D))
 case atStart=>exact⟨g,T,[],D,[],⟨rfl⟩,HQ,HT,U⟩
 case round=>
  clear HQ HT U c0 c1 c2 c3 cl;obtain⟨g1,T1,R,D1,E,HN,HQ,HT,J⟩:=hrel;have c0:=HQ.o.row.cc 0;have c1:=HQ.o.row.cc 1;have c2:=HQ.o.row.cc 2;have c3:=HQ.o.row.cc 3;have cl:=HQ.o.row.lt;have hl:=J.o.sl;have HL:Hid (hd<g1.S.length/\at_<g1.S.length/\off<g1.S.length):=⟨⟨by rw[hl];exact HG.o.h1,by rw[hl];exact HG.o.h2,by rw[hl];exact HG.o.h3⟩⟩;clear hl;by_cases hz:g1.S.getD hd 0=0
  ·have H1:Hid (¬g1.shE hd=0):=⟨by rw[g1.shE_ok HL.o.1,μ hz];decide⟩;have HF:=hid (J.o.fin HL.o.1 HL.o.2.1 HL.o.2.2 HG.o.d1 HG.o.d2 HG.o.d3 HG.o.nd HG.o.z2 HG.o.z3 hz);clear hz;go_upto_region 6 with(go_at_call 31;refine(ZEA HQ.o H1.o).mono ?_;rintro e w1 ⟨rfl,ht,hl⟩;replace HT:=hid (HT.o.trans ht);replace HQ:=hid (HQ.o.next ht hl);replace c0:=HQ.o.row.cc 0;replace c1:=HQ.o.row.cc 1;replace c2:=HQ.o.row.cc 2;replace c3:=HQ.o.row.cc 3;replace cl:=HQ.o.row.lt;clear ht hl);clear c0 c1 c2 c3 cl;obtain⟨Sx,X,HS⟩:=ZJV.start λW'=>Rec W' lb 77 [.pointer (some ⟨hb,0,none⟩),.int .i64 hd,.int .i64 at_,.int .i64 off];have y0:=ZJV.fact X λ_ h=>h.cell (j:=0) rfl;have y1:=ZJV.fact X λ_ h=>h.cell (j:=1) rfl;have y3:=ZJV.fact X λ_ h=>h.cell (j:=3) rfl;have Y:=HS.o _ (HQ.o.row.gr (Gr.refl _).drew);have Z:Inhabited (ZJV Sx):=⟨⟨_,Y⟩⟩;clear X;refine Vv2 Sx 12 [([0,1,2,3,4,5,6,7,8,9,10,11],12)] [] (by kernel_rfl) (by kernel_rfl) Y ?_;refine XGW ?_
   try simp only[XZy,ζ,ξ]
   repeat(go_big_quiet_step (fail))
   refine θ ?_;go_wp2_with((go_at_call 35;refine((HQ.o.gr (Gr.refl _).drew).hv.copy _ _).mono ?_;rintro e w1 ⟨rfl,ht,hl⟩;replace HT:=hid ((HT.o.trans ((Gr.refl _).drew.touch _)).trans ht);replace HQ:=hid ((HQ.o.gr (Gr.refl _).drew).next ht hl);clear ht hl));refine⟨.inl trivial,?_⟩;refine Z9U ?_
   try simp only[XZy]
   repeat(go_big_quiet_step (fail))
   refine θ ?_;refine β ?_;clear y0 y1 y3 Y Z;clear HS Sx;have c0:=HQ.o.row.cc 0;have c1:=HQ.o.row.cc 1;have c2:=HQ.o.row.cc 2;have c3:=HQ.o.row.cc 3;have cl:=HQ.o.row.lt;go_wp2_with(go_at_call 29;refine(ZRU HQ.o).mono ?_;rintro e w1 ⟨rfl,ht,hl⟩;replace HT:=hid (HT.o.trans ht);replace HQ:=hid (HQ.o.next ht hl);replace c0:=HQ.o.row.cc 0;replace c1:=HQ.o.row.cc 1;replace c2:=HQ.o.row.cc 2;replace c3:=HQ.o.row.cc 3;replace cl:=HQ.o.row.lt;clear ht hl)
   first|go_end0|(refine ζR (ζr rfl _ _ _) rfl ?_)
   exact⟨_,HF.o,rfl,HT.o,HQ.o.hv⟩
  ·have H1:Hid (g1.shE hd=0):=⟨by rw[g1.shE_ok HL.o.1,ϑ hz]⟩
   have V:Hid (∃T2 R2 D2 E2,T2.length<gk/\TnG g (VOv hd at_ off g1) hd at_ off T2 R2 T D2 E2 D):=⟨by
    obtain⟨x,T',v,f,D',e1,e2,hs⟩:=J.o.step HL.o.1 HL.o.2.1 HL.o.2.2 HG.o.d1 HG.o.d2 HG.o.d3 HG.o.nd hz
    exact⟨T',_,D',_,by rw[<-HN.o,e1];exact ξr _,hs⟩⟩
   clear hz;go_upto_region 2 with(go_at_call 31;refine(YdF HQ.o H1.o).mono ?_;rintro e w1 ⟨rfl,ht,hl⟩;replace HT:=hid (HT.o.trans ht);replace HQ:=hid (HQ.o.next ht hl);replace c0:=HQ.o.row.cc 0;replace c1:=HQ.o.row.cc 1;replace c2:=HQ.o.row.cc 2;replace c3:=HQ.o.row.cc 3;replace cl:=HQ.o.row.lt;clear ht hl);clear c0 c1 c2 c3 cl;obtain⟨Sx,X,HS⟩:=ZJV.start λW'=>Rec W' lb 77 [.pointer (some ⟨hb,0,none⟩),.int .i64 hd,.int .i64 at_,.int .i64 off];have y0:=ZJV.fact X λ_ h=>h.cell (j:=0) rfl;have y1:=ZJV.fact X λ_ h=>h.cell (j:=1) rfl;have y2:=ZJV.fact X λ_ h=>h.cell (j:=2) rfl;have Y:=HS.o _ (HQ.o.row.gr (Gr.refl _).drew);have Z:Inhabited (ZJV Sx):=⟨⟨_,Y⟩⟩;clear X;refine Vv2 Sx 12 [([0,1,2,3,4,5,6,7,8,9,10,11],12)] [] (by kernel_rfl) (by kernel_rfl) Y ?_;refine XGW ?_
   try simp only[XZy,ζ,ξ]
   repeat(go_big_quiet_step (fail))
   refine θ ?_;go_wp2_with((go_at_call 35;refine((HQ.o.gr (Gr.refl _).drew).hv.copy _ _).mono ?_;rintro e w1 ⟨rfl,ht,hl⟩;replace HT:=hid ((HT.o.trans ((Gr.refl _).drew.touch _)).trans ht);replace HQ:=hid ((HQ.o.gr (Gr.refl _).drew).next ht hl);clear ht hl));refine⟨.inl trivial,?_⟩;refine Z9U ?_
   try simp only[XZy]
   repeat(go_big_quiet_step (fail))
   refine θ ?_;refine β ?_;clear y0 y1 y2 Y Z;clear HS Sx;have c0:=HQ.o.row.cc 0;have c1:=HQ.o.row.cc 1;have c2:=HQ.o.row.cc 2;have c3:=HQ.o.row.cc 3;have cl:=HQ.o.row.lt;go_upto_region 3 with(fail);clear c0 c1 c2 c3 cl;obtain⟨Sx,X,HS⟩:=ZJV.start λW'=>Rec W' lb 77 [.pointer (some ⟨hb,0,none⟩),.int .i64 hd,.int .i64 at_,.int .i64 off];have y0:=ZJV.fact X λ_ h=>h.cell (j:=0) rfl;have y1:=ZJV.fact X λ_ h=>h.cell (j:=1) rfl;have Y:=HS.o _ (HQ.o.row.gr (Gr.refl _).drew);have Z:Inhabited (ZJV Sx):=⟨⟨_,Y⟩⟩;clear X;refine Vv2 Sx 12 [([0,1,2,3,4,5,6,7,8,9,10,11],12)] [] (by kernel_rfl) (by kernel_rfl) Y ?_;refine XGW ?_
   try simp only[XZy,ζ,ξ]
   repeat(go_big_quiet_step (fail))
   refine θ ?_;go_wp2_with((go_at_call 33;refine((HQ.o.gr (Gr.refl _).drew).hv.load _ _ _).mono ?_;rintro e w1 ⟨rfl,ht,hl⟩;replace HT:=hid ((HT.o.trans ((Gr.refl _).drew.touch _)).trans ht);replace HQ:=hid ((HQ.o.gr (Gr.refl _).drew).next ht hl);clear ht hl));refine⟨.inl trivial,?_⟩;refine Z9U ?_
   try simp only[XZy]
   repeat(go_big_quiet_step (fail))
   refine θ ?_;refine β ?_;clear y0 y1 Y Z;clear HS Sx;have c0:=HQ.o.row.cc 0;have c1:=HQ.o.row.cc 1;have c2:=HQ.o.row.cc 2;have c3:=HQ.o.row.cc 3;have cl:=HQ.o.row.lt;go_upto_region 4 with(fail);clear c0 c1 c2 c3 cl;obtain⟨Sx,X,HS⟩:=ZJV.start λW'=>Rec W' lb 77 [.pointer (some ⟨hb,0,none⟩),.int .i64 hd,.int .i64 at_,.int .i64 off];have y0:=ZJV.fact X λ_ h=>h.cell (j:=0) rfl;have y2:=ZJV.fact X λ_ h=>h.cell (j:=2) rfl;have y3:=ZJV.fact X λ_ h=>h.cell (j:=3) rfl;have Y:=HS.o _ (HQ.o.row.gr (Gr.refl _).drew);have Z:Inhabited (ZJV Sx):=⟨⟨_,Y⟩⟩;clear X;refine Vv2 Sx 12 [([0,1,2,3,4,5,6,7,8,9,10,11],12)] [] (by kernel_rfl) (by kernel_rfl) Y ?_;refine XGW ?_
   try simp only[XZy,ζ,ξ]
   repeat(go_big_quiet_step (fail))
   refine θ ?_;go_wp2_with((go_at_call 36;refine((HQ.o.gr (Gr.refl _).drew).hv.stor _ _ _).mono ?_;rintro e w1 ⟨rfl,ht,hl⟩;replace HT:=hid ((HT.o.trans ((Gr.refl _).drew.touch _)).trans ht);replace HQ:=hid ((HQ.o.gr (Gr.refl _).drew).next ht hl);clear ht hl));refine⟨.inl trivial,?_⟩;refine Z9U ?_
   try simp only[XZy]
   repeat(go_big_quiet_step (fail))
   refine θ ?_;refine β ?_;clear y0 y2 y3 Y Z;clear HS Sx;have c0:=HQ.o.row.cc 0;have c1:=HQ.o.row.cc 1;have c2:=HQ.o.row.cc 2;have c3:=HQ.o.row.cc 3;have cl:=HQ.o.row.lt;go_upto_region 5 with(fail);clear c0 c1 c2 c3 cl;obtain⟨Sx,X,HS⟩:=ZJV.start λW'=>Rec W' lb 77 [.pointer (some ⟨hb,0,none⟩),.int .i64 hd,.int .i64 at_,.int .i64 off];have y0:=ZJV.fact X λ_ h=>h.cell (j:=0) rfl;have y2:=ZJV.fact X λ_ h=>h.cell (j:=2) rfl;have y3:=ZJV.fact X λ_ h=>h.cell (j:=3) rfl;have Y:=HS.o _ (HQ.o.row.gr (Gr.refl _).drew);have Z:Inhabited (ZJV Sx):=⟨⟨_,Y⟩⟩;clear X;refine Vv2 Sx 12 [([0,1,2,3,4,5,6,7,8,9,10,11],12)] [] (by kernel_rfl) (by kernel_rfl) Y ?_;refine XGW ?_
   try simp only[XZy,ζ,ξ]
   repeat(go_big_quiet_step (fail))
   refine θ ?_;go_wp2_with((go_at_call 35;refine((HQ.o.gr (Gr.refl _).drew).hv.copy _ _).mono ?_;rintro e w1 ⟨rfl,ht,hl⟩;replace HT:=hid ((HT.o.trans ((Gr.refl _).drew.touch _)).trans ht);replace HQ:=hid ((HQ.o.gr (Gr.refl _).drew).next ht hl);clear ht hl));refine⟨.inl trivial,?_⟩;refine Z9U ?_
   try simp only[XZy]
   repeat(go_big_quiet_step (fail))
   refine θ ?_;refine β ?_;clear y0 y2 y3 Y Z;clear HS Sx;have c0:=HQ.o.row.cc 0;have c1:=HQ.o.row.cc 1;have c2:=HQ.o.row.cc 2;have c3:=HQ.o.row.cc 3;have cl:=HQ.o.row.lt;go_wp2;obtain⟨T2,R2,D2,E2,M,hs⟩:=V.o
   go_roundg T2.length
   case measure=>exact M
   case rel=>exact⟨_,T2,R2,D2,E2,⟨rfl⟩,HQ,HT,⟨hs⟩⟩
theorem Z2R(h:YbM w0 K c hb lb hd at_ off g w)(hg:LsG g hd at_ off T D)(hT:T.length<=1000000):Calls prog 12 #[.pointer (some ⟨lb,0,none⟩)] w (HLo w0 K c hb w (.int .i64 D.length) g):=by
 have HQ:=hid h;have HT:=hid (XF4.refl (hlT w0 K) w);have c0:=h.row.cc 0;have c1:=h.row.cc 1;have c2:=h.row.cc 2;have c3:=h.row.cc 3;have cl:=h.row.lt;clear h;unfold HLo;have HG:=hid hg;obtain⟨N,hN⟩:∃N,N=T.length:=⟨_,rfl⟩;have HN:=hid hN;have HD:Hid ((D.length:Int)=(N:Int)):=⟨by rw[hN,hg.ch.len]⟩;rw[<-hN]at hT;have HR:Hid (∀g1:Gph,g1.S=g.S.set at_ 0->YYI at_ off g1=⟨g1.L,g.S⟩):=⟨λg1 e=>hg.rest e⟩
 have O:Hid (g.cpG at_ hd=⟨g.L,g.S.set at_ (T.getD 0 0)⟩):=⟨by
  rw[g.cpG_ok hg.h2 hg.h1];have hc:=hg.ch;cases T with
  | nil=>rw[hc.1];rfl
  | cons x T=>rw[hc.1];rfl⟩
 clear hg hN;go_enter func12,ntmps12;go_upto_region 4 with(go_at_call 30;refine(JY5 HQ.o).mono ?_;rintro e w1 ⟨rfl,rfl⟩);clear c0 c1 c2 c3 cl;obtain⟨Sx,Y,HS⟩:=ZJV.start λW'=>Rec W' lb 77 [.pointer (some ⟨hb,0,none⟩),.int .i64 hd,.int .i64 at_,.int .i64 off];have y0:=ZJV.fact Y λ_ h=>h.cell (j:=0) rfl;have y1:=ZJV.fact Y λ_ h=>h.cell (j:=1) rfl;have y2:=ZJV.fact Y λ_ h=>h.cell (j:=2) rfl;have Z:=HS.o _ (HQ.o.row.gr (Gr.refl _).drew);have U:Inhabited (ZJV Sx):=⟨⟨_,Z⟩⟩;clear Y;refine Vv2 Sx 12 [([0,1,2,3,4,5,6,7,8,9,10,11],12)] [] (by kernel_rfl) (by kernel_rfl) Z ?_;refine XGW ?_
 try simp only[XZy,ζ,ξ]
 repeat(go_big_quiet_step (fail))
 refine θ ?_;go_wp2_with((go_at_call 35;refine((HQ.o.gr (Gr.refl _).drew).hv.copy _ _).mono ?_;rintro e w1 ⟨rfl,ht,hl⟩;replace HT:=hid ((HT.o.trans ((Gr.refl _).drew.touch _)).trans ht);replace HQ:=hid ((HQ.o.gr (Gr.refl _).drew).next ht hl);clear ht hl));refine⟨.inl trivial,?_⟩;refine Z9U ?_
 try simp only[XZy]
 repeat(go_big_quiet_step (fail))
 refine θ ?_;refine β ?_;clear y0 y1 y2 Z U;clear HS Sx;have c0:=HQ.o.row.cc 0;have c1:=HQ.o.row.cc 1;have c2:=HQ.o.row.cc 2;have c3:=HQ.o.row.cc 3;have cl:=HQ.o.row.lt;rw[O.o]at HQ;clear O;go_wp2
 go_loopw [3] (λs3 wr=>∃(j:Nat),j<=N/\s3=.int .i64 j/\Hid (YbM w0 K c hb lb hd at_ off ⟨g.L,g.S.set at_ (T.getD j 0)⟩ wr)/\Hid (XF4 (hlT w0 K) w wr)) (λs3 _=>N-(intOf s3).toNat)
 case atStart=>exact⟨0,ζh _,rfl,HQ,HT⟩
 case round=>
  clear HQ HT c0 c1 c2 c3 cl;obtain⟨j,hj,rfl,HQ,HT⟩:=hrel;have c0:=HQ.o.row.cc 0;have c1:=HQ.o.row.cc 1;have c2:=HQ.o.row.cc 2;have c3:=HQ.o.row.cc 3;have cl:=HQ.o.row.lt;have J:at_<(⟨g.L,g.S.set at_ (T.getD j 0)⟩:Gph).S.length:=by show at_<(List.set _ _ _).length;rw[υ];exact HG.o.h2
  have V:(⟨g.L,g.S.set at_ (T.getD j 0)⟩:Gph).S.getD at_ 0=T.getD j 0:=JhX HG.o.h2;by_cases X:j<N
  ·obtain⟨f,v,M⟩:=HG.o.ch.nxt j (by rw[<-HN.o];exact X);have H1:Hid ((⟨g.L,g.S.set at_ (T.getD j 0)⟩:Gph).shE at_=0):=⟨by rw[Gph.shE_ok J,V,ϑ (by have:=M.h1;omega)]⟩
   have I:Hid ((⟨g.L,g.S.set at_ (T.getD j 0)⟩:Gph).loG at_ at_ 0=⟨g.L,g.S.set at_ (T.getD (j+1) 0)⟩):=⟨by
    rw[(M.slots _).load J J V]
    show (⟨g.L,(g.S.set at_ _).set at_ _⟩:Gph)=_
    rw[ψp]⟩
   have HJ:=hid X;have hjb:j<1000000:=Ω
   clear X M J V hj;go_upto_region 7 with(go_at_call 31;refine(YdF HQ.o H1.o).mono ?_;rintro e w1 ⟨rfl,ht,hl⟩;replace HT:=hid (HT.o.trans ht);replace HQ:=hid (HQ.o.next ht hl);replace c0:=HQ.o.row.cc 0;replace c1:=HQ.o.row.cc 1;replace c2:=HQ.o.row.cc 2;replace c3:=HQ.o.row.cc 3;replace cl:=HQ.o.row.lt;clear ht hl);clear c0 c1 c2 c3 cl;obtain⟨Sx,Y,HS⟩:=ZJV.start λW'=>Rec W' lb 77 [.pointer (some ⟨hb,0,none⟩),.int .i64 hd,.int .i64 at_,.int .i64 off];have y0:=ZJV.fact Y λ_ h=>h.cell (j:=0) rfl;have y2:=ZJV.fact Y λ_ h=>h.cell (j:=2) rfl;have Z:=HS.o _ (HQ.o.row.gr (Gr.refl _).drew);have U:Inhabited (ZJV Sx):=⟨⟨_,Z⟩⟩;clear Y;refine Vv2 Sx 12 [([0,1,2,3,4,5,6,7,8,9,10,11],12)] [] (by kernel_rfl) (by kernel_rfl) Z ?_;refine XGW ?_
   try simp only[XZy,ζ,ξ]
   repeat(go_big_quiet_step (fail))
   refine θ ?_;go_wp2_with((go_at_call 33;refine((HQ.o.gr (Gr.refl _).drew).hv.load _ _ _).mono ?_;rintro e w1 ⟨rfl,ht,hl⟩;replace HT:=hid ((HT.o.trans ((Gr.refl _).drew.touch _)).trans ht);replace HQ:=hid ((HQ.o.gr (Gr.refl _).drew).next ht hl);clear ht hl));refine⟨.inl trivial,?_⟩;refine Z9U ?_
   try simp only[XZy]
   repeat(go_big_quiet_step (fail))
   refine θ ?_;refine β ?_;clear y0 y2 Z U;clear HS Sx;have c0:=HQ.o.row.cc 0;have c1:=HQ.o.row.cc 1;have c2:=HQ.o.row.cc 2;have c3:=HQ.o.row.cc 3;have cl:=HQ.o.row.lt;rw[I.o]at HQ;go_wp2;go_round
   case rel=>exact⟨j+1,HJ.o,by go_num,HQ,HT⟩
   case measure=>have:=HJ.o;simp[intOf];omega
  ·obtain rfl:j=N:=Ω
   have hz:T.getD j 0=0:=by rw[HN.o,φ,ζf (π _)];rfl
   have H1:Hid (¬(⟨g.L,g.S.set at_ (T.getD j 0)⟩:Gph).shE at_=0):=⟨by rw[Gph.shE_ok J,V,μ hz];decide⟩;have HE:=hid (HR.o ⟨g.L,g.S.set at_ (T.getD j 0)⟩ (by rw[hz]));clear X J V hj hz
   go_wp2_with(first
    | (go_at_call 31;refine(ZEA HQ.o H1.o).mono ?_;rintro e w1 ⟨rfl,ht,hl⟩;replace HT:=hid (HT.o.trans ht);replace HQ:=hid (HQ.o.next ht hl);replace c0:=HQ.o.row.cc 0;replace c1:=HQ.o.row.cc 1;replace c2:=HQ.o.row.cc 2;replace c3:=HQ.o.row.cc 3;replace cl:=HQ.o.row.lt;clear ht hl)
    | (go_at_call 29;refine(ZRU HQ.o).mono ?_;rintro e w1 ⟨rfl,ht,hl⟩;replace HT:=hid (HT.o.trans ht);replace HQ:=hid (HQ.o.next ht hl);replace c0:=HQ.o.row.cc 0;replace c1:=HQ.o.row.cc 1;replace c2:=HQ.o.row.cc 2;replace c3:=HQ.o.row.cc 3;replace cl:=HQ.o.row.lt;clear ht hl))
   go_ret;refine⟨by rw[HD.o] <;> rfl,HT.o,?_⟩;have:=HQ.o.hv;rw[HE.o]at this;exact this
end
end
section
open Go.RowKit Go.Shelf Word
section
variable {w0 w w':World} {K:Nat->Prop} {c:HCf} {hb:Nat} {g g':Gph} {s:HSt}
theorem VIO(h:HIn w c g s):Calls prog 27 #[.pointer (some ⟨s.A.hp,0,none⟩)] w λe w'=>e=.returned (Jdq c)/\Gr w w':=by
 have M:=hid (λ(V:World) (gV:Gr w V)=>XuX (h.gr gV));have hsf:=Qwi;have Z:=h.com.row;unfold hpL at Z;obtain⟨w2,J⟩:∃w2,w2=w.alloc (.cells #[.int .i64 0,.int .i64 0,.int .i64 0,.int .i64 0,.int .i64 0,.int .i64 0,.int .i64 0,.float .f64 0] 41):=⟨_,rfl⟩;have Y:Rec w2 w.heap.size 41 [.int .i64 0,.int .i64 0,.int .i64 0,.int .i64 0,.int .i64 0,.int .i64 0,.int .i64 0,.float .f64 0]:=by rw[J];exact Rec.new w 41 [.int .i64 0,.int .i64 0,.int .i64 0,.int .i64 0,.int .i64 0,.int .i64 0,.int .i64 0,.float .f64 0]
 have U:Gr w w2:=by rw[J];exact(Gr.refl w).alloc _
 have X:=Z.gr U;have N:=hid (M.o _ U);have HW:=hid J;have I:=hid Y;have O:=hid U;have k0:=X.cc 0;have k1:=X.cc 1;have k2:=X.cc 2;have k3:=X.cc 3;have k4:=X.cc 4;have k5:=X.cc 5;have k6:=X.cc 6;have k7:=X.cc 7;have kl:=X.lt;have z0:=Y.cc 0;have z1:=Y.cc 1;have z2:=Y.cc 2;have z3:=Y.cc 3;have z4:=Y.cc 4;have z5:=Y.cc 5;have z6:=Y.cc 6;have z7:=Y.cc 7;have zf:=Y.free;have zl:=Y.lt;unfold Jdq X2H;generalize s.A.hp=hp at *
 obtain⟨kd,pg,bk,wd,sl,st,ah,tr⟩:=c;dsimp only at *
 clear J Y U Z X M h;go_enter func27,ntmps27;go_upto_region 1 with(fail);rw[<-HW.o];clear HW;go_wp2_with(go_at_call 50;refine N.o.mono ?_;rintro e w1 ⟨rfl,rfl⟩);have R8:=(Rec.set (Rec.set (Rec.set (Rec.set (Rec.set (Rec.set (Rec.set (Rec.set I.o 0 (.int .i64 kd)) 1 (.int .i64 pg)) 2 (.int .i64 bk)) 3 (.int .i64 wd)) 4 (.int .i64 sl)) 5 (.int .i64 st)) 6 (.int .i64 ah)) 7 (.float .f64 tr));have hl:=XkM R8 (by kernel_rfl) (by kernel_rfl);have ht:=(((((((((O.o.touch (λk=>w.heap.size<=k)).setCell (a:=⟨w.heap.size,0,none⟩) (λ_=>π _) (.int .i64 kd)).setCell (a:=⟨w.heap.size,1,none⟩) (λ_=>π _) (.int .i64 pg)).setCell (a:=⟨w.heap.size,2,none⟩) (λ_=>π _) (.int .i64 bk)).setCell (a:=⟨w.heap.size,3,none⟩) (λ_=>π _) (.int .i64 wd)).setCell (a:=⟨w.heap.size,4,none⟩) (λ_=>π _) (.int .i64 sl)).setCell (a:=⟨w.heap.size,5,none⟩) (λ_=>π _) (.int .i64 st)).setCell (a:=⟨w.heap.size,6,none⟩) (λ_=>π _) (.int .i64 ah)).setCell (a:=⟨w.heap.size,7,none⟩) (λ_=>π _) (.float .f64 tr));refine ζR (v:=.agg #[.int .i64 kd,.int .i64 pg,.int .i64 bk,.int .i64 wd,.int .i64 sl,.int .i64 st,.int .i64 ah,.float .f64 tr]) ?_ rfl ⟨rfl,(ht.mono (T:=λ_=>False) (λk hk e=>by have e:w.heap.size<=k:=e;omega)).gr⟩;simp[results,results27,asAddr,hl]
end
end
section
open Go.RowKit Go.Shelf Word
section
variable {w0 w w':World} {K:Nat->Prop} {c:HCf} {hb:Nat} {hd at_ off:Nat} {g g':Gph}
theorem HLv.facts(h:HLv w0 K c hb g w):c.Ok/\g.Ok/\g.S.length=c.sl:=by
 obtain⟨-,⟨s,-,h,-,-⟩,-⟩:=h;exact⟨h.cok,h.gok,h.sl⟩
theorem HLv.conf(h:HLv w0 K c hb g w):Calls prog 27 #[.pointer (some ⟨hb,0,none⟩)] w λe w'=>e=.returned (Jdq c)/\Gr w w':=by
 obtain⟨-,⟨s,e1,h,-,-⟩,-⟩:=h;rw[<-e1];exact VIO h
def X7D(w0:World)(K:Nat->Prop)(c:HCf)(hb:Nat)(w:World)(hd at_ off:Nat)(g':Gph)(e:Ending)(w':World):Prop:=∃lb,e=.returned (.tuple #[.pointer (some ⟨lb,0,none⟩),.int .i64 0])/\XF4 (hlT w0 K) w w'/\YbM w0 (λk=>K k\/k=lb) c hb lb hd at_ off g' w'/\w.heap.size<=lb
theorem Yx3(h:HLv w0 K c hb g w)(h1:hd<c.sl)(h2:at_<c.sl)(h3:off<c.sl)(d1:hd≠at_)(d2:hd≠off)(d3:at_≠off):Calls prog 6 #[.pointer (some ⟨hb,0,none⟩),.int .i64 hd,.agg #[.int .i64 at_,.int .i64 off]] w (X7D w0 K c hb w hd at_ off (YYI at_ off (g.clG hd))):=by
 obtain⟨E,-,-⟩:=h.facts;have A:=E.kd;have hsl:=E.sl;have Z:=hid (λ(V:World) (gV:Gr w V)=>(h.get gV).conf);unfold Jdq X2H at Z;have k1:((c.kd:Int)==0)=false:=by rw[ζy];omega
 have e1:((hd:Int)==(at_:Int))=false:=by rw[ζy];omega
 have e2:((hd:Int)==(off:Int))=false:=by rw[ζy];omega
 have e3:((at_:Int)==(off:Int))=false:=by rw[ζy];omega
 have l1:¬(c.sl:Int)<=(hd:Int):=Ω
 have l2:¬(c.sl:Int)<=(at_:Int):=Ω
 have l3:¬(c.sl:Int)<=(off:Int):=Ω
 have b1:(hd:Int)<=64:=Ω
 have b2:(at_:Int)<=64:=Ω
 have b3:(off:Int)<=64:=Ω
 have i0:∀V,(Instr.index 42 (.agg #[.int .i64 hd,.int .i64 at_,.int .i64 off]) (.int .i64 0)).run prog V=.ok (.int .i64 hd) V:=λ_=>by kernel_rfl
 have i1:∀V,(Instr.index 42 (.agg #[.int .i64 hd,.int .i64 at_,.int .i64 off]) (.int .i64 1)).run prog V=.ok (.int .i64 at_) V:=λ_=>by kernel_rfl
 have i2:∀V,(Instr.index 42 (.agg #[.int .i64 hd,.int .i64 at_,.int .i64 off]) (.int .i64 2)).run prog V=.ok (.int .i64 off) V:=λ_=>by kernel_rfl
 have Xb:∀V,(Instr.field 41 (.agg #[.int .i64 c.kd,.int .i64 c.pg,.int .i64 c.bk,.int .i64 c.wd,.int .i64 c.sl,.int .i64 c.st,.int .i64 c.ah,.float .f64 c.tr]) 0).run prog V=.ok (.int .i64 c.kd) V:=λ_=>by kernel_rfl
 have Xc:∀V,(Instr.field 41 (.agg #[.int .i64 c.kd,.int .i64 c.pg,.int .i64 c.bk,.int .i64 c.wd,.int .i64 c.sl,.int .i64 c.st,.int .i64 c.ah,.float .f64 c.tr]) 4).run prog V=.ok (.int .i64 c.sl) V:=λ_=>by kernel_rfl
 have hr:=Rec.new w 30 [.int .i64 at_,.int .i64 off];have N:=(Gr.refl w).alloc (.cells #[.int .i64 at_,.int .i64 off] 30);obtain⟨wb,O⟩:∃wb,wb=w.alloc (.cells #[.int .i64 at_,.int .i64 off] 30):=⟨_,rfl⟩;obtain⟨bx,I⟩:∃bx,bx=w.heap.size:=⟨_,rfl⟩;have hr:Rec wb bx 30 [.int .i64 at_,.int .i64 off]:=by rw[O,I];exact hr
 have N:Gr w wb:=by rw[O];exact N
 have HW:=hid O;have Xd:=hid I;have HR:=hid hr;have L:=hid N;have H:=hid h;have x0:=hr.cc 0;have x1:=hr.cc 1;have xl:=hr.lt;clear h E O I hr N h1 h2 h3 d1 d2 d3 A;go_enter func6,ntmps6;go_upto_region 1 with(fail);rw[<-HW.o,<-Xd.o];go_wp2_with(go_at_call 27;refine(Z.o _ L.o).mono ?_;rintro e w1 ⟨rfl,hg⟩;have Y:=hid hg;replace x0:=(HR.o.gr hg).cell (j:=0) rfl;replace x1:=(HR.o.gr hg).cell (j:=1) rfl;replace xl:=(HR.o.gr hg).lt;clear hg);have X:=hid (L.o.trans Y.o);clear x0 x1 xl
 go_loopw [21] (λs21 wr=>∃k:Nat,k<=3/\s21=.int .i64 k/\Hid (Gr w wr)/\Hid (Gr wb wr)) (λs21 _=>3-(intOf s21).toNat)
 case atStart=>exact⟨0,by omega,rfl,X,Y⟩
 case round=>
  clear X Y;obtain⟨k,hk,rfl,X,Y⟩:=hrel;by_cases U:k<3
  ·have Xa:k=0\/k=1\/k=2:=Ω
   clear U hk;rcases Xa with rfl|rfl|rfl
   ·go_wp2_with(go_at_call 27;refine(Z.o _ X.o).mono ?_;rintro e w4 ⟨rfl,hg⟩;have M:=hid (X.o.trans hg);have J:=hid (Y.o.trans hg);clear hg);go_round
    case rel=>exact⟨1,by omega,by go_num,M,J⟩
    case measure=>simp[intOf]
   ·go_wp2_with(go_at_call 27;refine(Z.o _ X.o).mono ?_;rintro e w4 ⟨rfl,hg⟩;have M:=hid (X.o.trans hg);have J:=hid (Y.o.trans hg);clear hg);go_round
    case rel=>exact⟨2,by omega,by go_num,M,J⟩
    case measure=>simp[intOf]
   ·go_wp2_with(go_at_call 27;refine(Z.o _ X.o).mono ?_;rintro e w4 ⟨rfl,hg⟩;have M:=hid (X.o.trans hg);have J:=hid (Y.o.trans hg);clear hg);go_round
    case rel=>exact⟨3,by omega,by go_num,M,J⟩
    case measure=>simp[intOf]
  ·obtain rfl:k=3:=Ω
   have x0:=(HR.o.gr Y.o).cell (j:=0) rfl;have x1:=(HR.o.gr Y.o).cell (j:=1) rfl;have xl:=(HR.o.gr Y.o).lt;clear U hk;go_upto_region 12 with(fail);clear e1 e2 e3 l1 l2 l3 k1 i0 i1 i2 Xb Xc;have B:=hid X.o;have HQ:Hid (YbM w0 (λk=>K k\/k=wr.heap.size) c hb wr.heap.size hd at_ off g (wr.alloc (.cells #[.pointer (some ⟨hb,0,none⟩),.int .i64 hd,.int .i64 at_,.int .i64 off] 77))):=⟨((H.o.get X.o).own ((Gr.refl wr).alloc _) (λk hk=>hk.imp id (λe=>⟨by omega,by rw[e];exact(Rec.new wr 77 [.pointer (some ⟨hb,0,none⟩),.int .i64 hd,.int .i64 at_,.int .i64 off]).lt⟩))),Rec.new wr 77 [.pointer (some ⟨hb,0,none⟩),.int .i64 hd,.int .i64 at_,.int .i64 off],.inr rfl⟩;have HT:Hid (XF4 (hlT w0 (λk=>K k\/k=wr.heap.size)) w (wr.alloc (.cells #[.pointer (some ⟨hb,0,none⟩),.int .i64 hd,.int .i64 at_,.int .i64 off] 77))):=⟨(X.o.alloc _).touch _⟩;have G:=hid (X.o.size);clear x0 x1 xl HR L Y Z H X B;generalize wr.alloc (.cells #[.pointer (some ⟨hb,0,none⟩),.int .i64 hd,.int .i64 at_,.int .i64 off] 77)=wz at HQ HT⊢;generalize wr.heap.size=lb at HQ HT G⊢;have c0:=HQ.o.row.cc 0;have c1:=HQ.o.row.cc 1;have c2:=HQ.o.row.cc 2;have c3:=HQ.o.row.cc 3;have cl:=HQ.o.row.lt
   go_wp2_with(first
    | (go_at_call 28;refine(HQ.o.hv.clr _).mono ?_;rintro e w1 ⟨rfl,ht,hl⟩;replace HT:=hid (HT.o.trans ht);replace HQ:=hid (HQ.o.next ht hl);replace c0:=HQ.o.row.cc 0;replace c1:=HQ.o.row.cc 1;replace c2:=HQ.o.row.cc 2;replace c3:=HQ.o.row.cc 3;replace cl:=HQ.o.row.lt;clear ht hl)
    | (go_at_call 29;refine(ZRU HQ.o).mono ?_;rintro e w1 ⟨rfl,ht,hl⟩;replace HT:=hid (HT.o.trans ht);replace HQ:=hid (HQ.o.next ht hl);replace c0:=HQ.o.row.cc 0;replace c1:=HQ.o.row.cc 1;replace c2:=HQ.o.row.cc 2;replace c3:=HQ.o.row.cc 3;replace cl:=HQ.o.row.lt;clear ht hl))
   go_ret2;exact⟨lb,rfl,HT.o.mono (λk _ hk=>⟨hk.1,λe=>hk.2 (.inl e)⟩),HQ.o,G.o⟩
end
end
section
open Go.RowKit Go.Shelf Word
structure JTE(w0:World)(K:Nat->Prop)(c:HCf)(hb lb hd at_ off:Nat)(D:List (Nat×Nat))(w:World):Prop where
 ex:∃g T,YbM w0 K c hb lb hd at_ off g w/\LsG g hd at_ off T D/\g.Ok/\ZCB g hd
 cap:4*D.length<=c.wd
def LsO(w0:World)(K:Nat->Prop)(c:HCf)(hb lb hd at_ off:Nat)(w:World)(v:Value)(D':List (Nat×Nat))(e:Ending)(w':World):Prop:=e=.returned v/\XF4 (hlT w0 K) w w'/\JTE w0 K c hb lb hd at_ off D' w'
set_option maxRecDepth 100000
theorem XfD(l:List Nat)(i:Nat):l.set i (l.getD i 0)=l:=by
 apply ζ9 (by rw[υ]);intro j h1 h2;rw[ψg]
 split
 ·rename_i e;subst e;rw[φ,δ h2];rfl
 ·rfl
section
variable {w0 w w':World} {K:Nat->Prop} {c:HCf} {hb lb hd at_ off:Nat} {D:List (Nat × Nat)}
theorem JTE.grew(h:JTE w0 K c hb lb hd at_ off D w):Gr w0 w:=by
 obtain⟨⟨g,T,a,b⟩,hc⟩:=h;exact a.hv.gr
theorem JTE.push(h:JTE w0 K c hb lb hd at_ off D w){x y:Nat}(hx:x<18446744073709551616)(hy:y<18446744073709551616):Calls prog 10 #[.pointer (some ⟨lb,0,none⟩),.int .u64 x,.float .f64 y] w (LsO w0 K c hb lb hd at_ off w (.int .i64 (if c.wd<4*D.length+4 then 21 else 0)) (if c.wd<4*D.length+4 then D else (x,y) :: D)):=by
 obtain⟨⟨g,T,a,b,ok,al⟩,hc⟩:=h;have he:=b.al (C:=c.wd);rw[(b.live ok al).2]at he;by_cases hf:c.wd<4*D.length+4
 ·rw[μ Ω]at he;have hn:¬g.alE c.wd at_ ⟨1,1,1⟩=0:=by rw[he];decide
  rw[μ hf,μ hf];refine(YKh a hx hy hn).mono ?_;rintro e w' ⟨rfl,ht,hl⟩;refine⟨by rw[he],ht,⟨g,T,a.next ht ?_,b,ok,al⟩,hc⟩;rw[YNL,ϑ hn]at hl;exact hl
 ·rw[ϑ Ω]at he;rw[ϑ hf,ϑ hf];refine(X3p a hx hy he).mono ?_;rintro e w' ⟨rfl,ht,hl⟩;have hp:=b.push ok he x y;exact⟨rfl,ht,⟨_,_,a.next ht hl,hp.ls,hp.ok,hp.alone al⟩,by rw[ζU];omega⟩
def QoX(i:Int)(n:Nat):Bool:=decide (0<=i)&&decide (i<n)
theorem ZvR{i:Int}{n:Nat}:QoX i n=true↔0<=i/\i<n:=by unfold QoX;simp
theorem JTE.at(h:JTE w0 K c hb lb hd at_ off D w){i:Int}(hi:i<=9223372036854775807):Calls prog 8 #[.pointer (some ⟨lb,0,none⟩),.int .i64 i] w (LsO w0 K c hb lb hd at_ off w (.tuple #[.int .u64 (if QoX i D.length then (D.getD i.toNat (0,0)).1 else 0:Nat),.float .f64 (if QoX i D.length then (D.getD i.toNat (0,0)).2 else 0),.int .i64 (if QoX i D.length then 0 else 6)]) D):=by
 obtain⟨⟨g,T,a,b,ok,al⟩,hc⟩:=h;by_cases h0:i<0
 ·have hn:¬QoX i D.length:=λh=>by have:=(ZvR.1 h).1;omega
  rw[ϑ hn,ϑ hn,ϑ hn];refine(X4w a h0).mono ?_;rintro e w' ⟨rfl,ht,hl⟩;rw[b.rest (g':=g) (v:=0) (by rw[<-b.z2,XfD])]at hl;exact⟨rfl,ht,⟨g,T,a.next ht hl,b,ok,al⟩,hc⟩
 ·obtain⟨k,rfl⟩:∃k:Nat,i=k:=⟨i.toNat,by omega⟩;have hk:k<=9223372036854775807:=Ω
  have X:=(b.atSlot k).2.2;by_cases h1:k<D.length
  ·have hn:QoX k D.length=true:=ZvR.2 ⟨by omega,by omega⟩;obtain⟨s0,s1,s2⟩:=b.at_ok h1;have hq:=VZK a hk s0;rw[s1,s2,X]at hq;rw[μ hn,μ hn,μ hn];refine hq.mono ?_;rintro e w' ⟨rfl,ht,hl⟩;exact⟨rfl,ht,⟨g,T,a.next ht hl,b,ok,al⟩,hc⟩
  ·have hn:¬QoX k D.length:=λh=>by have:=(ZvR.1 h).2;omega
   have hq:=ZFc a hk (b.at_no Ω);rw[X]at hq;rw[ϑ hn,ϑ hn,ϑ hn];refine hq.mono ?_;rintro e w' ⟨rfl,ht,hl⟩;exact⟨rfl,ht,⟨g,T,a.next ht hl,b,ok,al⟩,hc⟩
theorem JTE.turn(h:JTE w0 K c hb lb hd at_ off D w):Calls prog 9 #[.pointer (some ⟨lb,0,none⟩)] w (LsO w0 K c hb lb hd at_ off w (.tuple #[]) D.reverse):=by
 obtain⟨⟨g,T,a,b,ok,al⟩,hc⟩:=h;refine(Qw3 a b ok).mono ?_;rintro e w' ⟨g',X,rfl,ht,hl⟩;exact⟨rfl,ht,⟨g',_,a.next ht hl,X.ls,X.ok,X.alone al⟩,by rw[List.length_reverse];exact hc⟩
theorem JTE.len(h:JTE w0 K c hb lb hd at_ off D w):Calls prog 12 #[.pointer (some ⟨lb,0,none⟩)] w (LsO w0 K c hb lb hd at_ off w (.int .i64 D.length) D):=by
 obtain⟨⟨g,T,a,b,ok,al⟩,hc⟩:=h;have hw:=a.hv.facts.1.wd;refine(Z2R a b (by rw[b.ch.len];omega)).mono ?_;rintro e w' ⟨rfl,ht,hl⟩;exact⟨rfl,ht,⟨g,T,a.next ht hl,b,ok,al⟩,hc⟩
theorem ZA7(h:HLv w0 K c hb (Gph.nil c.sl) w)(h1:hd<c.sl)(h2:at_<c.sl)(h3:off<c.sl)(d1:hd≠at_)(d2:hd≠off)(d3:at_≠off):Calls prog 6 #[.pointer (some ⟨hb,0,none⟩),.int .i64 hd,.agg #[.int .i64 at_,.int .i64 off]] w λe w'=>∃lb,e=.returned (.tuple #[.pointer (some ⟨lb,0,none⟩),.int .i64 0])/\XF4 (hlT w0 K) w w'/\JTE w0 (λk=>K k\/k=lb) c hb lb hd at_ off [] w'/\w.heap.size<=lb:=by
 have hq:=Yx3 h h1 h2 h3 d1 d2 d3;rw[show Gph.nil c.sl=⟨[],List.replicate c.sl 0⟩from rfl,V6I h1 h2 h3]at hq;refine hq.mono ?_;rintro e w' ⟨lb,rfl,ht,hl,hs⟩;obtain⟨q1,q2,q3⟩:=QyT h1 h2 h3 d1 d2 d3;exact⟨lb,rfl,ht,⟨⟨_,[],hl,q1,q2,q3⟩,ζh _⟩,hs⟩
end
end
section
open Go.RowKit Go.Shelf Word
def ZCm:CfI:=⟨1,4,4,16,3,1,0,0⟩
def JhM:Nat->List (Nat×Nat)
 | 0=>[]
 | k+1=>(k+1,0) :: JhM k
theorem JH9:∀k,(JhM k).length=k
 | 0=>rfl
 | k+1=>by show (JhM k).length+1=k+1;rw[JH9 k]
theorem Yhn:ZCm.may=true:=by decide +kernel
theorem Vbr(w:World)(hT:VRW w):Calls prog 13 #[] w λe w'=>e=.returned (.bool true)/\Gr w w':=by
 have X:=hid (Xcy ZCm ⟨by show (4:Int)<=_;decide,by show (4:Int)<=_;decide,by show (16:Int)<=_;decide⟩ Yhn w hT);obtain⟨d,hd⟩:∃d,d=ZCm.nat:=⟨_,rfl⟩;have HD:Hid (d.wd=16/\d.sl=3):=⟨by rw[hd];exact⟨rfl,rfl⟩⟩;rw[<-hd]at X;unfold CfI.V ZCm at X;clear hT hd;go_enter func13,ntmps13;go_upto_region 2 with(go_at_call 15;refine(X.o).mono ?_;rintro e w1 ⟨s,rfl,hn⟩;have HN:=hid hn;clear hn);have Y:=HLv.new HN.o;obtain⟨hb,Z⟩:∃hb,hb=s.A.hp:=⟨_,rfl⟩;rw[<-Z]at Y⊢;have O:=hid (ZA7 Y (hd:=0) (at_:=1) (off:=2) (by rw[HD.o.2];omega) (by rw[HD.o.2];omega) (by rw[HD.o.2];omega) Ω Ω Ω);clear Y Z;go_wp2_with(go_at_call 6;refine(O.o).mono ?_;rintro e w2 ⟨lb,rfl,ht,hl,-⟩;have HT:=hid ht;have HS:=hid hl;clear ht hl);have HT0:Hid (w.heap.size<=w.heap.size):=⟨π _⟩
 go_loopw [26] (λs26 wr=>∃k:Nat,k<=3/\Hid (JTE w (λk=>False\/k=lb) d hb lb 0 1 2 (JhM k) wr)/\s26=.int .i64 k) (λs26 _=>3-(intOf s26).toNat)
 case atStart=>exact⟨0,by omega,HS,rfl⟩
 case round=>
  clear HS;obtain⟨k,hk,HS,rfl⟩:=hrel;by_cases hlast:k<3
  ·have hkI:(k:Int)<3:=Ω
   have HP:=hid (HS.o.push (x:=k+1) (y:=0) Ω Ω);rw[JH9,ϑ (by rw[HD.o.1];omega),ϑ (by rw[HD.o.1];omega)]at HP;go_wp2_with(go_at_call 10;refine(HP.o).mono ?_;rintro e w3 ⟨rfl,ht,hl⟩;have M:=hid hl;clear ht hl);go_round
   case rel=>exact⟨k+1,by omega,M,by go_num⟩
   case measure=>simp[intOf];omega
  ·obtain rfl:k=3:=Ω
   go_wp2_with(first
    | (go_at_call 12;refine(N.o.len).mono ?_;rintro e w5 ⟨rfl,ht,hl⟩;have J:=hid hl;clear ht hl)
    | (go_at_call 8;refine(U.o.at (i:=0) (by decide)).mono ?_;rintro e w4 ⟨rfl,ht,hl⟩;have N:=hid hl;clear ht hl)
    | (go_at_call 9;refine(HS.o.turn).mono ?_;rintro e w3 ⟨rfl,ht,hl⟩;have U:=hid hl;clear ht hl))
   go_ret;exact⟨rfl,J.o.grew⟩
end
section
open Go.RowKit Go.Shelf Word
theorem VHR(w:World):Calls prog 27 #[.pointer none] w λe w'=>e=.returned (.agg #[.int .i64 0,.int .i64 0,.int .i64 0,.int .i64 0,.int .i64 0,.int .i64 0,.int .i64 0,.float .f64 0])/\Gr w w':=by
 have hsf:=Qwi;have hr:=Rec.new w 41 [.int .i64 0,.int .i64 0,.int .i64 0,.int .i64 0,.int .i64 0,.int .i64 0,.int .i64 0,.float .f64 0];have HL:=hid (XkM hr (by kernel_rfl) (by kernel_rfl));clear hr;go_enter func27,ntmps27;go_wp2_with(go_at_call 50;refine(Jvl _).mono ?_;rintro e w1 ⟨rfl,rfl⟩);have hl:=HL.o;refine ζR (v:=.agg #[.int .i64 0,.int .i64 0,.int .i64 0,.int .i64 0,.int .i64 0,.int .i64 0,.int .i64 0,.float .f64 0]) ?_ rfl ⟨rfl,(Gr.refl w).alloc _⟩;simp[results,results27,asAddr,hl]
theorem JxX(w:World):Calls prog 6 #[.pointer none,.int .i64 0,.agg #[.int .i64 1,.int .i64 2]] w λe w'=>e=.returned (.tuple #[.pointer none,.int .i64 9])/\Gr w w':=by
 have Y:=hid ((Gr.refl w).alloc (.cells #[.int .i64 1,.int .i64 2] 30));have hf0:∀V,(Instr.field 41 (.agg #[.int .i64 0,.int .i64 0,.int .i64 0,.int .i64 0,.int .i64 0,.int .i64 0,.int .i64 0,.float .f64 0]) 0).run prog V=.ok (.int .i64 0) V:=λ_=>by kernel_rfl
 go_enter func6,ntmps6;go_wp2_with(go_at_call 27;refine(VHR _).mono ?_;rintro e w1 ⟨rfl,hg⟩;have X:=hid (Y.o.trans hg);clear hg);go_ret2;exact⟨rfl,X.o⟩
theorem YAs(w:World):Calls prog 30 #[.pointer none] w λe w'=>e=.returned (.bool true)/\w=w':=by
 go_enter func30,ntmps30;go_wp2;go_ret;exact⟨rfl,rfl⟩
theorem Xry(w:World):Calls prog 7 #[.pointer none] w λe w'=>e=.returned (.tuple #[.int .u64 0,.float .f64 0,.int .i64 9])/\w=w':=by
 go_enter func7,ntmps7;go_wp2_with(go_at_call 30;refine(YAs _).mono ?_;rintro e w1 ⟨rfl,rfl⟩)
 go_ret3
 exact⟨rfl,rfl⟩
theorem VfN(w:World)(i:Int):Calls prog 8 #[.pointer none,.int .i64 i] w λe w'=>e=.returned (.tuple #[.int .u64 0,.float .f64 0,.int .i64 9])/\w=w':=by
 go_enter_defers func8,ntmps8
 go_wp2_with(go_at_call 30;refine(YAs _).mono ?_;rintro e w1 ⟨rfl,rfl⟩);unfold bodyPostD;simp only[Leaves];refine⟨_,by simp[results,results8,go_sem],rfl,trivial⟩
theorem VDn(w:World):Calls prog 9 #[.pointer none] w λe w'=>e=.returned (.tuple #[])/\w=w':=by
 go_enter func9,ntmps9;go_wp2_with(go_at_call 30;refine(YAs _).mono ?_;rintro e w1 ⟨rfl,rfl⟩)
 first|go_end0|(refine ζR (ζr rfl _ _ _) rfl ?_)
 exact⟨rfl,rfl⟩
theorem Zmz(w:World)(x y:Nat):Calls prog 10 #[.pointer none,.int .u64 x,.float .f64 y] w λe w'=>e=.returned (.int .i64 9)/\w=w':=by
 go_enter func10,ntmps10;go_wp2_with(go_at_call 30;refine(YAs _).mono ?_;rintro e w1 ⟨rfl,rfl⟩);go_ret;exact⟨rfl,rfl⟩
theorem VrO(w:World)(i:Int)(x y:Nat):Calls prog 11 #[.pointer none,.int .i64 i,.int .u64 x,.float .f64 y] w λe w'=>e=.returned (.int .i64 9)/\w=w':=by
 go_enter_defers func11,ntmps11
 go_wp2_with(go_at_call 30;refine(YAs _).mono ?_;rintro e w1 ⟨rfl,rfl⟩);unfold bodyPostD;simp only[Leaves];refine⟨_,by simp[results,results11,go_sem],rfl,trivial⟩
theorem Z7n(w:World):Calls prog 12 #[.pointer none] w λe w'=>e=.returned (.int .i64 0)/\w=w':=by
 go_enter func12,ntmps12;go_wp2_with(go_at_call 30;refine(YAs _).mono ?_;rintro e w1 ⟨rfl,rfl⟩);go_ret;exact⟨rfl,rfl⟩
end
section
open Go.RowKit Go.Shelf Word
theorem Zh0{w:World}(hT:VRW w)(x:JNP):Calls prog 3 #[.agg x.L.toArray] w λe w'=>e=.returned (.bool true)/\Gr w w':=by
 have HT:=hid hT;have HB:=hid (Rec.new w 24 [.int .u8 x.kd,.int .i64 x.i,.int .u64 x.w,.int .u64 x.f]);have Y:=hid ((Gr.refl w).alloc (.cells #[.int .u8 x.kd,.int .i64 x.i,.int .u64 x.w,.int .u64 x.f] 24));have hf0:∀W,(binOp BinOp.eql 31 (.float .f64 0) (.float .f64 0)).run prog W=.ok (.bool true) W:=λW=>by kernel_rfl
 unfold JNP.L;clear hT;go_enter func3,ntmps3;go_upto_region 3 with(go_at_call 6;refine(JxX _).mono ?_;rintro e w1 ⟨rfl,hg⟩;have X:=hid hg;clear hg);have hb:=HB.o.gr X.o;have z1:=hb.cc 1;have z2:=hb.cc 2;have zl:=hb.lt;clear hb
 go_wp2_with(first
  | (go_at_call 13;refine(Vbr _ ((Y.o.trans X.o).tab HT.o.lt HT.o)).mono ?_;rintro e w3 ⟨rfl,hg⟩;have Z:=hid hg;clear hg)
  | (go_at_call 12;refine JmE (Z7n _) ?_;skip)
  | (go_at_call 11;refine JmE (VrO _ _ _ _) ?_;skip)
  | (go_at_call 10;refine JmE (Zmz _ _ _) ?_;skip)
  | (go_at_call 9;refine JmE (VDn _) ?_;skip)
  | (go_at_call 8;refine JmE (VfN _ _) ?_;skip)
  | (go_at_call 7;refine JmE (Xry _) ?_;skip))
 go_ret;exact⟨rfl,(Y.o.trans X.o).trans Z.o⟩
end
end Go.Proofs.YteihjlcmjecmfaaGreatDoor
