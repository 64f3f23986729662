/- Part 12 of what ListNobody leans on: my own lemmas, merged by shake.py. -/
import Derived.Test.YteihjlcmjecmfaaGreatDoorListNobodyK
namespace Go.Proofs.YteihjlcmjecmfaaGreatDoor
open _root_.Go.Proofs.Tryz
set_option maxHeartbeats 3200000
set_option maxRecDepth 100000
section
open Go.RowKit Go.Shelf Word
structure HSt where
 A:HAd
 X:Nat->Prop
 base:Nat
 top:Nat
 u:Vm
 F:Nat->Nat
 o:Option Nat
 lf:Nat
 nb:Nat
 cyc:Int
 blk:Int
def HSt.rs(s:HSt)(g:Gph):List Int:=g.S.map λx=>(s.F x:Int)
def HSt.S(s:HSt)(k:Nat):Prop:=s.X k\/k=s.A.hp\/k=s.A.g\/k=s.A.r\/k=s.A.rn
structure HIn(w:World)(c:HCf)(g:Gph)(s:HSt):Prop where
 com:XL4 w s.X s.A c s.base s.top (s.rs g) s.o s.cyc s.blk
 mem:V2z w s.X s.A c s.base s.top s.u s.o s.lf s.nb
 img:Img s.u g s.F s.base s.top
 gok:g.Ok
 cok:c.Ok
 bt:s.base<=s.top/\s.top<=s.base+c.wd
 bs:s.base=c.pg\/(s.base=c.pg+c.wd/\c.kd≠3)
 sl:g.S.length=c.sl
section
variable {w w':World} {c:HCf} {g:Gph} {s:HSt}
theorem HIn.gr(h:HIn w c g s)(gr:Gr w w'):HIn w' c g s:=⟨h.com.gr gr,h.mem.gr gr,h.img,h.gok,h.cok,h.bt,h.bs,h.sl⟩
theorem HIn.touch{T:Nat->Prop}(h:HIn w c g s)(t:XF4 T w w')(hT:∀k,k<w.heap.size->T k->¬s.S k/\k≠1):HIn w' c g s:=by
 obtain⟨l1,l2,l3,l4,l5⟩:=h.com.lt
 exact⟨h.com.touch t ⟨λe=>(hT _ l1 e).1 (.inr (.inl rfl)),λe=>(hT _ l2 e).1 (.inr (.inr (.inr (.inl rfl)))),λe=>(hT _ l3 e).1 (.inr (.inr (.inl rfl))),λe=>(hT _ l4 e).1 (.inr (.inr (.inr (.inr rfl)))),λe=>(hT _ l5 e).2 rfl⟩,
  h.mem.touch t (λk hk e=>⟨λhx=>(hT k hk e).1 (.inl hx),(hT k hk e).2⟩) (λ_ h=>h),h.img,h.gok,h.cok,h.bt,h.bs,h.sl⟩
theorem HIn.cell(h:HIn w c g s){j:Nat}{x:Value}(hj:(hpL c s.A s.o s.cyc s.blk)[j]?=some x):w.cell? ⟨s.A.hp,j,none⟩=some x:=h.com.row.cell hj
theorem HIn.cc(h : HIn w c g s)(j : Nat){x : Value}(hj : (hpL c s.A s.o s.cyc s.blk)[j]?=some x := by exact rfl) : w.cell? ⟨s.A.hp,j,none⟩=some x := h.cell hj
theorem XuX(h:HIn w c g s):Calls prog 50 #[.pointer (some ⟨s.A.hp,0,none⟩)] w λe w'=>e=.returned (.bool false)/\w=w':=by
 have c8:=h.cc 8;have cl:=h.com.row.lt;clear h;go_enter func50,ntmps50;go_wp2;go_ret;exact⟨rfl,rfl⟩
theorem Jvl(w:World):Calls prog 50 #[.pointer none] w λe w'=>e=.returned (.bool true)/\w=w':=by
 go_enter func50,ntmps50;go_wp2;go_ret;exact⟨rfl,rfl⟩
def HSt.sp(s:HSt)(c:HCf):Sp:=spH s.A c s.base s.top s.o s.lf s.nb
theorem Z4p(h:HIn w c g s):Calls prog 70 #[.pointer (some ⟨s.A.hp,0,none⟩)] w λe w'=>e=.returned (s.sp c).v/\w=w':=by
 have c8:=h.cc 8;have Y:=h.cc 11;have cl:=h.com.row.lt;unfold HSt.sp Sp.v spH;obtain⟨A,X,base,top,u,F,o,lf,nb,cyc,blk⟩:=s;dsimp only at *
 clear h;cases o with
 | none=>
  simp only[ψl]at Y;go_enter func70,ntmps70;go_wp2;go_ret;exact⟨rfl,rfl⟩
 | some y=>
  simp only[ξV]at Y;go_enter func70,ntmps70;go_wp2;go_ret;exact⟨rfl,rfl⟩
structure HKp(s s':HSt):Prop where
 F:s'.F=s.F
 base:s'.base=s.base
 top:s'.top=s.top
theorem HKp.refl(s:HSt):HKp s s:=⟨rfl,rfl,rfl⟩
theorem HKp.trans{s1 s2 s3:HSt}(h:HKp s1 s2)(k:HKp s2 s3):HKp s1 s3:=⟨k.F.trans h.F,k.base.trans h.base,k.top.trans h.top⟩
structure XBF(w:World)(c:HCf)(g:Gph)(s s':HSt)(w':World):Prop where
 t:XF4 (λk=>k=s.A.hp) w w'
 i:HIn w' c g s'
 A:s'.A=s.A
 lf:s'.lf=s.lf
 o:s'.o=none↔s'.lf=0
 cyc:s'.cyc=if s.o≠none/\s.lf=0 then wrap64 (s.cyc+1)else s.cyc
 X:∀k,s'.X k->s.X k
 K:HKp s s'
theorem VFm(h:HIn w c g s):Calls prog 71 #[.pointer (some ⟨s.A.hp,0,none⟩)] w λe w'=>e=.returned (.tuple #[])/\∃s',XBF w c g s s' w':=by
 have H:=hid h;have U:=h.cc 11;have cl:=h.com.row.lt;cases ho:s.o with
 | none=>
  rw[ho]at U;simp only[ψl]at U;have E:s.lf=0:=by have:=h.mem;rw[ho]at this;exact this.2.2.2
  have HO:=hid ho;have Xa:=hid E;clear h ho E;go_enter func71,ntmps71;go_wp2;refine ζF (ζr rfl _ _ _) rfl ?_;exact⟨rfl,s,XF4.refl _ _,H.o,rfl,rfl,⟨λ_=>Xa.o,λ_=>HO.o⟩,by rw[ϑ (λhh=>hh.1 HO.o)],λ_ h=>h,HKp.refl _⟩
 | some y=>
  rw[ho]at U;simp only[ξV]at U;have hm:=h.mem;rw[ho]at hm;obtain⟨z,sl,v,R,Sv,Z,e1,e2⟩:=hm;have V:=hid (JiW Z.cy);have Xe:=hid Z;by_cases h0:sl.lf=0
  ·have J:=h.com.row;unfold hpL at J;rw[ho]at J;simp only[ξV]at J;have Y:=hid J;have B:=hid (λ(W:World) (gg:Gr w W)=>QXi (Z.cy.gr gg));rw[κ h0]at V
   have Xf:sl.mv.length<=1048576:=by
    rw[Z.ok.st.len];have h1:=Z.ok.st.N_le;have h2:=Z.ok.st.n2;have h3:=Z.ok.st.bk.1
    have h4:nbl (sizes sl.L) sl.cf.bk<=sizes sl.L:=by
     refine ξ3 λh5=>?_;have h6:=(VjL h3).1 h5;have:=ψa (sizes sl.L) (show 0<sl.cf.bk by omega);omega
    omega
   obtain⟨m,I⟩:∃m,m=sl.mv.length:=⟨_,rfl⟩;rw[<-I]at B Xf;have HM:=hid I;have H0:=hid h0;have HE:=hid (ν ho (ν e1 e2));obtain⟨x,hx⟩:∃x,x=s.cyc:=⟨_,rfl⟩;obtain⟨b,M⟩:∃b,b=s.blk:=⟨_,rfl⟩;obtain⟨ap,hp⟩:∃ap,ap=s.A.hp:=⟨_,rfl⟩;rw[<-hx,<-M]at Y;rw[<-hp]at Y U cl;have Xb:=hid (ν hx (ν M hp));rw[<-hp];clear h h0 Z J ho e1 e2 hx M I hp;go_enter func71,ntmps71;go_upto_region 1 with(go_at_call 111;refine JmE (V.o) ?_);clear U;have z0:=Y.o.free 13;have z1:=Y.o.cc 13;obtain⟨Sx,N,HS⟩:=ZJV.start λW'=>Gr w W';have Xc:=ZJV.fact N λ_ h=>(Y.o.gr h).cell (j:=11) rfl;have Xd:=ZJV.fact N λ_ h=>(Y.o.gr h).cell (j:=13) rfl;have O:=HS.o _ ((Gr.refl w).drew);have D:Inhabited (ZJV Sx):=⟨⟨_,O⟩⟩;clear N;refine Vv2 Sx 12 [([0,1,2,3,4,5,6,7],8),([9,10,11],12)] [] (by kernel_rfl) (by kernel_rfl) O ?_;refine XGW ?_
   try simp only[XZy,ζ,ξ]
   repeat(go_big_quiet_step (fail))
   refine θ ?_;go_wp2_with((go_at_call 112;refine JmE (B.o _ (Gr.refl w).drew) ?_));refine⟨.inr (ZJV.of (HS.o _ ((Gr.refl w).drew))),?_⟩;refine XGW ?_
   try simp only[XZy,ζ,ξ]
   repeat(go_big_quiet_step (fail))
   refine θ ?_;go_wp2;refine⟨.inl trivial,?_⟩;refine Z9U ?_;refine θ ?_;refine β ?_;clear Xc Xd O D;clear HS Sx;have z2:=Y.o.cc 11;have z3:=Y.o.cc 12;have zf:=Y.o.free;go_wp2;refine ζF (ζr rfl _ _ _) rfl ?_;obtain⟨rfl,rfl,rfl⟩:=Xb.o;have HO:=Xe.o;have hI:=H.o;have Xg:=HO.ok.st;have hr:=Y.o
   obtain⟨S1,S2⟩:=HO.a.shut HO.ok (λi hi=>by
    have hf:¬sl.ft<sl.mv.length:=sl.lf_zero.1 H0.o;have hb:=Xg.blk hi;unfold Sl.is
    exact sl.ft_on Ω)
   rw[HO.bs]at S1 S2;refine⟨rfl,{s with u:=v,X:=Sv,o:=none,lf:=0,nb:=0,cyc:=wrap64 (s.cyc+1),blk:=wrap64 (s.blk+m)},?_,?_,rfl,?_,⟨λ_=>rfl,λ_=>rfl⟩,?_,λk hk=>HO.x k (.inr hk),⟨rfl,rfl,rfl⟩⟩
   ·exact((((XF4.refl (λk=>k=s.A.hp) w).setCell (a:=⟨s.A.hp,13,none⟩) (λ_=>rfl) _).drew).setCell (a:=⟨s.A.hp,11,none⟩) (λ_=>rfl) _).setCell (a:=⟨s.A.hp,12,none⟩) (λ_=>rfl) _
   ·have t:XF4 (λk=>k=s.A.hp) w (((w.setCell ⟨s.A.hp,13,none⟩ (.int .i64 (wrap64 (s.blk+m)))).drew.setCell ⟨s.A.hp,11,none⟩ (.pointer none)).setCell ⟨s.A.hp,12,none⟩ (.int .i64 (wrap64 (s.cyc+1)))):=
     ((((XF4.refl (λk=>k=s.A.hp) w).setCell (a:=⟨s.A.hp,13,none⟩) (λ_=>rfl) _).drew).setCell (a:=⟨s.A.hp,11,none⟩) (λ_=>rfl) _).setCell (a:=⟨s.A.hp,12,none⟩) (λ_=>rfl) _
    have hc:=hI.com;have hx:=hc.x;refine⟨⟨(((hr.set 13 (.int .i64 (wrap64 (s.blk+m)))).gr (Gr.refl _).drew).set 11 (.pointer none)).set 12 (.int .i64 (wrap64 (s.cyc+1))),hc.rn.touch t (λe=>hc.n1.2.2.1 e.symm),hc.rt.touch t (λe=>hc.n1.1 e.symm) (λe=>hc.n1.2.1 e.symm),t.tab hc.tab.lt (λe=>hc.n1.2.2.2 e.symm) hc.tab,hc.n1,hc.n2,hc.n3,λe=>hx.1 (HO.x _ (.inr e)),λe=>hx.2.1 (HO.x _ (.inr e)),λe=>hx.2.2.1 (HO.x _ (.inr e)),λe=>hx.2.2.2.1 (HO.x _ (.inr e)),HO.t2⟩,⟨HO.vm.touch t (λk hk _ e=>hx.1 (by subst e;exact HO.x _ (.inr hk))),HO.hv,S1,rfl⟩,?_,hI.gok,hI.cok,hI.bt,hI.bs,hI.sl⟩;exact hI.img.mem λa a1 a2 _=>S2 a a1 a2
   ·rw[<-HE.o.2.1,H0.o]
   ·rw[μ ⟨by rw[HE.o.1];simp,by rw[<-HE.o.2.1];exact H0.o⟩]
  ·have HL:=hid h0;have HE:=hid (ν ho (ν e1 e2));rw[ψ h0]at V;clear h h0 Z ho e1 e2;go_enter func71,ntmps71;go_wp2_with(go_at_call 111;refine JmE (V.o) ?_);refine ζF (ζr rfl _ _ _) rfl ?_;have G:s.lf≠0:=by rw[<-HE.o.2.1];exact HL.o
   exact⟨rfl,s,XF4.refl _ _,H.o,rfl,rfl,⟨(λe=>by rw[HE.o.1]at e;cases e),λe=>absurd e G⟩,by rw[ϑ (λhh=>G hh.2)],λ_ h=>h,HKp.refl _⟩
def HCf.ot(c:HCf)(base:Nat):Nat:=2*c.pg+c.wd-base
theorem HIn.ot(h:HIn w c g s):(c.ot s.base=c.pg+c.wd/\s.base=c.pg)\/(c.ot s.base=c.pg/\s.base=c.pg+c.wd):=by
 unfold HCf.ot;rcases h.bs with e|⟨e,-⟩
 ·exact .inl ⟨by omega,e⟩
 ·exact .inr ⟨by omega,e⟩
theorem VrP(h:HIn w c g s):Calls prog 120 #[.pointer (some ⟨s.A.hp,0,none⟩)] w λe w'=>e=.returned (.int .i64 (c.ot s.base))/\Gr w w':=by
 have U:=h.ot;have hpw:=h.cok.pw;have hwd:=h.cok.wd;have HC:=hid (λ(W:World) (gg:Gr w W)=>(h.com.gr gg).row);have HB:=hid (λ(W:World) (gg:Gr w W)=>JFl (h.com.gr gg).rn);obtain⟨ap,hp⟩:∃ap,ap=s.A.hp:=⟨_,rfl⟩;rw[<-hp]at HC⊢;have hv:(2*(c.pg:Int)+c.wd-s.base)=(c.ot s.base:Nat):=Ω
 have HV:=hid hv;obtain⟨b,hb⟩:∃b,b=s.base:=⟨_,rfl⟩;rw[<-hb]at HB HV U⊢;clear h hp hv hb;go_enter func120,ntmps120;go_upto_region 1 with(fail);obtain⟨Sx,Y,HS⟩:=ZJV.start λW'=>Gr w W';have y1:=ZJV.fact Y λ_ h=>(HC.o _ h).cell (j:=1) rfl;have y3:=ZJV.fact Y λ_ h=>(HC.o _ h).cell (j:=3) rfl;have V:=ZJV.fact Y λ_ h=>(HC.o _ h).cell (j:=10) rfl;have Z:=HS.o _ ((Gr.refl w).drew);have J:Inhabited (ZJV Sx):=⟨⟨_,Z⟩⟩;clear Y;refine Vv2 Sx 19 [([0,1,2,3,4,5,6,7,8,9,10,11,12,13,14,15],16)] [17,18] (by kernel_rfl) (by kernel_rfl) Z ?_;refine XGW ?_
 try simp only[XZy,ζ,ξ]
 repeat(go_big_quiet_step (fail))
 refine θ ?_;go_wp2_with((go_at_call 88;refine JmE (HB.o _ (Gr.refl w).drew) ?_));refine⟨.inr (ZJV.of (HS.o _ ((Gr.refl w).drew))),?_⟩;refine Z9U ?_
 try simp only[XZy,ζ,ξ]
 repeat(go_big_quiet_step (fail))
 refine θ ?_;refine β ?_;clear y1 y3 V Z J;clear HS Sx;go_wp2;go_ret;exact⟨ZzN HV.o,(Gr.refl w).drew⟩
theorem QHg(W:World)(b:Nat)(x0 x1 x2 x3 x4 x5 x6:Value)(h:Rec W b 156 [x0,x1,x2,x3,x4,x5,x6]):(loadVar 156 ⟨b,0,none⟩).run prog W=.ok (.agg #[x0,x1,x2,x3,x4,x5,x6]) W:=by
 have a1:(isAgg 156).run prog W=.ok true W:=by kernel_rfl
 have a2:(sizeOf 156).run prog W=.ok 7 W:=by kernel_rfl
 have c0:=h.cc 0;have c1:=h.cc 1;have c2:=h.cc 2;have c3:=h.cc 3;have c4:=h.cc 4;have c5:=h.cc 5;have c6:=h.cc 6;simp[loadVar,Sem.run_bind,a1,a2,Result.andThen,loadCells,go_sem,c0,c1,c2,c3,c4,c5,c6]
theorem VZS(h:HIn w c g s):Calls prog 84 #[.pointer (some ⟨s.A.hp,0,none⟩)] w λe w'=>e=.returned (cfV (YLQ c s.base s.top (c.ot s.base)))/\Gr w w':=by
 have O:=h.ot;have hpw:=h.cok.pw;have hwd:=h.cok.wd;have M:=(Gr.refl w).alloc (.cells #[.int .i64 0,.int .i64 0,.int .i64 0,.int .i64 0,.int .i64 0,.int .i64 0,.int .i64 0] 156);have HO:=hid (VrP (h.gr M));have HC:=hid (λ(W:World) (gg:Gr w W)=>(h.com.gr gg).row);have HB:=hid (λ(W:World) (gg:Gr w W)=>JFl (h.com.gr gg).rn);have HT:=hid (λ(W:World) (gg:Gr w W)=>Vkj (h.com.gr gg).rn);have HR:=hid (Rec.new w 156 [.int .i64 0,.int .i64 0,.int .i64 0,.int .i64 0,.int .i64 0,.int .i64 0,.int .i64 0]);unfold cfV YLQ;dsimp only;obtain⟨ap,hp⟩:∃ap,ap=s.A.hp:=⟨_,rfl⟩;rw[<-hp]at HC HO⊢;obtain⟨d,hd⟩:∃d,d=c.ot s.base:=⟨_,rfl⟩;rw[<-hd]at HO O⊢;have HL:=hid h.com.row.lt;rw[<-hp]at HL;clear h hp hd;go_enter func84,ntmps84;go_upto_region 2 with(go_at_call 120;refine(HO.o).mono ?_;rintro e w1 ⟨rfl,J⟩;have N:=hid (M.trans J);have r1:=HR.o.gr J;have I:=hid r1;clear J);have Z:Gr w w1.drew:=N.o.drew;have z0:=r1.cc 0;have z1:=r1.cc 1;have z2:=r1.cc 2;have z3:=r1.cc 3;have z4:=r1.cc 4;have z5:=r1.cc 5;have z6:=r1.cc 6;have zf:=r1.free;clear r1;obtain⟨Sx,Y,HS⟩:=ZJV.start λW'=>Gr w W';have y2:=ZJV.fact Y λ_ h=>(HC.o _ h).cell (j:=2) rfl;have y3:=ZJV.fact Y λ_ h=>(HC.o _ h).cell (j:=3) rfl;have y5:=ZJV.fact Y λ_ h=>(HC.o _ h).cell (j:=5) rfl;have y6:=ZJV.fact Y λ_ h=>(HC.o _ h).cell (j:=6) rfl;have E:=ZJV.fact Y λ_ h=>(HC.o _ h).cell (j:=10) rfl;have U:=HS.o _ (Z);have V:Inhabited (ZJV Sx):=⟨⟨_,U⟩⟩;clear Y;refine Vv2 Sx 34 [([0,1,2,3,5,6,7,8,10,11,12,13,14,15,16,17,18,19,20,21,22,23,24,25,26,27,28,29,30,31,32],4),([],9),([33],34)] [] (by kernel_rfl) (by kernel_rfl) U ?_;refine XGW ?_
 try simp only[XZy,ζ,ξ]
 repeat(go_big_quiet_step (fail))
 refine θ ?_;go_wp2_with((go_at_call 88;refine JmE (HB.o _ Z) ?_));refine⟨.inr (ZJV.of (HS.o _ (Z))),?_⟩;refine XGW ?_
 try simp only[XZy,ζ,ξ]
 repeat(go_big_quiet_step (fail))
 refine θ ?_;go_wp2_with((go_at_call 89;refine JmE (HT.o _ Z) ?_));refine⟨.inr (ZJV.of (HS.o _ (Z))),?_⟩;refine XGW ?_
 try simp only[XZy,ζ,ξ]
 repeat(go_big_quiet_step (fail))
 refine θ ?_;go_wp2;refine⟨.inl trivial,?_⟩;refine Z9U ?_;refine θ ?_;refine β ?_;clear y2 y3 y5 y6 E U V;clear HS Sx;go_wp2;have R:=(((((((I.o.set 0 (.int .i64 s.base)).set 1 (.int .i64 s.top)).set 2 (.int .i64 d)).set 3 (.int .i64 ((d:Int)+c.wd))).set 4 (.int .i64 c.bk)).set 5 (.int .i64 c.st)).set 6 (.int .i64 c.ah)).gr (Gr.refl _).drew;have hl:=QHg _ _ _ _ _ _ _ _ _ R;refine ζR (v:=.agg #[.int .i64 s.base,.int .i64 s.top,.int .i64 d,.int .i64 ((d:Int)+c.wd),.int .i64 c.bk,.int .i64 c.st,.int .i64 c.ah]) ?_ rfl ⟨rfl,?_⟩
 ·simp[results,results84,asAddr,hl]
 ·have t:XF4 (λk=>w.heap.size<=k) w w1:=N.o.touch _;exact(((((((t.setCell (a:=⟨w.heap.size,0,none⟩) (λ_=>π _) _).setCell (a:=⟨w.heap.size,1,none⟩) (λ_=>π _) _).setCell (a:=⟨w.heap.size,2,none⟩) (λ_=>π _) _).setCell (a:=⟨w.heap.size,3,none⟩) (λ_=>π _) _).setCell (a:=⟨w.heap.size,4,none⟩) (λ_=>π _) _).setCell (a:=⟨w.heap.size,5,none⟩) (λ_=>π _) _).setCell (a:=⟨w.heap.size,6,none⟩) (λ_=>π _) _ |>.mono (λk hk h=>by omega)).gr.drew
end
end
section
open Go.RowKit Go.Shelf Word
section
variable {w w':World} {X Sv:Nat->Prop} {A:HAd} {c:HCf} {b0 t0 b t:Nat} {rs:List Int} {cy:Option Nat} {cyc blk:Int} {v:Vm}
theorem XQQ(h:XL4 w X A c b0 t0 rs cy cyc blk)(hV:QXZ w Sv A.q v)(h1:b<=t)(h2:t<=b+c.wd)(h3:b+c.wd<=v.n)(hn:v.n≠0)(hX:∀k,X k->k<w.heap.size):Calls prog 86 #[.pointer (some ⟨A.hp,0,none⟩),.int .i64 b,.int .i64 t] w λe w'=>e=.returned (.tuple #[])/\∃rn,w.heap.size<=rn/\XF4 (λk=>k=A.hp) w w'/\XL4 w' X {A with rn:=rn} c b t rs cy cyc blk:=by
 have hn2:=hV.ok.n2;have I:=hid (λ(W:World) (g:Gr w W)=>YN8 (base:=b) (lim:=b+c.wd) (hV.gr g) hn (ζS _ _) h3);rw[show (((b+c.wd:Nat)):Int)=(b:Int)+c.wd by omega]at I;have HC:=hid (λ(W:World) (g:Gr w W)=>(h.gr g).row);have H:=hid h;have HX:=hid hX;have HB:=hid (ν h1 h2);obtain⟨ap,V⟩:∃ap,ap=A.hp:=⟨_,rfl⟩;rw[<-V]at HC;have HA:=hid V;have Xg:=h.row.lt;rw[<-V]at Xg⊢;have hbw:b+c.wd<=524288:=Ω
 clear h hV h1 h2 h3 hn hX V;go_enter func86,ntmps86;go_upto_region 0 with(fail);obtain⟨Sx,M,HS⟩:=ZJV.start λW'=>(∃r:Nat,Rec W' ap 92 (hpL c {A with rn:=r} cy cyc blk))
 have y3:∀p:ZJV Sx,p.w.cell? ⟨ap,3,none⟩=some (.int .i64 c.wd):=λp=>by have h:=ZJV.get M p;exact by obtain⟨r,h⟩:=h;exact h.cc 3
 have y8:∀p:ZJV Sx,p.w.cell? ⟨ap,8,none⟩=some (.pointer (some ⟨A.q,0,none⟩)):=λp=>by have h:=ZJV.get M p;exact by obtain⟨r,h⟩:=h;exact h.cc 8
 have N:=HS.o _ (⟨A.rn,HC.o _ (Gr.refl w).drew⟩);have L:Inhabited (ZJV Sx):=⟨⟨_,N⟩⟩;clear M;refine Vv2 Sx 20 [([0,1,2,3,4,5,6,7,8,9,10,11,12],13),([14,15,16,17,18],19)] [] (by kernel_rfl) (by kernel_rfl) N ?_;refine XGW ?_
 try simp only[XZy,ζ,ξ]
 repeat(go_big_quiet_step (fail))
 refine θ ?_;go_wp2_with((go_at_call 42;refine(I.o _ (Gr.refl w).drew).mono ?_;rintro e w1 ⟨rn,rfl,J,Xb,Z⟩;have Y:=hid ((Gr.refl w).drew.trans J);have E:=hid (ν Xb Z);have Xa:=(HC.o _ ((Gr.refl w).drew.trans J)).cell (j:=10) rfl;have zf:=(HC.o _ ((Gr.refl w).drew.trans J)).free 10;clear J Xb Z));refine⟨.inr (ZJV.of (HS.o _ (⟨A.rn,HC.o _ Y.o⟩))),?_⟩;refine XGW ?_
 try simp only[XZy,ζ,ξ]
 repeat(go_big_quiet_step (fail))
 refine θ ?_;go_wp2_with(fail);refine⟨.inr (ZJV.of (HS.o _ (⟨rn,(HC.o _ Y.o).set 10 (.pointer (some ⟨rn,0,none⟩))⟩))),?_⟩;refine Z9U ?_
 try simp only[XZy]
 repeat(go_big_quiet_step (fail))
 refine θ ?_;refine β ?_;clear y3 y8 N L;clear HS Sx;have Z:=E.o.2;have hrl:=E.o.1;have hsz:w.drew.heap.size=w.heap.size:=rfl;have D:rn≠ap:=Ω
 have tp:XF4 (λk=>k=ap) w1 (w1.setCell ⟨ap,10,none⟩ (.pointer (some ⟨rn,0,none⟩))):=(XF4.refl (λk=>k=ap) w1).setCell (a:=⟨ap,10,none⟩) (λ_=>rfl) _;have Xf:=hid (JDi (Z.touch tp D) HB.o.1 HB.o.2);have U:=hid tp;have O:=Rec.set (HC.o _ Y.o) 10 (.pointer (some ⟨rn,0,none⟩));have Xc:=hid O;clear Xa zf;have Xa:=O.cc 10;clear O Z D tp;go_wp2_with(go_at_call 90;refine(Xf.o).mono ?_;rintro e w3 ⟨rfl,B,G⟩;have Xe:=hid B;have Xd:=hid G;clear B G);refine ζF (ζr rfl _ _ _) rfl ?_;have hc:=H.o;obtain⟨l1,l2,l3,l4,l5⟩:=hc.lt;have eA:=HA.o;subst eA;have k:=hc.gr Y.o;have t3:=Xe.o;refine⟨rfl,rn,by omega,((Y.o.touch (λk=>k=A.hp)).trans U.o).trans' t3 (λi hi e=>by omega),⟨?_,Xd.o,?_,?_,⟨hc.n1.1,hc.n1.2.1,by show A.hp≠rn;omega,hc.n1.2.2.2⟩,⟨hc.n2.1,by show A.r≠rn;omega,hc.n2.2.2⟩,⟨by show A.g≠rn;omega,hc.n3.2.1,by show rn≠_;omega⟩,⟨hc.x.1,hc.x.2.1,hc.x.2.2.1,λe=>by have:=HX.o _ e;show False;have:rn<w.heap.size:=this;omega,hc.x.2.2.2.2⟩⟩⟩
 ·exact(Xc.o.touch t3 (by show A.hp≠rn;omega))
 ·exact(k.rt.touch U.o (λe=>hc.n1.1 e.symm) (λe=>hc.n1.2.1 e.symm)).touch t3 (by show A.r≠rn;omega) (by show A.g≠rn;omega)
 ·exact t3.tab (U.o.tab k.tab.lt (λe=>hc.n1.2.2.2 e.symm) k.tab).lt (by show _≠rn;omega) (U.o.tab k.tab.lt (λe=>hc.n1.2.2.2 e.symm) k.tab)
end
section
variable {w w':World} {c:HCf} {g:Gph} {s:HSt}
theorem HSt.len(s:HSt)(g:Gph):(s.rs g).length=g.S.length:=ξ7 ..
theorem YGy(s:HSt)(g:Gph)(i:Int):slE (s.rs g) i=if g.sl i then 0 else 17:=by
 unfold slE Gph.sl;rw[s.len];by_cases h:0<=i/\i<g.S.length
 ·rw[μ h,κ h.1,κ h.2];rfl
 ·rw[ϑ h];rcases(by omega:¬0<=i\/¬i<g.S.length)with h1|h1
  ·rw[ψ h1];rfl
  ·rw[ψ h1,ξ2];rfl
theorem XdH{g:Gph}{i:Int}(h:g.sl i=true):∃n:Nat,i=n/\n<g.S.length/\g.at i=g.S.getD n 0:=by
 unfold Gph.sl at h;rw[ζd,ζe,ζe]at h;exact⟨i.toNat,by omega,by omega,rfl⟩
theorem HSt.get(s:HSt)(g:Gph){n:Nat}(h:n<g.S.length):(s.rs g)[n]'(by rw[s.len];exact h)=(s.F (g.S.getD n 0):Int):=by
 unfold HSt.rs;rw[ψx,φ,δ h];rfl
def JV8(w:World)(g:Gph)(s:HSt)(l:List Int)(e:Ending)(w':World):Prop:=
 Gr w w'/\(((∀x∈l,g.sl x=true)/\∃v,e=.returned (.tuple #[v,.int .i64 0])/\w'.ownsRow w.heap.size 3 1 v l.length (zs (l.map λx=>(s.F (g.at x):Int)))) ∨
  ((∃x∈l,g.sl x=false)/\e=.returned (.tuple #[.slice none 0 0,.int .i64 17])))
theorem XEM(h:HIn w c g s){b:Nat}{l:List Int}(hl:l.length<=2)(hc:∀j (hj:j<l.length),w.cell? ⟨b,j,none⟩=some (.int .i64 l[j]))(hb:b<w.heap.size):
  Calls prog 68 #[.pointer (some ⟨s.A.hp,0,none⟩),.slice (some ⟨b,0,none⟩) l.length l.length] w (JV8 w g s l):=by
 have HN:=hid (XuX h);have O:=hid (λ(W:World) (gg:Gr w W)=>(h.com.gr gg).row)
 have HG:=hid (λ(W:World) (gg:Gr w W) (i:Int) (hi:g.sl i=true)=>(by
  obtain⟨n,rfl,h1,h2⟩:=XdH hi;have:=Jwg (h.com.gr gg).rt (i:=n) (by rw[s.len];exact h1);rw[s.get g h1,<-h2]at this
  exact this:Calls prog 55 #[.pointer (some ⟨s.A.r,0,none⟩),.int .i64 i] W λe w'=>e=.returned (.tuple #[.int .i64 (s.F (g.at i)),.int .i64 0])/\Gr W w'))
 have Xc:=hid (λ(W:World) (gg:Gr w W) (i:Int) (hi:g.sl i=false)=>VMw (h.com.gr gg).rt (i:=i) (by rw[YGy,hi];decide));have Xe:=hid (λ(W:World) (gg:Gr w W) (j:Nat) (hj:j<l.length)=>(gg.cell hb j).trans (hc j hj));have HL:=hid hb;obtain⟨ap,I⟩:∃ap,ap=s.A.hp:=⟨_,rfl⟩;rw[<-I]at HN O⊢;have Xb:=h.com.row.lt;rw[<-I]at Xb;obtain⟨m,hm⟩:∃m,m=l.length:=⟨_,rfl⟩;have HM:=hid hm;rw[<-hm]at hl⊢;obtain⟨ii,Xd,G,B,Xf⟩:=info_parts J0c;clear h hc I hm;go_enter func68,ntmps68;go_wp2_with(go_at_call 50;refine JmE (HN.o) ?_)
 go_loopw [6,15] (λs6 s15 wr=>∃(j:Nat) (v:Value),j<=m/\s6=v/\s15=.int .i64 j/\Hid (Gr w wr)/\Hid (∀x∈l.take j,g.sl x=true)/\Hid (wr.ownsRow w.heap.size 3 1 v j (zs ((l.take j).map λx=>(s.F (g.at x):Int))))) (λ_ s15 _=>m-(intOf s15).toNat)
 case atStart=>exact⟨0,.slice none 0 0,by omega,rfl,rfl,⟨Gr.refl w⟩,⟨λx hx=>by simp at hx⟩,⟨Vm9 _ _ _ _⟩⟩
 case round=>
  obtain⟨j,v6,hj,rfl,rfl,Z,L,HO⟩:=hrel;by_cases Y:j=m
  ·subst Y;go_wp2;go_ret2;refine⟨Z.o,.inl ⟨λx hx=>L.o x (by rw[HM.o,ζT];exact hx),_,rfl,?_⟩⟩;have:=HO.o;rw[HM.o,ζT]at this;exact this
  ·have V:j<l.length:=by have:=HM.o;omega
   have hjm:(j:Int)<(m:Int):=Ω
   have c0:=Xe.o _ Z.o j V;have r9:=(O.o _ Z.o).cell (j:=9) rfl;have pl:=(O.o _ Z.o).lt;obtain⟨x,hx⟩:∃x,x=l[j]:=⟨_,rfl⟩;rw[<-hx]at c0;have HX:Hid (x∈l/\l.take (j+1)=l.take j++[x]):=⟨by rw[hx];exact χ V,by rw[hx];exact ξe V⟩;have HJ:=hid (ν hj Y);cases hsl:g.sl x with
   | true=>
    have HS:=hid hsl;clear hx V Y hsl;go_upto_region 10 with(go_at_call 55;refine(HG.o _ Z.o x HS.o).mono ?_;rintro e w2 ⟨rfl,J⟩;have M:=hid (Z.o.trans J);have E:=hid (Y9I HO.o J);clear J);go_wp2_with(at_builtin;refine wpList_append_own _ rfl _ _ 66 rfl w.heap.size 3 ii (.int .i64 0) 1 8 underlying66 Xd G B Xf rfl (by decide) u6 j (zs ((l.take j).map λx=>(s.F (g.at x):Int))) rfl (Y9I E.o ((Gr.refl _).alloc _)) ⟨w2.heap.size,0,none⟩ 1 1 [.int .i64 (s.F (g.at x))] rfl rfl (cell_one_new _ _ _) (by simp[Value.oneCell']) (by unfold maxLen;omega) Ω (by have:=M.o.size;simp;omega) ?_;intro v' w5 N U _;have Xa:=hid N;have D:Hid (Gr w w5):=⟨(((M.o.touch (λi=>w.heap.size<=i)).trans (((Gr.refl w2).alloc _).touch _)).trans' (VxQ U (λi=>w.heap.size<=i) (λi e _=>(Vvr E.o e).1)) (λ_ _ h=>h) |>.mono (λk hk h=>by omega)).gr⟩;clear N U);go_round
    case rel=>
     refine⟨j+1,_,by have:=HJ.o;omega,rfl,by go_num,D,⟨λz hz=>?_⟩,⟨?_⟩⟩
     ·rw[HX.o.2]at hz;rcases ζj.1 hz with h1|h1
      ·exact L.o z h1
      ·rw[ζs.1 h1];exact HS.o
     ·rw[HX.o.2,ζO];have:=Xa.o;unfold zs at this⊢;rw[ζO];exact this
    case measure=>have:=HJ.o;simp[intOf];omega
   | false=>
    have HS:=hid hsl;clear hx V Y hsl;go_wp2_with(go_at_call 55;refine(Xc.o _ Z.o x HS.o).mono ?_;rintro e w2 ⟨rfl,J⟩;have M:=hid J;clear J);go_ret2;exact⟨Z.o.trans M.o,.inr ⟨⟨x,HX.o.1,HS.o⟩,rfl⟩⟩
end
end
section
open Go.RowKit Go.Shelf Word
theorem XSy(n:Nat)(a:Addr)(w:World):(method (n+1) 90 (.pointer (some a)) "Store").run prog w=.ok (262,.pointer (some a)) w:=by kernel_rfl
theorem XgO(n:Nat)(a:Addr)(w:World):(nilAhead (n+1) 90 (.pointer (some a)) "Store").run prog w=.ok (some false) w:=by kernel_rfl
section
variable {w w':World} {X:Nat->Prop} {A:HAd} {c:HCf} {base top:Nat} {u:Vm} {o:Option Nat} {lf nb:Nat}
theorem ShA.st{v:Vm}(h:ShA base top v)(a:Int){x:Nat}(hx:x<18446744073709551616):ShA base top (v.st a x):=by
 have hs:=VqE.st v a x;exact⟨h.ok.st a hx,by rw[hs.pg];exact h.al,by rw[hs.n];exact h.bt,λb hb=>by rw[hs.n]at hb;rw[Zpt,hs.pg];exact h.pg b hb⟩
theorem HVm.st{v:Vm}(h:HVm c v)(a:Int)(x:Nat):HVm c (v.st a x):=by
 have hs:=VqE.st v a x;exact⟨hs.n.trans h.n,hs.pg.trans h.pg,hs.rm.trans h.rm⟩
theorem Xj1(A:HAd)(c:HCf)(base top:Nat)(o:Option Nat)(lf nb:Nat):(spH A c base top o lf nb).Wr (fnH 177 262 o):=by
 refine⟨λn w=>?_,λn w=>?_,λargs w=>?_,λ{u S w} h a x ha hx=>?_⟩
 ·cases o with
  | none=>exact QRb n _ w
  | some y=>exact XgO n _ w
 ·cases o with
  | none=>exact J76 n _ w
  | some y=>exact XSy n _ w
 ·cases o with
  | none=>kernel_rfl
  | some y=>kernel_rfl
 ·obtain⟨⟨l,hl,hm⟩,h2⟩:=h;obtain⟨n,rfl,h3,h4⟩:=ha
  match o,hm with
  | none,⟨h5,h6,h7,h8⟩=>
   refine(Qpx h5 (n:Int) hx).mono ?_;rintro e w' ⟨rfl,t,hv⟩;exact⟨rfl,t,⟨l,hl,hv.mono (λ_ h=>.inl h),h6.st _ _,h7.st _ hx,h8⟩,ω h2 t.size⟩
  | some y,⟨z,s,v,R,Sv,h,e1,e2⟩=>
   have hs:=h.ok.st;have hlm:=h.a.lm;have hln:=hs.cf.ln;have hn2:=hs.n2;refine(ZaI (Qyf c.fr top u) h.cy h.ok ⟨h.a,h.hv.rm⟩ h.tab h.t2 h.t1 h.vm h.d (n:Int) Ω hx).mono ?_;rintro e w' ⟨v',rfl,t,N,V,Z,hA⟩;have U:s.cf.to<=n:=by rw[h.bs];exact h3
   have J:∀i,i<sizes (s.tch n).L->n=(s.tch n).cf.to+i->(s.tch n).is i=true:=λi hi e=>by
    have e':n=s.cf.to+i:=e;have:=Sl.tch_is hs (i:=i) hi;rw[<-e']at this;exact this
   have d1:=(hA.1.ld Z (a:=n) U h4 J).1;have d3:=h.a.un n Ω;obtain⟨c',p1,p2⟩:=hA.1.put Z (a:=n) U h4 J hx;have M:=h.tab.lt;refine⟨by rw[d1,d3],t.mono (λk _ hk=>h.x k hk),⟨(s.tch n).lf,?_,z,{s.tch n with c:=c'},v'.st n x,R,plus Sv w,⟨N.same rfl rfl rfl rfl rfl,V,?_,p1,p2,λk hk=>?_,λk hk Y=>?_,t.tab M (λhk=>hk.elim h.t1 h.t2) h.tab,h.t1,λhk=>hk.elim h.t2 (λhk=>by omega),h.bs,h.lm,h.bk,h.ah,h.kd⟩,rfl,?_⟩,ω h2 t.size⟩
   ·have:=Sl.lf_mono (Sl.tch_mono s (n:Int));omega
   ·refine HVm.st ⟨?_,?_,hA.2⟩ _ _
    ·rw[Z.mid.n,<-h.hv.n,h.ok.mid.n];rfl
    ·rw[Z.mid.pg,<-h.hv.pg,h.ok.mid.pg];rfl
   ·rcases hk with hk|hk|hk
    ·exact .inl (h.x k (.inl hk))
    ·exact .inl (h.x k (.inr hk))
    ·exact .inr hk
   ·rcases Y with Y|Y
    ·exact h.d k hk Y
    ·have:=h.cy.od.lt k hk;omega
   ·show (s.tch n).mv.length=nb
    rw[(Sl.tch_mono s (n:Int)).1];exact e2
end
section
variable {w w':World} {c:HCf} {g g':Gph} {s:HSt}
theorem HIn.sp(h:HIn w c g s):(s.sp c).I s.u s.X w:=⟨⟨s.lf,π _,h.mem⟩,h.com.tab.lt⟩
theorem HIn.hi(h:HIn w c g s):s.base+c.wd<=2147483647:=by
 have h1:=h.cok.wd;have h2:=h.cok.pw;rcases h.bs with e|⟨e,-⟩ <;> omega
theorem HIn.aft(h:HIn w c g s){u':Vm}(hW:(s.sp c).W u' s.X w w')(hi:Img u' g' s.F s.base s.top)(hg:g'.Ok)(hS:g'.S=g.S):∃l,l<=s.lf/\HIn w' c g' {s with X:=plus s.X w,u:=u',lf:=l}:=by
 obtain⟨t,⟨l,hl,hm⟩,-⟩:=hW;refine⟨l,hl,?_,hm,hi,hg,h.cok,h.bt,h.bs,by rw[hS];exact h.sl⟩;have:=h.com.mem t
 show XL4 w' (plus s.X w) s.A c s.base s.top (g'.S.map λx=>(s.F x:Int)) s.o s.cyc s.blk
 rw[hS];exact this
structure Xfw(w:World)(c:HCf)(s:HSt)(g':Gph)(s':HSt)(w':World):Prop where
 t:XF4 s.S w w'
 i:HIn w' c g' s'
 hp:s'.A.hp=s.A.hp
 S:∀k,s'.S k->plus s.S w k
 o:s'.o=none↔s'.lf=0
theorem Zis(h:HIn w c g s){u':Vm}(hW:(s.sp c).W u' s.X w w')(hi:Img u' g' s.F s.base s.top)(hg:g'.Ok)(hS:g'.S=g.S):
  Calls prog 71 #[.pointer (some ⟨s.A.hp,0,none⟩)] w' λe w2=>e=.returned (.tuple #[])/\∃s',Xfw w c s g' s' w2/\s'.A=s.A/\s'.lf<=s.lf/\s'.cyc=(if s.o≠none/\s'.lf=0 then wrap64 (s.cyc+1)else s.cyc)/\HKp s s'/\XF4 (λk=>k=s.A.hp) w' w2:=by
 obtain⟨l,hl,hI⟩:=h.aft hW hi hg hS;refine(VFm hI).mono ?_;rintro e w2 ⟨rfl,s',h1⟩;refine⟨rfl,s',⟨?_,h1.i,by rw[h1.A],λk hk=>?_,h1.o⟩,h1.A,by rw[h1.lf];exact hl,by rw[h1.cyc,h1.lf],⟨h1.K.F,h1.K.base,h1.K.top⟩,h1.t⟩
 ·exact(hW.1.mono (λk _ hk=>.inl hk)).trans' h1.t (λk _ hk=>.inr (.inl hk))
 ·rcases hk with hk|hk|hk|hk|hk
  ·rcases h1.X k hk with h2|h2
   ·exact .inl (.inl h2)
   ·exact .inr h2
  ·rw[h1.A]at hk;exact .inl (.inr (.inl hk))
  ·rw[h1.A]at hk;exact .inl (.inr (.inr (.inl hk)))
  ·rw[h1.A]at hk;exact .inl (.inr (.inr (.inr (.inl hk))))
  ·rw[h1.A]at hk;exact .inl (.inr (.inr (.inr (.inr hk))))
end
end
section
open Go.RowKit Go.Shelf Word
section
variable {w w':World} {c:HCf} {g g':Gph} {s:HSt}
def HSt.cut(s:HSt)(w:World):HSt:={s with X:=ZOk s.X w}
theorem HIn.cut(h:HIn w c g s):HIn w c g (s.cut w):=⟨h.com.sub (λ_ _ hk=>hk.1),h.mem.cut,h.img,h.gok,h.cok,h.bt,h.bs,h.sl⟩
structure Xwk(s s':HSt):Prop where
 lf:s'.lf<=s.lf
 cyc:s'.cyc=if s.lf≠0/\s'.lf=0 then wrap64 (s.cyc+1)else s.cyc
theorem Xwk.same(s:HSt):Xwk s s:=⟨π _,by rw[ϑ (λh=>h.1 h.2)]⟩
def HOp(w:World)(c:HCf)(s:HSt)(g':Gph)(w':World):Prop:=∃s',Xfw w c s g' s' w'/\Xwk s s'
theorem HOp.same(h:HIn w c g s)(hn:s.o=none↔s.lf=0)(gr:Gr w w'):HOp w c s g w':=⟨s,⟨gr.touch _,h.gr gr,rfl,λ_ h=>.inl h,hn⟩,Xwk.same s⟩
theorem YKV{w1 w2:World}(h:HIn w c g s)(hn:s.o=none↔s.lf=0)(gr:Gr w w1){u':Vm}(hW:((s.cut w).sp c).W u' (s.cut w).X w1 w2)(hi:Img u' g' s.F s.base s.top)(hg:g'.Ok)(hS:g'.S=g.S):
  Calls prog 71 #[.pointer (some ⟨s.A.hp,0,none⟩)] w2 λe w3=>e=.returned (.tuple #[])/\∃s',Xfw w c s g' s' w3/\Xwk s s'/\HKp s s'/\XF4 (λk=>k=s.A.hp) w2 w3:=by
 refine(Zis (h.cut.gr gr) hW hi hg hS).mono ?_;rintro e w3 ⟨rfl,s',hr,hA,hl,hc,hF,hT⟩;refine⟨rfl,s',⟨(gr.touch _).trans' (hr.t.mono (λk _ hk=>hk.imp (λh=>h.1) id)) (λ_ _ h=>h),hr.i,hr.hp,λk hk=>?_,hr.o⟩,⟨hl,?_⟩,⟨hF.F,hF.base,hF.top⟩,hT⟩
 ·rcases hr.S k hk with h1|h1
  ·exact .inl (h1.imp (λh=>h.1) id)
  ·exact .inr (ζb gr.size h1)
 ·rw[hc];have hlf:(s.cut w).lf=s.lf:=rfl;by_cases h0:s.lf=0
  ·rw[ϑ (λhh=>hh.1 (hn.2 h0)),ϑ (λhh=>hh.1 h0)];rfl
  ·have Y:(s.cut w).o≠none:=λe=>h0 (hn.1 e);by_cases h1:s'.lf=0
   ·rw[μ ⟨Y,h1⟩,μ ⟨h0,h1⟩];rfl
   ·rw[ϑ (λhh=>h1 hh.2),ϑ (λhh=>h1 hh.2)];rfl
theorem ZWm{w1 w2:World}(h:HIn w c g s)(hn:s.o=none↔s.lf=0)(gr:Gr w w1){u':Vm}(hW:((s.cut w).sp c).W u' (s.cut w).X w1 w2)(hi:Img u' g' s.F s.base s.top)(hg:g'.Ok)(hS:g'.S=g.S):
  Calls prog 71 #[.pointer (some ⟨s.A.hp,0,none⟩)] w2 λe w3=>e=.returned (.tuple #[])/\∃s',Xfw w c s g' s' w3/\Xwk s s'/\HKp s s':=
 (YKV h hn gr hW hi hg hS).mono λ_ _ ⟨h1,s',h2,h3,h4,_⟩=>⟨h1,s',h2,h3,h4⟩
theorem JT8{w1 w2:World}(h:HIn w c g s)(hn:s.o=none↔s.lf=0)(gr:Gr w w1){u':Vm}(hW:((s.cut w).sp c).W u' (s.cut w).X w1 w2)(hi:Img u' g' s.F s.base s.top)(hg:g'.Ok)(hS:g'.S=g.S):
  Calls prog 71 #[.pointer (some ⟨s.A.hp,0,none⟩)] w2 λe w3=>e=.returned (.tuple #[])/\HOp w c s g' w3:=
 (ZWm h hn gr hW hi hg hS).mono λ_ _ ⟨h1,s',h2,h3,_⟩=>⟨h1,s',h2,h3⟩
theorem HIn.rdP(h:HIn w c g s){x:Nat}(hx:g.Ro x):0<((s.F x:Nat):Int)->(s.sp c).P (s.F x:Nat):=λh0=>by
 have h1:=h.img.z;rcases hx with rfl|hx
 ·rw[h1]at h0;omega
 ·have h2:=h.img.lo x hx;have h3:1<=(g.ob x).size:=by unfold GOb.size;omega
  exact⟨s.F x,rfl,h2.1,by omega⟩
theorem HIn.fdP(h:HIn w c g s){x:Nat}(hx:g.Ro x)(i:Int){kd:Int}(hk:kd≠0):s.u.plE (s.F x:Nat) i kd=0->(s.sp c).P ((s.F x:Nat)+1+i):=λh0=>by
 rw[h.img.plE hx i hk]at h0;obtain⟨-,n,-,-,-,e,h1,h2⟩:=h.img.inP h.gok hx hk h0;exact⟨s.F x+1+n,e,h1,h2⟩
theorem Vtp(h:HIn w c g s)(a:Int):(g.sl a=false->Calls prog 68 #[.pointer (some ⟨s.A.hp,0,none⟩),.slice (some ⟨w.heap.size,0,none⟩) 1 1] (w.alloc (.cells #[.int .i64 a] 3)) λe w'=>e=.returned (.tuple #[.slice none 0 0,.int .i64 17])/\Gr w w') ∧
  (g.sl a=true->Calls prog 68 #[.pointer (some ⟨s.A.hp,0,none⟩),.slice (some ⟨w.heap.size,0,none⟩) 1 1] (w.alloc (.cells #[.int .i64 a] 3)) λe w'=>∃gb cp,e=.returned (.tuple #[.slice (some ⟨gb,0,none⟩) 1 cp,.int .i64 0])/\Gr w w'/\w.heap.size<=gb/\w'.cell? ⟨gb,0,none⟩=some (.int .i64 (s.F (g.at a):Nat))):=by
 have Y:=(Gr.refl w).alloc (.cells #[.int .i64 a] 3)
 have hf:=XEM (h.gr Y) (b:=w.heap.size) (l:=[a]) (by simp) (λj hj=>by
  have:j=0:=by simpa using hj
  subst this
  exact(Rec.new w 3 [.int .i64 a]).cell (j:=0) rfl) (by simp)
 refine⟨λhs=>hf.mono ?_,λhs=>hf.mono ?_⟩
 ·rintro e w' ⟨hg,(⟨h1,-⟩|⟨-,h1⟩)⟩
  ·have:=h1 a (by simp);rw[hs]at this;cases this
  ·exact⟨h1,Y.trans hg⟩
 ·rintro e w' ⟨hg,(⟨-,v,rfl,ho⟩|⟨⟨x,hx,h1⟩,-⟩)⟩
  ·obtain⟨gb,cp,rfl,h2,-,-,-⟩:=YTP ho (by simp);exact⟨gb,cp,rfl,Y.trans hg,ζb Y.size h2,ZBn ho (j:=0) rfl⟩
  ·rw[ζs.1 hx,hs]at h1;cases h1
theorem J4u(h:HIn w c g s)(hn:s.o=none↔s.lf=0)(a i:Int):Calls prog 72 #[.pointer (some ⟨s.A.hp,0,none⟩),.int .i64 a,.int .i64 i] w λe w'=>e=.returned (.tuple #[.int .u64 (g.fdV a i 3:Nat),.int .i64 (g.fdE a i 3)])/\HOp w c s g w':=by
 obtain⟨F0,F1⟩:=Vtp h a;have H:=hid h;have HN:=hid hn;cases hsl:g.sl a with
 | false=>
  have HF:=hid (F0 hsl)
  have HE:Hid (g.fdE a i 3=17/\g.fdV a i 3=0):=⟨by
   have e:g.fdE a i 3=17:=by unfold Gph.fdE;rw[hsl];rfl
   exact⟨e,by unfold Gph.fdV;rw[e];rfl⟩⟩
  generalize s.A.hp=ap at HF⊢;clear h hn hsl F0 F1;go_enter func72,ntmps72;go_wp2_with(go_at_call 68;refine(HF.o).mono ?_;rintro e w1 ⟨rfl,hg⟩;have HG:=hid hg;clear hg);go_ret2;exact⟨Qh8 (congrArg (λn:Nat=>Value.int .u64 (n:Int)) HE.o.2.symm) (Yhd HE.o.1.symm),HOp.same H.o HN.o HG.o⟩
 | true=>
  have HF:=hid (F1 hsl);have Z:=Gph.at_ro hsl;have U:=hid (λ(W:World) (gg:Gr w W)=>Z4p (h.cut.gr gg));have Y:=hid (λ(W:World) (gg:Gr w W)=>QV8 (QBN ..) (h.cut.gr gg).sp (s.F (g.at a):Nat) i (h.cut.rdP Z) (h.cut.fdP Z i (by decide)));have e1:s.u.gtE (s.F (g.at a):Nat) i 3=g.fdE a i 3:=by rw[h.img.gtE h.gok Z i (by decide),Gph.fdE_er hsl]
  have e2:s.u.gtV (s.F (g.at a):Nat) i 3=g.fdV a i 3:=by rw[h.img.gtV h.gok Z i (by decide) (by decide)];unfold Gph.fdV;rw[Gph.fdE_er hsl]
  have e3:(s.cut w).u=s.u:=rfl;rw[e3,e1,e2]at Y;have D:(s.cut w).A.hp=s.A.hp:=rfl;rw[D]at U;have L:=hid (λ(w1 w2:World) (gr:Gr w w1) (he:((s.cut w).sp c).E s.u (s.cut w).X w1 w2)=>JT8 h hn gr he.toW h.img h.gok rfl);generalize g.fdV a i 3=rv at Y⊢;generalize g.fdE a i 3=re at Y⊢;skip;generalize (s.F (g.at a):Nat)=ad at HF Y;obtain⟨ap,hp⟩:∃ap,ap=s.A.hp:=⟨_,rfl⟩;rw[<-hp]at HF U L⊢;clear h hn hsl F0 F1 Z e1 e2 e3 D hp;go_enter func72,ntmps72;go_upto_region 4 with(go_at_call 68;refine(HF.o).mono ?_;rintro e w1 ⟨gb,cp,rfl,O,G,B⟩;have M:=hid O;have J:=hid B;have Xc:=hid G;clear O B G);obtain⟨Sx,Xa,HS⟩:=ZJV.start λW'=>W'.cell? ⟨gb,0,none⟩=some (.int .i64 (ad:Nat));have y0:=ZJV.fact Xa λ_ h=>h;have V:=HS.o (w1.drew) (J.o);have I:Inhabited (ZJV Sx):=⟨⟨_,V⟩⟩;clear Xa;refine Vv2 Sx 12 [([0,2,3,4,5],1),([],6)] [7,8,9,10,11] (by kernel_rfl) (by kernel_rfl) V ?_;refine XGW ?_
  try simp only[XZy,ζ,ξ]
  repeat(go_big_quiet_step (fail))
  refine θ ?_;go_wp2_with((go_at_call 70;refine JmE (U.o _ M.o.drew) ?_));refine⟨.inr (ZJV.of (HS.o _ (J.o))),?_⟩;refine XGW ?_
  try simp only[XZy,ζ,ξ]
  repeat(go_big_quiet_step (fail))
  refine θ ?_;go_wp2_with((go_at_call 113;refine(Y.o _ M.o.drew).mono ?_;rintro e w2 ⟨rfl,he⟩;have N:=hid he;clear he));refine⟨.inr (ZJV.of (HS.o _ ((N.o.1.cell (ZQf J.o) (λhk=>ζN _ (ω hk.2.2 Xc.o)) 0).trans J.o))),?_⟩;refine Z9U ?_
  try simp only[XZy,ζ,ξ]
  repeat(go_big_quiet_step (fail))
  refine θ ?_;refine β ?_;clear y0 V I;clear HS Sx;go_wp2_with(go_at_call 71;refine(L.o _ _ M.o.drew N.o).mono ?_;rintro e w3 ⟨rfl,ho⟩;have Xb:=hid ho;clear ho);go_ret2;exact⟨rfl,Xb.o⟩
theorem QNL(h:HIn w c g s)(hn:s.o=none↔s.lf=0)(a i:Int):Calls prog 73 #[.pointer (some ⟨s.A.hp,0,none⟩),.int .i64 a,.int .i64 i] w λe w'=>e=.returned (.tuple #[.float .f64 (g.fdV a i 2),.int .i64 (g.fdE a i 2)])/\HOp w c s g w':=by
 obtain⟨F0,F1⟩:=Vtp h a;have H:=hid h;have HN:=hid hn;cases hsl:g.sl a with
 | false=>
  have HF:=hid (F0 hsl)
  have HE:Hid (g.fdE a i 2=17/\g.fdV a i 2=0):=⟨by
   have e:g.fdE a i 2=17:=by unfold Gph.fdE;rw[hsl];rfl
   exact⟨e,by unfold Gph.fdV;rw[e];rfl⟩⟩
  generalize s.A.hp=ap at HF⊢;clear h hn hsl F0 F1;go_enter func73,ntmps73;go_wp2_with(go_at_call 68;refine(HF.o).mono ?_;rintro e w1 ⟨rfl,hg⟩;have HG:=hid hg;clear hg);go_ret2;exact⟨Qh8 (congrArg (λn:Nat=>Value.float .f64 n) HE.o.2.symm) (Yhd HE.o.1.symm),HOp.same H.o HN.o HG.o⟩
 | true=>
  have HF:=hid (F1 hsl);have Z:=Gph.at_ro hsl;have U:=hid (λ(W:World) (gg:Gr w W)=>Z4p (h.cut.gr gg));have Y:=hid (λ(W:World) (gg:Gr w W)=>QUr (QBN ..) (h.cut.gr gg).sp (s.F (g.at a):Nat) i (h.cut.rdP Z) (h.cut.fdP Z i (by decide)));have e1:s.u.gtE (s.F (g.at a):Nat) i 2=g.fdE a i 2:=by rw[h.img.gtE h.gok Z i (by decide),Gph.fdE_er hsl]
  have e2:s.u.gtV (s.F (g.at a):Nat) i 2=g.fdV a i 2:=by rw[h.img.gtV h.gok Z i (by decide) (by decide)];unfold Gph.fdV;rw[Gph.fdE_er hsl]
  have e3:(s.cut w).u=s.u:=rfl;rw[e3,e1,e2]at Y;have D:(s.cut w).A.hp=s.A.hp:=rfl;rw[D]at U;have L:=hid (λ(w1 w2:World) (gr:Gr w w1) (he:((s.cut w).sp c).E s.u (s.cut w).X w1 w2)=>JT8 h hn gr he.toW h.img h.gok rfl);generalize g.fdV a i 2=rv at Y⊢;generalize g.fdE a i 2=re at Y⊢;skip;generalize (s.F (g.at a):Nat)=ad at HF Y;obtain⟨ap,hp⟩:∃ap,ap=s.A.hp:=⟨_,rfl⟩;rw[<-hp]at HF U L⊢;clear h hn hsl F0 F1 Z e1 e2 e3 D hp;go_enter func73,ntmps73;go_upto_region 4 with(go_at_call 68;refine(HF.o).mono ?_;rintro e w1 ⟨gb,cp,rfl,O,G,B⟩;have M:=hid O;have J:=hid B;have Xc:=hid G;clear O B G);obtain⟨Sx,Xa,HS⟩:=ZJV.start λW'=>W'.cell? ⟨gb,0,none⟩=some (.int .i64 (ad:Nat));have y0:=ZJV.fact Xa λ_ h=>h;have V:=HS.o (w1.drew) (J.o);have I:Inhabited (ZJV Sx):=⟨⟨_,V⟩⟩;clear Xa;refine Vv2 Sx 12 [([0,2,3,4,5],1),([],6)] [7,8,9,10,11] (by kernel_rfl) (by kernel_rfl) V ?_;refine XGW ?_
  try simp only[XZy,ζ,ξ]
  repeat(go_big_quiet_step (fail))
  refine θ ?_;go_wp2_with((go_at_call 70;refine JmE (U.o _ M.o.drew) ?_));refine⟨.inr (ZJV.of (HS.o _ (J.o))),?_⟩;refine XGW ?_
  try simp only[XZy,ζ,ξ]
  repeat(go_big_quiet_step (fail))
  refine θ ?_;go_wp2_with((go_at_call 114;refine(Y.o _ M.o.drew).mono ?_;rintro e w2 ⟨rfl,he⟩;have N:=hid he;clear he));refine⟨.inr (ZJV.of (HS.o _ ((N.o.1.cell (ZQf J.o) (λhk=>ζN _ (ω hk.2.2 Xc.o)) 0).trans J.o))),?_⟩;refine Z9U ?_
  try simp only[XZy,ζ,ξ]
  repeat(go_big_quiet_step (fail))
  refine θ ?_;refine β ?_;clear y0 V I;clear HS Sx;go_wp2_with(go_at_call 71;refine(L.o _ _ M.o.drew N.o).mono ?_;rintro e w3 ⟨rfl,ho⟩;have Xb:=hid ho;clear ho);go_ret2;exact⟨rfl,Xb.o⟩
theorem JMQ(g:Gph)(a i kd:Int)(x:Nat):(g.wrG a i kd x).S=g.S:=by unfold Gph.wrG;split <;> rfl
theorem HIn.wrI(h:HIn w c g s){a:Int}(hs:g.sl a=true)(i:Int){kd:Int}(hk:kd≠0)(hk1:kd≠1)(x:Nat):Img (s.u.seV (s.F (g.at a):Nat) i kd x) (g.wrG a i kd x) s.F s.base s.top:=by
 have Y:=Gph.at_ro hs;unfold Gph.wrG;by_cases he:g.fdE a i kd=0
 ·rw[μ he];have Z:g.erE (g.at a) i kd=0:=by rw[<-Gph.fdE_er hs];exact he
  have:=h.img.seV h.mem.ok h.gok Y i hk x (λe=>absurd e hk1) (by have:=h.hi;have:=h.bt;omega) Z;rw[ϑ hk1]at this;exact this
 ·rw[ϑ he]
  have e:s.u.seV (s.F (g.at a):Nat) i kd x=s.u:=by
   unfold Vm.seV;rw[h.img.plE Y i hk,<-Gph.fdE_er hs,ϑ he]
  rw[e];exact h.img
theorem HIn.wrO(h:HIn w c g s){a:Int}(hs:g.sl a=true)(i:Int){kd:Int}(hk:kd≠0)(hk1:kd≠1)(x:Nat):(g.wrG a i kd x).Ok:=by
 have Y:=Gph.at_ro hs;unfold Gph.wrG;by_cases he:g.fdE a i kd=0
 ·rw[μ he];have Z:g.erE (g.at a) i kd=0:=by rw[<-Gph.fdE_er hs];exact he
  obtain⟨hr,n,rfl,h1,h2,-⟩:=h.img.inP h.gok Y hk Z;obtain⟨q1,q2⟩:=h.gok.rd hr;exact h.gok.put q1 q2 (λhn=>absurd (h2.2 (by simpa using hn)) hk1)
 ·rw[ϑ he];exact h.gok
theorem Vld(h:HIn w c g s)(hn:s.o=none↔s.lf=0)(a i:Int){x:Nat}(hx:x<18446744073709551616):Calls prog 77 #[.pointer (some ⟨s.A.hp,0,none⟩),.int .i64 a,.int .i64 i,.int .u64 x] w λe w'=>e=.returned (.int .i64 (g.fdE a i 3))/\HOp w c s (g.wrG a i 3 x) w':=by
 obtain⟨F0,F1⟩:=Vtp h a;have H:=hid h;have HN:=hid hn;cases hsl:g.sl a with
 | false=>
  have HF:=hid (F0 hsl)
  have HE:Hid (g.fdE a i 3=17/\g.wrG a i 3 x=g):=⟨by
   have e:g.fdE a i 3=17:=by unfold Gph.fdE;rw[hsl];rfl
   exact⟨e,by unfold Gph.wrG;rw[e];rfl⟩⟩
  generalize s.A.hp=ap at HF⊢;clear h hn hsl F0 F1 hx;go_enter func77,ntmps77;go_wp2_with(go_at_call 68;refine(HF.o).mono ?_;rintro e w1 ⟨rfl,hg⟩;have HG:=hid hg;clear hg);go_ret;exact⟨ZzN HE.o.1.symm,by rw[HE.o.2];exact HOp.same H.o HN.o HG.o⟩
 | true=>
  have HF:=hid (F1 hsl);have J:=Gph.at_ro hsl;have U:=hid (λ(W:World) (gg:Gr w W)=>Z4p (h.cut.gr gg));have Y:=hid (λ(W:World) (gg:Gr w W)=>XXd (QBN ..) (Xj1 ..) (h.cut.gr gg).sp (s.F (g.at a):Nat) i (h.cut.rdP J) (h.cut.fdP J i (by decide)) hx);have e1:s.u.gtE (s.F (g.at a):Nat) i 3=g.fdE a i 3:=by rw[h.img.gtE h.gok J i (by decide),Gph.fdE_er hsl]
  have e3:(s.cut w).u=s.u:=rfl;rw[e3,e1]at Y;have L:(s.cut w).A.hp=s.A.hp:=rfl;rw[L]at U;have V:=hid (λ(w1 w2:World) (gr:Gr w w1) (he:((s.cut w).sp c).W (s.u.seV (s.F (g.at a):Nat) i 3 x) (s.cut w).X w1 w2)=>JT8 h hn gr he (h.wrI hsl i (by decide) (by decide) x) (h.wrO hsl i (by decide) (by decide) x) (JMQ ..));generalize g.fdE a i 3=re at Y⊢;generalize s.u.seV (s.F (g.at a):Nat) i 3 x=un at Y V;generalize (s.F (g.at a):Nat)=ad at HF Y;obtain⟨ap,hp⟩:∃ap,ap=s.A.hp:=⟨_,rfl⟩;rw[<-hp]at HF U V⊢;clear h hn hsl F0 F1 J e1 e3 L hp hx;go_enter func77,ntmps77;go_upto_region 4 with(go_at_call 68;refine(HF.o).mono ?_;rintro e w1 ⟨gb,cp,rfl,I,D,G⟩;have N:=hid I;have Z:=hid G;have Xb:=hid D;clear I G D);obtain⟨Sx,B,HS⟩:=ZJV.start λW'=>W'.cell? ⟨gb,0,none⟩=some (.int .i64 (ad:Nat));have y0:=ZJV.fact B λ_ h=>h;have M:=HS.o (w1.drew) (Z.o);have E:Inhabited (ZJV Sx):=⟨⟨_,M⟩⟩;clear B;refine Vv2 Sx 9 [([0,2,3,4,5,6],1),([],7)] [8] (by kernel_rfl) (by kernel_rfl) M ?_;refine XGW ?_
  try simp only[XZy,ζ,ξ]
  repeat(go_big_quiet_step (fail))
  refine θ ?_;go_wp2_with((go_at_call 70;refine JmE (U.o _ N.o.drew) ?_));refine⟨.inr (ZJV.of (HS.o _ (Z.o))),?_⟩;refine XGW ?_
  try simp only[XZy,ζ,ξ]
  repeat(go_big_quiet_step (fail))
  refine θ ?_;go_wp2_with((go_at_call 117;refine(Y.o _ N.o.drew).mono ?_;rintro e w2 ⟨rfl,he⟩;have O:=hid he;clear he));refine⟨.inr (ZJV.of (HS.o _ ((O.o.1.cell (ZQf Z.o) (λhk=>ζN _ (ω hk.2 Xb.o)) 0).trans Z.o))),?_⟩;refine Z9U ?_
  try simp only[XZy,ζ,ξ]
  repeat(go_big_quiet_step (fail))
  refine θ ?_;refine β ?_;clear y0 M E;clear HS Sx;go_wp2_with(go_at_call 71;refine(V.o _ _ N.o.drew O.o).mono ?_;rintro e w3 ⟨rfl,ho⟩;have Xa:=hid ho;clear ho);go_ret;exact⟨rfl,Xa.o⟩
theorem Xe2(h:HIn w c g s)(hn:s.o=none↔s.lf=0)(a i:Int){x:Nat}(hx:x<18446744073709551616):Calls prog 78 #[.pointer (some ⟨s.A.hp,0,none⟩),.int .i64 a,.int .i64 i,.float .f64 x] w λe w'=>e=.returned (.int .i64 (g.fdE a i 2))/\HOp w c s (g.wrG a i 2 x) w':=by
 obtain⟨F0,F1⟩:=Vtp h a;have H:=hid h;have HN:=hid hn;cases hsl:g.sl a with
 | false=>
  have HF:=hid (F0 hsl)
  have HE:Hid (g.fdE a i 2=17/\g.wrG a i 2 x=g):=⟨by
   have e:g.fdE a i 2=17:=by unfold Gph.fdE;rw[hsl];rfl
   exact⟨e,by unfold Gph.wrG;rw[e];rfl⟩⟩
  generalize s.A.hp=ap at HF⊢;clear h hn hsl F0 F1 hx;go_enter func78,ntmps78;go_wp2_with(go_at_call 68;refine(HF.o).mono ?_;rintro e w1 ⟨rfl,hg⟩;have HG:=hid hg;clear hg);go_ret;exact⟨ZzN HE.o.1.symm,by rw[HE.o.2];exact HOp.same H.o HN.o HG.o⟩
 | true=>
  have HF:=hid (F1 hsl);have J:=Gph.at_ro hsl;have U:=hid (λ(W:World) (gg:Gr w W)=>Z4p (h.cut.gr gg));have Y:=hid (λ(W:World) (gg:Gr w W)=>Ycv (QBN ..) (Xj1 ..) (h.cut.gr gg).sp (s.F (g.at a):Nat) i (h.cut.rdP J) (h.cut.fdP J i (by decide)) hx);have e1:s.u.gtE (s.F (g.at a):Nat) i 2=g.fdE a i 2:=by rw[h.img.gtE h.gok J i (by decide),Gph.fdE_er hsl]
  have e3:(s.cut w).u=s.u:=rfl;rw[e3,e1]at Y;have L:(s.cut w).A.hp=s.A.hp:=rfl;rw[L]at U;have V:=hid (λ(w1 w2:World) (gr:Gr w w1) (he:((s.cut w).sp c).W (s.u.seV (s.F (g.at a):Nat) i 2 x) (s.cut w).X w1 w2)=>JT8 h hn gr he (h.wrI hsl i (by decide) (by decide) x) (h.wrO hsl i (by decide) (by decide) x) (JMQ ..));generalize g.fdE a i 2=re at Y⊢;generalize s.u.seV (s.F (g.at a):Nat) i 2 x=un at Y V;generalize (s.F (g.at a):Nat)=ad at HF Y;obtain⟨ap,hp⟩:∃ap,ap=s.A.hp:=⟨_,rfl⟩;rw[<-hp]at HF U V⊢;clear h hn hsl F0 F1 J e1 e3 L hp hx;go_enter func78,ntmps78;go_upto_region 4 with(go_at_call 68;refine(HF.o).mono ?_;rintro e w1 ⟨gb,cp,rfl,I,D,G⟩;have N:=hid I;have Z:=hid G;have Xb:=hid D;clear I G D);obtain⟨Sx,B,HS⟩:=ZJV.start λW'=>W'.cell? ⟨gb,0,none⟩=some (.int .i64 (ad:Nat));have y0:=ZJV.fact B λ_ h=>h;have M:=HS.o (w1.drew) (Z.o);have E:Inhabited (ZJV Sx):=⟨⟨_,M⟩⟩;clear B;refine Vv2 Sx 9 [([0,2,3,4,5,6],1),([],7)] [8] (by kernel_rfl) (by kernel_rfl) M ?_;refine XGW ?_
  try simp only[XZy,ζ,ξ]
  repeat(go_big_quiet_step (fail))
  refine θ ?_;go_wp2_with((go_at_call 70;refine JmE (U.o _ N.o.drew) ?_));refine⟨.inr (ZJV.of (HS.o _ (Z.o))),?_⟩;refine XGW ?_
  try simp only[XZy,ζ,ξ]
  repeat(go_big_quiet_step (fail))
  refine θ ?_;go_wp2_with((go_at_call 118;refine(Y.o _ N.o.drew).mono ?_;rintro e w2 ⟨rfl,he⟩;have O:=hid he;clear he));refine⟨.inr (ZJV.of (HS.o _ ((O.o.1.cell (ZQf Z.o) (λhk=>ζN _ (ω hk.2 Xb.o)) 0).trans Z.o))),?_⟩;refine Z9U ?_
  try simp only[XZy,ζ,ξ]
  repeat(go_big_quiet_step (fail))
  refine θ ?_;refine β ?_;clear y0 M E;clear HS Sx;go_wp2_with(go_at_call 71;refine(V.o _ _ N.o.drew O.o).mono ?_;rintro e w3 ⟨rfl,ho⟩;have Xa:=hid ho;clear ho);go_ret;exact⟨rfl,Xa.o⟩
end
end
section
open Go.RowKit Go.Shelf Word
section
variable {w w':World} {c:HCf} {g g':Gph} {s:HSt}
theorem VXS(h:HIn w c g s)(a b:Int):((g.sl a&&g.sl b)=false->Calls prog 68 #[.pointer (some ⟨s.A.hp,0,none⟩),.slice (some ⟨w.heap.size,0,none⟩) 2 2] (w.alloc (.cells #[.int .i64 a,.int .i64 b] 3)) λe w'=>e=.returned (.tuple #[.slice none 0 0,.int .i64 17])/\Gr w w') ∧
  ((g.sl a&&g.sl b)=true->Calls prog 68 #[.pointer (some ⟨s.A.hp,0,none⟩),.slice (some ⟨w.heap.size,0,none⟩) 2 2] (w.alloc (.cells #[.int .i64 a,.int .i64 b] 3)) λe w'=>∃gb cp,e=.returned (.tuple #[.slice (some ⟨gb,0,none⟩) 2 cp,.int .i64 0])/\Gr w w'/\w.heap.size<=gb/\w'.cell? ⟨gb,0,none⟩=some (.int .i64 (s.F (g.at a):Nat))/\w'.cell? ⟨gb,1,none⟩=some (.int .i64 (s.F (g.at b):Nat))):=by
 have Y:=(Gr.refl w).alloc (.cells #[.int .i64 a,.int .i64 b] 3);have hr:=Rec.new w 3 [.int .i64 a,.int .i64 b]
 have hf:=XEM (h.gr Y) (b:=w.heap.size) (l:=[a,b]) (by simp) (λj hj=>by
  have:j=0\/j=1:=by have:j<2:=hj;omega
  rcases this with rfl|rfl
  ·exact hr.cc 0
  ·exact hr.cc 1) (by simp)
 refine⟨λhs=>hf.mono ?_,λhs=>hf.mono ?_⟩
 ·rintro e w' ⟨hg,(⟨h1,-⟩|⟨-,h1⟩)⟩
  ·have h2:=h1 a (by simp);have h3:=h1 b (by simp);rw[h2,h3]at hs;cases hs
  ·exact⟨h1,Y.trans hg⟩
 ·rintro e w' ⟨hg,(⟨-,v,rfl,ho⟩|⟨⟨x,hx,h1⟩,-⟩)⟩
  ·obtain⟨gb,cp,rfl,h2,-,-,-⟩:=YTP ho (by simp);exact⟨gb,cp,rfl,Y.trans hg,ζb Y.size h2,ZBn ho (j:=0) rfl,ZBn ho (j:=1) rfl⟩
  ·rw[ζd]at hs;rcases ζH.1 hx with h2|h2
   ·rw[h2,hs.1]at h1;cases h1
   ·rw[ζs.1 h2,hs.2]at h1;cases h1
theorem Gph.Ro.le(ho:g.Ok){y:Nat}(hy:g.Ro y):y<=g.L.length:=by
 rcases hy with rfl|hy
 ·omega
 ·exact(ho.rd hy).2
theorem JQG(h:HIn w c g s){a:Int}(ha:g.sl a=true){y:Nat}(hy:g.Ro y):Calls prog 60 #[.pointer (some ⟨s.A.r,0,none⟩),.int .i64 a,.int .i64 (s.F y:Nat)] w λe w'=>e=.returned (.int .i64 0)/\XF4 (λk=>k=s.A.g) w w'/\HIn w' c (g.setSl a y) s:=by
 obtain⟨n,rfl,h1,h2⟩:=XdH ha;refine(VHr h.com.rt (i:=n) (by rw[s.len];exact h1) (ψr _)).mono ?_;rintro e w' ⟨rfl,t,hr⟩
 have Y:s.rs (g.setSl n y)=(s.rs g).set n (s.F y:Nat):=by
  unfold HSt.rs Gph.setSl;rw[τ,ξG]
 refine⟨rfl,t,?_,h.mem.touch t (λk hk e=>⟨λhx=>h.com.x.2.2.1 (by rw[<-e];exact hx),λe2=>h.com.n3.2.1 (by rw[<-e,e2])⟩) (λ_ h=>h),h.img.slot hy,h.gok.slot (hy.le h.gok),h.cok,h.bt,h.bs,?_⟩
 ·rw[Y];exact h.com.root t hr
 ·show (g.S.set _ _).length=c.sl
  rw[υ];exact h.sl
theorem HIn.rcell(h:HIn w c g s):w.cell? ⟨s.A.hp,9,none⟩=some (.pointer (some ⟨s.A.r,0,none⟩)):=h.com.row.cc 9
theorem Xfw.slot{s':HSt}(h:Xfw w c s g s' w'){w2:World}(t:XF4 (λk=>k=s'.A.g) w' w2)(hi:HIn w2 c g' s'):Xfw w c s g' s' w2:=
 ⟨h.t.trans' t (λk hk e=>by
  have:=h.S k (.inr (.inr (.inl e)));rcases this with h1|h1
  ·exact h1
  ·omega),hi,h.hp,h.S,h.o⟩
theorem V9V(h:HIn w c g s)(hn:s.o=none↔s.lf=0)(a b i:Int):Calls prog 33 #[.pointer (some ⟨s.A.hp,0,none⟩),.int .i64 a,.int .i64 b,.int .i64 i] w λe w'=>e=.returned (.int .i64 (g.loE a b i))/\HOp w c s (g.loG a b i) w':=by
 obtain⟨F0,F1⟩:=VXS h a b;have H:=hid h;have HN:=hid hn;cases hsl:(g.sl a&&g.sl b)with
 | false=>
  have HF:=hid (F0 hsl)
  have HE:Hid (g.loE a b i=17/\g.loG a b i=g):=⟨by
   have e:g.loE a b i=17:=by unfold Gph.loE Gph.two;rw[hsl];rfl
   exact⟨e,by unfold Gph.loG;rw[e];rfl⟩⟩
  generalize s.A.hp=ap at HF⊢;clear h hn hsl F0 F1;go_enter func33,ntmps33;go_wp2_with(go_at_call 68;refine(HF.o).mono ?_;rintro e w1 ⟨rfl,hg⟩;have HG:=hid hg;clear hg);go_ret;exact⟨ZzN HE.o.1.symm,by rw[HE.o.2];exact HOp.same H.o HN.o HG.o⟩
 | true=>
  have HF:=hid (F1 hsl);have hE:g.loE a b i=g.fdE b i 1:=by unfold Gph.loE Gph.two;rw[μ hsl]
  have hG:g.loG a b i=if g.fdE b i 1=0 then g.setSl a (g.fdV b i 1)else g:=by unfold Gph.loG;rw[hE]
  rw[hE,hG];rw[ζd]at hsl;have U:=Gph.at_ro hsl.2;have V:=hid (λ(W:World) (gg:Gr w W)=>Z4p (h.cut.gr gg));have Y:=hid (λ(W:World) (gg:Gr w W)=>Zn7 (QBN ..) (h.cut.gr gg).sp (s.F (g.at b):Nat) i (h.cut.rdP U) (h.cut.fdP U i (by decide)));obtain⟨q1,q2⟩:=h.img.ptE h.gok U i;have e1:s.u.ptE (s.F (g.at b):Nat) i=g.fdE b i 1:=by rw[q1,Gph.fdE_er hsl.2]
  have e3:(s.cut w).u=s.u:=rfl;rw[e3,e1]at Y;have Xe:(s.cut w).A.hp=s.A.hp:=rfl;rw[Xe]at V;have N:=hid (λ(w1 w2:World) (gr:Gr w w1) (he:((s.cut w).sp c).E s.u (s.cut w).X w1 w2)=>ZWm h hn gr he.toW h.img h.gok rfl)
  have HQ:=hid (λ(hz:g.fdE b i 1=0)=>(by
   have h0:g.erE (g.at b) i 1=0:=by rw[<-Gph.fdE_er hsl.2];exact hz
   have:=q2 h0;have e:g.fdV b i 1=(g.ob (g.at b)).w.getD i.toNat 0:=by unfold Gph.fdV;rw[μ hz]
   rw[<-e]at this
   exact this:s.u.ptV (s.F (g.at b):Nat) i=s.F (g.fdV b i 1)/\g.Ro (g.fdV b i 1)))
  have HA:=hid hsl.1;generalize s.u.ptV (s.F (g.at b):Nat) i=rv at Y HQ;generalize g.fdV b i 1=y at HQ⊢;generalize g.fdE b i 1=re at Y HQ⊢;generalize (s.F (g.at b):Nat)=ad at HF Y;generalize (s.F (g.at a):Nat)=ad2 at HF;obtain⟨ap,hp⟩:∃ap,ap=s.A.hp:=⟨_,rfl⟩;rw[<-hp]at HF V N⊢;have HP:=hid hp;obtain⟨gx,I⟩:∃gx,gx=if re=0 then g.setSl a y else g:=⟨_,rfl⟩
  rw[<-I];have Xd:=hid I;clear h hn hsl F0 F1 U e1 e3 Xe hp hE hG q1 q2 I;go_enter func33,ntmps33;go_upto_region 4 with(go_at_call 68;refine(HF.o).mono ?_;rintro e w1 ⟨gb,cp,rfl,Xa,G,-,B⟩;have Z:=hid Xa;have J:=hid B;have Xh:=hid G;clear Xa B G);obtain⟨Sx,Xc,HS⟩:=ZJV.start λW'=>W'.cell? ⟨gb,1,none⟩=some (.int .i64 (ad:Nat));have y0:=ZJV.fact Xc λ_ h=>h;have O:=HS.o (w1.drew) (J.o);have L:Inhabited (ZJV Sx):=⟨⟨_,O⟩⟩;clear Xc;refine Vv2 Sx 12 [([0,2,3,4,5],1),([],6)] [7,8,9,10,11] (by kernel_rfl) (by kernel_rfl) O ?_;refine XGW ?_
  try simp only[XZy,ζ,ξ]
  repeat(go_big_quiet_step (fail))
  refine θ ?_;go_wp2_with((go_at_call 70;refine JmE (V.o _ Z.o.drew) ?_));refine⟨.inr (ZJV.of (HS.o _ (J.o))),?_⟩;refine XGW ?_
  try simp only[XZy,ζ,ξ]
  repeat(go_big_quiet_step (fail))
  refine θ ?_;go_wp2_with((go_at_call 74;refine(Y.o _ Z.o.drew).mono ?_;rintro e w2 ⟨rfl,he⟩;have M:=hid he;clear he));refine⟨.inr (ZJV.of (HS.o _ ((M.o.1.cell (ZQf J.o) (λhk=>ζN _ (ω hk.2.2 Xh.o)) 1).trans J.o))),?_⟩;refine Z9U ?_
  try simp only[XZy,ζ,ξ]
  repeat(go_big_quiet_step (fail))
  refine θ ?_;refine β ?_;clear y0 O L;clear HS Sx;by_cases hz:re=0
  ·subst hz;obtain⟨z1,z2⟩:=HQ.o rfl;have Xg:=hid z2;subst z1;clear z2;go_upto_region 8 with(go_at_call 71;refine(N.o _ _ Z.o.drew M.o).mono ?_;rintro e w3 ⟨rfl,s',hr,hs,hF⟩;have HR:=hid (ν hr (ν hs hF));clear hr hs hF);have y9:=HR.o.1.i.rcell;rw[HR.o.1.hp,<-HP.o]at y9;have Xf:=hid (JQG HR.o.1.i HA.o Xg.o);rw[HR.o.2.2.F]at Xf;go_wp2_with(go_at_call 60;refine(Xf.o).mono ?_;rintro e w4 ⟨rfl,t4,h4⟩;have Xb:=hid (ν t4 h4);clear t4 h4);go_ret;rw[show gx=g.setSl a y from by have:=Xd.o;simpa using this];exact⟨rfl,s',HR.o.1.slot Xb.o.1 Xb.o.2,HR.o.2.1⟩
  ·have d1:(re==0)=false:=by simpa using hz
   have D:=hid hz;go_wp2_with(go_at_call 71;refine(N.o _ _ Z.o.drew M.o).mono ?_;rintro e w3 ⟨rfl,s',hr,hs,hF⟩;have HR:=hid (ν hr (ν hs hF));clear hr hs hF);go_ret;rw[show gx=g from by have:=Xd.o;rw[ϑ D.o]at this;exact this];exact⟨rfl,s',HR.o.1,HR.o.2.1⟩
theorem HIn.wrP(h:HIn w c g s){a:Int}(hs:g.sl a=true)(i:Int){y:Nat}(hy:g.Ro y):g.fdE a i 1=0->Img (s.u.seV (s.F (g.at a):Nat) i 1 (s.F y)) (g.setFd a i y) s.F s.base s.top:=λhe=>by
 have Y:=Gph.at_ro hs;have Z:g.erE (g.at a) i 1=0:=by rw[<-Gph.fdE_er hs];exact he
 have:=h.img.seV h.mem.ok h.gok Y i (kd:=1) (by decide) y (λ_=>hy) (by have:=h.hi;have:=h.bt;omega) Z;rw[μ rfl]at this;exact this
theorem HIn.wrPO(h:HIn w c g s){a:Int}(hs:g.sl a=true)(i:Int){y:Nat}(hy:g.Ro y):g.fdE a i 1=0->(g.setFd a i y).Ok:=λhe=>by
 have Y:=Gph.at_ro hs;have Z:g.erE (g.at a) i 1=0:=by rw[<-Gph.fdE_er hs];exact he
 obtain⟨hr,n,rfl,h1,h2,-⟩:=h.img.inP h.gok Y (by decide) Z;obtain⟨q1,q2⟩:=h.gok.rd hr;exact h.gok.put q1 q2 (λ_=>hy.le h.gok)
theorem HIn.adr(h:HIn w c g s){y:Nat}(hy:g.Ro y):s.F y<=2147483647:=by
 rcases hy with rfl|hy
 ·rw[h.img.z];omega
 ·have h1:=h.img.lo y hy;have:=h.hi;have:=h.bt;omega
theorem QmE(h:HIn w c g s)(hn:s.o=none↔s.lf=0)(a i b:Int):Calls prog 36 #[.pointer (some ⟨s.A.hp,0,none⟩),.int .i64 a,.int .i64 i,.int .i64 b] w λe w'=>e=.returned (.int .i64 (g.stE a i b))/\HOp w c s (g.stG a i b) w':=by
 obtain⟨F0,F1⟩:=VXS h a b;have H:=hid h;have HN:=hid hn;cases hsl:(g.sl a&&g.sl b)with
 | false=>
  have HF:=hid (F0 hsl)
  have HE:Hid (g.stE a i b=17/\g.stG a i b=g):=⟨by
   have e:g.stE a i b=17:=by unfold Gph.stE Gph.two;rw[hsl];rfl
   exact⟨e,by unfold Gph.stG;rw[e];rfl⟩⟩
  generalize s.A.hp=ap at HF⊢;clear h hn hsl F0 F1;go_enter func36,ntmps36;go_wp2_with(go_at_call 68;refine(HF.o).mono ?_;rintro e w1 ⟨rfl,hg⟩;have HG:=hid hg;clear hg);go_ret;exact⟨ZzN HE.o.1.symm,by rw[HE.o.2];exact HOp.same H.o HN.o HG.o⟩
 | true=>
  have HF:=hid (F1 hsl);have hE:g.stE a i b=g.fdE a i 1:=by unfold Gph.stE Gph.two;rw[μ hsl]
  have hG:g.stG a i b=if g.fdE a i 1=0 then g.setFd a i (g.at b)else g:=by unfold Gph.stG;rw[hE]
  rw[hE,hG];rw[ζd]at hsl;have J:=Gph.at_ro hsl.1;have U:=Gph.at_ro hsl.2;have M:=hid (λ(W:World) (gg:Gr w W)=>Z4p (h.cut.gr gg));have Y:=hid (λ(W:World) (gg:Gr w W)=>Xz9 (QBN ..) (Xj1 ..) (h.cut.gr gg).sp (s.F (g.at a):Nat) i (h.cut.rdP J) (h.cut.fdP J i (by decide)) (h.adr U));have e1:s.u.gtE (s.F (g.at a):Nat) i 1=g.fdE a i 1:=by rw[h.img.gtE h.gok J i (by decide),Gph.fdE_er hsl.1]
  have e3:(s.cut w).u=s.u:=rfl;rw[e3,e1]at Y;have Xa:(s.cut w).A.hp=s.A.hp:=rfl;rw[Xa]at M
  have V:=hid (λ(w1 w2:World) (gr:Gr w w1) (he:((s.cut w).sp c).W (s.u.seV (s.F (g.at a):Nat) i 1 (s.F (g.at b))) (s.cut w).X w1 w2)=>(by
   by_cases hz:g.fdE a i 1=0
   ·rw[μ hz];exact JT8 h hn gr he (h.wrP hsl.1 i U hz) (h.wrPO hsl.1 i U hz) rfl
   ·rw[ϑ hz]
    have e:s.u.seV (s.F (g.at a):Nat) i 1 (s.F (g.at b))=s.u:=by
     unfold Vm.seV;rw[h.img.plE J i (by decide),<-Gph.fdE_er hsl.1,ϑ hz]
    rw[e]at he
    exact JT8 h hn gr he h.img h.gok rfl:Calls prog 71 #[.pointer (some ⟨s.A.hp,0,none⟩)] w2 λe w3=>e=.returned (.tuple #[])/\HOp w c s (if g.fdE a i 1=0 then g.setFd a i (g.at b)else g) w3))
  generalize (if g.fdE a i 1=0 then g.setFd a i (g.at b)else g)=gx at V⊢;generalize g.fdE a i 1=re at Y⊢;generalize s.u.seV (s.F (g.at a):Nat) i 1 (s.F (g.at b))=un at Y V;generalize (s.F (g.at a):Nat)=ad at HF Y;generalize (s.F (g.at b):Nat)=Xe at HF Y;obtain⟨ap,hp⟩:∃ap,ap=s.A.hp:=⟨_,rfl⟩;rw[<-hp]at HF M V⊢;clear h hn hsl F0 F1 J U e1 e3 Xa hp hE hG;go_enter func36,ntmps36;go_upto_region 4 with(go_at_call 68;refine(HF.o).mono ?_;rintro e w1 ⟨gb,cp,rfl,B,D,G,Xc⟩;have I:=hid B;have Z:=hid (ν G Xc);have Xb:=hid D;clear B G Xc D);obtain⟨Sx,O,HS⟩:=ZJV.start λW'=>(W'.cell? ⟨gb,0,none⟩=some (.int .i64 (ad:Nat))/\W'.cell? ⟨gb,1,none⟩=some (.int .i64 (Xe:Nat)))
  have y0:=ZJV.fact O λ_ h=>h.1;have y1:=ZJV.fact O λ_ h=>h.2;have E:=HS.o (w1.drew) (Z.o);have L:Inhabited (ZJV Sx):=⟨⟨_,E⟩⟩;clear O;refine Vv2 Sx 11 [([0,2,3,4,5,6,7,8],1),([],9)] [10] (by kernel_rfl) (by kernel_rfl) E ?_;refine XGW ?_
  try simp only[XZy,ζ,ξ]
  repeat(go_big_quiet_step (fail))
  refine θ ?_;go_wp2_with((go_at_call 70;refine JmE (M.o _ I.o.drew) ?_));refine⟨.inr (ZJV.of (HS.o _ (Z.o))),?_⟩;refine XGW ?_
  try simp only[XZy,ζ,ξ]
  repeat(go_big_quiet_step (fail))
  refine θ ?_;go_wp2_with((go_at_call 76;refine(Y.o _ I.o.drew).mono ?_;rintro e w2 ⟨rfl,he⟩;have N:=hid he;clear he));refine⟨.inr (ZJV.of (HS.o _ (⟨(N.o.1.cell (ZQf Z.o.1) (λhk=>ζN _ (ω hk.2 Xb.o)) 0).trans Z.o.1,(N.o.1.cell (ZQf Z.o.1) (λhk=>ζN _ (ω hk.2 Xb.o)) 1).trans Z.o.2⟩))),?_⟩;refine Z9U ?_
  try simp only[XZy,ζ,ξ]
  repeat(go_big_quiet_step (fail))
  refine θ ?_;refine β ?_;clear y0 y1 E L;clear HS Sx;go_wp2_with(go_at_call 71;refine(V.o _ _ I.o.drew N.o).mono ?_;rintro e w3 ⟨rfl,ho⟩;have Xd:=hid ho;clear ho);go_ret;exact⟨rfl,Xd.o⟩
end
end
section
open Go.RowKit Go.Shelf Word
section
variable {w w':World} {c:HCf} {g g':Gph} {s:HSt}
theorem HOp.of(hn:s.o=none↔s.lf=0)(t:XF4 (λk=>k=s.A.g) w w')(hi:HIn w' c g' s):HOp w c s g' w':=
 ⟨s,⟨t.mono (λ_ _ e=>.inr (.inr (.inl e))),hi,rfl,λ_ h=>.inl h,hn⟩,Xwk.same s⟩
theorem HIn.rcpy(h:HIn w c g s)(a b:Int):Calls prog 75 #[.pointer (some ⟨s.A.r,0,none⟩),.int .i64 a,.int .i64 b] w λe w'=>e=.returned (.int .i64 (g.two a b 0))/\XF4 (λk=>k=s.A.g) w w'/\HIn w' c (g.cpG a b) s:=by
 refine(Jv2 h.com.rt a b).mono ?_;rintro e w' ⟨rfl,t,hr⟩;have Y:V2z w' s.X s.A c s.base s.top s.u s.o s.lf s.nb:=h.mem.touch t (λk hk e=>⟨λhx=>h.com.x.2.2.1 (by rw[<-e];exact hx),λe2=>h.com.n3.2.1 (by rw[<-e,e2])⟩) (λ_ h=>h);rw[YGy,YGy];unfold Ywp at hr;rw[YGy,YGy]at hr;unfold Gph.two Gph.cpG;cases ha:g.sl a with
 | false=>
  rw[ha]at hr;simp only[Bool.false_eq_true,if_false,ψH]at hr⊢;exact⟨by simp,t,h.com.root t (by simpa using hr),Y,h.img,h.gok,h.cok,h.bt,h.bs,h.sl⟩
 | true=>
  cases hb:g.sl b with
  | false=>
   rw[ha,hb]at hr;exact⟨by simp,t,h.com.root t (by simpa using hr),Y,by simpa using h.img,by simpa using h.gok,h.cok,h.bt,h.bs,by simpa using h.sl⟩
  | true=>
   obtain⟨n,rfl,h1,h2⟩:=XdH ha;obtain⟨m,rfl,h3,h4⟩:=XdH hb;rw[ha,hb]at hr;simp only[if_true,and_self,τ,Bool.and_self]at hr⊢;have hy:=Gph.at_ro hb
   have Z:s.rs (g.setSl n (g.at m))=(s.rs g).set n ((s.rs g).getD m 0):=by
    rw[φ,δ (by rw[s.len];exact h3),s.get g h3,<-h4];unfold HSt.rs Gph.setSl;rw[τ,ξG];rfl
   refine⟨trivial,t,?_,Y,h.img.slot hy,h.gok.slot (hy.le h.gok),h.cok,h.bt,h.bs,?_⟩
   ·rw[Z];exact h.com.root t hr
   ·show (g.S.set _ _).length=c.sl
    rw[υ];exact h.sl
theorem Xxc(h:HIn w c g s)(hn:s.o=none↔s.lf=0)(a b:Int):Calls prog 35 #[.pointer (some ⟨s.A.hp,0,none⟩),.int .i64 a,.int .i64 b] w λe w'=>e=.returned (.int .i64 (g.two a b 0))/\HOp w c s (g.cpG a b) w':=by
 have HN:=hid (XuX h);have HC:=hid (h.rcpy a b);have HO:=hid hn;have c9:=h.rcell;generalize s.A.hp=ap at HN c9⊢;clear h hn;go_enter func35,ntmps35;go_upto_region 3 with(go_at_call 50;refine JmE (HN.o) ?_);go_wp2_with(go_at_call 75;refine(HC.o).mono ?_;rintro e w1 ⟨rfl,ht,hi⟩;have HT:=hid (ν ht hi);clear ht hi);go_ret;exact⟨rfl,HOp.of HO.o HT.o.1 HT.o.2⟩
theorem HIn.rclr(h:HIn w c g s)(a:Int):Calls prog 60 #[.pointer (some ⟨s.A.r,0,none⟩),.int .i64 a,.int .i64 0] w λe w'=>e=.returned (.int .i64 (g.slE a))/\XF4 (λk=>k=s.A.g) w w'/\HIn w' c (g.clG a) s:=by
 unfold Gph.slE Gph.clG;cases ha:g.sl a with
 | false=>
  refine(QST h.com.rt (i:=a) (by rw[YGy,ha];decide) 0).mono ?_;rintro e w' ⟨rfl,gr⟩;exact⟨rfl,gr.touch _,by simpa using h.gr gr⟩
 | true=>
  have:=JQG h ha (y:=0) (.inl rfl);rw[h.img.z]at this;refine this.mono ?_;rintro e w' ⟨rfl,t,hi⟩;exact⟨rfl,t,by simpa using hi⟩
theorem JfK(h:HIn w c g s)(hn:s.o=none↔s.lf=0)(a:Int):Calls prog 28 #[.pointer (some ⟨s.A.hp,0,none⟩),.int .i64 a] w λe w'=>e=.returned (.int .i64 (g.slE a))/\HOp w c s (g.clG a) w':=by
 have HN:=hid (XuX h);have HC:=hid (h.rclr a);have HO:=hid hn;have c9:=h.rcell;generalize s.A.hp=ap at HN c9⊢;clear h hn;go_enter func28,ntmps28;go_upto_region 3 with(go_at_call 50;refine JmE (HN.o) ?_);go_wp2_with(go_at_call 60;refine(HC.o).mono ?_;rintro e w1 ⟨rfl,ht,hi⟩;have HT:=hid (ν ht hi);clear ht hi);go_ret;exact⟨rfl,HOp.of HO.o HT.o.1 HT.o.2⟩
end
end
section
open Go.RowKit Go.Shelf Word
section
variable {w w':World} {c:HCf} {g g':Gph} {s:HSt}
theorem Xfw.trans{g1 g2:Gph}{s1 s2:HSt}{w1 w2:World}(h:Xfw w c s g1 s1 w1)(k:Xfw w1 c s1 g2 s2 w2):Xfw w c s g2 s2 w2:=
 ⟨h.t.trans' k.t (λb hb e=>(h.S b e).elim id (λh2=>by omega)),k.i,k.hp.trans h.hp,λb hb=>by
  rcases k.S b hb with h1|h1
  ·exact h.S b h1
  ·exact .inr (ζb h.t.size h1),k.o⟩
theorem Xfw.gr{s':HSt}(h:Xfw w c s g' s' w'){w2:World}(gr:Gr w' w2):Xfw w c s g' s' w2:=⟨h.t.trans (gr.touch _),h.i.gr gr,h.hp,h.S,h.o⟩
theorem Xfw.refl(h:HIn w c g s)(hn:s.o=none↔s.lf=0):Xfw w c s g s w:=⟨XF4.refl _ _,h,rfl,λ_ h=>.inl h,hn⟩
theorem Xwk.trans{s1 s2:HSt}(h:Xwk s s1)(k:Xwk s1 s2):Xwk s s2:=by
 have h1:=h.lf;have h2:=k.lf;refine⟨ζb h2 h1,?_⟩;rw[k.cyc,h.cyc];by_cases e0:s.lf=0
 ·rw[ϑ (λhh=>hh.1 Ω),ϑ (λhh=>hh.1 e0),ϑ (λhh=>hh.1 e0)]
 ·by_cases e1:s1.lf=0
  ·rw[ϑ (λhh=>hh.1 e1),μ ⟨e0,e1⟩,μ ⟨e0,by omega⟩]
  ·by_cases e2:s2.lf=0
   ·rw[μ ⟨e1,e2⟩,ϑ (λhh=>e1 hh.2),μ ⟨e0,e2⟩]
   ·rw[ϑ (λhh=>e2 hh.2),ϑ (λhh=>e1 hh.2),ϑ (λhh=>e2 hh.2)]
theorem Zvh.stp{X:Nat->Prop}{A:HAd}{base top:Nat}{u:Vm}{y:Nat}{z:ZH1}{sl:Sl}{v v':Vm}{R Sv:Nat->Prop}(h:Zvh w X A c base top u y z sl v R Sv)(hf:Q1M w w' R Sv y A.q z (HpB c.fr top u) sl.step v'):Zvh w' (plus X w) A c base top u y z sl.step v' R (plus Sv w):=by
 have hl:=h.cy.od.lt;have J:=h.tab.lt;have Z:=hf.ok;refine⟨hf.cy,hf.vm,⟨?_,?_,?_⟩,hf.ok,hf.j.1,λk hk=>?_,λk hk Y=>?_,hf.t.tab J (λhk=>hk.elim h.t1 h.t2) h.tab,h.t1,λhk=>hk.elim h.t2 (λhk=>by omega),h.bs,h.lm,h.bk,h.ah,h.kd⟩
 ·rw[Z.mid.n,<-h.hv.n,h.ok.mid.n];rfl
 ·rw[Z.mid.pg,<-h.hv.pg,h.ok.mid.pg];rfl
 ·exact hf.j.2
 ·rcases hk with hk|hk|hk
  ·exact .inl (h.x k (.inl hk))
  ·exact .inl (h.x k (.inr hk))
  ·exact .inr hk
 ·rcases Y with Y|Y
  ·exact h.d k hk Y
  ·have:=hl k hk;omega
def YF5(w:World)(c:HCf)(g:Gph)(s:HSt)(w':World):Prop:=∃s',Xfw w c s g s' w'/\Xwk s s'/\HKp s s'/\s'.lf+1=s.lf
theorem HIn.stp(h:HIn w c g s)(hn:s.o=none↔s.lf=0)(hl:s.lf≠0):∃y,s.o=some y/\Calls prog 91 #[.pointer (some ⟨y,0,none⟩)] w λe w1=>e=.returned (.tuple #[.bool true,.int .i64 0]) ∧
  Calls prog 71 #[.pointer (some ⟨s.A.hp,0,none⟩)] w1 λe w'=>e=.returned (.tuple #[])/\YF5 w c g s w':=by
 have hm:=h.mem;cases ho:s.o with
 | none=>exact absurd (hn.1 ho) hl
 | some y=>
  rw[ho]at hm;obtain⟨z,sl,v,R,Sv,Y,e1,e2⟩:=hm;refine⟨y,rfl,(J5c (Qyf c.fr s.top s.u) Y.cy Y.ok ⟨Y.a,Y.hv.rm⟩ Y.tab Y.t2 Y.t1 Y.vm Y.d).mono ?_⟩;rintro e w1 ⟨v',rfl,hf⟩
  have Z:sl.ft<sl.mv.length:=by
   refine Decidable.byContradiction λhh=>hl ?_;rw[<-e1];exact sl.lf_zero.2 hh
  have J:=Sl.lf_step Z;rw[κ Z];refine⟨rfl,?_⟩;have t1:XF4 s.X w w1:=hf.t.mono (λk _ hk=>Y.x k hk)
  have hI:HIn w1 c g {s with X:=plus s.X w,lf:=sl.step.lf}:=by
   refine⟨h.com.mem t1,?_,h.img,h.gok,h.cok,h.bt,h.bs,h.sl⟩
   show V2z w1 (plus s.X w) s.A c s.base s.top s.u s.o sl.step.lf s.nb
   rw[ho];exact⟨z,sl.step,v',R,plus Sv w,Y.stp hf,rfl,by show (V65 sl.mv).length=s.nb;rw[Xb3];exact e2⟩
  refine(VFm hI).mono ?_;rintro e w2 ⟨rfl,s',h1⟩;refine⟨rfl,s',⟨?_,h1.i,by rw[h1.A],λk hk=>?_,h1.o⟩,⟨?_,?_⟩,⟨h1.K.F,h1.K.base,h1.K.top⟩,?_⟩
  ·exact(t1.mono (λk _ hk=>.inl hk)).trans' h1.t (λk _ hk=>.inr (.inl hk))
  ·rcases hk with hk|hk|hk|hk|hk
   ·rcases h1.X k hk with h2|h2
    ·exact .inl (.inl h2)
    ·exact .inr h2
   ·rw[h1.A]at hk;exact .inl (.inr (.inl hk))
   ·rw[h1.A]at hk;exact .inl (.inr (.inr (.inl hk)))
   ·rw[h1.A]at hk;exact .inl (.inr (.inr (.inr (.inl hk))))
   ·rw[h1.A]at hk;exact .inl (.inr (.inr (.inr (.inr hk))))
  ·rw[h1.lf,<-e1];show sl.step.lf<=sl.lf;omega
  ·rw[h1.cyc,h1.lf]
   show (if s.o≠none/\sl.step.lf=0 then wrap64 (s.cyc+1)else s.cyc)=if s.lf≠0/\sl.step.lf=0 then wrap64 (s.cyc+1)else s.cyc
   by_cases h0:sl.step.lf=0
   ·rw[μ ⟨by rw[ho];simp,h0⟩,μ ⟨hl,h0⟩]
   ·rw[ϑ (λhh=>h0 hh.2),ϑ (λhh=>h0 hh.2)]
  ·rw[h1.lf,<-e1];exact J
theorem YFI(h:HIn w c g s)(hn:s.o=none↔s.lf=0)(hl:s.lf≠0):Calls prog 47 #[.pointer (some ⟨s.A.hp,0,none⟩)] w λe w'=>e=.returned (.bool true)/\YF5 w c g s w':=by
 have HN:=hid (XuX h);obtain⟨y,hy,hs⟩:=h.stp hn hl;have Z:=hid hs;have Y:=h.cc 11;rw[hy]at Y;simp only[ξV]at Y;obtain⟨ap,hp⟩:∃ap,ap=s.A.hp:=⟨_,rfl⟩;rw[<-hp]at HN Z Y⊢;clear h hn hl hs hy hp;go_enter func47,ntmps47;go_upto_region 3 with(go_at_call 50;refine JmE (HN.o) ?_);go_upto_region 4 with(go_at_call 91;refine(Z.o).mono ?_;rintro e w1 ⟨rfl,he⟩;have HE:=hid he;clear he);go_wp2_with(go_at_call 71;refine(HE.o).mono ?_;rintro e w2 ⟨rfl,h2⟩;have HH:=hid h2;clear h2);go_ret;exact⟨rfl,HH.o⟩
theorem QNw(h:HIn w c g s)(hn:s.o=none↔s.lf=0)(hl:s.lf=0):Calls prog 47 #[.pointer (some ⟨s.A.hp,0,none⟩)] w λe w'=>e=.returned (.bool false)/\w=w':=by
 have HN:=hid (XuX h);have Y:=h.cc 11;rw[hn.2 hl]at Y;simp only[ψl]at Y;obtain⟨ap,hp⟩:∃ap,ap=s.A.hp:=⟨_,rfl⟩;rw[<-hp]at HN Y⊢;clear h hn hl hp;go_enter func47,ntmps47;go_wp2_with(go_at_call 50;refine JmE (HN.o) ?_);go_ret;exact⟨rfl,rfl⟩
def XUL(w:World)(ap:Nat):Nat:=match w.cell? ⟨ap,11,none⟩with
 | some (.pointer (some a))=>YNn w a.block 11
 | _=>0
theorem HIn.left(h:HIn w c g s):XUL w s.A.hp=s.lf:=by
 have Y:=h.cc 11;have hm:=h.mem;unfold XUL;cases ho:s.o with
 | none=>
  rw[ho]at Y hm;simp only[ψl]at Y;rw[Y];exact hm.2.2.2.symm
 | some y=>
  rw[ho]at Y hm;simp only[ξV]at Y;obtain⟨z,sl,v,R,Sv,Z,e1,e2⟩:=hm;have c:=Z.cy.rc.cc 11;rw[Y]
  show YNn w y 11=s.lf
  unfold YNn;rw[c,<-e1];rfl
theorem ZtQ(h:HIn w c g s)(hn:s.o=none↔s.lf=0):Calls prog 83 #[.pointer (some ⟨s.A.hp,0,none⟩)] w λe w'=>e=.returned (.tuple #[])/\∃s',Xfw w c s g s' w'/\Xwk s s'/\HKp s s'/\s'.lf=0:=by
 have H0:Hid (Xfw w c s g s w/\Xwk s s/\HKp s s):=⟨Xfw.refl h hn,Xwk.same s,HKp.refl s⟩;obtain⟨ap,hp⟩:∃ap,ap=s.A.hp:=⟨_,rfl⟩;have HP:=hid hp;rw[<-hp];clear h hn hp;go_enter func83,ntmps83;go_wp2
 go_loopw [] (λwr=>∃s',Hid (Xfw w c s g s' wr/\Xwk s s'/\HKp s s')) (λwr=>XUL wr ap)
 case atStart=>exact⟨s,H0⟩
 case round=>
  obtain⟨s',HR⟩:=hrel;have Z:ap=s'.A.hp:=HP.o.trans HR.o.1.hp.symm;by_cases hl:s'.lf=0
  ·have HZ:=hid (QNw HR.o.1.i HR.o.1.o hl);rw[<-Z]at HZ;have HL:=hid hl;clear hl Z;go_wp2_with(go_at_call 47;refine JmE (HZ.o) ?_);refine ζF (ζr rfl _ _ _) rfl ?_;exact⟨rfl,s',HR.o.1,HR.o.2.1,HR.o.2.2,HL.o⟩
  ·have HZ:=hid (YFI HR.o.1.i HR.o.1.o hl);have HL:=hid (HR.o.1.i.left);rw[<-Z]at HZ HL;have J:=hid Z;clear hl Z;go_wp2_with(go_at_call 47;refine(HZ.o).mono ?_;rintro e w1 ⟨rfl,s2,h1,h2,h3,h4⟩;have Y:=hid (ν h1 (ν h2 (ν h3 h4)));clear h1 h2 h3 h4);go_round
   case rel=>exact⟨s2,⟨HR.o.1.trans Y.o.1,HR.o.2.1.trans Y.o.2.1,HR.o.2.2.trans Y.o.2.2.1⟩⟩
   case measure=>
    have e1:=Y.o.1.i.left;rw[Y.o.1.hp,<-J.o]at e1;have:=HL.o;have:=Y.o.2.2.2;omega
end
end
section
open Go.RowKit Go.Shelf Word
attribute [local go_sem] Oper.semAt_some
structure VNZ(w wx:World)(S:Nat->Prop)(q m p1 b1 p2 b2:Nat)(v:Vm)(rs:List Int)(c:Cf)(why:Int):Prop where
 t:XF4 S w wx
 vm:QXZ wx (ZOk S w) q v
 rs:(why=0/\∃L,Ext wx m p1 b1 p2 b2 v.n L/\Zx6 v rs v.n L)\/(why=25/\¬Xd6 v rs v.n)
 bx:Rec wx w.heap.size 156 [.int .i64 c.fr,.int .i64 c.tp,.int .i64 c.to,.int .i64 c.lm,.int .i64 c.bk,.int .i64 c.st,.int .i64 c.ah]
 r6:Rec wx (w.heap.size+1) 103 [.pointer none]
 r7:Rec wx (w.heap.size+2) 27 [.int .i64 0]
 lm:w.heap.size+3<=m
 l1:w.heap.size+3<=p1
 l2:w.heap.size+3<=b1
 l3:w.heap.size+3<=p2
 l4:w.heap.size+3<=b2
section
variable {w:World} {S:Nat->Prop} {q r g:Nat} {v:Vm} {rs:List Int} {c:Cf}
theorem YeD(hV:QXZ w S q v)(hn1:1<=v.n)(hR:V5d w r g rs)(hT:VRW w)(htS:¬S 1)(hst:1<=c.st/\c.st<=4096):
  Calls prog 154 #[.pointer (some ⟨q,0,none⟩),.pointer (some ⟨r,0,none⟩),cfV c] w (Zt3 w S q v rs c.fr c.tp):=by
 have HV:=hid hV.cut;have HR:=hid hR;have HT:=hid hT;have Ja:=hid htS;have Jo:=hT.lt;have hn2:=hV.ok.n2;have Jp:rs.length≠0:=λe=>hR.ne (ζv e);have Js:=hR.le;have HX:=hid (λW=>XMw v.n hn1 Ω W);have Jy:=hid hst;obtain⟨n,Yj⟩:∃n,n=rs.length:=⟨_,rfl⟩;have HN:=hid Yj;rw[<-Yj]at Jp Js;have g1:Gr w (((w.alloc (.cells #[.int .i64 c.fr,.int .i64 c.tp,.int .i64 c.to,.int .i64 c.lm,.int .i64 c.bk,.int .i64 c.st,.int .i64 c.ah] 156)).alloc (.cells #[.pointer none] 103)).alloc (.cells #[.int .i64 0] 27)):=(((Gr.refl w).alloc _).alloc _).alloc _;have Zw:=hid g1;clear hV hR hT htS hst Yj g1;refine(ζa (n:=5)).1 ?_;refine callsIn_of_wp_marks func154 rfl trivial ?_ rfl;simp only[ntmps154,ξa,ζU,ξq,Nat.reduceAdd,Nat.reduceSub,ζ2,ζ1,ξf,ζ7,ξb,ζL];unfold cfV;gi_upto_region 1 with(fail);obtain⟨W0,Xo⟩:∃W0,W0=(((w.alloc (.cells #[.int .i64 c.fr,.int .i64 c.tp,.int .i64 c.to,.int .i64 c.lm,.int .i64 c.bk,.int .i64 c.st,.int .i64 c.ah] 156)).alloc (.cells #[.pointer none] 103)).alloc (.cells #[.int .i64 0] 27)):=⟨_,rfl⟩;have Jd:W0.heap.size=w.heap.size+3:=by rw[Xo];simp only[η]
 have Zr:Gr w W0:=by rw[Xo];exact Zw.o
 have rb:Rec W0 w.heap.size 156 [.int .i64 c.fr,.int .i64 c.tp,.int .i64 c.to,.int .i64 c.lm,.int .i64 c.bk,.int .i64 c.st,.int .i64 c.ah]:=by rw[Xo];exact(Rec.new w _ [.int .i64 c.fr,.int .i64 c.tp,.int .i64 c.to,.int .i64 c.lm,.int .i64 c.bk,.int .i64 c.st,.int .i64 c.ah]).gr (((Gr.refl _).alloc _).alloc _)
 have r6:Rec W0 (w.heap.size+1) 103 [.pointer none]:=by rw[Xo];exact(VOf w _ 103 [.pointer none]).gr ((Gr.refl _).alloc _)
 have r7:Rec W0 (w.heap.size+2) 27 [.int .i64 0]:=by
  rw[Xo];have:=VOf (w.alloc (.cells #[.int .i64 c.fr,.int .i64 c.tp,.int .i64 c.to,.int .i64 c.lm,.int .i64 c.bk,.int .i64 c.st,.int .i64 c.ah] 156)) (.cells #[.pointer none] 103) 27 [.int .i64 0];rw[η]at this;exact this
 rw[<-Xo];clear Xo Zw;have Jb:=hid Zr;have Zs:=hid rb;have Zm:=hid r6;have Zf:=hid r7;have Jl:=hid (λ(W:World) (g:Gr w W)=>Xwn (HV.o.gr g));clear rb r6 r7 Zr
 gi_upto_region 2 with(first
  | (refine⟨trivial,?_⟩;gi_at_call 52;refine(ζa.2 (Jl.o _ Jb.o)).mono ?_;rintro e w2 ⟨rfl,rfl⟩)
  | (refine⟨trivial,?_⟩;gi_at_call 51;refine(ζa.2 (HX.o _)).mono ?_;rintro e w3 ⟨m,p1,b1,p2,b2,rfl,Zd,Jc,Xi,Xp,Xm,Xu,Xh⟩;have Yl:=hid Zd;have E:=hid (Jb.o.trans Zd);have Xq:=hid Jc;have HB:=hid (ν Xi (ν Xp (ν Xm (ν Xu Xh))));clear Zd Jc Xi Xp Xm Xu Xh))
 gi_cut [10,11]from 14 (λs10 s11 wx=>∃(Xk:Nat) (Y:Int),s10=.pointer (some ⟨Xk,0,none⟩)/\s11=.int .i64 Y/\Hid (VNZ w wx S q m p1 b1 p2 b2 v rs c Y))
 case first=>
  have Jx:=HB.o;obtain⟨Xi,Xp,Xm,Xu,Xh⟩:=Jx;rw[Jd]at Xi Xp Xm Xu Xh;have Ze:=Xq.o.hm;have Za:=Xq.o.v1.hp;have Yg:=Xq.o.v1.hb;have Zb:=Xq.o.v2.hp;have Yn:=Xq.o.v2.hb
  have Xl:∀i,YBz m b1 b2 i->w.heap.size+3<=i/\i<w3.heap.size:=λi hi=>by
   rcases hi with rfl|rfl|rfl
   ·exact⟨Xi,Ze⟩
   ·exact⟨Xm,Yg⟩
   ·exact⟨Xh,Yn⟩
  have Zj:=hid Xl;have Xz:=hid (λ(W:World) (g:Gr w3 W)=>ZbJ (HR.o.gr ((E.o).trans g)));rw[<-HN.o]at Xz
  have Ya:Hid (∀(W:World) (g1 cp:Nat),Gr w3 W->w3.heap.size<=g1->W.ownsRow 0 3 1 (.slice (some ⟨g1,0,none⟩) n cp) n (zs rs)->Calls prog 53 #[.iface 87 (.pointer (some ⟨q,0,none⟩)),.slice (some ⟨g1,0,none⟩) n cp,.pointer (some ⟨m,0,none⟩),.int .i64 c.st] W λe w'=>
    ∃(a1 a2 a3 a4 Y:Int),e=.returned (.tuple #[.agg #[.int .i64 a1,.int .i64 a2,.int .i64 a3,.int .i64 a4],.int .i64 Y])/\XF4 (λi=>YBz m b1 b2 i\/ZOk S w i) W w'/\QXZ w' (ZOk S w) q v/\((Y=0/\∃L,Ext w' m p1 b1 p2 b2 v.n L/\Zx6 v rs v.n L)\/(Y=25/\¬Xd6 v rs v.n))):=⟨λW g1 cp hg U ho=>by
   rw[HN.o]at ho⊢;have Yy:=E.o.trans hg;refine(XKD (HV.o.gr Yy) (Xq.o.gr hg) (Yy.tab HT.o.lt HT.o) (λi hi=>?_) (by unfold maxLen;have:=HN.o;omega) (λi hi h=>by have:=(Xl i h).1;have:=hi.2;omega) (λh=>by have:=h.2;omega) (λh=>by have:=h.2;omega) (λh=>Ja.o h.1) (λh=>by have:=(Xl _ h).1;omega) (c.st:Int)).mono ?_
   ·exact⟨g1,0,rfl,(Vvr ho rfl).2,λh=>by have:=(Xl _ h).2;omega,by rw[ξN];exact ZBn ho (JbU hi)⟩
   ·rintro e w' (⟨h,-⟩|⟨-,-,ht,hv,(⟨L,r',vi,rfl,he,hm,-⟩|⟨rfl,-,hs⟩)⟩)
    ·have:=Jy.o;omega
    ·exact⟨_,_,r',vi,0,rfl,ht,hv,.inl ⟨rfl,L,he,hm⟩⟩
    ·exact⟨0,0,0,0,25,rfl,ht,hv,.inr ⟨rfl,hs⟩⟩⟩
  have Xa:Hid (∀(W1 W2 W3:World) (Xk:Nat) (Y:Int),Gr w3 W1->XF4 (λi=>YBz m b1 b2 i\/ZOk S w i) W1 W2->QXZ W2 (ZOk S w) q v->((Y=0/\∃L,Ext W2 m p1 b1 p2 b2 v.n L/\Zx6 v rs v.n L)\/(Y=25/\¬Xd6 v rs v.n))->XF4 (λi=>i=Xk) W2 W3->w3.heap.size<=Xk →
    VNZ w W3 S q m p1 b1 p2 b2 v rs c Y):=⟨λW1 W2 W3 Xk Y hg ht hv hres I hb=>by
   have Jv:=E.o.size;have hz13:=Yl.o.size;have Yy:=E.o.trans hg
   have Xf:∀i,i<w.heap.size+3->w.heap.size<=i->¬(YBz m b1 b2 i\/ZOk S w i):=λi h1 h2 h=>by
    rcases h with h|h
    ·have:=(Xl i h).1;omega
    ·have:=h.2;omega
   refine⟨((Yy.touch _).trans (ht.mono (T:=λi=>YBz m b1 b2 i\/S i) (λi _ h=>h.imp id (λh=>h.1)))).trans' (T:=λi=>i=Xk) I (λi hi h=>by omega) |>.mono (λi hi h=>h.elim (λh=>by have:=(Xl i h).1;omega) id),hv.touch I (λi hi _ h=>by have:=hi.2;omega),?_,?_,?_,?_,Xi,Xp,Xm,Xu,Xh⟩
   ·rcases hres with⟨h,L,he,hm⟩|h
    ·exact .inl ⟨h,L,he.touch I Ω Ω Ω Ω Ω,hm⟩
    ·exact .inr h
   ·exact((Zs.o.gr (Yl.o.trans hg)).touch ht (Xf _ Ω Ω)).touch I Ω
   ·exact((Zm.o.gr (Yl.o.trans hg)).touch ht (Xf _ Ω Ω)).touch I Ω
   ·exact((Zf.o.gr (Yl.o.trans hg)).touch ht (Xf _ Ω Ω)).touch I Ω⟩
  have Zc:=Zs.o.gr Yl.o;have x5:=Zc.cc 5;have Zi:=Zc.lt;have KS:Hid (∀W',Gr w3 W'->W'.cell? ⟨w.heap.size,5,none⟩=some (.int .i64 c.st)):=⟨λW' h=>(h.cell Zi 5).trans x5⟩
  have KT:Hid (∀W1 W',Gr w3 W1->XF4 (λi=>YBz m b1 b2 i\/ZOk S w i) W1 W'->W'.cell? ⟨w.heap.size,5,none⟩=some (.int .i64 c.st)):=⟨λW1 W' h t=>(t.cell (ω Zi h.size) (λh=>by
   rcases h with h|h
   ·have:=(Zj.o _ h).1;omega
   ·have:=h.2;omega) 5).trans ((h.cell Zi 5).trans x5)⟩
  obtain⟨Sx,Yx⟩:∃Sx:World->Prop,Sx=λW'=>W'.cell? ⟨w.heap.size,5,none⟩=some (.int .i64 c.st):=⟨_,rfl⟩;have y1:∀p':ZJV Sx,p'.w.cell? ⟨w.heap.size,5,none⟩=some (.int .i64 c.st):=λp=>ZJV.get Yx p;have Jg:Sx w3.drew:=by rw[Yx];exact x5
  have N:=hid Yx;have inst:Inhabited (ZJV Sx):=⟨⟨_,Jg⟩⟩;clear Yx x5 Zc Xl Xi Xp Xm Xu Xh Ze Za Yg Zb Yn;refine Jav Sx (.two [0,1,2,4,5,6] 3 (.two [] 7 (.one [8,9,10] 11 (.one [] 12 (.fin [13]))) 11 (.one [] 7 (.one [8,9,10] 12 (.fin [13])))) 11 (.one [] 3 (.one [] 7 (.one [8,9,10] 12 (.fin [13]))))) JBz (by kernel_rfl) (by kernel_rfl) Jg ?_;refine QtW ?_;simp only[XZy,ζ,ξ]
  repeat(go_big_quiet_step (fail))
  refine θ ⟨?_,?_⟩
  ·gi_wp2_with(refine⟨trivial,?_⟩;gi_at_call 54;refine(ζa.2 (Xz.o _ (Gr.refl w3).drew)).mono ?_;rintro e w4 ⟨g1,c1,rfl,Xs,Ym,Ye⟩;have Z:=hid ((Gr.refl w3).drew.trans Xs);have Yv:=hid Ye;have Yq:=hid Ym;clear Xs Ye Ym);refine⟨ZJV.of (by rw[N.o];exact KS.o _ Z.o),?_⟩;refine QtW ?_;simp only[XZy,ζ,ξ];refine θ ⟨?_,?_⟩
   ·gi_wp2_with(refine⟨trivial,?_⟩;gi_at_call 53;refine(ζa.2 (Ya.o _ g1 c1 Z.o Yq.o Yv.o)).mono ?_;rintro e w5 ⟨a1,a2,a3,a4,Y,rfl,O,Xd,Xc⟩;have J:=hid O;have Yk:=hid Xd;have Yc:=hid Xc;clear O Xd Xc);refine⟨ZJV.of (by rw[N.o];exact KT.o _ _ Z.o J.o),?_⟩;refine VyF ?_;simp only[XZy,ζ,ξ]
    repeat(go_big_quiet_step (fail))
    refine θ ?_;have u5:=KT.o _ _ Z.o J.o;have Je:=ZQf u5;gi_wp2;refine⟨ZJV.of (by rw[N.o];exact(((Gr.refl w5).alloc _).cell Je 5).trans u5),?_⟩;refine VyF ?_;simp only[XZy,ζ,ξ];refine θ ?_;gi_wp2;refine⟨ZJV.of (by rw[N.o];exact(((Gr.refl w5).alloc _).cell Je 5).trans u5),?_⟩;refine YAC ?_;simp only[XZy,ζ,ξ]
    repeat(go_big_quiet_step (fail))
    refine θ ?_;refine β ?_;gi_wp2
    gi_meet
    exact⟨_,Y,rfl,rfl,⟨Xa.o _ _ _ _ Y Z.o J.o Yk.o Yc.o (((Gr.refl w5).alloc _).touch _) (ζb Z.o.size J.o.size)⟩⟩
   ·have x4:=KS.o _ Z.o;have Zy:=ZQf x4;gi_wp2;refine⟨ZJV.of (by rw[N.o];exact(((Gr.refl w4).alloc _).cell Zy 5).trans x4),?_⟩;refine VyF ?_;simp only[XZy,ζ,ξ];refine θ ?_;have G:=hid (Rec.new w4 107 [.int .i64 0,.int .i64 0,.int .i64 0,.int .i64 0]);have M:=hid (Z.o.alloc (.cells #[.int .i64 0,.int .i64 0,.int .i64 0,.int .i64 0] 107))
    have Yi:Hid (¬(YBz m b1 b2 w4.heap.size\/ZOk S w w4.heap.size)):=⟨λh=>by
     have:=Z.o.size;rcases h with h|h
     ·have:=(Zj.o _ h).2;omega
     ·have:=h.2;have:=(E.o).size;omega⟩
    have Xv:Hid (¬w.heap.size=w4.heap.size):=⟨by have:=Z.o.size;omega⟩;have Zt:=hid (Y9I Yv.o ((Gr.refl w4).alloc (.cells #[.int .i64 0,.int .i64 0,.int .i64 0,.int .i64 0] 107)));have Yf:Hid (w3.heap.size<=w4.heap.size):=⟨Z.o.size⟩;obtain⟨bA,Xg⟩:∃bA,bA=w4.heap.size:=⟨_,rfl⟩;obtain⟨WA,Xj⟩:∃WA,WA=w4.alloc (.cells #[.int .i64 0,.int .i64 0,.int .i64 0,.int .i64 0] 107):=⟨_,rfl⟩;rw[show w4.alloc (.cells ([.int .i64 0,.int .i64 0,.int .i64 0,.int .i64 0]:List Value).toArray 107)=WA from Xj.symm]at G;rw[<-Xj]at M Zt⊢;rw[<-Xg]at G Yi Xv Yf⊢;clear Xg Xj x4 Zy;gi_wp2_with(refine⟨trivial,?_⟩;gi_at_call 53;refine(ζa.2 (Ya.o _ g1 c1 M.o Yq.o Zt.o)).mono ?_;rintro e w5 ⟨a1,a2,a3,a4,Y,rfl,O,Xd,Xc⟩;have J:=hid O;have Yk:=hid Xd;have Yc:=hid Xc;have V:=hid (G.o.touch O (Yi.o));have q0:=V.o.cc 0;have q1:=V.o.cc 1;have q2:=V.o.cc 2;have q3:=V.o.cc 3;have qf:=V.o.free;have ql:=V.o.lt;clear O Xd Xc);refine⟨ZJV.of (by rw[N.o];exact KT.o _ _ M.o J.o),?_⟩;refine VyF ?_;simp only[XZy,ζ,ξ]
    repeat(go_big_quiet_step (fail))
    refine θ ?_;gi_wp2;have t5:=YH8 w5 bA (.int .i64 a1) (.int .i64 a2) (.int .i64 a3) (.int .i64 a4);have KF:=(t5.cell (ZQf (KT.o _ _ M.o J.o)) Xv.o 5).trans (KT.o _ _ M.o J.o);refine⟨ZJV.of (by rw[N.o];exact KF),?_⟩;refine YAC ?_;simp only[XZy,ζ,ξ]
    repeat(go_big_quiet_step (fail))
    refine θ ?_;refine β ?_;gi_wp2
    gi_meet
    exact⟨_,Y,rfl,rfl,⟨Xa.o _ _ _ _ Y M.o J.o Yk.o Yc.o t5 Yf.o⟩⟩
  ·gi_wp2;have x3:=KS.o _ (Gr.refl w3);have Jt:=ZQf x3;refine⟨ZJV.of (by rw[N.o];exact KS.o _ ((Gr.refl w3).alloc _).drew),?_⟩;refine VyF ?_;simp only[XZy,ζ,ξ];refine θ ?_;have G:=hid ((Rec.new w3 107 [.int .i64 0,.int .i64 0,.int .i64 0,.int .i64 0]).gr (Gr.refl _).drew);have M:=hid ((Gr.refl w3).alloc (.cells #[.int .i64 0,.int .i64 0,.int .i64 0,.int .i64 0] 107)).drew
   have Yi:Hid (¬(YBz m b1 b2 w3.heap.size\/ZOk S w w3.heap.size)):=⟨λh=>by
    rcases h with h|h
    ·have:=(Zj.o _ h).2;omega
    ·have:=h.2;have:=(E.o).size;omega⟩
   have Xv:Hid (¬w.heap.size=w3.heap.size):=⟨by omega⟩;have Yf:Hid (w3.heap.size<=w3.heap.size):=⟨π _⟩;obtain⟨WA,Xj⟩:∃WA,WA=(w3.alloc (.cells #[.int .i64 0,.int .i64 0,.int .i64 0,.int .i64 0] 107)).drew:=⟨_,rfl⟩;rw[show (w3.alloc (.cells ([.int .i64 0,.int .i64 0,.int .i64 0,.int .i64 0]:List Value).toArray 107)).drew=WA from Xj.symm]at G;rw[<-Xj]at M⊢;clear Xj;obtain⟨bA,Xg⟩:∃bA,bA=w3.heap.size:=⟨_,rfl⟩;rw[<-Xg]at G Yi Xv;rw[show w3.heap.size<=w3.heap.size↔w3.heap.size<=bA by rw[Xg]]at Yf;rw[show w3.heap.size=bA from Xg.symm];clear Xg x3 Jt;gi_wp2_with(refine⟨trivial,?_⟩;gi_at_call 54;refine(ζa.2 (Xz.o _ M.o)).mono ?_;rintro e w4 ⟨g1,c1,rfl,Xs,Ym,Ye⟩;have Z:=hid (M.o.trans Xs);have Zp:=hid (G.o.gr Xs);have Yv:=hid Ye;have Yq:=hid (ζb M.o.size Ym);clear Xs Ye Ym);refine⟨ZJV.of (by rw[N.o];exact KS.o _ Z.o),?_⟩;refine VyF ?_;simp only[XZy,ζ,ξ];refine θ ?_;gi_wp2_with(refine⟨trivial,?_⟩;gi_at_call 53;refine(ζa.2 (Ya.o _ g1 c1 Z.o Yq.o Yv.o)).mono ?_;rintro e w5 ⟨a1,a2,a3,a4,Y,rfl,O,Xd,Xc⟩;have J:=hid O;have Yk:=hid Xd;have Yc:=hid Xc;have V:=hid (Zp.o.touch O (Yi.o));have q0:=V.o.cc 0;have q1:=V.o.cc 1;have q2:=V.o.cc 2;have q3:=V.o.cc 3;have qf:=V.o.free;have ql:=V.o.lt;clear O Xd Xc);refine⟨ZJV.of (by rw[N.o];exact KT.o _ _ Z.o J.o),?_⟩;refine VyF ?_;simp only[XZy,ζ,ξ]
   repeat(go_big_quiet_step (fail))
   refine θ ?_;gi_wp2;have t5:=YH8 w5 bA (.int .i64 a1) (.int .i64 a2) (.int .i64 a3) (.int .i64 a4);have KF:=(t5.cell (ZQf (KT.o _ _ Z.o J.o)) Xv.o 5).trans (KT.o _ _ Z.o J.o);refine⟨ZJV.of (by rw[N.o];exact KF),?_⟩;refine YAC ?_;simp only[XZy,ζ,ξ]
   repeat(go_big_quiet_step (fail))
   refine θ ?_;refine β ?_;gi_wp2
   gi_meet
   exact⟨_,Y,rfl,rfl,⟨Xa.o _ _ _ _ Y Z.o J.o Yk.o Yc.o t5 Yf.o⟩⟩
 case rest=>
  obtain⟨Xk,Y,rfl,rfl,HI⟩:=hcut;have Xr:=HI.o.r6;have Xn:=HI.o.r7;have Zh:=HI.o.bx;have hwz:=HI.o.t.size;have hr7l:=Xn.lt;rcases HI.o.rs with⟨rfl,L,hex,Zv⟩|⟨rfl,Zq⟩
  ·have Zg:=hid hex;have Zu:=hid Zv;clear Xr Xn hex Zv;gi_wp2_with(refine⟨trivial,?_⟩;gi_at_call 132;refine(ζa.2 (JMu (some ⟨m,0,none⟩))).mono ?_;rintro e w1 ⟨rfl,rfl⟩);obtain⟨W1,Yd⟩:∃W1,W1=wc.alloc (.cells #[.pointer (some ⟨m,0,none⟩)] 103):=⟨_,rfl⟩;have U:Gr wc W1:=by rw[Yd];exact(Gr.refl wc).alloc _
   have Jf:W1.heap.size=wc.heap.size+1:=by rw[Yd,η]
   have k4:W1.cell? ⟨wc.heap.size,0,none⟩=some (.pointer (some ⟨m,0,none⟩)):=by
    rw[Yd];exact(Boxed.new wc 103 (.pointer (some ⟨m,0,none⟩))).cell
   rw[<-Yd];have hex:=Zg.o;have Ze:=hex.hm;have Za:=hex.v1.hp;have Yg:=hex.v1.hb;have Zb:=hex.v2.hp;have Yn:=hex.v2.hb;have Zz:Hid (VRW wc):=⟨HI.o.t.tab Jo Ja.o HT.o⟩;have Zo:=Zz.o.lt;have hrl:=Zh.lt;have Ju:=hid hex.good;clear Yd hex;have tI:∀(j:Nat) A B,(XF4 (λi=>W1.heap.size<=i) W1 A/\j<=L.length/\∀i (h:i<L.length),i<j->c.fr<=L[i].1/\L[i].1+L[i].2<=c.tp)->XF4 (λi=>W1.heap.size<=i/\i<W1.heap.size+2+4) A B->(XF4 (λi=>W1.heap.size<=i) W1 B/\j<=L.length/\∀i (h:i<L.length),i<j->c.fr<=L[i].1/\L[i].1+L[i].2<=c.tp):=λj A B h t=>⟨h.1.trans (t.mono (λi _ h=>h.1)),h.2⟩
   refine JYJ (K:=4) (s0:=0) rfl Ω (gf:=173) (lb:=#[.pointer (some ⟨wc.heap.size,0,none⟩)]) rfl trivial (enters_of func173 (by kernel_rfl) rfl)
    (Yd3 _ wc.heap.size m p1 b1 p2 b2 v.n L _) (λ_=>rfl)
    (λ(j:Nat) A=>XF4 (λi=>W1.heap.size<=i) W1 A/\j<=L.length/\∀i (h:i<L.length),i<j->c.fr<=L[i].1/\L[i].1+L[i].2<=c.tp)
    (λcd A=>cd=.ret/\XF4 (λi=>(i=w.heap.size+1\/i=w.heap.size+2)\/W1.heap.size<=i) W1 A/\A.cell? ⟨w.heap.size+1,0,none⟩=some (.pointer none)/\A.cell? ⟨w.heap.size+2,0,none⟩=some (.int .i64 25)/\∃o∈L,¬(c.fr<=o.1/\o.1+o.2<=c.tp))
    tI
    (λcd A B h t=>⟨h.1,h.2.1.trans (t.mono (λi _ h=>.inr h.1)),(t.cell (ZQf h.2.2.1) (by show ¬(W1.heap.size<=w.heap.size+1/\_);omega) 0).trans h.2.2.1,(t.cell (ZQf h.2.2.2.1) (by show ¬(W1.heap.size<=w.heap.size+2/\_);omega) 0).trans h.2.2.2.1,h.2.2.2.2⟩)
    (λj A h=>⟨(Zg.o.gr U).touch h.1 Ω Ω Ω Ω Ω,(U.tab Zo Zz.o).touch' h.1 Ω,(h.1.cell Ω Ω 0).trans k4,h.2.1⟩)
    ⟨XF4.refl _ _,ζh _,λi _ h=>absurd h (ζV _)⟩ ?round ?done ?stop
   case round=>
    have Yz:=hid Jf;clear Jf;intro lp j x W3 hsz3 Xe Xb;dsimp only[VYF];gi_wp2;refine⟨Gr.refl _,λW4 ht4 hI4=>?_⟩
    have Ys:j<L.length:=by
     rcases γ j L.length with h|h
     ·exact h
     ·unfold YdH at Xb;rw[ζf h]at Xb;cases Xb
    obtain rfl:x=L[j]:=by unfold YdH at Xb;rw[δ Ys]at Xb;exact(Option.some.inj Xb).symm
    have Xw:=(Zh.gr U).touch hI4.1 (by have:=Yz.o;omega);have c0:=Xw.cc 0;have c1:=Xw.cc 1;have cl:=Xw.lt;have Jw:=(Ju.o.sz _ (χ Ys)).2;have Jh:=hid (χ Ys);obtain⟨sa,Yo⟩:∃s,s=L[j].1:=⟨_,rfl⟩;obtain⟨sz,Yu⟩:∃s,s=L[j].2:=⟨_,rfl⟩;have Yt:=hid (ν Yo Yu);rw[<-Yo,<-Yu]at Jw⊢;have Zl:=hid hI4;have Xx:=(HI.o.r6.gr U).touch hI4.1 (by have:=Yz.o;omega);have Xt:=(HI.o.r7.gr U).touch hI4.1 (by have:=Yz.o;omega);have Jr:=hid Ys;by_cases Yb:c.fr<=sa/\sa+sz<=c.tp
    ·have e0:decide ((sa:Int)<(c.fr:Int))=false:=ψ Ω;have e1:decide ((c.tp:Int)<(sa:Int)+(sz:Int))=false:=ψ Ω;have e2:decide (sa<c.fr)=false:=ψ Ω;have Ji:=hid Yb;clear Xe hI4 Xb ht4 Yo Yu Yb Xx Xt;gi_wp2;refine⟨XF4.refl _ _,j+1,rfl,Zl.o.1,Jr.o,λi h hij=>?_⟩;rcases γ i j with h'|h'
     ·exact Zl.o.2.2 i h h'
     ·obtain rfl:i=j:=Ω
      rw[<-Yt.o.1,<-Yt.o.2];exact Ji.o
    ·have Jk:Hid (∃o∈L,¬(c.fr<=o.1/\o.1+o.2<=c.tp)):=⟨L[j],Jh.o,by rw[<-Yt.o.1,<-Yt.o.2];exact Yb⟩;have Jz:=hid Xx;have Jm:=hid Xt;have z6:=Xx.cc 0;have z7:=Xt.cc 0;have zf6:=Xx.free 0;have zf7:=Xt.free 0;have zl7:=Xt.lt
     have Xa:Hid (∀W5,W5=(W4.setCell ⟨w.heap.size+1,0,none⟩ (.pointer none)).setCell ⟨w.heap.size+1+1,0,none⟩ (.int .i64 25)->XF4 (λk=>k<W1.heap.size\/W1.heap.size+(2+4)<=k) W4 W5/\(XF4 (λi=>(i=w.heap.size+1\/i=w.heap.size+2)\/W1.heap.size<=i) W1 W5/\W5.cell? ⟨w.heap.size+1,0,none⟩=some (.pointer none)/\W5.cell? ⟨w.heap.size+2,0,none⟩=some (.int .i64 25)/\∃o∈L,¬(c.fr<=o.1/\o.1+o.2<=c.tp))):=⟨λW5 hW5=>by
      have tg:XF4 (λi=>i=w.heap.size+1\/i=w.heap.size+2) W4 W5:=by
       rw[hW5];exact((XF4.refl _ W4).setCell (a:=⟨w.heap.size+1,0,none⟩) (λ_=>.inl rfl) _).setCell (a:=⟨w.heap.size+1+1,0,none⟩) (λ_=>.inr rfl) _
      have b6:Rec W5 (w.heap.size+1) 103 [.pointer none]:=by
       rw[hW5];exact(Jz.o.set 0 (.pointer none)).touch ((XF4.refl (λi=>i=w.heap.size+1+1) _).setCell (a:=⟨w.heap.size+1+1,0,none⟩) (λ_=>rfl) _) Ω
      have b7:Rec W5 (w.heap.size+2) 27 [.int .i64 25]:=by
       rw[hW5];exact(Jm.o.touch ((XF4.refl (λi=>i=w.heap.size+1) W4).setCell (a:=⟨w.heap.size+1,0,none⟩) (λ_=>rfl) (.pointer none)) Ω).set 0 (.int .i64 25)
      refine⟨tg.mono (λb _ h=>.inl (by have:=Yz.o;omega)),(Zl.o.1.mono (λ_ _ h=>.inr h)).trans (tg.mono (λ_ _ h=>.inl h)),b6.cc 0,b7.cc 0,Jk.o⟩⟩
     clear Xe hI4 Xb ht4 Xx Xt Yo Yu;by_cases Yp:sa<c.fr
     ·have e0:decide ((sa:Int)<(c.fr:Int))=true:=κ Ω;have e2:decide (sa<c.fr)=true:=κ Yp;clear Yb Yp;gi_wp2;exact⟨(Xa.o _ rfl).1,rfl,(Xa.o _ rfl).2⟩
     ·have e0:decide ((sa:Int)<(c.fr:Int))=false:=ψ Ω;have e2:decide (sa<c.fr)=false:=ψ Yp;have e1:decide ((c.tp:Int)<(sa:Int)+(sz:Int))=true:=κ Ω;clear Yb Yp;gi_wp2;exact⟨(Xa.o _ rfl).1,rfl,(Xa.o _ rfl).2⟩
   case done=>
    rintro D j W3 hD rfl Xe hK;have Yh:=(HI.o.r6.gr U).touch Xe.1 (by have:=HI.o.r6.lt;omega);have Xy:=(HI.o.r7.gr U).touch Xe.1 (by have:=HI.o.r7.lt;omega);have q0:=Yh.cc 0;have q1:=Yh.free 0;have ql:=Yh.lt;have p0:=Xy.cc 0;have Ua:=Xy.free 0;have pl:=Xy.lt;have HK:=hid hK;have HD:=hid hD;have Yr:=hid Xe;have G:=hid Yh;have Jn:=hid Xy;have hs3:=Xe.1.size;clear hK hD Xe Yh Xy;gi_wp2
    have tg:XF4 (λi=>i=w.heap.size+1\/i=w.heap.size+2) W3 ((W3.setCell ⟨w.heap.size+1,0,none⟩ (.pointer (some ⟨m,0,none⟩))).setCell ⟨w.heap.size+1+1,0,none⟩ (.int .i64 0)):=
     ((XF4.refl _ W3).setCell (a:=⟨w.heap.size+1,0,none⟩) (λ_=>.inl rfl) _).setCell (a:=⟨w.heap.size+1+1,0,none⟩) (λ_=>.inr rfl) _
    have b6:Rec ((W3.setCell ⟨w.heap.size+1,0,none⟩ (.pointer (some ⟨m,0,none⟩))).setCell ⟨w.heap.size+1+1,0,none⟩ (.int .i64 0)) (w.heap.size+1) 103 [.pointer (some ⟨m,0,none⟩)]:=
     (G.o.set 0 (.pointer (some ⟨m,0,none⟩))).touch ((XF4.refl (λi=>i=w.heap.size+1+1) _).setCell (a:=⟨w.heap.size+1+1,0,none⟩) (λ_=>rfl) _) Ω
    have b7:Rec ((W3.setCell ⟨w.heap.size+1,0,none⟩ (.pointer (some ⟨m,0,none⟩))).setCell ⟨w.heap.size+1+1,0,none⟩ (.int .i64 0)) (w.heap.size+2) 27 [.int .i64 0]:=
     (Jn.o.touch ((XF4.refl (λi=>i=w.heap.size+1) W3).setCell (a:=⟨w.heap.size+1,0,none⟩) (λ_=>rfl) (.pointer (some ⟨m,0,none⟩))) Ω).set 0 (.int .i64 0)
    have hD:=HD.o;have Zk:=(tg.block D (ζn.1 HK.o).1 Ω).trans HK.o;generalize ((W3.setCell ⟨w.heap.size+1,0,none⟩ (.pointer (some ⟨m,0,none⟩))).setCell ⟨w.heap.size+1+1,0,none⟩ (.int .i64 0))=W5 at *
    have k6:=b6.cc 0;have k7:=b7.cc 0;rw[show w.heap.size+2=w.heap.size+1+1 from rfl]at k7;refine⟨by simp,.inl ⟨_,_,rfl,run_takeDeferred Zk,?_⟩⟩;have Zn:=cell_kept k6 (grownBy_putObj' _ D (.deferred none)) (λr e=>by cases e;exact⟨_,Zk,rfl⟩);have Yw:=cell_kept k7 (grownBy_putObj' _ D (.deferred none)) (λr e=>by cases e;exact⟨_,Zk,rfl⟩);have tD:XF4 (λi=>W1.heap.size<=i) W5 (W5.putObj D (.deferred none)):=Xau _ D _ Ω;refine⟨.tuple #[.pointer (some ⟨m,0,none⟩),.int .i64 0],?_,?_,?_,.inl ⟨L,m,p1,b1,p2,b2,⟨Zu.o,λo ho=>?_⟩,rfl,?_,?_⟩⟩
    ·simp[results,f154,go_sem,Zn,Yw]
    ·exact(((HI.o.t.trans (U.touch _)).trans' Yr.o.1 (λi hi h=>by omega)).trans' tg (λi hi h=>by omega)).trans' tD (λi hi h=>by omega)
    ·exact(((HI.o.vm.gr U).touch Yr.o.1 (λi hi _ h=>by have:=hi.2;omega)).touch tg (λi hi _ h=>by have:=hi.2;omega)).touch tD (λi hi _ h=>by have:=hi.2;omega)
    ·obtain⟨i,hi,rfl⟩:=ζt ho;have:=Yr.o.2.2 i hi hi;omega
    ·have hl:=HI.o;have l0:=hl.lm;have l1:=hl.l1;have l2:=hl.l2;have l3:=hl.l3;have l4:=hl.l4;exact((((Zg.o.gr U).touch Yr.o.1 Ω Ω Ω Ω Ω)).touch tg Ω Ω Ω Ω Ω).touch tD Ω Ω Ω Ω Ω
    ·have hl:=HI.o;have l0:=hl.lm;have l1:=hl.l1;have l2:=hl.l2;have l3:=hl.l3;have l4:=hl.l4;omega
   case stop=>
    rintro D cd W3 hD ⟨rfl,I,h1,h2,Xf⟩ hK;have Jj:=hid Xf;have HK:=hid hK;have Zx:=hid I;have Jv:=I.size;clear Xf hK I;gi_wp2;refine⟨by simp,.inl ⟨_,_,rfl,run_takeDeferred HK.o,?_⟩⟩;have Zn:=cell_kept h1 (grownBy_putObj' _ D (.deferred none)) (λr e=>by cases e;exact⟨_,HK.o,rfl⟩);have Yw:=cell_kept h2 (grownBy_putObj' _ D (.deferred none)) (λr e=>by cases e;exact⟨_,HK.o,rfl⟩);rw[show w.heap.size+2=w.heap.size+1+1 from rfl]at Yw;have tD:XF4 (λi=>W1.heap.size<=i) W3 (W3.putObj D (.deferred none)):=Xau _ D _ Ω;refine⟨.tuple #[.pointer none,.int .i64 25],?_,?_,?_,.inr ⟨λL' h=>?_,rfl⟩⟩
    ·simp[results,f154,go_sem,Zn,Yw]
    ·exact(((HI.o.t.trans (U.touch _)).trans' Zx.o (λi hi h=>by omega))).trans' tD (λi hi h=>by omega)
    ·exact((HI.o.vm.gr U).touch Zx.o (λi hi _ h=>by have:=hi.2;omega)).touch tD (λi hi _ h=>by have:=hi.2;omega)
    ·have e:=h.1.unique Zu.o;subst e;obtain⟨o,ho,Xf⟩:=Jj.o;have:=h.2 o ho;exact Xf Ω
  ·have q0:=Xr.cc 0;have q1:=Xr.free 0;have ql:=Xr.lt;have p0:=Xn.cc 0;have Ua:=Xn.free 0;have pl:=Xn.lt;have Jq:=hid Zq;have Zm:=hid Xr;have Zf:=hid Xn;clear Xr Xn Zq Zh;gi_wp2
   have tg:XF4 (λi=>i=w.heap.size+1\/i=w.heap.size+2) wc ((wc.setCell ⟨w.heap.size+1,0,none⟩ (.pointer none)).setCell ⟨w.heap.size+1+1,0,none⟩ (.int .i64 25)):=
    ((XF4.refl _ wc).setCell (a:=⟨w.heap.size+1,0,none⟩) (λ_=>.inl rfl) _).setCell (a:=⟨w.heap.size+1+1,0,none⟩) (λ_=>.inr rfl) _
   have b6:Rec ((wc.setCell ⟨w.heap.size+1,0,none⟩ (.pointer none)).setCell ⟨w.heap.size+1+1,0,none⟩ (.int .i64 25)) (w.heap.size+1) 103 [.pointer none]:=
    (Zm.o.set 0 (.pointer none)).touch ((XF4.refl (λi=>i=w.heap.size+1+1) _).setCell (a:=⟨w.heap.size+1+1,0,none⟩) (λ_=>rfl) _) Ω
   have b7:Rec ((wc.setCell ⟨w.heap.size+1,0,none⟩ (.pointer none)).setCell ⟨w.heap.size+1+1,0,none⟩ (.int .i64 25)) (w.heap.size+2) 27 [.int .i64 25]:=
    (Zf.o.touch ((XF4.refl (λi=>i=w.heap.size+1) wc).setCell (a:=⟨w.heap.size+1,0,none⟩) (λ_=>rfl) (.pointer none)) Ω).set 0 (.int .i64 25)
   generalize ((wc.setCell ⟨w.heap.size+1,0,none⟩ (.pointer none)).setCell ⟨w.heap.size+1+1,0,none⟩ (.int .i64 25))=W5 at *
   have k6:=b6.cc 0;have k7:=b7.cc 0;rw[show w.heap.size+2=w.heap.size+1+1 from rfl]at k7;refine⟨.tuple #[.pointer none,.int .i64 25],?_,?_,?_,.inr ⟨λL' h=>Jq.o h.1.sound,rfl⟩⟩
   ·simp[results,f154,go_sem,k6,k7]
   ·exact HI.o.t.trans' tg (λi hi h=>by omega)
   ·exact HI.o.vm.touch tg (λi hi _ h=>by have:=hi.2;omega)
end
end
end Go.Proofs.YteihjlcmjecmfaaGreatDoor
