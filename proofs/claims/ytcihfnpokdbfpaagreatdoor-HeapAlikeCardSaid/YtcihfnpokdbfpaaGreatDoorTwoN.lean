/- Lemmas. -/
import Derived.Test.YtcihfnpokdbfpaaGreatDoorTwoM
namespace Go.Proofs.YtcihfnpokdbfpaaGreatDoor
open _root_.Go.Proofs.Tryz
set_option maxHeartbeats 6400000
set_option maxRecDepth 100000
open Go.RowKit Go.Shelf Word
theorem ZY(c:CfI)(N:Nat)(A:Option Addr)(cap:Nat):(∀V,Calls prog 10 #[c.V,.slice A N cap] V λe w'=>e=.returned (.bool (decide (2048<c.wd)||decide (120<N)))/\Gr V w'):=λV=>by
 by_cases h1:120<N
 ·rw[φ h1,Bool.or_true];exact QRE c h1 A cap V
 ·rw[ζ h1,ξJ];exact YUJ c Ω A cap V
section
variable{w w':World}
theorem Xrf(hT:AQ w)(c:CfI)(hc:c.Bd)(d:CfI)(hd:d.Bd){A:Option Addr}{cap:Nat}{l:List GOp}(hA:KB w A l):Calls prog 4 #[c.V,d.V,.slice A l.length cap] w λe w'=>e=.returned (.bool true)/\Gr w w':=by
 obtain⟨w0,Xt⟩:=ε ((w.alloc (.cells (CY c).toArray 24)).alloc (.cells (CY d).toArray 24));have Zg:Hid (Gr w w0):=⟨by rw[Xt];exact((Gr.refl w).alloc _).alloc _⟩;have Xk:Hid (Rec w0 w.heap.size 24 (CY c)):=⟨by rw[Xt];exact(Rec.new w _ (CY c)).gr ((Gr.refl _).alloc _)⟩
 have E:Hid (Rec w0 (w.heap.size+1) 24 (CY d)):=⟨by
  have:=Rec.new (w.alloc (.cells (CY c).toArray 24)) 24 (CY d);rw[π]at this
  rw[Xt];exact this⟩
 have Yn:=ι Xt;obtain⟨d2,Xo⟩:=ε (⟨d.kd,d.pg,d.bk,c.wd,c.sl,d.st,d.ah,d.tr⟩:CfI);have Yh:d2.Bd:=by rw[Xo];exact⟨hd.1,hd.2.1,hc.2.2⟩
 have HL:=ι (λ(V:World) (g:Gr w V)=>Zse V (g.tab hT.lt hT));have Yy:Hid (∀V,Gr w V->1<V.heap.size):=⟨λV g=>ϑ hT.lt g.size⟩;have HA:=ι hA;obtain⟨N,hN⟩:=ε l.length;have HN:=ι hN;rw[<-hN];have Xq:d2.wd=c.wd:=by rw[Xo]
 have Yd:d2.sl=c.sl:=by rw[Xo]
 have Ye:=ZY c N A cap;have Yb:=ZY d2 N A cap;rw[Xq]at Yb;have Xu:Hid (∀V,Gr w V->c.may=true->Calls prog 12 #[c.V] V λe w'=>∃s,e=.returned (.tuple #[pP s.A.hp,iI 0])/\OX V c.nat s w'):=⟨λV g hm=>TS c hc hm V (g.tab hT.lt hT)⟩;have Xj:=ι (λ(V:World) hm=>ZD c hc hm V);have Xc:Hid (∀V,Gr w V->d2.may=true->Calls prog 12 #[d2.V] V λe w'=>∃s,e=.returned (.tuple #[pP s.A.hp,iI 0])/\OX V d2.nat s w'):=⟨λV g hm=>TS d2 Yh hm V (g.tab hT.lt hT)⟩;have Xd:=ι (λ(V:World) hm=>ZD d2 Yh hm V)
 have U:Hid (∀V,Gr w V->Calls prog 12 #[d2.V] V λe w'=>∃(pv:Option Addr) (ev:Int),e=.returned (.tuple #[.pointer pv,iI ev])/\Gr V w'):=⟨λV g=>by
  by_cases hm:d2.may=true
  ·exact(Xc.o V g hm).mono (λe w' ⟨s,h1,h2⟩=>⟨_,_,h1,h2.gr⟩)
  ·exact(Xd.o V (by simpa using hm)).mono (λe w' ⟨h1,h2⟩=>⟨_,_,h1,h2⟩)⟩
 -- behind the two stores
 have Yp:Hid (Gr w ((w0.setCell ⟨w.heap.size+1,3,none⟩ (.int .i64 c.wd)).setCell ⟨w.heap.size+1,4,none⟩ (.int .i64 c.sl)).drew/\Rec ((w0.setCell ⟨w.heap.size+1,3,none⟩ (.int .i64 c.wd)).setCell ⟨w.heap.size+1,4,none⟩ (.int .i64 c.sl)).drew w.heap.size 24 (CY c)/\Rec ((w0.setCell ⟨w.heap.size+1,3,none⟩ (.int .i64 c.wd)).setCell ⟨w.heap.size+1,4,none⟩ (.int .i64 c.sl)).drew (w.heap.size+1) 24 (CY d2)):=⟨by
  have t:=(KN w0 (w.heap.size+1) 3 (iI c.wd)).setCell (a:=⟨w.heap.size+1,4,none⟩) (λ_=>rfl) (iI c.sl);have g:=(Gr.refl ((w0.setCell ⟨w.heap.size+1,3,none⟩ (.int .i64 c.wd)).setCell ⟨w.heap.size+1,4,none⟩ (.int .i64 c.sl))).drew;refine⟨(PS Zg.o t (λk e=>by omega)).trans g,(Xk.o.touch t Ω).gr g,?_⟩;have:=((E.o.set 3 (iI c.wd)).set 4 (iI c.sl)).gr g;rw[Xo]
  exact this⟩
 have Yr:=ι (ξ Xq Yd);generalize hF:(decide (2048<c.wd)||decide (120<N))=F at Ye Yb;have Zn:=ι hF;have Xg:=ι Ye;have Xs:=ι Yb;obtain⟨cb,Ym⟩:=ε w.heap.size;rw[<-Ym]at Xk Yp E;have Zp:=ι Ym;have Xm:=ι (λ(V:World) (h:Rec V cb 24 (CY c))=>SP h);have D:=ι (λ(V:World) (h:Rec V (cb+1) 24 (CY d2))=>SP h);clear Xt hA hN hc hd Yh Ye Yb hF Xq Yd Ym Xo;unfold CfI.V at Xg Xs Xu Xj Xc Xd U⊢;unfold CY at Yn;go_in;go_upto_region 1 with(fail);rw[<-Yn.o,<-Zp.o];obtain⟨Sx,X,HS⟩:=AA.start λW'=>Rec W' cb 24 (CY c);have y3:=AA.fact X λ_ h=>h.cell (j:=3) rfl;have y4:=AA.fact X λ_ h=>h.cell (j:=4) rfl;have yl:∀p:AA Sx,cb<p.w.heap.size:=λp=>by have h:=AA.get X p;exact h.lt
 have hz:=E.o.gr (Gr.refl w0).drew;have z3:=hz.cc 3;have z4:=hz.cc 4;have zf:=hz.free;have zl:=hz.lt;clear hz;have k3:=E.o.cc 3;have k4:=E.o.cc 4;have kf:=E.o.free;have kl:=E.o.lt;have B:=HS.o _ (Xk.o.gr (Gr.refl _).drew);have Xp:Inhabited (AA Sx):=⟨⟨_,B⟩⟩;clear X;refine BI Sx 7 [([0,1,2,3,4],5),([6],7)] [] B ?_;refine AL ?_;go_wp2_with((fail));refine⟨.inr (AA.of (HS.o _ ((Xk.o.gr (Gr.refl _).drew).touch (KN w0.drew (cb+1) 3 (iI c.wd)) Ω))),?_⟩
 try simp only[Act.put,η,ζf,ζi]
 refine AL ?_;go_wp2;refine⟨.inl trivial,?_⟩;refine EM ?_;refine ζb ?_;refine ζx ?_;clear y3 y4 yl B Xp;clear HS Sx;clear z3 z4 zf zl k3 k4 kf kl;obtain⟨Yi,Yk,Yl⟩:=Yp.o;generalize ((w0.setCell ⟨cb+1,3,none⟩ (.int .i64 c.wd)).setCell ⟨cb+1,4,none⟩ (.int .i64 c.sl)).drew=w1 at Yi Yk Yl⊢;have L:=ι Yi;have Xl:=ι Yk;have I:=ι Yl;clear Yi Yk Yl Yp Xk E Yn Zg;obtain⟨b0,b1,b2,b3,b4,b5,b6,b7,bl⟩:=Xm.o _ Xl.o;obtain⟨p0,p1,p2,p3,p4,p5,p6,p7,pl⟩:=D.o _ I.o;cases F
 case true=>
  go_wp2_with(first|(go_at_call 10;refine Qa (Xg.o _) λw2 hg=>?_;have O:=ι (L.o.trans hg);clear hg)|(go_at_call 11;refine Qa (HL.o _ O.o) λw3 hg=>?_;have Y:=ι (O.o.trans hg);clear hg))
  go_ret;exact⟨rfl,Y.o⟩
 case false=>
  have hn120:N<=120:=by have h:=Zn.o;rw[ξZ,ξL,ξL]at h;omega
  by_cases hm:c.may=true
  case neg=>
   have Xe:=ι (λV=>Xj.o V (by simpa using hm));clear hm Xj Xu Xc Xd
   go_wp2_with(first
   | (go_at_call 10;have Z:=O.o;refine Qa (Xs.o _) λw3 hg=>?_;have Y:=ι (Z.trans hg);obtain⟨c0,c1,c2,c3,c4,c5,c6,c7,cl⟩:=Xm.o _ (Xl.o.gr (Z.trans hg));clear hg Z)
   | (go_at_call 10;refine Qa (Xg.o _) λw2 hg=>?_;have O:=ι hg;obtain⟨q0,q1,q2,q3,q4,q5,q6,q7,ql⟩:=D.o _ (I.o.gr hg);clear hg)
   | (go_at_call 12;have M:=Xf.o;refine(U.o _ (L.o.trans M)).mono ?_;rintro e w5 ⟨pv,ev,rfl,hg⟩;have Xi:=ι (L.o.trans (M.trans hg));clear hg M)
   | (go_at_call 12;refine Qa (Xe.o _) λw4 hg=>?_;have Xf:=ι (Y.o.trans hg);obtain⟨e0,e1,e2,e3,e4,e5,e6,e7,el⟩:=D.o _ (I.o.gr (Y.o.trans hg));clear hg)
   | (go_at_call 11;refine Qa (HL.o _ Xi.o) λw6 hg=>?_;have Xh:=ι (Xi.o.trans hg);clear hg))
   go_ret;exact⟨rfl,Xh.o⟩
  have Xe:=ι (λV g=>Xu.o V g hm);by_cases Xy:d2.may=true
  case neg=>
   have Xr:=ι (λV=>Xd.o V (by simpa using Xy));clear hm Xy Xj Xu Xc Xd U
   go_wp2_with(first
   | (go_at_call 10;have Z:=O.o;refine Qa (Xs.o _) λw3 hg=>?_;have Y:=ι (Z.trans hg);obtain⟨c0,c1,c2,c3,c4,c5,c6,c7,cl⟩:=Xm.o _ (Xl.o.gr (Z.trans hg));clear hg Z)
   | (go_at_call 10;refine Qa (Xg.o _) λw2 hg=>?_;have O:=ι hg;obtain⟨q0,q1,q2,q3,q4,q5,q6,q7,ql⟩:=D.o _ (I.o.gr hg);clear hg)
   | (go_at_call 12;have M:=Xf.o;refine Qa (Xr.o _) λw5 hg=>?_;have Xi:=ι (L.o.trans (M.trans hg));clear hg M)
   | (go_at_call 12;refine(Xe.o _ (L.o.trans Y.o)).mono ?_;rintro e w4 ⟨s,rfl,hn⟩;have Xf:=ι (Y.o.trans hn.gr);obtain⟨e0,e1,e2,e3,e4,e5,e6,e7,el⟩:=D.o _ (I.o.gr (Y.o.trans hn.gr));clear hn)
   | (go_at_call 11;refine Qa (HL.o _ Xi.o) λw6 hg=>?_;have Xh:=ι (Xi.o.trans hg);clear hg))
   go_ret;exact⟨rfl,Xh.o⟩
  have Xr:=ι (λV g=>Xc.o V g Xy)
  have Ze:Hid (c.nat.wd<=131072/\c.nat.sl<=64):=⟨by
   have Zh:=CfI.base_in (c:=c) (by unfold CfI.may at hm;simp at hm;exact hm.1);have h1:=IT Zh.1.2.2.2.2.1;have h2:=Zh.2
   exact⟨by show c.wd.toNat<=_;omega,by show c.sl.toNat<=_;omega⟩⟩
  have Xv:d2.nat.wd=c.nat.wd:=by show d2.wd.toNat=c.wd.toNat;rw[Yr.o.1]
  have Yc:d2.nat.sl=c.nat.sl:=by show d2.sl.toNat=c.sl.toNat;rw[Yr.o.2]
  generalize c.nat=cn at Xe Xv Yc Ze;generalize d2.nat=dn at Xr Xv Yc;have Zj:=ι Xv;have Zw:=ι Yc;clear hm Xy Xj Xu Xc Xd U Xv Yc
  go_upto_region 8 with(first|(go_at_call 10;have Z:=O.o;refine Qa (Xs.o _) λw3 hg=>?_;have Y:=ι (Z.trans hg);obtain⟨c0,c1,c2,c3,c4,c5,c6,c7,cl⟩:=Xm.o _ (Xl.o.gr (Z.trans hg));clear hg Z)|(go_at_call 10;refine Qa (Xg.o _) λw2 hg=>?_;have O:=ι hg;obtain⟨q0,q1,q2,q3,q4,q5,q6,q7,ql⟩:=D.o _ (I.o.gr hg);clear hg)|(go_at_call 12;have M:=Xf.o;refine(Xr.o _ (L.o.trans M)).mono ?_;rintro e w5 ⟨sb,rfl,hn⟩;have Yv:=ι hn;clear hn M)|(go_at_call 12;refine(Xe.o _ (L.o.trans Y.o)).mono ?_;rintro e w4 ⟨sa,rfl,hn⟩;have Za:=ι hn;have Xf:=ι (Y.o.trans hn.gr);obtain⟨e0,e1,e2,e3,e4,e5,e6,e7,el⟩:=D.o _ (I.o.gr (Y.o.trans hn.gr));clear hn))
  obtain⟨Ka0,Kb0,J⟩:=Two.new (HLv.new Za.o) Yv.o;rw[Zw.o]at J;generalize sa.A.hp=ha at J⊢;generalize sb.A.hp=hb at J⊢;have HT:=ι J;have Xb:=ι (L.o.trans Y.o);have Xx:=ι (Yy.o _ Xb.o);have Zr:Hid (∀V,Gr w3 V->KB V A l):=⟨λV g=>HA.o.gr (Xb.o.trans g)⟩;have Jd:=ι (λ(V:World) (g:Gr w3 V)=>HL.o V (Xb.o.trans g));clear J Za Yv Xe Xr Xf Y O Xm D Xl I Xg Xs Yy b0 b1 b2 b3 b4 b5 b6 b7 bl p0 p1 p2 p3 p4 p5 p6 p7 pl q0 q1 q2 q3 q4 q5 q6 q7 ql c0 c1 c2 c3 c4 c5 c6 c7 cl e0 e1 e2 e3 e4 e5 e6 e7 el;go_wp2
  go_loopw [47] (λs47 wr=>∃(i:Nat) (g:Gph) (Ka Kb:Nat->Prop),i<=N/\s47=iI i/\Hid (Two w3 Ka Kb cn dn ha hb g g wr)) (λs47 _=>N-(intOf s47).toNat)
  case atStart=>exact⟨0,_,_,_,ζe _,rfl,HT⟩
  case round=>
   clear HT;obtain⟨i,g,Ka,Kb,hi,rfl,HT⟩:=hrel;by_cases Xa:i<N
   ·have Zy:(i:Int)<(N:Int):=Ω
    have Zi:i<l.length:=by rw[<-HN.o];exact Xa
    have Zf:=ι Xa;obtain⟨Xw,bb,o,rfl,Jc,c0,c1,c2,c3,c4,c5,c6,c7,c8⟩:=(Zr.o _ HT.o.a.gr) i Zi;generalize l[i]=x at Xw c0 c1 c2 c3 c4 c5 c6 c7 c8;obtain⟨r,hr⟩:=ε (x.doR cn.wd g);have U:=ι (λ(V:World) (K:Nat->Prop) (h:HLv none w3 K cn ha g V)=>h.do Xx.o x Xw);have Xn:=ι (λ(V:World) (K:Nat->Prop) (h:HLv none w3 K dn hb g V)=>h.do Xx.o x Xw);rw[Zj.o,<-hr]at Xn;rw[<-hr]at U;generalize x.doG cn.wd g=g' at U Xn;have G:=Rec.new wr 37 (opL x);obtain⟨wz,Xz⟩:=ε (wr.alloc (.cells (opL x).toArray 37));have Zz:Hid (Gr wr wz):=⟨by rw[Xz];exact(Gr.refl wr).alloc _⟩;rw[<-Xz]at G;have Yj:=ι Xz;obtain⟨ob,Yg⟩:=ε wr.heap.size;rw[<-Yg]at G;have Zq:=ι Yg;have Ya:=ι G;obtain⟨Yf,Yo,Yq,Yu,Ys⟩:∃Yf Yo,Two w3 Yf Yo cn dn ha hb g g wz/\Yf ob/\Yo ob:=⟨_,_,HT.o.gr Zz.o,.inr ⟨by omega,G.lt⟩,.inr ⟨by omega,G.lt⟩⟩;have Zb:=ι Yq;have Zm:=ι Yu;have Zs:=ι Ys;obtain⟨kd,xa,xb,xi,⟨hp,Zl,hk⟩,xw,xf⟩:=x;obtain⟨code,is,rn,rw',⟨r4,r5,r6⟩⟩:=r;unfold C6 FT FH at U Xn;unfold opL at G Ya Yj;dsimp only at G Ya Yj U Xn c0 c1 c2 c3 c4 c5 c6 c7 c8;clear Xw hr Xz Yg Zi Yq Yu Ys HT;have Ja:=WU;go_upto_region 11 with(fail);rw[<-Yj.o,<-Zq.o];clear Ja c0 c1 c2 c3 c4 c5 c6 c7 c8 Jc;obtain⟨Sx,X,HS⟩:=AA.start λW'=>Rec W' ob 37 [iI kd,iI xa,iI xb,iI xi,iI hp,iI Zl,iI hk,uU (xw:Nat),.float .f64 xf];have y0:=AA.fact X λ_ h=>h.cell (j:=0) rfl;have y1:=AA.fact X λ_ h=>h.cell (j:=1) rfl;have y2:=AA.fact X λ_ h=>h.cell (j:=2) rfl;have y3:=AA.fact X λ_ h=>h.cell (j:=3) rfl;have y4:=AA.fact X λ_ h=>h.cell (j:=4) rfl;have y5:=AA.fact X λ_ h=>h.cell (j:=5) rfl;have y6:=AA.fact X λ_ h=>h.cell (j:=6) rfl;have y7:=AA.fact X λ_ h=>h.cell (j:=7) rfl;have y8:=AA.fact X λ_ h=>h.cell (j:=8) rfl;have yl:∀p:AA Sx,ob<p.w.heap.size:=λp=>by have h:=AA.get X p;exact h.lt
    have B:=HS.o _ (Ya.o.gr (Gr.refl wz).drew);have Xp:Inhabited (AA Sx):=⟨⟨_,B⟩⟩;clear X;refine BI Sx 7 [([0,1,3,4],2),([],5)] [6] B ?_;refine AL ?_;go_wp2_with((go_at_call 16;refine(U.o _ _ (Zb.o.gr (Gr.refl wz).drew).a).mono ?_;intro e w5 ho;have hn:=(Zb.o.gr (Gr.refl wz).drew).opA Xx.o ho;clear ho;obtain⟨rfl,J,tt⟩:=hn;have Zd:=ι J;have Yw:=ι ((Ya.o.gr (Gr.refl wz).drew).touch tt (λe=>e.2 (.inl Zm.o)));clear J tt));refine⟨.inr (AA.of (HS.o _ (Yw.o))),?_⟩;refine AL ?_;go_wp2_with((go_at_call 16;refine(Xn.o _ _ Zd.o.b).mono ?_;intro e w6 ho;have hn:=Zd.o.opB Xx.o ho;clear ho;obtain⟨rfl,J,tt⟩:=hn;have Jb:=ι J;have Zu:=ι (Yw.o.touch tt (λe=>e.2 (.inl (.inl Zs.o))));clear J tt));refine⟨.inr (AA.of (HS.o _ (Zu.o))),?_⟩;refine CU ?_;clear y0 y1 y2 y3 y4 y5 y6 y7 y8 yl B Xp;clear HS Sx;go_wp2;go_round
    case rel=>exact⟨i+1,g',_,_,Zf.o,by go_num,Jb⟩
    case measure=>have:=Zf.o;simp[intOf];omega
   ·have Zy:¬(i:Int)<(N:Int):=Ω
    have HW:=ι HT.o.a.gr;have Yx:=ι (λ(V:World) (q:Gr wr V)=>(HT.o.gr q).a.graph);have Yt:=ι (λ(V:World) (q:Gr wr V)=>(HT.o.gr q).b.graph);unfold SQ at Yx Yt
    have Zo:Hid (∀V v1 v2,GD V v1 g.slD g.ndsD->GD V v2 g.slD g.ndsD->Calls prog 17 #[v1,v2] V λe w'=>e=.returned (.bool true)/\Gr V w'):=⟨λV v1 v2 h1 h2=>by
     have h3:=HT.o.a.words_le;obtain⟨-,⟨s,-,e2,-,-⟩,-⟩:=HT.o.a
     exact ZAP e2.gok h3.1 h3.2 (by rw[e2.sl];exact Ze.o.2) h1 h2⟩
    clear hi Xa HT
    go_wp2_with(first|(go_at_call 18;have hq:=Xh.o;refine(Yt.o _ hq).mono ?_;rintro e w7 ⟨v2,rfl,hg,h2⟩;have Zk:=ι (hq.trans hg);have Zc:=ι (Zv.o.gr hg);have Zt:=ι h2;clear hg h2 hq)|(go_at_call 18;refine(Yx.o _ (Gr.refl wr)).mono ?_;rintro e w6 ⟨v1,rfl,hg,h1⟩;have Xh:=ι hg;have Zv:=ι h1;clear hg h1)|(go_at_call 17;refine Qa (Zo.o _ _ _ Zc.o Zt.o) λw8 hg=>?_;have Yz:=ι (HW.o.trans (Zk.o.trans hg));clear hg)|(go_at_call 11;refine Qa (Jd.o _ Yz.o) λw9 hg=>?_;have Zx:=ι (Yz.o.trans hg);clear hg))
    go_ret;exact⟨rfl,Xb.o.trans Zx.o⟩
end
end Go.Proofs.YtcihfnpokdbfpaaGreatDoor
