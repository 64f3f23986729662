/- Part 12 of what QueueSorts leans on: my own lemmas, merged by shake.py. -/
import Derived.Test.YtggjoonlcjjgkaaGreatDoorQueueSortsK
namespace Go.Proofs.YtggjoonlcjjgkaaGreatDoor
open _root_.Go.Proofs.Tryz
set_option maxHeartbeats 6400000
set_option maxRecDepth 100000
open Go.RowKit Go.Shelf Word
variable{args:Array Value}{g g':Gph}{c:HCf}{sl:Int}{M M':List (Nat × Nat)}{l:List Int}{a b d f hb k m mb n qb r s u x y:Nat}{K R:Nat->Prop}{v:Value}{w w' w0 wx:World}
section
variable{w1 w2:World}{s:HSt}
theorem QLM(h:HIn w c g s):Calls prog 19 #[pP s.A.hp] w λe w'=>e=.returned (.tuple #[iI (g.all.length:Nat),iI (g.words:Nat)])/\Gr w w':=by
 have Xv:=ι (GO h);have HW:=ι (h.memWords);obtain⟨q1,q2,-⟩:=RA h.cok;have q3:=h.cok.wd;have HX:=ι (λW=>N7 c.n Ω Ω W);have Xj:=ι (λ(W:World) (gr:Gr w W)=>R7 (h.com.rt.gr gr));have I:=ι (λ(W:World) (gr:Gr w W) (m p1 b1 p2 b2 g1 cp:Nat) (hE:Ext W m p1 b1 p2 b2 c.n []) hm ho hg1=>h.mrun gr (m:=m) (p1:=p1) (b1:=b1) (p2:=p2) (b2:=b2) (g1:=g1) (cp:=cp) hE hm ho hg1);have Xi:=ι h.com.row;have c8:=h.cc 8;have Xq:=h.com.row.lt;obtain⟨ap,Ye⟩:∃ap,ap=s.A.hp:=⟨_,rfl⟩;obtain⟨rr,Xr⟩:∃rr,rr=s.A.r:=⟨_,rfl⟩;obtain⟨qq,Xw⟩:∃qq,qq=s.A.q:=⟨_,rfl⟩;rw[<-Ye]at Xv I Xi c8 Xq⊢;rw[<-Xr]at Xj;rw[<-Xw]at HW c8;generalize (g.all.length:Nat)=na at I⊢;generalize (g.words:Nat)=nw at I⊢
 have Yb:Hid (∀W,Gr w W->W.cell? ⟨ap,9,none⟩=some (pP rr)/\W.cell? ⟨ap,5,none⟩=some (iI c.st)):=⟨λW gr=>by
  have:=Xi.o.gr gr
  exact⟨by rw[Xr];exact this.cc 9,this.cc 5⟩⟩
 have HLT:=ι Xq;clear h Ye Xr Xw q1 q2 q3 Xi Xq;go_enter func19,ntmps19
 go_upto_region 4 with first
  | (go_at_call 41;refine Xv.o.mono ?_;rintro e w1 ⟨rfl,rfl⟩)
  | (go_at_call 47;refine HW.o.mono ?_;rintro e w1 ⟨rfl,rfl⟩)
  | (go_at_call 46;refine(HX.o _).mono ?_;rintro e w3 ⟨m,p1,b1,p2,b2,rfl,Xu,Yf,Xz,Xy,Xx,Ya,Yc⟩;have N:=ι Xu;have Xm:=ι Yf;have HB:=ι (ξ Xz (ξ Xy (ξ Xx (ξ Ya Yc))));clear Xu Yf Xz Xy Xx Ya Yc)
 have Xl:Hid (∀i,AN m b1 b2 i->w.heap.size<=i/\i<w3.heap.size):=⟨λi hi=>by
  have h1:=Xm.o.hm;have h2:=Xm.o.v1.hb;have h3:=Xm.o.v2.hb;have h4:=HB.o
  rcases hi with rfl|rfl|rfl <;> omega⟩
 have Xo:Hid (∀W1 W2,Gr w3 W1->AB (AN m b1 b2) W1 W2->Gr w W2):=⟨λW1 W2 g1 t=>(((N.o.trans g1).touch (AN m b1 b2)).trans t |>.mono (T:=λ_=>False) (λk hk e=>by have:=(Xl.o k e).1;omega)).gr⟩;obtain⟨Sx,Xg⟩:∃Sx:World->Prop,Sx=λW'=>Gr w W':=⟨_,rfl⟩;have y9:∀p':AA Sx,p'.w.cell? ⟨ap,9,none⟩=some (pP rr):=λp=>(Yb.o _ (AA.get Xg p)).1;have y5:∀p':AA Sx,p'.w.cell? ⟨ap,5,none⟩=some (iI c.st):=λp=>(Yb.o _ (AA.get Xg p)).2;have Yd:Sx w3.drew:=by rw[Xg];exact N.o.drew
 have V:=ι Xg;have inst:Inhabited (AA Sx):=⟨⟨_,Yd⟩⟩;clear Xg;refine YD Sx (.two [0,1,2,3,4,5,6,8,9,10,11,12,13] 7 (.two [] 14 (.one [15,16,17] 18 (.one [] 19 (.fin [20]))) 18 (.one [] 14 (.one [15,16,17] 19 (.fin [20])))) 18 (.one [] 7 (.one [] 14 (.one [15,16,17] 19 (.fin [20]))))) Yd ?_;refine PK ?_;simp only[AF,ν,π]
 repeat(go_big_quiet_step (fail))
 refine ζb ⟨?_,?_⟩
 ·go_wp2_with(go_at_call 49;refine(Xj.o _ (N.o.trans (Gr.refl w3).drew)).mono ?_;rintro e w4 ⟨g1,cp,rfl,Xh,Xc,Xd⟩;have Y:Hid (Gr w3 w4):=⟨((Gr.refl w3).drew).trans Xh⟩;have Xs:Hid (w3.heap.size<=g1):=⟨χ ((Gr.refl w3).drew).size Xc⟩;have Xp:=ι Xd;clear Xd Xc);have Xn:Hid (∀W,Gr w4 W->Calls prog 48 #[.iface 101 (.agg #[pP ap]),.slice (some ⟨g1,0,none⟩) (s.rs g).length cp,pP m,iI c.st] W λe w'=>(∃r vi:Int,e=.returned (.tuple #[.agg #[iI (na:Nat),iI (nw:Nat),iI r,iI vi],iI 0]))/\AB (AN m b1 b2) W w'):=⟨λW gW=>I.o W (N.o.trans (Y.o.trans gW)) m p1 b1 p2 b2 g1 cp (Xm.o.gr (Y.o.trans gW)) HB.o (CM Xp.o gW) (λe=>by have:=(Xl.o _ e).2;have:=Xs.o;omega)⟩;have B:Hid (∀W W2,Gr w4 W->AB (AN m b1 b2) W W2->Gr w W2):=⟨λW W2 g1 t=>Xo.o W W2 (Y.o.trans g1) t⟩;have Xa:Hid (Gr w w4):=⟨N.o.trans Y.o⟩;refine⟨AA.of (by rw[V.o];exact Xa.o),?_⟩;refine PK ?_;simp only[AF,ν,π]
  repeat(go_big_quiet_step (fail))
  refine ζb ⟨?_,?_⟩
  ·go_wp2_with(go_at_call 48;refine(Xn.o _ (Gr.refl w4)).mono ?_;rintro e w5 ⟨⟨rv,vi,rfl⟩,L⟩;have G:=ι L;clear L);have Z:Hid (Gr w w5):=⟨B.o _ _ (Gr.refl w4) G.o⟩;refine⟨AA.of (by rw[V.o];exact Z.o),?_⟩;refine G2 ?_;go_wp2;refine⟨AA.of (by rw[V.o];exact Z.o.alloc _),?_⟩;refine G2 ?_;go_wp2;refine⟨AA.of (by rw[V.o];exact Z.o.alloc _),?_⟩;refine LK ?_;obtain⟨x,hx⟩:∃x,x=w5.heap.size:=⟨_,rfl⟩;rw[<-hx];obtain⟨WX,U⟩:∃WX,WX=w5.alloc (.cells #[.int .i64 (na:Nat),.int .i64 (nw:Nat),.int .i64 rv,.int .i64 vi] 97):=⟨_,rfl⟩;have Xb:Hid (Gr w WX):=⟨by rw[U];exact Z.o.alloc _⟩;have rx:Rec WX x 97 [iI (na:Nat),iI (nw:Nat),iI rv,iI vi]:=by rw[U];exact hx▸Rec.new w5 97 [iI (na:Nat),iI (nw:Nat),iI rv,iI vi]
   rw[<-U];obtain⟨k0,k1,kl⟩:=rx.k2;clear U rx hx;go_wp2;go_quiet (fail);go_wp2;go_ret2;exact⟨rfl,Xb.o.drewN _⟩
  ·go_wp2;obtain⟨WB,O⟩:∃WB,WB=w4.alloc (.cells #[.int .i64 0,.int .i64 0,.int .i64 0,.int .i64 0] 97):=⟨_,rfl⟩;obtain⟨x,hx⟩:∃x,x=w4.heap.size:=⟨_,rfl⟩;have E:Hid (Gr w4 WB):=⟨by rw[O];exact(Gr.refl w4).alloc _⟩;have Xt:Hid (Rec WB x 97 [iI 0,iI 0,iI 0,iI 0]):=⟨by rw[O,hx];exact Rec.new w4 97 [iI 0,iI 0,iI 0,iI 0]⟩;rw[<-O,<-hx];have Xe:Hid (w3.heap.size<=x):=⟨by rw[hx];exact Y.o.size⟩;clear O hx;refine⟨AA.of (by rw[V.o];exact Xa.o.trans E.o),?_⟩;refine G2 ?_;go_wp2_with(go_at_call 48;refine(Xn.o _ (E.o)).mono ?_;rintro e w5 ⟨⟨rv,vi,rfl⟩,L⟩;have G:=ι L;clear L);have Z:Hid (Gr w w5):=⟨B.o _ _ E.o G.o⟩;have Xf:=Xt;have J:=ι (Xf.o.touch G.o (λe=>by have:=(Xl.o _ e).2;have:=Xe.o;omega));have q0:=J.o.cc 0;have q1:=J.o.cc 1;have q2:=J.o.cc 2;have q3:=J.o.cc 3;have qf:=J.o.free;have ql:=J.o.lt;have Xk:Hid (Gr w ((((w5.setCell ⟨x,0,none⟩ (.int .i64 (na:Nat))).setCell ⟨x,1,none⟩ (.int .i64 (nw:Nat))).setCell ⟨x,2,none⟩ (.int .i64 rv)).setCell ⟨x,3,none⟩ (.int .i64 vi))):=⟨((Z.o.touch (λk=>k=x)).trans ((((((AB.refl (λk=>k=x) w5).setCell (a:=⟨x,0,none⟩) (λ_=>rfl) _).setCell (a:=⟨x,1,none⟩) (λ_=>rfl) _).setCell (a:=⟨x,2,none⟩) (λ_=>rfl) _).setCell (a:=⟨x,3,none⟩) (λ_=>rfl) _)) |>.mono (T:=λ_=>False) (λk hk e=>by have e:k=x:=e;have:=Xe.o;have:=N.o.size;omega)).gr⟩;refine⟨AA.of (by rw[V.o];exact Z.o),?_⟩;refine G2 ?_;go_wp2;refine⟨AA.of (by rw[V.o];exact Xk.o),?_⟩;refine LK ?_;clear q0 q1 q2 q3 qf ql;obtain⟨WX,U⟩:∃WX,WX=(((w5.setCell ⟨x,0,none⟩ (.int .i64 (na:Nat))).setCell ⟨x,1,none⟩ (.int .i64 (nw:Nat))).setCell ⟨x,2,none⟩ (.int .i64 rv)).setCell ⟨x,3,none⟩ (.int .i64 vi):=⟨_,rfl⟩;have Xb:Hid (Gr w WX):=⟨by rw[U];exact Xk.o⟩;have rx:Rec WX x 97 [iI (na:Nat),iI (nw:Nat),iI rv,iI vi]:=by rw[U];exact((((J.o.set 0 (iI (na:Nat))).set 1 (iI (nw:Nat))).set 2 (iI rv)).set 3 (iI vi))
   rw[<-U];obtain⟨k0,k1,kl⟩:=rx.k2;clear U rx;go_wp2;go_quiet (fail);go_wp2;go_ret2;exact⟨rfl,Xb.o.drewN _⟩
 ·go_wp2;obtain⟨WB,O⟩:∃WB,WB=(w3.alloc (.cells #[.int .i64 0,.int .i64 0,.int .i64 0,.int .i64 0] 97)).drew:=⟨_,rfl⟩;obtain⟨x,hx⟩:∃x,x=w3.heap.size:=⟨_,rfl⟩;have E:Hid (Gr w3 WB):=⟨by rw[O];exact((Gr.refl w3).alloc _).drew⟩;have Xt:Hid (Rec WB x 97 [iI 0,iI 0,iI 0,iI 0]):=⟨by rw[O,hx];exact Rec.new w3 97 [iI 0,iI 0,iI 0,iI 0]⟩;rw[<-O,<-hx];have Xe:Hid (w3.heap.size<=x):=⟨by rw[hx];exact ϑ _⟩;clear O hx;refine⟨AA.of (by rw[V.o];exact N.o.trans E.o),?_⟩;refine G2 ?_;go_wp2_with(go_at_call 49;refine(Xj.o _ (N.o.trans E.o)).mono ?_;rintro e w4 ⟨g1,cp,rfl,Xh,Xc,Xd⟩;have Y:Hid (Gr w3 w4):=⟨E.o.trans Xh⟩;have Xs:Hid (w3.heap.size<=g1):=⟨χ E.o.size Xc⟩;have Xp:=ι Xd;have Xf:=ι (Xt.o.gr Xh);clear Xd Xc Xh);have Xn:Hid (∀W,Gr w4 W->Calls prog 48 #[.iface 101 (.agg #[pP ap]),.slice (some ⟨g1,0,none⟩) (s.rs g).length cp,pP m,iI c.st] W λe w'=>(∃r vi:Int,e=.returned (.tuple #[.agg #[iI (na:Nat),iI (nw:Nat),iI r,iI vi],iI 0]))/\AB (AN m b1 b2) W w'):=⟨λW gW=>I.o W (N.o.trans (Y.o.trans gW)) m p1 b1 p2 b2 g1 cp (Xm.o.gr (Y.o.trans gW)) HB.o (CM Xp.o gW) (λe=>by have:=(Xl.o _ e).2;have:=Xs.o;omega)⟩;have B:Hid (∀W W2,Gr w4 W->AB (AN m b1 b2) W W2->Gr w W2):=⟨λW W2 g1 t=>Xo.o W W2 (Y.o.trans g1) t⟩;have Xa:Hid (Gr w w4):=⟨N.o.trans Y.o⟩;refine⟨AA.of (by rw[V.o];exact Xa.o),?_⟩;refine G2 ?_;go_wp2_with(go_at_call 48;refine(Xn.o _ (Gr.refl w4)).mono ?_;rintro e w5 ⟨⟨rv,vi,rfl⟩,L⟩;have G:=ι L;clear L);have Z:Hid (Gr w w5):=⟨B.o _ _ (Gr.refl w4) G.o⟩;have J:=ι (Xf.o.touch G.o (λe=>by have:=(Xl.o _ e).2;have:=Xe.o;omega));have q0:=J.o.cc 0;have q1:=J.o.cc 1;have q2:=J.o.cc 2;have q3:=J.o.cc 3;have qf:=J.o.free;have ql:=J.o.lt;have Xk:Hid (Gr w ((((w5.setCell ⟨x,0,none⟩ (.int .i64 (na:Nat))).setCell ⟨x,1,none⟩ (.int .i64 (nw:Nat))).setCell ⟨x,2,none⟩ (.int .i64 rv)).setCell ⟨x,3,none⟩ (.int .i64 vi))):=⟨((Z.o.touch (λk=>k=x)).trans ((((((AB.refl (λk=>k=x) w5).setCell (a:=⟨x,0,none⟩) (λ_=>rfl) _).setCell (a:=⟨x,1,none⟩) (λ_=>rfl) _).setCell (a:=⟨x,2,none⟩) (λ_=>rfl) _).setCell (a:=⟨x,3,none⟩) (λ_=>rfl) _)) |>.mono (T:=λ_=>False) (λk hk e=>by have e:k=x:=e;have:=Xe.o;have:=N.o.size;omega)).gr⟩;refine⟨AA.of (by rw[V.o];exact Z.o),?_⟩;refine G2 ?_;go_wp2;refine⟨AA.of (by rw[V.o];exact Xk.o),?_⟩;refine LK ?_;clear q0 q1 q2 q3 qf ql;obtain⟨WX,U⟩:∃WX,WX=(((w5.setCell ⟨x,0,none⟩ (.int .i64 (na:Nat))).setCell ⟨x,1,none⟩ (.int .i64 (nw:Nat))).setCell ⟨x,2,none⟩ (.int .i64 rv)).setCell ⟨x,3,none⟩ (.int .i64 vi):=⟨_,rfl⟩;have Xb:Hid (Gr w WX):=⟨by rw[U];exact Xk.o⟩;have rx:Rec WX x 97 [iI (na:Nat),iI (nw:Nat),iI rv,iI vi]:=by rw[U];exact((((J.o.set 0 (iI (na:Nat))).set 1 (iI (nw:Nat))).set 2 (iI rv)).set 3 (iI vi))
  rw[<-U];obtain⟨k0,k1,kl⟩:=rx.k2;clear U rx;go_wp2;go_quiet (fail);go_wp2;go_ret2;exact⟨rfl,Xb.o.drewN _⟩
end
def HLo(w0:World)(K:Nat->Prop)(c:HCf)(hb:Nat)(w:World)(v:Value)(g':Gph)(e:Ending)(w':World):Prop:=e=.returned v/\AB (hlT w0 K) w w'/\HLv w0 K c hb g' w'
section
variable{f:FuncId}
theorem HLv.of_op(h:HLv w0 K c hb g w)(hc:∀s:HSt,s.A.hp=hb->HIn w c g s->(s.o=none↔s.lf=0)->Calls prog f args w λe w'=>e=.returned v/\HOp w c s g' w'):Calls prog f args w (HLo w0 K c hb w v g'):=by
 obtain⟨h1,⟨s,e1,e2,e3,e4⟩,h3⟩:=h;refine(hc s e1 e2 e3).mono ?_;rintro e w' ⟨rfl,s',r,-⟩;exact⟨rfl,HLv.res h1 h3 e1 e4 r⟩
theorem HLv.getW(h:HLv w0 K c hb g w)(a i:Int):Calls prog 65 #[pP hb,iI a,iI i] w (HLo w0 K c hb w (.tuple #[uU (g.fdV a i 3:Nat),iI (g.fdE a i 3)]) g):=h.of_op (λ_ e1 e2 e3=>e1▸J4u e2 e3 a i)
theorem HLv.getF(h:HLv w0 K c hb g w)(a i:Int):Calls prog 64 #[pP hb,iI a,iI i] w (HLo w0 K c hb w (.tuple #[.float .f64 (g.fdV a i 2),iI (g.fdE a i 2)]) g):=h.of_op (λ_ e1 e2 e3=>e1▸QNL e2 e3 a i)
theorem HLv.setW(h:HLv w0 K c hb g w)(a i:Int)(hx:x<18446744073709551616):Calls prog 34 #[pP hb,iI a,iI i,uU x] w (HLo w0 K c hb w (iI (g.fdE a i 3)) (g.wrG a i 3 x)):=h.of_op (λ_ e1 e2 e3=>e1▸Vld e2 e3 a i hx)
theorem HLv.setF(h:HLv w0 K c hb g w)(a i:Int)(hx:x<18446744073709551616):Calls prog 33 #[pP hb,iI a,iI i,.float .f64 x] w (HLo w0 K c hb w (iI (g.fdE a i 2)) (g.wrG a i 2 x)):=h.of_op (λ_ e1 e2 e3=>e1▸Xe2 e2 e3 a i hx)
theorem HLv.load(h:HLv w0 K c hb g w)(a b i:Int):Calls prog 25 #[pP hb,iI a,iI b,iI i] w (HLo w0 K c hb w (iI (g.loE a b i)) (g.loG a b i)):=h.of_op (λ_ e1 e2 e3=>e1▸V9V e2 e3 a b i)
theorem HLv.stor(h:HLv w0 K c hb g w)(a i b:Int):Calls prog 59 #[pP hb,iI a,iI i,iI b] w (HLo w0 K c hb w (iI (g.stE a i b)) (g.stG a i b)):=h.of_op (λ_ e1 e2 e3=>e1▸QmE e2 e3 a i b)
theorem HLv.copy(h:HLv w0 K c hb g w)(a b:Int):Calls prog 60 #[pP hb,iI a,iI b] w (HLo w0 K c hb w (iI (g.two a b 0)) (g.cpG a b)):=h.of_op (λ_ e1 e2 e3=>e1▸Xxc e2 e3 a b)
theorem HLv.clr(h:HLv w0 K c hb g w)(a:Int):Calls prog 23 #[pP hb,iI a] w (HLo w0 K c hb w (iI (g.slE a)) (g.clG a)):=h.of_op (λ_ e1 e2 e3=>e1▸JfK e2 e3 a)
theorem HLv.shap(h:HLv w0 K c hb g w)(a:Int):Calls prog 61 #[pP hb,iI a] w (HLo w0 K c hb w (.tuple #[AK (g.shH a),iI (g.shE a)]) g):=h.of_op (λ_ e1 e2 e3=>e1▸VcO e2 e3 a)
theorem HLv.allo(h:HLv w0 K c hb g w)(a:Int)(x:Hdr):Calls prog 32 #[pP hb,iI a,AK x] w (HLo w0 K c hb w (iI (g.alE c.wd a x)) (g.alG c.wd a x)):=h.alloc a x
theorem HLv.same0(h:HLv w0 K c hb g w)(v:Value):HLo w0 K c hb w v g (.returned v) w:=⟨rfl,AB.refl _ _,h⟩
theorem HLv.step(h:HLv w0 K c hb g w):Calls prog 15 #[pP hb] w λe w'=>∃b:Bool,HLo w0 K c hb w (.bool b) g e w':=by
 have h':=h;obtain⟨h1,⟨s,e1,e2,e3,e4⟩,h3⟩:=h;by_cases hl:s.lf=0
 ·have hc:=ZL e2 e3 hl;rw[e1]at hc;refine hc.mono ?_;rintro e w' ⟨rfl,rfl⟩;exact⟨_,h'.same0 _⟩
 ·have hc:=V2 e2 e3 hl;rw[e1]at hc;refine hc.mono ?_;rintro e w' ⟨rfl,s',r,-⟩;exact⟨_,rfl,HLv.res h1 h3 e1 e4 r⟩
theorem HLv.live(h:HLv w0 K c hb g w):Calls prog 19 #[pP hb] w (HLo w0 K c hb w (.tuple #[iI (g.all.length:Nat),iI (g.words:Nat)]) g):=by
 have h':=h;obtain⟨h1,⟨s,e1,e2,e3,e4⟩,h3⟩:=h;have hc:=QLM e2;rw[e1]at hc;refine hc.mono ?_;rintro e w' ⟨rfl,hg⟩;exact⟨rfl,hg.touch _,h'.get hg⟩
end
section
variable{s:HSt}
theorem HIn.fd_lt(h:HIn w c g s)(a i kd:Int)(hk:kd=2\/kd=3):g.fdV a i kd<18446744073709551616:=by
 unfold Gph.fdV
 split
 ·rename_i he;unfold Gph.fdE at he
  split at he
  ·rename_i h1
   split at he
   ·exact absurd he (by decide)
   ·rename_i h2
    split at he
    ·exact absurd he (by decide)
    ·rename_i h3
     split at he
     ·rename_i h4;have hr:g.Rd (g.at a):=(Gph.at_ro h1).resolve_left h2;have hb:=h.gok.rd hr;obtain⟨hl,hs⟩:=h.gok.len _ (Gph.ob_mem hb.1 hb.2);have hN:B9 (g.ob (g.at a)).hdr=1+((g.ob (g.at a)).p:Int)+(g.ob (g.at a)).f+(g.ob (g.at a)).k:=θ (EF hs);rw[<-h4]at hk;unfold BK at hk;rw[hN]at hk
      split at hk
      ·rename_i h5
       split at hk
       ·omega
       ·rename_i h6;have h6:¬i<((g.ob (g.at a)).p:Int):=h6;have hw:=h.img.wd _ hr i.toNat Ω Ω;have h9:=h.mem.ok.ldV_lt ((s.F (g.at a)+1+i.toNat:Nat):Int);rw[hw.2]at h9;exact h9
      ·omega
     ·exact absurd he (by decide)
  ·exact absurd he (by decide)
 ·decide
theorem HLv.fd_lt(h:HLv w0 K c hb g w)(a i kd:Int)(hk:kd=2\/kd=3):g.fdV a i kd<18446744073709551616:=by
 obtain⟨h1,⟨s,e1,e2,e3,e4⟩,h3⟩:=h;exact e2.fd_lt a i kd hk
end
def quL(hb r a b t d s n:Nat):List Value:=[pP hb,iI r,iI a,iI b,iI t,iI d,iI s,iI n]
structure A4(w0:World)(K:Nat->Prop)(c:HCf)(hb qb r a b t d s n:Nat)(g:Gph)(w:World):Prop where
 hv:HLv w0 K c hb g w
 row:Rec w qb 63 (quL hb r a b t d s n)
 kl:K qb
 ql:w0.heap.size<=qb
 tb:1<w0.heap.size
section
variable{t:Nat}
theorem A4.next(h:A4 w0 K c hb qb r a b t d s n g w)(t':AB (hlT w0 K) w w')(hl:HLv w0 K c hb g' w'):A4 w0 K c hb qb r a b t d s n g' w':=⟨hl,h.row.touch t' (λe=>e.2 h.kl),h.kl,h.ql,h.tb⟩
theorem A4.gr(h:A4 w0 K c hb qb r a b t d s n g w)(gr:Gr w w'):A4 w0 K c hb qb r a b t d s n g w':=⟨h.hv.get gr,h.row.gr gr,h.kl,h.ql,h.tb⟩
theorem A4.nx{e:Ending}(h:A4 w0 K c hb qb r a b t d s n g w)(t':AB (hlT w0 K) wx w)(ho:HLo w0 K c hb w v g' e w'):e=.returned v/\Hid (AB (hlT w0 K) wx w')/\Hid (A4 w0 K c hb qb r a b t d s n g' w')/\w'.cell? ⟨qb,0,none⟩=some (pP hb)/\qb<w'.heap.size:=by
 obtain⟨rfl,ht,hl⟩:=ho;have hq:=h.next ht hl
 exact⟨rfl,⟨t'.trans ht⟩,⟨hq⟩,hq.row.cc 0,hq.row.lt⟩
theorem NB(h:A4 w0 K c hb qb r a b t d s n g w):cQ 30 #[pP qb] w (.bool false):=by
 have c0:w.cell? ⟨qb,0,none⟩=some (pP hb):=h.row.cc 0;clear h;go_enter func30,ntmps30;go_wp2;go_ret;exact⟨rfl,rfl⟩
theorem FR(h:A4 w0 K c hb qb r a b t d s n g w){v:Bool}(hv:(g.shE x==0)=v):Calls prog 27 #[pP qb,iI x] w (HLo w0 K c hb w (.bool v) (g)):=by
 have HQ:=ι h;have HT:=ι (AB.refl (hlT w0 K) w);have c0:w.cell? ⟨qb,0,none⟩=some (pP hb):=h.row.cc 0;have cl:=h.row.lt;clear h;unfold HLo;have Y:=ι (λ(V:World) (hV:A4 w0 K c hb qb r a b t d s n g V)=>hV.hv.shap x);unfold AK at Y;generalize g.shE x=E at Y hv;generalize (g.shH x).p=h1 at Y;generalize (g.shH x).f=h2 at Y;generalize (g.shH x).k=h3 at Y;go_enter func27,ntmps27;go_wp2_with(go_at_call 61;refine(Y.o _ HQ.o).mono ?_;intro e w1 ho;have hn:=HQ.o.nx HT.o ho;clear HT HQ c0 cl ho;obtain⟨rfl,HT,HQ,c0,cl⟩:=hn);go_ret;exact⟨rfl,HT.o.trans (((Gr.refl _).alloc _).touch _),HQ.o.hv.get ((Gr.refl _).alloc _)⟩
theorem TE(h:A4 w0 K c hb qb r a b t d s n g w)(x:Nat):Calls prog 31 #[pP qb,iI x] w (HLo w0 K c hb w (.tuple #[.float .f64 (g.fdV x 2 2),uU (g.fdV x 3 3:Nat)]) (g)):=by
 have HQ:=ι h;have HT:=ι (AB.refl (hlT w0 K) w);have c0:w.cell? ⟨qb,0,none⟩=some (pP hb):=h.row.cc 0;have cl:=h.row.lt;clear h;unfold HLo;have Z:=ι (λ(V:World) (hV:A4 w0 K c hb qb r a b t d s n g V)=>hV.hv.getW x 3);have Y:=ι (λ(V:World) (hV:A4 w0 K c hb qb r a b t d s n g V)=>hV.hv.getF x 2);generalize g.fdV x 3 3=u at Z⊢;generalize g.fdE x 3 3=e1 at Z;generalize g.fdV x 2 2=y at Y⊢;generalize g.fdE x 2 2=e2 at Y;go_enter func31,ntmps31
 go_wp2_with(first
  | (go_at_call 64;refine(Y.o _ HQ.o).mono ?_;intro e w1 ho;have hn:=HQ.o.nx HT.o ho;clear HT HQ c0 cl ho;obtain⟨rfl,HT,HQ,c0,cl⟩:=hn)
  | (go_at_call 65;refine(Z.o _ HQ.o).mono ?_;intro e w1 ho;have hn:=HQ.o.nx HT.o ho;clear HT HQ c0 cl ho;obtain⟨rfl,HT,HQ,c0,cl⟩:=hn))
 go_ret2;exact⟨rfl,HT.o,HQ.o.hv⟩
theorem VC(x y:Nat)(w:World):cQ 17 #[.float .f64 x,.float .f64 y] w (.bool (x==y)):=by
 have hb:((x:Int)==(y:Int))=(x==y):=by
  cases h:x==y
  ·rw[ζy]at h⊢;omega
  ·rw[ζ0]at h⊢;omega
 go_enter func17,ntmps17;go_wp2_with(go_at_call 18;refine AJ (JR _ _) ?_);go_ret;exact⟨rfl,rfl⟩
theorem VHg(h:A4 w0 K c hb qb r a b t d s n g w)(x y:Nat){v:Bool}(hv:MT g x y=v):Calls prog 62 #[pP qb,iI x,iI y] w (HLo w0 K c hb w (.bool v) (g)):=by
 have HQ:=ι h;have HT:=ι (AB.refl (hlT w0 K) w);have c0:w.cell? ⟨qb,0,none⟩=some (pP hb):=h.row.cc 0;have cl:=h.row.lt;unfold HLo;have HX:=ι (λ(V:World) (hV:A4 w0 K c hb qb r a b t d s n g V)=>TE hV x);have HY:=ι (λ(V:World) (hV:A4 w0 K c hb qb r a b t d s n g V)=>TE hV y);have l1:=h.hv.fd_lt x 2 2 (.inl rfl);have l2:=h.hv.fd_lt y 2 2 (.inl rfl);unfold MT leQ at hv;dsimp only at hv;generalize g.fdV x 3 3=u at HX hv;generalize g.fdV x 2 2=f at HX hv l1;generalize g.fdV y 3 3=u' at HY hv;generalize g.fdV y 2 2=f' at HY hv l2;have HB:=ι (λW=>ZZy f f' l1 l2 W);have HS:=ι (λW=>VC f f' W);generalize E9 f f'=b1 at HB hv;generalize (f==f')=b2 at HS hv
 have hd:decide ((u:Int)<=(u':Int))=decide (u<=u'):=by
  by_cases h:u<=u'
  ·rw[φ h,φ Ω]
  ·rw[ζ h,ζ Ω]
 generalize hd2:decide (u<=u')=b3 at hd hv;clear h l1 l2;cases b1 <;> cases b2 <;> cases b3
 all_goals
  first
   | (obtain rfl:v=true:=hv.symm)
   | (obtain rfl:v=false:=hv.symm)
  clear hv;go_enter func62,ntmps62
  go_wp2_with(first
   | (go_at_call 17;refine AJ (HS.o _) ?_)
   | (go_at_call 16;refine AJ (HB.o _) ?_)
   | (go_at_call 31;(with_reducible refine(HY.o _ HQ.o).mono ?_);intro e w1 ho;have hn:=HQ.o.nx HT.o ho;clear HT HQ c0 cl ho HX;obtain⟨rfl,HT,HQ,c0,cl⟩:=hn)
   | (go_at_call 31;(with_reducible refine(HX.o _ HQ.o).mono ?_);intro e w1 ho;have hn:=HQ.o.nx HT.o ho;clear HT HQ c0 cl ho;obtain⟨rfl,HT,HQ,c0,cl⟩:=hn))
  go_ret;exact⟨by first|rfl|(rw[hd2];rfl),HT.o,HQ.o.hv⟩
theorem V4R(h:A4 w0 K c hb qb r a b t d s n g w)(x y:Nat):Calls prog 63 #[pP qb,iI x,iI y] w (HLo w0 K c hb w (.tuple #[]) (GT s x y g)):=by
 have HQ:=ι h;have HT:=ι (AB.refl (hlT w0 K) w);have c0:w.cell? ⟨qb,0,none⟩=some (pP hb):=h.row.cc 0;have cl:=h.row.lt;clear h;unfold HLo;unfold GT;go_enter func63,ntmps63;go_upto_region 0 with(fail);clear c0 cl;obtain⟨Sx,Y,HS⟩:=AA.start λW'=>Rec W' qb 63 (quL hb r a b t d s n);have y0:∀p:AA Sx,p.w.cell? ⟨qb,0,none⟩=some (pP hb):=λp=>by have h:=AA.get Y p;exact h.cc 0
 have y6:∀p:AA Sx,p.w.cell? ⟨qb,6,none⟩=some (iI s):=λp=>by have h:=AA.get Y p;exact h.cc 6
 have Z:=HS.o _ (HQ.o.row.gr (Gr.refl _).drew);have J:Inhabited (AA Sx):=⟨⟨_,Z⟩⟩;clear Y;refine AW Sx 9 [([0,1,2,3,4,5,6,7,8],9)] [] Z ?_;refine AI ?_;go_wp2_with((go_at_call 25;refine((HQ.o.gr (Gr.refl _).drew).hv.load _ _ _).mono ?_;intro e w1 ho;have hn:=(HQ.o.gr (Gr.refl _).drew).nx (HT.o.trans ((Gr.refl _).drew.touch _)) ho;clear HT HQ ho;obtain⟨rfl,HT,HQ,c0,cl⟩:=hn));refine⟨.inl trivial,?_⟩;refine BH ?_;clear y0 y6 Z J;clear HS Sx;go_upto_region 1 with(fail);clear c0 cl;obtain⟨Sx,Y,HS⟩:=AA.start λW'=>Rec W' qb 63 (quL hb r a b t d s n);have y0:∀p:AA Sx,p.w.cell? ⟨qb,0,none⟩=some (pP hb):=λp=>by have h:=AA.get Y p;exact h.cc 0
 have y6:∀p:AA Sx,p.w.cell? ⟨qb,6,none⟩=some (iI s):=λp=>by have h:=AA.get Y p;exact h.cc 6
 have Z:=HS.o _ (HQ.o.row.gr (Gr.refl _).drew);have J:Inhabited (AA Sx):=⟨⟨_,Z⟩⟩;clear Y;refine AW Sx 9 [([0,1,2,3,4,5,6,7,8],9)] [] Z ?_;refine AI ?_;go_wp2_with((go_at_call 59;refine((HQ.o.gr (Gr.refl _).drew).hv.stor _ _ _).mono ?_;intro e w1 ho;have hn:=(HQ.o.gr (Gr.refl _).drew).nx (HT.o.trans ((Gr.refl _).drew.touch _)) ho;clear HT HQ ho;obtain⟨rfl,HT,HQ,c0,cl⟩:=hn));refine⟨.inl trivial,?_⟩;refine BH ?_;clear y0 y6 Z J;clear HS Sx;go_upto_region 3 with(go_at_call 59;refine(HQ.o.hv.stor _ _ _).mono ?_;intro e w1 ho;have hn:=HQ.o.nx HT.o ho;clear HT HQ c0 cl ho;obtain⟨rfl,HT,HQ,c0,cl⟩:=hn);clear c0 cl;obtain⟨Sx,Y,HS⟩:=AA.start λW'=>Rec W' qb 63 (quL hb r a b t d s n);have y0:∀p:AA Sx,p.w.cell? ⟨qb,0,none⟩=some (pP hb):=λp=>by have h:=AA.get Y p;exact h.cc 0
 have y6:∀p:AA Sx,p.w.cell? ⟨qb,6,none⟩=some (iI s):=λp=>by have h:=AA.get Y p;exact h.cc 6
 have Z:=HS.o _ (HQ.o.row.gr (Gr.refl _).drew);have J:Inhabited (AA Sx):=⟨⟨_,Z⟩⟩;clear Y;refine AW Sx 8 [([0,1,2,3,4,5,6,7],8)] [] Z ?_;refine AI ?_;go_wp2_with((go_at_call 23;refine((HQ.o.gr (Gr.refl _).drew).hv.clr _).mono ?_;intro e w1 ho;have hn:=(HQ.o.gr (Gr.refl _).drew).nx (HT.o.trans ((Gr.refl _).drew.touch _)) ho;clear HT HQ ho;obtain⟨rfl,HT,HQ,c0,cl⟩:=hn));refine⟨.inl trivial,?_⟩;refine BH ?_;clear y0 y6 Z J;clear HS Sx;go_wp2
 go_end0
 exact⟨rfl,HT.o,HQ.o.hv⟩
theorem TP(h:A4 w0 K c hb qb r a b t d s n g w)(x y:Nat):Calls prog 29 #[pP qb,iI x,iI y] w (HLo w0 K c hb w (.tuple #[]) (FD s x y g)):=by
 have HQ:=ι h;have HT:=ι (AB.refl (hlT w0 K) w);have c0:w.cell? ⟨qb,0,none⟩=some (pP hb):=h.row.cc 0;have cl:=h.row.lt;clear h;unfold HLo;unfold FD;by_cases hy:g.shE y=0
 ·rw[θ hy];have HY:=ι (show (g.shE y==0)=true from ζ0.2 hy);by_cases hx:g.shE x=0
  ·rw[θ hx];have HX:=ι (show (g.shE x==0)=true from ζ0.2 hx);clear hx hy;cases hq:MT g x y with
   | true=>
    have HF:=ι hq;clear hq;rw[θ rfl];go_enter func29,ntmps29
    go_wp2_with(first
     | (go_at_call 62;refine(VHg HQ.o x y HF.o).mono ?_;intro e w1 ho;have hn:=HQ.o.nx HT.o ho;clear HT HQ c0 cl ho;obtain⟨rfl,HT,HQ,c0,cl⟩:=hn)
     | (go_at_call 63;refine(V4R HQ.o y x).mono ?_;intro e w1 ho;have hn:=HQ.o.nx HT.o ho;clear HT HQ c0 cl ho;obtain⟨rfl,HT,HQ,c0,cl⟩:=hn)
     | (go_at_call 23;refine(HQ.o.hv.clr _).mono ?_;intro e w1 ho;have hn:=HQ.o.nx HT.o ho;clear HT HQ c0 cl ho;obtain⟨rfl,HT,HQ,c0,cl⟩:=hn)
     | (go_at_call 27;(with_reducible refine(FR (x:=x) HQ.o HX.o).mono ?_);intro e w1 ho;have hn:=HQ.o.nx HT.o ho;clear HT HQ c0 cl ho;obtain⟨rfl,HT,HQ,c0,cl⟩:=hn)
     | (go_at_call 27;(with_reducible refine(FR (x:=y) HQ.o HY.o).mono ?_);intro e w1 ho;have hn:=HQ.o.nx HT.o ho;clear HT HQ c0 cl ho;obtain⟨rfl,HT,HQ,c0,cl⟩:=hn))
    go_end0
    exact⟨rfl,HT.o,HQ.o.hv⟩
   | false=>
    have HF:=ι hq;clear hq;rw[ψ (by decide)];go_enter func29,ntmps29
    go_wp2_with(first
     | (go_at_call 62;refine(VHg HQ.o x y HF.o).mono ?_;intro e w1 ho;have hn:=HQ.o.nx HT.o ho;clear HT HQ c0 cl ho;obtain⟨rfl,HT,HQ,c0,cl⟩:=hn)
     | (go_at_call 63;refine(V4R HQ.o x y).mono ?_;intro e w1 ho;have hn:=HQ.o.nx HT.o ho;clear HT HQ c0 cl ho;obtain⟨rfl,HT,HQ,c0,cl⟩:=hn)
     | (go_at_call 60;refine(HQ.o.hv.copy _ _).mono ?_;intro e w1 ho;have hn:=HQ.o.nx HT.o ho;clear HT HQ c0 cl ho;obtain⟨rfl,HT,HQ,c0,cl⟩:=hn)
     | (go_at_call 23;refine(HQ.o.hv.clr _).mono ?_;intro e w1 ho;have hn:=HQ.o.nx HT.o ho;clear HT HQ c0 cl ho;obtain⟨rfl,HT,HQ,c0,cl⟩:=hn)
     | (go_at_call 27;(with_reducible refine(FR (x:=x) HQ.o HX.o).mono ?_);intro e w1 ho;have hn:=HQ.o.nx HT.o ho;clear HT HQ c0 cl ho;obtain⟨rfl,HT,HQ,c0,cl⟩:=hn)
     | (go_at_call 27;(with_reducible refine(FR (x:=y) HQ.o HY.o).mono ?_);intro e w1 ho;have hn:=HQ.o.nx HT.o ho;clear HT HQ c0 cl ho;obtain⟨rfl,HT,HQ,c0,cl⟩:=hn))
    go_end0
    exact⟨rfl,HT.o,HQ.o.hv⟩
  ·rw[ψ hx];have HX:=ι (show (g.shE x==0)=false from ζy.2 hx);clear hx hy;go_enter func29,ntmps29
   go_wp2_with(first
    | (go_at_call 60;refine(HQ.o.hv.copy _ _).mono ?_;intro e w1 ho;have hn:=HQ.o.nx HT.o ho;clear HT HQ c0 cl ho;obtain⟨rfl,HT,HQ,c0,cl⟩:=hn)
    | (go_at_call 23;refine(HQ.o.hv.clr _).mono ?_;intro e w1 ho;have hn:=HQ.o.nx HT.o ho;clear HT HQ c0 cl ho;obtain⟨rfl,HT,HQ,c0,cl⟩:=hn)
    | (go_at_call 27;(with_reducible refine(FR (x:=x) HQ.o HX.o).mono ?_);intro e w1 ho;have hn:=HQ.o.nx HT.o ho;clear HT HQ c0 cl ho;obtain⟨rfl,HT,HQ,c0,cl⟩:=hn)
    | (go_at_call 27;(with_reducible refine(FR (x:=y) HQ.o HY.o).mono ?_);intro e w1 ho;have hn:=HQ.o.nx HT.o ho;clear HT HQ c0 cl ho;obtain⟨rfl,HT,HQ,c0,cl⟩:=hn))
   go_end0
   exact⟨rfl,HT.o,HQ.o.hv⟩
 ·rw[ψ hy];have HY:=ι (show (g.shE y==0)=false from ζy.2 hy);clear hy;go_enter func29,ntmps29
  go_wp2_with(first
   | (go_at_call 23;refine(HQ.o.hv.clr _).mono ?_;intro e w1 ho;have hn:=HQ.o.nx HT.o ho;clear HT HQ c0 cl ho;obtain⟨rfl,HT,HQ,c0,cl⟩:=hn)
   | (go_at_call 27;(with_reducible refine(FR (x:=y) HQ.o HY.o).mono ?_);intro e w1 ho;have hn:=HQ.o.nx HT.o ho;clear HT HQ c0 cl ho;obtain⟨rfl,HT,HQ,c0,cl⟩:=hn))
  go_end0
  exact⟨rfl,HT.o,HQ.o.hv⟩
theorem WH(h:A4 w0 K c hb qb r a b t d s n g w)(x y:Nat):Calls prog 28 #[pP qb,iI x,iI y] w (HLo w0 K c hb w (.tuple #[]) (C8 s x y g)):=by
 have HQ:=ι h;have HT:=ι (AB.refl (hlT w0 K) w);have c0:w.cell? ⟨qb,0,none⟩=some (pP hb):=h.row.cc 0;have cl:=h.row.lt;clear h;unfold HLo;unfold C8;by_cases hy:(g.cpG x y).shE y=0
 ·rw[θ hy];have HY:=ι (show ((g.cpG x y).shE y==0)=true from ζ0.2 hy);clear hy;go_enter func28,ntmps28
  go_upto_region 3 with(first
   | (go_at_call 27;refine(FR HQ.o HY.o).mono ?_;intro e w1 ho;have hn:=HQ.o.nx HT.o ho;clear HT HQ c0 cl ho;obtain⟨rfl,HT,HQ,c0,cl⟩:=hn)
   | (go_at_call 60;refine(HQ.o.hv.copy _ _).mono ?_;intro e w1 ho;have hn:=HQ.o.nx HT.o ho;clear HT HQ c0 cl ho;obtain⟨rfl,HT,HQ,c0,cl⟩:=hn)
   | (go_at_call 25;refine(HQ.o.hv.load _ _ _).mono ?_;intro e w1 ho;have hn:=HQ.o.nx HT.o ho;clear HT HQ c0 cl ho;obtain⟨rfl,HT,HQ,c0,cl⟩:=hn))
  clear c0 cl;obtain⟨Sx,Y,HS⟩:=AA.start λW'=>Rec W' qb 63 (quL hb r a b t d s n);have y0:∀p:AA Sx,p.w.cell? ⟨qb,0,none⟩=some (pP hb):=λp=>by have h:=AA.get Y p;exact h.cc 0
  have y6:∀p:AA Sx,p.w.cell? ⟨qb,6,none⟩=some (iI s):=λp=>by have h:=AA.get Y p;exact h.cc 6
  have Z:=HS.o _ (HQ.o.row.gr (Gr.refl _).drew);have J:Inhabited (AA Sx):=⟨⟨_,Z⟩⟩;clear Y;refine AW Sx 8 [([0,1,2,3,4,5,6,7],8)] [] Z ?_;refine AI ?_;go_wp2_with((go_at_call 23;refine((HQ.o.gr (Gr.refl _).drew).hv.clr _).mono ?_;intro e w1 ho;have hn:=(HQ.o.gr (Gr.refl _).drew).nx (HT.o.trans ((Gr.refl _).drew.touch _)) ho;clear HT HQ ho;obtain⟨rfl,HT,HQ,c0,cl⟩:=hn));refine⟨.inl trivial,?_⟩;refine BH ?_;clear y0 y6 Z J;clear HS Sx;go_upto_region 4 with(fail);clear c0 cl;obtain⟨Sx,Y,HS⟩:=AA.start λW'=>Rec W' qb 63 (quL hb r a b t d s n);have y0:∀p:AA Sx,p.w.cell? ⟨qb,0,none⟩=some (pP hb):=λp=>by have h:=AA.get Y p;exact h.cc 0
  have y6:∀p:AA Sx,p.w.cell? ⟨qb,6,none⟩=some (iI s):=λp=>by have h:=AA.get Y p;exact h.cc 6
  have Z:=HS.o _ (HQ.o.row.gr (Gr.refl _).drew);have J:Inhabited (AA Sx):=⟨⟨_,Z⟩⟩;clear Y;refine AW Sx 9 [([0,1,2,3,4,5,6,7,8],9)] [] Z ?_;refine AI ?_;go_wp2_with((go_at_call 59;refine((HQ.o.gr (Gr.refl _).drew).hv.stor _ _ _).mono ?_;intro e w1 ho;have hn:=(HQ.o.gr (Gr.refl _).drew).nx (HT.o.trans ((Gr.refl _).drew.touch _)) ho;clear HT HQ ho;obtain⟨rfl,HT,HQ,c0,cl⟩:=hn));refine⟨.inl trivial,?_⟩;refine BH ?_;clear y0 y6 Z J;clear HS Sx;go_wp2
  go_end0
  exact⟨rfl,HT.o,HQ.o.hv⟩
 ·rw[ψ hy];have HY:=ι (show ((g.cpG x y).shE y==0)=false from ζy.2 hy);clear hy;go_enter func28,ntmps28
  go_wp2_with(first
   | (go_at_call 27;refine(FR HQ.o HY.o).mono ?_;intro e w1 ho;have hn:=HQ.o.nx HT.o ho;clear HT HQ c0 cl ho;obtain⟨rfl,HT,HQ,c0,cl⟩:=hn)
   | (go_at_call 60;refine(HQ.o.hv.copy _ _).mono ?_;intro e w1 ho;have hn:=HQ.o.nx HT.o ho;clear HT HQ c0 cl ho;obtain⟨rfl,HT,HQ,c0,cl⟩:=hn))
  first|go_end0|(refine ζO (ζl rfl _ _ _) rfl ?_)
  exact⟨rfl,HT.o,HQ.o.hv⟩
theorem YXv(x0 x1 x2 x3 x4:Nat)(hk:k<5)(V:World):(Instr.index 30 (.agg #[iI x0,iI x1,iI x2,iI x3,iI x4]) (iI k)).run prog V=.ok (iI ([x0,x1,x2,x3,x4].getD k 0:Nat)) V:=by
 rcases(by omega:k=0\/k=1\/k=2\/k=3\/k=4)with rfl|rfl|rfl|rfl|rfl <;> kernel_rfl
def NE(g:Gph)(l:List Nat):Gph:=l.foldl (λg (j:Nat)=>g.clG (j:Int)) g
theorem YSK(g:Gph)(l:List Nat)(hk:k<l.length):NE g (l.take (k+1))=(NE g (l.take k)).clG (l.getD k 0):=by
 unfold NE;rw[ζX hk,List.foldl_append,β,η hk];rfl
theorem WS(h:A4 w0 K c hb qb r a b t d s n g w):Calls prog 24 #[pP qb] w (HLo w0 K c hb w (.tuple #[]) (GI a b t d s g)):=by
 have HQ:=ι h;have HT:=ι (AB.refl (hlT w0 K) w);have c0:w.cell? ⟨qb,0,none⟩=some (pP hb):=h.row.cc 0;have cl:=h.row.lt;have c2:w.cell? ⟨qb,2,none⟩=some (iI a):=h.row.cc 2;have c3:w.cell? ⟨qb,3,none⟩=some (iI b):=h.row.cc 3;have c4:w.cell? ⟨qb,4,none⟩=some (iI t):=h.row.cc 4;have c5:w.cell? ⟨qb,5,none⟩=some (iI d):=h.row.cc 5;have c6:w.cell? ⟨qb,6,none⟩=some (iI s):=h.row.cc 6;clear h;unfold HLo;rw[show GI a b t d s g=NE g [a,b,t,d,s]from rfl];go_enter func24,ntmps24;go_wp2;go_quiet (fail);clear c2 c3 c4 c5 c6
 replace HQ:=ι (HQ.o.gr ((Gr.refl w).drewN nq))
 replace HT:=ι (HT.o.trans (((Gr.refl w).drewN nq).touch _))
 have J:=ι (λk (hk:k<5) V=>YXv a b t d s hk V);go_wp2
 go_loopw [25] (λs25 wr=>∃k:Nat,k<=5/\s25=iI k/\Hid (A4 w0 K c hb qb r a b t d s n (NE g ([a,b,t,d,s].take k)) wr)/\Hid (AB (hlT w0 K) w wr)) (λs25 _=>5-(intOf s25).toNat)
 case atStart=>exact⟨0,by omega,rfl,HQ,HT⟩
 case round=>
  clear HQ HT c0 cl;obtain⟨k,hk,rfl,HQ,HT⟩:=hrel;have c0:wr.cell? ⟨qb,0,none⟩=some (pP hb):=HQ.o.row.cc 0;have cl:=HQ.o.row.lt;by_cases Y:k<5
  ·have hkI:(k:Int)<5:=Ω
   have Z:=J.o k Y;have HS:=ι (YSK g [a,b,t,d,s] (k:=k) Y);generalize [a,b,t,d,s].getD k 0=j at Z HS;clear hk Y;go_wp2_with(go_at_call 23;refine(HQ.o.hv.clr _).mono ?_;intro e w1 ho;have hn:=HQ.o.nx HT.o ho;clear HT HQ c0 cl ho;obtain⟨rfl,HT,HQ,c0,cl⟩:=hn);rw[<-HS.o]at HQ;go_round
   case rel=>exact⟨k+1,by omega,by go_num,HQ,HT⟩
   case measure=>simp[intOf];omega
  ·obtain rfl:k=5:=Ω
   clear Y hk;go_wp2
   go_end0
   exact⟨rfl,HT.o,HQ.o.hv⟩
end
section
variable{t:Nat}{T D R:BT}
theorem A4.cnt(h:A4 w0 K c hb qb r a b t d s n g w)(n':Nat):A4 w0 K c hb qb r a b t d s n' g (w.setCell ⟨qb,7,none⟩ (.int .i64 n')):=by
 have t1:=(AB.refl (λk=>k=qb) w).setCell (a:=⟨qb,7,none⟩) (λ_=>rfl) (iI n');exact⟨h.hv.touch (t1.mono (λk _ e=>by rw[e];exact⟨h.kl,h.ql⟩)) h.tb,h.row.set 7 _,h.kl,h.ql,h.tb⟩
theorem JmJ(h:A4 w0 K c hb qb r a b t d s n g w)(hp:PrG g r a b t d s T D):Calls prog 26 #[pP qb] w λe w'=>∃g' D',PrG g' r a b t d s .nil D'/\D'.its.Perm (T.its++D.its)/\HLo w0 K c hb w (.tuple #[]) g' e w':=by
 have HQ:=ι h;have HT:=ι (AB.refl (hlT w0 K) w);have c0:w.cell? ⟨qb,0,none⟩=some (pP hb):=h.row.cc 0;have cl:=h.row.lt;clear h;have HP:=ι hp;have HI:=ι (List.Perm.refl (T.its++D.its));clear hp;go_enter func26,ntmps26;go_wp2
 go_loopg [] T.ids.length (λm wr=>∃(g1:Gph) (T1 D1:BT),Hid (T1.ids.length=m)/\Hid (A4 w0 K c hb qb r a b t d s n g1 wr)/\Hid (AB (hlT w0 K) w wr)/\Hid (PrG g1 r a b t d s T1 D1)/\Hid ((T1.its++D1.its).Perm (T.its++D.its)))
 case atStart=>exact⟨g,T,D,⟨rfl⟩,HQ,HT,HP,HI⟩
 case round=>
  clear HQ HT HP HI c0 cl;obtain⟨g1,T1,D1,HN,HQ,HT,HP,HI⟩:=hrel;have c0:wr.cell? ⟨qb,0,none⟩=some (pP hb):=HQ.o.row.cc 0;have c4:wr.cell? ⟨qb,4,none⟩=some (iI t):=HQ.o.row.cc 4;have cl:=HQ.o.row.lt;have U:=KV (HP.o.q.lt t (by simp));by_cases hz:g1.sv t=0
  ·rw[hz,θ rfl]at U;have HS:=ι (show (g1.shE t==0)=false by rw[U];rfl);have HE:=ι (HP.o.t.rep.top0.1 (HP.o.t.sv.symm.trans hz));clear hz U;go_wp2_with(go_at_call 27;(with_reducible refine(FR (x:=t) HQ.o HS.o).mono ?_);intro e w1 ho;have hn:=HQ.o.nx HT.o ho;clear HT HQ c0 cl ho c4;obtain⟨rfl,HT,HQ,c0,cl⟩:=hn)
   first|go_end0|(refine ζO (ζl rfl _ _ _) rfl ?_)
   have hp:=HP.o;have hi:=HI.o;rw[HE.o]at hp hi;exact⟨g1,D1,hp,hi,rfl,HT.o,HQ.o.hv⟩
  ·rw[ψ hz]at U;have HS:=ι (show (g1.shE t==0)=true by rw[U];rfl)
   have N:Hid (∃T2 D2,T2.ids.length<gk/\PrG (QV a b t d s g1) r a b t d s T2 D2/\(T2.its++D2.its).Perm (T.its++D.its)):=⟨by
    obtain⟨T2,D2,q1,q2,q3,q4,q5⟩:=HP.o.step hz
    exact⟨T2,D2,by rw[<-HN.o];exact q1,q2,q4.trans HI.o⟩⟩
   clear hz U HP HI HN;go_upto_region 1 with(go_at_call 27;(with_reducible refine(FR (x:=t) HQ.o HS.o).mono ?_);intro e w1 ho;have hn:=HQ.o.nx HT.o ho;clear HT HQ c0 cl ho c4;obtain⟨rfl,HT,HQ,c0,cl⟩:=hn);clear c0 cl;obtain⟨Sx,Y,HS⟩:=AA.start λW'=>Rec W' qb 63 (quL hb r a b t d s n);have y2:∀p:AA Sx,p.w.cell? ⟨qb,2,none⟩=some (iI a):=λp=>by have h:=AA.get Y p;exact h.cc 2
   have y4:∀p:AA Sx,p.w.cell? ⟨qb,4,none⟩=some (iI t):=λp=>by have h:=AA.get Y p;exact h.cc 4
   have Z:=HS.o _ (HQ.o.row.gr (Gr.refl _).drew);have J:Inhabited (AA Sx):=⟨⟨_,Z⟩⟩;clear Y;refine AW Sx 9 [([0,1,2,3,4,5,6,7,8],9)] [] Z ?_;refine AI ?_;go_wp2_with((go_at_call 28;refine(WH (HQ.o.gr (Gr.refl _).drew) a t).mono ?_;intro e w1 ho;have hn:=(HQ.o.gr (Gr.refl _).drew).nx (HT.o.trans ((Gr.refl _).drew.touch _)) ho;clear HT HQ ho;obtain⟨rfl,HT,HQ,c0,cl⟩:=hn));refine⟨.inl trivial,?_⟩;refine BH ?_;clear y2 y4 Z J;clear HS Sx;go_upto_region 2 with(fail);clear c0 cl;obtain⟨Sx,Y,HS⟩:=AA.start λW'=>Rec W' qb 63 (quL hb r a b t d s n);have y3:∀p:AA Sx,p.w.cell? ⟨qb,3,none⟩=some (iI b):=λp=>by have h:=AA.get Y p;exact h.cc 3
   have y4:∀p:AA Sx,p.w.cell? ⟨qb,4,none⟩=some (iI t):=λp=>by have h:=AA.get Y p;exact h.cc 4
   have Z:=HS.o _ (HQ.o.row.gr (Gr.refl _).drew);have J:Inhabited (AA Sx):=⟨⟨_,Z⟩⟩;clear Y;refine AW Sx 9 [([0,1,2,3,4,5,6,7,8],9)] [] Z ?_;refine AI ?_;go_wp2_with((go_at_call 28;refine(WH (HQ.o.gr (Gr.refl _).drew) b t).mono ?_;intro e w1 ho;have hn:=(HQ.o.gr (Gr.refl _).drew).nx (HT.o.trans ((Gr.refl _).drew.touch _)) ho;clear HT HQ ho;obtain⟨rfl,HT,HQ,c0,cl⟩:=hn));refine⟨.inl trivial,?_⟩;refine BH ?_;clear y3 y4 Z J;clear HS Sx;go_upto_region 3 with(fail);clear c0 cl;obtain⟨Sx,Y,HS⟩:=AA.start λW'=>Rec W' qb 63 (quL hb r a b t d s n);have y2:∀p:AA Sx,p.w.cell? ⟨qb,2,none⟩=some (iI a):=λp=>by have h:=AA.get Y p;exact h.cc 2
   have y3:∀p:AA Sx,p.w.cell? ⟨qb,3,none⟩=some (iI b):=λp=>by have h:=AA.get Y p;exact h.cc 3
   have Z:=HS.o _ (HQ.o.row.gr (Gr.refl _).drew);have J:Inhabited (AA Sx):=⟨⟨_,Z⟩⟩;clear Y;refine AW Sx 9 [([0,1,2,3,4,5,6,7,8],9)] [] Z ?_;refine AI ?_;go_wp2_with((go_at_call 29;refine(TP (HQ.o.gr (Gr.refl _).drew) a b).mono ?_;intro e w1 ho;have hn:=(HQ.o.gr (Gr.refl _).drew).nx (HT.o.trans ((Gr.refl _).drew.touch _)) ho;clear HT HQ ho;obtain⟨rfl,HT,HQ,c0,cl⟩:=hn));refine⟨.inl trivial,?_⟩;refine BH ?_;clear y2 y3 Z J;clear HS Sx;go_upto_region 4 with(fail);clear c0 cl;obtain⟨Sx,Y,HS⟩:=AA.start λW'=>Rec W' qb 63 (quL hb r a b t d s n);have y0:∀p:AA Sx,p.w.cell? ⟨qb,0,none⟩=some (pP hb):=λp=>by have h:=AA.get Y p;exact h.cc 0
   have y2:∀p:AA Sx,p.w.cell? ⟨qb,2,none⟩=some (iI a):=λp=>by have h:=AA.get Y p;exact h.cc 2
   have y5:∀p:AA Sx,p.w.cell? ⟨qb,5,none⟩=some (iI d):=λp=>by have h:=AA.get Y p;exact h.cc 5
   have Z:=HS.o _ (HQ.o.row.gr (Gr.refl _).drew);have J:Inhabited (AA Sx):=⟨⟨_,Z⟩⟩;clear Y;refine AW Sx 12 [([0,1,2,3,4,5,6,7,8,9,10,11],12)] [] Z ?_;refine AI ?_;go_wp2_with((go_at_call 59;refine((HQ.o.gr (Gr.refl _).drew).hv.stor _ _ _).mono ?_;intro e w1 ho;have hn:=(HQ.o.gr (Gr.refl _).drew).nx (HT.o.trans ((Gr.refl _).drew.touch _)) ho;clear HT HQ ho;obtain⟨rfl,HT,HQ,c0,cl⟩:=hn));refine⟨.inl trivial,?_⟩;refine BH ?_;clear y0 y2 y5 Z J;clear HS Sx;go_upto_region 5 with(fail);clear c0 cl;obtain⟨Sx,Y,HS⟩:=AA.start λW'=>Rec W' qb 63 (quL hb r a b t d s n);have y0:∀p:AA Sx,p.w.cell? ⟨qb,0,none⟩=some (pP hb):=λp=>by have h:=AA.get Y p;exact h.cc 0
   have y2:∀p:AA Sx,p.w.cell? ⟨qb,2,none⟩=some (iI a):=λp=>by have h:=AA.get Y p;exact h.cc 2
   have y5:∀p:AA Sx,p.w.cell? ⟨qb,5,none⟩=some (iI d):=λp=>by have h:=AA.get Y p;exact h.cc 5
   have Z:=HS.o _ (HQ.o.row.gr (Gr.refl _).drew);have J:Inhabited (AA Sx):=⟨⟨_,Z⟩⟩;clear Y;refine AW Sx 12 [([0,1,2,3,4,5,6,7,8,9,10,11],12)] [] Z ?_;refine AI ?_;go_wp2_with((go_at_call 60;refine((HQ.o.gr (Gr.refl _).drew).hv.copy _ _).mono ?_;intro e w1 ho;have hn:=(HQ.o.gr (Gr.refl _).drew).nx (HT.o.trans ((Gr.refl _).drew.touch _)) ho;clear HT HQ ho;obtain⟨rfl,HT,HQ,c0,cl⟩:=hn));refine⟨.inl trivial,?_⟩;refine BH ?_;clear y0 y2 y5 Z J;clear HS Sx;go_wp2;obtain⟨T2,D2,V,hp,hi⟩:=N.o
   go_roundg T2.ids.length
   case measure=>exact V
   case rel=>exact⟨_,T2,D2,⟨rfl⟩,HQ,HT,⟨hp⟩,⟨hi⟩⟩
theorem Y7Q(h:A4 w0 K c hb qb r a b t d s n g w)(hx:x<18446744073709551616)(hy:y<18446744073709551616)(hn:n<=1000000)(he:g.alE c.wd a ⟨2,1,1⟩=0):Calls prog 9 #[pP qb,.float .f64 x,uU y] w λe w'=>e=.returned (iI 0)/\AB (λk=>hlT w0 K k\/k=qb) w w'/\A4 w0 K c hb qb r a b t d s (n+1) (GI a b t d s (FD s r a (TJ a c.wd x y g))) w':=by
 have HQ:=ι h;have HT:=ι (AB.refl (hlT w0 K) w);have c0:w.cell? ⟨qb,0,none⟩=some (pP hb):=h.row.cc 0;have cl:=h.row.lt;clear h;have HX:=ι hx;have HY:=ι hy;have U:=ι (λ(V:World) (hV:A4 w0 K c hb qb r a b t d s n g V)=>hV.hv.allo a ⟨2,1,1⟩);unfold AK at U;dsimp only at U;rw[he]at U;clear he hx hy;go_enter func9,ntmps9;go_upto_region 3 with(go_at_call 30;refine AJ (NB HQ.o) ?_);clear c0 cl;obtain⟨Sx,Y,HS⟩:=AA.start λW'=>Rec W' qb 63 (quL hb r a b t d s n);have y0:∀p:AA Sx,p.w.cell? ⟨qb,0,none⟩=some (pP hb):=λp=>by have h:=AA.get Y p;exact h.cc 0
 have y2:∀p:AA Sx,p.w.cell? ⟨qb,2,none⟩=some (iI a):=λp=>by have h:=AA.get Y p;exact h.cc 2
 have Z:=HS.o _ (HQ.o.row.gr (Gr.refl _).drew);have J:Inhabited (AA Sx):=⟨⟨_,Z⟩⟩;clear Y;refine AW Sx 11 [([0,1,2,3,4,5,6,7,8],9)] [10] Z ?_;refine AI ?_;go_wp2_with((go_at_call 32;refine(U.o _ (HQ.o.gr (Gr.refl _).drew)).mono ?_;intro e w1 ho;have hn:=(HQ.o.gr (Gr.refl _).drew).nx (HT.o.trans ((Gr.refl _).drew.touch _)) ho;clear HT HQ ho;obtain⟨rfl,HT,HQ,c0,cl⟩:=hn));refine⟨.inr (AA.of (HS.o _ (HQ.o.row))),?_⟩;refine BH ?_;clear y0 y2 Z J;clear HS Sx;go_upto_region 6 with(fail);clear c0 cl;obtain⟨Sx,Y,HS⟩:=AA.start λW'=>Rec W' qb 63 (quL hb r a b t d s n);have y0:∀p:AA Sx,p.w.cell? ⟨qb,0,none⟩=some (pP hb):=λp=>by have h:=AA.get Y p;exact h.cc 0
 have y2:∀p:AA Sx,p.w.cell? ⟨qb,2,none⟩=some (iI a):=λp=>by have h:=AA.get Y p;exact h.cc 2
 have Z:=HS.o _ (HQ.o.row.gr (Gr.refl _).drew);have J:Inhabited (AA Sx):=⟨⟨_,Z⟩⟩;clear Y;refine AW Sx 9 [([0,1,2,3,4,5,6,7,8],9)] [] Z ?_;refine AI ?_;go_wp2_with((go_at_call 33;refine((HQ.o.gr (Gr.refl _).drew).hv.setF _ _ HX.o).mono ?_;intro e w1 ho;have hn:=(HQ.o.gr (Gr.refl _).drew).nx (HT.o.trans ((Gr.refl _).drew.touch _)) ho;clear HT HQ ho;obtain⟨rfl,HT,HQ,c0,cl⟩:=hn));refine⟨.inl trivial,?_⟩;refine BH ?_;clear y0 y2 Z J;clear HS Sx;go_upto_region 7 with(fail);clear c0 cl;obtain⟨Sx,Y,HS⟩:=AA.start λW'=>Rec W' qb 63 (quL hb r a b t d s n);have y0:∀p:AA Sx,p.w.cell? ⟨qb,0,none⟩=some (pP hb):=λp=>by have h:=AA.get Y p;exact h.cc 0
 have y2:∀p:AA Sx,p.w.cell? ⟨qb,2,none⟩=some (iI a):=λp=>by have h:=AA.get Y p;exact h.cc 2
 have Z:=HS.o _ (HQ.o.row.gr (Gr.refl _).drew);have J:Inhabited (AA Sx):=⟨⟨_,Z⟩⟩;clear Y;refine AW Sx 9 [([0,1,2,3,4,5,6,7,8],9)] [] Z ?_;refine AI ?_;go_wp2_with((go_at_call 34;refine((HQ.o.gr (Gr.refl _).drew).hv.setW _ _ HY.o).mono ?_;intro e w1 ho;have hn:=(HQ.o.gr (Gr.refl _).drew).nx (HT.o.trans ((Gr.refl _).drew.touch _)) ho;clear HT HQ ho;obtain⟨rfl,HT,HQ,c0,cl⟩:=hn));refine⟨.inl trivial,?_⟩;refine BH ?_;clear y0 y2 Z J;clear HS Sx;go_upto_region 8 with(fail);clear c0 cl;obtain⟨Sx,Y,HS⟩:=AA.start λW'=>Rec W' qb 63 (quL hb r a b t d s n);have y1:∀p:AA Sx,p.w.cell? ⟨qb,1,none⟩=some (iI r):=λp=>by have h:=AA.get Y p;exact h.cc 1
 have y2:∀p:AA Sx,p.w.cell? ⟨qb,2,none⟩=some (iI a):=λp=>by have h:=AA.get Y p;exact h.cc 2
 have Z:=HS.o _ (HQ.o.row.gr (Gr.refl _).drew);have J:Inhabited (AA Sx):=⟨⟨_,Z⟩⟩;clear Y;refine AW Sx 9 [([0,1,2,3,4,5,6,7,8],9)] [] Z ?_;refine AI ?_;go_wp2_with((go_at_call 29;refine(TP (HQ.o.gr (Gr.refl _).drew) r a).mono ?_;intro e w1 ho;have hn:=(HQ.o.gr (Gr.refl _).drew).nx (HT.o.trans ((Gr.refl _).drew.touch _)) ho;clear HT HQ ho;obtain⟨rfl,HT,HQ,c0,cl⟩:=hn));refine⟨.inl trivial,?_⟩;refine BH ?_;clear y1 y2 Z J;clear HS Sx;go_upto_region 10 with(go_at_call 24;refine(WS HQ.o).mono ?_;intro e w1 ho;have hn:=HQ.o.nx HT.o ho;clear HT HQ c0 cl ho;obtain⟨rfl,HT,HQ,c0,cl⟩:=hn);have c7:w1.cell? ⟨qb,7,none⟩=some (iI n):=HQ.o.row.cc 7;have cf:=HQ.o.row.free 7;go_wp2;go_ret;have e7:((n:Int)+1)=((n+1:Nat):Int):=Ω
 exact⟨rfl,HT.o.mono (λ_ _ h=>.inl h) |>.trans ((AB.refl (λk=>hlT w0 K k\/k=qb) w1).setCell (a:=⟨qb,7,none⟩) (λ_=>.inr rfl) _),by rw[e7];exact HQ.o.cnt (n+1)⟩
theorem QMN(h:A4 w0 K c hb qb r a b t d s n g w)(hx:x<18446744073709551616)(hy:y<18446744073709551616)(he:¬g.alE c.wd a ⟨2,1,1⟩=0):Calls prog 9 #[pP qb,.float .f64 x,uU y] w λe w'=>e=.returned (iI (g.alE c.wd a ⟨2,1,1⟩))/\AB (hlT w0 K) w w'/\A4 w0 K c hb qb r a b t d s n g w':=by
 have HQ:=ι h;have HT:=ι (AB.refl (hlT w0 K) w);have c0:w.cell? ⟨qb,0,none⟩=some (pP hb):=h.row.cc 0;have cl:=h.row.lt;clear h;have HX:=ι hx;have HY:=ι hy;have Y:=ι (λ(V:World) (hV:A4 w0 K c hb qb r a b t d s n g V)=>hV.hv.allo a ⟨2,1,1⟩);unfold AK at Y;dsimp only at Y;have U:Hid (g.alG c.wd a ⟨2,1,1⟩=g):=⟨by unfold Gph.alG;rw[ψ he]⟩;rw[U.o]at Y;have d0:(g.alE c.wd a ⟨2,1,1⟩ !=0)=true:=by rw[ψj];exact he
 generalize g.alE c.wd a ⟨2,1,1⟩=E at Y d0⊢;clear he hx hy U;go_enter func9,ntmps9;go_upto_region 3 with(go_at_call 30;refine AJ (NB HQ.o) ?_);clear c0 cl;obtain⟨Sx,J,HS⟩:=AA.start λW'=>Rec W' qb 63 (quL hb r a b t d s n);have y0:∀p:AA Sx,p.w.cell? ⟨qb,0,none⟩=some (pP hb):=λp=>by have h:=AA.get J p;exact h.cc 0
 have y2:∀p:AA Sx,p.w.cell? ⟨qb,2,none⟩=some (iI a):=λp=>by have h:=AA.get J p;exact h.cc 2
 have Z:=HS.o _ (HQ.o.row.gr (Gr.refl _).drew);have N:Inhabited (AA Sx):=⟨⟨_,Z⟩⟩;clear J;refine AW Sx 11 [([0,1,2,3,4,5,6,7,8],9)] [10] Z ?_;refine AI ?_;go_wp2_with((go_at_call 32;refine(Y.o _ (HQ.o.gr (Gr.refl _).drew)).mono ?_;intro e w1 ho;have hn:=(HQ.o.gr (Gr.refl _).drew).nx (HT.o.trans ((Gr.refl _).drew.touch _)) ho;clear HT HQ ho;obtain⟨rfl,HT,HQ,c0,cl⟩:=hn));refine⟨.inr (AA.of (HS.o _ (HQ.o.row))),?_⟩;refine BH ?_;clear y0 y2 Z N;clear HS Sx;go_wp2;go_ret;exact⟨rfl,HT.o,HQ.o⟩
theorem VPx(h:A4 w0 K c hb qb r a b t d s n g w):cQ 11 #[pP qb] w (iI n):=by
 have HQ:=ι h;have c7:w.cell? ⟨qb,7,none⟩=some (iI n):=h.row.cc 7;have cl:=h.row.lt;clear h;go_enter func11,ntmps11;go_wp2_with(go_at_call 30;refine AJ (NB HQ.o) ?_);go_ret;exact⟨rfl,rfl⟩
theorem JOK(h:A4 w0 K c hb qb r a b t d s 0 g w):cQ 8 #[pP qb] w (.tuple #[.float .f64 0,uU 0,iI 6]):=by
 have HQ:=ι h;have c7:w.cell? ⟨qb,7,none⟩=some (iI 0):=h.row.cc 7;have cl:=h.row.lt;clear h;go_enter func8,ntmps8;go_wp2_with(go_at_call 30;refine AJ (NB HQ.o) ?_)
 go_ret3
 exact⟨rfl,rfl⟩
theorem QnW(h:A4 w0 K c hb qb r a b t d s n g w)(hn:n≠0):Calls prog 8 #[pP qb] w (HLo w0 K c hb w (.tuple #[.float .f64 (g.fdV r 2 2),uU (g.fdV r 3 3:Nat),iI 0]) (g)):=by
 have HQ:=ι h;have HT:=ι (AB.refl (hlT w0 K) w);have c0:w.cell? ⟨qb,0,none⟩=some (pP hb):=h.row.cc 0;have cl:=h.row.lt;have c1:w.cell? ⟨qb,1,none⟩=some (iI r):=h.row.cc 1;have c7:w.cell? ⟨qb,7,none⟩=some (iI n):=h.row.cc 7;clear h;unfold HLo;have d0:((n:Int)==0)=false:=by rw[ζy];omega
 have Y:=ι (λ(V:World) (hV:A4 w0 K c hb qb r a b t d s n g V)=>TE hV r);generalize g.fdV r 3 3=u at Y⊢;generalize g.fdV r 2 2=y at Y⊢;clear hn;go_enter func8,ntmps8
 go_wp2_with(first
  | (go_at_call 30;refine AJ (NB HQ.o) ?_)
  | (go_at_call 31;(with_reducible refine(Y.o _ HQ.o).mono ?_);intro e w1 ho;have hn:=HQ.o.nx HT.o ho;clear HT HQ c0 cl ho c1 c7;obtain⟨rfl,HT,HQ,c0,cl⟩:=hn))
 go_ret3
 exact⟨rfl,HT.o,HQ.o.hv⟩
theorem VCk(h:A4 w0 K c hb qb r a b t d s 0 g w):cQ 7 #[pP qb] w (.tuple #[.float .f64 0,uU 0,iI 6]):=by
 have HQ:=ι h;clear h;go_enter func7,ntmps7;go_wp2_with(go_at_call 8;refine AJ (JOK HQ.o) ?_)
 go_ret3
 exact⟨rfl,rfl⟩
theorem YLH(h:A4 w0 K c hb qb r a b t d s (n+1) g w){k:BT}(hn:n<=1000000)(hq:F5 g r a b t d s (.node x f u k .nil)):Calls prog 7 #[pP qb] w λe w'=>∃g' R',e=.returned (.tuple #[.float .f64 f,uU u,iI 0])/\AB (λk=>hlT w0 K k\/k=qb) w w'/\A4 w0 K c hb qb r a b t d s n g' w'/\F5 g' r a b t d s R'/\R'.its.Perm k.its:=by
 have HQ:=ι h;have HT:=ι (AB.refl (hlT w0 K) w);have c0:w.cell? ⟨qb,0,none⟩=some (pP hb):=h.row.cc 0;have cl:=h.row.lt;clear h;obtain⟨-,q2,q3,hp⟩:=hq.popped;have N:=ι (λ(V:World) (hV:A4 w0 K c hb qb r a b t d s (n+1) g V)=>QnW hV Ω);rw[q2,q3]at N;have HP:=ι hp;clear hq q2 q3 hp;go_enter func7,ntmps7;go_upto_region 4 with(go_at_call 8;refine(N.o _ HQ.o).mono ?_;intro e w1 ho;have hn:=HQ.o.nx HT.o ho;clear HT HQ c0 cl ho;obtain⟨rfl,HT,HQ,c0,cl⟩:=hn);clear c0 cl;obtain⟨Sx,Y,HS⟩:=AA.start λW'=>Rec W' qb 63 (quL hb r a b t d s (n+1));have y0:∀p:AA Sx,p.w.cell? ⟨qb,0,none⟩=some (pP hb):=λp=>by have h:=AA.get Y p;exact h.cc 0
 have y4:∀p:AA Sx,p.w.cell? ⟨qb,4,none⟩=some (iI t):=λp=>by have h:=AA.get Y p;exact h.cc 4
 have y1:∀p:AA Sx,p.w.cell? ⟨qb,1,none⟩=some (iI r):=λp=>by have h:=AA.get Y p;exact h.cc 1
 have Z:=HS.o _ (HQ.o.row.gr (Gr.refl _).drew);have J:Inhabited (AA Sx):=⟨⟨_,Z⟩⟩;clear Y;refine AW Sx 12 [([0,1,2,3,4,5,6,7,8,9,10,11],12)] [] Z ?_;refine AI ?_;go_wp2_with((go_at_call 25;refine((HQ.o.gr (Gr.refl _).drew).hv.load _ _ _).mono ?_;intro e w1 ho;have hn:=(HQ.o.gr (Gr.refl _).drew).nx (HT.o.trans ((Gr.refl _).drew.touch _)) ho;clear HT HQ ho;obtain⟨rfl,HT,HQ,c0,cl⟩:=hn));refine⟨.inl trivial,?_⟩;refine BH ?_;clear y0 y4 y1 Z J;clear HS Sx;have I:=ι (JmJ HQ.o HP.o);clear HP N;go_upto_region 6 with(go_at_call 26;refine I.o.mono ?_;rintro e w2 ⟨g2,D2,hp,hi,ho⟩;have hn:=HQ.o.nx HT.o ho;clear HT HQ c0 cl ho I;obtain⟨rfl,HT,HQ,c0,cl⟩:=hn;have HP:=ι hp;have HI:=ι hi;clear hp hi);clear c0 cl;obtain⟨Sx,Y,HS⟩:=AA.start λW'=>Rec W' qb 63 (quL hb r a b t d s (n+1));have y0:∀p:AA Sx,p.w.cell? ⟨qb,0,none⟩=some (pP hb):=λp=>by have h:=AA.get Y p;exact h.cc 0
 have y1:∀p:AA Sx,p.w.cell? ⟨qb,1,none⟩=some (iI r):=λp=>by have h:=AA.get Y p;exact h.cc 1
 have Z:=HS.o _ (HQ.o.row.gr (Gr.refl _).drew);have J:Inhabited (AA Sx):=⟨⟨_,Z⟩⟩;clear Y;refine AW Sx 8 [([0,1,2,3,4,5,6,7],8)] [] Z ?_;refine AI ?_;go_wp2_with((go_at_call 23;refine((HQ.o.gr (Gr.refl _).drew).hv.clr _).mono ?_;intro e w1 ho;have hn:=(HQ.o.gr (Gr.refl _).drew).nx (HT.o.trans ((Gr.refl _).drew.touch _)) ho;clear HT HQ ho;obtain⟨rfl,HT,HQ,c0,cl⟩:=hn));refine⟨.inl trivial,?_⟩;refine BH ?_;clear y0 y1 Z J;clear HS Sx;have E:Hid (DrG (g2.clG r) r a b t d s .nil D2):=⟨(HP.o.drained (HP.o.t.sv)).2⟩;have O:Hid ((BT.nil.its++D2.its).Perm k.its):=⟨by have:=HI.o;simpa[BT.its]using this⟩;clear HP HI;go_wp2
 go_loopg [] D2.ids.length (λm wr=>∃(g1:Gph) (R1 D1:BT),Hid (D1.ids.length=m)/\Hid (A4 w0 K c hb qb r a b t d s (n+1) g1 wr)/\Hid (AB (hlT w0 K) w wr)/\Hid (DrG g1 r a b t d s R1 D1)/\Hid ((R1.its++D1.its).Perm k.its))
 case atStart=>exact⟨_,.nil,D2,⟨rfl⟩,HQ,HT,E,O⟩
 case round=>
  clear HQ HT E O c0 cl;obtain⟨g1,R1,D1,HN,HQ,HT,HP,HI⟩:=hrel;have c0:wr.cell? ⟨qb,0,none⟩=some (pP hb):=HQ.o.row.cc 0;have c5:wr.cell? ⟨qb,5,none⟩=some (iI d):=HQ.o.row.cc 5;have cl:=HQ.o.row.lt;have U:=KV (HP.o.q.lt d (by simp));by_cases hz:g1.sv d=0
  ·rw[hz,θ rfl]at U;have HS:=ι (show (g1.shE d==0)=false by rw[U];rfl);have HE:=ι (HP.o.rest hz);clear hz U
   go_upto_region 11 with(first
    | (go_at_call 27;(with_reducible refine(FR (x:=d) HQ.o HS.o).mono ?_);intro e w1 ho;have hn:=HQ.o.nx HT.o ho;clear HT HQ c0 cl ho c5;obtain⟨rfl,HT,HQ,c0,cl⟩:=hn)
    | (go_at_call 24;refine(WS HQ.o).mono ?_;intro e w1 ho;have hn:=HQ.o.nx HT.o ho;clear HT HQ c0 cl ho;obtain⟨rfl,HT,HQ,c0,cl⟩:=hn))
   have c7:w1.cell? ⟨qb,7,none⟩=some (iI (n+1:Nat)):=HQ.o.row.cc 7;have cf:=HQ.o.row.free 7;have e7:(((n+1:Nat):Int)-1)=(n:Int):=Ω
   go_wp2
   go_ret3
   refine⟨_,R1,rfl,HT.o.mono (λ_ _ h=>.inl h) |>.trans ((AB.refl (λk=>hlT w0 K k\/k=qb) w1).setCell (a:=⟨qb,7,none⟩) (λ_=>.inr rfl) _),?_,HE.o.1,?_⟩
   ·exact HQ.o.cnt n
   ·have:=HI.o;rw[HE.o.2]at this;simpa[BT.its]using this
  ·rw[ψ hz]at U;have HS:=ι (show (g1.shE d==0)=true by rw[U];rfl)
   have G:Hid (∃R2 D3,D3.ids.length<gk/\DrG (TO r a d s g1) r a b t d s R2 D3/\(R2.its++D3.its).Perm k.its):=⟨by
    obtain⟨T2,D2,q1,q2,q3⟩:=HP.o.step hz
    exact⟨T2,D2,by rw[<-HN.o];exact q1,q2,q3.trans HI.o⟩⟩
   clear hz U HP HI HN;go_upto_region 8 with(go_at_call 27;(with_reducible refine(FR (x:=d) HQ.o HS.o).mono ?_);intro e w1 ho;have hn:=HQ.o.nx HT.o ho;clear HT HQ c0 cl ho c5;obtain⟨rfl,HT,HQ,c0,cl⟩:=hn);clear c0 cl;obtain⟨Sx,Y,HS⟩:=AA.start λW'=>Rec W' qb 63 (quL hb r a b t d s (n+1));have y2:∀p:AA Sx,p.w.cell? ⟨qb,2,none⟩=some (iI a):=λp=>by have h:=AA.get Y p;exact h.cc 2
   have y5:∀p:AA Sx,p.w.cell? ⟨qb,5,none⟩=some (iI d):=λp=>by have h:=AA.get Y p;exact h.cc 5
   have Z:=HS.o _ (HQ.o.row.gr (Gr.refl _).drew);have J:Inhabited (AA Sx):=⟨⟨_,Z⟩⟩;clear Y;refine AW Sx 9 [([0,1,2,3,4,5,6,7,8],9)] [] Z ?_;refine AI ?_;go_wp2_with((go_at_call 28;refine(WH (HQ.o.gr (Gr.refl _).drew) a d).mono ?_;intro e w1 ho;have hn:=(HQ.o.gr (Gr.refl _).drew).nx (HT.o.trans ((Gr.refl _).drew.touch _)) ho;clear HT HQ ho;obtain⟨rfl,HT,HQ,c0,cl⟩:=hn));refine⟨.inl trivial,?_⟩;refine BH ?_;clear y2 y5 Z J;clear HS Sx;go_upto_region 9 with(fail);clear c0 cl;obtain⟨Sx,Y,HS⟩:=AA.start λW'=>Rec W' qb 63 (quL hb r a b t d s (n+1));have y1:∀p:AA Sx,p.w.cell? ⟨qb,1,none⟩=some (iI r):=λp=>by have h:=AA.get Y p;exact h.cc 1
   have y2:∀p:AA Sx,p.w.cell? ⟨qb,2,none⟩=some (iI a):=λp=>by have h:=AA.get Y p;exact h.cc 2
   have Z:=HS.o _ (HQ.o.row.gr (Gr.refl _).drew);have J:Inhabited (AA Sx):=⟨⟨_,Z⟩⟩;clear Y;refine AW Sx 9 [([0,1,2,3,4,5,6,7,8],9)] [] Z ?_;refine AI ?_;go_wp2_with((go_at_call 29;refine(TP (HQ.o.gr (Gr.refl _).drew) r a).mono ?_;intro e w1 ho;have hn:=(HQ.o.gr (Gr.refl _).drew).nx (HT.o.trans ((Gr.refl _).drew.touch _)) ho;clear HT HQ ho;obtain⟨rfl,HT,HQ,c0,cl⟩:=hn));refine⟨.inl trivial,?_⟩;refine BH ?_;clear y1 y2 Z J;clear HS Sx;go_wp2;obtain⟨T2,D3,L,hp,hi⟩:=G.o
   go_roundg D3.ids.length
   case measure=>exact L
   case rel=>exact⟨_,T2,D3,⟨rfl⟩,HQ,HT,⟨hp⟩,⟨hi⟩⟩
end
section
variable{s:HSt}
theorem VIO(h:HIn w c g s):Calls prog 22 #[pP s.A.hp] w λe w'=>e=.returned (GX c)/\Gr w w':=by
 have E:=(λ(V:World) (gV:Gr w V)=>GO (h.gr gV));have hsf:=Qwi;have U:=h.com.row;unfold hpL at U;obtain⟨w2,J⟩:∃w2,w2=w.alloc (.cells #[.int .i64 0,.int .i64 0,.int .i64 0,.int .i64 0,.int .i64 0,.int .i64 0,.int .i64 0,.float .f64 0] 40):=⟨_,rfl⟩;have Z:Rec w2 w.heap.size 40 [iI 0,iI 0,iI 0,iI 0,iI 0,iI 0,iI 0,.float .f64 0]:=by rw[J];exact Rec.new w 40 [iI 0,iI 0,iI 0,iI 0,iI 0,iI 0,iI 0,.float .f64 0]
 have N:Gr w w2:=by rw[J];exact(Gr.refl w).alloc _
 have Y:=U.gr N;have O:=(E _ N);have L:=Z;have I:=N;obtain⟨k0,k1,k2,k3,k4,k5,k6,k7,kl⟩:=Y.k8;have z0:=Z.cc 0;have z1:=Z.cc 1;have z2:=Z.cc 2;have z3:=Z.cc 3;have z4:=Z.cc 4;have z5:=Z.cc 5;have z6:=Z.cc 6;have z7:=Z.cc 7;have zf:=Z.free;have zl:=Z.lt;generalize s.A.hp=hp at *
 obtain⟨kd,pg,bk,wd,sl,st,ah,tr⟩:=c;go_enter func22,ntmps22;go_upto_region 1 with(fail);rw[<-J];clear J;go_wp2_with(go_at_call 41;refine O.mono ?_;rintro e w1 ⟨rfl,rfl⟩);have R8:=(Rec.set (Rec.set (Rec.set (Rec.set (Rec.set (Rec.set (Rec.set (Rec.set L 0 (iI kd)) 1 (iI pg)) 2 (iI bk)) 3 (iI wd)) 4 (iI sl)) 5 (iI st)) 6 (iI ah)) 7 (.float .f64 tr));have hl:=XkM R8 (by kernel_rfl) (by kernel_rfl);have ht:=(((((((((I.touch (λk=>w.heap.size<=k)).setCell (a:=⟨w.heap.size,0,none⟩) (λ_=>ϑ _) (iI kd)).setCell (a:=⟨w.heap.size,1,none⟩) (λ_=>ϑ _) (iI pg)).setCell (a:=⟨w.heap.size,2,none⟩) (λ_=>ϑ _) (iI bk)).setCell (a:=⟨w.heap.size,3,none⟩) (λ_=>ϑ _) (iI wd)).setCell (a:=⟨w.heap.size,4,none⟩) (λ_=>ϑ _) (iI sl)).setCell (a:=⟨w.heap.size,5,none⟩) (λ_=>ϑ _) (iI st)).setCell (a:=⟨w.heap.size,6,none⟩) (λ_=>ϑ _) (iI ah)).setCell (a:=⟨w.heap.size,7,none⟩) (λ_=>ϑ _) (.float .f64 tr));refine ζO (v:=.agg #[iI kd,iI pg,iI bk,iI wd,iI sl,iI st,iI ah,.float .f64 tr]) ?_ rfl ⟨rfl,(ht.mono (T:=λ_=>False) (λk hk e=>by omega)).gr⟩;simp[results,results22,asAddr,hl]
theorem HLv.facts(h:HLv w0 K c hb g w):c.Ok/\g.Ok/\g.S.length=c.sl:=by
 obtain⟨-,⟨s,-,h,-,-⟩,-⟩:=h;exact⟨h.cok,h.gok,h.sl⟩
theorem HLv.conf(h:HLv w0 K c hb g w):Calls prog 22 #[pP hb] w λe w'=>e=.returned (GX c)/\Gr w w':=by
 obtain⟨-,⟨s,e1,h,-,-⟩,-⟩:=h;rw[<-e1];exact VIO h
end
def FB(sl:Int)(l:List Int):Int:=if ∃j,j<l.length/\(l.getD j 0<0\/sl<=l.getD j 0)then 17 else if ∃i,i<l.length/\∃j,j<i/\l.getD i 0=l.getD j 0 then 5 else 0
theorem Y2(hk:k<l.length)(h:l.getD k 0<0\/sl<=l.getD k 0):FB sl l=17:=θ ⟨k,hk,h⟩
theorem XHt(hk:k<l.length)(h:∀j,j<l.length->0<=l.getD j 0/\l.getD j 0<sl)(hm:m<k)(he:l.getD k 0=l.getD m 0):FB sl l=5:=by
 unfold FB;rw[ψ (λ⟨j,hj,hq⟩=>by have:=h j hj;omega),θ ⟨k,hk,m,hm,he⟩]
theorem TF(h:∀j,j<l.length->0<=l.getD j 0/\l.getD j 0<sl)(hd:∀i,i<l.length->∀j,j<i->l.getD i 0≠l.getD j 0):FB sl l=0:=by
 unfold FB;rw[ψ (λ⟨j,hj,hq⟩=>by have:=h j hj;omega),ψ (λ⟨i,hi,j,hj,e⟩=>hd i hi j hj e)]
theorem Q4x(w:World)(T:Nat)(x:Value):(w.alloc (.cells #[x] T)).ownsRow 0 T 1 (.slice (some ⟨w.heap.size,0,none⟩) 1 1) 1 [x]:=
 ⟨by simp,.inr ⟨w.heap.size,1,#[x],rfl,ζe _,heap_alloc_new w _,ϑ _,by unfold maxLen;omega,by simp,by simp⟩⟩
def L7(w0 w:World)(K:Nat->Prop)(c:HCf)(hb:Nat)(g:Gph)(x0 x1 x2 x3 x4 x5:Int)(e:Ending)(w':World):Prop:=
 (FB c.sl [x0,x1,x2,x3,x4,x5]≠0/\e=.returned (.tuple #[.pointer none,iI (FB c.sl [x0,x1,x2,x3,x4,x5])])/\Gr w w') ∨
 (FB c.sl [x0,x1,x2,x3,x4,x5]=0/\∃r a b t d s:Nat,x0=r/\x1=a/\x2=b/\x3=t/\x4=d/\x5=s/\(∀j∈[r,a,b,t,d,s],j<c.sl)/\[r,a,b,t,d,s].Nodup ∧
  ∃qb,e=.returned (.tuple #[pP qb,iI 0])/\AB (hlT w0 K) w w'/\A4 w0 (λk=>K k\/k=qb) c hb qb r a b t d s 0 (GI a b t d s (g.clG r)) w'/\w.heap.size<=qb)
theorem L7.bad{x0 x1 x2 x3 x4 x5 m:Int}{L:List Int}(hL:[x0,x1,x2,x3,x4,x5]=L)(hm:FB c.sl L=m)(h0:m≠0)(gr:Gr w w'):L7 w0 w K c hb g x0 x1 x2 x3 x4 x5 (.returned (.tuple #[.pointer none,iI m])) w':=.inl ⟨by rw[hL,hm];exact h0,by rw[hL,hm],gr⟩
theorem XW8(h:HLv w0 K c hb g w)(hw0:1<w0.heap.size)(x0 x1 x2 x3 x4 x5:Int):Calls prog 6 #[pP hb,iI x0,.agg #[iI x1,iI x2,iI x3,iI x4,iI x5]] w (L7 w0 w K c hb g x0 x1 x2 x3 x4 x5):=by
 obtain⟨ii,Xj,Xq,Xv,Xl⟩:=info_parts O6;have Xz:=h.facts.1.kd;have O:=ι (λ(V:World) (gV:Gr w V)=>(h.get gV).conf);unfold GX G8 at O;have k1:((c.kd:Int)==0)=false:=by rw[ζy];omega
 have Xw:∀V,(Instr.field 40 (.agg #[iI c.kd,iI c.pg,iI c.bk,iI c.wd,iI c.sl,iI c.st,iI c.ah,.float .f64 c.tr]) 0).run prog V=.ok (iI c.kd) V:=λ_=>by kernel_rfl
 have Xy:∀V,(Instr.field 40 (.agg #[iI c.kd,iI c.pg,iI c.bk,iI c.wd,iI c.sl,iI c.st,iI c.ah,.float .f64 c.tr]) 4).run prog V=.ok (iI c.sl) V:=λ_=>by kernel_rfl
 have hr:=Rec.new w 30 [iI x1,iI x2,iI x3,iI x4,iI x5];have Xm:=(Gr.refl w).alloc (.cells #[.int .i64 x1,.int .i64 x2,.int .i64 x3,.int .i64 x4,.int .i64 x5] 30);obtain⟨wb,A⟩:∃wb,wb=w.alloc (.cells #[.int .i64 x1,.int .i64 x2,.int .i64 x3,.int .i64 x4,.int .i64 x5] 30):=⟨_,rfl⟩;obtain⟨bx,Xd⟩:∃bx,bx=w.heap.size:=⟨_,rfl⟩;have HR:Hid (Rec wb bx 30 [iI x1,iI x2,iI x3,iI x4,iI x5]):=⟨by rw[A,Xd];exact hr⟩;have Xe:Hid (Gr w wb):=⟨by rw[A];exact Xm⟩;have HW:=ι A;have Xk:=ι Xd;have H:=ι h;have Xu:=ι hw0;have xl:=HR.o.lt;clear h A Xd hr Xm Xz hw0;go_enter func6,ntmps6;go_upto_region 1 with(fail);rw[<-HW.o,<-Xk.o];go_upto_region 3 with(go_at_call 22;refine(O.o _ Xe.o).mono ?_;rintro e w1 ⟨rfl,hg⟩;have Xg:=ι hg;clear hg);have Xt:=ι (Xe.o.trans Xg.o);have I:=ι (HR.o.gr Xg.o);have Yb:=I.o.lt;clear Xe;go_upto_region 4 with(at_builtin;refine wpList_append_lies _ rfl _ _ 61 rfl 0 3 ii _ 1 8 underlying61 Xj Xq Xv Xl rfl (by decide) (.slice (some ⟨w1.heap.size,0,none⟩) 1 1) 1 [iI x0] rfl (Q4x w1 _ _) ⟨bx,0,none⟩ 5 5 [iI x1,iI x2,iI x3,iI x4,iI x5] rfl rfl (λj u hj=>by rw[show Addr.add ⟨bx,0,none⟩ j=⟨bx,j,none⟩by unfold Addr.add;split <;> simp_all];exact(I.o.gr ((Gr.refl w1).alloc (.cells #[.int .i64 x0] 3))).cell hj) (by simp[Value.oneCell']) Ω (by unfold maxLen;omega) Ω (ζe _) (w1.heap.size+1) (by simp) ?_;intro g3 c3 w3 N J Xp Xh;have G:=ι N;have Xf:=ι ((((Gr.refl w1).alloc (.cells #[.int .i64 x0] 3)).touch _).trans (ER J (λk=>w1.heap.size<=k) (λk e _=>by cases e;exact ϑ _)));clear N J Xp Xh);have Z:=ι (Xt.o.trans ((Xf.o.mono (T:=λ_=>False) (λk hk e=>by omega)).gr));have HC:Hid (∀V,Gr w3 V->∀j,j<6->V.cell? ⟨g3,j,none⟩=some (iI ([x0,x1,x2,x3,x4,x5].getD j 0))/\g3<V.heap.size):=⟨λV gV j hj=>⟨BP (CM G.o gV) (by rcases(by omega:j=0\/j=1\/j=2\/j=3\/j=4\/j=5)with rfl|rfl|rfl|rfl|rfl|rfl <;> rfl),(BB (CM G.o gV) rfl).2⟩⟩;have Xr:=ι (I.o.touch Xf.o (λe=>by omega));have Xn:Hid (6<=c3):=⟨by obtain⟨_,_,e,-,h,-,-⟩:=EX G.o (by decide);cases e;exact h⟩;have HL:=ι (show [x0,x1,x2,x3,x4,x5].length=6 from rfl);generalize hL:[x0,x1,x2,x3,x4,x5]=L at HC HL
 replace hL:=ι hL
 clear HR HW Xk xl Xg Xt I Yb G Xf Xj Xq Xv Xl;go_upto_region 5 with(fail)
 go_loopw [26] (λs26 wr=>∃k:Nat,k<=6/\s26=iI k/\Hid (Gr w3 wr)/\Hid (∀j,j<k->0<=L.getD j 0/\L.getD j 0<c.sl)) (λs26 _=>6-(intOf s26).toNat)
 case atStart=>exact⟨0,by omega,rfl,⟨Gr.refl _⟩,⟨λj hj=>absurd hj (ζQ _)⟩⟩
 case round=>
  obtain⟨k,hk,rfl,HG,HA⟩:=hrel;by_cases Y:k<6
  ·obtain⟨x0,xl⟩:=HC.o _ HG.o k Y;have Ya:(k:Int)<6:=Ω
   generalize hx:L.getD k 0=x at x0;by_cases Xa:x<0
   ·have d0:decide (x<0)=true:=φ Xa;go_wp2;go_ret2;exact L7.bad hL.o (Y2 (by rw[HL.o];exact Y) (.inl (by rw[hx];exact Xa))) (by decide) (Z.o.trans HG.o)
   ·have d0:decide (x<0)=false:=ζ Xa;by_cases Xc:(c.sl:Int)<=x
    ·have d1:decide ((c.sl:Int)<=x)=true:=φ Xc;go_wp2_with(go_at_call 22;refine(O.o _ (Z.o.trans HG.o)).mono ?_;rintro e w4 ⟨rfl,hg⟩;have B:=ι (HG.o.trans hg);clear hg);go_ret2;exact L7.bad hL.o (Y2 (by rw[HL.o];exact Y) (.inr (by rw[hx];exact Xc))) (by decide) (Z.o.trans B.o)
    ·have d1:decide ((c.sl:Int)<=x)=false:=ζ Xc;go_wp2_with(go_at_call 22;refine(O.o _ (Z.o.trans HG.o)).mono ?_;rintro e w4 ⟨rfl,hg⟩;have B:=ι (HG.o.trans hg);clear hg);go_round
     case rel=>exact⟨k+1,by omega,by go_num,B,⟨λj hj=>by rcases ψf.1 hj with h|rfl;exact HA.o j h;rw[hx];exact⟨by omega,by omega⟩⟩⟩
     case measure=>have:=Y;simp[intOf];omega
  ·obtain rfl:k=6:=Ω
   clear Y hk O Xw Xy k1;have Yc:=Xn.o;go_upto_region 11 with(fail);obtain⟨wq,Xx⟩:∃wq,wq=wr:=⟨_,rfl⟩;subst Xx
   go_loopw [42] (λs42 wr=>∃k:Nat,k<=6/\s42=iI k/\Hid (wr=wq)/\Hid (∀i,i<k->∀j,j<i->L.getD i 0≠L.getD j 0)) (λs42 _=>6-(intOf s42).toNat)
   case atStart=>exact⟨0,by omega,rfl,⟨rfl⟩,⟨λj hj=>absurd hj (ζQ _)⟩⟩
   case round=>
    obtain⟨k,hk,rfl,hw,HD⟩:=hrel
    replace hw:=hw.o
    subst hw;by_cases Y:k<6
    ·obtain⟨x0,xl⟩:=HC.o _ HG.o k Y;have Ya:(k:Int)<6:=Ω
     have hkJ:(k:Int)<=c3:=Ω
     obtain⟨x,hx⟩:∃x,x=L.getD k 0:=⟨_,rfl⟩;rw[<-hx]at x0;have HX:=ι hx;clear hx;go_upto_region 14 with(fail)
     go_loopw [51] (λs51 wp=>∃m:Nat,m<=k/\s51=iI m/\Hid (wp=wr)/\Hid (∀j,j<m->x≠L.getD j 0)) (λs51 _=>k-(intOf s51).toNat)
     case atStart=>exact⟨0,by omega,rfl,⟨rfl⟩,⟨λj hj=>absurd hj (ζQ _)⟩⟩
     case round=>
      obtain⟨m,hm,rfl,hw,HE⟩:=hrel
      replace hw:=hw.o
      subst hw;by_cases Xs:m<k
      ·obtain⟨y0,yl⟩:=HC.o _ HG.o m Ω;have hmI:(m:Int)<k:=Ω
       obtain⟨y,hy⟩:∃y,y=L.getD m 0:=⟨_,rfl⟩;rw[<-hy]at y0;have HY:=ι hy;clear hy;by_cases E:x=y
       ·have d0:(x==y)=true:=ζ0.2 E;go_wp2;go_ret2;exact L7.bad hL.o (XHt (k:=k) (m:=m) (by rw[HL.o];exact Y) (λj hj=>HA.o j (by rw[<-HL.o];exact hj)) Xs (by rw[<-HX.o,<-HY.o];exact E)) (by decide) (Z.o.trans HG.o)
       ·have d0:(x==y)=false:=ζy.2 E;go_wp2;go_round
        case rel=>exact⟨m+1,by omega,by go_num,⟨by trivial⟩,⟨λj hj=>by rcases ψf.1 hj with h|rfl;exact HE.o j h;rw[<-HY.o];exact E⟩⟩
        case measure=>have:=Xs;simp[intOf];omega
      ·obtain rfl:m=k:=Ω
       go_wp2;go_round
       case rel=>exact⟨m+1,by omega,by go_num,⟨by trivial⟩,⟨λi hi=>by rcases ψf.1 hi with h|rfl;exact HD.o i h;rw[<-HX.o];exact HE.o⟩⟩
       case measure=>have:=Y;simp[intOf];omega
    ·obtain rfl:k=6:=Ω
     obtain rfl:=hL.o;clear Y hk hL HL;have a0:0<=x0/\x0<c.sl:=HA.o 0 (by decide);have a1:0<=x1/\x1<c.sl:=HA.o 1 (by decide);have a2:0<=x2/\x2<c.sl:=HA.o 2 (by decide);have a3:0<=x3/\x3<c.sl:=HA.o 3 (by decide);have a4:0<=x4/\x4<c.sl:=HA.o 4 (by decide);have a5:0<=x5/\x5<c.sl:=HA.o 5 (by decide);obtain⟨r,rfl⟩:∃r:Nat,x0=r:=⟨x0.toNat,by omega⟩;obtain⟨a,rfl⟩:∃r:Nat,x1=r:=⟨x1.toNat,by omega⟩;obtain⟨b,rfl⟩:∃r:Nat,x2=r:=⟨x2.toNat,by omega⟩;obtain⟨t,rfl⟩:∃r:Nat,x3=r:=⟨x3.toNat,by omega⟩;obtain⟨d,rfl⟩:∃r:Nat,x4=r:=⟨x4.toNat,by omega⟩;obtain⟨s,rfl⟩:∃r:Nat,x5=r:=⟨x5.toNat,by omega⟩
     have HM:Hid (FB c.sl [(r:Int),a,b,t,d,s]=0/\(∀j∈[r,a,b,t,d,s],j<c.sl)/\[r,a,b,t,d,s].Nodup):=by
      refine⟨TF (λj hj=>HA.o j hj) (λi hi=>HD.o i hi),?_,?_⟩
      ·intro j hj;simp only[ζB,ξ3,or_false]at hj;rcases hj with rfl|rfl|rfl|rfl|rfl|rfl <;> omega
      ·have q10:(a:Int)≠r:=HD.o 1 (by decide) 0 (by decide);have q20:(b:Int)≠r:=HD.o 2 (by decide) 0 (by decide);have q21:(b:Int)≠a:=HD.o 2 (by decide) 1 (by decide);have q30:(t:Int)≠r:=HD.o 3 (by decide) 0 (by decide);have q31:(t:Int)≠a:=HD.o 3 (by decide) 1 (by decide);have q32:(t:Int)≠b:=HD.o 3 (by decide) 2 (by decide);have q40:(d:Int)≠r:=HD.o 4 (by decide) 0 (by decide);have q41:(d:Int)≠a:=HD.o 4 (by decide) 1 (by decide);have q42:(d:Int)≠b:=HD.o 4 (by decide) 2 (by decide);have q43:(d:Int)≠t:=HD.o 4 (by decide) 3 (by decide);have q50:(s:Int)≠r:=HD.o 5 (by decide) 0 (by decide);have q51:(s:Int)≠a:=HD.o 5 (by decide) 1 (by decide);have q52:(s:Int)≠b:=HD.o 5 (by decide) 2 (by decide);have q53:(s:Int)≠t:=HD.o 5 (by decide) 3 (by decide);have q54:(s:Int)≠d:=HD.o 5 (by decide) 4 (by decide);simp only[ψp,ζB,ξ3,or_false,ξM,and_true,not_or,not_false_eq_true];omega
     have U:=ι (Z.o.trans HG.o);have RB:=Xr.o.gr HG.o;obtain⟨z0,z1,z2,z3,z4,zl⟩:=RB.k5;clear a0 a1 a2 a3 a4 a5 HA HD HC RB Xr Xn Yc HG Z;go_upto_region 21 with(fail);have Xo:=U.o.alloc (.cells #[.pointer (some ⟨hb,0,none⟩),.int .i64 r,.int .i64 a,.int .i64 b,.int .i64 t,.int .i64 d,.int .i64 s,.int .i64 0] 63);have Xb:=Rec.new wr 63 (quL hb r a b t d s 0);have HQ:Hid (A4 w0 (λk=>K k\/k=wr.heap.size) c hb wr.heap.size r a b t d s 0 g (wr.alloc (.cells #[.pointer (some ⟨hb,0,none⟩),.int .i64 r,.int .i64 a,.int .i64 b,.int .i64 t,.int .i64 d,.int .i64 s,.int .i64 0] 63))):=⟨((H.o.get U.o).own ((Gr.refl wr).alloc _) (λk hk=>hk.imp id (λe=>⟨by omega,by rw[e];exact Xb.lt⟩))),Xb,.inr rfl,χ H.o.gr.size U.o.size,Xu.o⟩;have HT:Hid (AB (hlT w0 (λk=>K k\/k=wr.heap.size)) w (wr.alloc (.cells #[.pointer (some ⟨hb,0,none⟩),.int .i64 r,.int .i64 a,.int .i64 b,.int .i64 t,.int .i64 d,.int .i64 s,.int .i64 0] 63))):=⟨Xo.touch _⟩;have Xi:=ι U.o.size;clear Xo Xb z0 z1 z2 z3 z4 zl H Xu U;generalize wr.alloc (.cells #[.pointer (some ⟨hb,0,none⟩),.int .i64 r,.int .i64 a,.int .i64 b,.int .i64 t,.int .i64 d,.int .i64 s,.int .i64 0] 63)=wz at HQ HT⊢;generalize wr.heap.size=qb at HQ HT Xi⊢;have c0:wz.cell? ⟨qb,0,none⟩=some (pP hb):=HQ.o.row.cc 0;have cl:=HQ.o.row.lt
     go_wp2_with(first
      | (go_at_call 23;refine(HQ.o.hv.clr _).mono ?_;intro e w1 ho;have hn:=HQ.o.nx HT.o ho;clear HT HQ c0 cl ho;obtain⟨rfl,HT,HQ,c0,cl⟩:=hn)
      | (go_at_call 24;refine(WS HQ.o).mono ?_;intro e w1 ho;have hn:=HQ.o.nx HT.o ho;clear HT HQ c0 cl ho;obtain⟨rfl,HT,HQ,c0,cl⟩:=hn))
     go_ret2;exact .inr ⟨HM.o.1,r,a,b,t,d,s,rfl,rfl,rfl,rfl,rfl,rfl,HM.o.2.1,HM.o.2.2,qb,rfl,HT.o.mono (λk _ hk=>⟨hk.1,λe=>hk.2 (.inl e)⟩),HQ.o,Xi.o⟩
theorem ZQd(ha:a<g.S.length)(C:Nat):g.alE C a ⟨2,1,1⟩=if C<g.words+5 then 21 else 0:=by
 unfold Gph.alE;rw[g.sl_lt ha,θ rfl,ψ (by decide),show B9 ⟨2,1,1⟩=5 by decide];by_cases h:C<g.words+5
 ·rw[θ h,θ Ω]
 ·rw[ψ h,ψ Ω]
structure CG(w0:World)(K:Nat->Prop)(c:HCf)(hb qb r a b t d s:Nat)(M:List (Nat×Nat))(w:World):Prop where
 ex:∃g R,A4 w0 K c hb qb r a b t d s M.length g w/\F5 g r a b t d s R/\R.its.Perm M
 cap:5*M.length<=c.wd
def P7(w0:World)(K:Nat->Prop)(c:HCf)(hb qb r a b t d s:Nat)(w:World)(v:Value)(M':List (Nat×Nat))(e:Ending)(w':World):Prop:=e=.returned v/\AB (λk=>hlT w0 K k\/k=qb) w w'/\CG w0 K c hb qb r a b t d s M' w'
section
variable{t:Nat}
theorem CG.grew(h:CG w0 K c hb qb r a b t d s M w):Gr w0 w:=by
 obtain⟨⟨g,R,q,p⟩,hc⟩:=h;exact q.hv.gr
theorem CG.len_le(h:CG w0 K c hb qb r a b t d s M w):M.length<=1000000:=by
 obtain⟨⟨g,R,q,p⟩,hc⟩:=h;have:=q.hv.facts.1.wd;omega
theorem CG.words(h:CG w0 K c hb qb r a b t d s M w):∃g R,A4 w0 K c hb qb r a b t d s M.length g w/\F5 g r a b t d s R/\R.its.Perm M/\g.all.length=M.length/\g.words=5*M.length:=by
 obtain⟨⟨g,R,q,p,pe⟩,hc⟩:=h;obtain⟨l1,l2⟩:=p.hs.live q.hv.facts.2.1 p.nd p.z;have e:R.ids.length=M.length:=by rw[<-BT.len_its,pe.length_eq]
 exact⟨g,R,q,p,pe,by rw[l1,e],by rw[l2,e]⟩
theorem CG.push(h:CG w0 K c hb qb r a b t d s M w)(hx:x<18446744073709551616)(hy:y<18446744073709551616):Calls prog 9 #[pP qb,.float .f64 x,uU y] w (P7 w0 K c hb qb r a b t d s w (iI (if c.wd<5*M.length+5 then 21 else 0)) (if c.wd<5*M.length+5 then M else (x,y) :: M)):=by
 have hn:=h.len_le;have Y:=h.cap;obtain⟨g,R,q,p,pe,-,hw⟩:=h.words;have he:=ZQd (p.q.lt a (by simp)) c.wd;rw[hw]at he;by_cases hf:c.wd<5*M.length+5
 ·rw[θ hf]at he⊢;rw[θ hf];refine(QMN q hx hy (by rw[he];decide)).mono ?_;rintro e w' ⟨rfl,ht,hq⟩;exact⟨by rw[he],ht.mono (λ_ _ h=>.inl h),⟨g,R,hq,p,pe⟩,Y⟩
 ·rw[ψ hf]at he⊢;rw[ψ hf];obtain⟨R',p',Z⟩:=p.push he (f:=x) (w:=y);refine(Y7Q q hx hy hn he).mono ?_;rintro e w' ⟨rfl,ht,hq⟩;exact⟨rfl,ht,⟨_,R',hq,p',Z.trans (pe.cons _)⟩,by rw[ζw];omega⟩
theorem CG.len(h:CG w0 K c hb qb r a b t d s M w):cQ 11 #[pP qb] w (iI M.length):=by
 obtain⟨⟨g,R,q,p⟩,hc⟩:=h;exact VPx q
theorem CG.node(h:CG w0 K c hb qb r a b t d s M w)(hM:M≠[]):∃g x f u k,A4 w0 K c hb qb r a b t d s M.length g w/\F5 g r a b t d s (.node x f u k .nil)/\M.Perm ((f,u) :: k.its)/\(f,u)∈M/\∀p∈M,leQ (f,u) p=true:=by
 obtain⟨⟨g,R,q,p,pe⟩,hc⟩:=h;rcases p.sr with rfl|⟨x,f,u,k,rfl⟩
 ·exact absurd pe.symm.eq_nil hM
 ·have e:(BT.node x f u k .nil).its=(f,u) :: k.its:=by simp[BT.its]
  have l:=BT.least p.hp;rw[e]at pe l;exact⟨g,x,f,u,k,q,p,pe.symm,pe.mem_iff.1 (ζh ..),λp hp=>l p (pe.mem_iff.2 hp)⟩
theorem CG.pop_no(h:CG w0 K c hb qb r a b t d s [] w):cQ 7 #[pP qb] w (.tuple #[.float .f64 0,uU 0,iI 6]):=by
 obtain⟨⟨g,R,q,p⟩,hc⟩:=h;exact VCk q
theorem CG.pop(h:CG w0 K c hb qb r a b t d s M w)(hM:M≠[]):∃(f u:Nat) (M':List (Nat×Nat)),M.Perm ((f,u) :: M')/\(∀p∈M,leQ (f,u) p=true)/\Calls prog 7 #[pP qb] w (P7 w0 K c hb qb r a b t d s w (.tuple #[.float .f64 f,uU u,iI 0]) M'):=by
 have hn:=h.len_le;have hcap:=h.cap;obtain⟨g,x,f,u,k,q,p,pe,hm,hl⟩:=h.node hM;have e:=pe.length_eq;rw[ζw]at e;rw[e]at q;refine⟨f,u,k.its,pe,hl,(YLH q Ω p).mono ?_⟩;rintro e' w' ⟨g',R',rfl,ht,hq,p',Y⟩;exact⟨rfl,ht,⟨g',R',hq,p',Y⟩,by omega⟩
theorem CG.live(h:CG w0 K c hb qb r a b t d s M w):Calls prog 19 #[pP hb] w (P7 w0 K c hb qb r a b t d s w (.tuple #[iI M.length,iI (5*M.length:Nat)]) M):=by
 have hq:=h.cap;obtain⟨g,R,q,p,pe,e1,e2⟩:=h.words;have hl:=q.hv.live;rw[e1,e2]at hl;refine hl.mono ?_;rintro e w' ⟨rfl,ht,hl⟩;exact⟨rfl,ht.mono (λ_ _ h=>.inl h),⟨g,R,q.next ht hl,p,pe⟩,hq⟩
end
theorem MU(h:a<n)(L:List GOb):Gph.clG ⟨L,List.replicate n 0⟩ a=⟨L,List.replicate n 0⟩:=by
 grind [Gph.clG_ok,List.set_replicate_self]
theorem JvX{t:Nat}(h:∀j∈[r,a,b,t,d,s],j<n):GI a b t d s (Gph.clG ⟨[],List.replicate n 0⟩ r)=⟨[],List.replicate n 0⟩:=by
 unfold GI;rw[MU (h r (by simp)),MU (h a (by simp)),MU (h b (by simp)),MU (h t (by simp)),MU (h d (by simp)),MU (h s (by simp))]
theorem VOC(h:HLv w0 K c hb (Gph.nil c.sl) w)(hw0:1<w0.heap.size)(x0 x1 x2 x3 x4 x5:Int):Calls prog 6 #[pP hb,iI x0,.agg #[iI x1,iI x2,iI x3,iI x4,iI x5]] w λe w'=>
  (FB c.sl [x0,x1,x2,x3,x4,x5]≠0/\e=.returned (.tuple #[.pointer none,iI (FB c.sl [x0,x1,x2,x3,x4,x5])])/\Gr w w') ∨
  (FB c.sl [x0,x1,x2,x3,x4,x5]=0/\∃r a b t d s qb:Nat,e=.returned (.tuple #[pP qb,iI 0])/\AB (hlT w0 K) w w'/\CG w0 (λk=>K k\/k=qb) c hb qb r a b t d s [] w'/\w.heap.size<=qb):=by
 refine(XW8 h hw0 x0 x1 x2 x3 x4 x5).mono ?_;rintro e w' (hn|⟨hm,r,a,b,t,d,s,-,-,-,-,-,-,hl,hd,qb,he,ht,hq,hs⟩)
 ·exact .inl hn
 ·rw[show Gph.nil c.sl=⟨[],List.replicate c.sl 0⟩from rfl,JvX hl]at hq;exact .inr ⟨hm,r,a,b,t,d,s,qb,he,ht,⟨⟨_,.nil,hq,Yf8 hd hl,.nil⟩,ζe _⟩,hs⟩
theorem HLv.wr(h:HLv w0 K c hb g w)(t:AB R w w')(hR:∀k,R k->K k/\w0.heap.size<=k)(ht:1<w0.heap.size):HLv w0 (λk=>K k\/(w.heap.size<=k/\k<w'.heap.size)) c hb g w':=by
 obtain⟨h1,⟨s,e1,e2,e3,e4⟩,h3⟩:=h;refine⟨?_,⟨s.cut w,e1,e2.cut.touch t (λk _ hk=>⟨λhs=>(e4 k (HSt.cut_S e2 k hs).1).2 (hR k hk).1,λe=>by have:=(hR k hk).2;omega⟩),e3,λk hk=>?_⟩,λk hk=>?_⟩
 ·exact((h1.touch R).trans t |>.mono (T:=λ_=>False) (λk hk e=>by have:=(hR k e).2;omega)).gr
 ·obtain⟨k1,k2⟩:=HSt.cut_S e2 k hk;exact⟨(e4 k k1).1,λh=>h.elim (e4 k k1).2 (λh=>by omega)⟩
 ·exact hk.elim (λh=>κ (h3 k h) t.size) (λh=>h.2)
structure S40(w0:World)(X:Nat->Prop)(c:HCf)(hb qb r a b t d s:Nat)(M:List (Nat×Nat))(w:World):Prop where
 ex:∃K:Nat->Prop,CG w0 K c hb qb r a b t d s M w/\∀k,X k->K k/\w0.heap.size<=k/\k≠qb
 tb:1<w0.heap.size
section
variable{X X':Nat->Prop}{t:Nat}{f:FuncId}
theorem CG.wr'(h:CG w0 K c hb qb r a b t d s M w)(t':AB R w w')(hR:∀k,R k->K k/\w0.heap.size<=k/\k≠qb)(ht:1<w0.heap.size):CG w0 (λk=>K k\/(w.heap.size<=k/\k<w'.heap.size)) c hb qb r a b t d s M w':=by
 obtain⟨⟨g,T,q,p⟩,hc⟩:=h;exact⟨⟨g,T,⟨q.hv.wr t' (λk hk=>⟨(hR k hk).1,(hR k hk).2.1⟩) ht,q.row.touch t' (λe=>(hR qb e).2.2 rfl),.inl q.kl,q.ql,q.tb⟩,p⟩,hc⟩
theorem S40.grew(h:S40 w0 X c hb qb r a b t d s M w):Gr w0 w:=by
 obtain⟨⟨K,h1,h2⟩,ht⟩:=h;exact h1.grew
theorem S40.own(h:S40 w0 X c hb qb r a b t d s M w)(g:Gr w w')(hX:∀k,X' k->X k\/(w.heap.size<=k/\k<w'.heap.size)):S40 w0 X' c hb qb r a b t d s M w':=by
 obtain⟨⟨K,h1,h4⟩,ht⟩:=h;have hz:=h1.grew.size
 have hlb:qb<w.heap.size:=by
  obtain⟨⟨g,T,a,b⟩,hc⟩:=h1;exact a.row.lt
 refine⟨⟨_,h1.wr' (g.touch (λ_=>False)) (λ_ h=>h.elim) ht,λk hk=>?_⟩,ht⟩;rcases hX k hk with h|h
 ·obtain⟨q1,q2,q3⟩:=h4 k h;exact⟨.inl q1,q2,q3⟩
 ·exact⟨.inr h,by omega,by omega⟩
theorem S40.wr(h:S40 w0 X c hb qb r a b t d s M w)(t':AB X w w'):S40 w0 X c hb qb r a b t d s M w':=by
 obtain⟨⟨K,h1,h4⟩,ht⟩:=h;exact⟨⟨_,h1.wr' t' (λk hk=>⟨(h4 k hk).1,(h4 k hk).2.1,(h4 k hk).2.2⟩) ht,λk hk=>⟨.inl (h4 k hk).1,(h4 k hk).2⟩⟩,ht⟩
def KU(w0:World)(X:Nat->Prop)(c:HCf)(hb qb r a b t d s:Nat)(w:World)(v:Value)(M':List (Nat×Nat))(e:Ending)(w':World):Prop:=e=.returned v/\AB (λk=>¬X k) w w'/\S40 w0 X c hb qb r a b t d s M' w'
theorem S40.qu(h:S40 w0 X c hb qb r a b t d s M w)(hc:∀K,CG w0 K c hb qb r a b t d s M w->Calls prog f args w (P7 w0 K c hb qb r a b t d s w v M')):Calls prog f args w (KU w0 X c hb qb r a b t d s w v M'):=by
 obtain⟨⟨K,h1,h4⟩,ht⟩:=h;refine(hc K h1).mono ?_;rintro e w' ⟨rfl,t',hl⟩;exact⟨rfl,t'.mono (λk _ e hx=>e.elim (λe=>e.2 (h4 k hx).1) (h4 k hx).2.2),⟨K,hl,h4⟩,ht⟩
theorem S40.push(h:S40 w0 X c hb qb r a b t d s M w)(hx:x<18446744073709551616)(hy:y<18446744073709551616):Calls prog 9 #[pP qb,.float .f64 x,uU y] w (KU w0 X c hb qb r a b t d s w (iI (if c.wd<5*M.length+5 then 21 else 0)) (if c.wd<5*M.length+5 then M else (x,y) :: M)):=h.qu λ_ hq=>hq.push hx hy
theorem S40.pop(h:S40 w0 X c hb qb r a b t d s M w)(hM:M≠[]):∃(f u:Nat) (M':List (Nat×Nat)),M.Perm ((f,u) :: M')/\(∀p∈M,leQ (f,u) p=true)/\Calls prog 7 #[pP qb] w (KU w0 X c hb qb r a b t d s w (.tuple #[.float .f64 f,uU u,iI 0]) M'):=by
 obtain⟨⟨K,h1,h4⟩,ht⟩:=h;obtain⟨f,u,M',e1,hl,hc⟩:=h1.pop hM;refine⟨f,u,M',e1,hl,hc.mono ?_⟩;rintro e w' ⟨rfl,t',hl⟩;exact⟨rfl,t'.mono (λk _ e hx=>e.elim (λe=>e.2 (h4 k hx).1) (h4 k hx).2.2),⟨K,hl,h4⟩,ht⟩
theorem S40.pop_no(h:S40 w0 X c hb qb r a b t d s [] w):Calls prog 7 #[pP qb] w (KU w0 X c hb qb r a b t d s w (.tuple #[.float .f64 0,uU 0,iI 6]) []):=h.qu λ_ hq=>hq.pop_no.mono λe w' ⟨h1,h2⟩=>by subst h2;exact⟨h1,.refl _ _,hq⟩
theorem S40.len0(h:S40 w0 X c hb qb r a b t d s M w):Calls prog 11 #[pP qb] w (KU w0 X c hb qb r a b t d s w (iI M.length) M):=h.qu λ_ hq=>hq.len.mono λe w' ⟨h1,h2⟩=>by subst h2;exact⟨h1,.refl _ _,hq⟩
theorem S40.live(h:S40 w0 X c hb qb r a b t d s M w):Calls prog 19 #[pP hb] w (KU w0 X c hb qb r a b t d s w (.tuple #[iI M.length,iI (5*M.length:Nat)]) M):=h.qu λ_ hq=>hq.live
theorem S40.step(h:S40 w0 X c hb qb r a b t d s M w):Calls prog 15 #[pP hb] w λe w'=>∃z:Bool,KU w0 X c hb qb r a b t d s w (.bool z) M e w':=by
 obtain⟨⟨K,⟨⟨gg,T,q,p⟩,hq⟩,h4⟩,ht⟩:=h;refine q.hv.step.mono ?_;rintro e w' ⟨bb,rfl,t',hl⟩;exact⟨bb,rfl,t'.mono (λk _ e hx=>e.2 (h4 k hx).1),⟨K,⟨⟨gg,T,q.next t' hl,p⟩,hq⟩,h4⟩,ht⟩
end
def EB(w:World)(mb n:Nat)(M:List (Nat×Nat)):Prop:=∃f,EH prog 22 w mb n f/\∀b:Nat,b<18446744073709551616->(f b).getD (iI 0)=iI ((M.map Prod.fst).count b:Nat)
theorem EB.made(w:World):EB (w.alloc (.map #[] 0)) w.heap.size 0 []:=⟨_,EH.made w,λ_ _=>rfl⟩
theorem EB.touch{S:Nat->Prop}(h:EB w mb n M)(t:AB S w w')(hS:¬S mb):EB w' mb n M:=by
 obtain⟨f,h,h2⟩:=h;exact⟨f,h.touch t hS,h2⟩
theorem EB.mono(h:EB w mb n M)(hm:n<=m):EB w mb m M:=by
 obtain⟨f,h,h2⟩:=h;exact⟨f,h.mono hm,h2⟩
theorem O4:Maps.Keyed prog 22:=Maps.int_keyed underlying22
theorem ZGR(w:World):(zeroValue 3).run prog w=.ok (iI 0) w:=by kernel_rfl
section
variable{fm:Int->Option Value}
theorem EB.look(h:EB w mb n M)(hb:b<18446744073709551616):(Instr.lookup 45 (.map (some mb)) (uU b) false).run prog w=.ok (iI ((M.map Prod.fst).count b:Nat)) w:=by
 obtain⟨f,h,h2⟩:=h;rw[h.look O4 underlying45 underlying22 (ZGR w) (WalkArith.wf_u64 Ω),h2 b hb]
theorem EB.of{v:Nat}(h:EH prog 22 w mb n (λy=>if y=(x:Int)then some (iI (v:Nat))else fm y))(hc:∀b:Nat,b<18446744073709551616->(fm b).getD (iI 0)=iI ((M.map Prod.fst).count b:Nat))
  (hv:∀b:Nat,(M'.map Prod.fst).count b=if b=x then v else (M.map Prod.fst).count b):EB w mb n M':=⟨_,h,λb hb=>by
 rw[hv b];by_cases e:b=x
 ·rw[θ Ω,θ e];rfl
 ·rw[ψ Ω,ψ e];exact hc b hb⟩
end
theorem YmA{w g v:Nat}(h:leQ (f,w) (g,v)=true)(hn:w≠v):E9 g f=false/\(f=g->w<v):=by
 unfold leQ at h;simp only[ζW,ζd,ζ0,ζc]at h;refine⟨?_,λe=>?_⟩
 ·rcases h with h|⟨rfl,-⟩
  ·revert h;unfold E9;by_cases a1:sgN<=f <;> by_cases a2:sgN<=g <;> simp[a1,a2] <;> omega
  ·unfold E9;simp
 ·subst e;rcases h with h|⟨-,h⟩
  ·unfold E9 at h;simp at h
  ·omega
theorem JTM{M M':List (Nat×Nat)}{g v:Nat}(hp:M.Perm ((g,v) :: M')):(M.map Prod.fst).count g=(M'.map Prod.fst).count g+1:=by
 rw[(hp.map _).count_eq];simp
theorem ZW{W:World}{c:CfI}(h:Rec W b 40 (G9 c)):W.cell? ⟨b,0,none⟩=some (iI c.kd)/\W.cell? ⟨b,1,none⟩=some (iI c.pg)/\W.cell? ⟨b,2,none⟩=some (iI c.bk)/\W.cell? ⟨b,3,none⟩=some (iI c.wd)/\W.cell? ⟨b,4,none⟩=some (iI c.sl)/\W.cell? ⟨b,5,none⟩=some (iI c.st)/\W.cell? ⟨b,6,none⟩=some (iI c.ah)/\W.cell? ⟨b,7,none⟩=some (.float .f64 c.tr)/\b<W.heap.size:=
 ⟨h.cc 0,h.cc 1,h.cc 2,h.cc 3,h.cc 4,h.cc 5,h.cc 6,h.cc 7,h.lt⟩
theorem YUJ(c:CfI)(hn:n<=120)(A:Option Addr)(cap:Nat)(w:World):Calls prog 13 #[c.V,.slice A n cap] w λe w'=>e=.returned (.bool (decide (2048<c.wd)))/\Gr w w':=by
 have hr:=Rec.new w 40 (G9 c);have HG:=ι ((Gr.refl w).alloc (.cells (G9 c).toArray 40));have c3:=hr.cc 3;have cl:=hr.lt;have hd:decide ((120:Int)<(n:Int))=false:=ζ Ω;unfold CfI.V;unfold G9 at c3 cl HG;clear hr hn;cases hb:decide ((2048:Int)<c.wd)
 all_goals
  go_enter func13,ntmps13;go_wp2;go_ret;exact⟨rfl,HG.o⟩
def RM:CfI:=⟨1,4,4,16,6,1,0,0⟩
def PC(k:Nat):List (Nat×Nat):=(([(9221120237041090560,5),(9223372036854775808,5),(0,5)]:List (Nat×Nat)).take k).reverse
theorem JYV{M:List (Nat×Nat)}(h:(PC 3).Perm ((f,u) :: M))(hl:∀p∈PC 3,leQ (f,u) p=true):f=9223372036854775808/\u=5/\M.Perm [(0,5),(9221120237041090560,5)]:=by
 have e:PC 3=[(0,5),(9223372036854775808,5),(9221120237041090560,5)]:=rfl;rw[e]at h hl;have hm:(f,u)∈[(0,5),(9223372036854775808,5),(9221120237041090560,5)]:=h.mem_iff.2 (ζh ..);simp only[ζB,ξ3,or_false,Prod.mk.injEq]at hm;rcases hm with⟨rfl,rfl⟩|⟨rfl,rfl⟩|⟨rfl,rfl⟩
 ·exact absurd (hl (9223372036854775808,5) (by simp)) (by decide)
 ·exact⟨rfl,rfl,(((List.Perm.swap ..).trans h).cons_inv).symm⟩
 ·exact absurd (hl (9223372036854775808,5) (by simp)) (by decide)
theorem JWn{M M':List (Nat×Nat)}(hM:M.Perm [(0,5),(9221120237041090560,5)])(h:M.Perm ((f,u) :: M'))(hl:∀p∈M,leQ (f,u) p=true):f=0/\M'.length=1:=by
 have hn:=(hM.symm.trans h).length_eq;have hm:(f,u)∈[(0,5),(9221120237041090560,5)]:=hM.mem_iff.1 (h.mem_iff.2 (ζh ..));have h0:=hl (0,5) (hM.mem_iff.2 (by simp));simp only[ζB,ξ3,or_false,Prod.mk.injEq]at hm;rcases hm with⟨rfl,rfl⟩|⟨rfl,rfl⟩
 ·exact⟨rfl,by simpa using hn.symm⟩
 ·exact absurd h0 (by decide)
theorem V0X:RM.may=true:=by decide +kernel
theorem JT7(w:World)(hT:AQ w):Calls prog 12 #[] w λe w'=>e=.returned (.bool true)/\Gr w w':=by
 have B:=ι hT.lt;have U:=(Xcy RM ⟨by show (4:Int)<=_;decide,by show (4:Int)<=_;decide,by show (16:Int)<=_;decide⟩ V0X w hT);obtain⟨d,hd⟩:∃d,d=RM.nat:=⟨_,rfl⟩;have HD:Hid (d.wd=16/\d.sl=6):=⟨by rw[hd];exact⟨rfl,rfl⟩⟩;rw[<-hd]at U;unfold CfI.V RM at U;clear hT hd;go_enter func12,ntmps12;go_upto_region 2 with(go_at_call 14;refine(U).mono ?_;rintro e w1 ⟨s,rfl,hn⟩;have HN:=hn;clear hn);have J:=HLv.new HN;obtain⟨hb,N⟩:∃hb,hb=s.A.hp:=⟨_,rfl⟩;rw[<-N]at J⊢;have I:=VOC J B.o 0 1 2 3 4 5;have hm:FB d.sl [0,1,2,3,4,5]=0:=by rw[HD.o.2];exact TF (by decide) (by decide)
 rw[hm]at I;clear J N hm;go_upto_region 5 with(go_at_call 6;refine(I).mono ?_;rintro e w2 (⟨G,-⟩|⟨-,r,a,b,t,d',s',qb,rfl,ht,hl,-⟩);exact absurd rfl G;have HT:=ι ht;have HS:=ι hl;clear ht hl);have i0:∀V,(Instr.index 75 (.agg #[uU 9221120237041090560,uU 9223372036854775808,uU 0]) (iI 0)).run prog V=.ok (uU 9221120237041090560) V:=λ_=>by kernel_rfl
 have i1:∀V,(Instr.index 75 (.agg #[uU 9221120237041090560,uU 9223372036854775808,uU 0]) (iI 1)).run prog V=.ok (uU 9223372036854775808) V:=λ_=>by kernel_rfl
 have i2:∀V,(Instr.index 75 (.agg #[uU 9221120237041090560,uU 9223372036854775808,uU 0]) (iI 2)).run prog V=.ok (uU 0) V:=λ_=>by kernel_rfl
 go_upto_region 6 with(fail)
 go_loopw [31] (λs31 wr=>∃k:Nat,k<=3/\Hid (CG w (λk=>False\/k=qb) d hb qb r a b t d' s' (PC k) wr)/\s31=iI k) (λs31 _=>3-(intOf s31).toNat)
 case atStart=>exact⟨0,by omega,HS,rfl⟩
 case round=>
  clear HS HT;obtain⟨k,hk,HS,rfl⟩:=hrel;by_cases Y:k<3
  ·have Xa:k=0\/k=1\/k=2:=Ω
   clear Y hk;rcases Xa with rfl|rfl|rfl
   ·have HP:=HS.o.push (x:=9221120237041090560) (y:=5) (by decide) (by decide);rw[ψ (by rw[HD.o.1];decide),ψ (by rw[HD.o.1];decide)]at HP
    go_wp2_with(first
     | (go_at_call 10;refine AJ (LJ _ _) ?_)
     | (go_at_call 9;refine HP.mono ?_;rintro e w3 ⟨rfl,ht,hl⟩;have Z:=ι hl;clear ht hl))
    go_round
    case rel=>exact⟨1,by omega,Z,by go_num⟩
    case measure=>simp[intOf]
   ·have HP:=HS.o.push (x:=9223372036854775808) (y:=5) (by decide) (by decide);rw[ψ (by rw[HD.o.1];decide),ψ (by rw[HD.o.1];decide)]at HP
    go_wp2_with(first
     | (go_at_call 10;refine AJ (LJ _ _) ?_)
     | (go_at_call 9;refine HP.mono ?_;rintro e w3 ⟨rfl,ht,hl⟩;have Z:=ι hl;clear ht hl))
    go_round
    case rel=>exact⟨2,by omega,Z,by go_num⟩
    case measure=>simp[intOf]
   ·have HP:=HS.o.push (x:=0) (y:=5) (by decide) (by decide);rw[ψ (by rw[HD.o.1];decide),ψ (by rw[HD.o.1];decide)]at HP
    go_wp2_with(first
     | (go_at_call 10;refine AJ (LJ _ _) ?_)
     | (go_at_call 9;refine HP.mono ?_;rintro e w3 ⟨rfl,ht,hl⟩;have Z:=ι hl;clear ht hl))
    go_round
    case rel=>exact⟨3,by omega,Z,by go_num⟩
    case measure=>simp[intOf]
  ·obtain rfl:k=3:=Ω
   clear Y hk;obtain⟨f,u,M,h1,h2,HP⟩:=HS.o.pop (by decide);obtain⟨rfl,rfl,h3⟩:=JYV h1 h2;clear h1 h2;have H3:=ι h3;clear h3;go_upto_region 12 with(go_at_call 7;refine HP.mono ?_;rintro e w3 ⟨rfl,ht,hl⟩;have L:=ι hl;clear ht hl);clear HP HS;obtain⟨f,u,M',h1,h2,HP⟩:=L.o.pop (λe=>by have:=H3.o.length_eq;rw[e]at this;cases this);obtain⟨rfl,h4⟩:=JWn H3.o h1 h2;clear h1 h2 H3;go_upto_region 13 with(go_at_call 7;refine HP.mono ?_;rintro e w4 ⟨rfl,ht,hl⟩;have E:=ι hl;clear ht hl);clear HP L;have O:=ι E.o.len;rw[h4]at O
   go_wp2_with(first
    | (go_at_call 18;refine AJ (JR _ _) ?_)
    | (go_at_call 11;refine AJ (O.o) ?_))
   go_ret;exact⟨rfl,E.o.grew⟩
structure YgI(w0:World)(mb:Nat)(c:HCf)(hb qb r a b t d s i:Nat)(M:List (Nat×Nat))(w:World):Prop where
 q:S40 w0 (λk=>k=mb) c hb qb r a b t d s M w
 m:EB w mb i M
 bd:∀p∈M,p.1<18446744073709551616/\p.2<i
 nd:(M.map Prod.snd).Nodup
 ln:M.length=min i (c.wd/5)
structure TA(w0:World)(mb:Nat)(c:HCf)(hb qb r a b t d s n j f u:Nat)(M:List (Nat×Nat))(w:World):Prop where
 q:S40 w0 (λk=>k=mb) c hb qb r a b t d s M w
 m:EB w mb (60+j) M
 bd:∀p∈M,p.1<18446744073709551616/\p.2<60
 nd:(M.map Prod.snd).Nodup
 ln:M.length+j=n
 fu:f<18446744073709551616
 up:j=0\/∀p∈M,leQ (f,u) p=true/\u≠p.2
section
variable{t:Nat}
theorem S40.new(h:CG w0 K c hb qb r a b t d s [] w)(ht:1<w0.heap.size):S40 w0 (λk=>k=w.heap.size) c hb qb r a b t d s [] (w.alloc (.map #[] 0)):=
 S40.own (X:=λ_=>False) ⟨⟨K,h,λ_ h=>h.elim⟩,ht⟩ ((Gr.refl w).alloc _) (λk hk=>.inr ⟨by omega,by rw[γ];omega⟩)
theorem Q6f(h:HLv w0 K c hb (Gph.nil c.sl) w)(hw0:1<w0.heap.size)(hs:c.sl=6):Calls prog 6 #[pP hb,iI 3,.agg #[iI 5,iI 0,iI 4,iI 1,iI 2]] w λe w'=>∃r a b t d s qb:Nat,e=.returned (.tuple #[pP qb,iI 0])/\CG w0 (λk=>K k\/k=qb) c hb qb r a b t d s [] w':=by
 refine(VOC h hw0 3 5 0 4 1 2).mono ?_;rintro e w' (⟨h,-⟩|⟨-,r,a,b,t,d,s,qb,h1,-,h2,-⟩)
 ·exact absurd (by rw[hs];exact TF (by decide) (by decide)) h
 ·exact⟨r,a,b,t,d,s,qb,h1,h2⟩
theorem V4K(hT:AQ w)(c:CfI)(hc:c.Bd){A:Option Addr}{cap:Nat}{l:List Nat}(hA:OY w A l)(hl:l.length<=maxLen):Calls prog 4 #[c.V,.slice A l.length cap] w λe w'=>e=.returned (.bool true)/\Gr w w':=by
 unfold maxLen at hl;obtain⟨kd,pg,bk,wd,sl,st,ah,tr⟩:=c;obtain⟨c0,Yc⟩:∃c0:CfI,c0=⟨kd,pg,bk,wd,6,st,ah,tr⟩:=⟨_,rfl⟩;have hc:c0.Bd:=by rw[Yc];exact hc
 obtain⟨w1,Xz⟩:∃w1,w1=w.alloc (.cells (G9 ⟨kd,pg,bk,wd,6,st,ah,tr⟩).toArray 40):=⟨_,rfl⟩;have Xi:Hid (Gr w w1):=⟨by rw[Xz];exact(Gr.refl w).alloc _⟩;have Xw:Hid (Rec w1 w.heap.size 40 (G9 c0)):=⟨by rw[Xz,Yc];exact Rec.new w _ _⟩;have HL:=ι (λ(V:World) (g:Gr w V)=>JT7 V (g.tab hT.lt hT));have Yx:Hid (∀V,Gr w V->1<V.heap.size):=⟨λV g=>κ hT.lt g.size⟩;have Yb:=ι Xz;have HA:=ι hA;obtain⟨N,hN⟩:∃N,N=l.length:=⟨_,rfl⟩;have HN:=ι hN;rw[<-hN]at hl⊢;have O:=ι (λ(V:World)=>YUJ c0 (n:=0) Ω none 0 V);have Za:=ι (λ(V:World) (g:Gr w1 V)=>ZW (Xw.o.gr g));have Yn:Hid (∀V,Gr w1 V->V.cell? ⟨w.heap.size,3,none⟩=some (.int .i64 c0.wd)/\w.heap.size<V.heap.size):=⟨λV g=>⟨(Xw.o.gr g).cell (j:=3) rfl,(Xw.o.gr g).lt⟩⟩;have Xd:Hid (∀V,Gr w V->c0.may=true->Calls prog 14 #[c0.V] V λe w'=>∃s,e=.returned (.tuple #[pP s.A.hp,.int .i64 0])/\XK V c0.nat s w'):=⟨λV g hm=>Xcy c0 hc hm V (g.tab hT.lt hT)⟩;have Xq:=ι (λ(V:World) hm=>YnZ c0 hc hm V);have Yl:c0.nat.sl=6:=by rw[Yc];rfl
 unfold CfI.V;unfold G9 at Yb;dsimp only at Yb⊢;clear Xz hA hN hc Yc;go_enter func4,ntmps4;go_upto_region 2 with(fail);rw[<-Yb.o];clear Yb;obtain⟨b0,b1,b2,b3,b4,b5,b6,b7,bl⟩:=ZW Xw.o;by_cases hf:2048<c0.wd
 ·have d0:decide (2048<c0.wd)=true:=φ hf;rw[d0]at O;unfold CfI.V at O;clear hf d0
  go_wp2_with(first
   | (go_at_call 13;refine(O.o _).mono ?_;rintro e w2 ⟨rfl,hg⟩;have J:=ι (Xi.o.trans hg);clear hg)
   | (go_at_call 12;refine(HL.o _ J.o).mono ?_;rintro e w3 ⟨rfl,hg⟩;have Xc:=ι (J.o.trans hg);clear hg))
  go_ret;exact⟨rfl,Xc.o⟩
 have d0:decide (2048<c0.wd)=false:=ζ hf;rw[d0]at O;by_cases hn:60<N
 ·have Ja:(60:Int)<(N:Int):=Ω
  unfold CfI.V at O;clear hf hn d0
  go_wp2_with(first
   | (go_at_call 13;refine(O.o _).mono ?_;rintro e w2 ⟨rfl,hg⟩;have J:=ι (Xi.o.trans hg);clear hg)
   | (go_at_call 12;refine(HL.o _ J.o).mono ?_;rintro e w3 ⟨rfl,hg⟩;have Xc:=ι (J.o.trans hg);clear hg))
  go_ret;exact⟨rfl,Xc.o⟩
 have Ja:¬(60:Int)<(N:Int):=Ω
 by_cases hm:c0.may=true
 case neg=>
  have Xq:=ι (λV=>Xq.o V (by simpa using hm));unfold CfI.V at O Xq;clear hf hn d0 hm Xd
  go_wp2_with(first
   | (go_at_call 13;refine(O.o _).mono ?_;rintro e w2 ⟨rfl,hg⟩;have J:=ι hg;obtain⟨a0,a1,a2,a3,a4,a5,a6,a7,al⟩:=Za.o _ hg;clear hg)
   | (go_at_call 14;refine(Xq.o _).mono ?_;rintro e w3 ⟨rfl,hg⟩;have Xc:=ι ((Xi.o.trans J.o).trans hg);clear hg)
   | (go_at_call 12;refine(HL.o _ Xc.o).mono ?_;rintro e w4 ⟨rfl,hg⟩;have Zw:=ι (Xc.o.trans hg);clear hg))
  go_ret;exact⟨rfl,Zw.o⟩
 obtain⟨d,hd⟩:∃d,d=c0.nat:=⟨_,rfl⟩;have Zf:=CfI.base_in (c:=c0) (by unfold CfI.may at hm;simp at hm;exact hm.1);have Zc:c0.wd=(d.wd:Int):=by rw[hd];exact(ξJ (by have:=IT Zf.1.2.2.2.2.1;omega)).symm
 have Xd:=ι (λV g=>Xd.o V g hm);rw[<-hd]at Xd Yl;rw[Zc]at Yn hf;have HD:Hid (d.wd<=2048):=⟨by omega⟩;have I:Hid (N<=60):=⟨by omega⟩;unfold CfI.V at O Xd;clear hf hn d0 hm Xq Zf Zc hd
 go_upto_region 5 with(first
  | (go_at_call 13;refine(O.o _).mono ?_;rintro e w2 ⟨rfl,hg⟩;have J:=ι hg;obtain⟨a0,a1,a2,a3,a4,a5,a6,a7,al⟩:=Za.o _ hg;clear hg)
  | (go_at_call 14;refine(Xd.o _ (Xi.o.trans J.o)).mono ?_;rintro e w3 ⟨s,rfl,hn⟩;have Yz:=ι hn;clear hn))
 have B:=ι (Xi.o.trans J.o);have hv:=HLv.new Yz.o;obtain⟨hb,Zg⟩:∃hb,hb=s.A.hp:=⟨_,rfl⟩;rw[<-Zg]at hv⊢;have Yv:=ι (Q6f hv (Yx.o _ B.o) Yl);clear hv Zg Yz b0 b1 b2 b3 b4 b5 b6 b7 bl a0 a1 a2 a3 a4 a5 a6 a7 al Yl;have Zp:=@run_makeMap prog;go_upto_region 11 with(go_at_call 6;refine(Yv.o).mono ?_;rintro e w4 ⟨r,a,b,t,d',s',qb,rfl,Zi⟩;have Zj:=ι Zi;clear Zi);have hq:=S40.new Zj.o (Yx.o _ B.o);have Yh:=EB.made w4;obtain⟨w5,Yt⟩:∃w5,w5=w4.alloc (.map #[] 0):=⟨_,rfl⟩;obtain⟨mb,Yq⟩:∃mb,mb=w4.heap.size:=⟨_,rfl⟩;rw[<-Yq,<-Yt]at hq Yh;rw[<-Yt,<-Yq];have HI:Hid (YgI w2 mb d hb qb r a b t d' s' 0 [] w5):=⟨⟨hq,Yh,λp hp=>(by cases hp),.nil,by simp⟩⟩;clear hq Yh Yt Yq Zj Yv Zp;go_wp2
 go_loopw [10,52] (λs10 s52 wr=>∃(i:Nat) (M:List (Nat×Nat)),i<=N/\s52=.int .i64 i/\s10=.int .i64 M.length/\Hid (YgI w2 mb d hb qb r a b t d' s' i M wr)) (λ_ s52 _=>N-(intOf s52).toNat)
 case atStart=>exact⟨0,[],ζe _,rfl,rfl,HI⟩
 case round=>
  clear HI;obtain⟨i,M,hi,rfl,rfl,HI⟩:=hrel;by_cases Y:i<N
  ·have Zx:(i:Int)<(N:Int):=Ω
   have Zh:i<l.length:=by rw[<-HN.o];exact Y
   obtain⟨Xu,bb,o,rfl,hb1,Zm⟩:=(HA.o.gr (B.o.trans HI.o.q.grew)) i Zh;generalize l[i]=x at Xu Zm;have Z:=ι Y;have HX:=ι Xu;have hi60:i<60:=by have:=I.o;omega
   have u1:IntKind.u64.wrap (i:Int)=i:=K9 _ Ω;have HP:=HI.o.q.push Xu (y:=i) Ω;have Ye:Hid (M.length<=60):=⟨by rw[HI.o.ln];omega⟩;clear Zh Xu hi Y;by_cases E:d.wd<5*M.length+5
   ·rw[θ E,θ E]at HP;have HP:=ι HP;have Yk:=ι E;clear E
    go_wp2_with(first
     | (go_at_call 10;refine AJ (LJ _ _) ?_)
     | (go_at_call 9;refine(HP.o).mono ?_;rintro e w6 ⟨rfl,ht,hq⟩;have HT:=ι ht;have HQ:=ι hq;clear ht hq))
    go_round
    case rel=>
     refine⟨i+1,M,Z.o,by go_num,rfl,⟨HQ.o,(HI.o.m.touch HT.o (λe=>e rfl)).mono Ω,λp hp=>⟨(HI.o.bd p hp).1,by have:=(HI.o.bd p hp).2;omega⟩,HI.o.nd,?_⟩⟩;have h1:=HI.o.ln;have h2:=Yk.o;omega
    case measure=>have:=Z.o;simp[intOf];omega
   ·rw[ψ E,ψ E]at HP;have HP:=ι HP;have Yk:=ι E;clear E
    go_upto_region 16 with(first
     | (go_at_call 10;refine AJ (LJ _ _) ?_)
     | (go_at_call 9;refine(HP.o).mono ?_;rintro e w6 ⟨rfl,ht,hq⟩;have HT:=ι ht;have HQ:=ι hq;clear ht hq))
    have Yr:=HI.o.m.touch HT.o (λe=>e rfl);have lk:=Yr.look HX.o;obtain⟨cn,L⟩:∃cn,cn=(M.map Prod.fst).count x:=⟨_,rfl⟩;have Zs:cn<=60:=by rw[L];exact χ List.count_le_length (by rw[ξZ];exact Ye.o)
    rw[<-L]at lk;obtain⟨c1,Xl⟩:∃c1,c1=cn+1:=⟨_,rfl⟩;have e1:wrap64 ((cn:Int)+1)=(c1:Int):=by rw[ξR _ Ω];omega
    have Xt:=ι Xl;have Yg:=ι L;have Zd:=Yr.mono (m:=60) Ω;obtain⟨fm,Xn,Xg⟩:=Yr;have Xj:=ι Xn;have Yo:=ι Xg;have Xk:Hid ((Lit.int .u64 (x:Int)).wf=true):=⟨WalkArith.wf_u64 (by have:=HX.o;omega)⟩;have Xm:Hid (i<maxLen):=⟨by unfold maxLen;omega⟩;clear L Zs Zd Xn Xg Xl;go_wp2_with(at_mapUpdate;refine PI _ rfl _ _ _ 45 rfl 22 3 O4 underlying45 underlying22 mb i fm rfl Xj.o Xm.o (x:Int) (.int .i64 (wrap64 ((cn:Int)+1))) rfl rfl Xk.o ?_;intro w7 Xf Yw;rw[e1]at Xf;have Zn:=ι Xf;have Yj:=ι Yw;clear Xf Yw);go_round
    case rel=>
     refine⟨i+1,(x,i) :: M,Z.o,by go_num,congrArg _ (by have:=Ye.o;rw[ζw,ξR _ Ω];omega),⟨HQ.o.wr (Yj.o.mono (λk _ e=>e)),EB.of Zn.o Yo.o (λb=>?_),λp hp=>?_,?_,?_⟩⟩
     ·rw[ξp,List.count_cons];have:=Yg.o;have:=Xt.o;by_cases e:b=x
      ·subst e;simp;omega
      ·simp[e];omega
     ·rcases ζB.1 hp with rfl|hp
      ·exact⟨HX.o,by omega⟩
      ·exact⟨(HI.o.bd p hp).1,by have:=(HI.o.bd p hp).2;omega⟩
     ·rw[ξp,ψp];refine⟨λh=>?_,HI.o.nd⟩;obtain⟨p,hp,e⟩:=ξl.1 h;have:=(HI.o.bd p hp).2;omega
     ·rw[ζw];have h1:=HI.o.ln;have h2:=Yk.o;omega
    case measure=>have:=Z.o;simp[intOf];omega
  ·have Zx:¬(i:Int)<(N:Int):=Ω
   obtain rfl:i=N:=Ω
   clear hi Y;obtain⟨n,hn⟩:∃n,n=M.length:=⟨_,rfl⟩;have Xa:Hid (n=min i (d.wd/5)):=⟨by rw[hn];exact HI.o.ln⟩;have HO:Hid (TA w2 mb d hb qb r a b t d' s' n 0 0 0 M wr):=⟨⟨HI.o.q,HI.o.m.mono I.o,λp hp=>⟨(HI.o.bd p hp).1,by have:=(HI.o.bd p hp).2;have:=I.o;omega⟩,HI.o.nd,hn.symm,by omega,.inl rfl⟩⟩;have hn60:n<=60:=by have:=Xa.o;have:=I.o;omega
   rw[<-hn];clear hn HI;go_wp2
   go_loopw [13,14,72] (λs13 s14 s72 wq=>∃(j f u:Nat) (M:List (Nat×Nat)),j<=n/\s72=.int .i64 j/\s13=.float .f64 f/\s14=.int .u64 u/\Hid (TA w2 mb d hb qb r a b t d' s' n j f u M wq)) (λ_ _ s72 _=>n-(intOf s72).toNat)
   case atStart=>exact⟨0,0,0,M,ζe _,rfl,rfl,rfl,HO⟩
   case round=>
    clear HO;obtain⟨j,f,u,M,hj,rfl,rfl,rfl,HO⟩:=hrel;by_cases Y:j<n
    ·have Zu:(j:Int)<(n:Int):=Ω
     have Z:=ι Y;have HS:=ι HO.o.q.step;clear hj Y;go_upto_region 25 with(go_at_call 15;refine(HS.o).mono ?_;rintro e w6 ⟨z,rfl,ht,hq⟩;have Zr:=ι ht;have Yp:=ι hq;clear ht hq);obtain⟨g,v,M',Xv,Zb,Ze⟩:=Yp.o.pop (λe=>by have h1:=HO.o.ln;have h2:=Z.o;rw[e]at h1;simp at h1;omega);have Xr:=ι Xv;have Yu:=ι Zb;have Zy:=ι Ze;have Xb:(g,v)∈M:=Xv.mem_iff.2 (ζh ..);have Xx:=ι (HO.o.bd _ Xb);have Zo:Hid (j=0\/(E9 g f=false/\(f=g->u<v))):=⟨HO.o.up.imp id (λh=>YmA (h _ Xb).1 (h _ Xb).2)⟩;have HB:=ι (λV=>ZZy g f Xx.o.1 HO.o.fu V);have HSA:=ι (λV=>VC f g V);have Xt:=ι (JTM Xv)
     have Yd:(M.map Prod.fst).count g<=60:=by
      have h1:=HO.o.ln;have h2:=Xa.o;have h3:=I.o;have:=List.count_le_length (l:=M.map Prod.fst) (a:=g);rw[ξZ]at this;omega
     have Zt:=ι Yd;clear Xv Zb Ze Xb Yd;go_upto_region 26 with(go_at_call 7;refine(Zy.o).mono ?_;rintro e w7 ⟨rfl,ht,hq⟩;have Yj:=ι ht;have Ys:=ι hq;clear ht hq);have Xf:=(HO.o.m.touch Zr.o (λe=>e rfl)).touch Yj.o (λe=>e rfl);have lk:=Xf.look Xx.o.1;obtain⟨cn,L⟩:∃cn,cn=(M'.map Prod.fst).count g:=⟨_,rfl⟩;obtain⟨c1,Xl⟩:∃c1,c1=cn+1:=⟨_,rfl⟩;rw[Xt.o,<-L,<-Xl]at lk;have Yg:=ι L;have e1:wrap64 ((c1:Int)-1)=(cn:Int):=by have:=Zt.o;have:=Xt.o;rw[ξR _ Ω];omega
     have e2:((c1:Int)==0)=false:=ζy.2 Ω;obtain⟨fm,Xn,Xg⟩:=Xf;have Xj:=ι Xn;have Yo:=ι Xg;have Xk:Hid ((Lit.int .u64 (g:Int)).wf=true):=⟨WalkArith.wf_u64 (by have:=Xx.o;omega)⟩;have Xm:Hid (60+j<maxLen):=⟨by have h1:=Z.o;have h2:=Xa.o;have h3:=I.o;unfold maxLen;omega⟩
     have Xp:Hid (∀V,EH prog 22 V mb (60+j+1) (λy=>if y=(g:Int)then some (.int .i64 (cn:Nat))else fm y)->AB (λi=>i=mb) w7 V->TA w2 mb d hb qb r a b t d' s' n (j+1) g v M' V):=⟨λV hV hT=>by
      have Ym:=(Xr.o.map Prod.snd).nodup_iff.1 HO.o.nd;rw[ξp,ψp]at Ym;have Yf:∀p∈M',p∈M:=λp hp=>Xr.o.mem_iff.2 (ζk _ hp);refine⟨Ys.o.wr hT,EB.of hV Yo.o (λb=>?_),λp hp=>HO.o.bd p (Yf p hp),Ym.2,?_,Xx.o.1,.inr λp hp=>⟨Yu.o p (Yf p hp),λe=>Ym.1 (ξl.2 ⟨p,hp,e.symm⟩)⟩⟩
      ·have h1:=Yg.o;rw[(Xr.o.map Prod.fst).count_eq,ξp,List.count_cons];by_cases e:b=g
       ·subst e;simp;omega
       ·have:(g==b)=false:=ζy.2 (λh=>e h.symm);simp[e,this]
      ·have h1:=Xr.o.length_eq;have h2:=HO.o.ln;rw[ζw]at h1
       omega⟩
     clear L Xn Xg Xl;by_cases Xs:j=0
     ·have d1:decide ((0:Int)<(j:Int))=false:=ζ Ω;have d2:decide (0<j)=false:=ζ Ω;clear Xs
      go_wp2_with(first
       | (go_at_call 18;refine AJ (JR _ _) ?_)
       | (at_mapUpdate;refine PI _ rfl _ _ _ 45 rfl 22 3 O4 underlying45 underlying22 mb (60+j) fm rfl Xj.o Xm.o (g:Int) (.int .i64 (wrap64 ((c1:Int)-1))) rfl rfl Xk.o ?_;intro w8 U G;rw[e1]at U;have Xo:=ι (Xp.o _ U G);clear U G))
      go_round
      case rel=>exact⟨j+1,g,v,M',Z.o,(by have:=Z.o;have:=Xa.o;have:=I.o;go_num),rfl,rfl,Xo⟩
      case measure=>have:=Z.o;simp[intOf];omega
     ·have d1:decide ((0:Int)<(j:Int))=true:=φ Ω;have d2:decide (0<j)=true:=φ Ω;obtain⟨Yi,Xy⟩:=Zo.o.resolve_left Xs;have HB:=ι HB.o;rw[Yi]at HB;have Ya:=ι (λV=>VC f g V);by_cases Xe:f=g
      ·have huv:decide ((v:Int)<=(u:Int))=false:=ζ (by have:=Xy Xe;omega);have huv2:u<v:=Xy Xe;have Xh:(f==g)=true:=ζ0.2 Xe;rw[Xh]at Ya;clear Xs Yi Xy Xe Xh
       go_wp2_with(first
        | (go_at_call 16;refine AJ (HB.o _) ?_)
        | (go_at_call 17;refine AJ (Ya.o _) ?_)
        | (go_at_call 18;refine AJ (JR _ _) ?_)
        | (at_mapUpdate;refine PI _ rfl _ _ _ 45 rfl 22 3 O4 underlying45 underlying22 mb (60+j) fm rfl Xj.o Xm.o (g:Int) (.int .i64 (wrap64 ((c1:Int)-1))) rfl rfl Xk.o ?_;intro w8 U G;rw[e1]at U;have Xo:=ι (Xp.o _ U G);clear U G))
       go_round
       case rel=>exact⟨j+1,g,v,M',Z.o,(by have:=Z.o;have:=Xa.o;have:=I.o;go_num),rfl,rfl,Xo⟩
       case measure=>have:=Z.o;simp[intOf];omega
      ·have Xh:(f==g)=false:=ζy.2 Xe;rw[Xh]at Ya;clear Xs Yi Xy Xe Xh
       go_wp2_with(first
        | (go_at_call 16;refine AJ (HB.o _) ?_)
        | (go_at_call 17;refine AJ (Ya.o _) ?_)
        | (go_at_call 18;refine AJ (JR _ _) ?_)
        | (at_mapUpdate;refine PI _ rfl _ _ _ 45 rfl 22 3 O4 underlying45 underlying22 mb (60+j) fm rfl Xj.o Xm.o (g:Int) (.int .i64 (wrap64 ((c1:Int)-1))) rfl rfl Xk.o ?_;intro w8 U G;rw[e1]at U;have Xo:=ι (Xp.o _ U G);clear U G))
       go_round
       case rel=>exact⟨j+1,g,v,M',Z.o,(by have:=Z.o;have:=Xa.o;have:=I.o;go_num),rfl,rfl,Xo⟩
       case measure=>have:=Z.o;simp[intOf];omega
    ·have Zu:¬(j:Int)<(n:Int):=Ω
     obtain rfl:j=n:=Ω
     obtain rfl:M=[]:=List.length_eq_zero_iff.1 (by have:=HO.o.ln;omega);clear hj Y;have hmin:=QY prog;obtain⟨rm,Zq⟩:∃rm,rm=d.wd/5:=⟨_,rfl⟩;have e4:wrap64 ((d.wd:Int)/5)=(rm:Int):=by have:=HD.o;rw[ξR _ Ω];omega
     have e5:((j:Int)==min (i:Int) (rm:Int))=true:=ζ0.2 (by have:=Xa.o;omega);have Zz:=ι HO.o.q.pop_no;clear Zq;go_upto_region 32 with(go_at_call 7;refine(Zz.o).mono ?_;rintro e w6 ⟨rfl,-,hq⟩;have Yp:=ι hq;clear hq);have Zk:=ι Yp.o.live;go_upto_region 33 with(go_at_call 19;refine(Zk.o).mono ?_;rintro e w7 ⟨rfl,-,hq⟩;have Ys:=ι hq;obtain⟨f3,fl⟩:=Yn.o _ (J.o.trans hq.grew);clear hq);have Yu:=ι Ys.o.len0;have Zl:=ι (λ(V:World) (g:Gr w2 V)=>HL.o V (B.o.trans g))
     go_wp2_with(first
      | (go_at_call 11;refine(Yu.o).mono ?_;rintro e w8 ⟨rfl,-,hq⟩;have Yy:=ι hq;obtain⟨f3,fl⟩:=Yn.o _ (J.o.trans hq.grew);clear hq)
      | (go_at_call 12;refine(Zl.o _ Yy.o.grew).mono ?_;rintro e w9 ⟨rfl,hg⟩;have Zv:=ι ((B.o.trans Yy.o.grew).trans hg);clear hg))
     go_ret;exact⟨rfl,Zv.o⟩
end
end Go.Proofs.YtggjoonlcjjgkaaGreatDoor
