/- Part 12 of what Trees leans on: my own lemmas, merged by shake.py. -/
import Derived.Test.YtbdimhlaaoadgaaGreatDoorTreesK
namespace Go.Proofs.YtbdimhlaaoadgaaGreatDoor
open _root_.Go.Proofs.Tryz
set_option maxHeartbeats 6400000
set_option maxRecDepth 100000
open Go.RowKit Go.Shelf Word
variable{args:Array Value}{R T c1 d1:BT}{e:Ending}{Q:Ending->World->Prop}{f:FuncId}{g g':Gph}{c:HCf}{s:HSt}{M:List (Nat × Nat)}{a f0 hb k m n o r tb u x y:Nat}{K:Nat->Prop}{v:Value}{w w' w0 wx:World}
section
variable{w1 w2:World}
theorem QLM(h:HIn w c g s):Calls prog 20 #[pP s.A.hp] w λe w'=>e=.returned (.tuple #[iI (g.all.length:Nat),iI (g.words:Nat)])/\Gr w w':=by
 have Xu:=ι (FJ h);have HW:=ι (h.memWords);obtain⟨q1,q2,-⟩:=SL h.cok;have q3:=h.cok.wd;have HX:=ι (λW=>OQ c.n Ω Ω W);have Xa:=ι (λ(W:World) (gr:Gr w W)=>S9 (h.com.rt.gr gr));have O:=ι (λ(W:World) (gr:Gr w W) (m p1 b1 p2 b2 g1 cp:Nat) (hE:Ext W m p1 b1 p2 b2 c.n []) hm ho hg1=>h.mrun gr (m:=m) (p1:=p1) (b1:=b1) (p2:=p2) (b2:=b2) (g1:=g1) (cp:=cp) hE hm ho hg1);have Xi:=ι h.com.row;have c8:=h.cc 8;have Xq:=h.com.row.lt;obtain⟨ap,Xz⟩:∃ap,ap=s.A.hp:=⟨_,rfl⟩;obtain⟨rr,Xr⟩:∃rr,rr=s.A.r:=⟨_,rfl⟩;obtain⟨qq,Xs⟩:∃qq,qq=s.A.q:=⟨_,rfl⟩;rw[<-Xz]at Xu O Xi c8 Xq⊢;rw[<-Xr]at Xa;rw[<-Xs]at HW c8;generalize (g.all.length:Nat)=na at O⊢;generalize (g.words:Nat)=nw at O⊢
 have Yd:Hid (∀W,Gr w W->W.cell? ⟨ap,9,none⟩=some (pP rr)/\W.cell? ⟨ap,5,none⟩=some (iI c.st)):=⟨λW gr=>by
  have:=Xi.o.gr gr
  exact⟨by rw[Xr];exact this.cc 9,this.cc 5⟩⟩
 have HLT:=ι Xq;clear h Xz Xr Xs q1 q2 q3 Xi Xq;go_enter func20,ntmps20
 go_upto_region 4 with first
  | (go_at_call 63;refine Xu.o.mono ?_;rintro e w1 ⟨rfl,rfl⟩)
  | (go_at_call 67;refine HW.o.mono ?_;rintro e w1 ⟨rfl,rfl⟩)
  | (go_at_call 66;refine(HX.o _).mono ?_;rintro e w3 ⟨m,p1,b1,p2,b2,rfl,Xt,Yc,Xx,Xy,Yb,Ya,Xv⟩;have U:=ι Xt;have B:=ι Yc;have HB:=ι (ψ Xx (ψ Xy (ψ Yb (ψ Ya Xv))));clear Xt Yc Xx Xy Yb Ya Xv)
 have Xk:Hid (∀i,AR m b1 b2 i->w.heap.size<=i/\i<w3.heap.size):=⟨λi hi=>by
  have h1:=B.o.hm;have h2:=B.o.v1.hb;have h3:=B.o.v2.hb;have h4:=HB.o
  rcases hi with rfl|rfl|rfl <;> omega⟩
 have Xm:Hid (∀W1 W2,Gr w3 W1->AB (AR m b1 b2) W1 W2->Gr w W2):=⟨λW1 W2 g1 t=>(((U.o.trans g1).touch (AR m b1 b2)).trans t |>.mono (T:=λ_=>False) (λk hk e=>by have:=(Xk.o k e).1;omega)).gr⟩;obtain⟨Sx,Xj⟩:∃Sx:World->Prop,Sx=λW'=>Gr w W':=⟨_,rfl⟩;have y9:∀p':AA Sx,p'.w.cell? ⟨ap,9,none⟩=some (pP rr):=λp=>(Yd.o _ (AA.get Xj p)).1;have y5:∀p':AA Sx,p'.w.cell? ⟨ap,5,none⟩=some (iI c.st):=λp=>(Yd.o _ (AA.get Xj p)).2;have Xw:Sx w3.drew:=by rw[Xj];exact U.o.drew
 have V:=ι Xj;have inst:Inhabited (AA Sx):=⟨⟨_,Xw⟩⟩;clear Xj;refine ZB Sx (.two [0,1,2,3,4,5,6,8,9,10,11,12,13] 7 (.two [] 14 (.one [15,16,17] 18 (.one [] 19 (.fin [20]))) 18 (.one [] 14 (.one [15,16,17] 19 (.fin [20])))) 18 (.one [] 7 (.one [] 14 (.one [15,16,17] 19 (.fin [20]))))) Xw ?_;refine QA ?_;simp only[AG,ν,π]
 repeat(go_big_quiet_step (fail))
 refine ζd ⟨?_,?_⟩
 ·go_wp2_with(go_at_call 69;refine(Xa.o _ (U.o.trans (Gr.refl w3).drew)).mono ?_;rintro e w4 ⟨g1,cp,rfl,Xb,Xh,Xc⟩;have Y:Hid (Gr w3 w4):=⟨((Gr.refl w3).drew).trans Xb⟩;have Xn:Hid (w3.heap.size<=g1):=⟨β ((Gr.refl w3).drew).size Xh⟩;have Xp:=ι Xc;clear Xc Xh);have Xl:Hid (∀W,Gr w4 W->Calls prog 68 #[.iface 128 (.agg #[pP ap]),.slice (some ⟨g1,0,none⟩) (s.rs g).length cp,pP m,iI c.st] W λe w'=>(∃r vi:Int,e=.returned (.tuple #[.agg #[iI (na:Nat),iI (nw:Nat),iI r,iI vi],iI 0]))/\AB (AR m b1 b2) W w'):=⟨λW gW=>O.o W (U.o.trans (Y.o.trans gW)) m p1 b1 p2 b2 g1 cp (B.o.gr (Y.o.trans gW)) HB.o (CL Xp.o gW) (λe=>by have:=(Xk.o _ e).2;have:=Xn.o;omega)⟩;have G:Hid (∀W W2,Gr w4 W->AB (AR m b1 b2) W W2->Gr w W2):=⟨λW W2 g1 t=>Xm.o W W2 (Y.o.trans g1) t⟩;have D:Hid (Gr w w4):=⟨U.o.trans Y.o⟩;refine⟨AA.of (by rw[V.o];exact D.o),?_⟩;refine QA ?_;simp only[AG,ν,π]
  repeat(go_big_quiet_step (fail))
  refine ζd ⟨?_,?_⟩
  ·go_wp2_with(go_at_call 68;refine(Xl.o _ (Gr.refl w4)).mono ?_;rintro e w5 ⟨⟨rv,vi,rfl⟩,I⟩;have L:=ι I;clear I);have X:Hid (Gr w w5):=⟨G.o _ _ (Gr.refl w4) L.o⟩;refine⟨AA.of (by rw[V.o];exact X.o),?_⟩;refine G8 ?_;go_wp2;refine⟨AA.of (by rw[V.o];exact X.o.alloc _),?_⟩;refine G8 ?_;go_wp2;refine⟨AA.of (by rw[V.o];exact X.o.alloc _),?_⟩;refine LX ?_;obtain⟨x,hx⟩:∃x,x=w5.heap.size:=⟨_,rfl⟩;rw[<-hx];obtain⟨WX,J⟩:∃WX,WX=w5.alloc (.cells #[.int .i64 (na:Nat),.int .i64 (nw:Nat),.int .i64 rv,.int .i64 vi] 124):=⟨_,rfl⟩;have Xd:Hid (Gr w WX):=⟨by rw[J];exact X.o.alloc _⟩;have rx:Rec WX x 124 [iI (na:Nat),iI (nw:Nat),iI rv,iI vi]:=by rw[J];exact hx▸Rec.new w5 124 [iI (na:Nat),iI (nw:Nat),iI rv,iI vi]
   rw[<-J];obtain⟨k0,k1,kl⟩:=rx.k2;clear J rx hx;go_wp2;go_quiet (fail);go_wp2;go_ret2;exact⟨rfl,Xd.o.drewN _⟩
  ·go_wp2;obtain⟨WB,N⟩:∃WB,WB=w4.alloc (.cells #[.int .i64 0,.int .i64 0,.int .i64 0,.int .i64 0] 124):=⟨_,rfl⟩;obtain⟨x,hx⟩:∃x,x=w4.heap.size:=⟨_,rfl⟩;have E:Hid (Gr w4 WB):=⟨by rw[N];exact(Gr.refl w4).alloc _⟩;have Xo:Hid (Rec WB x 124 [iI 0,iI 0,iI 0,iI 0]):=⟨by rw[N,hx];exact Rec.new w4 124 [iI 0,iI 0,iI 0,iI 0]⟩;rw[<-N,<-hx];have Xe:Hid (w3.heap.size<=x):=⟨by rw[hx];exact Y.o.size⟩;clear N hx;refine⟨AA.of (by rw[V.o];exact D.o.trans E.o),?_⟩;refine G8 ?_;go_wp2_with(go_at_call 68;refine(Xl.o _ (E.o)).mono ?_;rintro e w5 ⟨⟨rv,vi,rfl⟩,I⟩;have L:=ι I;clear I);have X:Hid (Gr w w5):=⟨G.o _ _ E.o L.o⟩;have Xg:=Xo;have Z:=ι (Xg.o.touch L.o (λe=>by have:=(Xk.o _ e).2;have:=Xe.o;omega));have q0:=Z.o.cc 0;have q1:=Z.o.cc 1;have q2:=Z.o.cc 2;have q3:=Z.o.cc 3;have qf:=Z.o.free;have ql:=Z.o.lt;have Xf:Hid (Gr w ((((w5.setCell ⟨x,0,none⟩ (.int .i64 (na:Nat))).setCell ⟨x,1,none⟩ (.int .i64 (nw:Nat))).setCell ⟨x,2,none⟩ (.int .i64 rv)).setCell ⟨x,3,none⟩ (.int .i64 vi))):=⟨((X.o.touch (λk=>k=x)).trans ((((((AB.refl (λk=>k=x) w5).setCell (a:=⟨x,0,none⟩) (λ_=>rfl) _).setCell (a:=⟨x,1,none⟩) (λ_=>rfl) _).setCell (a:=⟨x,2,none⟩) (λ_=>rfl) _).setCell (a:=⟨x,3,none⟩) (λ_=>rfl) _)) |>.mono (T:=λ_=>False) (λk hk e=>by have e:k=x:=e;have:=Xe.o;have:=U.o.size;omega)).gr⟩;refine⟨AA.of (by rw[V.o];exact X.o),?_⟩;refine G8 ?_;go_wp2;refine⟨AA.of (by rw[V.o];exact Xf.o),?_⟩;refine LX ?_;clear q0 q1 q2 q3 qf ql;obtain⟨WX,J⟩:∃WX,WX=(((w5.setCell ⟨x,0,none⟩ (.int .i64 (na:Nat))).setCell ⟨x,1,none⟩ (.int .i64 (nw:Nat))).setCell ⟨x,2,none⟩ (.int .i64 rv)).setCell ⟨x,3,none⟩ (.int .i64 vi):=⟨_,rfl⟩;have Xd:Hid (Gr w WX):=⟨by rw[J];exact Xf.o⟩;have rx:Rec WX x 124 [iI (na:Nat),iI (nw:Nat),iI rv,iI vi]:=by rw[J];exact((((Z.o.set 0 (iI (na:Nat))).set 1 (iI (nw:Nat))).set 2 (iI rv)).set 3 (iI vi))
   rw[<-J];obtain⟨k0,k1,kl⟩:=rx.k2;clear J rx;go_wp2;go_quiet (fail);go_wp2;go_ret2;exact⟨rfl,Xd.o.drewN _⟩
 ·go_wp2;obtain⟨WB,N⟩:∃WB,WB=(w3.alloc (.cells #[.int .i64 0,.int .i64 0,.int .i64 0,.int .i64 0] 124)).drew:=⟨_,rfl⟩;obtain⟨x,hx⟩:∃x,x=w3.heap.size:=⟨_,rfl⟩;have E:Hid (Gr w3 WB):=⟨by rw[N];exact((Gr.refl w3).alloc _).drew⟩;have Xo:Hid (Rec WB x 124 [iI 0,iI 0,iI 0,iI 0]):=⟨by rw[N,hx];exact Rec.new w3 124 [iI 0,iI 0,iI 0,iI 0]⟩;rw[<-N,<-hx];have Xe:Hid (w3.heap.size<=x):=⟨by rw[hx];exact ϑ _⟩;clear N hx;refine⟨AA.of (by rw[V.o];exact U.o.trans E.o),?_⟩;refine G8 ?_;go_wp2_with(go_at_call 69;refine(Xa.o _ (U.o.trans E.o)).mono ?_;rintro e w4 ⟨g1,cp,rfl,Xb,Xh,Xc⟩;have Y:Hid (Gr w3 w4):=⟨E.o.trans Xb⟩;have Xn:Hid (w3.heap.size<=g1):=⟨β E.o.size Xh⟩;have Xp:=ι Xc;have Xg:=ι (Xo.o.gr Xb);clear Xc Xh Xb);have Xl:Hid (∀W,Gr w4 W->Calls prog 68 #[.iface 128 (.agg #[pP ap]),.slice (some ⟨g1,0,none⟩) (s.rs g).length cp,pP m,iI c.st] W λe w'=>(∃r vi:Int,e=.returned (.tuple #[.agg #[iI (na:Nat),iI (nw:Nat),iI r,iI vi],iI 0]))/\AB (AR m b1 b2) W w'):=⟨λW gW=>O.o W (U.o.trans (Y.o.trans gW)) m p1 b1 p2 b2 g1 cp (B.o.gr (Y.o.trans gW)) HB.o (CL Xp.o gW) (λe=>by have:=(Xk.o _ e).2;have:=Xn.o;omega)⟩;have G:Hid (∀W W2,Gr w4 W->AB (AR m b1 b2) W W2->Gr w W2):=⟨λW W2 g1 t=>Xm.o W W2 (Y.o.trans g1) t⟩;have D:Hid (Gr w w4):=⟨U.o.trans Y.o⟩;refine⟨AA.of (by rw[V.o];exact D.o),?_⟩;refine G8 ?_;go_wp2_with(go_at_call 68;refine(Xl.o _ (Gr.refl w4)).mono ?_;rintro e w5 ⟨⟨rv,vi,rfl⟩,I⟩;have L:=ι I;clear I);have X:Hid (Gr w w5):=⟨G.o _ _ (Gr.refl w4) L.o⟩;have Z:=ι (Xg.o.touch L.o (λe=>by have:=(Xk.o _ e).2;have:=Xe.o;omega));have q0:=Z.o.cc 0;have q1:=Z.o.cc 1;have q2:=Z.o.cc 2;have q3:=Z.o.cc 3;have qf:=Z.o.free;have ql:=Z.o.lt;have Xf:Hid (Gr w ((((w5.setCell ⟨x,0,none⟩ (.int .i64 (na:Nat))).setCell ⟨x,1,none⟩ (.int .i64 (nw:Nat))).setCell ⟨x,2,none⟩ (.int .i64 rv)).setCell ⟨x,3,none⟩ (.int .i64 vi))):=⟨((X.o.touch (λk=>k=x)).trans ((((((AB.refl (λk=>k=x) w5).setCell (a:=⟨x,0,none⟩) (λ_=>rfl) _).setCell (a:=⟨x,1,none⟩) (λ_=>rfl) _).setCell (a:=⟨x,2,none⟩) (λ_=>rfl) _).setCell (a:=⟨x,3,none⟩) (λ_=>rfl) _)) |>.mono (T:=λ_=>False) (λk hk e=>by have e:k=x:=e;have:=Xe.o;have:=U.o.size;omega)).gr⟩;refine⟨AA.of (by rw[V.o];exact X.o),?_⟩;refine G8 ?_;go_wp2;refine⟨AA.of (by rw[V.o];exact Xf.o),?_⟩;refine LX ?_;clear q0 q1 q2 q3 qf ql;obtain⟨WX,J⟩:∃WX,WX=(((w5.setCell ⟨x,0,none⟩ (.int .i64 (na:Nat))).setCell ⟨x,1,none⟩ (.int .i64 (nw:Nat))).setCell ⟨x,2,none⟩ (.int .i64 rv)).setCell ⟨x,3,none⟩ (.int .i64 vi):=⟨_,rfl⟩;have Xd:Hid (Gr w WX):=⟨by rw[J];exact Xf.o⟩;have rx:Rec WX x 124 [iI (na:Nat),iI (nw:Nat),iI rv,iI vi]:=by rw[J];exact((((Z.o.set 0 (iI (na:Nat))).set 1 (iI (nw:Nat))).set 2 (iI rv)).set 3 (iI vi))
  rw[<-J];obtain⟨k0,k1,kl⟩:=rx.k2;clear J rx;go_wp2;go_quiet (fail);go_wp2;go_ret2;exact⟨rfl,Xd.o.drewN _⟩
end
def HLo(w0:World)(K:Nat->Prop)(c:HCf)(hb:Nat)(w:World)(v:Value)(g':Gph)(e:Ending)(w':World):Prop:=e=.returned v/\AB (hlT w0 K) w w'/\HLv w0 K c hb g' w'
theorem HLv.of_op(h:HLv w0 K c hb g w)(hc:∀s:HSt,s.A.hp=hb->HIn w c g s->(s.o=none↔s.lf=0)->Calls prog f args w λe w'=>e=.returned v/\HOp w c s g' w'):Calls prog f args w (HLo w0 K c hb w v g'):=by
 obtain⟨h1,⟨s,e1,e2,e3,e4⟩,h3⟩:=h;refine(hc s e1 e2 e3).mono ?_;rintro e w' ⟨rfl,s',r,-⟩;exact⟨rfl,HLv.res h1 h3 e1 e4 r⟩
theorem HLv.getW(h:HLv w0 K c hb g w)(a i:Int):Calls prog 116 #[pP hb,iI a,iI i] w (HLo w0 K c hb w (.tuple #[uU (g.fdV a i 3:Nat),iI (g.fdE a i 3)]) g):=h.of_op (λ_ e1 e2 e3=>e1▸J4u e2 e3 a i)
theorem HLv.getF(h:HLv w0 K c hb g w)(a i:Int):Calls prog 58 #[pP hb,iI a,iI i] w (HLo w0 K c hb w (.tuple #[.float .f64 (g.fdV a i 2),iI (g.fdE a i 2)]) g):=h.of_op (λ_ e1 e2 e3=>e1▸QNL e2 e3 a i)
theorem HLv.setW(h:HLv w0 K c hb g w)(a i:Int)(hx:x<18446744073709551616):Calls prog 51 #[pP hb,iI a,iI i,uU x] w (HLo w0 K c hb w (iI (g.fdE a i 3)) (g.wrG a i 3 x)):=h.of_op (λ_ e1 e2 e3=>e1▸Vld e2 e3 a i hx)
theorem HLv.setF(h:HLv w0 K c hb g w)(a i:Int)(hx:x<18446744073709551616):Calls prog 50 #[pP hb,iI a,iI i,.float .f64 x] w (HLo w0 K c hb w (iI (g.fdE a i 2)) (g.wrG a i 2 x)):=h.of_op (λ_ e1 e2 e3=>e1▸Xe2 e2 e3 a i hx)
theorem HLv.load(h:HLv w0 K c hb g w)(a b i:Int):Calls prog 57 #[pP hb,iI a,iI b,iI i] w (HLo w0 K c hb w (iI (g.loE a b i)) (g.loG a b i)):=h.of_op (λ_ e1 e2 e3=>e1▸V9V e2 e3 a b i)
theorem HLv.stor(h:HLv w0 K c hb g w)(a i b:Int):Calls prog 86 #[pP hb,iI a,iI i,iI b] w (HLo w0 K c hb w (iI (g.stE a i b)) (g.stG a i b)):=h.of_op (λ_ e1 e2 e3=>e1▸QmE e2 e3 a i b)
theorem HLv.copy(h:HLv w0 K c hb g w)(a b:Int):Calls prog 54 #[pP hb,iI a,iI b] w (HLo w0 K c hb w (iI (g.two a b 0)) (g.cpG a b)):=h.of_op (λ_ e1 e2 e3=>e1▸Xxc e2 e3 a b)
theorem HLv.clr(h:HLv w0 K c hb g w)(a:Int):Calls prog 46 #[pP hb,iI a] w (HLo w0 K c hb w (iI (g.slE a)) (g.clG a)):=h.of_op (λ_ e1 e2 e3=>e1▸JfK e2 e3 a)
theorem HLv.shap(h:HLv w0 K c hb g w)(a:Int):Calls prog 34 #[pP hb,iI a] w (HLo w0 K c hb w (.tuple #[AM (g.shH a),iI (g.shE a)]) g):=h.of_op (λ_ e1 e2 e3=>e1▸VcO e2 e3 a)
theorem HLv.allo(h:HLv w0 K c hb g w)(a:Int)(x:Hdr):Calls prog 26 #[pP hb,iI a,AM x] w (HLo w0 K c hb w (iI (g.alE c.wd a x)) (g.alG c.wd a x)):=h.alloc a x
theorem HLv.coll(h:HLv w0 K c hb g w):Calls prog 39 #[pP hb] w (HLo w0 K c hb w (.tuple #[]) g):=by
 obtain⟨h1,⟨s,e1,e2,e3,e4⟩,h3⟩:=h;have hc:=V5 e2 e3;rw[e1]at hc;refine hc.mono ?_;rintro e w' ⟨rfl,s',r,-⟩;exact⟨rfl,HLv.res h1 h3 e1 e4 r⟩
theorem HLv.same0(h:HLv w0 K c hb g w)(v:Value):HLo w0 K c hb w v g (.returned v) w:=⟨rfl,AB.refl _ _,h⟩
theorem HLv.start(h:HLv w0 K c hb g w):Calls prog 31 #[pP hb] w (HLo w0 K c hb w (.tuple #[]) g):=by
 have h':=h;obtain⟨h1,⟨s,e1,e2,e3,e4⟩,h3⟩:=h;by_cases ho:s.o=none
 ·by_cases hk:c.kd=1
  ·have hc:=YE8 e2 ho hk;rw[e1]at hc;refine hc.mono ?_;rintro e w' ⟨rfl,s',r,-⟩;exact⟨rfl,HLv.res h1 h3 e1 e4 r⟩
  ·have hc:=Yyb e2 e3 ho hk;rw[e1]at hc;refine hc.mono ?_;rintro e w' ⟨rfl,s',r,-⟩;exact⟨rfl,HLv.res h1 h3 e1 e4 r⟩
 ·have hc:=JxG e2 ho;rw[e1]at hc;refine hc.mono ?_;rintro e w' ⟨rfl,rfl⟩;exact h'.same0 _
theorem HLv.step(h:HLv w0 K c hb g w):Calls prog 19 #[pP hb] w λe w'=>∃b:Bool,HLo w0 K c hb w (.bool b) g e w':=by
 have h':=h;obtain⟨h1,⟨s,e1,e2,e3,e4⟩,h3⟩:=h;by_cases hl:s.lf=0
 ·have hc:=QNw e2 e3 hl;rw[e1]at hc;refine hc.mono ?_;rintro e w' ⟨rfl,rfl⟩;exact⟨_,h'.same0 _⟩
 ·have hc:=XF e2 e3 hl;rw[e1]at hc;refine hc.mono ?_;rintro e w' ⟨rfl,s',r,-⟩;exact⟨_,rfl,HLv.res h1 h3 e1 e4 r⟩
theorem HLv.live(h:HLv w0 K c hb g w):Calls prog 20 #[pP hb] w (HLo w0 K c hb w (.tuple #[iI (g.all.length:Nat),iI (g.words:Nat)]) g):=by
 have h':=h;obtain⟨h1,⟨s,e1,e2,e3,e4⟩,h3⟩:=h;have hc:=QLM e2;rw[e1]at hc;refine hc.mono ?_;rintro e w' ⟨rfl,hg⟩;exact⟨rfl,hg.touch _,h'.get hg⟩
theorem HIn.fd_lt(h:HIn w c g s)(a i kd:Int)(hk:kd=2\/kd=3):g.fdV a i kd<18446744073709551616:=by
 unfold Gph.fdV
 split
 ·rename_i he;unfold Gph.fdE at he
  split at he
  ·rename_i h1
   split at he
   ·exact absurd he (by decide)
   ·rename_i h2
    split at he
    ·exact absurd he (by decide)
    ·rename_i h3
     split at he
     ·rename_i h4;have hr:g.Rd (g.at a):=(Gph.at_ro h1).resolve_left h2;have hb:=h.gok.rd hr;obtain⟨hl,hs⟩:=h.gok.len _ (Gph.ob_mem hb.1 hb.2);have hN:CF (g.ob (g.at a)).hdr=1+((g.ob (g.at a)).p:Int)+(g.ob (g.at a)).f+(g.ob (g.at a)).k:=φ (EG hs);rw[<-h4]at hk;unfold BO at hk;rw[hN]at hk
      split at hk
      ·rename_i h5
       split at hk
       ·omega
       ·rename_i h6;have h6:¬i<((g.ob (g.at a)).p:Int):=h6;have hw:=h.img.wd _ hr i.toNat Ω Ω;have h9:=h.mem.ok.ldV_lt ((s.F (g.at a)+1+i.toNat:Nat):Int);rw[hw.2]at h9;exact h9
      ·omega
     ·exact absurd he (by decide)
  ·exact absurd he (by decide)
 ·decide
theorem HLv.fd_lt(h:HLv w0 K c hb g w)(a i kd:Int)(hk:kd=2\/kd=3):g.fdV a i kd<18446744073709551616:=by
 obtain⟨h1,⟨s,e1,e2,e3,e4⟩,h3⟩:=h;exact e2.fd_lt a i kd hk
def trL(hb r a u n o:Nat):List Value:=[pP hb,iI r,iI a,iI u,iI n,iI o]
structure AY(w0:World)(K:Nat->Prop)(c:HCf)(hb tb r a u n o:Nat)(g:Gph)(w:World):Prop where
 hv:HLv w0 K c hb g w
 row:Rec w tb 106 (trL hb r a u n o)
 kl:K tb
theorem AY.next(h:AY w0 K c hb tb r a u n o g w)(t':AB (hlT w0 K) w w')(hl:HLv w0 K c hb g' w'):AY w0 K c hb tb r a u n o g' w':=⟨hl,h.row.touch t' (λe=>e.2 h.kl),h.kl⟩
theorem AY.gr(h:AY w0 K c hb tb r a u n o g w)(gr:Gr w w'):AY w0 K c hb tb r a u n o g w':=⟨h.hv.get gr,h.row.gr gr,h.kl⟩
theorem AY.nx(h:AY w0 K c hb tb r a u n o g w)(t':AB (hlT w0 K) wx w)(ho:Calls prog f args w (HLo w0 K c hb w v g'))(k:∀w',Hid (AB (hlT w0 K) wx w')->Hid (AY w0 K c hb tb r a u n o g' w')->w'.cell? ⟨tb,0,none⟩=some (pP hb)->tb<w'.heap.size->Q (.returned v) w'):Calls prog f args w Q:=by
 refine ho.mono ?_;rintro e w' ⟨rfl,ht,hl⟩;have hq:=h.next ht hl
 exact k w' ⟨t'.trans ht⟩ ⟨hq⟩ (hq.row.cc 0) hq.row.lt
theorem GS(h:AY w0 K c hb tb r a u n o g w):cQ 48 #[pP tb] w (.bool false):=by
 have c0:w.cell? ⟨tb,0,none⟩=some (pP hb):=h.row.cc 0;clear h;go_enter func48,ntmps48;go_wp2;go_ret;exact⟨rfl,rfl⟩
theorem DJ(h:AY w0 K c hb tb r a u n o g w){v:Bool}(hv:(g.shE x==0)=v):Calls prog 55 #[pP tb,iI x] w (HLo w0 K c hb w (.bool v) (g)):=by
 have HQ:=ι h;have HT:=ι (AB.refl (hlT w0 K) w);have c0:w.cell? ⟨tb,0,none⟩=some (pP hb):=h.row.cc 0;have cl:=h.row.lt;clear h;unfold HLo;have X:=ι (λ(V:World) (hV:AY w0 K c hb tb r a u n o g V)=>hV.hv.shap x);unfold AM at X;generalize g.shE x=E at X hv;generalize (g.shH x).p=h1 at X;generalize (g.shH x).f=h2 at X;generalize (g.shH x).k=h3 at X;go_enter func55,ntmps55;go_wp2_with(go_at_call 34;refine HQ.o.nx HT.o (X.o _ HQ.o) ?_;clear HT HQ c0 cl;intro w1 HT HQ c0 cl);go_ret;exact⟨rfl,HT.o.trans (((Gr.refl _).alloc _).touch _),HQ.o.hv.get ((Gr.refl _).alloc _)⟩
theorem MJ(h:AY w0 K c hb tb r a u n o g w)(x:Nat):Calls prog 56 #[pP tb,iI x] w (HLo w0 K c hb w (uU (GC g x:Nat)) (g)):=by
 have HQ:=ι h;have HT:=ι (AB.refl (hlT w0 K) w);have c0:w.cell? ⟨tb,0,none⟩=some (pP hb):=h.row.cc 0;have cl:=h.row.lt;clear h;unfold HLo;unfold GC;have X:=ι (λ(V:World) (hV:AY w0 K c hb tb r a u n o g V)=>hV.hv.getW x 3);generalize g.fdV x 3 3=u at X⊢;generalize g.fdE x 3 3=e1 at X;go_enter func56,ntmps56;go_wp2_with(go_at_call 116;refine HQ.o.nx HT.o (X.o _ HQ.o) ?_;clear HT HQ c0 cl;intro w1 HT HQ c0 cl);go_ret;exact⟨rfl,HT.o,HQ.o.hv⟩
theorem VI7(h:AY w0 K c hb tb r a u n o g w)(x k:Nat):Calls prog 112 #[pP tb,iI x,uU k] w (HLo w0 K c hb w (iI (I7 g x k)) (g)):=by
 have HQ:=ι h;have HT:=ι (AB.refl (hlT w0 K) w);have c0:w.cell? ⟨tb,0,none⟩=some (pP hb):=h.row.cc 0;have cl:=h.row.lt;clear h;unfold HLo;have X:=ι (λ(V:World) (hV:AY w0 K c hb tb r a u n o g V)=>MJ hV x);unfold I7;generalize GC g x=y at X⊢;by_cases hk:k<y
 ·rw[φ hk];have Y:(k:Int)<(y:Int):=Ω
  go_enter func112,ntmps112;go_wp2_with(go_at_call 56;refine HQ.o.nx HT.o (X.o _ HQ.o) ?_;clear HT HQ c0 cl;intro w1 HT HQ c0 cl);go_ret;exact⟨rfl,HT.o,HQ.o.hv⟩
 ·rw[ξ hk];have Y:¬(k:Int)<(y:Int):=Ω
  go_enter func112,ntmps112;go_wp2_with(go_at_call 56;refine HQ.o.nx HT.o (X.o _ HQ.o) ?_;clear HT HQ c0 cl;intro w1 HT HQ c0 cl);go_ret;exact⟨rfl,HT.o,HQ.o.hv⟩
theorem YLg(x0 x1 x2 x3:Nat)(hk:k<4)(V:World):(Instr.index 35 (.agg #[iI x0,iI x1,iI x2,iI x3]) (iI k)).run prog V=.ok (iI ([x0,x1,x2,x3].getD k 0:Nat)) V:=by
 rcases(by omega:k=0\/k=1\/k=2\/k=3)with rfl|rfl|rfl|rfl <;> kernel_rfl
def LO(g:Gph)(l:List Nat):Gph:=l.foldl (λg (j:Nat)=>g.clG (j:Int)) g
theorem ZDY(g:Gph)(l:List Nat)(hk:k<l.length):LO g (l.take (k+1))=(LO g (l.take k)).clG (l.getD k 0):=by
 unfold LO;rw[ζ4 hk,List.foldl_append,ω,η hk];rfl
theorem Vg7(h:AY w0 K c hb tb r a u n o g w):Calls prog 47 #[pP tb] w (HLo w0 K c hb w (.tuple #[]) (GE a u n o g)):=by
 have HQ:=ι h;have HT:=ι (AB.refl (hlT w0 K) w);have c0:w.cell? ⟨tb,0,none⟩=some (pP hb):=h.row.cc 0;have cl:=h.row.lt;have c2:w.cell? ⟨tb,2,none⟩=some (iI a):=h.row.cc 2;have c3:w.cell? ⟨tb,3,none⟩=some (iI u):=h.row.cc 3;have c4:w.cell? ⟨tb,4,none⟩=some (iI n):=h.row.cc 4;have c5:w.cell? ⟨tb,5,none⟩=some (iI o):=h.row.cc 5;clear h;unfold HLo;rw[show GE a u n o g=LO g [a,u,n,o]from rfl];go_enter func47,ntmps47;go_wp2;go_quiet (fail);clear c2 c3 c4 c5
 replace HQ:=ι (HQ.o.gr ((Gr.refl w).drewN nq))
 replace HT:=ι (HT.o.trans (((Gr.refl w).drewN nq).touch _))
 have Z:=ι (λk (hk:k<4) V=>YLg a u n o hk V);go_wp2
 go_loopw [21] (λs21 wr=>∃k:Nat,k<=4/\s21=iI k/\Hid (AY w0 K c hb tb r a u n o (LO g ([a,u,n,o].take k)) wr)/\Hid (AB (hlT w0 K) w wr)) (λs21 _=>4-(intOf s21).toNat)
 case atStart=>exact⟨0,by omega,rfl,HQ,HT⟩
 case round=>
  clear HQ HT c0 cl;obtain⟨k,hk,rfl,HQ,HT⟩:=hrel;have c0:wr.cell? ⟨tb,0,none⟩=some (pP hb):=HQ.o.row.cc 0;have cl:=HQ.o.row.lt;by_cases X:k<4
  ·have hkI:(k:Int)<4:=Ω
   have Y:=Z.o k X;have HS:=ι (ZDY g [a,u,n,o] (k:=k) X);generalize [a,u,n,o].getD k 0=j at Y HS;clear hk X;go_wp2_with(go_at_call 46;refine HQ.o.nx HT.o (HQ.o.hv.clr _) ?_;clear HT HQ c0 cl;intro w1 HT HQ c0 cl);rw[<-HS.o]at HQ;go_round
   case rel=>exact⟨k+1,by omega,by go_num,HQ,HT⟩
   case measure=>simp[intOf];omega
  ·obtain rfl:k=4:=Ω
   clear X hk;go_wp2
   go_end0
   exact⟨rfl,HT.o,HQ.o.hv⟩
theorem IE(h:AY w0 K c hb tb r a u n o g w)(z:FrameMode):CallsD prog 47 #[pP tb] z w λe z' w'=>z'=z/\HLo w0 K c hb w (.tuple #[]) (GE a u n o g) e w':=by
 have HQ:=ι h;have HT:=ι (AB.refl (hlT w0 K) w);have c0:w.cell? ⟨tb,0,none⟩=some (pP hb):=h.row.cc 0;have cl:=h.row.lt;have c2:w.cell? ⟨tb,2,none⟩=some (iI a):=h.row.cc 2;have c3:w.cell? ⟨tb,3,none⟩=some (iI u):=h.row.cc 3;have c4:w.cell? ⟨tb,4,none⟩=some (iI n):=h.row.cc 4;have c5:w.cell? ⟨tb,5,none⟩=some (iI o):=h.row.cc 5;clear h;unfold HLo;rw[show GE a u n o g=LO g [a,u,n,o]from rfl]
 go_enter_d func47,ntmps47
 go_wp2;go_quiet (fail);clear c2 c3 c4 c5
 replace HQ:=ι (HQ.o.gr ((Gr.refl w).drewN nq))
 replace HT:=ι (HT.o.trans (((Gr.refl w).drewN nq).touch _))
 have Z:=ι (λk (hk:k<4) V=>YLg a u n o hk V);go_wp2
 go_loopw [21] (λs21 wr=>∃k:Nat,k<=4/\s21=iI k/\Hid (AY w0 K c hb tb r a u n o (LO g ([a,u,n,o].take k)) wr)/\Hid (AB (hlT w0 K) w wr)) (λs21 _=>4-(intOf s21).toNat)
 case atStart=>exact⟨0,by omega,rfl,HQ,HT⟩
 case round=>
  clear HQ HT c0 cl;obtain⟨k,hk,rfl,HQ,HT⟩:=hrel;have c0:wr.cell? ⟨tb,0,none⟩=some (pP hb):=HQ.o.row.cc 0;have cl:=HQ.o.row.lt;by_cases X:k<4
  ·have hkI:(k:Int)<4:=Ω
   have Y:=Z.o k X;have HS:=ι (ZDY g [a,u,n,o] (k:=k) X);generalize [a,u,n,o].getD k 0=j at Y HS;clear hk X;go_wp2_with(go_at_call 46;refine HQ.o.nx HT.o (HQ.o.hv.clr _) ?_;clear HT HQ c0 cl;intro w1 HT HQ c0 cl);rw[<-HS.o]at HQ;go_round
   case rel=>exact⟨k+1,by omega,by go_num,HQ,HT⟩
   case measure=>simp[intOf];omega
  ·obtain rfl:k=4:=Ω
   clear X hk;go_wp2
   go_end0
   exact⟨rfl,HT.o,HQ.o.hv⟩
theorem V4(h:AY w0 K c hb tb r a u n o g w)(s k m:Nat):Calls prog 52 #[pP tb,iI s,uU k,iI m] w (HLo w0 K c hb w (.tuple #[]) (JH r s k m g)):=by
 have HQ:=ι h;have HT:=ι (AB.refl (hlT w0 K) w);have c0:w.cell? ⟨tb,0,none⟩=some (pP hb):=h.row.cc 0;have cl:=h.row.lt;clear h;unfold HLo;unfold JH;by_cases hs:g.shE s=0
 ·rw[φ hs];have HS:=ι (show (g.shE s==0)=true from ξa.2 hs);have J:=ι (λ(V:World) (hV:AY w0 K c hb tb r a u n o g V)=>VI7 hV s k);generalize I7 g s k=sd at J⊢;clear hs;go_enter func52,ntmps52;go_upto_region 1 with(go_at_call 55;refine HQ.o.nx HT.o (DJ HQ.o HS.o) ?_;clear HT HQ c0 cl;intro w1 HT HQ c0 cl);clear c0 cl;obtain⟨Sx,Y,HS⟩:=AA.start λW'=>Rec W' tb 106 (trL hb r a u n o);have y0:=AA.fact Y λ_ h=>h.cell (j:=0) rfl;have X:=HS.o _ (HQ.o.row.gr (Gr.refl _).drew);have Z:Inhabited (AA Sx):=⟨⟨_,X⟩⟩;clear Y;refine AI Sx 10 [([0,1,2,3,4,5,6,7,9],8),([],10)] [] X ?_;refine AE ?_;go_wp2_with((go_at_call 112;refine(HQ.o.gr (Gr.refl _).drew).nx (HT.o.trans ((Gr.refl _).drew.touch _)) (J.o _ (HQ.o.gr (Gr.refl _).drew)) ?_;clear HT HQ;intro w1 HT HQ c0 cl));refine⟨.inr (AA.of (HS.o _ (HQ.o.row))),?_⟩;clear c0 cl;refine AE ?_;go_wp2_with((go_at_call 86;refine HQ.o.nx HT.o (HQ.o.hv.stor _ _ _) ?_;clear HT HQ;intro w1 HT HQ c0 cl));refine⟨.inl trivial,?_⟩;refine AL ?_;clear y0 X Z;clear HS Sx;go_wp2
  first|go_end0|((try simp only[Exit.inBlock,Exit.then]);refine ζG (ζl rfl _ _ _) rfl ?_)
  exact⟨rfl,HT.o,HQ.o.hv⟩
 ·rw[ξ hs];have HS:=ι (show (g.shE s==0)=false from ζD.2 hs);clear hs;go_enter func52,ntmps52;go_upto_region 2 with(go_at_call 55;refine HQ.o.nx HT.o (DJ HQ.o HS.o) ?_;clear HT HQ c0 cl;intro w1 HT HQ c0 cl);clear c0 cl;obtain⟨Sx,Y,HS⟩:=AA.start λW'=>Rec W' tb 106 (trL hb r a u n o);have y0:=AA.fact Y λ_ h=>h.cell (j:=0) rfl;have y1:=AA.fact Y λ_ h=>h.cell (j:=1) rfl;have X:=HS.o _ (HQ.o.row.gr (Gr.refl _).drew);have Z:Inhabited (AA Sx):=⟨⟨_,X⟩⟩;clear Y;refine AI Sx 9 [([0,1,2,3,4,5,6,7,8],9)] [] X ?_;refine AE ?_;go_wp2_with((go_at_call 54;refine(HQ.o.gr (Gr.refl _).drew).nx (HT.o.trans ((Gr.refl _).drew.touch _)) ((HQ.o.gr (Gr.refl _).drew).hv.copy _ _) ?_;clear HT HQ;intro w1 HT HQ c0 cl));refine⟨.inl trivial,?_⟩;refine AL ?_;clear y0 y1 X Z;clear HS Sx;go_wp2
  first|go_end0|((try simp only[Exit.inBlock,Exit.then]);refine ζG (ζl rfl _ _ _) rfl ?_)
  exact⟨rfl,HT.o,HQ.o.hv⟩
theorem YRb(h:AY w0 K c hb tb r a u n o g w)(s:Nat){v1 v2:Bool}(h1:((g.loG n s 0).shE n==0)=v1)(h2:((F6 n s g).shE n==0)=v2):Calls prog 60 #[pP tb,iI s] w (HLo w0 K c hb w (.bool (v1&&v2)) (F6 n s g)):=by
 have HQ:=ι h;have HT:=ι (AB.refl (hlT w0 K) w);have c0:w.cell? ⟨tb,0,none⟩=some (pP hb):=h.row.cc 0;have cl:=h.row.lt;clear h;unfold HLo;unfold F6 at h2⊢;have H1:=ι h1;have H2:=ι h2;clear h1 h2;cases v1 <;> cases v2
 all_goals
  go_enter func60,ntmps60;go_upto_region 1 with(fail);clear c0 cl;obtain⟨Sx,Y,HS⟩:=AA.start λW'=>Rec W' tb 106 (trL hb r a u n o);have y0:=AA.fact Y λ_ h=>h.cell (j:=0) rfl;have y4:=AA.fact Y λ_ h=>h.cell (j:=4) rfl;have X:=HS.o _ (HQ.o.row.gr (Gr.refl _).drew);have Z:Inhabited (AA Sx):=⟨⟨_,X⟩⟩;clear Y;refine AI Sx 9 [([0,1,2,3,4,5,6,7,8],9)] [] X ?_;refine AE ?_;go_wp2_with((go_at_call 57;refine(HQ.o.gr (Gr.refl _).drew).nx (HT.o.trans ((Gr.refl _).drew.touch _)) ((HQ.o.gr (Gr.refl _).drew).hv.load _ _ _) ?_;clear HT HQ;intro w1 HT HQ c0 cl));refine⟨.inl trivial,?_⟩;refine AL ?_;clear y0 y4 X Z;clear HS Sx;have c4:w1.cell? ⟨tb,4,none⟩=some (iI n):=HQ.o.row.cc 4;go_upto_region 3 with(go_at_call 55;refine HQ.o.nx HT.o (DJ (x:=n) HQ.o H1.o) ?_;clear HT HQ c0 cl;intro w1 HT HQ c0 cl);clear c0 cl;obtain⟨Sx,Y,HS⟩:=AA.start λW'=>Rec W' tb 106 (trL hb r a u n o);have y0:=AA.fact Y λ_ h=>h.cell (j:=0) rfl;have y4:=AA.fact Y λ_ h=>h.cell (j:=4) rfl;have X:=HS.o _ (HQ.o.row.gr (Gr.refl _).drew);have Z:Inhabited (AA Sx):=⟨⟨_,X⟩⟩;clear Y;refine AI Sx 9 [([0,1,2,3,4,5,6,7,8],9)] [] X ?_;refine AE ?_;go_wp2_with((go_at_call 57;refine(HQ.o.gr (Gr.refl _).drew).nx (HT.o.trans ((Gr.refl _).drew.touch _)) ((HQ.o.gr (Gr.refl _).drew).hv.load _ _ _) ?_;clear HT HQ;intro w1 HT HQ c0 cl));refine⟨.inl trivial,?_⟩;refine AL ?_;clear y0 y4 X Z;clear HS Sx;have c4:w1.cell? ⟨tb,4,none⟩=some (iI n):=HQ.o.row.cc 4;go_wp2_with(go_at_call 55;refine HQ.o.nx HT.o (DJ (x:=n) HQ.o H2.o) ?_;clear HT HQ c0 cl;intro w1 HT HQ c0 cl);go_ret;exact⟨rfl,HT.o,HQ.o.hv⟩
theorem V5J(h:AY w0 K c hb tb r a u n o g w)(s m k:Nat):Calls prog 62 #[pP tb,iI s,iI m,uU k] w (HLo w0 K c hb w (.tuple #[]) (Q6 r n s m k g)):=by
 have HQ:=ι h;have HT:=ι (AB.refl (hlT w0 K) w);have c0:w.cell? ⟨tb,0,none⟩=some (pP hb):=h.row.cc 0;have cl:=h.row.lt;clear h;unfold HLo;unfold Q6;by_cases hs:(g.loG n s 0).shE n=0
 ·rw[φ hs];have HS:=ι (show ((g.loG n s 0).shE n==0)=true from ξa.2 hs);clear hs;go_enter func62,ntmps62;go_upto_region 1 with(fail);clear c0 cl;obtain⟨Sx,Y,HS⟩:=AA.start λW'=>Rec W' tb 106 (trL hb r a u n o);have y0:=AA.fact Y λ_ h=>h.cell (j:=0) rfl;have y4:=AA.fact Y λ_ h=>h.cell (j:=4) rfl;have X:=HS.o _ (HQ.o.row.gr (Gr.refl _).drew);have Z:Inhabited (AA Sx):=⟨⟨_,X⟩⟩;clear Y;refine AI Sx 9 [([0,1,2,3,4,5,6,7,8],9)] [] X ?_;refine AE ?_;go_wp2_with((go_at_call 57;refine(HQ.o.gr (Gr.refl _).drew).nx (HT.o.trans ((Gr.refl _).drew.touch _)) ((HQ.o.gr (Gr.refl _).drew).hv.load _ _ _) ?_;clear HT HQ;intro w1 HT HQ c0 cl));refine⟨.inl trivial,?_⟩;refine AL ?_;clear y0 y4 X Z;clear HS Sx;have c4:w1.cell? ⟨tb,4,none⟩=some (iI n):=HQ.o.row.cc 4;go_upto_region 4 with(go_at_call 55;refine HQ.o.nx HT.o (DJ (x:=n) HQ.o HS.o) ?_;clear HT HQ c0 cl;intro w1 HT HQ c0 cl);clear c0 cl;obtain⟨Sx,Y,HS⟩:=AA.start λW'=>Rec W' tb 106 (trL hb r a u n o);have y0:=AA.fact Y λ_ h=>h.cell (j:=0) rfl;have y4:=AA.fact Y λ_ h=>h.cell (j:=4) rfl;have X:=HS.o _ (HQ.o.row.gr (Gr.refl _).drew);have Z:Inhabited (AA Sx):=⟨⟨_,X⟩⟩;clear Y;refine AI Sx 10 [([0,1,2,3,4,5,6,7,8,9],10)] [] X ?_;refine AE ?_;go_wp2_with((go_at_call 57;refine(HQ.o.gr (Gr.refl _).drew).nx (HT.o.trans ((Gr.refl _).drew.touch _)) ((HQ.o.gr (Gr.refl _).drew).hv.load _ _ _) ?_;clear HT HQ;intro w1 HT HQ c0 cl));refine⟨.inl trivial,?_⟩;refine AL ?_;clear y0 y4 X Z;clear HS Sx;have c4:w1.cell? ⟨tb,4,none⟩=some (iI n):=HQ.o.row.cc 4;go_wp2_with(go_at_call 52;refine HQ.o.nx HT.o (V4 HQ.o m k n) ?_;clear HT HQ c0 cl;intro w1 HT HQ c0 cl)
  first|go_end0|((try simp only[Exit.inBlock,Exit.then]);refine ζG (ζl rfl _ _ _) rfl ?_)
  exact⟨rfl,HT.o,HQ.o.hv⟩
 ·rw[ξ hs];have HS:=ι (show ((g.loG n s 0).shE n==0)=false from ζD.2 hs);clear hs;go_enter func62,ntmps62;go_upto_region 1 with(fail);clear c0 cl;obtain⟨Sx,Y,HS⟩:=AA.start λW'=>Rec W' tb 106 (trL hb r a u n o);have y0:=AA.fact Y λ_ h=>h.cell (j:=0) rfl;have y4:=AA.fact Y λ_ h=>h.cell (j:=4) rfl;have X:=HS.o _ (HQ.o.row.gr (Gr.refl _).drew);have Z:Inhabited (AA Sx):=⟨⟨_,X⟩⟩;clear Y;refine AI Sx 9 [([0,1,2,3,4,5,6,7,8],9)] [] X ?_;refine AE ?_;go_wp2_with((go_at_call 57;refine(HQ.o.gr (Gr.refl _).drew).nx (HT.o.trans ((Gr.refl _).drew.touch _)) ((HQ.o.gr (Gr.refl _).drew).hv.load _ _ _) ?_;clear HT HQ;intro w1 HT HQ c0 cl));refine⟨.inl trivial,?_⟩;refine AL ?_;clear y0 y4 X Z;clear HS Sx;have c4:w1.cell? ⟨tb,4,none⟩=some (iI n):=HQ.o.row.cc 4;go_upto_region 4 with(go_at_call 55;refine HQ.o.nx HT.o (DJ (x:=n) HQ.o HS.o) ?_;clear HT HQ c0 cl;intro w1 HT HQ c0 cl);clear c0 cl;obtain⟨Sx,Y,HS⟩:=AA.start λW'=>Rec W' tb 106 (trL hb r a u n o);have y0:=AA.fact Y λ_ h=>h.cell (j:=0) rfl;have y4:=AA.fact Y λ_ h=>h.cell (j:=4) rfl;have X:=HS.o _ (HQ.o.row.gr (Gr.refl _).drew);have Z:Inhabited (AA Sx):=⟨⟨_,X⟩⟩;clear Y;refine AI Sx 10 [([0,1,2,3,4,5,6,7,8,9],10)] [] X ?_;refine AE ?_;go_wp2_with((go_at_call 57;refine(HQ.o.gr (Gr.refl _).drew).nx (HT.o.trans ((Gr.refl _).drew.touch _)) ((HQ.o.gr (Gr.refl _).drew).hv.load _ _ _) ?_;clear HT HQ;intro w1 HT HQ c0 cl));refine⟨.inl trivial,?_⟩;refine AL ?_;clear y0 y4 X Z;clear HS Sx;have c4:w1.cell? ⟨tb,4,none⟩=some (iI n):=HQ.o.row.cc 4;go_wp2_with(go_at_call 52;refine HQ.o.nx HT.o (V4 HQ.o m k n) ?_;clear HT HQ c0 cl;intro w1 HT HQ c0 cl)
  first|go_end0|((try simp only[Exit.inBlock,Exit.then]);refine ζG (ζl rfl _ _ _) rfl ?_)
  exact⟨rfl,HT.o,HQ.o.hv⟩
theorem HLv.same(h:HLv w0 K c hb g w)(a b:Int):Calls prog 119 #[pP hb,iI a,iI b] w (HLo w0 K c hb w (.tuple #[.bool (g.sl a&&g.sl b&&(g.at a==g.at b)),iI (g.two a b 0)]) g):=h.of_op (λ_ e1 e2 e3=>e1▸JaK e2 e3 a b)
theorem JI(h:AY w0 K c hb tb r a u n o g w)(hs:TsG g r a u n o R):Calls prog 49 #[pP tb,uU k] w λe w'=>∃g',TfH g' r a u n o k R (R.sub k) (R.par k 0)/\HLo w0 K c hb w (.bool ((R.sub k).top !=0)) g' e w':=by
 have HQ:=ι h;have HT:=ι (AB.refl (hlT w0 K) w);have c0:w.cell? ⟨tb,0,none⟩=some (pP hb):=h.row.cc 0;have cl:=h.row.lt;clear h;have HF:=ι (TfH.start hs k);clear hs;go_enter func49,ntmps49;go_upto_region 1 with(fail);clear c0 cl;obtain⟨Sx,X,HS⟩:=AA.start λW'=>Rec W' tb 106 (trL hb r a u n o);have y0:=AA.fact X λ_ h=>h.cell (j:=0) rfl;have y3:=AA.fact X λ_ h=>h.cell (j:=3) rfl;have Y:=HS.o _ (HQ.o.row.gr (Gr.refl _).drew);have Z:Inhabited (AA Sx):=⟨⟨_,Y⟩⟩;clear X;refine AI Sx 8 [([0,1,2,3,4,5,6,7],8)] [] Y ?_;refine AE ?_;go_wp2_with((go_at_call 46;refine(HQ.o.gr (Gr.refl _).drew).nx (HT.o.trans ((Gr.refl _).drew.touch _)) ((HQ.o.gr (Gr.refl _).drew).hv.clr _) ?_;clear HT HQ;intro w1 HT HQ c0 cl));refine⟨.inl trivial,?_⟩;refine AL ?_;clear y0 y3 Y Z;clear HS Sx;go_upto_region 2 with(fail);clear c0 cl;obtain⟨Sx,X,HS⟩:=AA.start λW'=>Rec W' tb 106 (trL hb r a u n o);have y0:=AA.fact X λ_ h=>h.cell (j:=0) rfl;have y2:=AA.fact X λ_ h=>h.cell (j:=2) rfl;have y1:=AA.fact X λ_ h=>h.cell (j:=1) rfl;have Y:=HS.o _ (HQ.o.row.gr (Gr.refl _).drew);have Z:Inhabited (AA Sx):=⟨⟨_,Y⟩⟩;clear X;refine AI Sx 12 [([0,1,2,3,4,5,6,7,8,9,10,11],12)] [] Y ?_;refine AE ?_;go_wp2_with((go_at_call 54;refine(HQ.o.gr (Gr.refl _).drew).nx (HT.o.trans ((Gr.refl _).drew.touch _)) ((HQ.o.gr (Gr.refl _).drew).hv.copy _ _) ?_;clear HT HQ;intro w1 HT HQ c0 cl));refine⟨.inl trivial,?_⟩;refine AL ?_;clear y0 y2 y1 Y Z;clear HS Sx;go_wp2
 go_loopg [] R.ids.length (λm wr=>∃(g1:Gph) (T1:BT) (p1:Nat),Hid (T1.ids.length=m)/\Hid (AY w0 K c hb tb r a u n o g1 wr)/\Hid (AB (hlT w0 K) w wr)/\Hid (TfH g1 r a u n o k R T1 p1))
 case atStart=>exact⟨_,R,0,⟨rfl⟩,HQ,HT,HF⟩
 case round=>
  clear HQ HT HF c0 cl;obtain⟨g1,T1,p1,HN,HQ,HT,HF⟩:=hrel;have c0:wr.cell? ⟨tb,0,none⟩=some (pP hb):=HQ.o.row.cc 0;have cl:=HQ.o.row.lt;have I:=HF.o.f.w.q.lt a (by simp);have N:=GN I;have J:=HF.o.f.ha;have U:=HF.o.f.rp
  match T1,HN,HF,J,U with
  | .nil,HN,HF,J,U=>
   rw[show g1.sv a=0 from J,φ rfl]at N;have HS:=ι (show (g1.shE a==0)=false by rw[N];rfl);have HE:=ι (HF.o.found (.inl rfl));have HV:Hid (((R.sub k).top !=0)=false):=⟨by rw[<-(HF.o.f.found (.inl rfl)).1];rfl⟩;clear N J U I HN HF;have c2:wr.cell? ⟨tb,2,none⟩=some (iI a):=HQ.o.row.cc 2;go_wp2_with(go_at_call 55;refine HQ.o.nx HT.o (DJ (x:=a) HQ.o HS.o) ?_;clear HT HQ c0 cl;intro w1 HT HQ c0 cl;have c2:w1.cell? ⟨tb,2,none⟩=some (iI a):=HQ.o.row.cc 2);go_ret;exact⟨g1,HE.o,by rw[HV.o];rfl,HT.o,HQ.o.hv⟩
  | .node x f v c1 d1,HN,HF,J,U=>
   have b0:=U.1;rw[show g1.sv a=x from J,ξ b0.nz]at N;have HS:=ι (show (g1.shE a==0)=true by rw[N];rfl);have L:=(J6 I J b0).2.2.2;have E:=ι (λ(V:World) (hV:AY w0 K c hb tb r a u n o g1 V)=>MJ hV a);rw[show GC g1 a=v from L]at E;by_cases O:v=k
   ·have d0:((v:Int) !=(k:Int))=false:=by rw[O];simp
    have HE:=ι (HF.o.found (.inr ⟨x,f,c1,d1,by rw[O]⟩));have HV:Hid (((R.sub k).top !=0)=true):=⟨by rw[<-(HF.o.f.found (.inr ⟨x,f,c1,d1,by rw[O]⟩)).1];exact ξG.2 b0.nz⟩;clear N J U I b0 L HN HF O;have c2:wr.cell? ⟨tb,2,none⟩=some (iI a):=HQ.o.row.cc 2
    go_wp2_with(first
     | (go_at_call 55;refine HQ.o.nx HT.o (DJ (x:=a) HQ.o HS.o) ?_;clear HT HQ c0 cl;intro w1 HT HQ c0 cl;have c2:w1.cell? ⟨tb,2,none⟩=some (iI a):=HQ.o.row.cc 2)
     | (go_at_call 56;refine HQ.o.nx HT.o (E.o _ HQ.o) ?_;clear HT HQ c0 cl;intro w1 HT HQ c0 cl;have c2:w1.cell? ⟨tb,2,none⟩=some (iI a):=HQ.o.row.cc 2))
    go_ret;exact⟨g1,HE.o,by rw[HV.o];rfl,HT.o,HQ.o.hv⟩
   ·have d0:((v:Int) !=(k:Int))=true:=by rw[ξG];omega
    obtain⟨T2,G,D⟩:=HF.o.step O;have B:=ι D;have A:=ι G;clear N J U I b0 L HF O G D;have c2:wr.cell? ⟨tb,2,none⟩=some (iI a):=HQ.o.row.cc 2
    go_upto_region 4 with(first
     | (go_at_call 55;refine HQ.o.nx HT.o (DJ (x:=a) HQ.o HS.o) ?_;clear HT HQ c0 cl;intro w1 HT HQ c0 cl;have c2:w1.cell? ⟨tb,2,none⟩=some (iI a):=HQ.o.row.cc 2)
     | (go_at_call 56;refine HQ.o.nx HT.o (E.o _ HQ.o) ?_;clear HT HQ c0 cl;intro w1 HT HQ c0 cl;have c2:w1.cell? ⟨tb,2,none⟩=some (iI a):=HQ.o.row.cc 2))
    clear c0 cl;obtain⟨Sx,X,HS⟩:=AA.start λW'=>Rec W' tb 106 (trL hb r a u n o);have y0:=AA.fact X λ_ h=>h.cell (j:=0) rfl;have y3:=AA.fact X λ_ h=>h.cell (j:=3) rfl;have y2:=AA.fact X λ_ h=>h.cell (j:=2) rfl;have Y:=HS.o _ (HQ.o.row.gr (Gr.refl _).drew);have Z:Inhabited (AA Sx):=⟨⟨_,Y⟩⟩;clear X;refine AI Sx 12 [([0,1,2,3,4,5,6,7,8,9,10,11],12)] [] Y ?_;refine AE ?_;go_wp2_with((go_at_call 54;refine(HQ.o.gr (Gr.refl _).drew).nx (HT.o.trans ((Gr.refl _).drew.touch _)) ((HQ.o.gr (Gr.refl _).drew).hv.copy _ _) ?_;clear HT HQ;intro w1 HT HQ c0 cl));refine⟨.inl trivial,?_⟩;refine AL ?_;clear y0 y3 y2 Y Z;clear HS Sx;go_upto_region 5 with(fail);clear c0 cl;obtain⟨Sx,X,HS⟩:=AA.start λW'=>Rec W' tb 106 (trL hb r a u n o);have y0:=AA.fact X λ_ h=>h.cell (j:=0) rfl;have y2:=AA.fact X λ_ h=>h.cell (j:=2) rfl;have Y:=HS.o _ (HQ.o.row.gr (Gr.refl _).drew);have Z:Inhabited (AA Sx):=⟨⟨_,Y⟩⟩;clear X;refine AI Sx 19 [([0,1,2,3,4,5,6,7,8,9,10,11,12,13,14,15,16,17],18),([],19)] [] Y ?_;refine AE ?_;go_wp2_with((go_at_call 112;refine(HQ.o.gr (Gr.refl _).drew).nx (HT.o.trans ((Gr.refl _).drew.touch _)) (VI7 (HQ.o.gr (Gr.refl _).drew) a k) ?_;clear HT HQ;intro w1 HT HQ c0 cl));refine⟨.inr (AA.of (HS.o _ (HQ.o.row))),?_⟩;refine AE ?_;go_wp2_with((go_at_call 57;refine HQ.o.nx HT.o (HQ.o.hv.load _ _ _) ?_;clear HT HQ c0 cl;intro w1 HT HQ c0 cl));refine⟨.inl trivial,?_⟩;refine AL ?_;clear y0 y2 Y Z;clear HS Sx;go_wp2
    go_roundg T2.ids.length
    case measure=>rw[<-HN.o];exact A.o
    case rel=>exact⟨_,T2,x,⟨rfl⟩,HQ,HT,B⟩
theorem Q7E(h:AY w0 K c hb tb r a u n o g w)(hs:TwG g r a u n o R)(ha:g.sv a=x)(he:R.sub k=.node x f0 k c1 d1)(hd:d1≠.nil):Calls prog 61 #[pP tb] w λe w'=>∃g',TwG g' r a u n o (R.rep k (.node x d1.mn.2.1 d1.mn.2.2 c1 d1.dm))/\HLo w0 K c hb w (.tuple #[]) g' e w':=by
 have HQ:=ι h;have HT:=ι (AB.refl (hlT w0 K) w);have c0:w.cell? ⟨tb,0,none⟩=some (pP hb):=h.row.cc 0;have cl:=h.row.lt;clear h;have HF:=ι (I1.start hs ha he hd);have HE:=ι he;have HD:=ι hd;clear hs ha he hd;go_enter func61,ntmps61;go_upto_region 0 with(fail);clear c0 cl;obtain⟨Sx,X,HS⟩:=AA.start λW'=>Rec W' tb 106 (trL hb r a u n o);have y0:=AA.fact X λ_ h=>h.cell (j:=0) rfl;have y5:=AA.fact X λ_ h=>h.cell (j:=5) rfl;have y2:=AA.fact X λ_ h=>h.cell (j:=2) rfl;have Y:=HS.o _ (HQ.o.row.gr (Gr.refl _).drew);have Z:Inhabited (AA Sx):=⟨⟨_,Y⟩⟩;clear X;refine AI Sx 12 [([0,1,2,3,4,5,6,7,8,9,10,11],12)] [] Y ?_;refine AE ?_;go_wp2_with((go_at_call 54;refine(HQ.o.gr (Gr.refl _).drew).nx (HT.o.trans ((Gr.refl _).drew.touch _)) ((HQ.o.gr (Gr.refl _).drew).hv.copy _ _) ?_;clear HT HQ;intro w1 HT HQ c0 cl));refine⟨.inl trivial,?_⟩;refine AL ?_;clear y0 y5 y2 Y Z;clear HS Sx;go_upto_region 1 with(fail);clear c0 cl;obtain⟨Sx,X,HS⟩:=AA.start λW'=>Rec W' tb 106 (trL hb r a u n o);have y0:=AA.fact X λ_ h=>h.cell (j:=0) rfl;have y3:=AA.fact X λ_ h=>h.cell (j:=3) rfl;have y2:=AA.fact X λ_ h=>h.cell (j:=2) rfl;have Y:=HS.o _ (HQ.o.row.gr (Gr.refl _).drew);have Z:Inhabited (AA Sx):=⟨⟨_,Y⟩⟩;clear X;refine AI Sx 12 [([0,1,2,3,4,5,6,7,8,9,10,11],12)] [] Y ?_;refine AE ?_;go_wp2_with((go_at_call 57;refine(HQ.o.gr (Gr.refl _).drew).nx (HT.o.trans ((Gr.refl _).drew.touch _)) ((HQ.o.gr (Gr.refl _).drew).hv.load _ _ _) ?_;clear HT HQ;intro w1 HT HQ c0 cl));refine⟨.inl trivial,?_⟩;refine AL ?_;clear y0 y3 y2 Y Z;clear HS Sx;go_upto_region 2 with(fail);clear c0 cl;obtain⟨Sx,X,HS⟩:=AA.start λW'=>Rec W' tb 106 (trL hb r a u n o);have y0:=AA.fact X λ_ h=>h.cell (j:=0) rfl;have y4:=AA.fact X λ_ h=>h.cell (j:=4) rfl;have y3:=AA.fact X λ_ h=>h.cell (j:=3) rfl;have Y:=HS.o _ (HQ.o.row.gr (Gr.refl _).drew);have Z:Inhabited (AA Sx):=⟨⟨_,Y⟩⟩;clear X;refine AI Sx 12 [([0,1,2,3,4,5,6,7,8,9,10,11],12)] [] Y ?_;refine AE ?_;go_wp2_with((go_at_call 57;refine(HQ.o.gr (Gr.refl _).drew).nx (HT.o.trans ((Gr.refl _).drew.touch _)) ((HQ.o.gr (Gr.refl _).drew).hv.load _ _ _) ?_;clear HT HQ;intro w1 HT HQ c0 cl));refine⟨.inl trivial,?_⟩;refine AL ?_;clear y0 y4 y3 Y Z;clear HS Sx;go_wp2
 go_loopg [] d1.ids.length (λm wr=>∃(g1:Gph) (D1:BT) (p1:Nat),Hid (D1.ids.length=m)/\Hid (AY w0 K c hb tb r a u n o g1 wr)/\Hid (AB (hlT w0 K) w wr)/\Hid (I1 g1 r a u n o k x R d1 D1 p1))
 case atStart=>exact⟨_,d1,x,⟨rfl⟩,HQ,HT,HF⟩
 case round=>
  clear HQ HT HF c0 cl;obtain⟨g1,D1,p1,HN,HQ,HT,HF⟩:=hrel;have c0:wr.cell? ⟨tb,0,none⟩=some (pP hb):=HQ.o.row.cc 0;have cl:=HQ.o.row.lt;have N:=GN (HF.o.w.q.lt n (by simp));by_cases hz:g1.sv n=0
  ·rw[hz,φ rfl]at N;have HS:=ι (show (g1.shE n==0)=false by rw[N];rfl);obtain⟨A,B,U,-⟩:=HF.o.done hz HE.o HD.o;have Xb:=HF.o.w.q.lt o (by simp);have Xa:=HF.o.w.q.lt a (by simp)
   have G:(g1.loG n u 1).S.length=g1.S.length:=by
    have Xf:=HF.o.rp
    match D1,HF.o.ne,Xf,HF.o.hu with
    | .nil,h,_,_=>exact absurd rfl h
    | .node y f' w' a' b',_,Xf,hu=>exact(FW (d:=n) (s:=u) (HF.o.w.q.lt n (by simp)) (HF.o.w.q.lt u (by simp)) hu Xf.1).2.2.1
   have L:=HQ.o.hv.fd_lt u 3 3 (.inr rfl);have D:=HQ.o.hv.fd_lt u 2 2 (.inl rfl);rw[show g1.fdV u 3 3=d1.mn.2.2 from A]at L;rw[B]at D;have E:=λ(V:World) (hV:AY w0 K c hb tb r a u n o g1 V)=>MJ hV u;have I:=λ(V:World) (hV:AY w0 K c hb tb r a u n o g1 V)=>hV.hv.getF u 2;rw[A]at E;rw[B]at I;generalize g1.fdE u 2 2=e2 at I;obtain⟨ky,Xe⟩:∃ky,ky=d1.mn.2.2:=⟨_,rfl⟩;obtain⟨fl,Xc⟩:∃fl,fl=d1.mn.2.1:=⟨_,rfl⟩;rw[<-Xe]at E U L;rw[<-Xc]at I U D;have Xg:=ι Xe;have Xk:=ι Xc;clear Xe Xc;have J:=λ(V:World) (hV:AY w0 K c hb tb r a u n o (g1.loG n u 1) V)=>hV.hv.same o a;rw[show ((g1.loG n u 1).sl o&&(g1.loG n u 1).sl a&&((g1.loG n u 1).at o==(g1.loG n u 1).at a))=((g1.loG n u 1).sv o==(g1.loG n u 1).sv a)by rw[Gph.sl_lt (by rw[G];exact Xb),Gph.sl_lt (by rw[G];exact Xa)];rfl]at J;generalize (g1.loG n u 1).two o a 0=e3 at J;have Xh:=ι E;have Xi:=ι I;have HB:=ι (ψ L D);by_cases O:(g1.loG n u 1).sv o=(g1.loG n u 1).sv a
   ·rw[φ O]at U;rw[ξa.2 O]at J;have Xd:=ι J;have HW:=ι U;clear hz N A B U Xb Xa G L D E I J O HF HN;have c3:wr.cell? ⟨tb,3,none⟩=some (iI u):=HQ.o.row.cc 3;have c4:wr.cell? ⟨tb,4,none⟩=some (iI n):=HQ.o.row.cc 4
    go_upto_region 8 with(first
     | (go_at_call 55;refine HQ.o.nx HT.o (DJ (x:=n) HQ.o HS.o) ?_;clear HT HQ c0 cl c3;intro w1 HT HQ c0 cl;have c3:w1.cell? ⟨tb,3,none⟩=some (iI u):=HQ.o.row.cc 3)
     | (go_at_call 56;refine HQ.o.nx HT.o (Xh.o _ HQ.o) ?_;clear HT HQ c0 cl c3;intro w1 HT HQ c0 cl))
    clear c0 cl;obtain⟨Sx,X,HS⟩:=AA.start λW'=>Rec W' tb 106 (trL hb r a u n o);have y0:=AA.fact X λ_ h=>h.cell (j:=0) rfl;have y3:=AA.fact X λ_ h=>h.cell (j:=3) rfl;have Y:=HS.o _ (HQ.o.row.gr (Gr.refl _).drew);have Z:Inhabited (AA Sx):=⟨⟨_,Y⟩⟩;clear X;refine AI Sx 14 [([0,1,2,3,4,5,6,7],8)] [9,10,11,12,13] Y ?_;refine AE ?_;go_wp2_with((go_at_call 58;refine(HQ.o.gr (Gr.refl _).drew).nx (HT.o.trans ((Gr.refl _).drew.touch _)) (Xi.o _ (HQ.o.gr (Gr.refl _).drew)) ?_;clear HT HQ;intro w1 HT HQ c0 cl));refine⟨.inr (AA.of (HS.o _ (HQ.o.row))),?_⟩;refine AL ?_;clear y0 y3 Y Z;clear HS Sx;go_upto_region 9 with(fail);clear c0 cl;obtain⟨Sx,X,HS⟩:=AA.start λW'=>Rec W' tb 106 (trL hb r a u n o);have y0:=AA.fact X λ_ h=>h.cell (j:=0) rfl;have y4:=AA.fact X λ_ h=>h.cell (j:=4) rfl;have y3:=AA.fact X λ_ h=>h.cell (j:=3) rfl;have Y:=HS.o _ (HQ.o.row.gr (Gr.refl _).drew);have Z:Inhabited (AA Sx):=⟨⟨_,Y⟩⟩;clear X;refine AI Sx 12 [([0,1,2,3,4,5,6,7,8,9,10,11],12)] [] Y ?_;refine AE ?_;go_wp2_with((go_at_call 57;refine(HQ.o.gr (Gr.refl _).drew).nx (HT.o.trans ((Gr.refl _).drew.touch _)) ((HQ.o.gr (Gr.refl _).drew).hv.load _ _ _) ?_;clear HT HQ;intro w1 HT HQ c0 cl));refine⟨.inl trivial,?_⟩;refine AL ?_;clear y0 y4 y3 Y Z;clear HS Sx;go_upto_region 10 with(fail);clear c0 cl;obtain⟨Sx,X,HS⟩:=AA.start λW'=>Rec W' tb 106 (trL hb r a u n o);have y0:=AA.fact X λ_ h=>h.cell (j:=0) rfl;have y5:=AA.fact X λ_ h=>h.cell (j:=5) rfl;have y2:=AA.fact X λ_ h=>h.cell (j:=2) rfl;have Y:=HS.o _ (HQ.o.row.gr (Gr.refl _).drew);have Z:Inhabited (AA Sx):=⟨⟨_,Y⟩⟩;clear X;refine AI Sx 18 [([0,1,2,3,4,5,6,7,8,9,10,11],12)] [13,14,15,16,17] Y ?_;refine AE ?_;go_wp2_with((go_at_call 119;refine(HQ.o.gr (Gr.refl _).drew).nx (HT.o.trans ((Gr.refl _).drew.touch _)) (Xd.o _ (HQ.o.gr (Gr.refl _).drew)) ?_;clear HT HQ;intro w1 HT HQ c0 cl));refine⟨.inr (AA.of (HS.o _ (HQ.o.row))),?_⟩;refine AL ?_;clear y0 y5 y2 Y Z;clear HS Sx;go_upto_region 14 with(fail);clear c0 cl;obtain⟨Sx,X,HS⟩:=AA.start λW'=>Rec W' tb 106 (trL hb r a u n o);have y0:=AA.fact X λ_ h=>h.cell (j:=0) rfl;have y5:=AA.fact X λ_ h=>h.cell (j:=5) rfl;have y4:=AA.fact X λ_ h=>h.cell (j:=4) rfl;have Y:=HS.o _ (HQ.o.row.gr (Gr.refl _).drew);have Z:Inhabited (AA Sx):=⟨⟨_,Y⟩⟩;clear X;refine AI Sx 13 [([0,1,2,3,4,5,6,7,8,9,10,11,12],13)] [] Y ?_;refine AE ?_;go_wp2_with((go_at_call 86;refine(HQ.o.gr (Gr.refl _).drew).nx (HT.o.trans ((Gr.refl _).drew.touch _)) ((HQ.o.gr (Gr.refl _).drew).hv.stor _ _ _) ?_;clear HT HQ;intro w1 HT HQ c0 cl));refine⟨.inl trivial,?_⟩;refine AL ?_;clear y0 y5 y4 Y Z;clear HS Sx;go_upto_region 15 with(fail);clear c0 cl;obtain⟨Sx,X,HS⟩:=AA.start λW'=>Rec W' tb 106 (trL hb r a u n o);have y0:=AA.fact X λ_ h=>h.cell (j:=0) rfl;have y2:=AA.fact X λ_ h=>h.cell (j:=2) rfl;have Y:=HS.o _ (HQ.o.row.gr (Gr.refl _).drew);have Z:Inhabited (AA Sx):=⟨⟨_,Y⟩⟩;clear X;refine AI Sx 9 [([0,1,2,3,4,5,6,7,8],9)] [] Y ?_;refine AE ?_;go_wp2_with((go_at_call 51;refine(HQ.o.gr (Gr.refl _).drew).nx (HT.o.trans ((Gr.refl _).drew.touch _)) ((HQ.o.gr (Gr.refl _).drew).hv.setW _ _ HB.o.1) ?_;clear HT HQ;intro w1 HT HQ c0 cl));refine⟨.inl trivial,?_⟩;refine AL ?_;clear y0 y2 Y Z;clear HS Sx;go_upto_region 16 with(fail);clear c0 cl;obtain⟨Sx,X,HS⟩:=AA.start λW'=>Rec W' tb 106 (trL hb r a u n o);have y0:=AA.fact X λ_ h=>h.cell (j:=0) rfl;have y2:=AA.fact X λ_ h=>h.cell (j:=2) rfl;have Y:=HS.o _ (HQ.o.row.gr (Gr.refl _).drew);have Z:Inhabited (AA Sx):=⟨⟨_,Y⟩⟩;clear X;refine AI Sx 9 [([0,1,2,3,4,5,6,7,8],9)] [] Y ?_;refine AE ?_;go_wp2_with((go_at_call 50;refine(HQ.o.gr (Gr.refl _).drew).nx (HT.o.trans ((Gr.refl _).drew.touch _)) ((HQ.o.gr (Gr.refl _).drew).hv.setF _ _ HB.o.2) ?_;clear HT HQ;intro w1 HT HQ c0 cl));refine⟨.inl trivial,?_⟩;refine AL ?_;clear y0 y2 Y Z;clear HS Sx;go_wp2
    first|go_end0|((try simp only[Exit.inBlock,Exit.then]);refine ζG (ζl rfl _ _ _) rfl ?_)
    exact⟨_,by rw[<-Xg.o,<-Xk.o];exact HW.o,rfl,HT.o,HQ.o.hv⟩
   ·rw[ξ O]at U;rw[ζD.2 O]at J;have Xd:=ι J;have HW:=ι U;clear hz N A B U Xb Xa G L D E I J O HF HN;have c3:wr.cell? ⟨tb,3,none⟩=some (iI u):=HQ.o.row.cc 3;have c4:wr.cell? ⟨tb,4,none⟩=some (iI n):=HQ.o.row.cc 4
    go_upto_region 8 with(first
     | (go_at_call 55;refine HQ.o.nx HT.o (DJ (x:=n) HQ.o HS.o) ?_;clear HT HQ c0 cl c3;intro w1 HT HQ c0 cl;have c3:w1.cell? ⟨tb,3,none⟩=some (iI u):=HQ.o.row.cc 3)
     | (go_at_call 56;refine HQ.o.nx HT.o (Xh.o _ HQ.o) ?_;clear HT HQ c0 cl c3;intro w1 HT HQ c0 cl))
    clear c0 cl;obtain⟨Sx,X,HS⟩:=AA.start λW'=>Rec W' tb 106 (trL hb r a u n o);have y0:=AA.fact X λ_ h=>h.cell (j:=0) rfl;have y3:=AA.fact X λ_ h=>h.cell (j:=3) rfl;have Y:=HS.o _ (HQ.o.row.gr (Gr.refl _).drew);have Z:Inhabited (AA Sx):=⟨⟨_,Y⟩⟩;clear X;refine AI Sx 14 [([0,1,2,3,4,5,6,7],8)] [9,10,11,12,13] Y ?_;refine AE ?_;go_wp2_with((go_at_call 58;refine(HQ.o.gr (Gr.refl _).drew).nx (HT.o.trans ((Gr.refl _).drew.touch _)) (Xi.o _ (HQ.o.gr (Gr.refl _).drew)) ?_;clear HT HQ;intro w1 HT HQ c0 cl));refine⟨.inr (AA.of (HS.o _ (HQ.o.row))),?_⟩;refine AL ?_;clear y0 y3 Y Z;clear HS Sx;go_upto_region 9 with(fail);clear c0 cl;obtain⟨Sx,X,HS⟩:=AA.start λW'=>Rec W' tb 106 (trL hb r a u n o);have y0:=AA.fact X λ_ h=>h.cell (j:=0) rfl;have y4:=AA.fact X λ_ h=>h.cell (j:=4) rfl;have y3:=AA.fact X λ_ h=>h.cell (j:=3) rfl;have Y:=HS.o _ (HQ.o.row.gr (Gr.refl _).drew);have Z:Inhabited (AA Sx):=⟨⟨_,Y⟩⟩;clear X;refine AI Sx 12 [([0,1,2,3,4,5,6,7,8,9,10,11],12)] [] Y ?_;refine AE ?_;go_wp2_with((go_at_call 57;refine(HQ.o.gr (Gr.refl _).drew).nx (HT.o.trans ((Gr.refl _).drew.touch _)) ((HQ.o.gr (Gr.refl _).drew).hv.load _ _ _) ?_;clear HT HQ;intro w1 HT HQ c0 cl));refine⟨.inl trivial,?_⟩;refine AL ?_;clear y0 y4 y3 Y Z;clear HS Sx;go_upto_region 10 with(fail);clear c0 cl;obtain⟨Sx,X,HS⟩:=AA.start λW'=>Rec W' tb 106 (trL hb r a u n o);have y0:=AA.fact X λ_ h=>h.cell (j:=0) rfl;have y5:=AA.fact X λ_ h=>h.cell (j:=5) rfl;have y2:=AA.fact X λ_ h=>h.cell (j:=2) rfl;have Y:=HS.o _ (HQ.o.row.gr (Gr.refl _).drew);have Z:Inhabited (AA Sx):=⟨⟨_,Y⟩⟩;clear X;refine AI Sx 18 [([0,1,2,3,4,5,6,7,8,9,10,11],12)] [13,14,15,16,17] Y ?_;refine AE ?_;go_wp2_with((go_at_call 119;refine(HQ.o.gr (Gr.refl _).drew).nx (HT.o.trans ((Gr.refl _).drew.touch _)) (Xd.o _ (HQ.o.gr (Gr.refl _).drew)) ?_;clear HT HQ;intro w1 HT HQ c0 cl));refine⟨.inr (AA.of (HS.o _ (HQ.o.row))),?_⟩;refine AL ?_;clear y0 y5 y2 Y Z;clear HS Sx;go_upto_region 14 with(fail);clear c0 cl;obtain⟨Sx,X,HS⟩:=AA.start λW'=>Rec W' tb 106 (trL hb r a u n o);have y0:=AA.fact X λ_ h=>h.cell (j:=0) rfl;have y5:=AA.fact X λ_ h=>h.cell (j:=5) rfl;have y4:=AA.fact X λ_ h=>h.cell (j:=4) rfl;have Y:=HS.o _ (HQ.o.row.gr (Gr.refl _).drew);have Z:Inhabited (AA Sx):=⟨⟨_,Y⟩⟩;clear X;refine AI Sx 13 [([0,1,2,3,4,5,6,7,8,9,10,11,12],13)] [] Y ?_;refine AE ?_;go_wp2_with((go_at_call 86;refine(HQ.o.gr (Gr.refl _).drew).nx (HT.o.trans ((Gr.refl _).drew.touch _)) ((HQ.o.gr (Gr.refl _).drew).hv.stor _ _ _) ?_;clear HT HQ;intro w1 HT HQ c0 cl));refine⟨.inl trivial,?_⟩;refine AL ?_;clear y0 y5 y4 Y Z;clear HS Sx;go_upto_region 15 with(fail);clear c0 cl;obtain⟨Sx,X,HS⟩:=AA.start λW'=>Rec W' tb 106 (trL hb r a u n o);have y0:=AA.fact X λ_ h=>h.cell (j:=0) rfl;have y2:=AA.fact X λ_ h=>h.cell (j:=2) rfl;have Y:=HS.o _ (HQ.o.row.gr (Gr.refl _).drew);have Z:Inhabited (AA Sx):=⟨⟨_,Y⟩⟩;clear X;refine AI Sx 9 [([0,1,2,3,4,5,6,7,8],9)] [] Y ?_;refine AE ?_;go_wp2_with((go_at_call 51;refine(HQ.o.gr (Gr.refl _).drew).nx (HT.o.trans ((Gr.refl _).drew.touch _)) ((HQ.o.gr (Gr.refl _).drew).hv.setW _ _ HB.o.1) ?_;clear HT HQ;intro w1 HT HQ c0 cl));refine⟨.inl trivial,?_⟩;refine AL ?_;clear y0 y2 Y Z;clear HS Sx;go_upto_region 16 with(fail);clear c0 cl;obtain⟨Sx,X,HS⟩:=AA.start λW'=>Rec W' tb 106 (trL hb r a u n o);have y0:=AA.fact X λ_ h=>h.cell (j:=0) rfl;have y2:=AA.fact X λ_ h=>h.cell (j:=2) rfl;have Y:=HS.o _ (HQ.o.row.gr (Gr.refl _).drew);have Z:Inhabited (AA Sx):=⟨⟨_,Y⟩⟩;clear X;refine AI Sx 9 [([0,1,2,3,4,5,6,7,8],9)] [] Y ?_;refine AE ?_;go_wp2_with((go_at_call 50;refine(HQ.o.gr (Gr.refl _).drew).nx (HT.o.trans ((Gr.refl _).drew.touch _)) ((HQ.o.gr (Gr.refl _).drew).hv.setF _ _ HB.o.2) ?_;clear HT HQ;intro w1 HT HQ c0 cl));refine⟨.inl trivial,?_⟩;refine AL ?_;clear y0 y2 Y Z;clear HS Sx;go_wp2
    first|go_end0|((try simp only[Exit.inBlock,Exit.then]);refine ζG (ζl rfl _ _ _) rfl ?_)
    exact⟨_,by rw[<-Xg.o,<-Xk.o];exact HW.o,rfl,HT.o,HQ.o.hv⟩
  ·rw[ξ hz]at N;have HS:=ι (show (g1.shE n==0)=true by rw[N];rfl);obtain⟨D2,p2,Xj,Xl⟩:=HF.o.step hz;have Xn:=ι Xl;have Xm:=ι Xj;clear hz N HF Xj Xl;have c4:wr.cell? ⟨tb,4,none⟩=some (iI n):=HQ.o.row.cc 4;go_upto_region 5 with(go_at_call 55;refine HQ.o.nx HT.o (DJ (x:=n) HQ.o HS.o) ?_;clear HT HQ c0 cl;intro w1 HT HQ c0 cl);clear c0 cl;obtain⟨Sx,X,HS⟩:=AA.start λW'=>Rec W' tb 106 (trL hb r a u n o);have y0:=AA.fact X λ_ h=>h.cell (j:=0) rfl;have y5:=AA.fact X λ_ h=>h.cell (j:=5) rfl;have y3:=AA.fact X λ_ h=>h.cell (j:=3) rfl;have Y:=HS.o _ (HQ.o.row.gr (Gr.refl _).drew);have Z:Inhabited (AA Sx):=⟨⟨_,Y⟩⟩;clear X;refine AI Sx 12 [([0,1,2,3,4,5,6,7,8,9,10,11],12)] [] Y ?_;refine AE ?_;go_wp2_with((go_at_call 54;refine(HQ.o.gr (Gr.refl _).drew).nx (HT.o.trans ((Gr.refl _).drew.touch _)) ((HQ.o.gr (Gr.refl _).drew).hv.copy _ _) ?_;clear HT HQ;intro w1 HT HQ c0 cl));refine⟨.inl trivial,?_⟩;refine AL ?_;clear y0 y5 y3 Y Z;clear HS Sx;go_upto_region 6 with(fail);clear c0 cl;obtain⟨Sx,X,HS⟩:=AA.start λW'=>Rec W' tb 106 (trL hb r a u n o);have y0:=AA.fact X λ_ h=>h.cell (j:=0) rfl;have y3:=AA.fact X λ_ h=>h.cell (j:=3) rfl;have y4:=AA.fact X λ_ h=>h.cell (j:=4) rfl;have Y:=HS.o _ (HQ.o.row.gr (Gr.refl _).drew);have Z:Inhabited (AA Sx):=⟨⟨_,Y⟩⟩;clear X;refine AI Sx 12 [([0,1,2,3,4,5,6,7,8,9,10,11],12)] [] Y ?_;refine AE ?_;go_wp2_with((go_at_call 54;refine(HQ.o.gr (Gr.refl _).drew).nx (HT.o.trans ((Gr.refl _).drew.touch _)) ((HQ.o.gr (Gr.refl _).drew).hv.copy _ _) ?_;clear HT HQ;intro w1 HT HQ c0 cl));refine⟨.inl trivial,?_⟩;refine AL ?_;clear y0 y3 y4 Y Z;clear HS Sx;go_upto_region 4 with(fail);clear c0 cl;obtain⟨Sx,X,HS⟩:=AA.start λW'=>Rec W' tb 106 (trL hb r a u n o);have y0:=AA.fact X λ_ h=>h.cell (j:=0) rfl;have y4:=AA.fact X λ_ h=>h.cell (j:=4) rfl;have y3:=AA.fact X λ_ h=>h.cell (j:=3) rfl;have Y:=HS.o _ (HQ.o.row.gr (Gr.refl _).drew);have Z:Inhabited (AA Sx):=⟨⟨_,Y⟩⟩;clear X;refine AI Sx 12 [([0,1,2,3,4,5,6,7,8,9,10,11],12)] [] Y ?_;refine AE ?_;go_wp2_with((go_at_call 57;refine(HQ.o.gr (Gr.refl _).drew).nx (HT.o.trans ((Gr.refl _).drew.touch _)) ((HQ.o.gr (Gr.refl _).drew).hv.load _ _ _) ?_;clear HT HQ;intro w1 HT HQ c0 cl));refine⟨.inl trivial,?_⟩;refine AL ?_;clear y0 y4 y3 Y Z;clear HS Sx;go_wp2
   go_roundg D2.ids.length
   case measure=>rw[<-HN.o];exact Xm.o
   case rel=>exact⟨_,D2,p2,⟨rfl⟩,HQ,HT,Xn⟩
theorem VIO(h:HIn w c g s):Calls prog 45 #[pP s.A.hp] w λe w'=>e=.returned (G4 c)/\Gr w w':=by
 have O:=(λ(V:World) (gV:Gr w V)=>FJ (h.gr gV));have hsf:=Qwi;have J:=h.com.row;unfold hpL at J;obtain⟨w2,Z⟩:∃w2,w2=w.alloc (.cells #[.int .i64 0,.int .i64 0,.int .i64 0,.int .i64 0,.int .i64 0,.int .i64 0,.int .i64 0,.float .f64 0] 24):=⟨_,rfl⟩;have Y:Rec w2 w.heap.size 24 [iI 0,iI 0,iI 0,iI 0,iI 0,iI 0,iI 0,.float .f64 0]:=by rw[Z];exact Rec.new w 24 [iI 0,iI 0,iI 0,iI 0,iI 0,iI 0,iI 0,.float .f64 0]
 have U:Gr w w2:=by rw[Z];exact(Gr.refl w).alloc _
 have X:=J.gr U;have N:=(O _ U);have E:=Y;have I:=U;obtain⟨k0,k1,k2,k3,k4,k5,k6,k7,kl⟩:=X.k8;have z0:=Y.cc 0;have z1:=Y.cc 1;have z2:=Y.cc 2;have z3:=Y.cc 3;have z4:=Y.cc 4;have z5:=Y.cc 5;have z6:=Y.cc 6;have z7:=Y.cc 7;have zf:=Y.free;have zl:=Y.lt;generalize s.A.hp=hp at *
 obtain⟨kd,pg,bk,wd,sl,st,ah,tr⟩:=c;go_enter func45,ntmps45;go_upto_region 1 with(fail);rw[<-Z];clear Z;go_wp2_with(go_at_call 63;refine N.mono ?_;rintro e w1 ⟨rfl,rfl⟩);have R8:=(Rec.set (Rec.set (Rec.set (Rec.set (Rec.set (Rec.set (Rec.set (Rec.set E 0 (iI kd)) 1 (iI pg)) 2 (iI bk)) 3 (iI wd)) 4 (iI sl)) 5 (iI st)) 6 (iI ah)) 7 (.float .f64 tr));have hl:=SA R8 (by kernel_rfl) (by kernel_rfl);have ht:=(((((((((I.touch (λk=>w.heap.size<=k)).setCell (a:=⟨w.heap.size,0,none⟩) (λ_=>ϑ _) (iI kd)).setCell (a:=⟨w.heap.size,1,none⟩) (λ_=>ϑ _) (iI pg)).setCell (a:=⟨w.heap.size,2,none⟩) (λ_=>ϑ _) (iI bk)).setCell (a:=⟨w.heap.size,3,none⟩) (λ_=>ϑ _) (iI wd)).setCell (a:=⟨w.heap.size,4,none⟩) (λ_=>ϑ _) (iI sl)).setCell (a:=⟨w.heap.size,5,none⟩) (λ_=>ϑ _) (iI st)).setCell (a:=⟨w.heap.size,6,none⟩) (λ_=>ϑ _) (iI ah)).setCell (a:=⟨w.heap.size,7,none⟩) (λ_=>ϑ _) (.float .f64 tr));refine ζG (v:=.agg #[iI kd,iI pg,iI bk,iI wd,iI sl,iI st,iI ah,.float .f64 tr]) ?_ rfl ⟨rfl,(ht.mono (T:=λ_=>False) (λk hk e=>by omega)).gr⟩;simp[results,results45,asAddr,hl]
theorem HLv.facts(h:HLv w0 K c hb g w):c.Ok/\g.Ok/\g.S.length=c.sl:=by
 obtain⟨-,⟨s,-,h,-,-⟩,-⟩:=h;exact⟨h.cok,h.gok,h.sl⟩
theorem HLv.conf(h:HLv w0 K c hb g w):Calls prog 45 #[pP hb] w λe w'=>e=.returned (G4 c)/\Gr w w':=by
 obtain⟨-,⟨s,e1,h,-,-⟩,-⟩:=h;rw[<-e1];exact VIO h
theorem X69(h:AY w0 K c hb tb r a u n o g w)(hs:TsG g r a u n o R)(hk:k<18446744073709551616){f:Nat}(he:R.sub k=.node x f k c1 d1)(hy:y<18446744073709551616):Calls prog 14 #[pP tb,uU k,.float .f64 y] w λe w'=>∃g' R',TsG g' r a u n o R'/\R'.its.Perm ((y,k) :: (c1.its++d1.its++R.oth k))/\HLo w0 K c hb w (iI 0) g' e w':=by
 have U:=JI h hs (k:=k);rw[show ((R.sub k).top !=0)=true by rw[he];have:=(hs.t.hs.rep.sub (k:=k));rw[he]at this;exact ξG.2 this.1.nz]at U;have L:=ι U;have HE:=ι he;have HK:=ι hk;have HY:=ι hy;clear hy U hs he hk;have HQ:=ι h;have HT:=ι (AB.refl (hlT w0 K) w);have c0:w.cell? ⟨tb,0,none⟩=some (pP hb):=h.row.cc 0;have cl:=h.row.lt;clear h
 go_enter_defers func14,ntmps14
 go_upto_region 5 with(first
  | (go_at_call 48;refine AK (GS HQ.o) ?_)
  | (go_at_call 49;refine L.o.mono ?_;rintro e w1 ⟨g1,hf,rfl,ht,hl⟩;have HF:=ι hf;replace HT:=ι (HT.o.trans ht);replace HQ:=ι (HQ.o.next ht hl);clear ht hl hf c0 cl;have c0:w1.cell? ⟨tb,0,none⟩=some (pP hb):=HQ.o.row.cc 0;have cl:=HQ.o.row.lt))
 have I:=HF.o.f.w.q.lt a (by simp);have J:=HF.o.f.ha;have Y:=HF.o.f.rp;rw[HE.o]at J Y;have N:=J6 I J Y.1;have hq:=λV (hV:AY w0 K c hb tb r a u n o g1 V)=>hV.hv.setF a 2 HY.o;rw[N.1]at hq;have D:=ι hq;clear I J Y N hq;go_upto_region 5 with(fail);clear c0 cl;obtain⟨Sx,Z,HS⟩:=AA.start λW'=>Rec W' tb 106 (trL hb r a u n o);have y0:=AA.fact Z λ_ h=>h.cell (j:=0) rfl;have y2:=AA.fact Z λ_ h=>h.cell (j:=2) rfl;have X:=HS.o _ (HQ.o.row.gr (Gr.refl _).drew);have O:Inhabited (AA Sx):=⟨⟨_,X⟩⟩;clear Z;refine AI Sx 11 [([0,1,2,3,4,5,6,7,8],9)] [10] X ?_;refine AE ?_;go_wp2_with((go_at_call 50;refine(HQ.o.gr (Gr.refl _).drew).nx (HT.o.trans ((Gr.refl _).drew.touch _)) (D.o _ (HQ.o.gr (Gr.refl _).drew)) ?_;clear HT HQ;intro w1 HT HQ c0 cl));refine⟨.inr (AA.of (HS.o _ (HQ.o.row))),?_⟩;refine AL ?_;clear y0 y2 X O;clear HS Sx;go_wp2;refine leaves_cons (f:=47) (args:=#[pP tb]) (by simp) (by simp[go_sem]) ?_;refine(IE HQ.o _).mono ?_;rintro e u' w2 ⟨rfl,rfl,ht,hl⟩;have E:=ι (HT.o.trans ht);simp only[Leaves,settle];refine⟨_,by simp[results,results14,go_sem],_,_,(HF.o.f.w.over (by rw[HF.o.f.ha,HE.o];rfl) HE.o y).done,BT.its_over y,rfl,E.o,hl⟩
theorem JQw(h:AY w0 K c hb tb r a u n o g w)(hs:TsG g r a u n o R)(hk:k<18446744073709551616)(he:R.sub k=.nil)(hy:y<18446744073709551616)(hc:5*R.ids.length+5<=c.wd):Calls prog 14 #[pP tb,uU k,.float .f64 y] w λe w'=>∃g' R',TsG g' r a u n o R'/\R'.its.Perm ((y,k) :: R.its)/\HLo w0 K c hb w (iI 0) g' e w':=by
 have N:=JI h hs (k:=k);rw[show ((R.sub k).top !=0)=false by rw[he];rfl]at N;have O:=ι N;have HE:=ι he;have HK:=ι hk;have HY:=ι hy;have HC:=ι hc;clear hy hc N hs he hk;have HQ:=ι h;have HT:=ι (AB.refl (hlT w0 K) w);have c0:w.cell? ⟨tb,0,none⟩=some (pP hb):=h.row.cc 0;have cl:=h.row.lt;clear h
 go_enter_defers func14,ntmps14
 go_upto_region 6 with(first
  | (go_at_call 48;refine AK (GS HQ.o) ?_)
  | (go_at_call 49;refine O.o.mono ?_;rintro e w1 ⟨g1,hf,rfl,ht,hl⟩;have HF:=ι hf;replace HT:=ι (HT.o.trans ht);replace HQ:=ι (HQ.o.next ht hl);clear ht hl hf c0 cl;have c0:w1.cell? ⟨tb,0,none⟩=some (pP hb):=HQ.o.row.cc 0;have cl:=HQ.o.row.lt))
 have J:=Z8Q (HF.o.f.w.q.lt a (by simp)) c.wd;rw[HF.o.words HQ.o.hv.facts.2.1,ξ (by have:=HC.o;omega)]at J;obtain⟨R',hw,hp⟩:=HF.o.f.w.ins (f:=y) HF.o.f.hu HE.o J;have HW:=ι hw;have HP:=ι hp;have hq:=λV (hV:AY w0 K c hb tb r a u n o g1 V)=>hV.hv.allo a ⟨2,1,1⟩;rw[J]at hq;have U:=ι hq;unfold AM at U;dsimp only at U;clear J hw hp hq HF O;go_upto_region 6 with(fail);clear c0 cl;obtain⟨Sx,Y,HS⟩:=AA.start λW'=>Rec W' tb 106 (trL hb r a u n o);have y0:=AA.fact Y λ_ h=>h.cell (j:=0) rfl;have y2:=AA.fact Y λ_ h=>h.cell (j:=2) rfl;have X:=HS.o _ (HQ.o.row.gr (Gr.refl _).drew);have Z:Inhabited (AA Sx):=⟨⟨_,X⟩⟩;clear Y;refine AI Sx 11 [([0,1,2,3,4,5,6,7,8],9)] [10] X ?_;refine AE ?_;go_wp2_with((go_at_call 26;refine(HQ.o.gr (Gr.refl _).drew).nx (HT.o.trans ((Gr.refl _).drew.touch _)) (U.o _ (HQ.o.gr (Gr.refl _).drew)) ?_;clear HT HQ;intro w1 HT HQ c0 cl));refine⟨.inr (AA.of (HS.o _ (HQ.o.row))),?_⟩;refine AL ?_;clear y0 y2 X Z;clear HS Sx;go_upto_region 9 with(fail);clear c0 cl;obtain⟨Sx,Y,HS⟩:=AA.start λW'=>Rec W' tb 106 (trL hb r a u n o);have y0:=AA.fact Y λ_ h=>h.cell (j:=0) rfl;have y2:=AA.fact Y λ_ h=>h.cell (j:=2) rfl;have X:=HS.o _ (HQ.o.row.gr (Gr.refl _).drew);have Z:Inhabited (AA Sx):=⟨⟨_,X⟩⟩;clear Y;refine AI Sx 9 [([0,1,2,3,4,5,6,7,8],9)] [] X ?_;refine AE ?_;go_wp2_with((go_at_call 51;refine(HQ.o.gr (Gr.refl _).drew).nx (HT.o.trans ((Gr.refl _).drew.touch _)) ((HQ.o.gr (Gr.refl _).drew).hv.setW _ _ HK.o) ?_;clear HT HQ;intro w1 HT HQ c0 cl));refine⟨.inl trivial,?_⟩;refine AL ?_;clear y0 y2 X Z;clear HS Sx;go_upto_region 10 with(fail);clear c0 cl;obtain⟨Sx,Y,HS⟩:=AA.start λW'=>Rec W' tb 106 (trL hb r a u n o);have y0:=AA.fact Y λ_ h=>h.cell (j:=0) rfl;have y2:=AA.fact Y λ_ h=>h.cell (j:=2) rfl;have X:=HS.o _ (HQ.o.row.gr (Gr.refl _).drew);have Z:Inhabited (AA Sx):=⟨⟨_,X⟩⟩;clear Y;refine AI Sx 9 [([0,1,2,3,4,5,6,7,8],9)] [] X ?_;refine AE ?_;go_wp2_with((go_at_call 50;refine(HQ.o.gr (Gr.refl _).drew).nx (HT.o.trans ((Gr.refl _).drew.touch _)) ((HQ.o.gr (Gr.refl _).drew).hv.setF _ _ HY.o) ?_;clear HT HQ;intro w1 HT HQ c0 cl));refine⟨.inl trivial,?_⟩;refine AL ?_;clear y0 y2 X Z;clear HS Sx;go_upto_region 11 with(fail);clear c0 cl;obtain⟨Sx,Y,HS⟩:=AA.start λW'=>Rec W' tb 106 (trL hb r a u n o);have y3:=AA.fact Y λ_ h=>h.cell (j:=3) rfl;have y2:=AA.fact Y λ_ h=>h.cell (j:=2) rfl;have X:=HS.o _ (HQ.o.row.gr (Gr.refl _).drew);have Z:Inhabited (AA Sx):=⟨⟨_,X⟩⟩;clear Y;refine AI Sx 10 [([0,1,2,3,4,5,6,7,8,9],10)] [] X ?_;refine AE ?_;go_wp2_with((go_at_call 52;refine(HQ.o.gr (Gr.refl _).drew).nx (HT.o.trans ((Gr.refl _).drew.touch _)) (V4 (HQ.o.gr (Gr.refl _).drew) u k a) ?_;clear HT HQ;intro w1 HT HQ c0 cl));refine⟨.inl trivial,?_⟩;refine AL ?_;clear y3 y2 X Z;clear HS Sx;go_wp2;refine leaves_cons (f:=47) (args:=#[pP tb]) (by simp) (by simp[go_sem]) ?_;refine(IE HQ.o _).mono ?_;rintro e u' w2 ⟨rfl,rfl,ht,hl⟩;have I:=ι (HT.o.trans ht);simp only[Leaves,settle];refine⟨_,by simp[results,results14,go_sem],_,_,HW.o.done,HP.o,rfl,I.o,hl⟩
theorem Zy8(h:AY w0 K c hb tb r a u n o g w)(hs:TsG g r a u n o R)(hk:k<18446744073709551616)(he:R.sub k=.nil)(y:Nat)(hc:¬5*R.ids.length+5<=c.wd):Calls prog 14 #[pP tb,uU k,.float .f64 y] w λe w'=>∃g' R',TsG g' r a u n o R'/\R'.its.Perm (R.its)/\HLo w0 K c hb w (iI 21) g' e w':=by
 have U:=JI h hs (k:=k);rw[show ((R.sub k).top !=0)=false by rw[he];rfl]at U;have N:=ι U;have HE:=ι he;have HK:=ι hk;have HC:=ι hc;clear hc U hs he hk;have HQ:=ι h;have HT:=ι (AB.refl (hlT w0 K) w);have c0:w.cell? ⟨tb,0,none⟩=some (pP hb):=h.row.cc 0;have cl:=h.row.lt;clear h
 go_enter_defers func14,ntmps14
 go_upto_region 6 with(first
  | (go_at_call 48;refine AK (GS HQ.o) ?_)
  | (go_at_call 49;refine N.o.mono ?_;rintro e w1 ⟨g1,hf,rfl,ht,hl⟩;have HF:=ι hf;replace HT:=ι (HT.o.trans ht);replace HQ:=ι (HQ.o.next ht hl);clear ht hl hf c0 cl;have c0:w1.cell? ⟨tb,0,none⟩=some (pP hb):=HQ.o.row.cc 0;have cl:=HQ.o.row.lt))
 have X:=Z8Q (HF.o.f.w.q.lt a (by simp)) c.wd;rw[HF.o.words HQ.o.hv.facts.2.1,φ (by have:=HC.o;omega)]at X;have Z:Hid (∀V,AY w0 K c hb tb r a u n o g1 V->Calls prog 26 #[pP hb,iI a,AM ⟨2,1,1⟩] V (HLo w0 K c hb V (iI 21) g1)):=⟨λV (hV:AY w0 K c hb tb r a u n o g1 V)=>by have q:=hV.hv.allo a ⟨2,1,1⟩;rw[X,show g1.alG c.wd a ⟨2,1,1⟩=g1 by unfold Gph.alG;rw[ξ (by rw[X];decide)]]at q;exact q⟩;unfold AM at Z;dsimp only at Z;clear X N;go_upto_region 6 with(fail);clear c0 cl;obtain⟨Sx,J,HS⟩:=AA.start λW'=>Rec W' tb 106 (trL hb r a u n o);have y0:=AA.fact J λ_ h=>h.cell (j:=0) rfl;have y2:=AA.fact J λ_ h=>h.cell (j:=2) rfl;have Y:=HS.o _ (HQ.o.row.gr (Gr.refl _).drew);have O:Inhabited (AA Sx):=⟨⟨_,Y⟩⟩;clear J;refine AI Sx 11 [([0,1,2,3,4,5,6,7,8],9)] [10] Y ?_;refine AE ?_;go_wp2_with((go_at_call 26;refine(HQ.o.gr (Gr.refl _).drew).nx (HT.o.trans ((Gr.refl _).drew.touch _)) (Z.o _ (HQ.o.gr (Gr.refl _).drew)) ?_;clear HT HQ;intro w1 HT HQ c0 cl));refine⟨.inr (AA.of (HS.o _ (HQ.o.row))),?_⟩;refine AL ?_;clear y0 y2 Y O;clear HS Sx;go_wp2;refine leaves_cons (f:=47) (args:=#[pP tb]) (by simp) (by simp[go_sem]) ?_;refine(IE HQ.o _).mono ?_;rintro e u' w2 ⟨rfl,rfl,ht,hl⟩;have I:=ι (HT.o.trans ht);simp only[Leaves,settle];refine⟨_,by simp[results,results14,go_sem],_,_,HF.o.f.w.done,.refl _,rfl,I.o,hl⟩
theorem Z5N(h:AY w0 K c hb tb r a u n o g w)(hs:TsG g r a u n o R)(hk:k<18446744073709551616){f:Nat}(he:R.sub k=.node x f k c1 d1):Calls prog 22 #[pP tb,uU k] w λe w'=>∃g' R',TsG g' r a u n o R'/\R'.its.Perm (R.its)/\HLo w0 K c hb w (.tuple #[.float .f64 f,iI 0]) g' e w':=by
 have N:=JI h hs (k:=k);rw[show ((R.sub k).top !=0)=true by rw[he];have:=(hs.t.hs.rep.sub (k:=k));rw[he]at this;exact ξG.2 this.1.nz]at N;have L:=ι N;have HE:=ι he;have HK:=ι hk;clear N hs he hk;have HQ:=ι h;have HT:=ι (AB.refl (hlT w0 K) w);have c0:w.cell? ⟨tb,0,none⟩=some (pP hb):=h.row.cc 0;have cl:=h.row.lt;clear h
 go_enter_defers func22,ntmps22
 go_upto_region 6 with(first
  | (go_at_call 48;refine AK (GS HQ.o) ?_)
  | (go_at_call 49;refine L.o.mono ?_;rintro e w1 ⟨g1,hf,rfl,ht,hl⟩;have HF:=ι hf;replace HT:=ι (HT.o.trans ht);replace HQ:=ι (HQ.o.next ht hl);clear ht hl hf c0 cl;have c0:w1.cell? ⟨tb,0,none⟩=some (pP hb):=HQ.o.row.cc 0;have cl:=HQ.o.row.lt))
 have I:=HF.o.f.w.q.lt a (by simp);have U:=HF.o.f.ha;have Z:=HF.o.f.rp;rw[HE.o]at U Z;have Y:=J6 I U Z.1;have hq:=λV (hV:AY w0 K c hb tb r a u n o g1 V)=>hV.hv.getF a 2;rw[Y.1,Y.2.1]at hq;have D:=ι hq;clear I U Z Y hq;go_upto_region 6 with(fail);clear c0 cl;obtain⟨Sx,J,HS⟩:=AA.start λW'=>Rec W' tb 106 (trL hb r a u n o);have y0:=AA.fact J λ_ h=>h.cell (j:=0) rfl;have y2:=AA.fact J λ_ h=>h.cell (j:=2) rfl;have X:=HS.o _ (HQ.o.row.gr (Gr.refl _).drew);have O:Inhabited (AA Sx):=⟨⟨_,X⟩⟩;clear J;refine AI Sx 13 [([0,1,2,3,4,5,6,7],8)] [9,10,11,12] X ?_;refine AE ?_;go_wp2_with((go_at_call 58;refine(HQ.o.gr (Gr.refl _).drew).nx (HT.o.trans ((Gr.refl _).drew.touch _)) (D.o _ (HQ.o.gr (Gr.refl _).drew)) ?_;clear HT HQ;intro w1 HT HQ c0 cl));refine⟨.inr (AA.of (HS.o _ (HQ.o.row))),?_⟩;refine AL ?_;clear y0 y2 X O;clear HS Sx;go_wp2;refine leaves_cons (f:=47) (args:=#[pP tb]) (by simp) (by simp[go_sem]) ?_;refine(IE HQ.o _).mono ?_;rintro e u' w2 ⟨rfl,rfl,ht,hl⟩;have E:=ι (HT.o.trans ht);simp only[Leaves,settle];refine⟨_,by simp[results,results22,go_sem],_,_,HF.o.f.w.done,.refl _,rfl,E.o,hl⟩
theorem Y58(h:AY w0 K c hb tb r a u n o g w)(hs:TsG g r a u n o R)(hk:k<18446744073709551616)(he:R.sub k=.nil):Calls prog 22 #[pP tb,uU k] w λe w'=>∃g' R',TsG g' r a u n o R'/\R'.its.Perm (R.its)/\HLo w0 K c hb w (.tuple #[.float .f64 0,iI 6]) g' e w':=by
 have X:=JI h hs (k:=k);rw[show ((R.sub k).top !=0)=false by rw[he];rfl]at X;have Z:=ι X;have HE:=ι he;have HK:=ι hk;clear X hs he hk;have HQ:=ι h;have HT:=ι (AB.refl (hlT w0 K) w);have c0:w.cell? ⟨tb,0,none⟩=some (pP hb):=h.row.cc 0;have cl:=h.row.lt;clear h
 go_enter_defers func22,ntmps22
 go_wp2_with(first
  | (go_at_call 48;refine AK (GS HQ.o) ?_)
  | (go_at_call 49;refine Z.o.mono ?_;rintro e w1 ⟨g1,hf,rfl,ht,hl⟩;have HF:=ι hf;replace HT:=ι (HT.o.trans ht);replace HQ:=ι (HQ.o.next ht hl);clear ht hl hf c0 cl;have c0:w1.cell? ⟨tb,0,none⟩=some (pP hb):=HQ.o.row.cc 0;have cl:=HQ.o.row.lt))
 refine leaves_cons (f:=47) (args:=#[pP tb]) (by simp) (by simp[go_sem]) ?_;refine(IE HQ.o _).mono ?_;rintro e u' w2 ⟨rfl,rfl,ht,hl⟩;have Y:=ι (HT.o.trans ht);simp only[Leaves,settle];refine⟨_,by simp[results,results22,go_sem],_,_,HF.o.f.w.done,.refl _,rfl,Y.o,hl⟩
theorem Vw0(h:AY w0 K c hb tb r a u n o g w)(hs:TsG g r a u n o R)(hk:k<18446744073709551616)(he:R.sub k=.nil):Calls prog 18 #[pP tb,uU k] w λe w'=>∃g' R',TsG g' r a u n o R'/\R'.its.Perm (R.its)/\HLo w0 K c hb w (iI 6) g' e w':=by
 have X:=JI h hs (k:=k);rw[show ((R.sub k).top !=0)=false by rw[he];rfl]at X;have Z:=ι X;have HE:=ι he;have HK:=ι hk;clear X hs he hk;have HQ:=ι h;have HT:=ι (AB.refl (hlT w0 K) w);have c0:w.cell? ⟨tb,0,none⟩=some (pP hb):=h.row.cc 0;have cl:=h.row.lt;clear h
 go_enter_defers func18,ntmps18
 go_wp2_with(first
  | (go_at_call 48;refine AK (GS HQ.o) ?_)
  | (go_at_call 49;refine Z.o.mono ?_;rintro e w1 ⟨g1,hf,rfl,ht,hl⟩;have HF:=ι hf;replace HT:=ι (HT.o.trans ht);replace HQ:=ι (HQ.o.next ht hl);clear ht hl hf c0 cl;have c0:w1.cell? ⟨tb,0,none⟩=some (pP hb):=HQ.o.row.cc 0;have cl:=HQ.o.row.lt))
 refine leaves_cons (f:=47) (args:=#[pP tb]) (by simp) (by simp[go_sem]) ?_;refine(IE HQ.o _).mono ?_;rintro e u' w2 ⟨rfl,rfl,ht,hl⟩;have Y:=ι (HT.o.trans ht);simp only[Leaves,settle];refine⟨_,by simp[results,results18,go_sem],_,_,HF.o.f.w.done,.refl _,rfl,Y.o,hl⟩
theorem Zu9(h:AY w0 K c hb tb r a u n o g w)(hs:TsG g r a u n o R)(hk:k<18446744073709551616){f:Nat}(he:R.sub k=.node x f k c1 d1)(hc:c1.top≠0)(hd:d1.top≠0):Calls prog 18 #[pP tb,uU k] w λe w'=>∃g' R',TsG g' r a u n o R'/\R'.its.Perm (c1.its++d1.its++R.oth k)/\HLo w0 K c hb w (iI 0) g' e w':=by
 have Z:=JI h hs (k:=k);rw[show ((R.sub k).top !=0)=true by rw[he];have:=(hs.t.hs.rep.sub (k:=k));rw[he]at this;exact ξG.2 this.1.nz]at Z;have U:=ι Z;have HE:=ι he;have HK:=ι hk;have HC:=ι (ψ hc hd);clear hc hd Z hs he hk;have HQ:=ι h;have HT:=ι (AB.refl (hlT w0 K) w);have c0:w.cell? ⟨tb,0,none⟩=some (pP hb):=h.row.cc 0;have cl:=h.row.lt;clear h
 go_enter_defers func18,ntmps18
 go_upto_region 6 with(first
  | (go_at_call 48;refine AK (GS HQ.o) ?_)
  | (go_at_call 49;refine U.o.mono ?_;rintro e w1 ⟨g1,hf,rfl,ht,hl⟩;have HF:=ι hf;replace HT:=ι (HT.o.trans ht);replace HQ:=ι (HQ.o.next ht hl);clear ht hl hf c0 cl;have c0:w1.cell? ⟨tb,0,none⟩=some (pP hb):=HQ.o.row.cc 0;have cl:=HQ.o.row.lt))
 obtain⟨N,J,X,Y⟩:=HF.o.f.w.both (by rw[HF.o.f.ha,HE.o];rfl) HE.o;have B:=ι N;have E:Hid ((F6 n a g1).sv a=x):=⟨by rw[J _ (λe=>by have:=HF.o.f.w.q.nd;simp[e]at this),HF.o.f.ha,HE.o];rfl⟩;have HU2:Hid ((F6 n a g1).sv u=R.par k 0):=⟨by rw[J _ (λe=>by have:=HF.o.f.w.q.nd;simp[e]at this),HF.o.f.hu]⟩;rw[ξG.2 HC.o.1]at X;rw[ξG.2 HC.o.2]at Y;have G:=ι X;have O:=ι Y;have A:=ι (λV (hV:AY w0 K c hb tb r a u n o (F6 n a g1) V)=>Q7E hV B.o E.o HE.o (λe=>HC.o.2 (by rw[e];rfl)));have L:=ι (BT.its_rep k (.node x d1.mn.2.1 d1.mn.2.2 c1 d1.dm) R).1;have D:=ι (BT.dm_its (T:=d1) (λe=>HC.o.2 (by rw[e];rfl))).1;clear N J X Y U;have c2:w1.cell? ⟨tb,2,none⟩=some (iI a):=HQ.o.row.cc 2
 go_wp2_with(first
  | (go_at_call 60;refine HQ.o.nx HT.o (YRb HQ.o a G.o O.o) ?_;clear HT HQ c0 cl;intro w1 HT HQ c0 cl)
  | (go_at_call 61;refine(A.o _ HQ.o).mono ?_;rintro e w1 ⟨g3,hf,rfl,ht,hl⟩;have Xa:=ι hf;replace HT:=ι (HT.o.trans ht);replace HQ:=ι (HQ.o.next ht hl);clear ht hl hf c0 cl;have c0:w1.cell? ⟨tb,0,none⟩=some (pP hb):=HQ.o.row.cc 0;have cl:=HQ.o.row.lt))
 refine leaves_cons (f:=47) (args:=#[pP tb]) (by simp) (by simp[go_sem]) ?_;refine(IE HQ.o _).mono ?_;rintro e u' w2 ⟨rfl,rfl,ht,hl⟩;have I:=ι (HT.o.trans ht);simp only[Leaves,settle];refine⟨_,by simp[results,results18,go_sem],_,_,Xa.o.done,?_,rfl,I.o,hl⟩;refine L.o.trans ?_;refine List.Perm.append_right _ ?_
 show ((d1.mn.2.1,d1.mn.2.2) :: (c1.its++d1.dm.its)).Perm (c1.its++d1.its)
 exact(List.perm_middle.symm).trans (List.Perm.append_left _ D.o.symm)
theorem Y8s(h:AY w0 K c hb tb r a u n o g w)(hs:TsG g r a u n o R)(hk:k<18446744073709551616){f:Nat}(he:R.sub k=.node x f k c1 d1)(hc:c1.top=0\/d1.top=0):Calls prog 18 #[pP tb,uU k] w λe w'=>∃g' R',TsG g' r a u n o R'/\R'.its.Perm (c1.its++d1.its++R.oth k)/\HLo w0 K c hb w (iI 0) g' e w':=by
 have Y:=JI h hs (k:=k);rw[show ((R.sub k).top !=0)=true by rw[he];have:=(hs.t.hs.rep.sub (k:=k));rw[he]at this;exact ξG.2 this.1.nz]at Y;have E:=ι Y;have HE:=ι he;have HK:=ι hk;have HC:=ι hc;clear hc Y hs he hk;have HQ:=ι h;have HT:=ι (AB.refl (hlT w0 K) w);have c0:w.cell? ⟨tb,0,none⟩=some (pP hb):=h.row.cc 0;have cl:=h.row.lt;clear h
 go_enter_defers func18,ntmps18
 go_upto_region 6 with(first
  | (go_at_call 48;refine AK (GS HQ.o) ?_)
  | (go_at_call 49;refine E.o.mono ?_;rintro e w1 ⟨g1,hf,rfl,ht,hl⟩;have HF:=ι hf;replace HT:=ι (HT.o.trans ht);replace HQ:=ι (HQ.o.next ht hl);clear ht hl hf c0 cl;have c0:w1.cell? ⟨tb,0,none⟩=some (pP hb):=HQ.o.row.cc 0;have cl:=HQ.o.row.lt))
 obtain⟨A,O,J,U⟩:=HF.o.f.w.both (by rw[HF.o.f.ha,HE.o];rfl) HE.o;have Xg:=ι A;have Xc:Hid ((F6 n a g1).sv a=x):=⟨by rw[O _ (λe=>by have:=HF.o.f.w.q.nd;simp[e]at this),HF.o.f.ha,HE.o];rfl⟩;have Xa:Hid ((F6 n a g1).sv u=R.par k 0):=⟨by rw[O _ (λe=>by have:=HF.o.f.w.q.nd;simp[e]at this),HF.o.f.hu]⟩;have X:((c1.top !=0)&&(d1.top !=0))=false:=by rcases HC.o with e|e <;> simp[e]
 generalize (c1.top !=0)=b1 at J X;generalize (d1.top !=0)=b2 at U X;have Xd:=ι J;have Xe:=ι U;obtain⟨R',D,I⟩:=Xg.o.pull2 Xc.o Xa.o HE.o HC.o;have Xf:=ι D;have B:=ι I;have L:=ι (λV (hV:AY w0 K c hb tb r a u n o g1 V)=>YRb hV a Xd.o Xe.o);rw[X]at L;clear A O J U X D I E;have c2:w1.cell? ⟨tb,2,none⟩=some (iI a):=HQ.o.row.cc 2;go_upto_region 9 with(go_at_call 60;refine HQ.o.nx HT.o (L.o _ HQ.o) ?_;clear HT HQ c0 cl;intro w1 HT HQ c0 cl);clear c0 cl;obtain⟨Sx,N,HS⟩:=AA.start λW'=>Rec W' tb 106 (trL hb r a u n o);have y2:=AA.fact N λ_ h=>h.cell (j:=2) rfl;have y3:=AA.fact N λ_ h=>h.cell (j:=3) rfl;have Z:=HS.o _ (HQ.o.row.gr (Gr.refl _).drew);have G:Inhabited (AA Sx):=⟨⟨_,Z⟩⟩;clear N;refine AI Sx 10 [([0,1,2,3,4,5,6,7,8,9],10)] [] Z ?_;refine AE ?_;go_wp2_with((go_at_call 62;refine(HQ.o.gr (Gr.refl _).drew).nx (HT.o.trans ((Gr.refl _).drew.touch _)) (V5J (HQ.o.gr (Gr.refl _).drew) a u k) ?_;clear HT HQ;intro w1 HT HQ c0 cl));refine⟨.inl trivial,?_⟩;refine AL ?_;clear y2 y3 Z G;clear HS Sx;go_wp2;refine leaves_cons (f:=47) (args:=#[pP tb]) (by simp) (by simp[go_sem]) ?_;refine(IE HQ.o _).mono ?_;rintro e u' w2 ⟨rfl,rfl,ht,hl⟩;have Xb:=ι (HT.o.trans ht);simp only[Leaves,settle];refine⟨_,by simp[results,results18,go_sem],_,_,Xf.o.done,B.o,rfl,Xb.o,hl⟩
theorem Ymi(h:AY w0 K c hb tb r a u n o g w)(hs:TsG g r a u n o R)(he:R.nx k .nil=.nil):Calls prog 16 #[pP tb,uU k] w λe w'=>∃g' R',TsG g' r a u n o R'/\R'.its.Perm (R.its)/\HLo w0 K c hb w (.tuple #[uU 0,.float .f64 0,iI 6]) g' e w':=by
 have HE:=ι he;have HQ:=ι h;have HT:=ι (AB.refl (hlT w0 K) w);have c0:w.cell? ⟨tb,0,none⟩=some (pP hb):=h.row.cc 0;have cl:=h.row.lt;clear h;have HF:=ι (IK.start hs k);clear hs he
 go_enter_defers func16,ntmps16
 go_upto_region 4 with(go_at_call 48;refine AK (GS HQ.o) ?_);clear c0 cl;obtain⟨Sx,X,HS⟩:=AA.start λW'=>Rec W' tb 106 (trL hb r a u n o);have y0:=AA.fact X λ_ h=>h.cell (j:=0) rfl;have y5:=AA.fact X λ_ h=>h.cell (j:=5) rfl;have Y:=HS.o _ (HQ.o.row.gr (Gr.refl _).drew);have Z:Inhabited (AA Sx):=⟨⟨_,Y⟩⟩;clear X;refine AI Sx 8 [([0,1,2,3,4,5,6,7],8)] [] Y ?_;refine AE ?_;go_wp2_with((go_at_call 46;refine(HQ.o.gr (Gr.refl _).drew).nx (HT.o.trans ((Gr.refl _).drew.touch _)) ((HQ.o.gr (Gr.refl _).drew).hv.clr _) ?_;clear HT HQ;intro w1 HT HQ c0 cl));refine⟨.inl trivial,?_⟩;refine AL ?_;clear y0 y5 Y Z;clear HS Sx;go_upto_region 5 with(fail);clear c0 cl;obtain⟨Sx,X,HS⟩:=AA.start λW'=>Rec W' tb 106 (trL hb r a u n o);have y0:=AA.fact X λ_ h=>h.cell (j:=0) rfl;have y2:=AA.fact X λ_ h=>h.cell (j:=2) rfl;have y1:=AA.fact X λ_ h=>h.cell (j:=1) rfl;have Y:=HS.o _ (HQ.o.row.gr (Gr.refl _).drew);have Z:Inhabited (AA Sx):=⟨⟨_,Y⟩⟩;clear X;refine AI Sx 12 [([0,1,2,3,4,5,6,7,8,9,10,11],12)] [] Y ?_;refine AE ?_;go_wp2_with((go_at_call 54;refine(HQ.o.gr (Gr.refl _).drew).nx (HT.o.trans ((Gr.refl _).drew.touch _)) ((HQ.o.gr (Gr.refl _).drew).hv.copy _ _) ?_;clear HT HQ;intro w1 HT HQ c0 cl));refine⟨.inl trivial,?_⟩;refine AL ?_;clear y0 y2 y1 Y Z;clear HS Sx;go_wp2
 go_loopg [] R.ids.length (λm wr=>∃(g1:Gph) (T1 O1:BT),Hid (T1.ids.length=m)/\Hid (AY w0 K c hb tb r a u n o g1 wr)/\Hid (AB (hlT w0 K) w wr)/\Hid (IK g1 r a u n o k R T1 O1))
 case atStart=>exact⟨_,R,.nil,⟨rfl⟩,HQ,HT,HF⟩
 case round=>
  clear HQ HT HF c0 cl;obtain⟨g1,T1,O1,HN,HQ,HT,HF⟩:=hrel;have c0:wr.cell? ⟨tb,0,none⟩=some (pP hb):=HQ.o.row.cc 0;have cl:=HQ.o.row.lt;have c2:wr.cell? ⟨tb,2,none⟩=some (iI a):=HQ.o.row.cc 2;have I:=HF.o.w.q.lt a (by simp);have Xg:=HF.o.w.q.lt o (by simp);have J:=HF.o.ha
  match T1,HN,HF,J with
  | .nil,HN,HF,J=>
   have A:=GN I;rw[show g1.sv a=0 from J,φ rfl]at A;have HS:=ι (show (g1.shE a==0)=false by rw[A];rfl);have Xh:O1=R.nx k .nil:=HF.o.e;have L:=HF.o.ho;have Xe:=HF.o.ro;rw[Xh,HE.o]at L Xe;have B:=GN Xg;clear A J I Xh HN;rw[show g1.sv o=0 from L,φ rfl]at B;have Xj:=ι (show (g1.shE o==0)=false by rw[B];rfl);clear B L Xe Xg;go_upto_region 11 with(go_at_call 55;refine HQ.o.nx HT.o (DJ (x:=a) HQ.o HS.o) ?_;clear HT HQ c0 cl c2;intro w1 HT HQ c0 cl);have c5:w1.cell? ⟨tb,5,none⟩=some (iI o):=HQ.o.row.cc 5;go_wp2_with(go_at_call 55;refine HQ.o.nx HT.o (DJ (x:=o) HQ.o Xj.o) ?_;clear HT HQ c0 cl c5;intro w1 HT HQ c0 cl);refine leaves_cons (f:=47) (args:=#[pP tb]) (by simp) (by simp[go_sem]) ?_;refine(IE HQ.o _).mono ?_;rintro e u' w2 ⟨rfl,rfl,ht,hl⟩;have Xi:=ι (HT.o.trans ht);simp only[Leaves,settle];refine⟨_,by simp[results,results16,go_sem],_,_,HF.o.w.done,.refl _,rfl,Xi.o,hl⟩
  | .node x f v c1 d1,HN,HF,J=>
   obtain⟨Xa,Xc,G,D⟩:=HF.o.step;have HS:=ι (show (g1.shE a==0)=true by rw[Xa];rfl);have E:=λ(V:World) (hV:AY w0 K c hb tb r a u n o g1 V)=>MJ hV a;rw[Xc]at E;have Xf:=ι E;by_cases O:v<k
   ·obtain⟨T2,U,N⟩:=G O;have Xk:(v:Int)<(k:Int):=Ω
    have Xd:=ι N;have Xb:=ι U;clear Xa Xc G D E O U N J I HF
    go_upto_region 8 with(first
     | (go_at_call 55;refine HQ.o.nx HT.o (DJ (x:=a) HQ.o HS.o) ?_;clear HT HQ c0 cl c2;intro w1 HT HQ c0 cl;have c2:w1.cell? ⟨tb,2,none⟩=some (iI a):=HQ.o.row.cc 2)
     | (go_at_call 56;refine HQ.o.nx HT.o (Xf.o _ HQ.o) ?_;clear HT HQ c0 cl c2;intro w1 HT HQ c0 cl;have c2:w1.cell? ⟨tb,2,none⟩=some (iI a):=HQ.o.row.cc 2))
    clear c0 cl c2;obtain⟨Sx,X,HS⟩:=AA.start λW'=>Rec W' tb 106 (trL hb r a u n o);have y0:=AA.fact X λ_ h=>h.cell (j:=0) rfl;have y2:=AA.fact X λ_ h=>h.cell (j:=2) rfl;have Y:=HS.o _ (HQ.o.row.gr (Gr.refl _).drew);have Z:Inhabited (AA Sx):=⟨⟨_,Y⟩⟩;clear X;refine AI Sx 12 [([0,1,2,3,4,5,6,7,8,9,10,11],12)] [] Y ?_;refine AE ?_;go_wp2_with((go_at_call 57;refine(HQ.o.gr (Gr.refl _).drew).nx (HT.o.trans ((Gr.refl _).drew.touch _)) ((HQ.o.gr (Gr.refl _).drew).hv.load _ _ _) ?_;clear HT HQ;intro w1 HT HQ c0 cl));refine⟨.inl trivial,?_⟩;refine AL ?_;clear y0 y2 Y Z;clear HS Sx;go_wp2
    go_roundg T2.ids.length
    case measure=>rw[<-HN.o];exact Xb.o
    case rel=>exact⟨_,T2,O1,⟨rfl⟩,HQ,HT,Xd⟩
   ·obtain⟨T2,O2,U,N⟩:=D O;have Xk:¬(v:Int)<(k:Int):=Ω
    have Xd:=ι N;have Xb:=ι U;clear Xa Xc G D E O U N J I HF
    go_upto_region 9 with(first
     | (go_at_call 55;refine HQ.o.nx HT.o (DJ (x:=a) HQ.o HS.o) ?_;clear HT HQ c0 cl c2;intro w1 HT HQ c0 cl;have c2:w1.cell? ⟨tb,2,none⟩=some (iI a):=HQ.o.row.cc 2)
     | (go_at_call 56;refine HQ.o.nx HT.o (Xf.o _ HQ.o) ?_;clear HT HQ c0 cl c2;intro w1 HT HQ c0 cl;have c2:w1.cell? ⟨tb,2,none⟩=some (iI a):=HQ.o.row.cc 2))
    clear c0 cl c2;obtain⟨Sx,X,HS⟩:=AA.start λW'=>Rec W' tb 106 (trL hb r a u n o);have y0:=AA.fact X λ_ h=>h.cell (j:=0) rfl;have y5:=AA.fact X λ_ h=>h.cell (j:=5) rfl;have y2:=AA.fact X λ_ h=>h.cell (j:=2) rfl;have Y:=HS.o _ (HQ.o.row.gr (Gr.refl _).drew);have Z:Inhabited (AA Sx):=⟨⟨_,Y⟩⟩;clear X;refine AI Sx 12 [([0,1,2,3,4,5,6,7,8,9,10,11],12)] [] Y ?_;refine AE ?_;go_wp2_with((go_at_call 54;refine(HQ.o.gr (Gr.refl _).drew).nx (HT.o.trans ((Gr.refl _).drew.touch _)) ((HQ.o.gr (Gr.refl _).drew).hv.copy _ _) ?_;clear HT HQ;intro w1 HT HQ c0 cl));refine⟨.inl trivial,?_⟩;refine AL ?_;clear y0 y5 y2 Y Z;clear HS Sx;go_upto_region 10 with(fail);clear c0 cl;obtain⟨Sx,X,HS⟩:=AA.start λW'=>Rec W' tb 106 (trL hb r a u n o);have y0:=AA.fact X λ_ h=>h.cell (j:=0) rfl;have y2:=AA.fact X λ_ h=>h.cell (j:=2) rfl;have Y:=HS.o _ (HQ.o.row.gr (Gr.refl _).drew);have Z:Inhabited (AA Sx):=⟨⟨_,Y⟩⟩;clear X;refine AI Sx 12 [([0,1,2,3,4,5,6,7,8,9,10,11],12)] [] Y ?_;refine AE ?_;go_wp2_with((go_at_call 57;refine(HQ.o.gr (Gr.refl _).drew).nx (HT.o.trans ((Gr.refl _).drew.touch _)) ((HQ.o.gr (Gr.refl _).drew).hv.load _ _ _) ?_;clear HT HQ;intro w1 HT HQ c0 cl));refine⟨.inl trivial,?_⟩;refine AL ?_;clear y0 y2 Y Z;clear HS Sx;go_wp2
    go_roundg T2.ids.length
    case measure=>rw[<-HN.o];exact Xb.o
    case rel=>exact⟨_,T2,O2,⟨rfl⟩,HQ,HT,Xd⟩
theorem XFj(h:AY w0 K c hb tb r a u n o g w)(hs:TsG g r a u n o R){v0:Nat}{c0 d0:BT}(he:R.nx k .nil=.node y f0 v0 c0 d0):Calls prog 16 #[pP tb,uU k] w λe w'=>∃g' R',TsG g' r a u n o R'/\R'.its.Perm (R.its)/\HLo w0 K c hb w (.tuple #[uU v0,.float .f64 f0,iI 0]) g' e w':=by
 have HE:=ι he;have HQ:=ι h;have HT:=ι (AB.refl (hlT w0 K) w);have c0:w.cell? ⟨tb,0,none⟩=some (pP hb):=h.row.cc 0;have cl:=h.row.lt;clear h;have HF:=ι (IK.start hs k);clear hs he
 go_enter_defers func16,ntmps16
 go_upto_region 4 with(go_at_call 48;refine AK (GS HQ.o) ?_);clear c0 cl;obtain⟨Sx,X,HS⟩:=AA.start λW'=>Rec W' tb 106 (trL hb r a u n o);have y0:=AA.fact X λ_ h=>h.cell (j:=0) rfl;have y5:=AA.fact X λ_ h=>h.cell (j:=5) rfl;have Y:=HS.o _ (HQ.o.row.gr (Gr.refl _).drew);have Z:Inhabited (AA Sx):=⟨⟨_,Y⟩⟩;clear X;refine AI Sx 8 [([0,1,2,3,4,5,6,7],8)] [] Y ?_;refine AE ?_;go_wp2_with((go_at_call 46;refine(HQ.o.gr (Gr.refl _).drew).nx (HT.o.trans ((Gr.refl _).drew.touch _)) ((HQ.o.gr (Gr.refl _).drew).hv.clr _) ?_;clear HT HQ;intro w1 HT HQ c0 cl));refine⟨.inl trivial,?_⟩;refine AL ?_;clear y0 y5 Y Z;clear HS Sx;go_upto_region 5 with(fail);clear c0 cl;obtain⟨Sx,X,HS⟩:=AA.start λW'=>Rec W' tb 106 (trL hb r a u n o);have y0:=AA.fact X λ_ h=>h.cell (j:=0) rfl;have y2:=AA.fact X λ_ h=>h.cell (j:=2) rfl;have y1:=AA.fact X λ_ h=>h.cell (j:=1) rfl;have Y:=HS.o _ (HQ.o.row.gr (Gr.refl _).drew);have Z:Inhabited (AA Sx):=⟨⟨_,Y⟩⟩;clear X;refine AI Sx 12 [([0,1,2,3,4,5,6,7,8,9,10,11],12)] [] Y ?_;refine AE ?_;go_wp2_with((go_at_call 54;refine(HQ.o.gr (Gr.refl _).drew).nx (HT.o.trans ((Gr.refl _).drew.touch _)) ((HQ.o.gr (Gr.refl _).drew).hv.copy _ _) ?_;clear HT HQ;intro w1 HT HQ c0 cl));refine⟨.inl trivial,?_⟩;refine AL ?_;clear y0 y2 y1 Y Z;clear HS Sx;go_wp2
 go_loopg [] R.ids.length (λm wr=>∃(g1:Gph) (T1 O1:BT),Hid (T1.ids.length=m)/\Hid (AY w0 K c hb tb r a u n o g1 wr)/\Hid (AB (hlT w0 K) w wr)/\Hid (IK g1 r a u n o k R T1 O1))
 case atStart=>exact⟨_,R,.nil,⟨rfl⟩,HQ,HT,HF⟩
 case round=>
  clear HQ HT HF c0 cl;obtain⟨g1,T1,O1,HN,HQ,HT,HF⟩:=hrel;have c0:wr.cell? ⟨tb,0,none⟩=some (pP hb):=HQ.o.row.cc 0;have cl:=HQ.o.row.lt;have c2:wr.cell? ⟨tb,2,none⟩=some (iI a):=HQ.o.row.cc 2;have L:=HF.o.w.q.lt a (by simp);have Xf:=HF.o.w.q.lt o (by simp);have U:=HF.o.ha
  match T1,HN,HF,U with
  | .nil,HN,HF,U=>
   have Xa:=GN L;rw[show g1.sv a=0 from U,φ rfl]at Xa;have HS:=ι (show (g1.shE a==0)=false by rw[Xa];rfl);have Xj:O1=R.nx k .nil:=HF.o.e;have E:=HF.o.ho;have Xb:=HF.o.ro;rw[Xj,HE.o]at E Xb;have Xc:=GN Xf;clear Xa U L Xj HN;have b0:=Xb.1;rw[show g1.sv o=y from E,ξ b0.nz]at Xc;have Xm:=ι (show (g1.shE o==0)=true by rw[Xc];rfl);have G:=J6 Xf E b0;have J:=λ(V:World) (hV:AY w0 K c hb tb r a u n o g1 V)=>MJ hV o;rw[show GC g1 o=v0 from G.2.2.2]at J;have D:=ι J;have Xd:=λ(V:World) (hV:AY w0 K c hb tb r a u n o g1 V)=>hV.hv.getF o 2;rw[G.1,G.2.1]at Xd;have Xl:=ι Xd;clear Xc E Xb Xf b0 G J Xd;go_upto_region 11 with(go_at_call 55;refine HQ.o.nx HT.o (DJ (x:=a) HQ.o HS.o) ?_;clear HT HQ c0 cl c2;intro w1 HT HQ c0 cl);have c5:w1.cell? ⟨tb,5,none⟩=some (iI o):=HQ.o.row.cc 5;go_upto_region 13 with(go_at_call 55;refine HQ.o.nx HT.o (DJ (x:=o) HQ.o Xm.o) ?_;clear HT HQ c0 cl c5;intro w1 HT HQ c0 cl);clear c0 cl;obtain⟨Sx,X,HS⟩:=AA.start λW'=>Rec W' tb 106 (trL hb r a u n o);have y0:=AA.fact X λ_ h=>h.cell (j:=0) rfl;have y5:=AA.fact X λ_ h=>h.cell (j:=5) rfl;have Y:=HS.o _ (HQ.o.row.gr (Gr.refl _).drew);have Z:Inhabited (AA Sx):=⟨⟨_,Y⟩⟩;clear X;refine AI Sx 14 [([0,1,2,3,4,5,6,7],8)] [9,10,11,12,13] Y ?_;refine AE ?_;go_wp2_with((go_at_call 58;refine(HQ.o.gr (Gr.refl _).drew).nx (HT.o.trans ((Gr.refl _).drew.touch _)) (Xl.o _ (HQ.o.gr (Gr.refl _).drew)) ?_;clear HT HQ;intro w1 HT HQ c0 cl));refine⟨.inr (AA.of (HS.o _ (HQ.o.row))),?_⟩;refine AL ?_;clear y0 y5 Y Z;clear HS Sx;have c5:w1.cell? ⟨tb,5,none⟩=some (iI o):=HQ.o.row.cc 5;go_wp2_with(go_at_call 56;refine HQ.o.nx HT.o (D.o _ HQ.o) ?_;clear HT HQ c0 cl c5;intro w1 HT HQ c0 cl);refine leaves_cons (f:=47) (args:=#[pP tb]) (by simp) (by simp[go_sem]) ?_;refine(IE HQ.o _).mono ?_;rintro e u' w2 ⟨rfl,rfl,ht,hl⟩;have Xk:=ι (HT.o.trans ht);simp only[Leaves,settle];refine⟨_,by simp[results,results16,go_sem],_,_,HF.o.w.done,.refl _,rfl,Xk.o,hl⟩
  | .node x f v c1 d1,HN,HF,U=>
   obtain⟨Xe,Xh,B,A⟩:=HF.o.step;have HS:=ι (show (g1.shE a==0)=true by rw[Xe];rfl);have J:=λ(V:World) (hV:AY w0 K c hb tb r a u n o g1 V)=>MJ hV a;rw[Xh]at J;have D:=ι J;by_cases I:v<k
   ·obtain⟨T2,N,O⟩:=B I;have Xn:(v:Int)<(k:Int):=Ω
    have Xi:=ι O;have Xg:=ι N;clear Xe Xh B A J I N O U L HF
    go_upto_region 8 with(first
     | (go_at_call 55;refine HQ.o.nx HT.o (DJ (x:=a) HQ.o HS.o) ?_;clear HT HQ c0 cl c2;intro w1 HT HQ c0 cl;have c2:w1.cell? ⟨tb,2,none⟩=some (iI a):=HQ.o.row.cc 2)
     | (go_at_call 56;refine HQ.o.nx HT.o (D.o _ HQ.o) ?_;clear HT HQ c0 cl c2;intro w1 HT HQ c0 cl;have c2:w1.cell? ⟨tb,2,none⟩=some (iI a):=HQ.o.row.cc 2))
    clear c0 cl c2;obtain⟨Sx,X,HS⟩:=AA.start λW'=>Rec W' tb 106 (trL hb r a u n o);have y0:=AA.fact X λ_ h=>h.cell (j:=0) rfl;have y2:=AA.fact X λ_ h=>h.cell (j:=2) rfl;have Y:=HS.o _ (HQ.o.row.gr (Gr.refl _).drew);have Z:Inhabited (AA Sx):=⟨⟨_,Y⟩⟩;clear X;refine AI Sx 12 [([0,1,2,3,4,5,6,7,8,9,10,11],12)] [] Y ?_;refine AE ?_;go_wp2_with((go_at_call 57;refine(HQ.o.gr (Gr.refl _).drew).nx (HT.o.trans ((Gr.refl _).drew.touch _)) ((HQ.o.gr (Gr.refl _).drew).hv.load _ _ _) ?_;clear HT HQ;intro w1 HT HQ c0 cl));refine⟨.inl trivial,?_⟩;refine AL ?_;clear y0 y2 Y Z;clear HS Sx;go_wp2
    go_roundg T2.ids.length
    case measure=>rw[<-HN.o];exact Xg.o
    case rel=>exact⟨_,T2,O1,⟨rfl⟩,HQ,HT,Xi⟩
   ·obtain⟨T2,O2,N,O⟩:=A I;have Xn:¬(v:Int)<(k:Int):=Ω
    have Xi:=ι O;have Xg:=ι N;clear Xe Xh B A J I N O U L HF
    go_upto_region 9 with(first
     | (go_at_call 55;refine HQ.o.nx HT.o (DJ (x:=a) HQ.o HS.o) ?_;clear HT HQ c0 cl c2;intro w1 HT HQ c0 cl;have c2:w1.cell? ⟨tb,2,none⟩=some (iI a):=HQ.o.row.cc 2)
     | (go_at_call 56;refine HQ.o.nx HT.o (D.o _ HQ.o) ?_;clear HT HQ c0 cl c2;intro w1 HT HQ c0 cl;have c2:w1.cell? ⟨tb,2,none⟩=some (iI a):=HQ.o.row.cc 2))
    clear c0 cl c2;obtain⟨Sx,X,HS⟩:=AA.start λW'=>Rec W' tb 106 (trL hb r a u n o);have y0:=AA.fact X λ_ h=>h.cell (j:=0) rfl;have y5:=AA.fact X λ_ h=>h.cell (j:=5) rfl;have y2:=AA.fact X λ_ h=>h.cell (j:=2) rfl;have Y:=HS.o _ (HQ.o.row.gr (Gr.refl _).drew);have Z:Inhabited (AA Sx):=⟨⟨_,Y⟩⟩;clear X;refine AI Sx 12 [([0,1,2,3,4,5,6,7,8,9,10,11],12)] [] Y ?_;refine AE ?_;go_wp2_with((go_at_call 54;refine(HQ.o.gr (Gr.refl _).drew).nx (HT.o.trans ((Gr.refl _).drew.touch _)) ((HQ.o.gr (Gr.refl _).drew).hv.copy _ _) ?_;clear HT HQ;intro w1 HT HQ c0 cl));refine⟨.inl trivial,?_⟩;refine AL ?_;clear y0 y5 y2 Y Z;clear HS Sx;go_upto_region 10 with(fail);clear c0 cl;obtain⟨Sx,X,HS⟩:=AA.start λW'=>Rec W' tb 106 (trL hb r a u n o);have y0:=AA.fact X λ_ h=>h.cell (j:=0) rfl;have y2:=AA.fact X λ_ h=>h.cell (j:=2) rfl;have Y:=HS.o _ (HQ.o.row.gr (Gr.refl _).drew);have Z:Inhabited (AA Sx):=⟨⟨_,Y⟩⟩;clear X;refine AI Sx 12 [([0,1,2,3,4,5,6,7,8,9,10,11],12)] [] Y ?_;refine AE ?_;go_wp2_with((go_at_call 57;refine(HQ.o.gr (Gr.refl _).drew).nx (HT.o.trans ((Gr.refl _).drew.touch _)) ((HQ.o.gr (Gr.refl _).drew).hv.load _ _ _) ?_;clear HT HQ;intro w1 HT HQ c0 cl));refine⟨.inl trivial,?_⟩;refine AL ?_;clear y0 y2 Y Z;clear HS Sx;go_wp2
    go_roundg T2.ids.length
    case measure=>rw[<-HN.o];exact Xg.o
    case rel=>exact⟨_,T2,O2,⟨rfl⟩,HQ,HT,Xi⟩
section
variable{R:Nat->Prop}
theorem HLv.wr(h:HLv w0 K c hb g w)(t:AB R w w')(hR:∀k,R k->K k/\w0.heap.size<=k)(ht:1<w0.heap.size):HLv w0 (λk=>K k\/(w.heap.size<=k/\k<w'.heap.size)) c hb g w':=by
 obtain⟨h1,⟨s,e1,e2,e3,e4⟩,h3⟩:=h;refine⟨?_,⟨s.cut w,e1,e2.cut.touch t (λk _ hk=>⟨λhs=>(e4 k (HSt.cut_S e2 k hs).1).2 (hR k hk).1,λe=>by have:=(hR k hk).2;omega⟩),e3,λk hk=>?_⟩,λk hk=>?_⟩
 ·exact((h1.touch R).trans t |>.mono (T:=λ_=>False) (λk hk e=>by have:=(hR k e).2;omega)).gr
 ·obtain⟨k1,k2⟩:=HSt.cut_S e2 k hk;exact⟨(e4 k k1).1,λh=>h.elim (e4 k k1).2 (λh=>by omega)⟩
 ·exact hk.elim (λh=>κ (h3 k h) t.size) (λh=>h.2)
end
structure BF(w0:World)(K:Nat->Prop)(c:HCf)(hb tb r a u n o:Nat)(M:List (Nat×Nat))(w:World):Prop where
 ex:∃g R,AY w0 K c hb tb r a u n o g w/\TsG g r a u n o R/\R.its.Perm M
 cap:5*M.length<=c.wd/\∀p∈M,p.2<18446744073709551616
def TrO(w0:World)(K:Nat->Prop)(c:HCf)(hb tb r a u n o:Nat)(w:World)(v:Value)(M':List (Nat×Nat))(e:Ending)(w':World):Prop:=e=.returned v/\AB (hlT w0 K) w w'/\BF w0 K c hb tb r a u n o M' w'
theorem bdC{B:Nat}{M M0:List (Nat×Nat)}(h:∀p∈M,p.2<B)(hk:k<B)(hs:∀p∈M0,p∈M):∀p∈(y,k) :: M0,p.2<B:=λp hp=>by
 rcases ζi.1 hp with rfl|hp
 ·exact hk
 ·exact h p (hs p hp)
theorem XS(hb:R.Bs)(k:Nat):(R.sub k=.nil/\∀p∈R.its,p.2≠k)\/∃x f a b,R.sub k=.node x f k a b:=by
 cases h:R.sub k with
 | nil=>exact .inl ⟨rfl,BT.sub_nil hb h⟩
 | node x f v a b=>exact .inr ⟨x,f,a,b,by rw[BT.sub_key k h]⟩
theorem BF.gr(h:BF w0 K c hb tb r a u n o M w)(gr:Gr w w'):BF w0 K c hb tb r a u n o M w':=by
 obtain⟨⟨g,R,q,p⟩,hc⟩:=h;exact⟨⟨g,R,q.gr gr,p⟩,hc⟩
theorem BF.grew(h:BF w0 K c hb tb r a u n o M w):Gr w0 w:=by
 obtain⟨⟨g,R,q,p⟩,hc⟩:=h;exact q.hv.gr
theorem BF.lt(h:BF w0 K c hb tb r a u n o M w):tb<w.heap.size:=by
 obtain⟨⟨g,R,q,p⟩,hc⟩:=h;exact q.row.lt
theorem BF.len_le(h:BF w0 K c hb tb r a u n o M w):M.length<=1000000:=by
 obtain⟨⟨g,R,q,p⟩,hc,-⟩:=h;have:=q.hv.facts.1.wd;omega
theorem BF.bd(h:BF w0 K c hb tb r a u n o M w):∀p∈M,p.2<18446744073709551616:=h.cap.2
theorem BF.keys(h:BF w0 K c hb tb r a u n o M w):(M.map Prod.snd).Nodup:=by
 obtain⟨⟨g,R,q,p,pe⟩,hc⟩:=h;exact(pe.map _).nodup_iff.1 (BT.bs_nodup p.t.bs)
theorem BF.put(h:BF w0 K c hb tb r a u n o M w)(hk:k<18446744073709551616)(hy:y<18446744073709551616):∃(e:Int) (M':List (Nat×Nat)),QY M k y c.wd e M'/\∀W,Gr w W->Calls prog 14 #[pP tb,uU k,.float .f64 y] W (TrO w0 K c hb tb r a u n o W (iI e) M'):=by
 have Y:=h.cap;obtain⟨hcp,U⟩:=h.cap;obtain⟨⟨g,R,q,p,pe⟩,-⟩:=h;have hl:R.ids.length=M.length:=by rw[<-BT.len_its,pe.length_eq]
 rcases XS p.t.bs k with⟨he,hn⟩|⟨x,f,c1,d1,he⟩
 ·have J:∀p∈M,p.2≠k:=λp hp=>hn p (pe.mem_iff.2 hp);by_cases hc:5*R.ids.length+5<=c.wd
  ·refine⟨0,(y,k) :: M,.inr ⟨J,.inl ⟨by omega,rfl,rfl⟩⟩,λW gW=>(JQw (q.gr gW) p hk he hy hc).mono ?_⟩;rintro e w' ⟨g',R',hs,hp,rfl,ht,X⟩;exact⟨rfl,ht,⟨⟨g',R',(q.gr gW).next ht X,hs,hp.trans (pe.cons _)⟩,by rw[ζu];omega,bdC U hk λ_ h=>h⟩⟩
  ·refine⟨21,M,.inr ⟨J,.inr ⟨by omega,rfl,rfl⟩⟩,λW gW=>(Zy8 (q.gr gW) p hk he y hc).mono ?_⟩;rintro e w' ⟨g',R',hs,hp,rfl,ht,X⟩;exact⟨rfl,ht,⟨⟨g',R',(q.gr gW).next ht X,hs,hp.trans pe⟩,Y⟩⟩
 ·have hf:=BT.its_found he;refine⟨0,(y,k) :: (c1.its++d1.its++R.oth k),.inl ⟨f,_,pe.symm.trans hf,rfl,rfl⟩,λW gW=>(X69 (q.gr gW) p hk he hy).mono ?_⟩;rintro e w' ⟨g',R',hs,hp,rfl,ht,X⟩;have Z:=pe.symm.trans hf;have:=Z.length_eq;exact⟨rfl,ht,⟨⟨g',R',(q.gr gW).next ht X,hs,hp⟩,by rw[ζu]at this⊢;omega,bdC U hk λ_ h=>Z.mem_iff.2 (τ _ h)⟩⟩
theorem BF.get(h:BF w0 K c hb tb r a u n o M w)(hk:k<18446744073709551616):∃(f:Nat) (e:Int),ZR M k f e/\∀W,Gr w W->Calls prog 22 #[pP tb,uU k] W (TrO w0 K c hb tb r a u n o W (.tuple #[.float .f64 f,iI e]) M):=by
 have X:=h.cap;obtain⟨⟨g,R,q,p,pe⟩,-⟩:=h;rcases XS p.t.bs k with⟨he,hn⟩|⟨x,f,c1,d1,he⟩
 ·refine⟨0,6,.inr ⟨λp hp=>hn p (pe.mem_iff.2 hp),rfl,rfl⟩,λW gW=>(Y58 (q.gr gW) p hk he).mono ?_⟩;rintro e w' ⟨g',R',hs,hp,rfl,ht,Y⟩;exact⟨rfl,ht,⟨⟨g',R',(q.gr gW).next ht Y,hs,hp.trans pe⟩,X⟩⟩
 ·refine⟨f,0,.inl ⟨pe.mem_iff.1 (BT.sub_mem he),rfl⟩,λW gW=>(Z5N (q.gr gW) p hk he).mono ?_⟩;rintro e w' ⟨g',R',hs,hp,rfl,ht,Y⟩;exact⟨rfl,ht,⟨⟨g',R',(q.gr gW).next ht Y,hs,hp.trans pe⟩,X⟩⟩
theorem BF.drop(h:BF w0 K c hb tb r a u n o M w)(hk:k<18446744073709551616):∃(e:Int) (M':List (Nat×Nat)),O4 M k e M'/\∀W,Gr w W->Calls prog 18 #[pP tb,uU k] W (TrO w0 K c hb tb r a u n o W (iI e) M'):=by
 have Z:=h.cap;obtain⟨⟨g,R,q,p,pe⟩,-⟩:=h;rcases XS p.t.bs k with⟨he,hn⟩|⟨x,f,c1,d1,he⟩
 ·refine⟨6,M,.inr ⟨λp hp=>hn p (pe.mem_iff.2 hp),rfl,rfl⟩,λW gW=>(Vw0 (q.gr gW) p hk he).mono ?_⟩;rintro e w' ⟨g',R',hs,hp,rfl,ht,X⟩;exact⟨rfl,ht,⟨⟨g',R',(q.gr gW).next ht X,hs,hp.trans pe⟩,Z⟩⟩
 ·have hf:=pe.symm.trans (BT.its_found he);obtain⟨hcp,V⟩:=Z;have Y:∀p∈c1.its++d1.its++R.oth k,p.2<18446744073709551616:=λp hp=>V p (hf.mem_iff.2 (τ _ hp));have U:=hf.length_eq;rw[ζu]at U;refine⟨0,c1.its++d1.its++R.oth k,.inl ⟨f,hf,rfl⟩,?_⟩;by_cases J:c1.top=0\/d1.top=0
  ·refine λW gW=>(Y8s (q.gr gW) p hk he J).mono ?_;rintro e w' ⟨g',R',hs,hp,rfl,ht,X⟩;exact⟨rfl,ht,⟨⟨g',R',(q.gr gW).next ht X,hs,hp⟩,by omega,Y⟩⟩
  ·refine λW gW=>(Zu9 (q.gr gW) p hk he (λe=>J (.inl e)) (λe=>J (.inr e))).mono ?_;rintro e w' ⟨g',R',hs,hp,rfl,ht,X⟩;exact⟨rfl,ht,⟨⟨g',R',(q.gr gW).next ht X,hs,hp⟩,by omega,Y⟩⟩
theorem BF.next(h:BF w0 K c hb tb r a u n o M w)(k:Nat):∃(v f:Nat) (e:Int),MR M k v f e/\∀W,Gr w W->Calls prog 16 #[pP tb,uU k] W (TrO w0 K c hb tb r a u n o W (.tuple #[uU v,.float .f64 f,iI e]) M):=by
 have X:=h.cap;obtain⟨⟨g,R,q,p,pe⟩,-⟩:=h;rcases BT.nx_spec k .nil p.t.bs with⟨he,hn⟩|⟨y,f,v,c1,d1,he,hm,Z,hl⟩
 ·refine⟨0,0,6,.inr ⟨λp hp=>hn p (pe.mem_iff.2 hp),rfl,rfl,rfl⟩,λW gW=>(Ymi (q.gr gW) p he).mono ?_⟩;rintro e w' ⟨g',R',hs,hp,rfl,ht,Y⟩;exact⟨rfl,ht,⟨⟨g',R',(q.gr gW).next ht Y,hs,hp.trans pe⟩,X⟩⟩
 ·refine⟨v,f,0,.inl ⟨pe.mem_iff.1 hm,Z,λp hp=>hl p (pe.mem_iff.2 hp),rfl⟩,λW gW=>(XFj (q.gr gW) p he).mono ?_⟩;rintro e w' ⟨g',R',hs,hp,rfl,ht,Y⟩;exact⟨rfl,ht,⟨⟨g',R',(q.gr gW).next ht Y,hs,hp.trans pe⟩,X⟩⟩
theorem BF.heap(h:BF w0 K c hb tb r a u n o M w)(hc:∀g,HLv w0 K c hb g w->Calls prog f args w (HLo w0 K c hb w v g)):Calls prog f args w (TrO w0 K c hb tb r a u n o w v M):=by
 obtain⟨⟨g,R,q,p⟩,hq⟩:=h;refine(hc g q.hv).mono ?_;rintro e w' ⟨rfl,ht,hl⟩;exact⟨rfl,ht,⟨⟨g,R,q.next ht hl,p⟩,hq⟩⟩
theorem BF.step(h:BF w0 K c hb tb r a u n o M w):Calls prog 19 #[pP hb] w λe w'=>∃z:Bool,TrO w0 K c hb tb r a u n o w (.bool z) M e w':=by
 obtain⟨⟨g,R,q,p⟩,hq⟩:=h;refine q.hv.step.mono ?_;rintro e w' ⟨z,rfl,ht,hl⟩;exact⟨z,rfl,ht,⟨⟨g,R,q.next ht hl,p⟩,hq⟩⟩
theorem BF.live(h:BF w0 K c hb tb r a u n o M w):Calls prog 20 #[pP hb] w (TrO w0 K c hb tb r a u n o w (.tuple #[iI M.length,iI (5*M.length:Nat)]) M):=by
 have hq:=h.cap;obtain⟨⟨g,R,q,p,pe⟩,-⟩:=h;obtain⟨l1,l2⟩:=p.live q.hv.facts.2.1;have e:R.ids.length=M.length:=by rw[<-BT.len_its,pe.length_eq]
 have hl:=q.hv.live;rw[l1,l2,e]at hl;refine hl.mono ?_;rintro e w' ⟨rfl,ht,hl⟩;exact⟨rfl,ht,⟨⟨g,R,q.next ht hl,p,pe⟩,hq⟩⟩
theorem BF.wr{S:Nat->Prop}(h:BF w0 K c hb tb r a u n o M w)(t':AB S w w')(hR:∀k,S k->K k/\w0.heap.size<=k/\k≠tb)(ht:1<w0.heap.size):BF w0 (λk=>K k\/(w.heap.size<=k/\k<w'.heap.size)) c hb tb r a u n o M w':=by
 obtain⟨⟨g,T,q,p⟩,hc⟩:=h;exact⟨⟨g,T,⟨q.hv.wr t' (λk hk=>⟨(hR k hk).1,(hR k hk).2.1⟩) ht,q.row.touch t' (λe=>(hR tb e).2.2 rfl),.inl q.kl⟩,p⟩,hc⟩
theorem BF.isnt(h:BF w0 K c hb tb r a u n o M w):cQ 48 #[pP tb] w (.bool false):=by
 obtain⟨⟨g,R,q,p⟩,hc⟩:=h;exact GS q
theorem BF.len(h:BF w0 K c hb tb r a u n o M w):Calls prog 21 #[pP tb] w (TrO w0 K c hb tb r a u n o w (iI (M.length:Nat)) M):=by
 have G:=ι h.len_le;have A:=ι h.keys;have O:=ι h.bd;have HI:=ι h.isnt;have HQ:=ι h;have HT:=ι (AB.refl (hlT w0 K) w);clear h;go_enter func21,ntmps21
 go_upto_block 3 with(go_at_call 48;refine AK HI.o ?_)
 go_loopw [3,4] (λs5 s6 wr=>∃k:Nat,k<18446744073709551616/\s5=iI (FP M k:Nat)/\s6=uU k/\Hid (AB (hlT w0 K) w wr)/\Hid (BF w0 K c hb tb r a u n o M wr)) (λs5 _ _=>M.length-(intOf s5).toNat)
 case atStart=>exact⟨0,by omega,by rw[ZD2];rfl,rfl,HT,HQ⟩
 case round=>
  clear HT HQ;obtain⟨k,hk,rfl,rfl,HT,HQ⟩:=hrel;obtain⟨v,f,e,hn,X⟩:=HQ.o.next k
  have HC:=ι X;clear X;rcases hn with⟨hm,U,hl,rfl⟩|⟨E,rfl,rfl,rfl⟩
  ·have hv:=O.o _ hm;have hc:=YAN A.o hm U hl;have I:=Y4B M (v+1);have V:=G.o;generalize hq:FP M k=q at hc;obtain⟨q1,J⟩:∃q1,q1=q+1:=⟨_,rfl⟩;rw[<-J]at hc;have HV:=ι hv;have L:=ι hc;have HHL:=ι hl;have e1:wrap64 ((q:Int)+1)=(q1:Int):=by rw[ξ8 _ Ω];omega
   have B:=ι J;by_cases hx:v=18446744073709551615
   ·have d0:((v:Int)==18446744073709551615)=true:=by rw[ξa];omega
    have ha:FP M (v+1)=M.length:=VXw λp hp=>by have:=O.o p hp;omega
    rw[hc]at ha;have HA:=ι ha;clear hm hl hv U I V ha hc hq hk J hx;go_wp2_with(go_at_call 16;refine(HC.o _ (Gr.refl _)).mono ?_;rintro e w1 ⟨rfl,ht,hs⟩;have Y:=ι (HT.o.trans ht);have Z:=ι hs;clear ht hs);go_ret;exact⟨congrArg Ending.returned (congrArg _ (e1.trans (by rw[HA.o]))),Y.o,Z.o⟩
   ·have d0:((v:Int)==18446744073709551615)=false:=by rw[ζD];omega
    obtain⟨v1,D⟩:∃v1,v1=v+1:=⟨_,rfl⟩;have e2:IntKind.u64.wrap ((v:Int)+1)=(v1:Int):=by rw[show (v:Int)+1=(v1:Int)by omega];exact IA v1 Ω
    have HX:=ι hx;have N:=ι D;clear hm hl hv U I V hc hk hx hq J D;go_wp2_with(go_at_call 16;refine(HC.o _ (Gr.refl _)).mono ?_;rintro e w1 ⟨rfl,ht,hs⟩;have Y:=ι (HT.o.trans ht);have Z:=ι hs;clear ht hs);go_round
    case rel=>exact⟨v1,by have:=HV.o;have:=HX.o;have:=N.o;omega,by rw[N.o,L.o];exact congrArg _ e1,rfl,Y,Z⟩
    case measure=>
     have h1:=L.o;have h2:=Y4B M (v+1);have h3:=B.o;clear d0 e2;rw[e1];simp only[intOf,χ];omega
  ·have ha:FP M k=M.length:=VXw E;generalize FP M k=q at ha⊢;have HA:=ι ha;clear E ha hk;go_wp2_with(go_at_call 16;refine(HC.o _ (Gr.refl _)).mono ?_;rintro e w1 ⟨rfl,ht,hs⟩;have Y:=ι (HT.o.trans ht);have Z:=ι hs;clear ht hs);go_ret;exact⟨by rw[<-HA.o];rfl,Y.o,Z.o⟩
def MC(w0 w:World)(K:Nat->Prop)(c:HCf)(hb:Nat)(g:Gph)(x0 x1 x2 x3 x4:Int)(e:Ending)(w':World):Prop:=
 (DQ c.sl [x0,x1,x2,x3,x4]≠0/\e=.returned (.tuple #[.pointer none,iI (DQ c.sl [x0,x1,x2,x3,x4])])/\Gr w w') ∨
 (DQ c.sl [x0,x1,x2,x3,x4]=0/\∃r a u n o:Nat,x0=r/\x1=a/\x2=u/\x3=n/\x4=o/\(∀j∈[r,a,u,n,o],j<c.sl)/\[r,a,u,n,o].Nodup ∧
  ∃tb,e=.returned (.tuple #[pP tb,iI 0])/\AB (hlT w0 K) w w'/\AY w0 (λk=>K k\/k=tb) c hb tb r a u n o (GE a u n o (g.clG r)) w'/\w.heap.size<=tb)
theorem MC.bad{x0 x1 x2 x3 x4 m:Int}{L:List Int}(hL:[x0,x1,x2,x3,x4]=L)(hm:DQ c.sl L=m)(h0:m≠0)(gr:Gr w w'):MC w0 w K c hb g x0 x1 x2 x3 x4 (.returned (.tuple #[.pointer none,iI m])) w':=.inl ⟨by rw[hL,hm];exact h0,by rw[hL,hm],gr⟩
theorem X3X(h:HLv w0 K c hb g w)(hw0:1<w0.heap.size)(x0 x1 x2 x3 x4:Int):Calls prog 13 #[pP hb,iI x0,.agg #[iI x1,iI x2,iI x3,iI x4]] w (MC w0 w K c hb g x0 x1 x2 x3 x4):=by
 obtain⟨ii,Xg,Xf,Xs,Xk⟩:=info_parts PV;have Xx:=h.facts.1.kd;have J:=ι (λ(V:World) (gV:Gr w V)=>(h.get gV).conf);unfold G4 H9 at J;have k1:((c.kd:Int)==0)=false:=by rw[ζD];omega
 have Xy:∀V,(Instr.field 24 (.agg #[iI c.kd,iI c.pg,iI c.bk,iI c.wd,iI c.sl,iI c.st,iI c.ah,.float .f64 c.tr]) 0).run prog V=.ok (iI c.kd) V:=λ_=>by kernel_rfl
 have Ya:∀V,(Instr.field 24 (.agg #[iI c.kd,iI c.pg,iI c.bk,iI c.wd,iI c.sl,iI c.st,iI c.ah,.float .f64 c.tr]) 4).run prog V=.ok (iI c.sl) V:=λ_=>by kernel_rfl
 have hr:=Rec.new w 35 [iI x1,iI x2,iI x3,iI x4];have Xo:=(Gr.refl w).alloc (.cells #[.int .i64 x1,.int .i64 x2,.int .i64 x3,.int .i64 x4] 35);obtain⟨wb,O⟩:∃wb,wb=w.alloc (.cells #[.int .i64 x1,.int .i64 x2,.int .i64 x3,.int .i64 x4] 35):=⟨_,rfl⟩;obtain⟨bx,Xb⟩:∃bx,bx=w.heap.size:=⟨_,rfl⟩;have HR:Hid (Rec wb bx 35 [iI x1,iI x2,iI x3,iI x4]):=⟨by rw[O,Xb];exact hr⟩;have Xe:Hid (Gr w wb):=⟨by rw[O];exact Xo⟩;have HW:=ι O;have Xr:=ι Xb;have H:=ι h;have Xv:=ι hw0;have xl:=HR.o.lt;clear h O Xb hr Xo Xx hw0;go_enter func13,ntmps13;go_upto_region 1 with(fail);rw[<-HW.o,<-Xr.o];go_upto_region 3 with(go_at_call 45;refine(J.o _ Xe.o).mono ?_;rintro e w1 ⟨rfl,hg⟩;have Xd:=ι hg;clear hg);have Xp:=ι (Xe.o.trans Xd.o);have E:=ι (HR.o.gr Xd.o);have Xu:=E.o.lt;clear Xe;go_upto_region 4 with(at_builtin;refine wpList_append_lies _ rfl _ _ 70 rfl 0 3 ii _ 1 8 underlying70 Xg Xf Xs Xk rfl (by decide) (.slice (some ⟨w1.heap.size,0,none⟩) 1 1) 1 [iI x0] rfl (Q4x w1 _ _) ⟨bx,0,none⟩ 4 4 [iI x1,iI x2,iI x3,iI x4] rfl rfl (λj u hj=>by rw[show Addr.add ⟨bx,0,none⟩ j=⟨bx,j,none⟩by unfold Addr.add;split <;> simp_all];exact(E.o.gr ((Gr.refl w1).alloc (.cells #[.int .i64 x0] 3))).cell hj) (by simp[Value.oneCell']) Ω (by unfold maxLen;omega) Ω (ζf _) (w1.heap.size+1) (by simp) ?_;intro g3 c3 w3 U Z Xn Xl;have D:=ι U;have Xc:=ι ((((Gr.refl w1).alloc (.cells #[.int .i64 x0] 3)).touch _).trans (DM Z (λk=>w1.heap.size<=k) (λk e _=>by cases e;exact ϑ _)));clear U Z Xn Xl);have Y:=ι (Xp.o.trans ((Xc.o.mono (T:=λ_=>False) (λk hk e=>by omega)).gr));have HC:Hid (∀V,Gr w3 V->∀j,j<5->V.cell? ⟨g3,j,none⟩=some (iI ([x0,x1,x2,x3,x4].getD j 0))/\g3<V.heap.size):=⟨λV gV j hj=>⟨BS (CL D.o gV) (by rcases(by omega:j=0\/j=1\/j=2\/j=3\/j=4)with rfl|rfl|rfl|rfl|rfl <;> rfl),(BE (CL D.o gV) rfl).2⟩⟩;have Xj:=ι (E.o.touch Xc.o (λe=>by omega));have Xi:Hid (5<=c3):=⟨by obtain⟨_,_,e,-,h,-,-⟩:=E6 D.o (by decide);cases e;exact h⟩;have HL:=ι (show [x0,x1,x2,x3,x4].length=5 from rfl);generalize hL:[x0,x1,x2,x3,x4]=L at HC HL
 replace hL:=ι hL
 clear HR HW Xr xl Xd Xp E Xu D Xc Xg Xf Xs Xk;go_upto_region 5 with(fail)
 go_loopw [26] (λs26 wr=>∃k:Nat,k<=5/\s26=iI k/\Hid (Gr w3 wr)/\Hid (∀j,j<k->0<=L.getD j 0/\L.getD j 0<c.sl)) (λs26 _=>5-(intOf s26).toNat)
 case atStart=>exact⟨0,by omega,rfl,⟨Gr.refl _⟩,⟨λj hj=>absurd hj (ζA _)⟩⟩
 case round=>
  obtain⟨k,hk,rfl,HG,HA⟩:=hrel;by_cases X:k<5
  ·obtain⟨x0,xl⟩:=HC.o _ HG.o k X;have Xz:(k:Int)<5:=Ω
   generalize hx:L.getD k 0=x at x0;by_cases B:x<0
   ·have d0:decide (x<0)=true:=θ B;go_wp2;go_ret2;exact MC.bad hL.o (QL (by rw[HL.o];exact X) (.inl (by rw[hx];exact B))) (by decide) (Y.o.trans HG.o)
   ·have d0:decide (x<0)=false:=ζ B;by_cases Xa:(c.sl:Int)<=x
    ·have d1:decide ((c.sl:Int)<=x)=true:=θ Xa;go_wp2_with(go_at_call 45;refine(J.o _ (Y.o.trans HG.o)).mono ?_;rintro e w4 ⟨rfl,hg⟩;have A:=ι (HG.o.trans hg);clear hg);go_ret2;exact MC.bad hL.o (QL (by rw[HL.o];exact X) (.inr (by rw[hx];exact Xa))) (by decide) (Y.o.trans A.o)
    ·have d1:decide ((c.sl:Int)<=x)=false:=ζ Xa;go_wp2_with(go_at_call 45;refine(J.o _ (Y.o.trans HG.o)).mono ?_;rintro e w4 ⟨rfl,hg⟩;have A:=ι (HG.o.trans hg);clear hg);go_round
     case rel=>exact⟨k+1,by omega,by go_num,A,⟨λj hj=>by rcases ζP.1 hj with h|rfl;exact HA.o j h;rw[hx];exact⟨by omega,by omega⟩⟩⟩
     case measure=>have:=X;simp[intOf];omega
  ·obtain rfl:k=5:=Ω
   clear X hk J Xy Ya k1;have Xw:=Xi.o;go_upto_region 11 with(fail);obtain⟨wq,Xt⟩:∃wq,wq=wr:=⟨_,rfl⟩;subst Xt
   go_loopw [42] (λs42 wr=>∃k:Nat,k<=5/\s42=iI k/\Hid (wr=wq)/\Hid (∀i,i<k->∀j,j<i->L.getD i 0≠L.getD j 0)) (λs42 _=>5-(intOf s42).toNat)
   case atStart=>exact⟨0,by omega,rfl,⟨rfl⟩,⟨λj hj=>absurd hj (ζA _)⟩⟩
   case round=>
    obtain⟨k,hk,rfl,hw,HD⟩:=hrel
    replace hw:=hw.o
    subst hw;by_cases X:k<5
    ·obtain⟨x0,xl⟩:=HC.o _ HG.o k X;have Xz:(k:Int)<5:=Ω
     have hkJ:(k:Int)<=c3:=Ω
     obtain⟨x,hx⟩:∃x,x=L.getD k 0:=⟨_,rfl⟩;rw[<-hx]at x0;have HX:=ι hx;clear hx;go_upto_region 14 with(fail)
     go_loopw [51] (λs51 wp=>∃m:Nat,m<=k/\s51=iI m/\Hid (wp=wr)/\Hid (∀j,j<m->x≠L.getD j 0)) (λs51 _=>k-(intOf s51).toNat)
     case atStart=>exact⟨0,by omega,rfl,⟨rfl⟩,⟨λj hj=>absurd hj (ζA _)⟩⟩
     case round=>
      obtain⟨m,hm,rfl,hw,HE⟩:=hrel
      replace hw:=hw.o
      subst hw;by_cases Xq:m<k
      ·obtain⟨y0,yl⟩:=HC.o _ HG.o m Ω;have hmI:(m:Int)<k:=Ω
       obtain⟨y,hy⟩:∃y,y=L.getD m 0:=⟨_,rfl⟩;rw[<-hy]at y0;have HY:=ι hy;clear hy;by_cases I:x=y
       ·have d0:(x==y)=true:=ξa.2 I;go_wp2;go_ret2;exact MC.bad hL.o (XHt (k:=k) (m:=m) (by rw[HL.o];exact X) (λj hj=>HA.o j (by rw[<-HL.o];exact hj)) Xq (by rw[<-HX.o,<-HY.o];exact I)) (by decide) (Y.o.trans HG.o)
       ·have d0:(x==y)=false:=ζD.2 I;go_wp2;go_round
        case rel=>exact⟨m+1,by omega,by go_num,⟨by trivial⟩,⟨λj hj=>by rcases ζP.1 hj with h|rfl;exact HE.o j h;rw[<-HY.o];exact I⟩⟩
        case measure=>have:=Xq;simp[intOf];omega
      ·obtain rfl:m=k:=Ω
       go_wp2;go_round
       case rel=>exact⟨m+1,by omega,by go_num,⟨by trivial⟩,⟨λi hi=>by rcases ζP.1 hi with h|rfl;exact HD.o i h;rw[<-HX.o];exact HE.o⟩⟩
       case measure=>have:=X;simp[intOf];omega
    ·obtain rfl:k=5:=Ω
     obtain rfl:=hL.o;clear X hk hL HL;have a0:0<=x0/\x0<c.sl:=HA.o 0 (by decide);have a1:0<=x1/\x1<c.sl:=HA.o 1 (by decide);have a2:0<=x2/\x2<c.sl:=HA.o 2 (by decide);have a3:0<=x3/\x3<c.sl:=HA.o 3 (by decide);have a4:0<=x4/\x4<c.sl:=HA.o 4 (by decide);obtain⟨r,rfl⟩:∃r:Nat,x0=r:=⟨x0.toNat,by omega⟩;obtain⟨a,rfl⟩:∃r:Nat,x1=r:=⟨x1.toNat,by omega⟩;obtain⟨u,rfl⟩:∃r:Nat,x2=r:=⟨x2.toNat,by omega⟩;obtain⟨n,rfl⟩:∃r:Nat,x3=r:=⟨x3.toNat,by omega⟩;obtain⟨o,rfl⟩:∃r:Nat,x4=r:=⟨x4.toNat,by omega⟩
     have HM:Hid (DQ c.sl [(r:Int),a,u,n,o]=0/\(∀j∈[r,a,u,n,o],j<c.sl)/\[r,a,u,n,o].Nodup):=by
      refine⟨QP (λj hj=>HA.o j hj) (λi hi=>HD.o i hi),?_,?_⟩
      ·intro j hj;simp only[ζi,ξq,or_false]at hj;rcases hj with rfl|rfl|rfl|rfl|rfl <;> omega
      ·have q10:(a:Int)≠r:=HD.o 1 (by decide) 0 (by decide);have q20:(u:Int)≠r:=HD.o 2 (by decide) 0 (by decide);have q21:(u:Int)≠a:=HD.o 2 (by decide) 1 (by decide);have q30:(n:Int)≠r:=HD.o 3 (by decide) 0 (by decide);have q31:(n:Int)≠a:=HD.o 3 (by decide) 1 (by decide);have q32:(n:Int)≠u:=HD.o 3 (by decide) 2 (by decide);have q40:(o:Int)≠r:=HD.o 4 (by decide) 0 (by decide);have q41:(o:Int)≠a:=HD.o 4 (by decide) 1 (by decide);have q42:(o:Int)≠u:=HD.o 4 (by decide) 2 (by decide);have q43:(o:Int)≠n:=HD.o 4 (by decide) 3 (by decide);simp only[ζB,ζi,ξq,or_false,ξi,and_true,not_or,not_false_eq_true];omega
     have N:=ι (Y.o.trans HG.o);have RB:=Xj.o.gr HG.o;obtain⟨z0,z1,z2,z3,zl⟩:=RB.k4;clear a0 a1 a2 a3 a4 HA HD HC RB Xj Xi Xw HG Y;go_upto_region 21 with(fail);have Xm:=N.o.alloc (.cells (trL hb r a u n o).toArray 106);have G:=Rec.new wr 106 (trL hb r a u n o);have HQ:Hid (AY w0 (λk=>K k\/k=wr.heap.size) c hb wr.heap.size r a u n o g (wr.alloc (.cells (trL hb r a u n o).toArray 106))):=⟨((H.o.get N.o).own ((Gr.refl wr).alloc _) (λk hk=>hk.imp id (λe=>⟨by omega,by rw[e];exact G.lt⟩))),G,.inr rfl⟩;have HT:Hid (AB (hlT w0 (λk=>K k\/k=wr.heap.size)) w (wr.alloc (.cells (trL hb r a u n o).toArray 106))):=⟨Xm.touch _⟩;have Xh:=ι N.o.size;unfold trL at HQ HT;clear Xm G z0 z1 z2 z3 zl H Xv N;generalize wr.alloc (.cells #[.pointer (some ⟨hb,0,none⟩),.int .i64 r,.int .i64 a,.int .i64 u,.int .i64 n,.int .i64 o] 106)=wz at HQ HT⊢;generalize wr.heap.size=tb at HQ HT Xh⊢;have c0:wz.cell? ⟨tb,0,none⟩=some (pP hb):=HQ.o.row.cc 0;have cl:=HQ.o.row.lt
     go_wp2_with(first
      | (go_at_call 46;refine HQ.o.nx HT.o (HQ.o.hv.clr _) ?_;clear HT HQ c0 cl;intro w1 HT HQ c0 cl)
      | (go_at_call 47;refine HQ.o.nx HT.o (Vg7 HQ.o) ?_;clear HT HQ c0 cl;intro w1 HT HQ c0 cl))
     go_ret2;exact .inr ⟨HM.o.1,r,a,u,n,o,rfl,rfl,rfl,rfl,rfl,HM.o.2.1,HM.o.2.2,tb,rfl,HT.o.mono (λk _ hk=>⟨hk.1,λe=>hk.2 (.inl e)⟩),HQ.o,Xh.o⟩
theorem OA(h:a<m)(L:List GOb):Gph.clG ⟨L,List.replicate m 0⟩ a=⟨L,List.replicate m 0⟩:=by
 grind [Gph.clG_ok,List.set_replicate_self]
theorem YoM(h:∀j∈[r,a,u,n,o],j<m):GE a u n o (Gph.clG ⟨[],List.replicate m 0⟩ r)=⟨[],List.replicate m 0⟩:=by
 unfold GE;rw[OA (h r (by simp)),OA (h a (by simp)),OA (h u (by simp)),OA (h n (by simp)),OA (h o (by simp))]
theorem V6E(hd:[r,a,u,n,o].Nodup)(hl:∀j∈[r,a,u,n,o],j<m):TsG ⟨[],List.replicate m 0⟩ r a u n o .nil:=by
 have hz:∀j,Gph.sv ⟨[],List.replicate m 0⟩ j=0:=λj=>by
  unfold Gph.sv;rw[ω];by_cases h:j<m
  ·simp[h]
  ·simp[h]
 exact⟨⟨⟨hd,λj hj=>by simpa using hl j hj,λj _=>hz j⟩,⟨by simpa using hl r (by simp),hz r,trivial⟩,.nil,trivial⟩,λj _=>hz j⟩
theorem TI(h:HLv w0 K c hb (Gph.nil c.sl) w)(hw0:1<w0.heap.size)(x0 x1 x2 x3 x4:Int):Calls prog 13 #[pP hb,iI x0,.agg #[iI x1,iI x2,iI x3,iI x4]] w λe w'=>
  (DQ c.sl [x0,x1,x2,x3,x4]≠0/\e=.returned (.tuple #[.pointer none,iI (DQ c.sl [x0,x1,x2,x3,x4])])/\Gr w w') ∨
  (DQ c.sl [x0,x1,x2,x3,x4]=0/\∃r a u n o tb:Nat,e=.returned (.tuple #[pP tb,iI 0])/\AB (hlT w0 K) w w'/\BF w0 (λk=>K k\/k=tb) c hb tb r a u n o [] w'/\w.heap.size<=tb):=by
 refine(X3X h hw0 x0 x1 x2 x3 x4).mono ?_;rintro e w' (hn|⟨hm,r,a,u,n,o,-,-,-,-,-,hl,hd,tb,he,ht,hq,hs⟩)
 ·exact .inl hn
 ·rw[show Gph.nil c.sl=⟨[],List.replicate c.sl 0⟩from rfl,YoM hl]at hq;exact .inr ⟨hm,r,a,u,n,o,tb,he,ht,⟨⟨_,.nil,hq,V6E hd hl,.nil⟩,ζf _,λp hp=>absurd hp (by simp)⟩,hs⟩
end Go.Proofs.YtbdimhlaaoadgaaGreatDoor
