/- Part 12 of what QueuePlays leans on: my own lemmas, merged by shake.py. -/
import Derived.Test.YtggjoonlcjjgkaaGreatDoorQueuePlaysK
namespace Go.Proofs.YtggjoonlcjjgkaaGreatDoor
open _root_.Go.Proofs.Tryz
set_option maxHeartbeats 6400000
set_option maxRecDepth 100000
open Go.RowKit Go.Shelf Word
variable{args:Array Value}{f:FuncId}{g g':Gph}{c:HCf}{room sl:Int}{M M' N':List (Nat × Nat)}{N:List (Nat×Nat)}{l:List Int}{a b d hb i k m n qb r rb s u x y:Nat}{K R S X X':Nat->Prop}{p q:Nat×Nat}{v:Value}{w w' w0 wx:World}
section
variable{s:HSt}
theorem HIn.mrun(h:HIn w c g s){W:World}(gr:Gr w W){p1 b1 p2 b2 g1 cp:Nat}(hE:Ext W m p1 b1 p2 b2 c.n [])(hm:w.heap.size<=m/\w.heap.size<=p1/\w.heap.size<=b1/\w.heap.size<=p2/\w.heap.size<=b2)(ho:W.ownsRow 0 3 1 (.slice (some ⟨g1,0,none⟩) (s.rs g).length cp) (s.rs g).length (zs (s.rs g)))(hg1:¬AN m b1 b2 g1):
  Calls prog 48 #[.iface 101 (.agg #[pP s.A.hp]),.slice (some ⟨g1,0,none⟩) (s.rs g).length cp,pP m,iI c.st] W λe w'=>
   (∃r vi:Int,e=.returned (.tuple #[.agg #[iI (g.all.length:Nat),iI (g.words:Nat),iI r,iI vi],iI 0]))/\AB (AN m b1 b2) W w':=by
 have hst:=h.cok.st
 have hn:s.top<=c.n:=by
  have h1:=(RS h.cok).1;have h2:=h.bt;have h3:=h.cok.kd;unfold HCf.n;rcases h.bs with e|⟨e,e2⟩
  ·split <;> omega
  ·rw[φ e2];omega
 have hS:=h.soundN hn;obtain⟨L0,hM0,-,-,-,hz0,hl0⟩:=h.rch hn
 have Z:(s.rs g).length<=maxLen:=by
  have:=h.sl;have:=h.cok.sl;unfold maxLen;unfold HSt.rs;rw[ψt];omega
 have V:=HSt.cut_S h;have Y:=h.com.lt.2.2.2.2;have hI:=h.lk (λ_=>False);obtain⟨hI1,E,U⟩:=hI;have J:(spL c g (s.cut w)).I s.u (λ_=>False) W:=⟨rfl,E.gr gr,λk hk=>κ (U k hk) gr.size⟩;refine(Xbg (z:=spL c g (s.cut w)) (SV:=λ_=>False) (v:=s.u) (rs:=s.rs g) (room:=c.st) ⟨ZQv ..,id⟩ (.inl hS) (λa ha=>?_) (λi hi=>?_) J hE (gr.tab Y h.com.tab) (λi hi=>?_) Z (λ_ h=>h.elim) id id id (λe=>?_)).mono ?_
 ·obtain⟨x,hx,rfl⟩:=h.img.rch h.gok ha;exact⟨λh0=>h.rdP (.inr hx) h0,λi h0=>h.fdP (.inr hx) i (by decide) h0⟩
 ·have O:i<w.heap.size:=by
   rcases hi with hi|hi
   ·exact(V i hi).2
   ·rw[hi];exact Y
  exact⟨κ O gr.size,λe=>by rcases e with e|e|e <;> omega⟩
 ·exact⟨g1,0,rfl,(BE ho rfl).2,hg1,by rw[ξq];exact BP ho (LW hi)⟩
 ·rcases e with e|e|e <;> omega
 ·rintro e w' (⟨h1,-⟩|⟨-,-,ht,-,(⟨L,r,vi,rfl,-,hM,-⟩|⟨rfl,-,hs⟩)⟩)
  ·omega
  ·have e1:=h.img.words h.gok hM;have e2:=h.img.count h.gok hM;rw[e1,e2];exact⟨⟨r,vi,rfl⟩,ht.mono (λk _ hk=>hk.elim id (λe=>e.elim))⟩
  ·exact absurd hS hs
end
section
variable{w1 w2:World}{s:HSt}
theorem QLM(h:HIn w c g s):Calls prog 19 #[pP s.A.hp] w λe w'=>e=.returned (.tuple #[iI (g.all.length:Nat),iI (g.words:Nat)])/\Gr w w':=by
 have Xx:=ι (FJ h);have HW:=ι (h.memWords);obtain⟨q1,q2,-⟩:=RS h.cok;have q3:=h.cok.wd;have HX:=ι (λW=>OF c.n Ω Ω W);have Xf:=ι (λ(W:World) (gr:Gr w W)=>SJ (h.com.rt.gr gr));have L:=ι (λ(W:World) (gr:Gr w W) (m p1 b1 p2 b2 g1 cp:Nat) (hE:Ext W m p1 b1 p2 b2 c.n []) hm ho hg1=>h.mrun gr (m:=m) (p1:=p1) (b1:=b1) (p2:=p2) (b2:=b2) (g1:=g1) (cp:=cp) hE hm ho hg1);have Xe:=ι h.com.row;have c8:=h.cc 8;have Xr:=h.com.row.lt;obtain⟨ap,Xz⟩:∃ap,ap=s.A.hp:=⟨_,rfl⟩;obtain⟨rr,Xt⟩:∃rr,rr=s.A.r:=⟨_,rfl⟩;obtain⟨qq,Xy⟩:∃qq,qq=s.A.q:=⟨_,rfl⟩;rw[<-Xz]at Xx L Xe c8 Xr⊢;rw[<-Xt]at Xf;rw[<-Xy]at HW c8;generalize (g.all.length:Nat)=na at L⊢;generalize (g.words:Nat)=nw at L⊢
 have Yd:Hid (∀W,Gr w W->W.cell? ⟨ap,9,none⟩=some (pP rr)/\W.cell? ⟨ap,5,none⟩=some (iI c.st)):=⟨λW gr=>by
  have:=Xe.o.gr gr
  exact⟨by rw[Xt];exact this.cc 9,this.cc 5⟩⟩
 have HLT:=ι Xr;clear h Xz Xt Xy q1 q2 q3 Xe Xr;go_enter func19,ntmps19
 go_upto_region 4 with first
  | (go_at_call 41;refine Xx.o.mono ?_;rintro e w1 ⟨rfl,rfl⟩)
  | (go_at_call 47;refine HW.o.mono ?_;rintro e w1 ⟨rfl,rfl⟩)
  | (go_at_call 46;refine(HX.o _).mono ?_;rintro e w3 ⟨m,p1,b1,p2,b2,rfl,Yb,Yf,Ye,Yc,Xv,Yg,Ya⟩;have O:=ι Yb;have Xc:=ι Yf;have HB:=ι (ψ Ye (ψ Yc (ψ Xv (ψ Yg Ya))));clear Yb Yf Ye Yc Xv Yg Ya)
 have Xl:Hid (∀i,AN m b1 b2 i->w.heap.size<=i/\i<w3.heap.size):=⟨λi hi=>by
  have h1:=Xc.o.hm;have h2:=Xc.o.v1.hb;have h3:=Xc.o.v2.hb;have h4:=HB.o
  rcases hi with rfl|rfl|rfl <;> omega⟩
 have Xp:Hid (∀W1 W2,Gr w3 W1->AB (AN m b1 b2) W1 W2->Gr w W2):=⟨λW1 W2 g1 t=>(((O.o.trans g1).touch (AN m b1 b2)).trans t |>.mono (T:=λ_=>False) (λk hk e=>by have:=(Xl.o k e).1;omega)).gr⟩;obtain⟨Sx,Xk⟩:∃Sx:World->Prop,Sx=λW'=>Gr w W':=⟨_,rfl⟩;have y9:∀p':AA Sx,p'.w.cell? ⟨ap,9,none⟩=some (pP rr):=λp=>(Yd.o _ (AA.get Xk p)).1;have y5:∀p':AA Sx,p'.w.cell? ⟨ap,5,none⟩=some (iI c.st):=λp=>(Yd.o _ (AA.get Xk p)).2;have Xw:Sx w3.drew:=by rw[Xk];exact O.o.drew
 have V:=ι Xk;have inst:Inhabited (AA Sx):=⟨⟨_,Xw⟩⟩;clear Xk;refine YW Sx (.two [0,1,2,3,4,5,6,8,9,10,11,12,13] 7 (.two [] 14 (.one [15,16,17] 18 (.one [] 19 (.fin [20]))) 18 (.one [] 14 (.one [15,16,17] 19 (.fin [20])))) 18 (.one [] 7 (.one [] 14 (.one [15,16,17] 19 (.fin [20]))))) Xw ?_;refine PT ?_;simp only[AF,ν,π]
 repeat(go_big_quiet_step (fail))
 refine ζb ⟨?_,?_⟩
 ·go_wp2_with(go_at_call 49;refine(Xf.o _ (O.o.trans (Gr.refl w3).drew)).mono ?_;rintro e w4 ⟨g1,cp,rfl,Xm,Xd,Xg⟩;have Z:Hid (Gr w3 w4):=⟨((Gr.refl w3).drew).trans Xm⟩;have Xs:Hid (w3.heap.size<=g1):=⟨γ ((Gr.refl w3).drew).size Xd⟩;have Xq:=ι Xg;clear Xg Xd);have Xo:Hid (∀W,Gr w4 W->Calls prog 48 #[.iface 101 (.agg #[pP ap]),.slice (some ⟨g1,0,none⟩) (s.rs g).length cp,pP m,iI c.st] W λe w'=>(∃r vi:Int,e=.returned (.tuple #[.agg #[iI (na:Nat),iI (nw:Nat),iI r,iI vi],iI 0]))/\AB (AN m b1 b2) W w'):=⟨λW gW=>L.o W (O.o.trans (Z.o.trans gW)) m p1 b1 p2 b2 g1 cp (Xc.o.gr (Z.o.trans gW)) HB.o (CM Xq.o gW) (λe=>by have:=(Xl.o _ e).2;have:=Xs.o;omega)⟩;have Xa:Hid (∀W W2,Gr w4 W->AB (AN m b1 b2) W W2->Gr w W2):=⟨λW W2 g1 t=>Xp.o W W2 (Z.o.trans g1) t⟩;have Xb:Hid (Gr w w4):=⟨O.o.trans Z.o⟩;refine⟨AA.of (by rw[V.o];exact Xb.o),?_⟩;refine PT ?_;simp only[AF,ν,π]
  repeat(go_big_quiet_step (fail))
  refine ζb ⟨?_,?_⟩
  ·go_wp2_with(go_at_call 48;refine(Xo.o _ (Gr.refl w4)).mono ?_;rintro e w5 ⟨⟨rv,vi,rfl⟩,G⟩;have B:=ι G;clear G);have Y:Hid (Gr w w5):=⟨Xa.o _ _ (Gr.refl w4) B.o⟩;refine⟨AA.of (by rw[V.o];exact Y.o),?_⟩;refine G9 ?_;go_wp2;refine⟨AA.of (by rw[V.o];exact Y.o.alloc _),?_⟩;refine G9 ?_;go_wp2;refine⟨AA.of (by rw[V.o];exact Y.o.alloc _),?_⟩;refine LP ?_;obtain⟨x,hx⟩:∃x,x=w5.heap.size:=⟨_,rfl⟩;rw[<-hx];obtain⟨WX,U⟩:∃WX,WX=w5.alloc (.cells #[.int .i64 (na:Nat),.int .i64 (nw:Nat),.int .i64 rv,.int .i64 vi] 97):=⟨_,rfl⟩;have Xj:Hid (Gr w WX):=⟨by rw[U];exact Y.o.alloc _⟩;have rx:Rec WX x 97 [iI (na:Nat),iI (nw:Nat),iI rv,iI vi]:=by rw[U];exact hx▸Rec.new w5 97 [iI (na:Nat),iI (nw:Nat),iI rv,iI vi]
   rw[<-U];obtain⟨k0,k1,kl⟩:=rx.k2;clear U rx hx;go_wp2;go_quiet (fail);go_wp2;go_ret2;exact⟨rfl,Xj.o.drewN _⟩
  ·go_wp2;obtain⟨WB,I⟩:∃WB,WB=w4.alloc (.cells #[.int .i64 0,.int .i64 0,.int .i64 0,.int .i64 0] 97):=⟨_,rfl⟩;obtain⟨x,hx⟩:∃x,x=w4.heap.size:=⟨_,rfl⟩;have E:Hid (Gr w4 WB):=⟨by rw[I];exact(Gr.refl w4).alloc _⟩;have Xu:Hid (Rec WB x 97 [iI 0,iI 0,iI 0,iI 0]):=⟨by rw[I,hx];exact Rec.new w4 97 [iI 0,iI 0,iI 0,iI 0]⟩;rw[<-I,<-hx];have Xh:Hid (w3.heap.size<=x):=⟨by rw[hx];exact Z.o.size⟩;clear I hx;refine⟨AA.of (by rw[V.o];exact Xb.o.trans E.o),?_⟩;refine G9 ?_;go_wp2_with(go_at_call 48;refine(Xo.o _ (E.o)).mono ?_;rintro e w5 ⟨⟨rv,vi,rfl⟩,G⟩;have B:=ι G;clear G);have Y:Hid (Gr w w5):=⟨Xa.o _ _ E.o B.o⟩;have Xi:=Xu;have J:=ι (Xi.o.touch B.o (λe=>by have:=(Xl.o _ e).2;have:=Xh.o;omega));have q0:=J.o.cc 0;have q1:=J.o.cc 1;have q2:=J.o.cc 2;have q3:=J.o.cc 3;have qf:=J.o.free;have ql:=J.o.lt;have Xn:Hid (Gr w ((((w5.setCell ⟨x,0,none⟩ (.int .i64 (na:Nat))).setCell ⟨x,1,none⟩ (.int .i64 (nw:Nat))).setCell ⟨x,2,none⟩ (.int .i64 rv)).setCell ⟨x,3,none⟩ (.int .i64 vi))):=⟨((Y.o.touch (λk=>k=x)).trans ((((((AB.refl (λk=>k=x) w5).setCell (a:=⟨x,0,none⟩) (λ_=>rfl) _).setCell (a:=⟨x,1,none⟩) (λ_=>rfl) _).setCell (a:=⟨x,2,none⟩) (λ_=>rfl) _).setCell (a:=⟨x,3,none⟩) (λ_=>rfl) _)) |>.mono (T:=λ_=>False) (λk hk e=>by have e:k=x:=e;have:=Xh.o;have:=O.o.size;omega)).gr⟩;refine⟨AA.of (by rw[V.o];exact Y.o),?_⟩;refine G9 ?_;go_wp2;refine⟨AA.of (by rw[V.o];exact Xn.o),?_⟩;refine LP ?_;clear q0 q1 q2 q3 qf ql;obtain⟨WX,U⟩:∃WX,WX=(((w5.setCell ⟨x,0,none⟩ (.int .i64 (na:Nat))).setCell ⟨x,1,none⟩ (.int .i64 (nw:Nat))).setCell ⟨x,2,none⟩ (.int .i64 rv)).setCell ⟨x,3,none⟩ (.int .i64 vi):=⟨_,rfl⟩;have Xj:Hid (Gr w WX):=⟨by rw[U];exact Xn.o⟩;have rx:Rec WX x 97 [iI (na:Nat),iI (nw:Nat),iI rv,iI vi]:=by rw[U];exact((((J.o.set 0 (iI (na:Nat))).set 1 (iI (nw:Nat))).set 2 (iI rv)).set 3 (iI vi))
   rw[<-U];obtain⟨k0,k1,kl⟩:=rx.k2;clear U rx;go_wp2;go_quiet (fail);go_wp2;go_ret2;exact⟨rfl,Xj.o.drewN _⟩
 ·go_wp2;obtain⟨WB,I⟩:∃WB,WB=(w3.alloc (.cells #[.int .i64 0,.int .i64 0,.int .i64 0,.int .i64 0] 97)).drew:=⟨_,rfl⟩;obtain⟨x,hx⟩:∃x,x=w3.heap.size:=⟨_,rfl⟩;have E:Hid (Gr w3 WB):=⟨by rw[I];exact((Gr.refl w3).alloc _).drew⟩;have Xu:Hid (Rec WB x 97 [iI 0,iI 0,iI 0,iI 0]):=⟨by rw[I,hx];exact Rec.new w3 97 [iI 0,iI 0,iI 0,iI 0]⟩;rw[<-I,<-hx];have Xh:Hid (w3.heap.size<=x):=⟨by rw[hx];exact ϑ _⟩;clear I hx;refine⟨AA.of (by rw[V.o];exact O.o.trans E.o),?_⟩;refine G9 ?_;go_wp2_with(go_at_call 49;refine(Xf.o _ (O.o.trans E.o)).mono ?_;rintro e w4 ⟨g1,cp,rfl,Xm,Xd,Xg⟩;have Z:Hid (Gr w3 w4):=⟨E.o.trans Xm⟩;have Xs:Hid (w3.heap.size<=g1):=⟨γ E.o.size Xd⟩;have Xq:=ι Xg;have Xi:=ι (Xu.o.gr Xm);clear Xg Xd Xm);have Xo:Hid (∀W,Gr w4 W->Calls prog 48 #[.iface 101 (.agg #[pP ap]),.slice (some ⟨g1,0,none⟩) (s.rs g).length cp,pP m,iI c.st] W λe w'=>(∃r vi:Int,e=.returned (.tuple #[.agg #[iI (na:Nat),iI (nw:Nat),iI r,iI vi],iI 0]))/\AB (AN m b1 b2) W w'):=⟨λW gW=>L.o W (O.o.trans (Z.o.trans gW)) m p1 b1 p2 b2 g1 cp (Xc.o.gr (Z.o.trans gW)) HB.o (CM Xq.o gW) (λe=>by have:=(Xl.o _ e).2;have:=Xs.o;omega)⟩;have Xa:Hid (∀W W2,Gr w4 W->AB (AN m b1 b2) W W2->Gr w W2):=⟨λW W2 g1 t=>Xp.o W W2 (Z.o.trans g1) t⟩;have Xb:Hid (Gr w w4):=⟨O.o.trans Z.o⟩;refine⟨AA.of (by rw[V.o];exact Xb.o),?_⟩;refine G9 ?_;go_wp2_with(go_at_call 48;refine(Xo.o _ (Gr.refl w4)).mono ?_;rintro e w5 ⟨⟨rv,vi,rfl⟩,G⟩;have B:=ι G;clear G);have Y:Hid (Gr w w5):=⟨Xa.o _ _ (Gr.refl w4) B.o⟩;have J:=ι (Xi.o.touch B.o (λe=>by have:=(Xl.o _ e).2;have:=Xh.o;omega));have q0:=J.o.cc 0;have q1:=J.o.cc 1;have q2:=J.o.cc 2;have q3:=J.o.cc 3;have qf:=J.o.free;have ql:=J.o.lt;have Xn:Hid (Gr w ((((w5.setCell ⟨x,0,none⟩ (.int .i64 (na:Nat))).setCell ⟨x,1,none⟩ (.int .i64 (nw:Nat))).setCell ⟨x,2,none⟩ (.int .i64 rv)).setCell ⟨x,3,none⟩ (.int .i64 vi))):=⟨((Y.o.touch (λk=>k=x)).trans ((((((AB.refl (λk=>k=x) w5).setCell (a:=⟨x,0,none⟩) (λ_=>rfl) _).setCell (a:=⟨x,1,none⟩) (λ_=>rfl) _).setCell (a:=⟨x,2,none⟩) (λ_=>rfl) _).setCell (a:=⟨x,3,none⟩) (λ_=>rfl) _)) |>.mono (T:=λ_=>False) (λk hk e=>by have e:k=x:=e;have:=Xh.o;have:=O.o.size;omega)).gr⟩;refine⟨AA.of (by rw[V.o];exact Y.o),?_⟩;refine G9 ?_;go_wp2;refine⟨AA.of (by rw[V.o];exact Xn.o),?_⟩;refine LP ?_;clear q0 q1 q2 q3 qf ql;obtain⟨WX,U⟩:∃WX,WX=(((w5.setCell ⟨x,0,none⟩ (.int .i64 (na:Nat))).setCell ⟨x,1,none⟩ (.int .i64 (nw:Nat))).setCell ⟨x,2,none⟩ (.int .i64 rv)).setCell ⟨x,3,none⟩ (.int .i64 vi):=⟨_,rfl⟩;have Xj:Hid (Gr w WX):=⟨by rw[U];exact Xn.o⟩;have rx:Rec WX x 97 [iI (na:Nat),iI (nw:Nat),iI rv,iI vi]:=by rw[U];exact((((J.o.set 0 (iI (na:Nat))).set 1 (iI (nw:Nat))).set 2 (iI rv)).set 3 (iI vi))
  rw[<-U];obtain⟨k0,k1,kl⟩:=rx.k2;clear U rx;go_wp2;go_quiet (fail);go_wp2;go_ret2;exact⟨rfl,Xj.o.drewN _⟩
end
def HLo(w0:World)(K:Nat->Prop)(c:HCf)(hb:Nat)(w:World)(v:Value)(g':Gph)(e:Ending)(w':World):Prop:=e=.returned v/\AB (hlT w0 K) w w'/\HLv w0 K c hb g' w'
theorem HLv.of_op(h:HLv w0 K c hb g w)(hc:∀s:HSt,s.A.hp=hb->HIn w c g s->(s.o=none↔s.lf=0)->Calls prog f args w λe w'=>e=.returned v/\HOp w c s g' w'):Calls prog f args w (HLo w0 K c hb w v g'):=by
 obtain⟨h1,⟨s,e1,e2,e3,e4⟩,h3⟩:=h;refine(hc s e1 e2 e3).mono ?_;rintro e w' ⟨rfl,s',r,-⟩;exact⟨rfl,HLv.res h1 h3 e1 e4 r⟩
theorem HLv.getW(h:HLv w0 K c hb g w)(a i:Int):Calls prog 65 #[pP hb,iI a,iI i] w (HLo w0 K c hb w (.tuple #[uU (g.fdV a i 3:Nat),iI (g.fdE a i 3)]) g):=h.of_op (λ_ e1 e2 e3=>e1▸J4u e2 e3 a i)
theorem HLv.getF(h:HLv w0 K c hb g w)(a i:Int):Calls prog 64 #[pP hb,iI a,iI i] w (HLo w0 K c hb w (.tuple #[.float .f64 (g.fdV a i 2),iI (g.fdE a i 2)]) g):=h.of_op (λ_ e1 e2 e3=>e1▸QNL e2 e3 a i)
theorem HLv.setW(h:HLv w0 K c hb g w)(a i:Int)(hx:x<18446744073709551616):Calls prog 34 #[pP hb,iI a,iI i,uU x] w (HLo w0 K c hb w (iI (g.fdE a i 3)) (g.wrG a i 3 x)):=h.of_op (λ_ e1 e2 e3=>e1▸Vld e2 e3 a i hx)
theorem HLv.setF(h:HLv w0 K c hb g w)(a i:Int)(hx:x<18446744073709551616):Calls prog 33 #[pP hb,iI a,iI i,.float .f64 x] w (HLo w0 K c hb w (iI (g.fdE a i 2)) (g.wrG a i 2 x)):=h.of_op (λ_ e1 e2 e3=>e1▸Xe2 e2 e3 a i hx)
theorem HLv.load(h:HLv w0 K c hb g w)(a b i:Int):Calls prog 25 #[pP hb,iI a,iI b,iI i] w (HLo w0 K c hb w (iI (g.loE a b i)) (g.loG a b i)):=h.of_op (λ_ e1 e2 e3=>e1▸V9V e2 e3 a b i)
theorem HLv.stor(h:HLv w0 K c hb g w)(a i b:Int):Calls prog 59 #[pP hb,iI a,iI i,iI b] w (HLo w0 K c hb w (iI (g.stE a i b)) (g.stG a i b)):=h.of_op (λ_ e1 e2 e3=>e1▸QmE e2 e3 a i b)
theorem HLv.copy(h:HLv w0 K c hb g w)(a b:Int):Calls prog 60 #[pP hb,iI a,iI b] w (HLo w0 K c hb w (iI (g.two a b 0)) (g.cpG a b)):=h.of_op (λ_ e1 e2 e3=>e1▸Xxc e2 e3 a b)
theorem HLv.clr(h:HLv w0 K c hb g w)(a:Int):Calls prog 23 #[pP hb,iI a] w (HLo w0 K c hb w (iI (g.slE a)) (g.clG a)):=h.of_op (λ_ e1 e2 e3=>e1▸JfK e2 e3 a)
theorem HLv.shap(h:HLv w0 K c hb g w)(a:Int):Calls prog 61 #[pP hb,iI a] w (HLo w0 K c hb w (.tuple #[AJ (g.shH a),iI (g.shE a)]) g):=h.of_op (λ_ e1 e2 e3=>e1▸VcO e2 e3 a)
theorem HLv.allo(h:HLv w0 K c hb g w)(a:Int)(x:Hdr):Calls prog 32 #[pP hb,iI a,AJ x] w (HLo w0 K c hb w (iI (g.alE c.wd a x)) (g.alG c.wd a x)):=h.alloc a x
theorem HLv.coll(h:HLv w0 K c hb g w):Calls prog 52 #[pP hb] w (HLo w0 K c hb w (.tuple #[]) g):=by
 obtain⟨h1,⟨s,e1,e2,e3,e4⟩,h3⟩:=h;have hc:=VO e2 e3;rw[e1]at hc;refine hc.mono ?_;rintro e w' ⟨rfl,s',r,-⟩;exact⟨rfl,HLv.res h1 h3 e1 e4 r⟩
theorem HLv.same0(h:HLv w0 K c hb g w)(v:Value):HLo w0 K c hb w v g (.returned v) w:=⟨rfl,AB.refl _ _,h⟩
theorem HLv.start(h:HLv w0 K c hb g w):Calls prog 53 #[pP hb] w (HLo w0 K c hb w (.tuple #[]) g):=by
 have h':=h;obtain⟨h1,⟨s,e1,e2,e3,e4⟩,h3⟩:=h;by_cases ho:s.o=none
 ·by_cases hk:c.kd=1
  ·have hc:=YE8 e2 ho hk;rw[e1]at hc;refine hc.mono ?_;rintro e w' ⟨rfl,s',r,-⟩;exact⟨rfl,HLv.res h1 h3 e1 e4 r⟩
  ·have hc:=Yyb e2 e3 ho hk;rw[e1]at hc;refine hc.mono ?_;rintro e w' ⟨rfl,s',r,-⟩;exact⟨rfl,HLv.res h1 h3 e1 e4 r⟩
 ·have hc:=JxG e2 ho;rw[e1]at hc;refine hc.mono ?_;rintro e w' ⟨rfl,rfl⟩;exact h'.same0 _
theorem HLv.step(h:HLv w0 K c hb g w):Calls prog 15 #[pP hb] w λe w'=>∃b:Bool,HLo w0 K c hb w (.bool b) g e w':=by
 have h':=h;obtain⟨h1,⟨s,e1,e2,e3,e4⟩,h3⟩:=h;by_cases hl:s.lf=0
 ·have hc:=Z2 e2 e3 hl;rw[e1]at hc;refine hc.mono ?_;rintro e w' ⟨rfl,rfl⟩;exact⟨_,h'.same0 _⟩
 ·have hc:=WK e2 e3 hl;rw[e1]at hc;refine hc.mono ?_;rintro e w' ⟨rfl,s',r,-⟩;exact⟨_,rfl,HLv.res h1 h3 e1 e4 r⟩
theorem HLv.live(h:HLv w0 K c hb g w):Calls prog 19 #[pP hb] w (HLo w0 K c hb w (.tuple #[iI (g.all.length:Nat),iI (g.words:Nat)]) g):=by
 have h':=h;obtain⟨h1,⟨s,e1,e2,e3,e4⟩,h3⟩:=h;have hc:=QLM e2;rw[e1]at hc;refine hc.mono ?_;rintro e w' ⟨rfl,hg⟩;exact⟨rfl,hg.touch _,h'.get hg⟩
section
variable{s:HSt}
theorem HIn.fd_lt(h:HIn w c g s)(a i kd:Int)(hk:kd=2\/kd=3):g.fdV a i kd<18446744073709551616:=by
 unfold Gph.fdV
 split
 ·rename_i he;unfold Gph.fdE at he
  split at he
  ·rename_i h1
   split at he
   ·exact absurd he (by decide)
   ·rename_i h2
    split at he
    ·exact absurd he (by decide)
    ·rename_i h3
     split at he
     ·rename_i h4;have hr:g.Rd (g.at a):=(Gph.at_ro h1).resolve_left h2;have hb:=h.gok.rd hr;obtain⟨hl,hs⟩:=h.gok.len _ (Gph.ob_mem hb.1 hb.2);have hN:CE (g.ob (g.at a)).hdr=1+((g.ob (g.at a)).p:Int)+(g.ob (g.at a)).f+(g.ob (g.at a)).k:=θ (EQ hs);rw[<-h4]at hk;unfold BO at hk;rw[hN]at hk
      split at hk
      ·rename_i h5
       split at hk
       ·omega
       ·rename_i h6;have h6:¬i<((g.ob (g.at a)).p:Int):=h6;have hw:=h.img.wd _ hr i.toNat Ω Ω;have h9:=h.mem.ok.ldV_lt ((s.F (g.at a)+1+i.toNat:Nat):Int);rw[hw.2]at h9;exact h9
      ·omega
     ·exact absurd he (by decide)
  ·exact absurd he (by decide)
 ·decide
theorem HLv.fd_lt(h:HLv w0 K c hb g w)(a i kd:Int)(hk:kd=2\/kd=3):g.fdV a i kd<18446744073709551616:=by
 obtain⟨h1,⟨s,e1,e2,e3,e4⟩,h3⟩:=h;exact e2.fd_lt a i kd hk
end
def quL(hb r a b t d s n:Nat):List Value:=[pP hb,iI r,iI a,iI b,iI t,iI d,iI s,iI n]
structure A8(w0:World)(K:Nat->Prop)(c:HCf)(hb qb r a b t d s n:Nat)(g:Gph)(w:World):Prop where
 hv:HLv w0 K c hb g w
 row:Rec w qb 63 (quL hb r a b t d s n)
 kl:K qb
 ql:w0.heap.size<=qb
 tb:1<w0.heap.size
section
variable{t:Nat}
theorem A8.next(h:A8 w0 K c hb qb r a b t d s n g w)(t':AB (hlT w0 K) w w')(hl:HLv w0 K c hb g' w'):A8 w0 K c hb qb r a b t d s n g' w':=⟨hl,h.row.touch t' (λe=>e.2 h.kl),h.kl,h.ql,h.tb⟩
theorem A8.gr(h:A8 w0 K c hb qb r a b t d s n g w)(gr:Gr w w'):A8 w0 K c hb qb r a b t d s n g w':=⟨h.hv.get gr,h.row.gr gr,h.kl,h.ql,h.tb⟩
theorem A8.nx{e:Ending}(h:A8 w0 K c hb qb r a b t d s n g w)(t':AB (hlT w0 K) wx w)(ho:HLo w0 K c hb w v g' e w'):e=.returned v/\Hid (AB (hlT w0 K) wx w')/\Hid (A8 w0 K c hb qb r a b t d s n g' w')/\w'.cell? ⟨qb,0,none⟩=some (pP hb)/\qb<w'.heap.size:=by
 obtain⟨rfl,ht,hl⟩:=ho;have hq:=h.next ht hl
 exact⟨rfl,⟨t'.trans ht⟩,⟨hq⟩,hq.row.cc 0,hq.row.lt⟩
theorem NJ(h:A8 w0 K c hb qb r a b t d s n g w):cQ 30 #[pP qb] w (.bool false):=by
 have c0:w.cell? ⟨qb,0,none⟩=some (pP hb):=h.row.cc 0;clear h;go_enter func30,ntmps30;go_wp2;go_ret;exact⟨rfl,rfl⟩
theorem FZ(h:A8 w0 K c hb qb r a b t d s n g w){v:Bool}(hv:(g.shE x==0)=v):Calls prog 27 #[pP qb,iI x] w (HLo w0 K c hb w (.bool v) (g)):=by
 have HQ:=ι h;have HT:=ι (AB.refl (hlT w0 K) w);have c0:w.cell? ⟨qb,0,none⟩=some (pP hb):=h.row.cc 0;have cl:=h.row.lt;clear h;unfold HLo;have Y:=ι (λ(V:World) (hV:A8 w0 K c hb qb r a b t d s n g V)=>hV.hv.shap x);unfold AJ at Y;generalize g.shE x=E at Y hv;generalize (g.shH x).p=h1 at Y;generalize (g.shH x).f=h2 at Y;generalize (g.shH x).k=h3 at Y;go_enter func27,ntmps27;go_wp2_with(go_at_call 61;refine(Y.o _ HQ.o).mono ?_;intro e w1 ho;have hn:=HQ.o.nx HT.o ho;clear HT HQ c0 cl ho;obtain⟨rfl,HT,HQ,c0,cl⟩:=hn);go_ret;exact⟨rfl,HT.o.trans (((Gr.refl _).alloc _).touch _),HQ.o.hv.get ((Gr.refl _).alloc _)⟩
theorem TP(h:A8 w0 K c hb qb r a b t d s n g w)(x:Nat):Calls prog 31 #[pP qb,iI x] w (HLo w0 K c hb w (.tuple #[.float .f64 (g.fdV x 2 2),uU (g.fdV x 3 3:Nat)]) (g)):=by
 have HQ:=ι h;have HT:=ι (AB.refl (hlT w0 K) w);have c0:w.cell? ⟨qb,0,none⟩=some (pP hb):=h.row.cc 0;have cl:=h.row.lt;clear h;unfold HLo;have Z:=ι (λ(V:World) (hV:A8 w0 K c hb qb r a b t d s n g V)=>hV.hv.getW x 3);have Y:=ι (λ(V:World) (hV:A8 w0 K c hb qb r a b t d s n g V)=>hV.hv.getF x 2);generalize g.fdV x 3 3=u at Z⊢;generalize g.fdE x 3 3=e1 at Z;generalize g.fdV x 2 2=y at Y⊢;generalize g.fdE x 2 2=e2 at Y;go_enter func31,ntmps31
 go_wp2_with(first
  | (go_at_call 64;refine(Y.o _ HQ.o).mono ?_;intro e w1 ho;have hn:=HQ.o.nx HT.o ho;clear HT HQ c0 cl ho;obtain⟨rfl,HT,HQ,c0,cl⟩:=hn)
  | (go_at_call 65;refine(Z.o _ HQ.o).mono ?_;intro e w1 ho;have hn:=HQ.o.nx HT.o ho;clear HT HQ c0 cl ho;obtain⟨rfl,HT,HQ,c0,cl⟩:=hn))
 go_ret2;exact⟨rfl,HT.o,HQ.o.hv⟩
theorem VvP(x y:Nat)(w:World):cQ 17 #[.float .f64 x,.float .f64 y] w (.bool (x==y)):=by
 have hb:((x:Int)==(y:Int))=(x==y):=by
  cases h:x==y
  ·rw[ζy]at h⊢;omega
  ·rw[ζ1]at h⊢;omega
 go_enter func17,ntmps17;go_wp2_with(go_at_call 18;refine AK (MY _ _) ?_);go_ret;exact⟨rfl,rfl⟩
theorem VHg(h:A8 w0 K c hb qb r a b t d s n g w)(x y:Nat){v:Bool}(hv:MZ g x y=v):Calls prog 62 #[pP qb,iI x,iI y] w (HLo w0 K c hb w (.bool v) (g)):=by
 have HQ:=ι h;have HT:=ι (AB.refl (hlT w0 K) w);have c0:w.cell? ⟨qb,0,none⟩=some (pP hb):=h.row.cc 0;have cl:=h.row.lt;unfold HLo;have HX:=ι (λ(V:World) (hV:A8 w0 K c hb qb r a b t d s n g V)=>TP hV x);have HY:=ι (λ(V:World) (hV:A8 w0 K c hb qb r a b t d s n g V)=>TP hV y);have l1:=h.hv.fd_lt x 2 2 (.inl rfl);have l2:=h.hv.fd_lt y 2 2 (.inl rfl);unfold MZ leQ at hv;dsimp only at hv;generalize g.fdV x 3 3=u at HX hv;generalize g.fdV x 2 2=f at HX hv l1;generalize g.fdV y 3 3=u' at HY hv;generalize g.fdV y 2 2=f' at HY hv l2;have HB:=ι (λW=>ZZy f f' l1 l2 W);have HS:=ι (λW=>VvP f f' W);generalize EL f f'=b1 at HB hv;generalize (f==f')=b2 at HS hv
 have hd:decide ((u:Int)<=(u':Int))=decide (u<=u'):=by
  by_cases h:u<=u'
  ·rw[ξ h,ξ Ω]
  ·rw[ζ h,ζ Ω]
 generalize hd2:decide (u<=u')=b3 at hd hv;clear h l1 l2;cases b1 <;> cases b2 <;> cases b3
 all_goals
  first
   | (obtain rfl:v=true:=hv.symm)
   | (obtain rfl:v=false:=hv.symm)
  clear hv;go_enter func62,ntmps62
  go_wp2_with(first
   | (go_at_call 17;refine AK (HS.o _) ?_)
   | (go_at_call 16;refine AK (HB.o _) ?_)
   | (go_at_call 31;(with_reducible refine(HY.o _ HQ.o).mono ?_);intro e w1 ho;have hn:=HQ.o.nx HT.o ho;clear HT HQ c0 cl ho HX;obtain⟨rfl,HT,HQ,c0,cl⟩:=hn)
   | (go_at_call 31;(with_reducible refine(HX.o _ HQ.o).mono ?_);intro e w1 ho;have hn:=HQ.o.nx HT.o ho;clear HT HQ c0 cl ho;obtain⟨rfl,HT,HQ,c0,cl⟩:=hn))
  go_ret;exact⟨by first|rfl|(rw[hd2];rfl),HT.o,HQ.o.hv⟩
theorem V4R(h:A8 w0 K c hb qb r a b t d s n g w)(x y:Nat):Calls prog 63 #[pP qb,iI x,iI y] w (HLo w0 K c hb w (.tuple #[]) (G0 s x y g)):=by
 have HQ:=ι h;have HT:=ι (AB.refl (hlT w0 K) w);have c0:w.cell? ⟨qb,0,none⟩=some (pP hb):=h.row.cc 0;have cl:=h.row.lt;clear h;unfold HLo;unfold G0;go_enter func63,ntmps63;go_upto_region 0 with(fail);clear c0 cl;obtain⟨Sx,Z,HS⟩:=AA.start λW'=>Rec W' qb 63 (quL hb r a b t d s n);have y0:∀p:AA Sx,p.w.cell? ⟨qb,0,none⟩=some (pP hb):=λp=>by have h:=AA.get Z p;exact h.cc 0
 have y6:∀p:AA Sx,p.w.cell? ⟨qb,6,none⟩=some (iI s):=λp=>by have h:=AA.get Z p;exact h.cc 6
 have Y:=HS.o _ (HQ.o.row.gr (Gr.refl _).drew);have J:Inhabited (AA Sx):=⟨⟨_,Y⟩⟩;clear Z;refine AV Sx 9 [([0,1,2,3,4,5,6,7,8],9)] [] Y ?_;refine AH ?_;go_wp2_with((go_at_call 25;refine((HQ.o.gr (Gr.refl _).drew).hv.load _ _ _).mono ?_;intro e w1 ho;have hn:=(HQ.o.gr (Gr.refl _).drew).nx (HT.o.trans ((Gr.refl _).drew.touch _)) ho;clear HT HQ ho;obtain⟨rfl,HT,HQ,c0,cl⟩:=hn));refine⟨.inl trivial,?_⟩;refine BG ?_;clear y0 y6 Y J;clear HS Sx;go_upto_region 1 with(fail);clear c0 cl;obtain⟨Sx,Z,HS⟩:=AA.start λW'=>Rec W' qb 63 (quL hb r a b t d s n);have y0:∀p:AA Sx,p.w.cell? ⟨qb,0,none⟩=some (pP hb):=λp=>by have h:=AA.get Z p;exact h.cc 0
 have y6:∀p:AA Sx,p.w.cell? ⟨qb,6,none⟩=some (iI s):=λp=>by have h:=AA.get Z p;exact h.cc 6
 have Y:=HS.o _ (HQ.o.row.gr (Gr.refl _).drew);have J:Inhabited (AA Sx):=⟨⟨_,Y⟩⟩;clear Z;refine AV Sx 9 [([0,1,2,3,4,5,6,7,8],9)] [] Y ?_;refine AH ?_;go_wp2_with((go_at_call 59;refine((HQ.o.gr (Gr.refl _).drew).hv.stor _ _ _).mono ?_;intro e w1 ho;have hn:=(HQ.o.gr (Gr.refl _).drew).nx (HT.o.trans ((Gr.refl _).drew.touch _)) ho;clear HT HQ ho;obtain⟨rfl,HT,HQ,c0,cl⟩:=hn));refine⟨.inl trivial,?_⟩;refine BG ?_;clear y0 y6 Y J;clear HS Sx;go_upto_region 3 with(go_at_call 59;refine(HQ.o.hv.stor _ _ _).mono ?_;intro e w1 ho;have hn:=HQ.o.nx HT.o ho;clear HT HQ c0 cl ho;obtain⟨rfl,HT,HQ,c0,cl⟩:=hn);clear c0 cl;obtain⟨Sx,Z,HS⟩:=AA.start λW'=>Rec W' qb 63 (quL hb r a b t d s n);have y0:∀p:AA Sx,p.w.cell? ⟨qb,0,none⟩=some (pP hb):=λp=>by have h:=AA.get Z p;exact h.cc 0
 have y6:∀p:AA Sx,p.w.cell? ⟨qb,6,none⟩=some (iI s):=λp=>by have h:=AA.get Z p;exact h.cc 6
 have Y:=HS.o _ (HQ.o.row.gr (Gr.refl _).drew);have J:Inhabited (AA Sx):=⟨⟨_,Y⟩⟩;clear Z;refine AV Sx 8 [([0,1,2,3,4,5,6,7],8)] [] Y ?_;refine AH ?_;go_wp2_with((go_at_call 23;refine((HQ.o.gr (Gr.refl _).drew).hv.clr _).mono ?_;intro e w1 ho;have hn:=(HQ.o.gr (Gr.refl _).drew).nx (HT.o.trans ((Gr.refl _).drew.touch _)) ho;clear HT HQ ho;obtain⟨rfl,HT,HQ,c0,cl⟩:=hn));refine⟨.inl trivial,?_⟩;refine BG ?_;clear y0 y6 Y J;clear HS Sx;go_wp2
 go_end0
 exact⟨rfl,HT.o,HQ.o.hv⟩
theorem T7(h:A8 w0 K c hb qb r a b t d s n g w)(x y:Nat):Calls prog 29 #[pP qb,iI x,iI y] w (HLo w0 K c hb w (.tuple #[]) (FM s x y g)):=by
 have HQ:=ι h;have HT:=ι (AB.refl (hlT w0 K) w);have c0:w.cell? ⟨qb,0,none⟩=some (pP hb):=h.row.cc 0;have cl:=h.row.lt;clear h;unfold HLo;unfold FM;by_cases hy:g.shE y=0
 ·rw[θ hy];have HY:=ι (show (g.shE y==0)=true from ζ1.2 hy);by_cases hx:g.shE x=0
  ·rw[θ hx];have HX:=ι (show (g.shE x==0)=true from ζ1.2 hx);clear hx hy;cases hq:MZ g x y with
   | true=>
    have HF:=ι hq;clear hq;rw[θ rfl];go_enter func29,ntmps29
    go_wp2_with(first
     | (go_at_call 62;refine(VHg HQ.o x y HF.o).mono ?_;intro e w1 ho;have hn:=HQ.o.nx HT.o ho;clear HT HQ c0 cl ho;obtain⟨rfl,HT,HQ,c0,cl⟩:=hn)
     | (go_at_call 63;refine(V4R HQ.o y x).mono ?_;intro e w1 ho;have hn:=HQ.o.nx HT.o ho;clear HT HQ c0 cl ho;obtain⟨rfl,HT,HQ,c0,cl⟩:=hn)
     | (go_at_call 23;refine(HQ.o.hv.clr _).mono ?_;intro e w1 ho;have hn:=HQ.o.nx HT.o ho;clear HT HQ c0 cl ho;obtain⟨rfl,HT,HQ,c0,cl⟩:=hn)
     | (go_at_call 27;(with_reducible refine(FZ (x:=x) HQ.o HX.o).mono ?_);intro e w1 ho;have hn:=HQ.o.nx HT.o ho;clear HT HQ c0 cl ho;obtain⟨rfl,HT,HQ,c0,cl⟩:=hn)
     | (go_at_call 27;(with_reducible refine(FZ (x:=y) HQ.o HY.o).mono ?_);intro e w1 ho;have hn:=HQ.o.nx HT.o ho;clear HT HQ c0 cl ho;obtain⟨rfl,HT,HQ,c0,cl⟩:=hn))
    go_end0
    exact⟨rfl,HT.o,HQ.o.hv⟩
   | false=>
    have HF:=ι hq;clear hq;rw[φ (by decide)];go_enter func29,ntmps29
    go_wp2_with(first
     | (go_at_call 62;refine(VHg HQ.o x y HF.o).mono ?_;intro e w1 ho;have hn:=HQ.o.nx HT.o ho;clear HT HQ c0 cl ho;obtain⟨rfl,HT,HQ,c0,cl⟩:=hn)
     | (go_at_call 63;refine(V4R HQ.o x y).mono ?_;intro e w1 ho;have hn:=HQ.o.nx HT.o ho;clear HT HQ c0 cl ho;obtain⟨rfl,HT,HQ,c0,cl⟩:=hn)
     | (go_at_call 60;refine(HQ.o.hv.copy _ _).mono ?_;intro e w1 ho;have hn:=HQ.o.nx HT.o ho;clear HT HQ c0 cl ho;obtain⟨rfl,HT,HQ,c0,cl⟩:=hn)
     | (go_at_call 23;refine(HQ.o.hv.clr _).mono ?_;intro e w1 ho;have hn:=HQ.o.nx HT.o ho;clear HT HQ c0 cl ho;obtain⟨rfl,HT,HQ,c0,cl⟩:=hn)
     | (go_at_call 27;(with_reducible refine(FZ (x:=x) HQ.o HX.o).mono ?_);intro e w1 ho;have hn:=HQ.o.nx HT.o ho;clear HT HQ c0 cl ho;obtain⟨rfl,HT,HQ,c0,cl⟩:=hn)
     | (go_at_call 27;(with_reducible refine(FZ (x:=y) HQ.o HY.o).mono ?_);intro e w1 ho;have hn:=HQ.o.nx HT.o ho;clear HT HQ c0 cl ho;obtain⟨rfl,HT,HQ,c0,cl⟩:=hn))
    go_end0
    exact⟨rfl,HT.o,HQ.o.hv⟩
  ·rw[φ hx];have HX:=ι (show (g.shE x==0)=false from ζy.2 hx);clear hx hy;go_enter func29,ntmps29
   go_wp2_with(first
    | (go_at_call 60;refine(HQ.o.hv.copy _ _).mono ?_;intro e w1 ho;have hn:=HQ.o.nx HT.o ho;clear HT HQ c0 cl ho;obtain⟨rfl,HT,HQ,c0,cl⟩:=hn)
    | (go_at_call 23;refine(HQ.o.hv.clr _).mono ?_;intro e w1 ho;have hn:=HQ.o.nx HT.o ho;clear HT HQ c0 cl ho;obtain⟨rfl,HT,HQ,c0,cl⟩:=hn)
    | (go_at_call 27;(with_reducible refine(FZ (x:=x) HQ.o HX.o).mono ?_);intro e w1 ho;have hn:=HQ.o.nx HT.o ho;clear HT HQ c0 cl ho;obtain⟨rfl,HT,HQ,c0,cl⟩:=hn)
    | (go_at_call 27;(with_reducible refine(FZ (x:=y) HQ.o HY.o).mono ?_);intro e w1 ho;have hn:=HQ.o.nx HT.o ho;clear HT HQ c0 cl ho;obtain⟨rfl,HT,HQ,c0,cl⟩:=hn))
   go_end0
   exact⟨rfl,HT.o,HQ.o.hv⟩
 ·rw[φ hy];have HY:=ι (show (g.shE y==0)=false from ζy.2 hy);clear hy;go_enter func29,ntmps29
  go_wp2_with(first
   | (go_at_call 23;refine(HQ.o.hv.clr _).mono ?_;intro e w1 ho;have hn:=HQ.o.nx HT.o ho;clear HT HQ c0 cl ho;obtain⟨rfl,HT,HQ,c0,cl⟩:=hn)
   | (go_at_call 27;(with_reducible refine(FZ (x:=y) HQ.o HY.o).mono ?_);intro e w1 ho;have hn:=HQ.o.nx HT.o ho;clear HT HQ c0 cl ho;obtain⟨rfl,HT,HQ,c0,cl⟩:=hn))
  go_end0
  exact⟨rfl,HT.o,HQ.o.hv⟩
theorem WZ(h:A8 w0 K c hb qb r a b t d s n g w)(x y:Nat):Calls prog 28 #[pP qb,iI x,iI y] w (HLo w0 K c hb w (.tuple #[]) (DE s x y g)):=by
 have HQ:=ι h;have HT:=ι (AB.refl (hlT w0 K) w);have c0:w.cell? ⟨qb,0,none⟩=some (pP hb):=h.row.cc 0;have cl:=h.row.lt;clear h;unfold HLo;unfold DE;by_cases hy:(g.cpG x y).shE y=0
 ·rw[θ hy];have HY:=ι (show ((g.cpG x y).shE y==0)=true from ζ1.2 hy);clear hy;go_enter func28,ntmps28
  go_upto_region 3 with(first
   | (go_at_call 27;refine(FZ HQ.o HY.o).mono ?_;intro e w1 ho;have hn:=HQ.o.nx HT.o ho;clear HT HQ c0 cl ho;obtain⟨rfl,HT,HQ,c0,cl⟩:=hn)
   | (go_at_call 60;refine(HQ.o.hv.copy _ _).mono ?_;intro e w1 ho;have hn:=HQ.o.nx HT.o ho;clear HT HQ c0 cl ho;obtain⟨rfl,HT,HQ,c0,cl⟩:=hn)
   | (go_at_call 25;refine(HQ.o.hv.load _ _ _).mono ?_;intro e w1 ho;have hn:=HQ.o.nx HT.o ho;clear HT HQ c0 cl ho;obtain⟨rfl,HT,HQ,c0,cl⟩:=hn))
  clear c0 cl;obtain⟨Sx,Z,HS⟩:=AA.start λW'=>Rec W' qb 63 (quL hb r a b t d s n);have y0:∀p:AA Sx,p.w.cell? ⟨qb,0,none⟩=some (pP hb):=λp=>by have h:=AA.get Z p;exact h.cc 0
  have y6:∀p:AA Sx,p.w.cell? ⟨qb,6,none⟩=some (iI s):=λp=>by have h:=AA.get Z p;exact h.cc 6
  have Y:=HS.o _ (HQ.o.row.gr (Gr.refl _).drew);have J:Inhabited (AA Sx):=⟨⟨_,Y⟩⟩;clear Z;refine AV Sx 8 [([0,1,2,3,4,5,6,7],8)] [] Y ?_;refine AH ?_;go_wp2_with((go_at_call 23;refine((HQ.o.gr (Gr.refl _).drew).hv.clr _).mono ?_;intro e w1 ho;have hn:=(HQ.o.gr (Gr.refl _).drew).nx (HT.o.trans ((Gr.refl _).drew.touch _)) ho;clear HT HQ ho;obtain⟨rfl,HT,HQ,c0,cl⟩:=hn));refine⟨.inl trivial,?_⟩;refine BG ?_;clear y0 y6 Y J;clear HS Sx;go_upto_region 4 with(fail);clear c0 cl;obtain⟨Sx,Z,HS⟩:=AA.start λW'=>Rec W' qb 63 (quL hb r a b t d s n);have y0:∀p:AA Sx,p.w.cell? ⟨qb,0,none⟩=some (pP hb):=λp=>by have h:=AA.get Z p;exact h.cc 0
  have y6:∀p:AA Sx,p.w.cell? ⟨qb,6,none⟩=some (iI s):=λp=>by have h:=AA.get Z p;exact h.cc 6
  have Y:=HS.o _ (HQ.o.row.gr (Gr.refl _).drew);have J:Inhabited (AA Sx):=⟨⟨_,Y⟩⟩;clear Z;refine AV Sx 9 [([0,1,2,3,4,5,6,7,8],9)] [] Y ?_;refine AH ?_;go_wp2_with((go_at_call 59;refine((HQ.o.gr (Gr.refl _).drew).hv.stor _ _ _).mono ?_;intro e w1 ho;have hn:=(HQ.o.gr (Gr.refl _).drew).nx (HT.o.trans ((Gr.refl _).drew.touch _)) ho;clear HT HQ ho;obtain⟨rfl,HT,HQ,c0,cl⟩:=hn));refine⟨.inl trivial,?_⟩;refine BG ?_;clear y0 y6 Y J;clear HS Sx;go_wp2
  go_end0
  exact⟨rfl,HT.o,HQ.o.hv⟩
 ·rw[φ hy];have HY:=ι (show ((g.cpG x y).shE y==0)=false from ζy.2 hy);clear hy;go_enter func28,ntmps28
  go_wp2_with(first
   | (go_at_call 27;refine(FZ HQ.o HY.o).mono ?_;intro e w1 ho;have hn:=HQ.o.nx HT.o ho;clear HT HQ c0 cl ho;obtain⟨rfl,HT,HQ,c0,cl⟩:=hn)
   | (go_at_call 60;refine(HQ.o.hv.copy _ _).mono ?_;intro e w1 ho;have hn:=HQ.o.nx HT.o ho;clear HT HQ c0 cl ho;obtain⟨rfl,HT,HQ,c0,cl⟩:=hn))
  first|go_end0|(refine ζF (ζk rfl _ _ _) rfl ?_)
  exact⟨rfl,HT.o,HQ.o.hv⟩
theorem YXv(x0 x1 x2 x3 x4:Nat)(hk:k<5)(V:World):(Instr.index 30 (.agg #[iI x0,iI x1,iI x2,iI x3,iI x4]) (iI k)).run prog V=.ok (iI ([x0,x1,x2,x3,x4].getD k 0:Nat)) V:=by
 rcases(by omega:k=0\/k=1\/k=2\/k=3\/k=4)with rfl|rfl|rfl|rfl|rfl <;> kernel_rfl
def NM(g:Gph)(l:List Nat):Gph:=l.foldl (λg (j:Nat)=>g.clG (j:Int)) g
theorem YSK(g:Gph)(l:List Nat)(hk:k<l.length):NM g (l.take (k+1))=(NM g (l.take k)).clG (l.getD k 0):=by
 unfold NM;rw[ζY hk,List.foldl_append,β,ω hk];rfl
theorem XI(h:A8 w0 K c hb qb r a b t d s n g w):Calls prog 24 #[pP qb] w (HLo w0 K c hb w (.tuple #[]) (GP a b t d s g)):=by
 have HQ:=ι h;have HT:=ι (AB.refl (hlT w0 K) w);have c0:w.cell? ⟨qb,0,none⟩=some (pP hb):=h.row.cc 0;have cl:=h.row.lt;have c2:w.cell? ⟨qb,2,none⟩=some (iI a):=h.row.cc 2;have c3:w.cell? ⟨qb,3,none⟩=some (iI b):=h.row.cc 3;have c4:w.cell? ⟨qb,4,none⟩=some (iI t):=h.row.cc 4;have c5:w.cell? ⟨qb,5,none⟩=some (iI d):=h.row.cc 5;have c6:w.cell? ⟨qb,6,none⟩=some (iI s):=h.row.cc 6;clear h;unfold HLo;rw[show GP a b t d s g=NM g [a,b,t,d,s]from rfl];go_enter func24,ntmps24;go_wp2;go_quiet (fail);clear c2 c3 c4 c5 c6
 replace HQ:=ι (HQ.o.gr ((Gr.refl w).drewN nq))
 replace HT:=ι (HT.o.trans (((Gr.refl w).drewN nq).touch _))
 have J:=ι (λk (hk:k<5) V=>YXv a b t d s hk V);go_wp2
 go_loopw [25] (λs25 wr=>∃k:Nat,k<=5/\s25=iI k/\Hid (A8 w0 K c hb qb r a b t d s n (NM g ([a,b,t,d,s].take k)) wr)/\Hid (AB (hlT w0 K) w wr)) (λs25 _=>5-(intOf s25).toNat)
 case atStart=>exact⟨0,by omega,rfl,HQ,HT⟩
 case round=>
  clear HQ HT c0 cl;obtain⟨k,hk,rfl,HQ,HT⟩:=hrel;have c0:wr.cell? ⟨qb,0,none⟩=some (pP hb):=HQ.o.row.cc 0;have cl:=HQ.o.row.lt;by_cases Y:k<5
  ·have hkI:(k:Int)<5:=Ω
   have Z:=J.o k Y;have HS:=ι (YSK g [a,b,t,d,s] (k:=k) Y);generalize [a,b,t,d,s].getD k 0=j at Z HS;clear hk Y;go_wp2_with(go_at_call 23;refine(HQ.o.hv.clr _).mono ?_;intro e w1 ho;have hn:=HQ.o.nx HT.o ho;clear HT HQ c0 cl ho;obtain⟨rfl,HT,HQ,c0,cl⟩:=hn);rw[<-HS.o]at HQ;go_round
   case rel=>exact⟨k+1,by omega,by go_num,HQ,HT⟩
   case measure=>simp[intOf];omega
  ·obtain rfl:k=5:=Ω
   clear Y hk;go_wp2
   go_end0
   exact⟨rfl,HT.o,HQ.o.hv⟩
end
section
variable{t:Nat}{T D R:BT}
theorem A8.cnt(h:A8 w0 K c hb qb r a b t d s n g w)(n':Nat):A8 w0 K c hb qb r a b t d s n' g (w.setCell ⟨qb,7,none⟩ (.int .i64 n')):=by
 have t1:=(AB.refl (λk=>k=qb) w).setCell (a:=⟨qb,7,none⟩) (λ_=>rfl) (iI n');exact⟨h.hv.touch (t1.mono (λk _ e=>by rw[e];exact⟨h.kl,h.ql⟩)) h.tb,h.row.set 7 _,h.kl,h.ql,h.tb⟩
theorem JmJ(h:A8 w0 K c hb qb r a b t d s n g w)(hp:PrG g r a b t d s T D):Calls prog 26 #[pP qb] w λe w'=>∃g' D',PrG g' r a b t d s .nil D'/\D'.its.Perm (T.its++D.its)/\HLo w0 K c hb w (.tuple #[]) g' e w':=by
 have HQ:=ι h;have HT:=ι (AB.refl (hlT w0 K) w);have c0:w.cell? ⟨qb,0,none⟩=some (pP hb):=h.row.cc 0;have cl:=h.row.lt;clear h;have HP:=ι hp;have HI:=ι (List.Perm.refl (T.its++D.its));clear hp;go_enter func26,ntmps26;go_wp2
 go_loopg [] T.ids.length (λm wr=>∃(g1:Gph) (T1 D1:BT),Hid (T1.ids.length=m)/\Hid (A8 w0 K c hb qb r a b t d s n g1 wr)/\Hid (AB (hlT w0 K) w wr)/\Hid (PrG g1 r a b t d s T1 D1)/\Hid ((T1.its++D1.its).Perm (T.its++D.its)))
 case atStart=>exact⟨g,T,D,⟨rfl⟩,HQ,HT,HP,HI⟩
 case round=>
  clear HQ HT HP HI c0 cl;obtain⟨g1,T1,D1,HN,HQ,HT,HP,HI⟩:=hrel;have c0:wr.cell? ⟨qb,0,none⟩=some (pP hb):=HQ.o.row.cc 0;have c4:wr.cell? ⟨qb,4,none⟩=some (iI t):=HQ.o.row.cc 4;have cl:=HQ.o.row.lt;have U:=KZ (HP.o.q.lt t (by simp));by_cases hz:g1.sv t=0
  ·rw[hz,θ rfl]at U;have HS:=ι (show (g1.shE t==0)=false by rw[U];rfl);have HE:=ι (HP.o.t.rep.top0.1 (HP.o.t.sv.symm.trans hz));clear hz U;go_wp2_with(go_at_call 27;(with_reducible refine(FZ (x:=t) HQ.o HS.o).mono ?_);intro e w1 ho;have hn:=HQ.o.nx HT.o ho;clear HT HQ c0 cl ho c4;obtain⟨rfl,HT,HQ,c0,cl⟩:=hn)
   first|go_end0|(refine ζF (ζk rfl _ _ _) rfl ?_)
   have hp:=HP.o;have hi:=HI.o;rw[HE.o]at hp hi;exact⟨g1,D1,hp,hi,rfl,HT.o,HQ.o.hv⟩
  ·rw[φ hz]at U;have HS:=ι (show (g1.shE t==0)=true by rw[U];rfl)
   have V:Hid (∃T2 D2,T2.ids.length<gk/\PrG (Q7 a b t d s g1) r a b t d s T2 D2/\(T2.its++D2.its).Perm (T.its++D.its)):=⟨by
    obtain⟨T2,D2,q1,q2,q3,q4,q5⟩:=HP.o.step hz
    exact⟨T2,D2,by rw[<-HN.o];exact q1,q2,q4.trans HI.o⟩⟩
   clear hz U HP HI HN;go_upto_region 1 with(go_at_call 27;(with_reducible refine(FZ (x:=t) HQ.o HS.o).mono ?_);intro e w1 ho;have hn:=HQ.o.nx HT.o ho;clear HT HQ c0 cl ho c4;obtain⟨rfl,HT,HQ,c0,cl⟩:=hn);clear c0 cl;obtain⟨Sx,Y,HS⟩:=AA.start λW'=>Rec W' qb 63 (quL hb r a b t d s n);have y2:∀p:AA Sx,p.w.cell? ⟨qb,2,none⟩=some (iI a):=λp=>by have h:=AA.get Y p;exact h.cc 2
   have y4:∀p:AA Sx,p.w.cell? ⟨qb,4,none⟩=some (iI t):=λp=>by have h:=AA.get Y p;exact h.cc 4
   have Z:=HS.o _ (HQ.o.row.gr (Gr.refl _).drew);have J:Inhabited (AA Sx):=⟨⟨_,Z⟩⟩;clear Y;refine AV Sx 9 [([0,1,2,3,4,5,6,7,8],9)] [] Z ?_;refine AH ?_;go_wp2_with((go_at_call 28;refine(WZ (HQ.o.gr (Gr.refl _).drew) a t).mono ?_;intro e w1 ho;have hn:=(HQ.o.gr (Gr.refl _).drew).nx (HT.o.trans ((Gr.refl _).drew.touch _)) ho;clear HT HQ ho;obtain⟨rfl,HT,HQ,c0,cl⟩:=hn));refine⟨.inl trivial,?_⟩;refine BG ?_;clear y2 y4 Z J;clear HS Sx;go_upto_region 2 with(fail);clear c0 cl;obtain⟨Sx,Y,HS⟩:=AA.start λW'=>Rec W' qb 63 (quL hb r a b t d s n);have y3:∀p:AA Sx,p.w.cell? ⟨qb,3,none⟩=some (iI b):=λp=>by have h:=AA.get Y p;exact h.cc 3
   have y4:∀p:AA Sx,p.w.cell? ⟨qb,4,none⟩=some (iI t):=λp=>by have h:=AA.get Y p;exact h.cc 4
   have Z:=HS.o _ (HQ.o.row.gr (Gr.refl _).drew);have J:Inhabited (AA Sx):=⟨⟨_,Z⟩⟩;clear Y;refine AV Sx 9 [([0,1,2,3,4,5,6,7,8],9)] [] Z ?_;refine AH ?_;go_wp2_with((go_at_call 28;refine(WZ (HQ.o.gr (Gr.refl _).drew) b t).mono ?_;intro e w1 ho;have hn:=(HQ.o.gr (Gr.refl _).drew).nx (HT.o.trans ((Gr.refl _).drew.touch _)) ho;clear HT HQ ho;obtain⟨rfl,HT,HQ,c0,cl⟩:=hn));refine⟨.inl trivial,?_⟩;refine BG ?_;clear y3 y4 Z J;clear HS Sx;go_upto_region 3 with(fail);clear c0 cl;obtain⟨Sx,Y,HS⟩:=AA.start λW'=>Rec W' qb 63 (quL hb r a b t d s n);have y2:∀p:AA Sx,p.w.cell? ⟨qb,2,none⟩=some (iI a):=λp=>by have h:=AA.get Y p;exact h.cc 2
   have y3:∀p:AA Sx,p.w.cell? ⟨qb,3,none⟩=some (iI b):=λp=>by have h:=AA.get Y p;exact h.cc 3
   have Z:=HS.o _ (HQ.o.row.gr (Gr.refl _).drew);have J:Inhabited (AA Sx):=⟨⟨_,Z⟩⟩;clear Y;refine AV Sx 9 [([0,1,2,3,4,5,6,7,8],9)] [] Z ?_;refine AH ?_;go_wp2_with((go_at_call 29;refine(T7 (HQ.o.gr (Gr.refl _).drew) a b).mono ?_;intro e w1 ho;have hn:=(HQ.o.gr (Gr.refl _).drew).nx (HT.o.trans ((Gr.refl _).drew.touch _)) ho;clear HT HQ ho;obtain⟨rfl,HT,HQ,c0,cl⟩:=hn));refine⟨.inl trivial,?_⟩;refine BG ?_;clear y2 y3 Z J;clear HS Sx;go_upto_region 4 with(fail);clear c0 cl;obtain⟨Sx,Y,HS⟩:=AA.start λW'=>Rec W' qb 63 (quL hb r a b t d s n);have y0:∀p:AA Sx,p.w.cell? ⟨qb,0,none⟩=some (pP hb):=λp=>by have h:=AA.get Y p;exact h.cc 0
   have y2:∀p:AA Sx,p.w.cell? ⟨qb,2,none⟩=some (iI a):=λp=>by have h:=AA.get Y p;exact h.cc 2
   have y5:∀p:AA Sx,p.w.cell? ⟨qb,5,none⟩=some (iI d):=λp=>by have h:=AA.get Y p;exact h.cc 5
   have Z:=HS.o _ (HQ.o.row.gr (Gr.refl _).drew);have J:Inhabited (AA Sx):=⟨⟨_,Z⟩⟩;clear Y;refine AV Sx 12 [([0,1,2,3,4,5,6,7,8,9,10,11],12)] [] Z ?_;refine AH ?_;go_wp2_with((go_at_call 59;refine((HQ.o.gr (Gr.refl _).drew).hv.stor _ _ _).mono ?_;intro e w1 ho;have hn:=(HQ.o.gr (Gr.refl _).drew).nx (HT.o.trans ((Gr.refl _).drew.touch _)) ho;clear HT HQ ho;obtain⟨rfl,HT,HQ,c0,cl⟩:=hn));refine⟨.inl trivial,?_⟩;refine BG ?_;clear y0 y2 y5 Z J;clear HS Sx;go_upto_region 5 with(fail);clear c0 cl;obtain⟨Sx,Y,HS⟩:=AA.start λW'=>Rec W' qb 63 (quL hb r a b t d s n);have y0:∀p:AA Sx,p.w.cell? ⟨qb,0,none⟩=some (pP hb):=λp=>by have h:=AA.get Y p;exact h.cc 0
   have y2:∀p:AA Sx,p.w.cell? ⟨qb,2,none⟩=some (iI a):=λp=>by have h:=AA.get Y p;exact h.cc 2
   have y5:∀p:AA Sx,p.w.cell? ⟨qb,5,none⟩=some (iI d):=λp=>by have h:=AA.get Y p;exact h.cc 5
   have Z:=HS.o _ (HQ.o.row.gr (Gr.refl _).drew);have J:Inhabited (AA Sx):=⟨⟨_,Z⟩⟩;clear Y;refine AV Sx 12 [([0,1,2,3,4,5,6,7,8,9,10,11],12)] [] Z ?_;refine AH ?_;go_wp2_with((go_at_call 60;refine((HQ.o.gr (Gr.refl _).drew).hv.copy _ _).mono ?_;intro e w1 ho;have hn:=(HQ.o.gr (Gr.refl _).drew).nx (HT.o.trans ((Gr.refl _).drew.touch _)) ho;clear HT HQ ho;obtain⟨rfl,HT,HQ,c0,cl⟩:=hn));refine⟨.inl trivial,?_⟩;refine BG ?_;clear y0 y2 y5 Z J;clear HS Sx;go_wp2;obtain⟨T2,D2,O,hp,hi⟩:=V.o
   go_roundg T2.ids.length
   case measure=>exact O
   case rel=>exact⟨_,T2,D2,⟨rfl⟩,HQ,HT,⟨hp⟩,⟨hi⟩⟩
theorem Y7Q(h:A8 w0 K c hb qb r a b t d s n g w)(hx:x<18446744073709551616)(hy:y<18446744073709551616)(hn:n<=1000000)(he:g.alE c.wd a ⟨2,1,1⟩=0):Calls prog 9 #[pP qb,.float .f64 x,uU y] w λe w'=>e=.returned (iI 0)/\AB (λk=>hlT w0 K k\/k=qb) w w'/\A8 w0 K c hb qb r a b t d s (n+1) (GP a b t d s (FM s r a (TU a c.wd x y g))) w':=by
 have HQ:=ι h;have HT:=ι (AB.refl (hlT w0 K) w);have c0:w.cell? ⟨qb,0,none⟩=some (pP hb):=h.row.cc 0;have cl:=h.row.lt;clear h;have HX:=ι hx;have HY:=ι hy;have U:=ι (λ(V:World) (hV:A8 w0 K c hb qb r a b t d s n g V)=>hV.hv.allo a ⟨2,1,1⟩);unfold AJ at U;dsimp only at U;rw[he]at U;clear he hx hy;go_enter func9,ntmps9;go_upto_region 3 with(go_at_call 30;refine AK (NJ HQ.o) ?_);clear c0 cl;obtain⟨Sx,Z,HS⟩:=AA.start λW'=>Rec W' qb 63 (quL hb r a b t d s n);have y0:∀p:AA Sx,p.w.cell? ⟨qb,0,none⟩=some (pP hb):=λp=>by have h:=AA.get Z p;exact h.cc 0
 have y2:∀p:AA Sx,p.w.cell? ⟨qb,2,none⟩=some (iI a):=λp=>by have h:=AA.get Z p;exact h.cc 2
 have Y:=HS.o _ (HQ.o.row.gr (Gr.refl _).drew);have J:Inhabited (AA Sx):=⟨⟨_,Y⟩⟩;clear Z;refine AV Sx 11 [([0,1,2,3,4,5,6,7,8],9)] [10] Y ?_;refine AH ?_;go_wp2_with((go_at_call 32;refine(U.o _ (HQ.o.gr (Gr.refl _).drew)).mono ?_;intro e w1 ho;have hn:=(HQ.o.gr (Gr.refl _).drew).nx (HT.o.trans ((Gr.refl _).drew.touch _)) ho;clear HT HQ ho;obtain⟨rfl,HT,HQ,c0,cl⟩:=hn));refine⟨.inr (AA.of (HS.o _ (HQ.o.row))),?_⟩;refine BG ?_;clear y0 y2 Y J;clear HS Sx;go_upto_region 6 with(fail);clear c0 cl;obtain⟨Sx,Z,HS⟩:=AA.start λW'=>Rec W' qb 63 (quL hb r a b t d s n);have y0:∀p:AA Sx,p.w.cell? ⟨qb,0,none⟩=some (pP hb):=λp=>by have h:=AA.get Z p;exact h.cc 0
 have y2:∀p:AA Sx,p.w.cell? ⟨qb,2,none⟩=some (iI a):=λp=>by have h:=AA.get Z p;exact h.cc 2
 have Y:=HS.o _ (HQ.o.row.gr (Gr.refl _).drew);have J:Inhabited (AA Sx):=⟨⟨_,Y⟩⟩;clear Z;refine AV Sx 9 [([0,1,2,3,4,5,6,7,8],9)] [] Y ?_;refine AH ?_;go_wp2_with((go_at_call 33;refine((HQ.o.gr (Gr.refl _).drew).hv.setF _ _ HX.o).mono ?_;intro e w1 ho;have hn:=(HQ.o.gr (Gr.refl _).drew).nx (HT.o.trans ((Gr.refl _).drew.touch _)) ho;clear HT HQ ho;obtain⟨rfl,HT,HQ,c0,cl⟩:=hn));refine⟨.inl trivial,?_⟩;refine BG ?_;clear y0 y2 Y J;clear HS Sx;go_upto_region 7 with(fail);clear c0 cl;obtain⟨Sx,Z,HS⟩:=AA.start λW'=>Rec W' qb 63 (quL hb r a b t d s n);have y0:∀p:AA Sx,p.w.cell? ⟨qb,0,none⟩=some (pP hb):=λp=>by have h:=AA.get Z p;exact h.cc 0
 have y2:∀p:AA Sx,p.w.cell? ⟨qb,2,none⟩=some (iI a):=λp=>by have h:=AA.get Z p;exact h.cc 2
 have Y:=HS.o _ (HQ.o.row.gr (Gr.refl _).drew);have J:Inhabited (AA Sx):=⟨⟨_,Y⟩⟩;clear Z;refine AV Sx 9 [([0,1,2,3,4,5,6,7,8],9)] [] Y ?_;refine AH ?_;go_wp2_with((go_at_call 34;refine((HQ.o.gr (Gr.refl _).drew).hv.setW _ _ HY.o).mono ?_;intro e w1 ho;have hn:=(HQ.o.gr (Gr.refl _).drew).nx (HT.o.trans ((Gr.refl _).drew.touch _)) ho;clear HT HQ ho;obtain⟨rfl,HT,HQ,c0,cl⟩:=hn));refine⟨.inl trivial,?_⟩;refine BG ?_;clear y0 y2 Y J;clear HS Sx;go_upto_region 8 with(fail);clear c0 cl;obtain⟨Sx,Z,HS⟩:=AA.start λW'=>Rec W' qb 63 (quL hb r a b t d s n);have y1:∀p:AA Sx,p.w.cell? ⟨qb,1,none⟩=some (iI r):=λp=>by have h:=AA.get Z p;exact h.cc 1
 have y2:∀p:AA Sx,p.w.cell? ⟨qb,2,none⟩=some (iI a):=λp=>by have h:=AA.get Z p;exact h.cc 2
 have Y:=HS.o _ (HQ.o.row.gr (Gr.refl _).drew);have J:Inhabited (AA Sx):=⟨⟨_,Y⟩⟩;clear Z;refine AV Sx 9 [([0,1,2,3,4,5,6,7,8],9)] [] Y ?_;refine AH ?_;go_wp2_with((go_at_call 29;refine(T7 (HQ.o.gr (Gr.refl _).drew) r a).mono ?_;intro e w1 ho;have hn:=(HQ.o.gr (Gr.refl _).drew).nx (HT.o.trans ((Gr.refl _).drew.touch _)) ho;clear HT HQ ho;obtain⟨rfl,HT,HQ,c0,cl⟩:=hn));refine⟨.inl trivial,?_⟩;refine BG ?_;clear y1 y2 Y J;clear HS Sx;go_upto_region 10 with(go_at_call 24;refine(XI HQ.o).mono ?_;intro e w1 ho;have hn:=HQ.o.nx HT.o ho;clear HT HQ c0 cl ho;obtain⟨rfl,HT,HQ,c0,cl⟩:=hn);have c7:w1.cell? ⟨qb,7,none⟩=some (iI n):=HQ.o.row.cc 7;have cf:=HQ.o.row.free 7;go_wp2;go_ret;have e7:((n:Int)+1)=((n+1:Nat):Int):=Ω
 exact⟨rfl,HT.o.mono (λ_ _ h=>.inl h) |>.trans ((AB.refl (λk=>hlT w0 K k\/k=qb) w1).setCell (a:=⟨qb,7,none⟩) (λ_=>.inr rfl) _),by rw[e7];exact HQ.o.cnt (n+1)⟩
theorem QMN(h:A8 w0 K c hb qb r a b t d s n g w)(hx:x<18446744073709551616)(hy:y<18446744073709551616)(he:¬g.alE c.wd a ⟨2,1,1⟩=0):Calls prog 9 #[pP qb,.float .f64 x,uU y] w λe w'=>e=.returned (iI (g.alE c.wd a ⟨2,1,1⟩))/\AB (hlT w0 K) w w'/\A8 w0 K c hb qb r a b t d s n g w':=by
 have HQ:=ι h;have HT:=ι (AB.refl (hlT w0 K) w);have c0:w.cell? ⟨qb,0,none⟩=some (pP hb):=h.row.cc 0;have cl:=h.row.lt;clear h;have HX:=ι hx;have HY:=ι hy;have Y:=ι (λ(V:World) (hV:A8 w0 K c hb qb r a b t d s n g V)=>hV.hv.allo a ⟨2,1,1⟩);unfold AJ at Y;dsimp only at Y;have U:Hid (g.alG c.wd a ⟨2,1,1⟩=g):=⟨by unfold Gph.alG;rw[φ he]⟩;rw[U.o]at Y;have d0:(g.alE c.wd a ⟨2,1,1⟩ !=0)=true:=by rw[ψn];exact he
 generalize g.alE c.wd a ⟨2,1,1⟩=E at Y d0⊢;clear he hx hy U;go_enter func9,ntmps9;go_upto_region 3 with(go_at_call 30;refine AK (NJ HQ.o) ?_);clear c0 cl;obtain⟨Sx,Z,HS⟩:=AA.start λW'=>Rec W' qb 63 (quL hb r a b t d s n);have y0:∀p:AA Sx,p.w.cell? ⟨qb,0,none⟩=some (pP hb):=λp=>by have h:=AA.get Z p;exact h.cc 0
 have y2:∀p:AA Sx,p.w.cell? ⟨qb,2,none⟩=some (iI a):=λp=>by have h:=AA.get Z p;exact h.cc 2
 have J:=HS.o _ (HQ.o.row.gr (Gr.refl _).drew);have O:Inhabited (AA Sx):=⟨⟨_,J⟩⟩;clear Z;refine AV Sx 11 [([0,1,2,3,4,5,6,7,8],9)] [10] J ?_;refine AH ?_;go_wp2_with((go_at_call 32;refine(Y.o _ (HQ.o.gr (Gr.refl _).drew)).mono ?_;intro e w1 ho;have hn:=(HQ.o.gr (Gr.refl _).drew).nx (HT.o.trans ((Gr.refl _).drew.touch _)) ho;clear HT HQ ho;obtain⟨rfl,HT,HQ,c0,cl⟩:=hn));refine⟨.inr (AA.of (HS.o _ (HQ.o.row))),?_⟩;refine BG ?_;clear y0 y2 J O;clear HS Sx;go_wp2;go_ret;exact⟨rfl,HT.o,HQ.o⟩
theorem VPx(h:A8 w0 K c hb qb r a b t d s n g w):cQ 11 #[pP qb] w (iI n):=by
 have HQ:=ι h;have c7:w.cell? ⟨qb,7,none⟩=some (iI n):=h.row.cc 7;have cl:=h.row.lt;clear h;go_enter func11,ntmps11;go_wp2_with(go_at_call 30;refine AK (NJ HQ.o) ?_);go_ret;exact⟨rfl,rfl⟩
theorem YN(h:A8 w0 K c hb qb r a b t d s 0 g w):cQ 8 #[pP qb] w (.tuple #[.float .f64 0,uU 0,iI 6]):=by
 have HQ:=ι h;have c7:w.cell? ⟨qb,7,none⟩=some (iI 0):=h.row.cc 7;have cl:=h.row.lt;clear h;go_enter func8,ntmps8;go_wp2_with(go_at_call 30;refine AK (NJ HQ.o) ?_)
 go_ret3
 exact⟨rfl,rfl⟩
theorem QnW(h:A8 w0 K c hb qb r a b t d s n g w)(hn:n≠0):Calls prog 8 #[pP qb] w (HLo w0 K c hb w (.tuple #[.float .f64 (g.fdV r 2 2),uU (g.fdV r 3 3:Nat),iI 0]) (g)):=by
 have HQ:=ι h;have HT:=ι (AB.refl (hlT w0 K) w);have c0:w.cell? ⟨qb,0,none⟩=some (pP hb):=h.row.cc 0;have cl:=h.row.lt;have c1:w.cell? ⟨qb,1,none⟩=some (iI r):=h.row.cc 1;have c7:w.cell? ⟨qb,7,none⟩=some (iI n):=h.row.cc 7;clear h;unfold HLo;have d0:((n:Int)==0)=false:=by rw[ζy];omega
 have Y:=ι (λ(V:World) (hV:A8 w0 K c hb qb r a b t d s n g V)=>TP hV r);generalize g.fdV r 3 3=u at Y⊢;generalize g.fdV r 2 2=y at Y⊢;clear hn;go_enter func8,ntmps8
 go_wp2_with(first
  | (go_at_call 30;refine AK (NJ HQ.o) ?_)
  | (go_at_call 31;(with_reducible refine(Y.o _ HQ.o).mono ?_);intro e w1 ho;have hn:=HQ.o.nx HT.o ho;clear HT HQ c0 cl ho c1 c7;obtain⟨rfl,HT,HQ,c0,cl⟩:=hn))
 go_ret3
 exact⟨rfl,HT.o,HQ.o.hv⟩
theorem VCk(h:A8 w0 K c hb qb r a b t d s 0 g w):cQ 7 #[pP qb] w (.tuple #[.float .f64 0,uU 0,iI 6]):=by
 have HQ:=ι h;clear h;go_enter func7,ntmps7;go_wp2_with(go_at_call 8;refine AK (YN HQ.o) ?_)
 go_ret3
 exact⟨rfl,rfl⟩
theorem YLH(h:A8 w0 K c hb qb r a b t d s (n+1) g w){f:Nat}{k:BT}(hn:n<=1000000)(hq:GC g r a b t d s (.node x f u k .nil)):Calls prog 7 #[pP qb] w λe w'=>∃g' R',e=.returned (.tuple #[.float .f64 f,uU u,iI 0])/\AB (λk=>hlT w0 K k\/k=qb) w w'/\A8 w0 K c hb qb r a b t d s n g' w'/\GC g' r a b t d s R'/\R'.its.Perm k.its:=by
 have HQ:=ι h;have HT:=ι (AB.refl (hlT w0 K) w);have c0:w.cell? ⟨qb,0,none⟩=some (pP hb):=h.row.cc 0;have cl:=h.row.lt;clear h;obtain⟨-,q2,q3,hp⟩:=hq.popped;have O:=ι (λ(V:World) (hV:A8 w0 K c hb qb r a b t d s (n+1) g V)=>QnW hV Ω);rw[q2,q3]at O;have HP:=ι hp;clear hq q2 q3 hp;go_enter func7,ntmps7;go_upto_region 4 with(go_at_call 8;refine(O.o _ HQ.o).mono ?_;intro e w1 ho;have hn:=HQ.o.nx HT.o ho;clear HT HQ c0 cl ho;obtain⟨rfl,HT,HQ,c0,cl⟩:=hn);clear c0 cl;obtain⟨Sx,Y,HS⟩:=AA.start λW'=>Rec W' qb 63 (quL hb r a b t d s (n+1));have y0:∀p:AA Sx,p.w.cell? ⟨qb,0,none⟩=some (pP hb):=λp=>by have h:=AA.get Y p;exact h.cc 0
 have y4:∀p:AA Sx,p.w.cell? ⟨qb,4,none⟩=some (iI t):=λp=>by have h:=AA.get Y p;exact h.cc 4
 have y1:∀p:AA Sx,p.w.cell? ⟨qb,1,none⟩=some (iI r):=λp=>by have h:=AA.get Y p;exact h.cc 1
 have Z:=HS.o _ (HQ.o.row.gr (Gr.refl _).drew);have J:Inhabited (AA Sx):=⟨⟨_,Z⟩⟩;clear Y;refine AV Sx 12 [([0,1,2,3,4,5,6,7,8,9,10,11],12)] [] Z ?_;refine AH ?_;go_wp2_with((go_at_call 25;refine((HQ.o.gr (Gr.refl _).drew).hv.load _ _ _).mono ?_;intro e w1 ho;have hn:=(HQ.o.gr (Gr.refl _).drew).nx (HT.o.trans ((Gr.refl _).drew.touch _)) ho;clear HT HQ ho;obtain⟨rfl,HT,HQ,c0,cl⟩:=hn));refine⟨.inl trivial,?_⟩;refine BG ?_;clear y0 y4 y1 Z J;clear HS Sx;have L:=ι (JmJ HQ.o HP.o);clear HP O;go_upto_region 6 with(go_at_call 26;refine L.o.mono ?_;rintro e w2 ⟨g2,D2,hp,hi,ho⟩;have hn:=HQ.o.nx HT.o ho;clear HT HQ c0 cl ho L;obtain⟨rfl,HT,HQ,c0,cl⟩:=hn;have HP:=ι hp;have HI:=ι hi;clear hp hi);clear c0 cl;obtain⟨Sx,Y,HS⟩:=AA.start λW'=>Rec W' qb 63 (quL hb r a b t d s (n+1));have y0:∀p:AA Sx,p.w.cell? ⟨qb,0,none⟩=some (pP hb):=λp=>by have h:=AA.get Y p;exact h.cc 0
 have y1:∀p:AA Sx,p.w.cell? ⟨qb,1,none⟩=some (iI r):=λp=>by have h:=AA.get Y p;exact h.cc 1
 have Z:=HS.o _ (HQ.o.row.gr (Gr.refl _).drew);have J:Inhabited (AA Sx):=⟨⟨_,Z⟩⟩;clear Y;refine AV Sx 8 [([0,1,2,3,4,5,6,7],8)] [] Z ?_;refine AH ?_;go_wp2_with((go_at_call 23;refine((HQ.o.gr (Gr.refl _).drew).hv.clr _).mono ?_;intro e w1 ho;have hn:=(HQ.o.gr (Gr.refl _).drew).nx (HT.o.trans ((Gr.refl _).drew.touch _)) ho;clear HT HQ ho;obtain⟨rfl,HT,HQ,c0,cl⟩:=hn));refine⟨.inl trivial,?_⟩;refine BG ?_;clear y0 y1 Z J;clear HS Sx;have I:Hid (DrG (g2.clG r) r a b t d s .nil D2):=⟨(HP.o.drained (HP.o.t.sv)).2⟩;have E:Hid ((BT.nil.its++D2.its).Perm k.its):=⟨by have:=HI.o;simpa[BT.its]using this⟩;clear HP HI;go_wp2
 go_loopg [] D2.ids.length (λm wr=>∃(g1:Gph) (R1 D1:BT),Hid (D1.ids.length=m)/\Hid (A8 w0 K c hb qb r a b t d s (n+1) g1 wr)/\Hid (AB (hlT w0 K) w wr)/\Hid (DrG g1 r a b t d s R1 D1)/\Hid ((R1.its++D1.its).Perm k.its))
 case atStart=>exact⟨_,.nil,D2,⟨rfl⟩,HQ,HT,I,E⟩
 case round=>
  clear HQ HT I E c0 cl;obtain⟨g1,R1,D1,HN,HQ,HT,HP,HI⟩:=hrel;have c0:wr.cell? ⟨qb,0,none⟩=some (pP hb):=HQ.o.row.cc 0;have c5:wr.cell? ⟨qb,5,none⟩=some (iI d):=HQ.o.row.cc 5;have cl:=HQ.o.row.lt;have U:=KZ (HP.o.q.lt d (by simp));by_cases hz:g1.sv d=0
  ·rw[hz,θ rfl]at U;have HS:=ι (show (g1.shE d==0)=false by rw[U];rfl);have HE:=ι (HP.o.rest hz);clear hz U
   go_upto_region 11 with(first
    | (go_at_call 27;(with_reducible refine(FZ (x:=d) HQ.o HS.o).mono ?_);intro e w1 ho;have hn:=HQ.o.nx HT.o ho;clear HT HQ c0 cl ho c5;obtain⟨rfl,HT,HQ,c0,cl⟩:=hn)
    | (go_at_call 24;refine(XI HQ.o).mono ?_;intro e w1 ho;have hn:=HQ.o.nx HT.o ho;clear HT HQ c0 cl ho;obtain⟨rfl,HT,HQ,c0,cl⟩:=hn))
   have c7:w1.cell? ⟨qb,7,none⟩=some (iI (n+1:Nat)):=HQ.o.row.cc 7;have cf:=HQ.o.row.free 7;have e7:(((n+1:Nat):Int)-1)=(n:Int):=Ω
   go_wp2
   go_ret3
   refine⟨_,R1,rfl,HT.o.mono (λ_ _ h=>.inl h) |>.trans ((AB.refl (λk=>hlT w0 K k\/k=qb) w1).setCell (a:=⟨qb,7,none⟩) (λ_=>.inr rfl) _),?_,HE.o.1,?_⟩
   ·exact HQ.o.cnt n
   ·have:=HI.o;rw[HE.o.2]at this;simpa[BT.its]using this
  ·rw[φ hz]at U;have HS:=ι (show (g1.shE d==0)=true by rw[U];rfl)
   have G:Hid (∃R2 D3,D3.ids.length<gk/\DrG (T0 r a d s g1) r a b t d s R2 D3/\(R2.its++D3.its).Perm k.its):=⟨by
    obtain⟨T2,D2,q1,q2,q3⟩:=HP.o.step hz
    exact⟨T2,D2,by rw[<-HN.o];exact q1,q2,q3.trans HI.o⟩⟩
   clear hz U HP HI HN;go_upto_region 8 with(go_at_call 27;(with_reducible refine(FZ (x:=d) HQ.o HS.o).mono ?_);intro e w1 ho;have hn:=HQ.o.nx HT.o ho;clear HT HQ c0 cl ho c5;obtain⟨rfl,HT,HQ,c0,cl⟩:=hn);clear c0 cl;obtain⟨Sx,Y,HS⟩:=AA.start λW'=>Rec W' qb 63 (quL hb r a b t d s (n+1));have y2:∀p:AA Sx,p.w.cell? ⟨qb,2,none⟩=some (iI a):=λp=>by have h:=AA.get Y p;exact h.cc 2
   have y5:∀p:AA Sx,p.w.cell? ⟨qb,5,none⟩=some (iI d):=λp=>by have h:=AA.get Y p;exact h.cc 5
   have Z:=HS.o _ (HQ.o.row.gr (Gr.refl _).drew);have J:Inhabited (AA Sx):=⟨⟨_,Z⟩⟩;clear Y;refine AV Sx 9 [([0,1,2,3,4,5,6,7,8],9)] [] Z ?_;refine AH ?_;go_wp2_with((go_at_call 28;refine(WZ (HQ.o.gr (Gr.refl _).drew) a d).mono ?_;intro e w1 ho;have hn:=(HQ.o.gr (Gr.refl _).drew).nx (HT.o.trans ((Gr.refl _).drew.touch _)) ho;clear HT HQ ho;obtain⟨rfl,HT,HQ,c0,cl⟩:=hn));refine⟨.inl trivial,?_⟩;refine BG ?_;clear y2 y5 Z J;clear HS Sx;go_upto_region 9 with(fail);clear c0 cl;obtain⟨Sx,Y,HS⟩:=AA.start λW'=>Rec W' qb 63 (quL hb r a b t d s (n+1));have y1:∀p:AA Sx,p.w.cell? ⟨qb,1,none⟩=some (iI r):=λp=>by have h:=AA.get Y p;exact h.cc 1
   have y2:∀p:AA Sx,p.w.cell? ⟨qb,2,none⟩=some (iI a):=λp=>by have h:=AA.get Y p;exact h.cc 2
   have Z:=HS.o _ (HQ.o.row.gr (Gr.refl _).drew);have J:Inhabited (AA Sx):=⟨⟨_,Z⟩⟩;clear Y;refine AV Sx 9 [([0,1,2,3,4,5,6,7,8],9)] [] Z ?_;refine AH ?_;go_wp2_with((go_at_call 29;refine(T7 (HQ.o.gr (Gr.refl _).drew) r a).mono ?_;intro e w1 ho;have hn:=(HQ.o.gr (Gr.refl _).drew).nx (HT.o.trans ((Gr.refl _).drew.touch _)) ho;clear HT HQ ho;obtain⟨rfl,HT,HQ,c0,cl⟩:=hn));refine⟨.inl trivial,?_⟩;refine BG ?_;clear y1 y2 Z J;clear HS Sx;go_wp2;obtain⟨T2,D3,A,hp,hi⟩:=G.o
   go_roundg D3.ids.length
   case measure=>exact A
   case rel=>exact⟨_,T2,D3,⟨rfl⟩,HQ,HT,⟨hp⟩,⟨hi⟩⟩
end
section
variable{s:HSt}
theorem VIO(h:HIn w c g s):Calls prog 22 #[pP s.A.hp] w λe w'=>e=.returned (G5 c)/\Gr w w':=by
 have E:=(λ(V:World) (gV:Gr w V)=>FJ (h.gr gV));have hsf:=Qwi;have U:=h.com.row;unfold hpL at U;obtain⟨w2,J⟩:∃w2,w2=w.alloc (.cells #[.int .i64 0,.int .i64 0,.int .i64 0,.int .i64 0,.int .i64 0,.int .i64 0,.int .i64 0,.float .f64 0] 40):=⟨_,rfl⟩;have Z:Rec w2 w.heap.size 40 [iI 0,iI 0,iI 0,iI 0,iI 0,iI 0,iI 0,.float .f64 0]:=by rw[J];exact Rec.new w 40 [iI 0,iI 0,iI 0,iI 0,iI 0,iI 0,iI 0,.float .f64 0]
 have O:Gr w w2:=by rw[J];exact(Gr.refl w).alloc _
 have Y:=U.gr O;have I:=(E _ O);have L:=Z;have G:=O;obtain⟨k0,k1,k2,k3,k4,k5,k6,k7,kl⟩:=Y.k8;have z0:=Z.cc 0;have z1:=Z.cc 1;have z2:=Z.cc 2;have z3:=Z.cc 3;have z4:=Z.cc 4;have z5:=Z.cc 5;have z6:=Z.cc 6;have z7:=Z.cc 7;have zf:=Z.free;have zl:=Z.lt;generalize s.A.hp=hp at *
 obtain⟨kd,pg,bk,wd,sl,st,ah,tr⟩:=c;go_enter func22,ntmps22;go_upto_region 1 with(fail);rw[<-J];clear J;go_wp2_with(go_at_call 41;refine I.mono ?_;rintro e w1 ⟨rfl,rfl⟩);have R8:=(Rec.set (Rec.set (Rec.set (Rec.set (Rec.set (Rec.set (Rec.set (Rec.set L 0 (iI kd)) 1 (iI pg)) 2 (iI bk)) 3 (iI wd)) 4 (iI sl)) 5 (iI st)) 6 (iI ah)) 7 (.float .f64 tr));have hl:=OK R8 (by kernel_rfl) (by kernel_rfl);have ht:=(((((((((G.touch (λk=>w.heap.size<=k)).setCell (a:=⟨w.heap.size,0,none⟩) (λ_=>ϑ _) (iI kd)).setCell (a:=⟨w.heap.size,1,none⟩) (λ_=>ϑ _) (iI pg)).setCell (a:=⟨w.heap.size,2,none⟩) (λ_=>ϑ _) (iI bk)).setCell (a:=⟨w.heap.size,3,none⟩) (λ_=>ϑ _) (iI wd)).setCell (a:=⟨w.heap.size,4,none⟩) (λ_=>ϑ _) (iI sl)).setCell (a:=⟨w.heap.size,5,none⟩) (λ_=>ϑ _) (iI st)).setCell (a:=⟨w.heap.size,6,none⟩) (λ_=>ϑ _) (iI ah)).setCell (a:=⟨w.heap.size,7,none⟩) (λ_=>ϑ _) (.float .f64 tr));refine ζF (v:=.agg #[iI kd,iI pg,iI bk,iI wd,iI sl,iI st,iI ah,.float .f64 tr]) ?_ rfl ⟨rfl,(ht.mono (T:=λ_=>False) (λk hk e=>by omega)).gr⟩;simp[results,results22,asAddr,hl]
theorem HLv.facts(h:HLv w0 K c hb g w):c.Ok/\g.Ok/\g.S.length=c.sl:=by
 obtain⟨-,⟨s,-,h,-,-⟩,-⟩:=h;exact⟨h.cok,h.gok,h.sl⟩
theorem HLv.conf(h:HLv w0 K c hb g w):Calls prog 22 #[pP hb] w λe w'=>e=.returned (G5 c)/\Gr w w':=by
 obtain⟨-,⟨s,e1,h,-,-⟩,-⟩:=h;rw[<-e1];exact VIO h
end
def DR(sl:Int)(l:List Int):Int:=if ∃j,j<l.length/\(l.getD j 0<0\/sl<=l.getD j 0)then 17 else if ∃i,i<l.length/\∃j,j<i/\l.getD i 0=l.getD j 0 then 5 else 0
theorem P6(hk:k<l.length)(h:l.getD k 0<0\/sl<=l.getD k 0):DR sl l=17:=θ ⟨k,hk,h⟩
theorem XHt(hk:k<l.length)(h:∀j,j<l.length->0<=l.getD j 0/\l.getD j 0<sl)(hm:m<k)(he:l.getD k 0=l.getD m 0):DR sl l=5:=by
 unfold DR;rw[φ (λ⟨j,hj,hq⟩=>by have:=h j hj;omega),θ ⟨k,hk,m,hm,he⟩]
theorem TQ(h:∀j,j<l.length->0<=l.getD j 0/\l.getD j 0<sl)(hd:∀i,i<l.length->∀j,j<i->l.getD i 0≠l.getD j 0):DR sl l=0:=by
 unfold DR;rw[φ (λ⟨j,hj,hq⟩=>by have:=h j hj;omega),φ (λ⟨i,hi,j,hj,e⟩=>hd i hi j hj e)]
theorem Q4x(w:World)(T:Nat)(x:Value):(w.alloc (.cells #[x] T)).ownsRow 0 T 1 (.slice (some ⟨w.heap.size,0,none⟩) 1 1) 1 [x]:=
 ⟨by simp,.inr ⟨w.heap.size,1,#[x],rfl,ζc _,heap_alloc_new w _,ϑ _,by unfold maxLen;omega,by simp,by simp⟩⟩
def MC(w0 w:World)(K:Nat->Prop)(c:HCf)(hb:Nat)(g:Gph)(x0 x1 x2 x3 x4 x5:Int)(e:Ending)(w':World):Prop:=
 (DR c.sl [x0,x1,x2,x3,x4,x5]≠0/\e=.returned (.tuple #[.pointer none,iI (DR c.sl [x0,x1,x2,x3,x4,x5])])/\Gr w w') ∨
 (DR c.sl [x0,x1,x2,x3,x4,x5]=0/\∃r a b t d s:Nat,x0=r/\x1=a/\x2=b/\x3=t/\x4=d/\x5=s/\(∀j∈[r,a,b,t,d,s],j<c.sl)/\[r,a,b,t,d,s].Nodup ∧
  ∃qb,e=.returned (.tuple #[pP qb,iI 0])/\AB (hlT w0 K) w w'/\A8 w0 (λk=>K k\/k=qb) c hb qb r a b t d s 0 (GP a b t d s (g.clG r)) w'/\w.heap.size<=qb)
theorem MC.bad{x0 x1 x2 x3 x4 x5 m:Int}{L:List Int}(hL:[x0,x1,x2,x3,x4,x5]=L)(hm:DR c.sl L=m)(h0:m≠0)(gr:Gr w w'):MC w0 w K c hb g x0 x1 x2 x3 x4 x5 (.returned (.tuple #[.pointer none,iI m])) w':=.inl ⟨by rw[hL,hm];exact h0,by rw[hL,hm],gr⟩
theorem XW8(h:HLv w0 K c hb g w)(hw0:1<w0.heap.size)(x0 x1 x2 x3 x4 x5:Int):Calls prog 6 #[pP hb,iI x0,.agg #[iI x1,iI x2,iI x3,iI x4,iI x5]] w (MC w0 w K c hb g x0 x1 x2 x3 x4 x5):=by
 obtain⟨ii,Xo,Xp,Xr,Xu⟩:=info_parts PE;have Yb:=h.facts.1.kd;have O:=ι (λ(V:World) (gV:Gr w V)=>(h.get gV).conf);unfold G5 IA at O;have k1:((c.kd:Int)==0)=false:=by rw[ζy];omega
 have Xy:∀V,(Instr.field 40 (.agg #[iI c.kd,iI c.pg,iI c.bk,iI c.wd,iI c.sl,iI c.st,iI c.ah,.float .f64 c.tr]) 0).run prog V=.ok (iI c.kd) V:=λ_=>by kernel_rfl
 have Xx:∀V,(Instr.field 40 (.agg #[iI c.kd,iI c.pg,iI c.bk,iI c.wd,iI c.sl,iI c.st,iI c.ah,.float .f64 c.tr]) 4).run prog V=.ok (iI c.sl) V:=λ_=>by kernel_rfl
 have hr:=Rec.new w 30 [iI x1,iI x2,iI x3,iI x4,iI x5];have Xn:=(Gr.refl w).alloc (.cells #[.int .i64 x1,.int .i64 x2,.int .i64 x3,.int .i64 x4,.int .i64 x5] 30);obtain⟨wb,A⟩:∃wb,wb=w.alloc (.cells #[.int .i64 x1,.int .i64 x2,.int .i64 x3,.int .i64 x4,.int .i64 x5] 30):=⟨_,rfl⟩;obtain⟨bx,Xh⟩:∃bx,bx=w.heap.size:=⟨_,rfl⟩;have HR:Hid (Rec wb bx 30 [iI x1,iI x2,iI x3,iI x4,iI x5]):=⟨by rw[A,Xh];exact hr⟩;have Xf:Hid (Gr w wb):=⟨by rw[A];exact Xn⟩;have HW:=ι A;have Xw:=ι Xh;have H:=ι h;have Xi:=ι hw0;have xl:=HR.o.lt;clear h A Xh hr Xn Yb hw0;go_enter func6,ntmps6;go_upto_region 1 with(fail);rw[<-HW.o,<-Xw.o];go_upto_region 3 with(go_at_call 22;refine(O.o _ Xf.o).mono ?_;rintro e w1 ⟨rfl,hg⟩;have Xe:=ι hg;clear hg);have Xl:=ι (Xf.o.trans Xe.o);have E:=ι (HR.o.gr Xe.o);have Yd:=E.o.lt;clear Xf;go_upto_region 4 with(at_builtin;refine wpList_append_lies _ rfl _ _ 61 rfl 0 3 ii _ 1 8 underlying61 Xo Xp Xr Xu rfl (by decide) (.slice (some ⟨w1.heap.size,0,none⟩) 1 1) 1 [iI x0] rfl (Q4x w1 _ _) ⟨bx,0,none⟩ 5 5 [iI x1,iI x2,iI x3,iI x4,iI x5] rfl rfl (λj u hj=>by rw[show Addr.add ⟨bx,0,none⟩ j=⟨bx,j,none⟩by unfold Addr.add;split <;> simp_all];exact(E.o.gr ((Gr.refl w1).alloc (.cells #[.int .i64 x0] 3))).cell hj) (by simp[Value.oneCell']) Ω (by unfold maxLen;omega) Ω (ζc _) (w1.heap.size+1) (by simp) ?_;intro g3 c3 w3 I J Xk Xm;have G:=ι I;have Xb:=ι ((((Gr.refl w1).alloc (.cells #[.int .i64 x0] 3)).touch _).trans (EC J (λk=>w1.heap.size<=k) (λk e _=>by cases e;exact ϑ _)));clear I J Xk Xm);have Z:=ι (Xl.o.trans ((Xb.o.mono (T:=λ_=>False) (λk hk e=>by omega)).gr));have HC:Hid (∀V,Gr w3 V->∀j,j<6->V.cell? ⟨g3,j,none⟩=some (iI ([x0,x1,x2,x3,x4,x5].getD j 0))/\g3<V.heap.size):=⟨λV gV j hj=>⟨BP (CM G.o gV) (by rcases(by omega:j=0\/j=1\/j=2\/j=3\/j=4\/j=5)with rfl|rfl|rfl|rfl|rfl|rfl <;> rfl),(BE (CM G.o gV) rfl).2⟩⟩;have Xs:=ι (E.o.touch Xb.o (λe=>by omega));have Xv:Hid (6<=c3):=⟨by obtain⟨_,_,e,-,h,-,-⟩:=ET G.o (by decide);cases e;exact h⟩;have HL:=ι (show [x0,x1,x2,x3,x4,x5].length=6 from rfl);generalize hL:[x0,x1,x2,x3,x4,x5]=L at HC HL
 replace hL:=ι hL
 clear HR HW Xw xl Xe Xl E Yd G Xb Xo Xp Xr Xu;go_upto_region 5 with(fail)
 go_loopw [26] (λs26 wr=>∃k:Nat,k<=6/\s26=iI k/\Hid (Gr w3 wr)/\Hid (∀j,j<k->0<=L.getD j 0/\L.getD j 0<c.sl)) (λs26 _=>6-(intOf s26).toNat)
 case atStart=>exact⟨0,by omega,rfl,⟨Gr.refl _⟩,⟨λj hj=>absurd hj (ζC _)⟩⟩
 case round=>
  obtain⟨k,hk,rfl,HG,HA⟩:=hrel;by_cases Y:k<6
  ·obtain⟨x0,xl⟩:=HC.o _ HG.o k Y;have Xz:(k:Int)<6:=Ω
   generalize hx:L.getD k 0=x at x0;by_cases Xc:x<0
   ·have d0:decide (x<0)=true:=ξ Xc;go_wp2;go_ret2;exact MC.bad hL.o (P6 (by rw[HL.o];exact Y) (.inl (by rw[hx];exact Xc))) (by decide) (Z.o.trans HG.o)
   ·have d0:decide (x<0)=false:=ζ Xc;by_cases Xg:(c.sl:Int)<=x
    ·have d1:decide ((c.sl:Int)<=x)=true:=ξ Xg;go_wp2_with(go_at_call 22;refine(O.o _ (Z.o.trans HG.o)).mono ?_;rintro e w4 ⟨rfl,hg⟩;have Xa:=ι (HG.o.trans hg);clear hg);go_ret2;exact MC.bad hL.o (P6 (by rw[HL.o];exact Y) (.inr (by rw[hx];exact Xg))) (by decide) (Z.o.trans Xa.o)
    ·have d1:decide ((c.sl:Int)<=x)=false:=ζ Xg;go_wp2_with(go_at_call 22;refine(O.o _ (Z.o.trans HG.o)).mono ?_;rintro e w4 ⟨rfl,hg⟩;have Xa:=ι (HG.o.trans hg);clear hg);go_round
     case rel=>exact⟨k+1,by omega,by go_num,Xa,⟨λj hj=>by rcases ξw.1 hj with h|rfl;exact HA.o j h;rw[hx];exact⟨by omega,by omega⟩⟩⟩
     case measure=>have:=Y;simp[intOf];omega
  ·obtain rfl:k=6:=Ω
   clear Y hk O Xy Xx k1;have Yc:=Xv.o;go_upto_region 11 with(fail);obtain⟨wq,Ya⟩:∃wq,wq=wr:=⟨_,rfl⟩;subst Ya
   go_loopw [42] (λs42 wr=>∃k:Nat,k<=6/\s42=iI k/\Hid (wr=wq)/\Hid (∀i,i<k->∀j,j<i->L.getD i 0≠L.getD j 0)) (λs42 _=>6-(intOf s42).toNat)
   case atStart=>exact⟨0,by omega,rfl,⟨rfl⟩,⟨λj hj=>absurd hj (ζC _)⟩⟩
   case round=>
    obtain⟨k,hk,rfl,hw,HD⟩:=hrel
    replace hw:=hw.o
    subst hw;by_cases Y:k<6
    ·obtain⟨x0,xl⟩:=HC.o _ HG.o k Y;have Xz:(k:Int)<6:=Ω
     have hkJ:(k:Int)<=c3:=Ω
     obtain⟨x,hx⟩:∃x,x=L.getD k 0:=⟨_,rfl⟩;rw[<-hx]at x0;have HX:=ι hx;clear hx;go_upto_region 14 with(fail)
     go_loopw [51] (λs51 wp=>∃m:Nat,m<=k/\s51=iI m/\Hid (wp=wr)/\Hid (∀j,j<m->x≠L.getD j 0)) (λs51 _=>k-(intOf s51).toNat)
     case atStart=>exact⟨0,by omega,rfl,⟨rfl⟩,⟨λj hj=>absurd hj (ζC _)⟩⟩
     case round=>
      obtain⟨m,hm,rfl,hw,HE⟩:=hrel
      replace hw:=hw.o
      subst hw;by_cases Xq:m<k
      ·obtain⟨y0,yl⟩:=HC.o _ HG.o m Ω;have hmI:(m:Int)<k:=Ω
       obtain⟨y,hy⟩:∃y,y=L.getD m 0:=⟨_,rfl⟩;rw[<-hy]at y0;have HY:=ι hy;clear hy;by_cases B:x=y
       ·have d0:(x==y)=true:=ζ1.2 B;go_wp2;go_ret2;exact MC.bad hL.o (XHt (k:=k) (m:=m) (by rw[HL.o];exact Y) (λj hj=>HA.o j (by rw[<-HL.o];exact hj)) Xq (by rw[<-HX.o,<-HY.o];exact B)) (by decide) (Z.o.trans HG.o)
       ·have d0:(x==y)=false:=ζy.2 B;go_wp2;go_round
        case rel=>exact⟨m+1,by omega,by go_num,⟨by trivial⟩,⟨λj hj=>by rcases ξw.1 hj with h|rfl;exact HE.o j h;rw[<-HY.o];exact B⟩⟩
        case measure=>have:=Xq;simp[intOf];omega
      ·obtain rfl:m=k:=Ω
       go_wp2;go_round
       case rel=>exact⟨m+1,by omega,by go_num,⟨by trivial⟩,⟨λi hi=>by rcases ξw.1 hi with h|rfl;exact HD.o i h;rw[<-HX.o];exact HE.o⟩⟩
       case measure=>have:=Y;simp[intOf];omega
    ·obtain rfl:k=6:=Ω
     obtain rfl:=hL.o;clear Y hk hL HL;have a0:0<=x0/\x0<c.sl:=HA.o 0 (by decide);have a1:0<=x1/\x1<c.sl:=HA.o 1 (by decide);have a2:0<=x2/\x2<c.sl:=HA.o 2 (by decide);have a3:0<=x3/\x3<c.sl:=HA.o 3 (by decide);have a4:0<=x4/\x4<c.sl:=HA.o 4 (by decide);have a5:0<=x5/\x5<c.sl:=HA.o 5 (by decide);obtain⟨r,rfl⟩:∃r:Nat,x0=r:=⟨x0.toNat,by omega⟩;obtain⟨a,rfl⟩:∃r:Nat,x1=r:=⟨x1.toNat,by omega⟩;obtain⟨b,rfl⟩:∃r:Nat,x2=r:=⟨x2.toNat,by omega⟩;obtain⟨t,rfl⟩:∃r:Nat,x3=r:=⟨x3.toNat,by omega⟩;obtain⟨d,rfl⟩:∃r:Nat,x4=r:=⟨x4.toNat,by omega⟩;obtain⟨s,rfl⟩:∃r:Nat,x5=r:=⟨x5.toNat,by omega⟩
     have HM:Hid (DR c.sl [(r:Int),a,b,t,d,s]=0/\(∀j∈[r,a,b,t,d,s],j<c.sl)/\[r,a,b,t,d,s].Nodup):=by
      refine⟨TQ (λj hj=>HA.o j hj) (λi hi=>HD.o i hi),?_,?_⟩
      ·intro j hj;simp only[ζD,ξW,or_false]at hj;rcases hj with rfl|rfl|rfl|rfl|rfl|rfl <;> omega
      ·have q10:(a:Int)≠r:=HD.o 1 (by decide) 0 (by decide);have q20:(b:Int)≠r:=HD.o 2 (by decide) 0 (by decide);have q21:(b:Int)≠a:=HD.o 2 (by decide) 1 (by decide);have q30:(t:Int)≠r:=HD.o 3 (by decide) 0 (by decide);have q31:(t:Int)≠a:=HD.o 3 (by decide) 1 (by decide);have q32:(t:Int)≠b:=HD.o 3 (by decide) 2 (by decide);have q40:(d:Int)≠r:=HD.o 4 (by decide) 0 (by decide);have q41:(d:Int)≠a:=HD.o 4 (by decide) 1 (by decide);have q42:(d:Int)≠b:=HD.o 4 (by decide) 2 (by decide);have q43:(d:Int)≠t:=HD.o 4 (by decide) 3 (by decide);have q50:(s:Int)≠r:=HD.o 5 (by decide) 0 (by decide);have q51:(s:Int)≠a:=HD.o 5 (by decide) 1 (by decide);have q52:(s:Int)≠b:=HD.o 5 (by decide) 2 (by decide);have q53:(s:Int)≠t:=HD.o 5 (by decide) 3 (by decide);have q54:(s:Int)≠d:=HD.o 5 (by decide) 4 (by decide);simp only[List.nodup_cons,ζD,ξW,or_false,ξN,and_true,not_or,not_false_eq_true];omega
     have U:=ι (Z.o.trans HG.o);have RB:=Xs.o.gr HG.o;obtain⟨z0,z1,z2,z3,z4,zl⟩:=RB.k5;clear a0 a1 a2 a3 a4 a5 HA HD HC RB Xs Xv Yc HG Z;go_upto_region 21 with(fail);have Xt:=U.o.alloc (.cells #[.pointer (some ⟨hb,0,none⟩),.int .i64 r,.int .i64 a,.int .i64 b,.int .i64 t,.int .i64 d,.int .i64 s,.int .i64 0] 63);have Xd:=Rec.new wr 63 (quL hb r a b t d s 0);have HQ:Hid (A8 w0 (λk=>K k\/k=wr.heap.size) c hb wr.heap.size r a b t d s 0 g (wr.alloc (.cells #[.pointer (some ⟨hb,0,none⟩),.int .i64 r,.int .i64 a,.int .i64 b,.int .i64 t,.int .i64 d,.int .i64 s,.int .i64 0] 63))):=⟨((H.o.get U.o).own ((Gr.refl wr).alloc _) (λk hk=>hk.imp id (λe=>⟨by omega,by rw[e];exact Xd.lt⟩))),Xd,.inr rfl,γ H.o.gr.size U.o.size,Xi.o⟩;have HT:Hid (AB (hlT w0 (λk=>K k\/k=wr.heap.size)) w (wr.alloc (.cells #[.pointer (some ⟨hb,0,none⟩),.int .i64 r,.int .i64 a,.int .i64 b,.int .i64 t,.int .i64 d,.int .i64 s,.int .i64 0] 63))):=⟨Xt.touch _⟩;have Xj:=ι U.o.size;clear Xt Xd z0 z1 z2 z3 z4 zl H Xi U;generalize wr.alloc (.cells #[.pointer (some ⟨hb,0,none⟩),.int .i64 r,.int .i64 a,.int .i64 b,.int .i64 t,.int .i64 d,.int .i64 s,.int .i64 0] 63)=wz at HQ HT⊢;generalize wr.heap.size=qb at HQ HT Xj⊢;have c0:wz.cell? ⟨qb,0,none⟩=some (pP hb):=HQ.o.row.cc 0;have cl:=HQ.o.row.lt
     go_wp2_with(first
      | (go_at_call 23;refine(HQ.o.hv.clr _).mono ?_;intro e w1 ho;have hn:=HQ.o.nx HT.o ho;clear HT HQ c0 cl ho;obtain⟨rfl,HT,HQ,c0,cl⟩:=hn)
      | (go_at_call 24;refine(XI HQ.o).mono ?_;intro e w1 ho;have hn:=HQ.o.nx HT.o ho;clear HT HQ c0 cl ho;obtain⟨rfl,HT,HQ,c0,cl⟩:=hn))
     go_ret2;exact .inr ⟨HM.o.1,r,a,b,t,d,s,rfl,rfl,rfl,rfl,rfl,rfl,HM.o.2.1,HM.o.2.2,qb,rfl,HT.o.mono (λk _ hk=>⟨hk.1,λe=>hk.2 (.inl e)⟩),HQ.o,Xj.o⟩
theorem ZQd(ha:a<g.S.length)(C:Nat):g.alE C a ⟨2,1,1⟩=if C<g.words+5 then 21 else 0:=by
 unfold Gph.alE;rw[g.sl_lt ha,θ rfl,φ (by decide),show CE ⟨2,1,1⟩=5 by decide];by_cases h:C<g.words+5
 ·rw[θ h,θ Ω]
 ·rw[φ h,φ Ω]
structure BQ(w0:World)(K:Nat->Prop)(c:HCf)(hb qb r a b t d s:Nat)(M:List (Nat×Nat))(w:World):Prop where
 ex:∃g R,A8 w0 K c hb qb r a b t d s M.length g w/\GC g r a b t d s R/\R.its.Perm M
 cap:5*M.length<=c.wd
def L6(w0:World)(K:Nat->Prop)(c:HCf)(hb qb r a b t d s:Nat)(w:World)(v:Value)(M':List (Nat×Nat))(e:Ending)(w':World):Prop:=e=.returned v/\AB (λk=>hlT w0 K k\/k=qb) w w'/\BQ w0 K c hb qb r a b t d s M' w'
section
variable{t:Nat}
theorem BQ.gr(h:BQ w0 K c hb qb r a b t d s M w)(gr:Gr w w'):BQ w0 K c hb qb r a b t d s M w':=by
 obtain⟨⟨g,R,q,p⟩,hc⟩:=h;exact⟨⟨g,R,q.gr gr,p⟩,hc⟩
theorem BQ.grew(h:BQ w0 K c hb qb r a b t d s M w):Gr w0 w:=by
 obtain⟨⟨g,R,q,p⟩,hc⟩:=h;exact q.hv.gr
theorem BQ.len_le(h:BQ w0 K c hb qb r a b t d s M w):M.length<=1000000:=by
 obtain⟨⟨g,R,q,p⟩,hc⟩:=h;have:=q.hv.facts.1.wd;omega
theorem BQ.words(h:BQ w0 K c hb qb r a b t d s M w):∃g R,A8 w0 K c hb qb r a b t d s M.length g w/\GC g r a b t d s R/\R.its.Perm M/\g.all.length=M.length/\g.words=5*M.length:=by
 obtain⟨⟨g,R,q,p,pe⟩,hc⟩:=h;obtain⟨l1,l2⟩:=p.hs.live q.hv.facts.2.1 p.nd p.z;have e:R.ids.length=M.length:=by rw[<-BT.len_its,pe.length_eq]
 exact⟨g,R,q,p,pe,by rw[l1,e],by rw[l2,e]⟩
theorem BQ.push(h:BQ w0 K c hb qb r a b t d s M w)(hx:x<18446744073709551616)(hy:y<18446744073709551616):Calls prog 9 #[pP qb,.float .f64 x,uU y] w (L6 w0 K c hb qb r a b t d s w (iI (if c.wd<5*M.length+5 then 21 else 0)) (if c.wd<5*M.length+5 then M else (x,y) :: M)):=by
 have hn:=h.len_le;have Y:=h.cap;obtain⟨g,R,q,p,pe,-,hw⟩:=h.words;have he:=ZQd (p.q.lt a (by simp)) c.wd;rw[hw]at he;by_cases hf:c.wd<5*M.length+5
 ·rw[θ hf]at he⊢;rw[θ hf];refine(QMN q hx hy (by rw[he];decide)).mono ?_;rintro e w' ⟨rfl,ht,hq⟩;exact⟨by rw[he],ht.mono (λ_ _ h=>.inl h),⟨g,R,hq,p,pe⟩,Y⟩
 ·rw[φ hf]at he⊢;rw[φ hf];obtain⟨R',p',Z⟩:=p.push he (f:=x) (w:=y);refine(Y7Q q hx hy hn he).mono ?_;rintro e w' ⟨rfl,ht,hq⟩;exact⟨rfl,ht,⟨_,R',hq,p',Z.trans (pe.cons _)⟩,by rw[ζB];omega⟩
theorem BQ.len(h:BQ w0 K c hb qb r a b t d s M w):cQ 11 #[pP qb] w (iI M.length):=by
 obtain⟨⟨g,R,q,p⟩,hc⟩:=h;exact VPx q
theorem BQ.node(h:BQ w0 K c hb qb r a b t d s M w)(hM:M≠[]):∃g x f u k,A8 w0 K c hb qb r a b t d s M.length g w/\GC g r a b t d s (.node x f u k .nil)/\M.Perm ((f,u) :: k.its)/\(f,u)∈M/\∀p∈M,leQ (f,u) p=true:=by
 obtain⟨⟨g,R,q,p,pe⟩,hc⟩:=h;rcases p.sr with rfl|⟨x,f,u,k,rfl⟩
 ·exact absurd pe.symm.eq_nil hM
 ·have e:(BT.node x f u k .nil).its=(f,u) :: k.its:=by simp[BT.its]
  have l:=BT.least p.hp;rw[e]at pe l;exact⟨g,x,f,u,k,q,p,pe.symm,pe.mem_iff.1 (ζh ..),λp hp=>l p (pe.mem_iff.2 hp)⟩
theorem BQ.pop_no(h:BQ w0 K c hb qb r a b t d s [] w):cQ 7 #[pP qb] w (.tuple #[.float .f64 0,uU 0,iI 6]):=by
 obtain⟨⟨g,R,q,p⟩,hc⟩:=h;exact VCk q
theorem BQ.peek_no(h:BQ w0 K c hb qb r a b t d s [] w):cQ 8 #[pP qb] w (.tuple #[.float .f64 0,uU 0,iI 6]):=by
 obtain⟨⟨g,R,q,p⟩,hc⟩:=h;exact YN q
theorem BQ.pop(h:BQ w0 K c hb qb r a b t d s M w)(hM:M≠[]):∃(f u:Nat) (M':List (Nat×Nat)),M.Perm ((f,u) :: M')/\(∀p∈M,leQ (f,u) p=true)/\Calls prog 7 #[pP qb] w (L6 w0 K c hb qb r a b t d s w (.tuple #[.float .f64 f,uU u,iI 0]) M'):=by
 have hn:=h.len_le;have hcap:=h.cap;obtain⟨g,x,f,u,k,q,p,pe,hm,hl⟩:=h.node hM;have e:=pe.length_eq;rw[ζB]at e;rw[e]at q;refine⟨f,u,k.its,pe,hl,(YLH q Ω p).mono ?_⟩;rintro e' w' ⟨g',R',rfl,ht,hq,p',Y⟩;exact⟨rfl,ht,⟨g',R',hq,p',Y⟩,by omega⟩
theorem BQ.peek(h:BQ w0 K c hb qb r a b t d s M w)(hM:M≠[]):∃(f u:Nat),(f,u)∈M/\(∀p∈M,leQ (f,u) p=true)/\Calls prog 8 #[pP qb] w (L6 w0 K c hb qb r a b t d s w (.tuple #[.float .f64 f,uU u,iI 0]) M):=by
 have Y:=h.cap;obtain⟨g,x,f,u,k,q,p,pe,hm,hl⟩:=h.node hM;obtain⟨q1,q2,q3,-⟩:=p.popped;have Z:=QnW q (λe=>hM (List.length_eq_zero_iff.1 e));rw[q2,q3]at Z;refine⟨f,u,hm,hl,Z.mono ?_⟩;rintro e' w' ⟨rfl,ht,hv⟩;exact⟨rfl,ht.mono (λ_ _ h=>.inl h),⟨g,_,q.next ht hv,p,by simpa[BT.its]using pe.symm⟩,Y⟩
theorem BQ.heap(h:BQ w0 K c hb qb r a b t d s M w)(hc:∀g,HLv w0 K c hb g w->Calls prog f args w (HLo w0 K c hb w v g)):Calls prog f args w (L6 w0 K c hb qb r a b t d s w v M):=by
 obtain⟨⟨g,R,q,p⟩,hq⟩:=h;refine(hc g q.hv).mono ?_;rintro e w' ⟨rfl,ht,hl⟩;exact⟨rfl,ht.mono (λ_ _ h=>.inl h),⟨g,R,q.next ht hl,p⟩,hq⟩
theorem BQ.live(h:BQ w0 K c hb qb r a b t d s M w):Calls prog 19 #[pP hb] w (L6 w0 K c hb qb r a b t d s w (.tuple #[iI M.length,iI (5*M.length:Nat)]) M):=by
 have hq:=h.cap;obtain⟨g,R,q,p,pe,e1,e2⟩:=h.words;have hl:=q.hv.live;rw[e1,e2]at hl;refine hl.mono ?_;rintro e w' ⟨rfl,ht,hl⟩;exact⟨rfl,ht.mono (λ_ _ h=>.inl h),⟨g,R,q.next ht hl,p,pe⟩,hq⟩
end
theorem M3(h:a<n)(L:List GOb):Gph.clG ⟨L,List.replicate n 0⟩ a=⟨L,List.replicate n 0⟩:=by
 grind [Gph.clG_ok,List.set_replicate_self]
theorem JvX{t:Nat}(h:∀j∈[r,a,b,t,d,s],j<n):GP a b t d s (Gph.clG ⟨[],List.replicate n 0⟩ r)=⟨[],List.replicate n 0⟩:=by
 unfold GP;rw[M3 (h r (by simp)),M3 (h a (by simp)),M3 (h b (by simp)),M3 (h t (by simp)),M3 (h d (by simp)),M3 (h s (by simp))]
theorem VA(h:HLv w0 K c hb (Gph.nil c.sl) w)(hw0:1<w0.heap.size)(x0 x1 x2 x3 x4 x5:Int):Calls prog 6 #[pP hb,iI x0,.agg #[iI x1,iI x2,iI x3,iI x4,iI x5]] w λe w'=>
  (DR c.sl [x0,x1,x2,x3,x4,x5]≠0/\e=.returned (.tuple #[.pointer none,iI (DR c.sl [x0,x1,x2,x3,x4,x5])])/\Gr w w') ∨
  (DR c.sl [x0,x1,x2,x3,x4,x5]=0/\∃r a b t d s qb:Nat,e=.returned (.tuple #[pP qb,iI 0])/\AB (hlT w0 K) w w'/\BQ w0 (λk=>K k\/k=qb) c hb qb r a b t d s [] w'/\w.heap.size<=qb):=by
 refine(XW8 h hw0 x0 x1 x2 x3 x4 x5).mono ?_;rintro e w' (hn|⟨hm,r,a,b,t,d,s,-,-,-,-,-,-,hl,hd,qb,he,ht,hq,hs⟩)
 ·exact .inl hn
 ·rw[show Gph.nil c.sl=⟨[],List.replicate c.sl 0⟩from rfl,JvX hl]at hq;exact .inr ⟨hm,r,a,b,t,d,s,qb,he,ht,⟨⟨_,.nil,hq,Yf8 hd hl,.nil⟩,ζc _⟩,hs⟩
theorem HLv.wr(h:HLv w0 K c hb g w)(t:AB R w w')(hR:∀k,R k->K k/\w0.heap.size<=k)(ht:1<w0.heap.size):HLv w0 (λk=>K k\/(w.heap.size<=k/\k<w'.heap.size)) c hb g w':=by
 obtain⟨h1,⟨s,e1,e2,e3,e4⟩,h3⟩:=h;refine⟨?_,⟨s.cut w,e1,e2.cut.touch t (λk _ hk=>⟨λhs=>(e4 k (HSt.cut_S e2 k hs).1).2 (hR k hk).1,λe=>by have:=(hR k hk).2;omega⟩),e3,λk hk=>?_⟩,λk hk=>?_⟩
 ·exact((h1.touch R).trans t |>.mono (T:=λ_=>False) (λk hk e=>by have:=(hR k e).2;omega)).gr
 ·obtain⟨k1,k2⟩:=HSt.cut_S e2 k hk;exact⟨(e4 k k1).1,λh=>h.elim (e4 k k1).2 (λh=>by omega)⟩
 ·exact hk.elim (λh=>κ (h3 k h) t.size) (λh=>h.2)
theorem Xyj(a b:Nat)(w:World):cQ 132 #[uU a,uU b] w (.bool (EL a b)):=by
 have HB:Hid (EL a b=if decide (9223372036854775808<=a) !=decide (9223372036854775808<=b)then decide (9223372036854775808<=a)else if 9223372036854775808<=a then decide (b<a)else decide (a<b)):=⟨rfl⟩;have d1:decide ((9223372036854775808:Int)<=(a:Int))=decide (9223372036854775808<=a):=by rw[ξe];omega
 have d2:decide ((9223372036854775808:Int)<=(b:Int))=decide (9223372036854775808<=b):=by rw[ξe];omega
 generalize EL a b=r at HB⊢;by_cases h1:9223372036854775808<=a <;> by_cases h2:9223372036854775808<=b
 ·rw[ξ h1]at d1;rw[ξ h2]at d2;have HR:Hid (r=decide (b<a)):=⟨by rw[HB.o,ξ h1,ξ h2,θ h1];rfl⟩;clear h1 h2 HB;go_enter func132,ntmps132;go_wp2;go_ret;exact⟨by rw[HR.o] <;> rfl,rfl⟩
 ·rw[ξ h1]at d1;rw[ζ h2]at d2;have HR:Hid (r=true):=⟨by rw[HB.o,ξ h1,ζ h2];rfl⟩;clear h1 h2 HB;go_enter func132,ntmps132;go_wp2;go_ret;exact⟨by rw[HR.o] <;> rfl,rfl⟩
 ·rw[ζ h1]at d1;rw[ξ h2]at d2;have HR:Hid (r=false):=⟨by rw[HB.o,ζ h1,ξ h2];rfl⟩;clear h1 h2 HB;go_enter func132,ntmps132;go_wp2;go_ret;exact⟨by rw[HR.o] <;> rfl,rfl⟩
 ·rw[ζ h1]at d1;rw[ζ h2]at d2;have HR:Hid (r=decide (a<b)):=⟨by rw[HB.o,ζ h1,ζ h2,φ h1];rfl⟩;clear h1 h2 HB;go_enter func132,ntmps132;go_wp2;go_ret;exact⟨by rw[HR.o] <;> rfl,rfl⟩
def ltQ(p q:Nat×Nat):Bool:=EL p.1 q.1||(p.1==q.1&&decide (p.2<q.2))
def bst(N:List (Nat×Nat)):Nat->Int
 | 0=>-1
 | i+1=>if bst N i<0\/ltQ (N.getD i (0,0)) (N.getD (bst N i).toNat (0,0))=true then i else bst N i
theorem QJ(N:List (Nat×Nat)):∀i,-1<=bst N i/\bst N i<i
 | 0=>⟨ψi _,by show (-1:Int)<0;omega⟩
 | i+1=>by
  have:=QJ N i;unfold bst
  split <;> omega
theorem Xrd(h:bst N i<0):bst N (i+1)=i:=θ (.inl h)
theorem Z3(h:bst N i=b)(hl:ltQ (N.getD i (0,0)) (N.getD b (0,0))=true):bst N (i+1)=i:=θ (.inr (by rw[h];exact hl))
theorem YM(h:bst N i=b)(hl:ltQ (N.getD i (0,0)) (N.getD b (0,0))=false):bst N (i+1)=b:=by
 show (if _ then _ else _)=_
 rw[φ (by rw[h];intro e;rcases e with e|e;omega;rw[υ,hl]at e;exact Bool.noConfusion e),h]
theorem JKL(h:ltQ p q=true):leQ p q=true:=by
 unfold ltQ at h;unfold leQ
 grind
theorem Xtr(h:¬ltQ p q=true):leQ q p=true:=by
 unfold ltQ at h;unfold leQ EL at *
 grind
theorem Yxq(N:List (Nat×Nat)):∀i,0<i->0<=bst N i/\∀j,j<i->leQ (N.getD (bst N i).toNat (0,0)) (N.getD j (0,0))=true
 | 0,h=>absurd h (ζN _)
 | i+1,_=>by
  have hb:=QJ N i;unfold bst;by_cases h0:i=0
  ·subst h0;rw[θ (.inl (by show (-1:Int)<0;omega))]
   exact⟨by decide,λj hj=>by obtain rfl:j=0:=Ω;exact WM _⟩
  ·obtain⟨q1,q2⟩:=Yxq N i Ω
   split
   ·rename_i h;have h:=h.resolve_left Ω;refine⟨by omega,λj hj=>?_⟩;rw[υ];by_cases e:j=i
    ·subst e;exact WM _
    ·exact TJ (JKL h) (q2 j Ω)
   ·rename_i h;simp only[not_or]at h;refine⟨q1,λj hj=>?_⟩;by_cases e:j=i
    ·subst e;exact Xtr h.2
    ·exact q2 j Ω
section
variable{N:List (Nat × Nat)}
theorem CJ.node2{g c:Nat}(h:CJ w S rb room N (.slice (some ⟨g,0,none⟩) N.length c)){j:Nat}(hj:j<N.length):w.cell? ⟨g,j*2,none⟩=some (uU ((N.getD j (0,0)).1:Nat))/\w.cell? ⟨g,j*2+1,none⟩=some (uU ((N.getD j (0,0)).2:Nat)):=⟨BP h.own (Qn9 hj).1,BP h.own (Qn9 hj).2⟩
theorem CJ.node{A:Option Addr}{c:Nat}(h:CJ w S rb room N (.slice A N.length c))(hj:0<N.length):∃g,A=some ⟨g,0,none⟩/\N.length<=c/\g<w.heap.size:=by
 obtain⟨g,c',e,-,h2,-,h4⟩:=ET h.own Ω;cases e;exact⟨g,rfl,h2,h4⟩
theorem PJ(h:CJ w S rb room N v)(hN:N.length<=1000000):Calls prog 91 #[pP rb] w λe w'=>e=.returned (iI (bst N N.length))/\Gr w w':=by
 obtain⟨A,c,rfl,-,hc⟩:=DF h.own;have H:=ι h;clear h;go_enter func91,ntmps91;go_wp2
 go_loopw [3,4] (λs3 s4 wr=>∃i:Nat,i<=N.length/\s3=iI (bst N i)/\s4=iI i/\Hid (Gr w wr)) (λ_ s4 _=>N.length-(intOf s4).toNat)
 case atStart=>exact⟨0,ζc _,rfl,rfl,⟨Gr.refl _⟩⟩
 case round=>
  obtain⟨i,hi,rfl,rfl,HG⟩:=hrel;have hr:=(H.o.gr HG.o);have c0:=hr.row.cc 0;have cl:=hr.row.lt;by_cases Y:i<N.length
  ·obtain⟨g,rfl,hgc,B⟩:=hr.node Ω;obtain⟨n0,n1⟩:=hr.node2 Y;have b1:(i:Int)<N.length:=Ω
   obtain⟨x,hx⟩:∃x,x=N.getD i (0,0):=⟨_,rfl⟩;rw[<-hx]at n0 n1;obtain⟨x1,x2⟩:=x;dsimp only at n0 n1;have HX:=ι hx;have HR:=ι hr;clear hr hx;have Xa:=QJ N i;obtain⟨be,G⟩:∃be,be=bst N i:=⟨_,rfl⟩;rw[<-G]at Xa⊢;have HB:=ι G.symm;clear G;go_upto_region 6 with(fail);clear n0 n1 c0 cl;have E:=(Gr.refl wr).alloc (.cells #[.int .u64 x1,.int .u64 x2] 104);have I:=Rec.new wr 104 [uU x1,uU x2];have J:=ι (HG.o.trans E);have O:=HR.o.gr E;have c0:=O.row.cc 0;have cl:=O.row.lt;obtain⟨y0,y1,yl⟩:=I.k2;have hgl5:g<(wr.alloc (.cells #[.int .u64 x1,.int .u64 x2] 104)).heap.size:=κ B E.size;have L:=λ{j:Nat} (hj:j<N.length)=>O.node2 hj;generalize wr.alloc (.cells #[.int .u64 x1,.int .u64 x2] 104)=w5 at *
   generalize wr.heap.size=q at *
   clear E I O HR HG B;by_cases U:be<0
   ·have d0:decide (be<0)=true:=ξ U;clear L;go_quiet (fail);go_wp2;go_round
    case rel=>exact⟨i+1,by omega,by rw[Xrd (by rw[HB.o];exact U)],by go_num,⟨J.o.drewN _⟩⟩
    case measure=>have:=Y;simp[intOf];omega
   ·have d0:decide (be<0)=false:=ζ U;obtain⟨b,rfl⟩:∃b:Nat,be=b:=⟨be.toNat,by omega⟩;obtain⟨m0,m1⟩:=L (j:=b) Ω;have b2:(b:Int)<N.length:=Ω
    obtain⟨y,hy⟩:∃y,y=N.getD b (0,0):=⟨_,rfl⟩;rw[<-hy]at m0 m1;obtain⟨z1,z2⟩:=y;dsimp only at m0 m1;have HY:=ι hy;clear hy L;have V:=ι (λW=>(Xyj x1 z1 W).mono (λ_ _ h=>(⟨h.1,h.2.symm⟩:_/\_=W)));have Z:=ι (show ltQ (x1,x2) (z1,z2)=(EL x1 z1||((x1==z1)&&decide (x2<z2)))from rfl)
    have e1:((x1:Int)==(z1:Int))=(x1==z1):=by
     cases h:x1==z1
     ·rw[ζy]at h⊢;omega
     ·rw[ζ1]at h⊢;omega
    have e2:decide ((x2:Int)<(z2:Int))=decide (x2<z2):=by
     by_cases h:x2<z2
     ·rw[ξ h,ξ Ω]
     ·rw[ζ h,ζ Ω]
    generalize EL x1 z1=v1 at V Z;generalize (x1==z1)=v2 at e1 Z;generalize e3:decide (x2<z2)=v3 at e2 Z;cases v1
    ·cases v2
     ·go_quiet ((go_at_call 132;exact Calls.quiet_of_same (V.o _)));go_wp2;go_round
      case rel=>exact⟨i+1,by omega,by rw[YM HB.o (by rw[<-HX.o,<-HY.o,Z.o];rfl)],by go_num,⟨J.o.drewN _⟩⟩
      case measure=>have:=Y;simp[intOf];omega
     ·cases v3
      ·go_quiet ((go_at_call 132;exact Calls.quiet_of_same (V.o _)));go_wp2;go_round
       case rel=>exact⟨i+1,by omega,by rw[YM HB.o (by rw[<-HX.o,<-HY.o,Z.o];rfl)],by go_num,⟨J.o.drewN _⟩⟩
       case measure=>have:=Y;simp[intOf];omega
      ·go_quiet ((go_at_call 132;exact Calls.quiet_of_same (V.o _)));go_wp2;go_round
       case rel=>exact⟨i+1,by omega,by rw[Z3 HB.o (by rw[<-HX.o,<-HY.o,Z.o];rfl)],by go_num,⟨J.o.drewN _⟩⟩
       case measure=>have:=Y;simp[intOf];omega
    ·go_quiet ((go_at_call 132;exact Calls.quiet_of_same (V.o _)));go_wp2;go_round
     case rel=>exact⟨i+1,by omega,by rw[Z3 HB.o (by rw[<-HX.o,<-HY.o,Z.o];rfl)],by go_num,⟨J.o.drewN _⟩⟩
     case measure=>have:=Y;simp[intOf];omega
  ·obtain rfl:i=N.length:=Ω
   have b1:¬(N.length:Int)<N.length:=Ω
   clear Y;go_wp2;go_ret;exact⟨rfl,HG.o⟩
end
section
variable{N:List (Nat × Nat)}
theorem Jif(h:CJ w S rb room [] v):Calls prog 51 #[pP rb] w
  λe w'=>e=.returned (.tuple #[.agg #[uU 0,uU 0],iI 6])/\Gr w w':=by
 have HR:=ι (Rec.new w 104 [uU 0,uU 0]);have HG:=ι ((Gr.refl w).alloc (.cells #[.int .u64 0,.int .u64 0] 104));have HF:=ι (PJ (h.gr HG.o) (ζc _));have e0:bst [] 0 = -1:=rfl;simp only[ζX]at HF;rw[e0]at HF;clear h e0;go_enter func51,ntmps51;go_upto_region 2 with(go_at_call 91;refine HF.o.mono ?_;rintro e w1 ⟨rfl,hg⟩;have Y:=ι hg;clear hg);have hr:=HR.o.gr Y.o;have Z:=ι (HG.o.trans Y.o);have k0:=hr.cc 0;have k1:=hr.cc 1;have f0:=hr.free 0;have f1:=hr.free 1;have kl:=hr.lt;have J:=ι hr;clear hr HR HG Y HF;go_wp2;have hr:=(J.o.set 0 (uU 0)).set 1 (uU 0);have hl:=OK hr (by kernel_rfl) (by kernel_rfl);have ht:=((Z.o.touch (λk=>w.heap.size<=k)).setCell (a:=⟨w.heap.size,0,none⟩) (λ_=>ϑ _) (uU 0)).setCell (a:=⟨w.heap.size,1,none⟩) (λ_=>ϑ _) (uU 0);refine ζF (v:=.tuple #[.agg #[uU 0,uU 0],iI 6]) ?_ rfl ⟨rfl,(ht.mono (T:=λ_=>False) (λk hk e=>by omega)).gr⟩;simp[results,results51,asAddr,Result.andThen,hl]
theorem JYX(h:CJ w S rb room [] v):Calls prog 50 #[pP rb] w
  λe w'=>e=.returned (.tuple #[.agg #[uU 0,uU 0],iI 6])/\Gr w w':=by
 have HR:=ι (Rec.new w 104 [uU 0,uU 0]);have HG:=ι ((Gr.refl w).alloc (.cells #[.int .u64 0,.int .u64 0] 104));have HF:=ι (PJ (h.gr HG.o) (ζc _));have e0:bst [] 0 = -1:=rfl;simp only[ζX]at HF;rw[e0]at HF;clear h e0;go_enter func50,ntmps50;go_upto_region 2 with(go_at_call 91;refine HF.o.mono ?_;rintro e w1 ⟨rfl,hg⟩;have Y:=ι hg;clear hg);have hr:=HR.o.gr Y.o;have Z:=ι (HG.o.trans Y.o);have k0:=hr.cc 0;have k1:=hr.cc 1;have f0:=hr.free 0;have f1:=hr.free 1;have kl:=hr.lt;have J:=ι hr;clear hr HR HG Y HF;go_wp2;have hr:=(J.o.set 0 (uU 0)).set 1 (uU 0);have hl:=OK hr (by kernel_rfl) (by kernel_rfl);have ht:=((Z.o.touch (λk=>w.heap.size<=k)).setCell (a:=⟨w.heap.size,0,none⟩) (λ_=>ϑ _) (uU 0)).setCell (a:=⟨w.heap.size,1,none⟩) (λ_=>ϑ _) (uU 0);refine ζF (v:=.tuple #[.agg #[uU 0,uU 0],iI 6]) ?_ rfl ⟨rfl,(ht.mono (T:=λ_=>False) (λk hk e=>by omega)).gr⟩;simp[results,results50,asAddr,Result.andThen,hl]
theorem XB2(h:CJ w S rb room N v)(hN:N.length<=1000000)(hb:bst N N.length=b)(hbl:b<N.length):Calls prog 51 #[pP rb] w
  λe w'=>e=.returned (.tuple #[.agg #[uU ((N.getD b (0,0)).1:Nat),uU ((N.getD b (0,0)).2:Nat)],iI 0])/\Gr w w':=by
 obtain⟨A,c,rfl,-,hc⟩:=DF h.own;obtain⟨g,rfl,hgc,U⟩:=h.node Ω;have HR:=ι (Rec.new w 104 [uU 0,uU 0]);have HG:=ι ((Gr.refl w).alloc (.cells #[.int .u64 0,.int .u64 0] 104));have HF:=ι (PJ (h.gr HG.o) hN);rw[hb]at HF;have Z:=ι (λ(W:World) (gW:Gr w W)=>(h.gr gW).node2 hbl);have H:=ι h;have d0:decide ((b:Int)<0)=false:=ζ Ω;have b1:(b:Int)<N.length:=Ω
 clear h hb;generalize (N.getD b (0,0)).1=x at Z⊢;generalize (N.getD b (0,0)).2=y at Z⊢;go_enter func51,ntmps51;go_upto_region 2 with(go_at_call 91;refine HF.o.mono ?_;rintro e w1 ⟨rfl,hg⟩;have J:=ι hg;clear hg);have hr:=HR.o.gr J.o;have Y:=ι (HG.o.trans J.o);have k0:=hr.cc 0;have k1:=hr.cc 1;have f0:=hr.free 0;have f1:=hr.free 1;have kl:=hr.lt;have V:=ι hr;obtain⟨n0,n1⟩:=Z.o _ Y.o;have c0:=(H.o.row.gr Y.o).cell (j:=0) rfl;have cl:=(H.o.row.gr Y.o).lt;have hgl1:g<w1.heap.size:=κ U Y.o.size;clear hr HR HG J HF Z H U;go_wp2;have hr:=(V.o.set 0 (uU (x:Nat))).set 1 (uU (y:Nat));have hl:=OK hr (by kernel_rfl) (by kernel_rfl);have ht:=((Y.o.touch (λk=>w.heap.size<=k)).setCell (a:=⟨w.heap.size,0,none⟩) (λ_=>ϑ _) (uU (x:Nat))).setCell (a:=⟨w.heap.size,1,none⟩) (λ_=>ϑ _) (uU (y:Nat));refine ζF (v:=.tuple #[.agg #[uU (x:Nat),uU (y:Nat)],iI 0]) ?_ rfl ⟨rfl,(ht.mono (T:=λ_=>False) (λk hk e=>by omega)).gr⟩;simp[results,results51,asAddr,Result.andThen,hl]
end
section
variable{N:List (Nat × Nat)}
theorem Xwn(N:List (Nat×Nat)):∀u∈ndC N,u.oneCell'=true:=by
 intro u hu;unfold ndC at hu;obtain⟨a,-,ha⟩:=List.mem_flatMap.1 hu;simp only[ζD,ξW,or_false]at ha;rcases ha with rfl|rfl <;> rfl
theorem YQ(g a p:Nat):Addr.add ⟨g,a,none⟩ p=⟨g,a+p,none⟩:=by
 unfold Addr.add
 split <;> simp_all
theorem CJ.front{g c:Nat}(h:CJ w S rb room N (.slice (some ⟨g,0,none⟩) N.length c))(b:Nat):∀p u,(ndC (N.take b))[p]?=some u->w.cell? (Addr.add ⟨g,0,none⟩ p)=some u:=λp u hp=>by
 rw[YQ,ξq];refine BP h.own ?_;rw[<-ξH b N,Q2,ζQ (List.getElem?_eq_some_iff.1 hp).1];exact hp
theorem CJ.back{g c:Nat}(h:CJ w S rb room N (.slice (some ⟨g,0,none⟩) N.length c))(hb:b<=N.length):∀p u,(ndC (N.drop b))[p]?=some u->w.cell? (Addr.add ⟨g,b*2,none⟩ p)=some u:=λp u hp=>by
 rw[YQ];refine BP h.own ?_;have e:(ndC (N.take b)).length=b*2:=by rw[UN,ψm];omega
 rw[<-ξH b N,Q2,ζV Ω,e,ξz];exact hp
theorem VUB(h:CJ w S rb room N v)(hN:N.length<=1000000)(hb:bst N N.length=b)(hbl:b<N.length):Calls prog 50 #[pP rb] w
  λe w'=>e=.returned (.tuple #[.agg #[uU ((N.getD b (0,0)).1:Nat),uU ((N.getD b (0,0)).2:Nat)],iI 0])/\RqO w S rb room (N.take b++N.drop (b+1)) w':=by
 obtain⟨A,c,rfl,-,hc⟩:=DF h.own;obtain⟨g,rfl,Ze,Ys⟩:=h.node Ω;obtain⟨i0,hi,Yi,Ye,Yl⟩:=info_parts XSe;have HR:=ι (Rec.new w 104 [uU 0,uU 0]);have HG:=ι ((Gr.refl w).alloc (.cells #[.int .u64 0,.int .u64 0] 104));have HF:=ι (PJ (h.gr HG.o) hN);rw[hb]at HF;have Xf:=ι (λ(W:World) (gW:Gr w W)=>(h.gr gW).node2 hbl);have Yz:=ι (λ(W:World) (gW:Gr w W)=>(h.gr gW).front b);have Yx:=ι (λ(W:World) (gW:Gr w W)=>(h.gr gW).back (b:=b+1) hbl);have H:=ι h;have d0:decide ((b:Int)<0)=false:=ζ Ω;have b1:(b:Int)<N.length:=Ω
 have Yf:=(h.sn g rfl);have Xz:=h.row.lt;clear h hb;generalize (N.getD b (0,0)).1=x at Xf⊢;generalize (N.getD b (0,0)).2=y at Xf⊢;have Xx:(ndC (N.take b)).length=b*2:=by rw[UN,ψm];omega
 have Yp:(ndC (N.drop (b+1))).length=(N.length-(b+1))*2:=by rw[UN,List.length_drop]
 have Yq:=ι Xx;have Zd:=ι Yp;clear Xx Yp;have Xy:=Xwn (N.take b);have Ya:=Xwn (N.drop (b+1));have Za:=ι Xy;have Yw:=ι Ya;clear Xy Ya;have HGS:=ι Yf;have Ym:=ι Xz;clear Yf Xz;go_enter func50,ntmps50;go_upto_region 2 with(go_at_call 91;refine HF.o.mono ?_;rintro e w1 ⟨rfl,hg⟩;have Xo:=ι hg;clear hg);have B:=ι (HG.o.trans Xo.o);have Xi:=ι (HR.o.gr Xo.o);obtain⟨n0,n1⟩:=Xf.o _ B.o;have c0:=(H.o.row.gr B.o).cell (j:=0) rfl;have cl:=(H.o.row.gr B.o).lt;have Yb:g<w1.heap.size:=κ Ys B.o.size;clear HR HF;go_upto_region 5 with(fail);have Xp:=B.o.alloc (.cells #[.int .u64 (x:Nat),.int .u64 (y:Nat)] 104);have Xr:=Xi.o.gr ((Gr.refl _).alloc (.cells #[.int .u64 (x:Nat),.int .u64 (y:Nat)] 104));have Xs:=Rec.new w1 104 [uU (x:Nat),uU (y:Nat)];have Xm:=χ w1 (.cells #[.int .u64 (x:Nat),.int .u64 (y:Nat)] 104);obtain⟨w5,Xa⟩:∃w5,w5=w1.alloc (.cells #[.int .u64 (x:Nat),.int .u64 (y:Nat)] 104):=⟨_,rfl⟩;obtain⟨ob,E⟩:∃ob,ob=w.heap.size:=⟨_,rfl⟩;obtain⟨sb,G⟩:∃sb,sb=w1.heap.size:=⟨_,rfl⟩;rw[<-Xa,<-E]at Xr;rw[<-Xa,<-G]at Xs;rw[<-Xa,<-G]at Xm;rw[<-Xa]at Xp⊢;rw[<-G,<-E];have Xw:ob<sb:=by rw[E,G];exact Xi.o.lt
 have Yg:=ι Xw;have Xq:=ι E;have Yc:=ι Xm;have V:=ι Xp;have Yh:=ι Xr;have Xv:=ι Xs;clear Xa E G Xr Xs Xm Xp Xw Xi n0 n1 c0 cl Yb Xo Xf;have c0:=(H.o.row.gr V.o).cell (j:=0) rfl;have cl:=(H.o.row.gr V.o).lt;go_upto_region 6 with(fail);have hcN:N.length<=c:=Ze;have hbc:(b:Int)<=c:=Ω
 go_upto_region 7 with(at_builtin;refine wpList_append_own_at _ rfl _ _ 55 rfl 0 104 i0 _ 2 16 underlying55 hi Yi Ye Yl rfl (by decide) (.slice none 0 0) 0 [] rfl ⟨rfl,.inl ⟨rfl,rfl⟩⟩ ⟨g,0,none⟩ b c (ndC (N.take b)) rfl Yq.o (Yz.o _ V.o) Za.o (by unfold maxLen;omega) Ω (ζc _) ?_;intro v6 w6 Z Y _ J;have O:=ι (EC Y (λ_=>False) (λk e _=>by cases e)).gr;have Xg:=ι Z;have Xt:=ι J;clear Z Y J;replace c0:=(H.o.row.gr (V.o.trans O.o)).cell (j:=0) rfl;replace cl:=(H.o.row.gr (V.o.trans O.o)).lt);have I:=Xg.o;rw[ξq,ζU]at I;have Yd:=ι I;clear I Xg;have b3:(b:Int)+1<=N.length:=Ω
 have Yj:∀q,v6.ownBlock=some q->q=w5.heap.size:=λq hq=>by
  rcases Xt.o with e|e
  ·rw[e]at hq;cases hq
  ·rw[e]at hq;exact(Option.some.inj hq).symm
 have Xu:=ι Yj;clear Yj;obtain⟨A6,c6,rfl,-,-⟩:=DF Yd.o
 have Xc:∃ad,(if c=b+1 then some (⟨g,0,none⟩:Addr)else some ⟨g,(b+1)*2,none⟩)=some ad/\∀W,Gr w W->∀p u,(ndC (N.drop (b+1)))[p]?=some u->W.cell? (Addr.add ad p)=some u:=by
  by_cases e:c=b+1
  ·rw[θ e];refine⟨_,rfl,λW gW p u hp=>?_⟩;rw[List.drop_eq_nil_of_le Ω]at hp;cases hp
  ·rw[φ e];exact⟨_,rfl,Yx.o⟩
 obtain⟨ad,Xc,Yn⟩:=Xc;have Zc:=ι Yn;have Yk:=ι Xc;clear Yn Xc;go_upto_region 8 with(at_builtin;refine wpList_append_own_at _ rfl _ _ 55 rfl 0 104 i0 _ 2 16 underlying55 hi Yi Ye Yl rfl (by decide) (.slice A6 b c6) b (ndC (N.take b)) rfl Yd.o ad (N.length-(b+1)) (c-(b+1)) (ndC (N.drop (b+1))) (congrArg (λt=>Value.slice t (N.length-(b+1)) (c-(b+1))) Yk.o) Zd.o (Zc.o _ (V.o.trans O.o)) Yw.o (by unfold maxLen;omega) Ω (ζc _) ?_;intro v7 w7 Z Y _ J;obtain⟨A7,c7,rfl,-,-⟩:=DF Z;have Xb:=ι (EC Y (λk=>k=w5.heap.size) (λk e _=>Xu.o k e));have Yy:=ι Z;have Yt:=ι J;clear Z Y J;have Xd:=ι ((H.o.row.gr (V.o.trans O.o)).touch Xb.o (λe=>by have h1:=Ym.o;have h2:=Xq.o;have h3:=Yg.o;have h4:=Yc.o;omega));replace c0:=Xd.o.cc 0;replace c1:=Xd.o.free 0;replace cl:=Xd.o.lt);rw[Yk.o];have Xj:rb<ob/\ob<sb/\sb<w5.heap.size:=by have h1:=Ym.o;have h2:=Xq.o;have h3:=Yg.o;have h4:=Yc.o;omega
 have h7:∀q,(Value.slice A7 (b+(N.length-(b+1))) c7).ownBlock=some q->w5.heap.size<=q:=λq hq=>by
  rcases Yt.o with e|e
  ·rw[e]at hq;exact ξl (Xu.o q hq).symm
  ·rw[e]at hq;have h8:=Option.some.inj hq;have h9:=O.o.size;omega
 have Xe:=(AB.refl (λk=>k=rb) w7).setCell (a:=⟨rb,0,none⟩) (λ_=>rfl) (.slice A7 (b+(N.length-(b+1))) c7);have Xk:=BV Yy.o Xe (λq hq e=>by have:=h7 q hq;omega);have Xl:=Xd.o.set 0 (.slice A7 (b+(N.length-(b+1))) c7);have U:=((Yh.o.gr O.o).touch Xb.o (λe=>by omega)).touch Xe (λe=>by omega);have L:=((Xv.o.gr O.o).touch Xb.o (λe=>by omega)).touch Xe (λe=>by omega);have Xh:AB (λk=>S k\/ob<=k) w (w7.setCell ⟨rb,0,none⟩ (.slice A7 (b+(N.length-(b+1))) c7)):=(((V.o.trans O.o).touch _).trans (Xb.o.mono (λk _ e=>.inr Ω))).setCell (a:=⟨rb,0,none⟩) (λ_=>.inl H.o.sr) _;obtain⟨w8,Yo⟩:∃w8,w8=w7.setCell ⟨rb,0,none⟩ (.slice A7 (b+(N.length-(b+1))) c7):=⟨_,rfl⟩;rw[<-Yo]at Xk Xl U L Xh⊢;have Zb:=ι Xk;have Yr:=ι Xl;have Zf:=ι U;have Yu:=ι Xh;have H7:=ι h7;have k0:=U.cc 0;have k1:=U.cc 1;have f0:=U.free 0;have f1:=U.free 1;have kl:=U.lt;obtain⟨m0,m1,ml⟩:=L.k2;have Yv:=ι Xj;clear Xe Xk Xl U L Xh Yo h7 Xj c0 c1 cl;go_wp2;have hr:=(Zf.o.set 0 (uU (x:Nat))).set 1 (uU (y:Nat));have hl:=OK hr (by kernel_rfl) (by kernel_rfl);have Xn:=((AB.refl (λk=>k=ob) w8).setCell (a:=⟨ob,0,none⟩) (λ_=>rfl) (uU (x:Nat))).setCell (a:=⟨ob,1,none⟩) (λ_=>rfl) (uU (y:Nat));have Xj:=Yv.o;have E:=Xq.o;have e1:(N.take b++N.drop (b+1)).length=b+(N.length-(b+1)):=by rw[ζo,ψm,List.length_drop];omega
 refine ζF (v:=.tuple #[.agg #[uU (x:Nat),uU (y:Nat)],iI 0]) ?_ rfl ⟨rfl,?_,_,Yr.o.touch Xn (λe=>by omega),?_,.inl H.o.sr,λq hq=>?_⟩
 ·simp[results,results50,asAddr,Result.andThen,hl]
 ·exact(Yu.o.trans (Xn.mono (λk _ e=>.inr Ω))).mono (λk hk e=>e.elim id (λe=>absurd hk Ω))
 ·rw[e1,Q2];exact BV Zb.o Xn (λq hq e=>by have:=H7.o q hq;omega)
 ·have:=H7.o q hq;exact⟨.inr Ω,by omega⟩
end
theorem XxL(sl x0 x1 x2 x3 x4 x5:Int)(w:World):Calls prog 20 #[iI sl,.agg #[iI x0,iI x1,iI x2,iI x3,iI x4,iI x5]] w
  λe w'=>e=.returned (iI (DR sl [x0,x1,x2,x3,x4,x5]))/\Gr w w':=by
 have hr:=Rec.new w 51 [iI x0,iI x1,iI x2,iI x3,iI x4,iI x5];have hg:=(Gr.refl w).alloc (.cells #[.int .i64 x0,.int .i64 x1,.int .i64 x2,.int .i64 x3,.int .i64 x4,.int .i64 x5] 51);have HC:Hid (∀V,Gr (w.alloc (.cells #[.int .i64 x0,.int .i64 x1,.int .i64 x2,.int .i64 x3,.int .i64 x4,.int .i64 x5] 51)) V->∀j,j<6->V.cell? ⟨w.heap.size,j,none⟩=some (iI ([x0,x1,x2,x3,x4,x5].getD j 0))/\w.heap.size<V.heap.size):=⟨λV gV j hj=>⟨(hr.gr gV).cell (by rcases(by omega:j=0\/j=1\/j=2\/j=3\/j=4\/j=5)with rfl|rfl|rfl|rfl|rfl|rfl <;> rfl),(hr.gr gV).lt⟩⟩;have HL:=ι (show [x0,x1,x2,x3,x4,x5].length=6 from rfl);have Z:=ι hg;clear hr hg;generalize hL:[x0,x1,x2,x3,x4,x5]=L at HC HL⊢;clear hL;go_enter func20,ntmps20;go_upto_region 2 with(fail);generalize w.alloc (.cells #[.int .i64 x0,.int .i64 x1,.int .i64 x2,.int .i64 x3,.int .i64 x4,.int .i64 x5] 51)=w3 at *
 generalize w.heap.size=q at *
 go_loopw [5] (λs5 wr=>∃k:Nat,k<=6/\s5=iI k/\Hid (Gr w3 wr)/\Hid (∀j,j<k->0<=L.getD j 0/\L.getD j 0<sl)) (λs5 _=>6-(intOf s5).toNat)
 case atStart=>exact⟨0,by omega,rfl,⟨Gr.refl _⟩,⟨λj hj=>absurd hj (ζC _)⟩⟩
 case round=>
  obtain⟨k,hk,rfl,HG,HA⟩:=hrel;by_cases Y:k<6
  ·obtain⟨z0,zl⟩:=HC.o _ HG.o k Y;have E:(k:Int)<6:=Ω
   generalize hx:L.getD k 0=x at z0;by_cases U:x<0
   ·have d0:decide (x<0)=true:=ξ U;go_wp2;go_ret;exact⟨by rw[P6 (by rw[HL.o];exact Y) (.inl (by rw[hx];exact U))];rfl,Z.o.trans HG.o⟩
   ·have d0:decide (x<0)=false:=ζ U;by_cases O:sl<=x
    ·have d1:decide (sl<=x)=true:=ξ O;go_wp2;go_ret;exact⟨by rw[P6 (by rw[HL.o];exact Y) (.inr (by rw[hx];exact O))];rfl,Z.o.trans HG.o⟩
    ·have d1:decide (sl<=x)=false:=ζ O;go_wp2;go_round
     case rel=>exact⟨k+1,by omega,by go_num,HG,⟨λj hj=>by rcases ξw.1 hj with h|rfl;exact HA.o j h;rw[hx];exact⟨by omega,by omega⟩⟩⟩
     case measure=>have:=Y;simp[intOf];omega
  ·obtain rfl:k=6:=Ω
   clear Y hk;go_upto_region 7 with(fail)
   go_loopw [6,7] (λs6 _ wq=>∃k:Nat,k<=6/\s6=iI k/\Hid (Gr w3 wq)/\Hid (∀i,i<k->∀j,j<i->L.getD i 0≠L.getD j 0)) (λs6 _ _=>6-(intOf s6).toNat)
   case atStart=>exact⟨0,by omega,rfl,HG,⟨λj hj=>absurd hj (ζC _)⟩⟩
   case round=>
    clear HG;obtain⟨k,hk,rfl,HG,HD⟩:=hrel;by_cases Y:k<6
    ·obtain⟨z0,zl⟩:=HC.o _ HG.o k Y;have E:(k:Int)<6:=Ω
     obtain⟨x,hx⟩:∃x,x=L.getD k 0:=⟨_,rfl⟩;rw[<-hx]at z0;have HX:=ι hx;clear hx z0;go_upto_region 10 with(fail)
     go_loopw [7] (λs7 wp=>∃m:Nat,m<=k/\s7=iI m/\Hid (Gr w3 wp)/\Hid (∀j,j<m->x≠L.getD j 0)) (λs7 _=>k-(intOf s7).toNat)
     case atStart=>exact⟨0,by omega,rfl,HG,⟨λj hj=>absurd hj (ζC _)⟩⟩
     case round=>
      clear HG zl;obtain⟨m,hm,rfl,HG,HE⟩:=hrel;obtain⟨z0,zl⟩:=HC.o _ HG.o k Y;rw[<-HX.o]at z0;by_cases I:m<k
      ·obtain⟨y0,yl⟩:=HC.o _ HG.o m Ω;have hmI:(m:Int)<k:=Ω
       have hm6:(m:Int)<6:=Ω
       obtain⟨y,hy⟩:∃y,y=L.getD m 0:=⟨_,rfl⟩;rw[<-hy]at y0;have HY:=ι hy;clear hy;by_cases J:x=y
       ·have d0:(x==y)=true:=ζ1.2 J;go_upto_region 12 with(fail);go_quiet (fail);go_wp2;go_ret;exact⟨by rw[XHt (k:=k) (m:=m) (by rw[HL.o];exact Y) (λj hj=>HA.o j (by rw[<-HL.o];exact hj)) I (by rw[<-HX.o,<-HY.o];exact J)];rfl,(Z.o.trans HG.o).drewN _⟩
       ·have d0:(x==y)=false:=ζy.2 J;go_upto_region 12 with(fail);go_quiet (fail);go_wp2;go_round
        case rel=>exact⟨m+1,by omega,by go_num,⟨HG.o.drewN _⟩,⟨λj hj=>by rcases ξw.1 hj with h|rfl;exact HE.o j h;rw[<-HY.o];exact J⟩⟩
        case measure=>have:=I;simp[intOf];omega
      ·obtain rfl:m=k:=Ω
       go_wp2;go_round
       case rel=>exact⟨m+1,by omega,by go_num,HG,⟨λi hi=>by rcases ξw.1 hi with h|rfl;exact HD.o i h;rw[<-HX.o];exact HE.o⟩⟩
       case measure=>have:=Y;simp[intOf];omega
    ·obtain rfl:k=6:=Ω
     go_wp2;go_ret;exact⟨by rw[TQ (λj hj=>HA.o j (by rw[<-HL.o];exact hj)) (λi hi=>HD.o i (by rw[<-HL.o];exact hi))];rfl,Z.o.trans HG.o⟩
section
variable{t:Nat}
theorem BQ.lt(h:BQ w0 K c hb qb r a b t d s M w):qb<w.heap.size:=by
 obtain⟨⟨g,T,a,b⟩,hc⟩:=h;exact a.row.lt
theorem BQ.wr(h:BQ w0 K c hb qb r a b t d s M w)(t':AB R w w')(hR:∀k,R k->K k/\w0.heap.size<=k/\k≠qb)(ht:1<w0.heap.size):BQ w0 (λk=>K k\/(w.heap.size<=k/\k<w'.heap.size)) c hb qb r a b t d s M w':=by
 obtain⟨⟨g,T,q,p⟩,hc⟩:=h;exact⟨⟨g,T,⟨q.hv.wr t' (λk hk=>⟨(hR k hk).1,(hR k hk).2.1⟩) ht,q.row.touch t' (λe=>(hR qb e).2.2 rfl),.inl q.kl,q.ql,q.tb⟩,p⟩,hc⟩
end
structure P40(w0:World)(X:Nat->Prop)(c:HCf)(hb qb rb r a b t d s:Nat)(M N:List (Nat×Nat))(w:World):Prop where
 ex:∃K R:Nat->Prop,BQ w0 K c hb qb r a b t d s M w/\V6f w R rb (c.wd/5:Nat) N/\(∀k,R k->K k/\w0.heap.size<=k/\k≠qb)/\∀k,X k->K k/\w0.heap.size<=k/\k≠qb/\¬R k
 tb:1<w0.heap.size
section
variable{t:Nat}{N:List (Nat × Nat)}
theorem P40.own(h:P40 w0 X c hb qb rb r a b t d s M N w)(g:Gr w w')(hX:∀k,X' k->X k\/(w.heap.size<=k/\k<w'.heap.size)):P40 w0 X' c hb qb rb r a b t d s M N w':=by
 obtain⟨⟨K,R,h1,⟨x,h2⟩,h3,h4⟩,ht⟩:=h;have hz:=h1.grew.size;have hw:=h1.wr (g.touch (λ_=>False)) (λ_ h=>h.elim) ht;have hlb:=h1.lt;refine⟨⟨_,_,hw,⟨x,h2.cut.gr g⟩,λk hk=>⟨.inl (h3 k hk.1).1,(h3 k hk.1).2⟩,λk hk=>?_⟩,ht⟩;rcases hX k hk with h|h
 ·obtain⟨q1,q2,q3,q4⟩:=h4 k h;exact⟨.inl q1,q2,q3,λh=>q4 h.1⟩
 ·exact⟨.inr h,by omega,by omega,λe=>by have:=e.2;omega⟩
theorem P40.gr(h:P40 w0 X c hb qb rb r a b t d s M N w)(g:Gr w w'):P40 w0 X c hb qb rb r a b t d s M N w':=h.own g (λ_ h=>.inl h)
theorem P40.sub(h:P40 w0 X c hb qb rb r a b t d s M N w)(hX:∀k,X' k->X k):P40 w0 X' c hb qb rb r a b t d s M N w:=h.own (Gr.refl _) (λk h=>.inl (hX k h))
theorem P40.grew(h:P40 w0 X c hb qb rb r a b t d s M N w):Gr w0 w:=by
 obtain⟨⟨K,R,h1,h2,h3⟩,ht⟩:=h;exact h1.grew
theorem P40.lt(h:P40 w0 X c hb qb rb r a b t d s M N w)(hk:X k):k<w.heap.size:=by
 obtain⟨⟨K,R,⟨⟨g,T,q,p⟩,hq⟩,h2,h3,h4⟩,ht⟩:=h;exact q.hv.kl k (h4 k hk).1
theorem P40.wr(h:P40 w0 X c hb qb rb r a b t d s M N w)(t':AB X w w'):P40 w0 X c hb qb rb r a b t d s M N w':=by
 obtain⟨⟨K,R,h1,⟨x,h2⟩,h3,h4⟩,ht⟩:=h;have hz:=h1.grew.size;refine⟨⟨_,_,h1.wr t' (λk hk=>⟨(h4 k hk).1,(h4 k hk).2.1,(h4 k hk).2.2.1⟩) ht,⟨x,h2.touch t' (λk hk e=>(h4 k e).2.2.2 hk)⟩,λk hk=>⟨.inl (h3 k hk).1,(h3 k hk).2⟩,λk hk=>⟨.inl (h4 k hk).1,(h4 k hk).2⟩⟩,ht⟩
def EH(w0:World)(X:Nat->Prop)(c:HCf)(hb qb rb r a b t d s:Nat)(w:World)(v:Value)(M' N':List (Nat×Nat))(e:Ending)(w':World):Prop:=e=.returned v/\AB (λk=>¬X k) w w'/\P40 w0 X c hb qb rb r a b t d s M' N' w'
theorem P40.qu(h:P40 w0 X c hb qb rb r a b t d s M N w)(hc:∀K,BQ w0 K c hb qb r a b t d s M w->Calls prog f args w (L6 w0 K c hb qb r a b t d s w v M')):Calls prog f args w (EH w0 X c hb qb rb r a b t d s w v M' N):=by
 obtain⟨⟨K,R,h1,⟨x,h2⟩,h3,h4⟩,ht⟩:=h;refine(hc K h1).mono ?_;rintro e w' ⟨rfl,t',hl⟩;exact⟨rfl,t'.mono (λk _ e hx=>e.elim (λe=>e.2 (h4 k hx).1) (h4 k hx).2.2.1),⟨K,R,hl,⟨x,h2.touch t' (λk hk e=>e.elim (λe=>e.2 (h3 k hk).1) (h3 k hk).2.2)⟩,h3,h4⟩,ht⟩
theorem P40.rf(h:P40 w0 X c hb qb rb r a b t d s M N w)(hc:∀R x,CJ w R rb (c.wd/5:Nat) N x->Calls prog f args w λe w'=>e=.returned v/\RqO w R rb (c.wd/5:Nat) N' w'):Calls prog f args w (EH w0 X c hb qb rb r a b t d s w v M N'):=by
 have hX:=λk=>h.lt (k:=k);obtain⟨⟨K,R,h1,⟨x,h2⟩,h3,h4⟩,ht⟩:=h;refine(hc R x h2).mono ?_;rintro e w' ⟨rfl,t',⟨y,hl⟩⟩;have hz:=h1.grew.size;have hlb:=h1.lt;refine⟨rfl,t'.mono (λk _ e hx=>(h4 k hx).2.2.2 e),⟨_,_,h1.wr t' h3 ht,⟨y,hl.cut⟩,λk hk=>?_,λk hk=>⟨.inl (h4 k hk).1,(h4 k hk).2.1,(h4 k hk).2.2.1,λe=>e.1.elim (h4 k hk).2.2.2 (λh=>by have:=hX k hk;omega)⟩⟩,ht⟩;rcases hk.1 with h|h
 ·exact⟨.inl (h3 k h).1,(h3 k h).2⟩
 ·exact⟨.inr ⟨h,hk.2⟩,by omega,by omega⟩
theorem P40.rd(h:P40 w0 X c hb qb rb r a b t d s M N w)(hc:∀R x,CJ w R rb (c.wd/5:Nat) N x->Calls prog f args w λe w'=>e=.returned v/\Gr w w'):Calls prog f args w (EH w0 X c hb qb rb r a b t d s w v M N):=by
 have h':=h;obtain⟨⟨K,R,h1,⟨x,h2⟩,h3⟩,ht⟩:=h;refine(hc R x h2).mono ?_;rintro e w' ⟨rfl,g⟩;exact⟨rfl,g.touch _,h'.gr g⟩
theorem P40.len_le(h:P40 w0 X c hb qb rb r a b t d s M N w):M.length<=1000000:=by
 obtain⟨⟨K,R,h1,h2,h3⟩,ht⟩:=h;exact h1.len_le
end
theorem Vuk{M:List (Nat×Nat)}{f:Nat}(hp:M.Perm N)(hm:(f,u)∈M)(hl:∀p∈M,leQ (f,u) p=true):∃b:Nat,bst N N.length=b/\b<N.length/\N.getD b (0,0)=(f,u):=by
 have hn:0<N.length:=List.length_pos_of_mem (hp.mem_iff.1 hm);obtain⟨q1,q2⟩:=Yxq N N.length hn;have q3:=(QJ N N.length).2;obtain⟨b,hb⟩:∃b:Nat,bst N N.length=b:=⟨(bst N N.length).toNat,by omega⟩;rw[hb]at q2 q3;have Y:b<N.length:=Ω
 refine⟨b,hb,Y,?_⟩;rw[υ]at q2;have e1:N.getD b (0,0)=N[b]:=by rw[β,ω Y];rfl
 obtain⟨i,hi,e⟩:=ζm (hp.mem_iff.1 hm);have e2:N.getD i (0,0)=(f,u):=by rw[β,ω hi];exact e
 have h1:=q2 i hi;rw[e2]at h1;exact XSS h1 (hl _ (by rw[e1];exact hp.mem_iff.2 (μ Y)))
theorem Xrb(hb:b<N.length):N.Perm (N.getD b (0,0) :: (N.take b++N.drop (b+1))):=by
 have e1:N.getD b (0,0)=N[b]:=by rw[β,ω hb];rfl
 rw[e1];have h:=ξH b N;rw[ξu hb]at h;exact(List.Perm.of_eq h.symm).trans List.perm_middle
section
variable{t:Nat}{N:List (Nat × Nat)}
theorem P40.len_le2(h:P40 w0 X c hb qb rb r a b t d s M N w)(hp:M.Perm N):N.length<=1000000:=by
 rw[<-hp.length_eq];exact h.len_le
theorem P40.pop2(h:P40 w0 X c hb qb rb r a b t d s M N w)(hp:M.Perm N)(hM:M≠[]):∃(f u:Nat) (M' N':List (Nat×Nat)),M'.Perm N'/\M.Perm ((f,u) :: M') ∧
  Calls prog 7 #[pP qb] w (EH w0 X c hb qb rb r a b t d s w (.tuple #[.float .f64 f,uU u,iI 0]) M' N) ∧
  ∀W,P40 w0 X c hb qb rb r a b t d s M' N W->Calls prog 50 #[pP rb] W (EH w0 X c hb qb rb r a b t d s W (.tuple #[.agg #[uU f,uU u],iI 0]) M' N'):=by
 have hN:=h.len_le2 hp;obtain⟨⟨K,R,h1,h2,h3,h4⟩,ht⟩:=h;obtain⟨f,u,M',e1,hl,hc⟩:=h1.pop hM;obtain⟨j,J,Y,Z⟩:=Vuk hp (e1.mem_iff.2 (ζh ..)) hl;have hcut:=Xrb Y;rw[Z]at hcut;refine⟨f,u,M',N.take j++N.drop (j+1),(e1.symm.trans (hp.trans hcut)).cons_inv,e1,?_,λW hW=>hW.rf λR x hr=>?_⟩
 ·obtain⟨x,h2⟩:=h2;refine hc.mono ?_;rintro e w' ⟨rfl,t',hl⟩;exact⟨rfl,t'.mono (λk _ e hx=>e.elim (λe=>e.2 (h4 k hx).1) (h4 k hx).2.2.1),⟨K,R,hl,⟨x,h2.touch t' (λk hk e=>e.elim (λe=>e.2 (h3 k hk).1) (h3 k hk).2.2)⟩,h3,h4⟩,ht⟩
 ·have hq:=VUB hr hN J Y;rw[Z]at hq;exact hq
theorem P40.peek2(h:P40 w0 X c hb qb rb r a b t d s M N w)(hp:M.Perm N)(hM:M≠[]):∃(f u:Nat),
  Calls prog 8 #[pP qb] w (EH w0 X c hb qb rb r a b t d s w (.tuple #[.float .f64 f,uU u,iI 0]) M N) ∧
  ∀W,P40 w0 X c hb qb rb r a b t d s M N W->Calls prog 51 #[pP rb] W (EH w0 X c hb qb rb r a b t d s W (.tuple #[.agg #[uU f,uU u],iI 0]) M N):=by
 have hN:=h.len_le2 hp;obtain⟨⟨K,R,h1,h2,h3,h4⟩,ht⟩:=h;obtain⟨f,u,e1,hl,hc⟩:=h1.peek hM;obtain⟨j,J,Y,Z⟩:=Vuk hp e1 hl;refine⟨f,u,?_,λW hW=>hW.rd λR x hr=>?_⟩
 ·obtain⟨x,h2⟩:=h2;refine hc.mono ?_;rintro e w' ⟨rfl,t',hl⟩;exact⟨rfl,t'.mono (λk _ e hx=>e.elim (λe=>e.2 (h4 k hx).1) (h4 k hx).2.2.1),⟨K,R,hl,⟨x,h2.touch t' (λk hk e=>e.elim (λe=>e.2 (h3 k hk).1) (h3 k hk).2.2)⟩,h3,h4⟩,ht⟩
 ·have hq:=XB2 hr hN J Y;rw[Z]at hq;exact hq
end
end Go.Proofs.YtggjoonlcjjgkaaGreatDoor
