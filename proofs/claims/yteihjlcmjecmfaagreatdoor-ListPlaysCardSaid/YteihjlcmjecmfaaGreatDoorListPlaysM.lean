/- Part 13 of what ListPlays leans on: my own lemmas, merged by shake.py. -/
import Derived.Test.YteihjlcmjecmfaaGreatDoorListPlaysL
namespace Go.Proofs.YteihjlcmjecmfaaGreatDoor
open _root_.Go.Proofs.Tryz
set_option maxHeartbeats 6400000
set_option maxRecDepth 100000
open Go.RowKit Go.Shelf Word
section
variable {w w':World} {c:HCf} {g g':Gph} {s:HSt}
theorem HIn.mrun(h:HIn w c g s){W:World}(gr:Gr w W){m p1 b1 p2 b2 g1 cp:Nat}(hE:Ext W m p1 b1 p2 b2 c.n [])(hm:w.heap.size<=m/\w.heap.size<=p1/\w.heap.size<=b1/\w.heap.size<=p2/\w.heap.size<=b2)(ho:W.ownsRow 0 3 1 (.slice (some ⟨g1,0,none⟩) (s.rs g).length cp) (s.rs g).length (zs (s.rs g)))(hg1:¬AM m b1 b2 g1):
  Calls prog 53 #[.iface 111 (.agg #[pP s.A.hp]),.slice (some ⟨g1,0,none⟩) (s.rs g).length cp,pP m,iI c.st] W λe w'=>
   (∃r vi:Int,e=.returned (.tuple #[.agg #[iI (g.all.length:Nat),iI (g.words:Nat),iI r,iI vi],iI 0]))/\AB (AM m b1 b2) W w':=by
 have hst:=h.cok.st
 have hn:s.top<=c.n:=by
  have h1:=(Q9 h.cok).1;have h2:=h.bt;have h3:=h.cok.kd;unfold HCf.n;rcases h.bs with e|⟨e,e2⟩
  ·split <;> omega
  ·rw[κ e2];omega
 have hS:=h.soundN hn;obtain⟨L0,hM0,-,-,-,hz0,hl0⟩:=h.rch hn
 have Y:(s.rs g).length<=maxLen:=by
  have:=h.sl;have:=h.cok.sl;unfold maxLen;unfold HSt.rs;rw[ξ1];omega
 have V:=HSt.cut_S h;have Z:=h.com.lt.2.2.2.2;have hI:=h.lk (λ_=>False);obtain⟨hI1,J,U⟩:=hI;have M:(spL c g (s.cut w)).I s.u (λ_=>False) W:=⟨rfl,J.gr gr,λk hk=>υ (U k hk) gr.size⟩;refine(Xbg (z:=spL c g (s.cut w)) (SV:=λ_=>False) (v:=s.u) (rs:=s.rs g) (room:=c.st) ⟨ZQv ..,id⟩ (.inl hS) (λa ha=>?_) (λi hi=>?_) M hE (gr.tab Z h.com.tab) (λi hi=>?_) Y (λ_ h=>h.elim) id id id (λe=>?_)).mono ?_
 ·obtain⟨x,hx,rfl⟩:=h.img.rch h.gok ha;exact⟨λh0=>h.rdP (.inr hx) h0,λi h0=>h.fdP (.inr hx) i (by decide) h0⟩
 ·have O:i<w.heap.size:=by
   rcases hi with hi|hi
   ·exact(V i hi).2
   ·rw[hi];exact Z
  exact⟨υ O gr.size,λe=>by rcases e with e|e|e <;> omega⟩
 ·exact⟨g1,0,rfl,(A9 ho rfl).2,hg1,by rw[ξs];exact BM ho (LS hi)⟩
 ·rcases e with e|e|e <;> omega
 ·rintro e w' (⟨h1,-⟩|⟨-,-,ht,-,(⟨L,r,vi,rfl,-,hM,-⟩|⟨rfl,-,hs⟩)⟩)
  ·omega
  ·have e1:=h.img.words h.gok hM;have e2:=h.img.count h.gok hM;rw[e1,e2];exact⟨⟨r,vi,rfl⟩,ht.mono (λk _ hk=>hk.elim id (λe=>e.elim))⟩
  ·exact absurd hS hs
end
section
variable {w w' w1 w2:World} {c:HCf} {g g':Gph} {s:HSt} {n:Nat}
theorem QLM(h:HIn w c g s):Calls prog 20 #[pP s.A.hp] w λe w'=>e=.returned (.tuple #[iI (g.all.length:Nat),iI (g.words:Nat)])/\Gr w w':=by
 have Xz:=ι (FK h);have HW:=ι (h.memWords);obtain⟨q1,q2,-⟩:=Q9 h.cok;have q3:=h.cok.wd;have HX:=ι (λW=>N8 c.n Ω Ω W);have Xe:=ι (λ(W:World) (gr:Gr w W)=>R7 (h.com.rt.gr gr));have L:=ι (λ(W:World) (gr:Gr w W) (m p1 b1 p2 b2 g1 cp:Nat) (hE:Ext W m p1 b1 p2 b2 c.n []) hm ho hg1=>h.mrun gr (m:=m) (p1:=p1) (b1:=b1) (p2:=p2) (b2:=b2) (g1:=g1) (cp:=cp) hE hm ho hg1);have Xb:=ι h.com.row;have c8:=h.cc 8;have Xr:=h.com.row.lt;obtain⟨ap,Xu⟩:∃ap,ap=s.A.hp:=⟨_,rfl⟩;obtain⟨rr,Xt⟩:∃rr,rr=s.A.r:=⟨_,rfl⟩;obtain⟨qq,Ye⟩:∃qq,qq=s.A.q:=⟨_,rfl⟩;rw[<-Xu]at Xz L Xb c8 Xr⊢;rw[<-Xt]at Xe;rw[<-Ye]at HW c8;generalize (g.all.length:Nat)=na at L⊢;generalize (g.words:Nat)=nw at L⊢
 have Yb:Hid (∀W,Gr w W->W.cell? ⟨ap,9,none⟩=some (pP rr)/\W.cell? ⟨ap,5,none⟩=some (iI c.st)):=⟨λW gr=>by
  have:=Xb.o.gr gr
  exact⟨by rw[Xt];exact this.cc 9,this.cc 5⟩⟩
 have HLT:=ι Xr;clear h Xu Xt Ye q1 q2 q3 Xb Xr;go_enter func20,ntmps20
 go_upto_region 4 with first
  | (go_at_call 50;refine Xz.o.mono ?_;rintro e w1 ⟨rfl,rfl⟩)
  | (go_at_call 52;refine HW.o.mono ?_;rintro e w1 ⟨rfl,rfl⟩)
  | (go_at_call 51;refine(HX.o _).mono ?_;rintro e w3 ⟨m,p1,b1,p2,b2,rfl,Ya,Xw,Yf,Yd,Xy,Xx,Yc⟩;have M:=ι Ya;have Xf:=ι Xw;have HB:=ι (ϑ Yf (ϑ Yd (ϑ Xy (ϑ Xx Yc))));clear Ya Xw Yf Yd Xy Xx Yc)
 have Xh:Hid (∀i,AM m b1 b2 i->w.heap.size<=i/\i<w3.heap.size):=⟨λi hi=>by
  have h1:=Xf.o.hm;have h2:=Xf.o.v1.hb;have h3:=Xf.o.v2.hb;have h4:=HB.o
  rcases hi with rfl|rfl|rfl <;> omega⟩
 have Xo:Hid (∀W1 W2,Gr w3 W1->AB (AM m b1 b2) W1 W2->Gr w W2):=⟨λW1 W2 g1 t=>(((M.o.trans g1).touch (AM m b1 b2)).trans t |>.mono (T:=λ_=>False) (λk hk e=>by have:=(Xh.o k e).1;omega)).gr⟩;obtain⟨Sx,Xm⟩:∃Sx:World->Prop,Sx=λW'=>Gr w W':=⟨_,rfl⟩;have y9:∀p':AA Sx,p'.w.cell? ⟨ap,9,none⟩=some (pP rr):=λp=>(Yb.o _ (AA.get Xm p)).1;have y5:∀p':AA Sx,p'.w.cell? ⟨ap,5,none⟩=some (iI c.st):=λp=>(Yb.o _ (AA.get Xm p)).2;have Xv:Sx w3.drew:=by rw[Xm];exact M.o.drew
 have V:=ι Xm;have inst:Inhabited (AA Sx):=⟨⟨_,Xv⟩⟩;clear Xm;refine YZ Sx (.two [0,1,2,3,4,5,6,8,9,10,11,12,13] 7 (.two [] 14 (.one [15,16,17] 18 (.one [] 19 (.fin [20]))) 18 (.one [] 14 (.one [15,16,17] 19 (.fin [20])))) 18 (.one [] 7 (.one [] 14 (.one [15,16,17] 19 (.fin [20]))))) (by kernel_rfl) (by kernel_rfl) Xv ?_;refine PH ?_;simp only[AC,ζ,ξ]
 repeat(go_big_quiet_step (fail))
 refine ψ ⟨?_,?_⟩
 ·go_wp2_with(go_at_call 54;refine(Xe.o _ (M.o.trans (Gr.refl w3).drew)).mono ?_;rintro e w4 ⟨g1,cp,rfl,Xd,Xk,Xi⟩;have Y:Hid (Gr w3 w4):=⟨((Gr.refl w3).drew).trans Xd⟩;have Xs:Hid (w3.heap.size<=g1):=⟨ζa ((Gr.refl w3).drew).size Xk⟩;have Xp:=ι Xi;clear Xi Xk);have Xn:Hid (∀W,Gr w4 W->Calls prog 53 #[.iface 111 (.agg #[pP ap]),.slice (some ⟨g1,0,none⟩) (s.rs g).length cp,pP m,iI c.st] W λe w'=>(∃r vi:Int,e=.returned (.tuple #[.agg #[iI (na:Nat),iI (nw:Nat),iI r,iI vi],iI 0]))/\AB (AM m b1 b2) W w'):=⟨λW gW=>L.o W (M.o.trans (Y.o.trans gW)) m p1 b1 p2 b2 g1 cp (Xf.o.gr (Y.o.trans gW)) HB.o (CK Xp.o gW) (λe=>by have:=(Xh.o _ e).2;have:=Xs.o;omega)⟩;have B:Hid (∀W W2,Gr w4 W->AB (AM m b1 b2) W W2->Gr w W2):=⟨λW W2 g1 t=>Xo.o W W2 (Y.o.trans g1) t⟩;have Xa:Hid (Gr w w4):=⟨M.o.trans Y.o⟩;refine⟨AA.of (by rw[V.o];exact Xa.o),?_⟩;refine PH ?_;simp only[AC,ζ,ξ]
  repeat(go_big_quiet_step (fail))
  refine ψ ⟨?_,?_⟩
  ·go_wp2_with(go_at_call 53;refine(Xn.o _ (Gr.refl w4)).mono ?_;rintro e w5 ⟨⟨rv,vi,rfl⟩,E⟩;have G:=ι E;clear E);have Z:Hid (Gr w w5):=⟨B.o _ _ (Gr.refl w4) G.o⟩;refine⟨AA.of (by rw[V.o];exact Z.o),?_⟩;refine FE ?_;simp only[AC,ζ,ξ]
   repeat(go_big_quiet_step (fail))
   refine ψ ?_;go_wp2;refine⟨AA.of (by rw[V.o];exact Z.o.alloc _),?_⟩;refine FE ?_;simp only[AC,ζ,ξ]
   repeat(go_big_quiet_step (fail))
   refine ψ ?_;go_wp2;refine⟨AA.of (by rw[V.o];exact Z.o.alloc _),?_⟩;refine MA ?_;simp only[AC,ζ,ξ]
   repeat(go_big_quiet_step (fail))
   refine ψ ?_;refine τ ?_;obtain⟨x,hx⟩:∃x,x=w5.heap.size:=⟨_,rfl⟩;rw[<-hx];obtain⟨WX,U⟩:∃WX,WX=w5.alloc (.cells #[.int .i64 (na:Nat),.int .i64 (nw:Nat),.int .i64 rv,.int .i64 vi] 107):=⟨_,rfl⟩;have Xj:Hid (Gr w WX):=⟨by rw[U];exact Z.o.alloc _⟩;have rx:Rec WX x 107 [iI (na:Nat),iI (nw:Nat),iI rv,iI vi]:=by rw[U];exact hx▸Rec.new w5 107 [iI (na:Nat),iI (nw:Nat),iI rv,iI vi]
   rw[<-U];obtain⟨k0,k1,kl⟩:=rx.k2;clear U rx hx;go_wp2;go_quiet (fail);go_wp2;go_ret2;exact⟨rfl,Xj.o.drewN _⟩
  ·go_wp2;obtain⟨WB,O⟩:∃WB,WB=w4.alloc (.cells #[.int .i64 0,.int .i64 0,.int .i64 0,.int .i64 0] 107):=⟨_,rfl⟩;obtain⟨x,hx⟩:∃x,x=w4.heap.size:=⟨_,rfl⟩;have I:Hid (Gr w4 WB):=⟨by rw[O];exact(Gr.refl w4).alloc _⟩;have Xq:Hid (Rec WB x 107 [iI 0,iI 0,iI 0,iI 0]):=⟨by rw[O,hx];exact Rec.new w4 107 [iI 0,iI 0,iI 0,iI 0]⟩;rw[<-O,<-hx];have Xg:Hid (w3.heap.size<=x):=⟨by rw[hx];exact Y.o.size⟩;clear O hx;refine⟨AA.of (by rw[V.o];exact Xa.o.trans I.o),?_⟩;refine FE ?_;simp only[AC,ζ,ξ]
   repeat(go_big_quiet_step (fail))
   refine ψ ?_;go_wp2_with(go_at_call 53;refine(Xn.o _ (I.o)).mono ?_;rintro e w5 ⟨⟨rv,vi,rfl⟩,E⟩;have G:=ι E;clear E);have Z:Hid (Gr w w5):=⟨B.o _ _ I.o G.o⟩;have Xl:=Xq;have J:=ι (Xl.o.touch G.o (λe=>by have:=(Xh.o _ e).2;have:=Xg.o;omega));have q0:=J.o.cc 0;have q1:=J.o.cc 1;have q2:=J.o.cc 2;have q3:=J.o.cc 3;have qf:=J.o.free;have ql:=J.o.lt;have Xc:Hid (Gr w ((((w5.setCell ⟨x,0,none⟩ (.int .i64 (na:Nat))).setCell ⟨x,1,none⟩ (.int .i64 (nw:Nat))).setCell ⟨x,2,none⟩ (.int .i64 rv)).setCell ⟨x,3,none⟩ (.int .i64 vi))):=⟨((Z.o.touch (λk=>k=x)).trans ((((((AB.refl (λk=>k=x) w5).setCell (a:=⟨x,0,none⟩) (λ_=>rfl) _).setCell (a:=⟨x,1,none⟩) (λ_=>rfl) _).setCell (a:=⟨x,2,none⟩) (λ_=>rfl) _).setCell (a:=⟨x,3,none⟩) (λ_=>rfl) _)) |>.mono (T:=λ_=>False) (λk hk e=>by have e:k=x:=e;have:=Xg.o;have:=M.o.size;omega)).gr⟩;refine⟨AA.of (by rw[V.o];exact Z.o),?_⟩;refine FE ?_;simp only[AC,ζ,ξ]
   repeat(go_big_quiet_step (fail))
   refine ψ ?_;go_wp2;refine⟨AA.of (by rw[V.o];exact Xc.o),?_⟩;refine MA ?_;simp only[AC,ζ,ξ]
   repeat(go_big_quiet_step (fail))
   refine ψ ?_;refine τ ?_;clear q0 q1 q2 q3 qf ql;obtain⟨WX,U⟩:∃WX,WX=(((w5.setCell ⟨x,0,none⟩ (.int .i64 (na:Nat))).setCell ⟨x,1,none⟩ (.int .i64 (nw:Nat))).setCell ⟨x,2,none⟩ (.int .i64 rv)).setCell ⟨x,3,none⟩ (.int .i64 vi):=⟨_,rfl⟩;have Xj:Hid (Gr w WX):=⟨by rw[U];exact Xc.o⟩;have rx:Rec WX x 107 [iI (na:Nat),iI (nw:Nat),iI rv,iI vi]:=by rw[U];exact((((J.o.set 0 (iI (na:Nat))).set 1 (iI (nw:Nat))).set 2 (iI rv)).set 3 (iI vi))
   rw[<-U];obtain⟨k0,k1,kl⟩:=rx.k2;clear U rx;go_wp2;go_quiet (fail);go_wp2;go_ret2;exact⟨rfl,Xj.o.drewN _⟩
 ·go_wp2;obtain⟨WB,O⟩:∃WB,WB=(w3.alloc (.cells #[.int .i64 0,.int .i64 0,.int .i64 0,.int .i64 0] 107)).drew:=⟨_,rfl⟩;obtain⟨x,hx⟩:∃x,x=w3.heap.size:=⟨_,rfl⟩;have I:Hid (Gr w3 WB):=⟨by rw[O];exact((Gr.refl w3).alloc _).drew⟩;have Xq:Hid (Rec WB x 107 [iI 0,iI 0,iI 0,iI 0]):=⟨by rw[O,hx];exact Rec.new w3 107 [iI 0,iI 0,iI 0,iI 0]⟩;rw[<-O,<-hx];have Xg:Hid (w3.heap.size<=x):=⟨by rw[hx];exact π _⟩;clear O hx;refine⟨AA.of (by rw[V.o];exact M.o.trans I.o),?_⟩;refine FE ?_;simp only[AC,ζ,ξ]
  repeat(go_big_quiet_step (fail))
  refine ψ ?_;go_wp2_with(go_at_call 54;refine(Xe.o _ (M.o.trans I.o)).mono ?_;rintro e w4 ⟨g1,cp,rfl,Xd,Xk,Xi⟩;have Y:Hid (Gr w3 w4):=⟨I.o.trans Xd⟩;have Xs:Hid (w3.heap.size<=g1):=⟨ζa I.o.size Xk⟩;have Xp:=ι Xi;have Xl:=ι (Xq.o.gr Xd);clear Xi Xk Xd);have Xn:Hid (∀W,Gr w4 W->Calls prog 53 #[.iface 111 (.agg #[pP ap]),.slice (some ⟨g1,0,none⟩) (s.rs g).length cp,pP m,iI c.st] W λe w'=>(∃r vi:Int,e=.returned (.tuple #[.agg #[iI (na:Nat),iI (nw:Nat),iI r,iI vi],iI 0]))/\AB (AM m b1 b2) W w'):=⟨λW gW=>L.o W (M.o.trans (Y.o.trans gW)) m p1 b1 p2 b2 g1 cp (Xf.o.gr (Y.o.trans gW)) HB.o (CK Xp.o gW) (λe=>by have:=(Xh.o _ e).2;have:=Xs.o;omega)⟩;have B:Hid (∀W W2,Gr w4 W->AB (AM m b1 b2) W W2->Gr w W2):=⟨λW W2 g1 t=>Xo.o W W2 (Y.o.trans g1) t⟩;have Xa:Hid (Gr w w4):=⟨M.o.trans Y.o⟩;refine⟨AA.of (by rw[V.o];exact Xa.o),?_⟩;refine FE ?_;simp only[AC,ζ,ξ]
  repeat(go_big_quiet_step (fail))
  refine ψ ?_;go_wp2_with(go_at_call 53;refine(Xn.o _ (Gr.refl w4)).mono ?_;rintro e w5 ⟨⟨rv,vi,rfl⟩,E⟩;have G:=ι E;clear E);have Z:Hid (Gr w w5):=⟨B.o _ _ (Gr.refl w4) G.o⟩;have J:=ι (Xl.o.touch G.o (λe=>by have:=(Xh.o _ e).2;have:=Xg.o;omega));have q0:=J.o.cc 0;have q1:=J.o.cc 1;have q2:=J.o.cc 2;have q3:=J.o.cc 3;have qf:=J.o.free;have ql:=J.o.lt;have Xc:Hid (Gr w ((((w5.setCell ⟨x,0,none⟩ (.int .i64 (na:Nat))).setCell ⟨x,1,none⟩ (.int .i64 (nw:Nat))).setCell ⟨x,2,none⟩ (.int .i64 rv)).setCell ⟨x,3,none⟩ (.int .i64 vi))):=⟨((Z.o.touch (λk=>k=x)).trans ((((((AB.refl (λk=>k=x) w5).setCell (a:=⟨x,0,none⟩) (λ_=>rfl) _).setCell (a:=⟨x,1,none⟩) (λ_=>rfl) _).setCell (a:=⟨x,2,none⟩) (λ_=>rfl) _).setCell (a:=⟨x,3,none⟩) (λ_=>rfl) _)) |>.mono (T:=λ_=>False) (λk hk e=>by have e:k=x:=e;have:=Xg.o;have:=M.o.size;omega)).gr⟩;refine⟨AA.of (by rw[V.o];exact Z.o),?_⟩;refine FE ?_;simp only[AC,ζ,ξ]
  repeat(go_big_quiet_step (fail))
  refine ψ ?_;go_wp2;refine⟨AA.of (by rw[V.o];exact Xc.o),?_⟩;refine MA ?_;simp only[AC,ζ,ξ]
  repeat(go_big_quiet_step (fail))
  refine ψ ?_;refine τ ?_;clear q0 q1 q2 q3 qf ql;obtain⟨WX,U⟩:∃WX,WX=(((w5.setCell ⟨x,0,none⟩ (.int .i64 (na:Nat))).setCell ⟨x,1,none⟩ (.int .i64 (nw:Nat))).setCell ⟨x,2,none⟩ (.int .i64 rv)).setCell ⟨x,3,none⟩ (.int .i64 vi):=⟨_,rfl⟩;have Xj:Hid (Gr w WX):=⟨by rw[U];exact Xc.o⟩;have rx:Rec WX x 107 [iI (na:Nat),iI (nw:Nat),iI rv,iI vi]:=by rw[U];exact((((J.o.set 0 (iI (na:Nat))).set 1 (iI (nw:Nat))).set 2 (iI rv)).set 3 (iI vi))
  rw[<-U];obtain⟨k0,k1,kl⟩:=rx.k2;clear U rx;go_wp2;go_quiet (fail);go_wp2;go_ret2;exact⟨rfl,Xj.o.drewN _⟩
end
def HLo(w0:World)(K:Nat->Prop)(c:HCf)(hb:Nat)(w:World)(v:Value)(g':Gph)(e:Ending)(w':World):Prop:=e=.returned v/\AB (hlT w0 K) w w'/\HLv w0 K c hb g' w'
section
variable {w0 w w':World} {K:Nat->Prop} {c:HCf} {hb:Nat} {g g':Gph} {v:Value} {f:FuncId} {args:Array Value}
theorem HLv.of_op(h:HLv w0 K c hb g w)(hc:∀s:HSt,s.A.hp=hb->HIn w c g s->(s.o=none↔s.lf=0)->Calls prog f args w λe w'=>e=.returned v/\HOp w c s g' w'):Calls prog f args w (HLo w0 K c hb w v g'):=by
 obtain⟨h1,⟨s,e1,e2,e3,e4⟩,h3⟩:=h;refine(hc s e1 e2 e3).mono ?_;rintro e w' ⟨rfl,s',r,-⟩;exact⟨rfl,HLv.res h1 h3 e1 e4 r⟩
theorem HLv.getW(h:HLv w0 K c hb g w)(a i:Int):Calls prog 72 #[pP hb,iI a,iI i] w (HLo w0 K c hb w (.tuple #[uU (g.fdV a i 3:Nat),iI (g.fdE a i 3)]) g):=h.of_op (λ_ e1 e2 e3=>e1▸J4u e2 e3 a i)
theorem HLv.getF(h:HLv w0 K c hb g w)(a i:Int):Calls prog 73 #[pP hb,iI a,iI i] w (HLo w0 K c hb w (.tuple #[.float .f64 (g.fdV a i 2),iI (g.fdE a i 2)]) g):=h.of_op (λ_ e1 e2 e3=>e1▸QNL e2 e3 a i)
theorem HLv.setW(h:HLv w0 K c hb g w)(a i:Int){x:Nat}(hx:x<18446744073709551616):Calls prog 77 #[pP hb,iI a,iI i,uU x] w (HLo w0 K c hb w (iI (g.fdE a i 3)) (g.wrG a i 3 x)):=h.of_op (λ_ e1 e2 e3=>e1▸Vld e2 e3 a i hx)
theorem HLv.setF(h:HLv w0 K c hb g w)(a i:Int){x:Nat}(hx:x<18446744073709551616):Calls prog 78 #[pP hb,iI a,iI i,.float .f64 x] w (HLo w0 K c hb w (iI (g.fdE a i 2)) (g.wrG a i 2 x)):=h.of_op (λ_ e1 e2 e3=>e1▸Xe2 e2 e3 a i hx)
theorem HLv.load(h:HLv w0 K c hb g w)(a b i:Int):Calls prog 33 #[pP hb,iI a,iI b,iI i] w (HLo w0 K c hb w (iI (g.loE a b i)) (g.loG a b i)):=h.of_op (λ_ e1 e2 e3=>e1▸V9V e2 e3 a b i)
theorem HLv.stor(h:HLv w0 K c hb g w)(a i b:Int):Calls prog 36 #[pP hb,iI a,iI i,iI b] w (HLo w0 K c hb w (iI (g.stE a i b)) (g.stG a i b)):=h.of_op (λ_ e1 e2 e3=>e1▸QmE e2 e3 a i b)
theorem HLv.copy(h:HLv w0 K c hb g w)(a b:Int):Calls prog 35 #[pP hb,iI a,iI b] w (HLo w0 K c hb w (iI (g.two a b 0)) (g.cpG a b)):=h.of_op (λ_ e1 e2 e3=>e1▸Xxc e2 e3 a b)
theorem HLv.clr(h:HLv w0 K c hb g w)(a:Int):Calls prog 28 #[pP hb,iI a] w (HLo w0 K c hb w (iI (g.slE a)) (g.clG a)):=h.of_op (λ_ e1 e2 e3=>e1▸JfK e2 e3 a)
theorem HLv.shap(h:HLv w0 K c hb g w)(a:Int):Calls prog 26 #[pP hb,iI a] w (HLo w0 K c hb w (.tuple #[AJ (g.shH a),iI (g.shE a)]) g):=h.of_op (λ_ e1 e2 e3=>e1▸VcO e2 e3 a)
theorem HLv.allo(h:HLv w0 K c hb g w)(a:Int)(x:Hdr):Calls prog 21 #[pP hb,iI a,AJ x] w (HLo w0 K c hb w (iI (g.alE c.wd a x)) (g.alG c.wd a x)):=h.alloc a x
theorem HLv.coll(h:HLv w0 K c hb g w):Calls prog 46 #[pP hb] w (HLo w0 K c hb w (.tuple #[]) g):=by
 obtain⟨h1,⟨s,e1,e2,e3,e4⟩,h3⟩:=h;have hc:=VB e2 e3;rw[e1]at hc;refine hc.mono ?_;rintro e w' ⟨rfl,s',r,-⟩;exact⟨rfl,HLv.res h1 h3 e1 e4 r⟩
theorem HLv.same0(h:HLv w0 K c hb g w)(v:Value):HLo w0 K c hb w v g (.returned v) w:=⟨rfl,AB.refl _ _,h⟩
theorem HLv.start(h:HLv w0 K c hb g w):Calls prog 24 #[pP hb] w (HLo w0 K c hb w (.tuple #[]) g):=by
 have h':=h;obtain⟨h1,⟨s,e1,e2,e3,e4⟩,h3⟩:=h;by_cases ho:s.o=none
 ·by_cases hk:c.kd=1
  ·have hc:=YE8 e2 ho hk;rw[e1]at hc;refine hc.mono ?_;rintro e w' ⟨rfl,s',r,-⟩;exact⟨rfl,HLv.res h1 h3 e1 e4 r⟩
  ·have hc:=Yyb e2 e3 ho hk;rw[e1]at hc;refine hc.mono ?_;rintro e w' ⟨rfl,s',r,-⟩;exact⟨rfl,HLv.res h1 h3 e1 e4 r⟩
 ·have hc:=JxG e2 ho;rw[e1]at hc;refine hc.mono ?_;rintro e w' ⟨rfl,rfl⟩;exact h'.same0 _
theorem HLv.step(h:HLv w0 K c hb g w):Calls prog 47 #[pP hb] w λe w'=>∃b:Bool,HLo w0 K c hb w (.bool b) g e w':=by
 have h':=h;obtain⟨h1,⟨s,e1,e2,e3,e4⟩,h3⟩:=h;by_cases hl:s.lf=0
 ·have hc:=ZK e2 e3 hl;rw[e1]at hc;refine hc.mono ?_;rintro e w' ⟨rfl,rfl⟩;exact⟨_,h'.same0 _⟩
 ·have hc:=V7 e2 e3 hl;rw[e1]at hc;refine hc.mono ?_;rintro e w' ⟨rfl,s',r,-⟩;exact⟨_,rfl,HLv.res h1 h3 e1 e4 r⟩
theorem HLv.live(h:HLv w0 K c hb g w):Calls prog 20 #[pP hb] w (HLo w0 K c hb w (.tuple #[iI (g.all.length:Nat),iI (g.words:Nat)]) g):=by
 have h':=h;obtain⟨h1,⟨s,e1,e2,e3,e4⟩,h3⟩:=h;have hc:=QLM e2;rw[e1]at hc;refine hc.mono ?_;rintro e w' ⟨rfl,hg⟩;exact⟨rfl,hg.touch _,h'.get hg⟩
end
structure BK(w0:World)(K:Nat->Prop)(c:HCf)(hb lb hd at_ off:Nat)(g:Gph)(w:World):Prop where
 hv:HLv w0 K c hb g w
 row:Rec w lb 77 [pP hb,iI hd,iI at_,iI off]
 kl:K lb
section
variable {w0 w w':World} {K:Nat->Prop} {c:HCf} {hb lb hd at_ off:Nat} {g g':Gph}
theorem BK.next(h:BK w0 K c hb lb hd at_ off g w)(t:AB (hlT w0 K) w w')(hl:HLv w0 K c hb g' w'):BK w0 K c hb lb hd at_ off g' w':=⟨hl,h.row.touch t (λe=>e.2 h.kl),h.kl⟩
theorem BK.gr(h:BK w0 K c hb lb hd at_ off g w)(gr:Gr w w'):BK w0 K c hb lb hd at_ off g w':=⟨h.hv.get gr,h.row.gr gr,h.kl⟩
theorem F6(h:BK w0 K c hb lb hd at_ off g w):cQ 30 #[pP lb] w (.bool false):=by
 have c0:=h.row.cc 0;go_enter func30,ntmps30;go_wp2;go_ret
 simp_all
theorem RY(h:BK w0 K c hb lb hd at_ off g w):Calls prog 29 #[pP lb] w (HLo w0 K c hb w (.tuple #[]) (DJ at_ off g)):=by
 have HQ:=ι h;have HT:=ι (AB.refl (hlT w0 K) w);go_enter func29,ntmps29;go_upto_region 0 with(fail);obtain⟨Sx,Y,HS⟩:=AA.start λW'=>Rec W' lb 77 [pP hb,iI hd,iI at_,iI off];have y0:=AA.fact Y λ_ h=>h.cell (j:=0) rfl;have y2:=AA.fact Y λ_ h=>h.cell (j:=2) rfl;have Z:=HS.o _ (HQ.o.row.gr (Gr.refl _).drew);have J:Inhabited (AA Sx):=⟨⟨_,Z⟩⟩;clear Y;refine AR Sx 8 [([0,1,2,3,4,5,6,7],8)] [] (by kernel_rfl) (by kernel_rfl) Z ?_;refine AG ?_
 try simp only[AC,ζ,ξ]
 repeat(go_big_quiet_step (fail))
 refine ψ ?_;go_wp2_with((go_at_call 28;refine((HQ.o.gr (Gr.refl _).drew).hv.clr _).mono ?_;rintro e w1 ⟨rfl,ht,hl⟩;replace HT:=ι ((HT.o.trans ((Gr.refl _).drew.touch _)).trans ht);replace HQ:=ι ((HQ.o.gr (Gr.refl _).drew).next ht hl)));refine⟨.inl trivial,?_⟩;refine AS ?_
 try simp only[AC]
 repeat(go_big_quiet_step (fail))
 refine ψ ?_;refine τ ?_;go_upto_region 1 with(fail);obtain⟨Sx,Y,HS⟩:=AA.start λW'=>Rec W' lb 77 [pP hb,iI hd,iI at_,iI off];have y0:=AA.fact Y λ_ h=>h.cell (j:=0) rfl;have y3:=AA.fact Y λ_ h=>h.cell (j:=3) rfl;have Z:=HS.o _ (HQ.o.row.gr (Gr.refl _).drew);have J:Inhabited (AA Sx):=⟨⟨_,Z⟩⟩;clear Y;refine AR Sx 8 [([0,1,2,3,4,5,6,7],8)] [] (by kernel_rfl) (by kernel_rfl) Z ?_;refine AG ?_
 try simp only[AC,ζ,ξ]
 repeat(go_big_quiet_step (fail))
 refine ψ ?_;go_wp2_with((go_at_call 28;refine((HQ.o.gr (Gr.refl _).drew).hv.clr _).mono ?_;rintro e w1 ⟨rfl,ht,hl⟩;replace HT:=ι ((HT.o.trans ((Gr.refl _).drew.touch _)).trans ht);replace HQ:=ι ((HQ.o.gr (Gr.refl _).drew).next ht hl)));refine⟨.inl trivial,?_⟩;refine AS ?_
 try simp only[AC]
 repeat(go_big_quiet_step (fail))
 refine ψ ?_;refine τ ?_;go_wp2
 go_end0
 exact⟨rfl,HT.o,HQ.o.hv⟩
theorem LW(h:BK w0 K c hb lb hd at_ off g w)(u:FrameMode):CallsD prog 29 #[pP lb] u w λe u' w'=>u'=u/\HLo w0 K c hb w (.tuple #[]) (DJ at_ off g) e w':=by
 have HQ:=ι h;have HT:=ι (AB.refl (hlT w0 K) w)
 go_enter_d func29,ntmps29
 go_upto_region 0 with(fail);obtain⟨Sx,Y,HS⟩:=AA.start λW'=>Rec W' lb 77 [pP hb,iI hd,iI at_,iI off];have y0:=AA.fact Y λ_ h=>h.cell (j:=0) rfl;have y2:=AA.fact Y λ_ h=>h.cell (j:=2) rfl;have Z:=HS.o _ (HQ.o.row.gr (Gr.refl _).drew);have J:Inhabited (AA Sx):=⟨⟨_,Z⟩⟩;clear Y;refine AR Sx 8 [([0,1,2,3,4,5,6,7],8)] [] (by kernel_rfl) (by kernel_rfl) Z ?_;refine AG ?_
 try simp only[AC,ζ,ξ]
 repeat(go_big_quiet_step (fail))
 refine ψ ?_;go_wp2_with((go_at_call 28;refine((HQ.o.gr (Gr.refl _).drew).hv.clr _).mono ?_;rintro e w1 ⟨rfl,ht,hl⟩;replace HT:=ι ((HT.o.trans ((Gr.refl _).drew.touch _)).trans ht);replace HQ:=ι ((HQ.o.gr (Gr.refl _).drew).next ht hl)));refine⟨.inl trivial,?_⟩;refine AS ?_
 try simp only[AC]
 repeat(go_big_quiet_step (fail))
 refine ψ ?_;refine τ ?_;go_upto_region 1 with(fail);obtain⟨Sx,Y,HS⟩:=AA.start λW'=>Rec W' lb 77 [pP hb,iI hd,iI at_,iI off];have y0:=AA.fact Y λ_ h=>h.cell (j:=0) rfl;have y3:=AA.fact Y λ_ h=>h.cell (j:=3) rfl;have Z:=HS.o _ (HQ.o.row.gr (Gr.refl _).drew);have J:Inhabited (AA Sx):=⟨⟨_,Z⟩⟩;clear Y;refine AR Sx 8 [([0,1,2,3,4,5,6,7],8)] [] (by kernel_rfl) (by kernel_rfl) Z ?_;refine AG ?_
 try simp only[AC,ζ,ξ]
 repeat(go_big_quiet_step (fail))
 refine ψ ?_;go_wp2_with((go_at_call 28;refine((HQ.o.gr (Gr.refl _).drew).hv.clr _).mono ?_;rintro e w1 ⟨rfl,ht,hl⟩;replace HT:=ι ((HT.o.trans ((Gr.refl _).drew.touch _)).trans ht);replace HQ:=ι ((HQ.o.gr (Gr.refl _).drew).next ht hl)));refine⟨.inl trivial,?_⟩;refine AS ?_
 try simp only[AC]
 repeat(go_big_quiet_step (fail))
 refine ψ ?_;refine τ ?_;go_wp2
 go_end0
 exact⟨rfl,HT.o,HQ.o.hv⟩
theorem MR(h:BK w0 K c hb lb hd at_ off g w){s:Int}(h0:g.shE s=0):Calls prog 31 #[pP lb,iI s] w (HLo w0 K c hb w (.bool true) (g)):=by
 have HQ:=ι h;have HT:=ι (AB.refl (hlT w0 K) w);have c0:=h.row.cc 0;have Y:=(λ(V:World) (hV:BK w0 K c hb lb hd at_ off g V)=>hV.hv.shap s);unfold AJ at Y;have d0:(g.shE s==0)=true:=by simp_all
 generalize g.shE s=E at Y d0;generalize (g.shH s).p=h1 at Y;generalize (g.shH s).f=h2 at Y;generalize (g.shH s).k=h3 at Y;go_enter func31,ntmps31;go_wp2_with(go_at_call 26;refine(Y _ HQ.o).mono ?_;rintro e w1 ⟨rfl,ht,hl⟩;replace HT:=ι (HT.o.trans ht);replace HQ:=ι (HQ.o.next ht hl));go_ret;exact⟨rfl,HT.o.trans (((Gr.refl _).alloc _).touch _),HQ.o.hv.get ((Gr.refl _).alloc _)⟩
theorem OW(h:BK w0 K c hb lb hd at_ off g w){s:Int}(h0:¬g.shE s=0):Calls prog 31 #[pP lb,iI s] w (HLo w0 K c hb w (.bool false) (g)):=by
 have HQ:=ι h;have HT:=ι (AB.refl (hlT w0 K) w);have c0:=h.row.cc 0;have Y:=(λ(V:World) (hV:BK w0 K c hb lb hd at_ off g V)=>hV.hv.shap s);unfold AJ at Y;have d0:(g.shE s==0)=false:=by simp_all
 generalize g.shE s=E at Y d0;generalize (g.shH s).p=h1 at Y;generalize (g.shH s).f=h2 at Y;generalize (g.shH s).k=h3 at Y;go_enter func31,ntmps31;go_wp2_with(go_at_call 26;refine(Y _ HQ.o).mono ?_;rintro e w1 ⟨rfl,ht,hl⟩;replace HT:=ι (HT.o.trans ht);replace HQ:=ι (HQ.o.next ht hl));go_ret;exact⟨rfl,HT.o.trans (((Gr.refl _).alloc _).touch _),HQ.o.hv.get ((Gr.refl _).alloc _)⟩
theorem VdK(h:BK w0 K c hb lb hd at_ off g w)(s:Int):Calls prog 32 #[pP lb,iI s] w (HLo w0 K c hb w (.tuple #[uU (g.fdV s 2 3:Nat),.float .f64 (g.fdV s 1 2)]) (g)):=by
 have HQ:=ι h;have HT:=ι (AB.refl (hlT w0 K) w);have c0:=h.row.cc 0;have Z:=(λ(V:World) (hV:BK w0 K c hb lb hd at_ off g V)=>hV.hv.getW s 2);have Y:=(λ(V:World) (hV:BK w0 K c hb lb hd at_ off g V)=>hV.hv.getF s 1);generalize g.fdV s 2 3=x at Z⊢;generalize g.fdE s 2 3=e1 at Z;generalize g.fdV s 1 2=y at Y⊢;generalize g.fdE s 1 2=e2 at Y;go_enter func32,ntmps32
 go_wp2_with(first
  | (go_at_call 72;refine(Z _ HQ.o).mono ?_;rintro e w1 ⟨rfl,ht,hl⟩;replace HT:=ι (HT.o.trans ht);replace HQ:=ι (HQ.o.next ht hl);replace c0:=HQ.o.row.cc 0)
  | (go_at_call 73;refine(Y _ HQ.o).mono ?_;rintro e w1 ⟨rfl,ht,hl⟩;replace HT:=ι (HT.o.trans ht);replace HQ:=ι (HQ.o.next ht hl)))
 go_ret2;exact⟨rfl,HT.o,HQ.o.hv⟩
theorem QW(h:BK w0 K c hb lb hd at_ off g w)(s:Int){x y:Nat}(hx:x<18446744073709551616)(hy:y<18446744073709551616):Calls prog 37 #[pP lb,iI s,uU x,.float .f64 y] w (HLo w0 K c hb w (.tuple #[]) ((g.wrG s 2 3 x).wrG s 1 2 y)):=by
 have HQ:=ι h;have HT:=ι (AB.refl (hlT w0 K) w);have c0:=h.row.cc 0;have HY:=hy;go_enter func37,ntmps37
 go_wp2_with(first
  | (go_at_call 77;refine(HQ.o.hv.setW _ _ hx).mono ?_;rintro e w1 ⟨rfl,ht,hl⟩;replace HT:=ι (HT.o.trans ht);replace HQ:=ι (HQ.o.next ht hl);replace c0:=HQ.o.row.cc 0)
  | (go_at_call 78;refine(HQ.o.hv.setF _ _ HY).mono ?_;rintro e w1 ⟨rfl,ht,hl⟩;replace HT:=ι (HT.o.trans ht);replace HQ:=ι (HQ.o.next ht hl)))
 go_end0
 exact⟨rfl,HT.o,HQ.o.hv⟩
theorem X3p(h:BK w0 K c hb lb hd at_ off g w){x y:Nat}(hx:x<18446744073709551616)(hy:y<18446744073709551616)(he:g.alE c.wd at_ ⟨1,1,1⟩=0):Calls prog 10 #[pP lb,uU x,.float .f64 y] w (HLo w0 K c hb w (iI 0) (IA hd at_ off x y c.wd g)):=by
 have HQ:=ι h;have HT:=ι (AB.refl (hlT w0 K) w);obtain⟨c0,c1,c2,c3,cl⟩:=h.row.k4;unfold HLo;have HY:=hy;have HE:=he;have U:=(λ(V:World) (hV:BK w0 K c hb lb hd at_ off g V)=>hV.hv.allo at_ ⟨1,1,1⟩);unfold AJ at U;dsimp only at U;rw[he]at U;have HP:Hid (IA hd at_ off x y c.wd g=DJ at_ off (((((g.alG c.wd at_ ⟨1,1,1⟩).wrG at_ 2 3 x).wrG at_ 1 2 y).stG at_ 0 hd).cpG hd at_)):=⟨by unfold IA;simp_all⟩;rw[HP.o];go_enter func10,ntmps10;go_upto_region 3 with(go_at_call 30;refine(F6 HQ.o).mono ?_;rintro e w1 ⟨rfl,rfl⟩);obtain⟨Sx,Y,HS⟩:=AA.start λW'=>Rec W' lb 77 [pP hb,iI hd,iI at_,iI off];have y0:=AA.fact Y λ_ h=>h.cell (j:=0) rfl;have y2:=AA.fact Y λ_ h=>h.cell (j:=2) rfl;have Z:=HS.o _ (HQ.o.row.gr (Gr.refl _).drew);have J:Inhabited (AA Sx):=⟨⟨_,Z⟩⟩;clear Y;refine AR Sx 11 [([0,1,2,3,4,5,6,7,8],9)] [10] (by kernel_rfl) (by kernel_rfl) Z ?_;refine AG ?_
 try simp only[AC,ζ,ξ]
 repeat(go_big_quiet_step (fail))
 refine ψ ?_;go_wp2_with((go_at_call 21;refine(U _ (HQ.o.gr (Gr.refl _).drew)).mono ?_;rintro e w1 ⟨rfl,ht,hl⟩;replace HT:=ι ((HT.o.trans ((Gr.refl _).drew.touch _)).trans ht);replace HQ:=ι ((HQ.o.gr (Gr.refl _).drew).next ht hl)));refine⟨.inr (AA.of (HS.o _ (HQ.o.row))),?_⟩;refine AS ?_
 try simp only[AC,ζ,ξ]
 repeat(go_big_quiet_step (fail))
 refine ψ ?_;refine τ ?_;obtain⟨c0,c1,c2,c3,cl⟩:=HQ.o.row.k4;go_upto_region 7 with(go_at_call 37;refine(QW HQ.o _ hx HY).mono ?_;rintro e w1 ⟨rfl,ht,hl⟩;replace HT:=ι (HT.o.trans ht);replace HQ:=ι (HQ.o.next ht hl);replace c0:=HQ.o.row.cc 0;replace c1:=HQ.o.row.cc 1;replace c2:=HQ.o.row.cc 2;replace c3:=HQ.o.row.cc 3;replace cl:=HQ.o.row.lt);obtain⟨Sx,Y,HS⟩:=AA.start λW'=>Rec W' lb 77 [pP hb,iI hd,iI at_,iI off];have y0:=AA.fact Y λ_ h=>h.cell (j:=0) rfl;have y1:=AA.fact Y λ_ h=>h.cell (j:=1) rfl;have y2:=AA.fact Y λ_ h=>h.cell (j:=2) rfl;have Z:=HS.o _ (HQ.o.row.gr (Gr.refl _).drew);have J:Inhabited (AA Sx):=⟨⟨_,Z⟩⟩;clear Y;refine AR Sx 12 [([0,1,2,3,4,5,6,7,8,9,10,11],12)] [] (by kernel_rfl) (by kernel_rfl) Z ?_;refine AG ?_
 try simp only[AC,ζ,ξ]
 repeat(go_big_quiet_step (fail))
 refine ψ ?_;go_wp2_with((go_at_call 36;refine((HQ.o.gr (Gr.refl _).drew).hv.stor _ _ _).mono ?_;rintro e w1 ⟨rfl,ht,hl⟩;replace HT:=ι ((HT.o.trans ((Gr.refl _).drew.touch _)).trans ht);replace HQ:=ι ((HQ.o.gr (Gr.refl _).drew).next ht hl)));refine⟨.inl trivial,?_⟩;refine AS ?_
 try simp only[AC]
 repeat(go_big_quiet_step (fail))
 refine ψ ?_;refine τ ?_;clear y0 y1 y2 Z J;obtain⟨c0,c1,c2,c3,cl⟩:=HQ.o.row.k4;go_upto_region 8 with(fail);obtain⟨Sx,Y,HS⟩:=AA.start λW'=>Rec W' lb 77 [pP hb,iI hd,iI at_,iI off];have y0:=AA.fact Y λ_ h=>h.cell (j:=0) rfl;have y1:=AA.fact Y λ_ h=>h.cell (j:=1) rfl;have y2:=AA.fact Y λ_ h=>h.cell (j:=2) rfl;have Z:=HS.o _ (HQ.o.row.gr (Gr.refl _).drew);have J:Inhabited (AA Sx):=⟨⟨_,Z⟩⟩;clear Y;refine AR Sx 12 [([0,1,2,3,4,5,6,7,8,9,10,11],12)] [] (by kernel_rfl) (by kernel_rfl) Z ?_;refine AG ?_
 try simp only[AC,ζ,ξ]
 repeat(go_big_quiet_step (fail))
 refine ψ ?_;go_wp2_with((go_at_call 35;refine((HQ.o.gr (Gr.refl _).drew).hv.copy _ _).mono ?_;rintro e w1 ⟨rfl,ht,hl⟩;replace HT:=ι ((HT.o.trans ((Gr.refl _).drew.touch _)).trans ht);replace HQ:=ι ((HQ.o.gr (Gr.refl _).drew).next ht hl)));refine⟨.inl trivial,?_⟩;refine AS ?_
 try simp only[AC]
 repeat(go_big_quiet_step (fail))
 refine ψ ?_;refine τ ?_;obtain⟨c0,c1,c2,c3,cl⟩:=HQ.o.row.k4;go_wp2_with(go_at_call 29;refine(RY HQ.o).mono ?_;rintro e w1 ⟨rfl,ht,hl⟩;replace HT:=ι (HT.o.trans ht);replace HQ:=ι (HQ.o.next ht hl);replace c0:=HQ.o.row.cc 0;replace c1:=HQ.o.row.cc 1;replace c2:=HQ.o.row.cc 2;replace c3:=HQ.o.row.cc 3;replace cl:=HQ.o.row.lt);go_ret;exact⟨rfl,HT.o,HQ.o.hv⟩
theorem YKh(h:BK w0 K c hb lb hd at_ off g w){x y:Nat}(hx:x<18446744073709551616)(hy:y<18446744073709551616)(he:¬g.alE c.wd at_ ⟨1,1,1⟩=0):Calls prog 10 #[pP lb,uU x,.float .f64 y] w (HLo w0 K c hb w (iI (g.alE c.wd at_ ⟨1,1,1⟩)) (IA hd at_ off x y c.wd g)):=by
 have HQ:=ι h;have HT:=ι (AB.refl (hlT w0 K) w);unfold HLo;have Y:=(λ(V:World) (hV:BK w0 K c hb lb hd at_ off g V)=>hV.hv.allo at_ ⟨1,1,1⟩);unfold AJ at Y;dsimp only at Y;have HP:Hid (IA hd at_ off x y c.wd g=g/\g.alG c.wd at_ ⟨1,1,1⟩=g):=⟨by unfold IA;simp_all,by unfold Gph.alG;simp_all⟩;rw[HP.o.1];rw[HP.o.2]at Y;have d0:(g.alE c.wd at_ ⟨1,1,1⟩ !=0)=true:=by simp_all
 generalize g.alE c.wd at_ ⟨1,1,1⟩=E at Y d0⊢;go_enter func10,ntmps10;go_upto_region 3 with(go_at_call 30;refine(F6 HQ.o).mono ?_;rintro e w1 ⟨rfl,rfl⟩);obtain⟨Sx,J,HS⟩:=AA.start λW'=>Rec W' lb 77 [pP hb,iI hd,iI at_,iI off];have y0:=AA.fact J λ_ h=>h.cell (j:=0) rfl;have y2:=AA.fact J λ_ h=>h.cell (j:=2) rfl;have Z:=HS.o _ (HQ.o.row.gr (Gr.refl _).drew);have U:Inhabited (AA Sx):=⟨⟨_,Z⟩⟩;clear J;refine AR Sx 11 [([0,1,2,3,4,5,6,7,8],9)] [10] (by kernel_rfl) (by kernel_rfl) Z ?_;refine AG ?_
 try simp only[AC,ζ,ξ]
 repeat(go_big_quiet_step (fail))
 refine ψ ?_;go_wp2_with((go_at_call 21;refine(Y _ (HQ.o.gr (Gr.refl _).drew)).mono ?_;rintro e w1 ⟨rfl,ht,hl⟩;replace HT:=ι ((HT.o.trans ((Gr.refl _).drew.touch _)).trans ht);replace HQ:=ι ((HQ.o.gr (Gr.refl _).drew).next ht hl)));refine⟨.inr (AA.of (HS.o _ (HQ.o.row))),?_⟩;refine AS ?_
 try simp only[AC,ζ,ξ]
 repeat(go_big_quiet_step (fail))
 refine ψ ?_;refine τ ?_;clear y0 y2 Z U;go_wp2;go_ret;exact⟨rfl,HT.o,HQ.o.hv⟩
theorem QQN(h:BK w0 K c hb lb hd at_ off g w)(h0:¬g.shE hd=0):Calls prog 7 #[pP lb] w (HLo w0 K c hb w (.tuple #[uU 0,.float .f64 0,iI 6]) (g)):=by
 have HQ:=ι h;have HT:=ι (AB.refl (hlT w0 K) w);obtain⟨c0,c1,c2,c3,cl⟩:=h.row.k4;clear h;unfold HLo;have H0:=ι h0;clear h0;go_enter func7,ntmps7
 go_wp2_with(first
  | (go_at_call 30;refine(F6 HQ.o).mono ?_;rintro e w1 ⟨rfl,rfl⟩)
  | (go_at_call 31;refine(OW HQ.o H0.o).mono ?_;rintro e w1 ⟨rfl,ht,hl⟩;replace HT:=ι (HT.o.trans ht);replace HQ:=ι (HQ.o.next ht hl);clear c0 c1 c2 c3 cl;obtain⟨c0,c1,c2,c3,cl⟩:=HQ.o.row.k4;clear ht hl))
 go_ret3
 exact⟨rfl,HT.o,HQ.o.hv⟩
theorem Juw(h:BK w0 K c hb lb hd at_ off g w)(h0:g.shE hd=0):Calls prog 7 #[pP lb] w (HLo w0 K c hb w (.tuple #[uU (g.fdV hd 2 3:Nat),.float .f64 (g.fdV hd 1 2),iI 0]) (g.loG hd hd 0)):=by
 have HQ:=ι h;have HT:=ι (AB.refl (hlT w0 K) w);obtain⟨c0,c1,c2,c3,cl⟩:=h.row.k4;clear h;unfold HLo;have H0:=ι h0;have Y:=ι (λ(V:World) (hV:BK w0 K c hb lb hd at_ off g V)=>VdK hV hd);generalize g.fdV hd 2 3=x at Y⊢;generalize g.fdV hd 1 2=y at Y⊢;clear h0;go_enter func7,ntmps7
 go_upto_region 6 with(first
  | (go_at_call 30;refine(F6 HQ.o).mono ?_;rintro e w1 ⟨rfl,rfl⟩)
  | (go_at_call 31;refine(MR HQ.o H0.o).mono ?_;rintro e w1 ⟨rfl,ht,hl⟩;replace HT:=ι (HT.o.trans ht);replace HQ:=ι (HQ.o.next ht hl);clear c0 c1 c2 c3 cl;obtain⟨c0,c1,c2,c3,cl⟩:=HQ.o.row.k4;clear ht hl)
  | (go_at_call 32;refine(Y.o _ HQ.o).mono ?_;rintro e w1 ⟨rfl,ht,hl⟩;replace HT:=ι (HT.o.trans ht);replace HQ:=ι (HQ.o.next ht hl);clear c0 c1 c2 c3 cl;obtain⟨c0,c1,c2,c3,cl⟩:=HQ.o.row.k4;clear ht hl))
 clear c0 c1 c2 c3 cl;obtain⟨Sx,J,HS⟩:=AA.start λW'=>Rec W' lb 77 [pP hb,iI hd,iI at_,iI off];have y0:=AA.fact J λ_ h=>h.cell (j:=0) rfl;have y1:=AA.fact J λ_ h=>h.cell (j:=1) rfl;have Z:=HS.o _ (HQ.o.row.gr (Gr.refl _).drew);have U:Inhabited (AA Sx):=⟨⟨_,Z⟩⟩;clear J;refine AR Sx 12 [([0,1,2,3,4,5,6,7,8,9,10,11],12)] [] (by kernel_rfl) (by kernel_rfl) Z ?_;refine AG ?_
 try simp only[AC,ζ,ξ]
 repeat(go_big_quiet_step (fail))
 refine ψ ?_;go_wp2_with((go_at_call 33;refine((HQ.o.gr (Gr.refl _).drew).hv.load _ _ _).mono ?_;rintro e w1 ⟨rfl,ht,hl⟩;replace HT:=ι ((HT.o.trans ((Gr.refl _).drew.touch _)).trans ht);replace HQ:=ι ((HQ.o.gr (Gr.refl _).drew).next ht hl);clear ht hl));refine⟨.inl trivial,?_⟩;refine AS ?_
 try simp only[AC]
 repeat(go_big_quiet_step (fail))
 refine ψ ?_;refine τ ?_;clear y0 y1 Z U;clear HS Sx;obtain⟨c0,c1,c2,c3,cl⟩:=HQ.o.row.k4;go_wp2
 go_ret3
 exact⟨rfl,HT.o,HQ.o.hv⟩
end
section
variable {w0 w w':World} {K:Nat->Prop} {c:HCf} {hb lb hd at_ off:Nat} {g g':Gph}
theorem YQ(h:BK w0 K c hb lb hd at_ off g w){i:Int}(h0:i<0):Calls prog 34 #[pP lb,iI i] w (HLo w0 K c hb w (.bool false) (g)):=by
 have HT:=(AB.refl (hlT w0 K) w);go_enter func34,ntmps34;go_wp2;go_ret;exact⟨rfl,HT,h.hv⟩
theorem Z2(h:BK w0 K c hb lb hd at_ off g w){k:Nat}(hk:k<=9223372036854775807)(h0:(CF hd at_ k g).shE at_=0):Calls prog 34 #[pP lb,iI k] w (HLo w0 K c hb w (.bool true) (CF hd at_ k g)):=by
 have HQ:=ι h;have HT:=ι (AB.refl (hlT w0 K) w);obtain⟨c0,c1,c2,c3,cl⟩:=h.row.k4;unfold HLo;obtain⟨G,hG⟩:∃G,G=CF hd at_ k g:=⟨_,rfl⟩;rw[<-hG]at h0⊢;have HG:=hG;have hk0:¬(k:Int)<0:=Ω
 go_enter func34,ntmps34;go_upto_region 3 with(fail);obtain⟨Sx,Y,HS⟩:=AA.start λW'=>Rec W' lb 77 [pP hb,iI hd,iI at_,iI off];have y0:=AA.fact Y λ_ h=>h.cell (j:=0) rfl;have y1:=AA.fact Y λ_ h=>h.cell (j:=1) rfl;have y2:=AA.fact Y λ_ h=>h.cell (j:=2) rfl;have Z:=HS.o _ (HQ.o.row.gr (Gr.refl _).drew);have U:Inhabited (AA Sx):=⟨⟨_,Z⟩⟩;clear Y;refine AR Sx 12 [([0,1,2,3,4,5,6,7,8,9,10,11],12)] [] (by kernel_rfl) (by kernel_rfl) Z ?_;refine AG ?_
 try simp only[AC,ζ,ξ]
 repeat(go_big_quiet_step (fail))
 refine ψ ?_;go_wp2_with((go_at_call 35;refine((HQ.o.gr (Gr.refl _).drew).hv.copy _ _).mono ?_;rintro e w1 ⟨rfl,ht,hl⟩;replace HT:=ι ((HT.o.trans ((Gr.refl _).drew.touch _)).trans ht);replace HQ:=ι ((HQ.o.gr (Gr.refl _).drew).next ht hl)));refine⟨.inl trivial,?_⟩;refine AS ?_
 try simp only[AC]
 repeat(go_big_quiet_step (fail))
 refine ψ ?_;refine τ ?_;obtain⟨c0,c1,c2,c3,cl⟩:=HQ.o.row.k4;have HI:Hid (DX at_ k (g.cpG at_ hd)=G):=⟨HG.symm⟩;go_wp2
 go_loopw [1] (λs1 wr=>∃(j:Nat) (gj:Gph),j<=9223372036854775807/\s1=iI j/\Hid (BK w0 K c hb lb hd at_ off gj wr)/\Hid (AB (hlT w0 K) w wr)/\Hid (DX at_ j gj=G)) (λs1 _=>(intOf s1).toNat)
 case atStart=>exact⟨k,_,hk,rfl,HQ,HT,HI⟩
 case round=>
  obtain⟨j,gj,hj,rfl,HQ,HT,HI⟩:=hrel;obtain⟨c0,c1,c2,c3,cl⟩:=HQ.o.row.k4;cases j with
  | zero=>
   have d0:decide ((0:Int)<((0:Nat):Int))=false:=by decide
   have J:Hid (gj=G):=⟨HI.o⟩;have H2:Hid (gj.shE at_=0):=⟨by rw[J.o];exact h0⟩;go_wp2_with(go_at_call 31;refine(MR HQ.o H2.o).mono ?_;rintro e w1 ⟨rfl,ht,hl⟩;replace HT:=ι (HT.o.trans ht);replace HQ:=ι (HQ.o.next ht hl);replace c0:=HQ.o.row.cc 0;replace c1:=HQ.o.row.cc 1;replace c2:=HQ.o.row.cc 2;replace c3:=HQ.o.row.cc 3;replace cl:=HQ.o.row.lt);go_ret;exact⟨rfl,HT.o,J.o▸HQ.o.hv⟩
  | succ j=>
   have d0:decide ((0:Int)<((j+1:Nat):Int))=true:=by rw[ζf];omega
   have d1:((j+1:Nat):Int)-1=(j:Int):=Ω
   have hjI:(0:Int)<((j+1:Nat):Int):=Ω
   by_cases h1:gj.shE at_=0
   ·have V:Hid (DX at_ j (gj.loG at_ at_ 0)=G):=⟨by have:=HI.o;rw[show DX at_ (j+1) gj=if gj.shE at_=0 then DX at_ j (gj.loG at_ at_ 0)else gj from rfl,μ h1]at this;exact this⟩;go_upto_region 6 with(go_at_call 31;refine(MR HQ.o h1).mono ?_;rintro e w1 ⟨rfl,ht,hl⟩;replace HT:=ι (HT.o.trans ht);replace HQ:=ι (HQ.o.next ht hl);replace c0:=HQ.o.row.cc 0;replace c1:=HQ.o.row.cc 1;replace c2:=HQ.o.row.cc 2;replace c3:=HQ.o.row.cc 3;replace cl:=HQ.o.row.lt);obtain⟨Sx,Y,HS⟩:=AA.start λW'=>Rec W' lb 77 [pP hb,iI hd,iI at_,iI off];have y0:=AA.fact Y λ_ h=>h.cell (j:=0) rfl;have y2:=AA.fact Y λ_ h=>h.cell (j:=2) rfl;have Z:=HS.o _ (HQ.o.row.gr (Gr.refl _).drew);have U:Inhabited (AA Sx):=⟨⟨_,Z⟩⟩;clear Y;refine AR Sx 12 [([0,1,2,3,4,5,6,7,8,9,10,11],12)] [] (by kernel_rfl) (by kernel_rfl) Z ?_;refine AG ?_
    try simp only[AC,ζ,ξ]
    repeat(go_big_quiet_step (fail))
    refine ψ ?_;go_wp2_with((go_at_call 33;refine((HQ.o.gr (Gr.refl _).drew).hv.load _ _ _).mono ?_;rintro e w1 ⟨rfl,ht,hl⟩;replace HT:=ι ((HT.o.trans ((Gr.refl _).drew.touch _)).trans ht);replace HQ:=ι ((HQ.o.gr (Gr.refl _).drew).next ht hl)));refine⟨.inl trivial,?_⟩;refine AS ?_
    try simp only[AC]
    repeat(go_big_quiet_step (fail))
    refine ψ ?_;refine τ ?_;obtain⟨c0,c1,c2,c3,cl⟩:=HQ.o.row.k4;go_wp2;go_round
    case rel=>exact⟨j,_,by have:=hj;omega,by go_num,HQ,HT,V⟩
    case measure=>simp[intOf]
   ·have J:Hid (gj=G):=⟨by have:=HI.o;rw[show DX at_ (j+1) gj=if gj.shE at_=0 then DX at_ j (gj.loG at_ at_ 0)else gj from rfl,κ h1]at this;exact this⟩;exact absurd (J.o▸h0) h1
theorem YE(h:BK w0 K c hb lb hd at_ off g w){k:Nat}(hk:k<=9223372036854775807)(h0:¬(CF hd at_ k g).shE at_=0):Calls prog 34 #[pP lb,iI k] w (HLo w0 K c hb w (.bool false) (CF hd at_ k g)):=by
 have HQ:=ι h;have HT:=ι (AB.refl (hlT w0 K) w);unfold HLo;obtain⟨G,hG⟩:∃G,G=CF hd at_ k g:=⟨_,rfl⟩;rw[<-hG]at h0⊢;have HG:=hG;have hk0:¬(k:Int)<0:=Ω
 go_enter func34,ntmps34;go_upto_region 3 with(fail);obtain⟨Sx,Y,HS⟩:=AA.start λW'=>Rec W' lb 77 [pP hb,iI hd,iI at_,iI off];have y0:=AA.fact Y λ_ h=>h.cell (j:=0) rfl;have y1:=AA.fact Y λ_ h=>h.cell (j:=1) rfl;have y2:=AA.fact Y λ_ h=>h.cell (j:=2) rfl;have Z:=HS.o _ (HQ.o.row.gr (Gr.refl _).drew);have U:Inhabited (AA Sx):=⟨⟨_,Z⟩⟩;clear Y;refine AR Sx 12 [([0,1,2,3,4,5,6,7,8,9,10,11],12)] [] (by kernel_rfl) (by kernel_rfl) Z ?_;refine AG ?_
 try simp only[AC,ζ,ξ]
 repeat(go_big_quiet_step (fail))
 refine ψ ?_;go_wp2_with((go_at_call 35;refine((HQ.o.gr (Gr.refl _).drew).hv.copy _ _).mono ?_;rintro e w1 ⟨rfl,ht,hl⟩;replace HT:=ι ((HT.o.trans ((Gr.refl _).drew.touch _)).trans ht);replace HQ:=ι ((HQ.o.gr (Gr.refl _).drew).next ht hl)));refine⟨.inl trivial,?_⟩;refine AS ?_
 try simp only[AC]
 repeat(go_big_quiet_step (fail))
 refine ψ ?_;refine τ ?_;have HI:Hid (DX at_ k (g.cpG at_ hd)=G):=⟨HG.symm⟩;go_wp2
 go_loopw [1] (λs1 wr=>∃(j:Nat) (gj:Gph),j<=9223372036854775807/\s1=iI j/\Hid (BK w0 K c hb lb hd at_ off gj wr)/\Hid (AB (hlT w0 K) w wr)/\Hid (DX at_ j gj=G)) (λs1 _=>(intOf s1).toNat)
 case atStart=>exact⟨k,_,hk,rfl,HQ,HT,HI⟩
 case round=>
  obtain⟨j,gj,hj,rfl,HQ,HT,HI⟩:=hrel;have c2:=HQ.o.row.cc 2;cases j with
  | zero=>
   have J:Hid (gj=G):=⟨HI.o⟩;have H2:Hid (¬gj.shE at_=0):=⟨by rw[J.o];exact h0⟩;go_wp2_with(go_at_call 31;refine(OW HQ.o H2.o).mono ?_;rintro e w1 ⟨rfl,ht,hl⟩;replace HT:=ι (HT.o.trans ht);replace HQ:=ι (HQ.o.next ht hl);replace c0:=HQ.o.row.cc 0;replace c1:=HQ.o.row.cc 1;replace c2:=HQ.o.row.cc 2;replace c3:=HQ.o.row.cc 3;replace cl:=HQ.o.row.lt);go_ret;exact⟨rfl,HT.o,J.o▸HQ.o.hv⟩
  | succ j=>
   by_cases h1:gj.shE at_=0
   ·have V:Hid (DX at_ j (gj.loG at_ at_ 0)=G):=⟨by have:=HI.o;rw[show DX at_ (j+1) gj=if gj.shE at_=0 then DX at_ j (gj.loG at_ at_ 0)else gj from rfl,μ h1]at this;exact this⟩;go_upto_region 6 with(go_at_call 31;refine(MR HQ.o h1).mono ?_;rintro e w1 ⟨rfl,ht,hl⟩;replace HT:=ι (HT.o.trans ht);replace HQ:=ι (HQ.o.next ht hl);replace c0:=HQ.o.row.cc 0;replace c1:=HQ.o.row.cc 1;replace c2:=HQ.o.row.cc 2;replace c3:=HQ.o.row.cc 3;replace cl:=HQ.o.row.lt);obtain⟨Sx,Y,HS⟩:=AA.start λW'=>Rec W' lb 77 [pP hb,iI hd,iI at_,iI off];have y0:=AA.fact Y λ_ h=>h.cell (j:=0) rfl;have y2:=AA.fact Y λ_ h=>h.cell (j:=2) rfl;have Z:=HS.o _ (HQ.o.row.gr (Gr.refl _).drew);have U:Inhabited (AA Sx):=⟨⟨_,Z⟩⟩;clear Y;refine AR Sx 12 [([0,1,2,3,4,5,6,7,8,9,10,11],12)] [] (by kernel_rfl) (by kernel_rfl) Z ?_;refine AG ?_
    try simp only[AC,ζ,ξ]
    repeat(go_big_quiet_step (fail))
    refine ψ ?_;go_wp2_with((go_at_call 33;refine((HQ.o.gr (Gr.refl _).drew).hv.load _ _ _).mono ?_;rintro e w1 ⟨rfl,ht,hl⟩;replace HT:=ι ((HT.o.trans ((Gr.refl _).drew.touch _)).trans ht);replace HQ:=ι ((HQ.o.gr (Gr.refl _).drew).next ht hl)));refine⟨.inl trivial,?_⟩;refine AS ?_
    try simp only[AC]
    repeat(go_big_quiet_step (fail))
    refine ψ ?_;refine τ ?_;clear y0 y2 Z U;go_wp2;go_round
    case rel=>exact⟨j,_,by have:=hj;omega,by go_num,HQ,HT,V⟩
    case measure=>simp[intOf]
   ·have J:Hid (gj=G):=⟨by have:=HI.o;rw[show DX at_ (j+1) gj=if gj.shE at_=0 then DX at_ j (gj.loG at_ at_ 0)else gj from rfl,κ h1]at this;exact this⟩;go_wp2_with(go_at_call 31;refine(OW HQ.o h1).mono ?_;rintro e w1 ⟨rfl,ht,hl⟩;replace HT:=ι (HT.o.trans ht);replace HQ:=ι (HQ.o.next ht hl);replace c0:=HQ.o.row.cc 0;replace c1:=HQ.o.row.cc 1;replace c2:=HQ.o.row.cc 2;replace c3:=HQ.o.row.cc 3;replace cl:=HQ.o.row.lt);go_ret;exact⟨rfl,HT.o,J.o▸HQ.o.hv⟩
theorem VZK(h:BK w0 K c hb lb hd at_ off g w){k:Nat}(hk:k<=9223372036854775807)(h0:(CF hd at_ k g).shE at_=0):Calls prog 8 #[pP lb,iI k] w (HLo w0 K c hb w (.tuple #[uU ((CF hd at_ k g).fdV at_ 2 3:Nat),.float .f64 ((CF hd at_ k g).fdV at_ 1 2),iI 0]) (DJ at_ off (CF hd at_ k g))):=by
 have HQ:=ι h;have HT:=ι (AB.refl (hlT w0 K) w);obtain⟨c0,c1,c2,c3,cl⟩:=h.row.k4;unfold HLo;have Y:=(λ(V:World) (hV:BK w0 K c hb lb hd at_ off (CF hd at_ k g) V)=>VdK hV at_);generalize (CF hd at_ k g).fdV at_ 2 3=x at Y⊢;generalize (CF hd at_ k g).fdV at_ 1 2=y at Y⊢
 go_enter_defers func8,ntmps8
 go_wp2_with(first
  | (go_at_call 30;refine(F6 HQ.o).mono ?_;rintro e w1 ⟨rfl,rfl⟩)
  | (go_at_call 34;refine(Z2 HQ.o hk h0).mono ?_;rintro e w1 ⟨rfl,ht,hl⟩;replace HT:=ι (HT.o.trans ht);replace HQ:=ι (HQ.o.next ht hl);replace c2:=HQ.o.row.cc 2;replace cl:=HQ.o.row.lt)
  | (go_at_call 32;refine(Y _ HQ.o).mono ?_;rintro e w1 ⟨rfl,ht,hl⟩;replace HT:=ι (HT.o.trans ht);replace HQ:=ι (HQ.o.next ht hl);replace cl:=HQ.o.row.lt))
 refine leaves_cons (f:=29) (args:=#[pP lb]) (by simp) (by simp[go_sem]) ?_;refine(LW HQ.o _).mono ?_;rintro e u' w2 ⟨rfl,rfl,ht,hl⟩;have Z:=(HT.o.trans ht);simp only[Leaves,settle];refine⟨_,by simp[results,results8,go_sem],rfl,Z,hl⟩
theorem ZFc(h:BK w0 K c hb lb hd at_ off g w){k:Nat}(hk:k<=9223372036854775807)(h0:¬(CF hd at_ k g).shE at_=0):Calls prog 8 #[pP lb,iI k] w (HLo w0 K c hb w (.tuple #[uU 0,.float .f64 0,iI 6]) (DJ at_ off (CF hd at_ k g))):=by
 have HQ:=ι h;have HT:=ι (AB.refl (hlT w0 K) w)
 go_enter_defers func8,ntmps8
 go_wp2_with(first
  | (go_at_call 30;refine(F6 HQ.o).mono ?_;rintro e w1 ⟨rfl,rfl⟩)
  | (go_at_call 34;refine(YE HQ.o hk h0).mono ?_;rintro e w1 ⟨rfl,ht,hl⟩;replace HT:=ι (HT.o.trans ht);replace HQ:=ι (HQ.o.next ht hl))
  | (go_at_call 32;refine(HND _ HQ.o).mono ?_;rintro e w1 ⟨rfl,ht,hl⟩))
 refine leaves_cons (f:=29) (args:=#[pP lb]) (by simp) (by simp[go_sem]) ?_;refine(LW HQ.o _).mono ?_;rintro e u' w2 ⟨rfl,rfl,ht,hl⟩;have Y:=(HT.o.trans ht);refine⟨_,by simp[results,results8,go_sem],rfl,Y,hl⟩
theorem X4w(h:BK w0 K c hb lb hd at_ off g w){i:Int}(h0:i<0):Calls prog 8 #[pP lb,iI i] w (HLo w0 K c hb w (.tuple #[uU 0,.float .f64 0,iI 6]) (DJ at_ off g)):=by
 have HQ:=ι h;have HT:=ι (AB.refl (hlT w0 K) w)
 go_enter_defers func8,ntmps8
 go_wp2_with(first
  | (go_at_call 30;refine(F6 HQ.o).mono ?_;rintro e w1 ⟨rfl,rfl⟩)
  | (go_at_call 34;refine(YQ HQ.o h0).mono ?_;rintro e w1 ⟨rfl,ht,hl⟩;replace HT:=ι (HT.o.trans ht);replace HQ:=ι (HQ.o.next ht hl))
  | (go_at_call 32;refine(HND _ HQ.o).mono ?_;rintro e w1 ⟨rfl,ht,hl⟩))
 refine leaves_cons (f:=29) (args:=#[pP lb]) (by simp) (by simp[go_sem]) ?_;refine(LW HQ.o _).mono ?_;rintro e u' w2 ⟨rfl,rfl,ht,hl⟩;have Y:=(HT.o.trans ht);refine⟨_,by simp[results,results8,go_sem],rfl,Y,hl⟩
theorem Yvs(h:BK w0 K c hb lb hd at_ off g w){k:Nat}(hk:k<=9223372036854775807)(h0:(CF hd at_ k g).shE at_=0){x y:Nat}(hx:x<18446744073709551616)(hy:y<18446744073709551616):Calls prog 11 #[pP lb,iI k,uU x,.float .f64 y] w (HLo w0 K c hb w (iI 0) (DJ at_ off (((CF hd at_ k g).wrG at_ 2 3 x).wrG at_ 1 2 y))):=by
 have HQ:=ι h;have HT:=ι (AB.refl (hlT w0 K) w);obtain⟨c0,c1,c2,c3,cl⟩:=h.row.k4;clear h;unfold HLo;have HF:=ι h0;clear h0;have HX:=ι hx;have HY:=ι hy;clear hx hy
 go_enter_defers func11,ntmps11
 go_wp2_with(first
  | (go_at_call 30;refine(F6 HQ.o).mono ?_;rintro e w1 ⟨rfl,rfl⟩)
  | (go_at_call 34;refine(Z2 HQ.o hk HF.o).mono ?_;rintro e w1 ⟨rfl,ht,hl⟩;replace HT:=ι (HT.o.trans ht);replace HQ:=ι (HQ.o.next ht hl);clear c0 c1 c2 c3 cl;obtain⟨c0,c1,c2,c3,cl⟩:=HQ.o.row.k4;clear ht hl)
  | (go_at_call 37;refine(QW HQ.o _ HX.o HY.o).mono ?_;rintro e w1 ⟨rfl,ht,hl⟩;replace HT:=ι (HT.o.trans ht);replace HQ:=ι (HQ.o.next ht hl);clear c0 c1 c2 c3 cl;obtain⟨c0,c1,c2,c3,cl⟩:=HQ.o.row.k4;clear ht hl))
 refine leaves_cons (f:=29) (args:=#[pP lb]) (by simp) (by simp[go_sem]) ?_;refine(LW HQ.o _).mono ?_;rintro e u' w2 ⟨rfl,rfl,ht,hl⟩;have Y:=ι (HT.o.trans ht);simp only[Leaves,settle];refine⟨_,by simp[results,results11,go_sem],rfl,Y.o,hl⟩
theorem Jna(h:BK w0 K c hb lb hd at_ off g w){k:Nat}(hk:k<=9223372036854775807)(h0:¬(CF hd at_ k g).shE at_=0){x y:Nat}(hx:x<18446744073709551616)(hy:y<18446744073709551616):Calls prog 11 #[pP lb,iI k,uU x,.float .f64 y] w (HLo w0 K c hb w (iI 6) (DJ at_ off (CF hd at_ k g))):=by
 have HQ:=ι h;have HT:=ι (AB.refl (hlT w0 K) w);obtain⟨c0,c1,c2,c3,cl⟩:=h.row.k4;clear h;unfold HLo;have HF:=ι h0;clear h0;have HX:=ι hx;have HY:=ι hy;clear hx hy
 go_enter_defers func11,ntmps11
 go_wp2_with(first
  | (go_at_call 30;refine(F6 HQ.o).mono ?_;rintro e w1 ⟨rfl,rfl⟩)
  | (go_at_call 34;refine(YE HQ.o hk HF.o).mono ?_;rintro e w1 ⟨rfl,ht,hl⟩;replace HT:=ι (HT.o.trans ht);replace HQ:=ι (HQ.o.next ht hl);clear c0 c1 c2 c3 cl;obtain⟨c0,c1,c2,c3,cl⟩:=HQ.o.row.k4;clear ht hl)
  | (go_at_call 37;refine(QW HQ.o _ HX.o HY.o).mono ?_;rintro e w1 ⟨rfl,ht,hl⟩;replace HT:=ι (HT.o.trans ht);replace HQ:=ι (HQ.o.next ht hl);clear c0 c1 c2 c3 cl;obtain⟨c0,c1,c2,c3,cl⟩:=HQ.o.row.k4;clear ht hl))
 refine leaves_cons (f:=29) (args:=#[pP lb]) (by simp) (by simp[go_sem]) ?_;refine(LW HQ.o _).mono ?_;rintro e u' w2 ⟨rfl,rfl,ht,hl⟩;have Y:=ι (HT.o.trans ht);simp only[Leaves,settle];refine⟨_,by simp[results,results11,go_sem],rfl,Y.o,hl⟩
theorem ZsM(h:BK w0 K c hb lb hd at_ off g w){i:Int}(h0:i<0){x y:Nat}(hx:x<18446744073709551616)(hy:y<18446744073709551616):Calls prog 11 #[pP lb,iI i,uU x,.float .f64 y] w (HLo w0 K c hb w (iI 6) (DJ at_ off g)):=by
 have HQ:=ι h;have HT:=ι (AB.refl (hlT w0 K) w);obtain⟨c0,c1,c2,c3,cl⟩:=h.row.k4;clear h;unfold HLo;have HF:=ι h0;clear h0;have HX:=ι hx;have HY:=ι hy;clear hx hy
 go_enter_defers func11,ntmps11
 go_wp2_with(first
  | (go_at_call 30;refine(F6 HQ.o).mono ?_;rintro e w1 ⟨rfl,rfl⟩)
  | (go_at_call 34;refine(YQ HQ.o HF.o).mono ?_;rintro e w1 ⟨rfl,ht,hl⟩;replace HT:=ι (HT.o.trans ht);replace HQ:=ι (HQ.o.next ht hl);clear c0 c1 c2 c3 cl;obtain⟨c0,c1,c2,c3,cl⟩:=HQ.o.row.k4;clear ht hl)
  | (go_at_call 37;refine(QW HQ.o _ HX.o HY.o).mono ?_;rintro e w1 ⟨rfl,ht,hl⟩;replace HT:=ι (HT.o.trans ht);replace HQ:=ι (HQ.o.next ht hl);clear c0 c1 c2 c3 cl;obtain⟨c0,c1,c2,c3,cl⟩:=HQ.o.row.k4;clear ht hl))
 refine leaves_cons (f:=29) (args:=#[pP lb]) (by simp) (by simp[go_sem]) ?_;refine(LW HQ.o _).mono ?_;rintro e u' w2 ⟨rfl,rfl,ht,hl⟩;have Y:=ι (HT.o.trans ht);simp only[Leaves,settle];refine⟨_,by simp[results,results11,go_sem],rfl,Y.o,hl⟩
end
theorem Chn.nxt{g:Gph}:∀{T:List Nat} {y:Nat} {D:List (Nat×Nat)},Chn g y T D->∀i,i<T.length->∃f w,Nd g (T.getD i 0) (T.getD (i+1) 0) f w
 | [],_,_,_,_,hi=>absurd hi (ζI _)
 | x :: T,_,_,⟨e,f,w,nx,D',e2,hn,hc⟩,0,_=>by
  have:(x :: T).getD 1 0=nx:=by
   cases T with
   | nil=>exact hc.1.symm
   | cons z T=>exact hc.1.symm
  grind
 | x :: T,_,_,⟨e,f,w,nx,D',e2,hn,hc⟩,i+1,hi=>hc.nxt i (by simp_all)
section
variable {w0 w w':World} {K:Nat->Prop} {c:HCf} {hb lb hd at_ off:Nat} {g g':Gph} {T:List Nat} {D:List (Nat × Nat)}
theorem Qw3(h:BK w0 K c hb lb hd at_ off g w)(hg:LsG g hd at_ off T D)(hk:g.Ok):Calls prog 9 #[pP lb] w λe w'=>∃g',QL g g' hd at_ off T D/\HLo w0 K c hb w (.tuple #[]) g' e w':=by
 have HQ:=ι h;have HT:=ι (AB.refl (hlT w0 K) w);obtain⟨c0,c1,c2,c3,cl⟩:=h.row.k4;have O:=ι (TnG.start hg hk);go_enter func9,ntmps9;go_wp2_with(go_at_call 30;refine(F6 HQ.o).mono ?_;rintro e w1 ⟨rfl,rfl⟩)
 go_loopg [] T.length (λn wr=>∃(g1:Gph) (T1 R:List Nat) (D1 E:List (Nat×Nat)),Hid (T1.length=n)/\Hid (BK w0 K c hb lb hd at_ off g1 wr)/\Hid (AB (hlT w0 K) w wr)/\Hid (TnG g g1 hd at_ off T1 R T D1 E D))
 case atStart=>exact⟨g,T,[],D,[],⟨rfl⟩,HQ,HT,O⟩
 case round=>
  obtain⟨g1,T1,R,D1,E,HN,HQ,HT,U⟩:=hrel;obtain⟨c0,c1,c2,c3,cl⟩:=HQ.o.row.k4;have hl:=U.o.sl;have HL:Hid (hd<g1.S.length/\at_<g1.S.length/\off<g1.S.length):=⟨⟨by rw[hl];exact hg.h1,by rw[hl];exact hg.h2,by rw[hl];exact hg.h3⟩⟩;by_cases hz:g1.S.getD hd 0=0
  ·have H1:Hid (¬g1.shE hd=0):=⟨by rw[g1.shE_ok HL.o.1,μ hz];decide⟩;have HF:=(U.o.fin HL.o.1 HL.o.2.1 HL.o.2.2 hg.d1 hg.d2 hg.d3 hg.nd hg.z2 hg.z3 hz);go_upto_region 6 with(go_at_call 31;refine(OW HQ.o H1.o).mono ?_;rintro e w1 ⟨rfl,ht,hl⟩;replace HT:=ι (HT.o.trans ht);replace HQ:=ι (HQ.o.next ht hl);replace c0:=HQ.o.row.cc 0;replace c1:=HQ.o.row.cc 1;replace c2:=HQ.o.row.cc 2;replace c3:=HQ.o.row.cc 3;replace cl:=HQ.o.row.lt);obtain⟨Sx,Y,HS⟩:=AA.start λW'=>Rec W' lb 77 [pP hb,iI hd,iI at_,iI off];have y0:=AA.fact Y λ_ h=>h.cell (j:=0) rfl;have y1:=AA.fact Y λ_ h=>h.cell (j:=1) rfl;have y3:=AA.fact Y λ_ h=>h.cell (j:=3) rfl;have Z:=HS.o _ (HQ.o.row.gr (Gr.refl _).drew);have J:Inhabited (AA Sx):=⟨⟨_,Z⟩⟩;clear Y;refine AR Sx 12 [([0,1,2,3,4,5,6,7,8,9,10,11],12)] [] (by kernel_rfl) (by kernel_rfl) Z ?_;refine AG ?_
   try simp only[AC,ζ,ξ]
   repeat(go_big_quiet_step (fail))
   refine ψ ?_;go_wp2_with((go_at_call 35;refine((HQ.o.gr (Gr.refl _).drew).hv.copy _ _).mono ?_;rintro e w1 ⟨rfl,ht,hl⟩;replace HT:=ι ((HT.o.trans ((Gr.refl _).drew.touch _)).trans ht);replace HQ:=ι ((HQ.o.gr (Gr.refl _).drew).next ht hl)));refine⟨.inl trivial,?_⟩;refine AS ?_
   try simp only[AC]
   repeat(go_big_quiet_step (fail))
   refine ψ ?_;refine τ ?_;clear y0 y1 y3 Z J;obtain⟨c0,c1,c2,c3,cl⟩:=HQ.o.row.k4;go_wp2_with(go_at_call 29;refine(RY HQ.o).mono ?_;rintro e w1 ⟨rfl,ht,hl⟩;replace HT:=ι (HT.o.trans ht);replace HQ:=ι (HQ.o.next ht hl);replace c0:=HQ.o.row.cc 0;replace c1:=HQ.o.row.cc 1;replace c2:=HQ.o.row.cc 2;replace c3:=HQ.o.row.cc 3;replace cl:=HQ.o.row.lt)
   first|go_end0|(refine ζD (ζl rfl _ _ _) rfl ?_)
   exact⟨_,HF,rfl,HT.o,HQ.o.hv⟩
  ·have H1:Hid (g1.shE hd=0):=⟨by rw[g1.shE_ok HL.o.1,κ hz]⟩
   have V:Hid (∃T2 R2 D2 E2,T2.length<gk/\TnG g (QB hd at_ off g1) hd at_ off T2 R2 T D2 E2 D):=⟨by
    obtain⟨x,T',v,f,D',e1,e2,hs⟩:=U.o.step HL.o.1 HL.o.2.1 HL.o.2.2 hg.d1 hg.d2 hg.d3 hg.nd hz
    exact⟨T',_,D',_,by rw[<-HN.o,e1];exact ξo _,hs⟩⟩
   go_upto_region 2 with(go_at_call 31;refine(MR HQ.o H1.o).mono ?_;rintro e w1 ⟨rfl,ht,hl⟩;replace HT:=ι (HT.o.trans ht);replace HQ:=ι (HQ.o.next ht hl);clear c0 c1 c2 c3 cl;obtain⟨c0,c1,c2,c3,cl⟩:=HQ.o.row.k4;clear ht hl);obtain⟨Sx,Y,HS⟩:=AA.start λW'=>Rec W' lb 77 [pP hb,iI hd,iI at_,iI off];have y0:=AA.fact Y λ_ h=>h.cell (j:=0) rfl;have y1:=AA.fact Y λ_ h=>h.cell (j:=1) rfl;have y2:=AA.fact Y λ_ h=>h.cell (j:=2) rfl;have Z:=HS.o _ (HQ.o.row.gr (Gr.refl _).drew);have J:Inhabited (AA Sx):=⟨⟨_,Z⟩⟩;clear Y;refine AR Sx 12 [([0,1,2,3,4,5,6,7,8,9,10,11],12)] [] (by kernel_rfl) (by kernel_rfl) Z ?_;refine AG ?_
   try simp only[AC,ζ,ξ]
   repeat(go_big_quiet_step (fail))
   refine ψ ?_;go_wp2_with((go_at_call 35;refine((HQ.o.gr (Gr.refl _).drew).hv.copy _ _).mono ?_;rintro e w1 ⟨rfl,ht,hl⟩;replace HT:=ι ((HT.o.trans ((Gr.refl _).drew.touch _)).trans ht);replace HQ:=ι ((HQ.o.gr (Gr.refl _).drew).next ht hl);clear ht hl));refine⟨.inl trivial,?_⟩;refine AS ?_
   try simp only[AC]
   repeat(go_big_quiet_step (fail))
   refine ψ ?_;refine τ ?_;clear y0 y1 y2 Z J;clear HS Sx;obtain⟨c0,c1,c2,c3,cl⟩:=HQ.o.row.k4;go_upto_region 3 with(fail);clear c0 c1 c2 c3 cl;obtain⟨Sx,Y,HS⟩:=AA.start λW'=>Rec W' lb 77 [pP hb,iI hd,iI at_,iI off];have y0:=AA.fact Y λ_ h=>h.cell (j:=0) rfl;have y1:=AA.fact Y λ_ h=>h.cell (j:=1) rfl;have Z:=HS.o _ (HQ.o.row.gr (Gr.refl _).drew);have J:Inhabited (AA Sx):=⟨⟨_,Z⟩⟩;clear Y;refine AR Sx 12 [([0,1,2,3,4,5,6,7,8,9,10,11],12)] [] (by kernel_rfl) (by kernel_rfl) Z ?_;refine AG ?_
   try simp only[AC,ζ,ξ]
   repeat(go_big_quiet_step (fail))
   refine ψ ?_;go_wp2_with((go_at_call 33;refine((HQ.o.gr (Gr.refl _).drew).hv.load _ _ _).mono ?_;rintro e w1 ⟨rfl,ht,hl⟩;replace HT:=ι ((HT.o.trans ((Gr.refl _).drew.touch _)).trans ht);replace HQ:=ι ((HQ.o.gr (Gr.refl _).drew).next ht hl);clear ht hl));refine⟨.inl trivial,?_⟩;refine AS ?_
   try simp only[AC]
   repeat(go_big_quiet_step (fail))
   refine ψ ?_;refine τ ?_;clear y0 y1 Z J;clear HS Sx;obtain⟨c0,c1,c2,c3,cl⟩:=HQ.o.row.k4;go_upto_region 4 with(fail);clear c0 c1 c2 c3 cl;obtain⟨Sx,Y,HS⟩:=AA.start λW'=>Rec W' lb 77 [pP hb,iI hd,iI at_,iI off];have y0:=AA.fact Y λ_ h=>h.cell (j:=0) rfl;have y2:=AA.fact Y λ_ h=>h.cell (j:=2) rfl;have y3:=AA.fact Y λ_ h=>h.cell (j:=3) rfl;have Z:=HS.o _ (HQ.o.row.gr (Gr.refl _).drew);have J:Inhabited (AA Sx):=⟨⟨_,Z⟩⟩;clear Y;refine AR Sx 12 [([0,1,2,3,4,5,6,7,8,9,10,11],12)] [] (by kernel_rfl) (by kernel_rfl) Z ?_;refine AG ?_
   try simp only[AC,ζ,ξ]
   repeat(go_big_quiet_step (fail))
   refine ψ ?_;go_wp2_with((go_at_call 36;refine((HQ.o.gr (Gr.refl _).drew).hv.stor _ _ _).mono ?_;rintro e w1 ⟨rfl,ht,hl⟩;replace HT:=ι ((HT.o.trans ((Gr.refl _).drew.touch _)).trans ht);replace HQ:=ι ((HQ.o.gr (Gr.refl _).drew).next ht hl);clear ht hl));refine⟨.inl trivial,?_⟩;refine AS ?_
   try simp only[AC]
   repeat(go_big_quiet_step (fail))
   refine ψ ?_;refine τ ?_;clear y0 y2 y3 Z J;clear HS Sx;obtain⟨c0,c1,c2,c3,cl⟩:=HQ.o.row.k4;go_upto_region 5 with(fail);clear c0 c1 c2 c3 cl;obtain⟨Sx,Y,HS⟩:=AA.start λW'=>Rec W' lb 77 [pP hb,iI hd,iI at_,iI off];have y0:=AA.fact Y λ_ h=>h.cell (j:=0) rfl;have y2:=AA.fact Y λ_ h=>h.cell (j:=2) rfl;have y3:=AA.fact Y λ_ h=>h.cell (j:=3) rfl;have Z:=HS.o _ (HQ.o.row.gr (Gr.refl _).drew);have J:Inhabited (AA Sx):=⟨⟨_,Z⟩⟩;clear Y;refine AR Sx 12 [([0,1,2,3,4,5,6,7,8,9,10,11],12)] [] (by kernel_rfl) (by kernel_rfl) Z ?_;refine AG ?_
   try simp only[AC,ζ,ξ]
   repeat(go_big_quiet_step (fail))
   refine ψ ?_;go_wp2_with((go_at_call 35;refine((HQ.o.gr (Gr.refl _).drew).hv.copy _ _).mono ?_;rintro e w1 ⟨rfl,ht,hl⟩;replace HT:=ι ((HT.o.trans ((Gr.refl _).drew.touch _)).trans ht);replace HQ:=ι ((HQ.o.gr (Gr.refl _).drew).next ht hl);clear ht hl));refine⟨.inl trivial,?_⟩;refine AS ?_
   try simp only[AC]
   repeat(go_big_quiet_step (fail))
   refine ψ ?_;refine τ ?_;clear y0 y2 y3 Z J;clear HS Sx;obtain⟨c0,c1,c2,c3,cl⟩:=HQ.o.row.k4;go_wp2;obtain⟨T2,R2,D2,E2,M,hs⟩:=V.o
   go_roundg T2.length
   case measure=>exact M
   case rel=>exact⟨_,T2,R2,D2,E2,⟨rfl⟩,HQ,HT,⟨hs⟩⟩
theorem Z2R(h:BK w0 K c hb lb hd at_ off g w)(hg:LsG g hd at_ off T D)(hT:T.length<=1000000):Calls prog 12 #[pP lb] w (HLo w0 K c hb w (iI D.length) g):=by
 have HQ:=ι h;have HT:=ι (AB.refl (hlT w0 K) w);obtain⟨c0,c1,c2,c3,cl⟩:=h.row.k4;unfold HLo;obtain⟨N,hN⟩:∃N,N=T.length:=⟨_,rfl⟩;have HN:=ι hN;have HD:Hid ((D.length:Int)=(N:Int)):=⟨by rw[hN,hg.ch.len]⟩;rw[<-hN]at hT;have HR:Hid (∀g1:Gph,g1.S=g.S.set at_ 0->DJ at_ off g1=⟨g1.L,g.S⟩):=⟨λg1 e=>hg.rest e⟩
 have I:Hid (g.cpG at_ hd=⟨g.L,g.S.set at_ (T.getD 0 0)⟩):=⟨by
  rw[g.cpG_ok hg.h2 hg.h1];have hc:=hg.ch;cases T with
  | nil=>rw[hc.1];rfl
  | cons x T=>rw[hc.1];rfl⟩
 clear hN;go_enter func12,ntmps12;go_upto_region 4 with(go_at_call 30;refine(F6 HQ.o).mono ?_;rintro e w1 ⟨rfl,rfl⟩);clear c0 c1 c2 c3 cl;obtain⟨Sx,Y,HS⟩:=AA.start λW'=>Rec W' lb 77 [pP hb,iI hd,iI at_,iI off];have y0:=AA.fact Y λ_ h=>h.cell (j:=0) rfl;have y1:=AA.fact Y λ_ h=>h.cell (j:=1) rfl;have y2:=AA.fact Y λ_ h=>h.cell (j:=2) rfl;have J:=HS.o _ (HQ.o.row.gr (Gr.refl _).drew);have M:Inhabited (AA Sx):=⟨⟨_,J⟩⟩;clear Y;refine AR Sx 12 [([0,1,2,3,4,5,6,7,8,9,10,11],12)] [] (by kernel_rfl) (by kernel_rfl) J ?_;refine AG ?_
 try simp only[AC,ζ,ξ]
 repeat(go_big_quiet_step (fail))
 refine ψ ?_;go_wp2_with((go_at_call 35;refine((HQ.o.gr (Gr.refl _).drew).hv.copy _ _).mono ?_;rintro e w1 ⟨rfl,ht,hl⟩;replace HT:=ι ((HT.o.trans ((Gr.refl _).drew.touch _)).trans ht);replace HQ:=ι ((HQ.o.gr (Gr.refl _).drew).next ht hl);clear ht hl));refine⟨.inl trivial,?_⟩;refine AS ?_
 try simp only[AC]
 repeat(go_big_quiet_step (fail))
 refine ψ ?_;refine τ ?_;clear y0 y1 y2 J M;clear HS Sx;obtain⟨c0,c1,c2,c3,cl⟩:=HQ.o.row.k4;rw[I.o]at HQ;clear I;go_wp2
 go_loopw [3] (λs3 wr=>∃(j:Nat),j<=N/\s3=iI j/\Hid (BK w0 K c hb lb hd at_ off ⟨g.L,g.S.set at_ (T.getD j 0)⟩ wr)/\Hid (AB (hlT w0 K) w wr)) (λs3 _=>N-(intOf s3).toNat)
 case atStart=>exact⟨0,ζe _,rfl,HQ,HT⟩
 case round=>
  clear HQ HT c0 c1 c2 c3 cl;obtain⟨j,hj,rfl,HQ,HT⟩:=hrel;obtain⟨c0,c1,c2,c3,cl⟩:=HQ.o.row.k4;have U:at_<(⟨g.L,g.S.set at_ (T.getD j 0)⟩:Gph).S.length:=by show at_<(List.set _ _ _).length;rw[ν];exact hg.h2
  have V:(⟨g.L,g.S.set at_ (T.getD j 0)⟩:Gph).S.getD at_ 0=T.getD j 0:=EM hg.h2;by_cases Z:j<N
  ·obtain⟨f,v,O⟩:=hg.ch.nxt j (by rw[<-HN.o];exact Z);have H1:Hid ((⟨g.L,g.S.set at_ (T.getD j 0)⟩:Gph).shE at_=0):=⟨by rw[Gph.shE_ok U,V,κ (by have:=O.h1;omega)]⟩
   have E:Hid ((⟨g.L,g.S.set at_ (T.getD j 0)⟩:Gph).loG at_ at_ 0=⟨g.L,g.S.set at_ (T.getD (j+1) 0)⟩):=⟨by
    rw[(O.slots _).load U U V]
    show (⟨g.L,(g.S.set at_ _).set at_ _⟩:Gph)=_
    rw[List.set_set]⟩
   have hjb:j<1000000:=Ω
   clear O U V hj;go_upto_region 7 with(go_at_call 31;refine(MR HQ.o H1.o).mono ?_;rintro e w1 ⟨rfl,ht,hl⟩;replace HT:=ι (HT.o.trans ht);replace HQ:=ι (HQ.o.next ht hl);clear c0 c1 c2 c3 cl;obtain⟨c0,c1,c2,c3,cl⟩:=HQ.o.row.k4;clear ht hl);clear c0 c1 c2 c3 cl;obtain⟨Sx,Y,HS⟩:=AA.start λW'=>Rec W' lb 77 [pP hb,iI hd,iI at_,iI off];have y0:=AA.fact Y λ_ h=>h.cell (j:=0) rfl;have y2:=AA.fact Y λ_ h=>h.cell (j:=2) rfl;have J:=HS.o _ (HQ.o.row.gr (Gr.refl _).drew);have M:Inhabited (AA Sx):=⟨⟨_,J⟩⟩;clear Y;refine AR Sx 12 [([0,1,2,3,4,5,6,7,8,9,10,11],12)] [] (by kernel_rfl) (by kernel_rfl) J ?_;refine AG ?_
   try simp only[AC,ζ,ξ]
   repeat(go_big_quiet_step (fail))
   refine ψ ?_;go_wp2_with((go_at_call 33;refine((HQ.o.gr (Gr.refl _).drew).hv.load _ _ _).mono ?_;rintro e w1 ⟨rfl,ht,hl⟩;replace HT:=ι ((HT.o.trans ((Gr.refl _).drew.touch _)).trans ht);replace HQ:=ι ((HQ.o.gr (Gr.refl _).drew).next ht hl);clear ht hl));refine⟨.inl trivial,?_⟩;refine AS ?_
   try simp only[AC]
   repeat(go_big_quiet_step (fail))
   refine ψ ?_;refine τ ?_;clear y0 y2 J M;clear HS Sx;obtain⟨c0,c1,c2,c3,cl⟩:=HQ.o.row.k4;rw[E.o]at HQ;go_wp2;go_round
   case rel=>exact⟨j+1,Z,by go_num,HQ,HT⟩
   case measure=>have:=Z;simp[intOf];omega
  ·obtain rfl:j=N:=Ω
   have hz:T.getD j 0=0:=by rw[HN.o,δ,ζv (π _)];rfl
   have H1:Hid (¬(⟨g.L,g.S.set at_ (T.getD j 0)⟩:Gph).shE at_=0):=⟨by rw[Gph.shE_ok U,V,μ hz];decide⟩;have HE:=(HR.o ⟨g.L,g.S.set at_ (T.getD j 0)⟩ (by rw[hz]));clear U V hj hz
   go_wp2_with(first
    | (go_at_call 31;refine(OW HQ.o H1.o).mono ?_;rintro e w1 ⟨rfl,ht,hl⟩;replace HT:=ι (HT.o.trans ht);replace HQ:=ι (HQ.o.next ht hl);clear c0 c1 c2 c3 cl;obtain⟨c0,c1,c2,c3,cl⟩:=HQ.o.row.k4;clear ht hl)
    | (go_at_call 29;refine(RY HQ.o).mono ?_;rintro e w1 ⟨rfl,ht,hl⟩;replace HT:=ι (HT.o.trans ht);replace HQ:=ι (HQ.o.next ht hl);clear c0 c1 c2 c3 cl;obtain⟨c0,c1,c2,c3,cl⟩:=HQ.o.row.k4;clear ht hl))
   go_ret;refine⟨by rw[HD.o] <;> rfl,HT.o,?_⟩;have:=HQ.o.hv;rw[HE]at this;exact this
end
section
variable {w0 w w':World} {K:Nat->Prop} {c:HCf} {hb:Nat} {g g':Gph} {s:HSt}
theorem VIO(h:HIn w c g s):Calls prog 27 #[pP s.A.hp] w λe w'=>e=.returned (F7 c)/\Gr w w':=by
 have O:=ι (λ(V:World) (gV:Gr w V)=>FK (h.gr gV));have hsf:=Qwi;have J:=h.com.row;unfold hpL at J;obtain⟨w2,M⟩:∃w2,w2=w.alloc (.cells #[.int .i64 0,.int .i64 0,.int .i64 0,.int .i64 0,.int .i64 0,.int .i64 0,.int .i64 0,.float .f64 0] 41):=⟨_,rfl⟩;have Z:Rec w2 w.heap.size 41 [iI 0,iI 0,iI 0,iI 0,iI 0,iI 0,iI 0,.float .f64 0]:=by rw[M];exact Rec.new w 41 [iI 0,iI 0,iI 0,iI 0,iI 0,iI 0,iI 0,.float .f64 0]
 have U:Gr w w2:=by rw[M];exact(Gr.refl w).alloc _
 have Y:=J.gr U;have I:=ι (O.o _ U);have HW:=ι M;have E:=ι Z;have L:=ι U;obtain⟨k0,k1,k2,k3,k4,k5,k6,k7,kl⟩:=Y.k8;have z0:=Z.cc 0;have z1:=Z.cc 1;have z2:=Z.cc 2;have z3:=Z.cc 3;have z4:=Z.cc 4;have z5:=Z.cc 5;have z6:=Z.cc 6;have z7:=Z.cc 7;have zf:=Z.free;have zl:=Z.lt;unfold F7 GF;generalize s.A.hp=hp at *
 obtain⟨kd,pg,bk,wd,sl,st,ah,tr⟩:=c;dsimp only at *
 clear M Z U J Y O h;go_enter func27,ntmps27;go_upto_region 1 with(fail);rw[<-HW.o];clear HW;go_wp2_with(go_at_call 50;refine I.o.mono ?_;rintro e w1 ⟨rfl,rfl⟩);have R8:=(Rec.set (Rec.set (Rec.set (Rec.set (Rec.set (Rec.set (Rec.set (Rec.set E.o 0 (iI kd)) 1 (iI pg)) 2 (iI bk)) 3 (iI wd)) 4 (iI sl)) 5 (iI st)) 6 (iI ah)) 7 (.float .f64 tr));have hl:=MN R8 (by kernel_rfl) (by kernel_rfl);have ht:=(((((((((L.o.touch (λk=>w.heap.size<=k)).setCell (a:=⟨w.heap.size,0,none⟩) (λ_=>π _) (iI kd)).setCell (a:=⟨w.heap.size,1,none⟩) (λ_=>π _) (iI pg)).setCell (a:=⟨w.heap.size,2,none⟩) (λ_=>π _) (iI bk)).setCell (a:=⟨w.heap.size,3,none⟩) (λ_=>π _) (iI wd)).setCell (a:=⟨w.heap.size,4,none⟩) (λ_=>π _) (iI sl)).setCell (a:=⟨w.heap.size,5,none⟩) (λ_=>π _) (iI st)).setCell (a:=⟨w.heap.size,6,none⟩) (λ_=>π _) (iI ah)).setCell (a:=⟨w.heap.size,7,none⟩) (λ_=>π _) (.float .f64 tr));refine ζD (v:=.agg #[iI kd,iI pg,iI bk,iI wd,iI sl,iI st,iI ah,.float .f64 tr]) ?_ rfl ⟨rfl,(ht.mono (T:=λ_=>False) (λk hk e=>by have e:w.heap.size<=k:=e;omega)).gr⟩;simp[results,results27,asAddr,hl]
end
section
variable {w0 w w':World} {K:Nat->Prop} {c:HCf} {hb:Nat} {hd at_ off:Nat} {g g':Gph}
theorem HLv.facts(h:HLv w0 K c hb g w):c.Ok/\g.Ok/\g.S.length=c.sl:=by
 obtain⟨-,⟨s,-,h,-,-⟩,-⟩:=h;exact⟨h.cok,h.gok,h.sl⟩
theorem HLv.conf(h:HLv w0 K c hb g w):Calls prog 27 #[pP hb] w λe w'=>e=.returned (F7 c)/\Gr w w':=by
 obtain⟨-,⟨s,e1,h,-,-⟩,-⟩:=h;rw[<-e1];exact VIO h
def X7D(w0:World)(K:Nat->Prop)(c:HCf)(hb:Nat)(w:World)(hd at_ off:Nat)(g':Gph)(e:Ending)(w':World):Prop:=∃lb,e=.returned (.tuple #[pP lb,iI 0])/\AB (hlT w0 K) w w'/\BK w0 (λk=>K k\/k=lb) c hb lb hd at_ off g' w'/\w.heap.size<=lb
theorem Yx3(h:HLv w0 K c hb g w)(h1:hd<c.sl)(h2:at_<c.sl)(h3:off<c.sl)(d1:hd≠at_)(d2:hd≠off)(d3:at_≠off):Calls prog 6 #[pP hb,iI hd,.agg #[iI at_,iI off]] w (X7D w0 K c hb w hd at_ off (DJ at_ off (g.clG hd))):=by
 obtain⟨A,-,-⟩:=h.facts;have Xf:=A.kd;have hsl:=A.sl;have J:=(λ(V:World) (gV:Gr w V)=>(h.get gV).conf);unfold F7 GF at J;have k1:((c.kd:Int)==0)=false:=by rw[ζo];omega
 have e1:((hd:Int)==(at_:Int))=false:=by rw[ζo];omega
 have e2:((hd:Int)==(off:Int))=false:=by rw[ζo];omega
 have e3:((at_:Int)==(off:Int))=false:=by rw[ζo];omega
 have l1:¬(c.sl:Int)<=(hd:Int):=Ω
 have l2:¬(c.sl:Int)<=(at_:Int):=Ω
 have l3:¬(c.sl:Int)<=(off:Int):=Ω
 have b1:(hd:Int)<=64:=Ω
 have b2:(at_:Int)<=64:=Ω
 have b3:(off:Int)<=64:=Ω
 have i0:∀V,(Instr.index 42 (.agg #[iI hd,iI at_,iI off]) (iI 0)).run prog V=.ok (iI hd) V:=λ_=>by kernel_rfl
 have i1:∀V,(Instr.index 42 (.agg #[iI hd,iI at_,iI off]) (iI 1)).run prog V=.ok (iI at_) V:=λ_=>by kernel_rfl
 have i2:∀V,(Instr.index 42 (.agg #[iI hd,iI at_,iI off]) (iI 2)).run prog V=.ok (iI off) V:=λ_=>by kernel_rfl
 have Xb:∀V,(Instr.field 41 (.agg #[iI c.kd,iI c.pg,iI c.bk,iI c.wd,iI c.sl,iI c.st,iI c.ah,.float .f64 c.tr]) 0).run prog V=.ok (iI c.kd) V:=λ_=>by kernel_rfl
 have Xa:∀V,(Instr.field 41 (.agg #[iI c.kd,iI c.pg,iI c.bk,iI c.wd,iI c.sl,iI c.st,iI c.ah,.float .f64 c.tr]) 4).run prog V=.ok (iI c.sl) V:=λ_=>by kernel_rfl
 have hr:=Rec.new w 30 [iI at_,iI off];have I:=(Gr.refl w).alloc (.cells #[.int .i64 at_,.int .i64 off] 30);obtain⟨wb,E⟩:∃wb,wb=w.alloc (.cells #[.int .i64 at_,.int .i64 off] 30):=⟨_,rfl⟩;obtain⟨bx,L⟩:∃bx,bx=w.heap.size:=⟨_,rfl⟩;have hr:Rec wb bx 30 [iI at_,iI off]:=by rw[E,L];exact hr
 have I:Gr w wb:=by rw[E];exact I
 have HW:=ι E;have Xd:=ι L;have HR:=hr;have G:=I;have H:=h;obtain⟨x0,x1,xl⟩:=hr.k2;clear h A E L hr I h1 h2 h3 d1 d2 d3 Xf;go_enter func6,ntmps6;go_upto_region 1 with(fail);rw[<-HW.o,<-Xd.o];go_wp2_with(go_at_call 27;refine(J _ G).mono ?_;rintro e w1 ⟨rfl,hg⟩;have Z:=ι hg;replace x0:=(HR.gr hg).cell (j:=0) rfl;replace x1:=(HR.gr hg).cell (j:=1) rfl;replace xl:=(HR.gr hg).lt;clear hg);have Y:=ι (G.trans Z.o);clear x0 x1 xl
 go_loopw [21] (λs21 wr=>∃k:Nat,k<=3/\s21=iI k/\Hid (Gr w wr)/\Hid (Gr wb wr)) (λs21 _=>3-(intOf s21).toNat)
 case atStart=>exact⟨0,by omega,rfl,Y,Z⟩
 case round=>
  clear Y Z;obtain⟨k,hk,rfl,Y,Z⟩:=hrel;by_cases M:k<3
  ·have Xe:k=0\/k=1\/k=2:=Ω
   clear M hk;rcases Xe with rfl|rfl|rfl
   ·go_wp2_with(go_at_call 27;refine(J _ Y.o).mono ?_;rintro e w4 ⟨rfl,hg⟩;have U:=ι (Y.o.trans hg);have O:=ι (Z.o.trans hg);clear hg);go_round
    case rel=>exact⟨1,by omega,by go_num,U,O⟩
    case measure=>simp[intOf]
   ·go_wp2_with(go_at_call 27;refine(J _ Y.o).mono ?_;rintro e w4 ⟨rfl,hg⟩;have U:=ι (Y.o.trans hg);have O:=ι (Z.o.trans hg);clear hg);go_round
    case rel=>exact⟨2,by omega,by go_num,U,O⟩
    case measure=>simp[intOf]
   ·go_wp2_with(go_at_call 27;refine(J _ Y.o).mono ?_;rintro e w4 ⟨rfl,hg⟩;have U:=ι (Y.o.trans hg);have O:=ι (Z.o.trans hg);clear hg);go_round
    case rel=>exact⟨3,by omega,by go_num,U,O⟩
    case measure=>simp[intOf]
  ·obtain rfl:k=3:=Ω
   have x0:=(HR.gr Z.o).cell (j:=0) rfl;have x1:=(HR.gr Z.o).cell (j:=1) rfl;have xl:=(HR.gr Z.o).lt;clear M hk;go_upto_region 12 with(fail);clear e1 e2 e3 l1 l2 l3 k1 i0 i1 i2 Xb Xa;have Xc:=Y.o;have HQ:Hid (BK w0 (λk=>K k\/k=wr.heap.size) c hb wr.heap.size hd at_ off g (wr.alloc (.cells #[.pointer (some ⟨hb,0,none⟩),.int .i64 hd,.int .i64 at_,.int .i64 off] 77))):=⟨((H.get Y.o).own ((Gr.refl wr).alloc _) (λk hk=>hk.imp id (λe=>⟨by omega,by rw[e];exact(Rec.new wr 77 [pP hb,iI hd,iI at_,iI off]).lt⟩))),Rec.new wr 77 [pP hb,iI hd,iI at_,iI off],.inr rfl⟩;have HT:Hid (AB (hlT w0 (λk=>K k\/k=wr.heap.size)) w (wr.alloc (.cells #[.pointer (some ⟨hb,0,none⟩),.int .i64 hd,.int .i64 at_,.int .i64 off] 77))):=⟨(Y.o.alloc _).touch _⟩;have B:=(Y.o.size);clear x0 x1 xl HR G Z J H Y Xc;generalize wr.alloc (.cells #[.pointer (some ⟨hb,0,none⟩),.int .i64 hd,.int .i64 at_,.int .i64 off] 77)=wz at HQ HT⊢;generalize wr.heap.size=lb at HQ HT B⊢;obtain⟨c0,c1,c2,c3,cl⟩:=HQ.o.row.k4
   go_wp2_with(first
    | (go_at_call 28;refine(HQ.o.hv.clr _).mono ?_;rintro e w1 ⟨rfl,ht,hl⟩;replace HT:=ι (HT.o.trans ht);replace HQ:=ι (HQ.o.next ht hl);clear c0 c1 c2 c3 cl;obtain⟨c0,c1,c2,c3,cl⟩:=HQ.o.row.k4;clear ht hl)
    | (go_at_call 29;refine(RY HQ.o).mono ?_;rintro e w1 ⟨rfl,ht,hl⟩;replace HT:=ι (HT.o.trans ht);replace HQ:=ι (HQ.o.next ht hl);clear c0 c1 c2 c3 cl;obtain⟨c0,c1,c2,c3,cl⟩:=HQ.o.row.k4;clear ht hl))
   go_ret2;exact⟨lb,rfl,HT.o.mono (λk _ hk=>⟨hk.1,λe=>hk.2 (.inl e)⟩),HQ.o,B⟩
end
section
structure BY(w0:World)(K:Nat->Prop)(c:HCf)(hb lb hd at_ off:Nat)(D:List (Nat×Nat))(w:World):Prop where
 ex:∃g T,BK w0 K c hb lb hd at_ off g w/\LsG g hd at_ off T D/\g.Ok/\LH g hd
 cap:4*D.length<=c.wd
def LsO(w0:World)(K:Nat->Prop)(c:HCf)(hb lb hd at_ off:Nat)(w:World)(v:Value)(D':List (Nat×Nat))(e:Ending)(w':World):Prop:=e=.returned v/\AB (hlT w0 K) w w'/\BY w0 K c hb lb hd at_ off D' w'
set_option maxRecDepth 100000
theorem XfD(l:List Nat)(i:Nat):l.set i (l.getD i 0)=l:=by
 grind [ζ4,ν,ζb]
section
variable {w0 w w':World} {K:Nat->Prop} {c:HCf} {hb lb hd at_ off:Nat} {D:List (Nat × Nat)}
theorem BY.gr(h:BY w0 K c hb lb hd at_ off D w)(gr:Gr w w'):BY w0 K c hb lb hd at_ off D w':=by
 obtain⟨⟨g,T,a,b⟩,hc⟩:=h;exact⟨⟨g,T,a.gr gr,b⟩,hc⟩
theorem BY.grew(h:BY w0 K c hb lb hd at_ off D w):Gr w0 w:=by
 obtain⟨⟨g,T,a,b⟩,hc⟩:=h;exact a.hv.gr
theorem BY.push(h:BY w0 K c hb lb hd at_ off D w){x y:Nat}(hx:x<18446744073709551616)(hy:y<18446744073709551616):Calls prog 10 #[pP lb,uU x,.float .f64 y] w (LsO w0 K c hb lb hd at_ off w (iI (if c.wd<4*D.length+4 then 21 else 0)) (if c.wd<4*D.length+4 then D else (x,y) :: D)):=by
 obtain⟨⟨g,T,a,b,ok,al⟩,hc⟩:=h;have he:=b.al (C:=c.wd);rw[(b.live ok al).2]at he;by_cases hf:c.wd<4*D.length+4
 ·rw[μ Ω]at he;have hn:¬g.alE c.wd at_ ⟨1,1,1⟩=0:=Ω
  rw[μ hf,μ hf];refine(YKh a hx hy hn).mono ?_;rintro e w' ⟨rfl,ht,hl⟩;refine⟨by rw[he],ht,⟨g,T,a.next ht ?_,b,ok,al⟩,hc⟩;rw[IA,κ hn]at hl;exact hl
 ·rw[κ Ω]at he;rw[κ hf,κ hf];refine(X3p a hx hy he).mono ?_;rintro e w' ⟨rfl,ht,hl⟩;have hp:=b.push ok he x y;exact⟨rfl,ht,⟨_,_,a.next ht hl,hp.ls,hp.ok,hp.alone al⟩,by grind⟩
theorem BY.pop(h:BY w0 K c hb lb hd at_ off D w):Calls prog 7 #[pP lb] w (LsO w0 K c hb lb hd at_ off w (.tuple #[uU ((D.headD (0,0)).1:Nat),.float .f64 (D.headD (0,0)).2,iI (if D.length=0 then 6 else 0)]) D.tail):=by
 obtain⟨⟨g,T,a,b,ok,al⟩,hc⟩:=h;cases D with
 | nil=>
  obtain rfl:T=[]:=List.length_eq_zero_iff.1 b.ch.len;refine(QQN a b.hd_no).mono ?_;rintro e w' ⟨rfl,ht,hl⟩;exact⟨rfl,ht,⟨g,[],a.next ht hl,b,ok,al⟩,hc⟩
 | cons d D'=>
  obtain⟨x,y⟩:=d;cases T with
  | nil=>exact absurd b.ch.len (by simp)
  | cons t T'=>
   obtain⟨s0,s1,s2⟩:=b.hd_ok ok;obtain⟨nx,e1,b',Y,-⟩:=b.pop ok;have hq:=Juw a s0;rw[s1,s2,e1]at hq;refine hq.mono ?_;rintro e w' ⟨rfl,ht,hl⟩;exact⟨rfl,ht,⟨_,T',a.next ht hl,b',Y,λj hj=>by rw[DA (Ne.symm hj)];exact al j hj⟩,by rw[ζH]at hc;show 4*D'.length<=_;omega⟩
def FQ(i:Int)(n:Nat):Bool:=decide (0<=i)&&decide (i<n)
theorem ER{i:Int}{n:Nat}:FQ i n=true↔0<=i/\i<n:=by unfold FQ;simp
theorem BY.at(h:BY w0 K c hb lb hd at_ off D w){i:Int}(hi:i<=9223372036854775807):Calls prog 8 #[pP lb,iI i] w (LsO w0 K c hb lb hd at_ off w (.tuple #[uU (if FQ i D.length then (D.getD i.toNat (0,0)).1 else 0:Nat),.float .f64 (if FQ i D.length then (D.getD i.toNat (0,0)).2 else 0),iI (if FQ i D.length then 0 else 6)]) D):=by
 obtain⟨⟨g,T,a,b,ok,al⟩,hc⟩:=h;by_cases h0:i<0
 ·have hn:¬FQ i D.length:=λh=>by have:=(ER.1 h).1;omega
  rw[κ hn,κ hn,κ hn];refine(X4w a h0).mono ?_;rintro e w' ⟨rfl,ht,hl⟩;rw[b.rest (g':=g) (v:=0) (by rw[<-b.z2,XfD])]at hl;exact⟨rfl,ht,⟨g,T,a.next ht hl,b,ok,al⟩,hc⟩
 ·obtain⟨k,rfl⟩:∃k:Nat,i=k:=⟨i.toNat,by omega⟩;have hk:k<=9223372036854775807:=Ω
  have Y:=(b.atSlot k).2.2;by_cases h1:k<D.length
  ·have hn:FQ k D.length=true:=ER.2 ⟨by omega,by omega⟩;obtain⟨s0,s1,s2⟩:=b.at_ok h1;have hq:=VZK a hk s0;rw[s1,s2,Y]at hq;rw[μ hn,μ hn,μ hn];refine hq.mono ?_;rintro e w' ⟨rfl,ht,hl⟩;exact⟨rfl,ht,⟨g,T,a.next ht hl,b,ok,al⟩,hc⟩
  ·have hn:¬FQ k D.length:=λh=>by have:=(ER.1 h).2;omega
   have hq:=ZFc a hk (b.at_no Ω);rw[Y]at hq;rw[κ hn,κ hn,κ hn];refine hq.mono ?_;rintro e w' ⟨rfl,ht,hl⟩;exact⟨rfl,ht,⟨g,T,a.next ht hl,b,ok,al⟩,hc⟩
theorem BY.set(h:BY w0 K c hb lb hd at_ off D w){i:Int}(hi:i<=9223372036854775807){x y:Nat}(hx:x<18446744073709551616)(hy:y<18446744073709551616):Calls prog 11 #[pP lb,iI i,uU x,.float .f64 y] w (LsO w0 K c hb lb hd at_ off w (iI (if FQ i D.length then 0 else 6)) (if FQ i D.length then D.set i.toNat (x,y)else D)):=by
 obtain⟨⟨g,T,a,b,ok,al⟩,hc⟩:=h;by_cases h0:i<0
 ·have hn:¬FQ i D.length:=λh=>by have:=(ER.1 h).1;omega
  rw[κ hn,κ hn];refine(ZsM a h0 hx hy).mono ?_;rintro e w' ⟨rfl,ht,hl⟩;rw[b.rest (g':=g) (v:=0) (by rw[<-b.z2,XfD])]at hl;exact⟨rfl,ht,⟨g,T,a.next ht hl,b,ok,al⟩,hc⟩
 ·obtain⟨k,rfl⟩:∃k:Nat,i=k:=⟨i.toNat,by omega⟩;have hk:k<=9223372036854775807:=Ω
  by_cases h1:k<D.length
  ·have hn:FQ k D.length=true:=ER.2 ⟨by omega,by omega⟩;obtain⟨s0,-,-⟩:=b.at_ok h1;obtain⟨b2,Y,e2⟩:=b.set2 ok (i:=k) (by rw[b.ch.len];exact h1) x y;have hq:=Yvs a hk s0 hx hy;rw[e2]at hq;rw[μ hn,μ hn];refine hq.mono ?_;rintro e w' ⟨rfl,ht,hl⟩;exact⟨rfl,ht,⟨_,T,a.next ht hl,b2,Y,al⟩,by rw[ν];exact hc⟩
  ·have hn:¬FQ k D.length:=λh=>by have:=(ER.1 h).2;omega
   have hq:=Jna a hk (b.at_no Ω) hx hy;rw[(b.atSlot k).2.2]at hq;rw[κ hn,κ hn];refine hq.mono ?_;rintro e w' ⟨rfl,ht,hl⟩;exact⟨rfl,ht,⟨g,T,a.next ht hl,b,ok,al⟩,hc⟩
theorem BY.turn(h:BY w0 K c hb lb hd at_ off D w):Calls prog 9 #[pP lb] w (LsO w0 K c hb lb hd at_ off w (.tuple #[]) D.reverse):=by
 obtain⟨⟨g,T,a,b,ok,al⟩,hc⟩:=h;refine(Qw3 a b ok).mono ?_;rintro e w' ⟨g',Y,rfl,ht,hl⟩;exact⟨rfl,ht,⟨g',_,a.next ht hl,Y.ls,Y.ok,Y.alone al⟩,by simp_all⟩
theorem BY.len(h:BY w0 K c hb lb hd at_ off D w):Calls prog 12 #[pP lb] w (LsO w0 K c hb lb hd at_ off w (iI D.length) D):=by
 obtain⟨⟨g,T,a,b,ok,al⟩,hc⟩:=h;have hw:=a.hv.facts.1.wd;refine(Z2R a b (by rw[b.ch.len];omega)).mono ?_;rintro e w' ⟨rfl,ht,hl⟩;exact⟨rfl,ht,⟨g,T,a.next ht hl,b,ok,al⟩,hc⟩
theorem ZA7(h:HLv w0 K c hb (Gph.nil c.sl) w)(h1:hd<c.sl)(h2:at_<c.sl)(h3:off<c.sl)(d1:hd≠at_)(d2:hd≠off)(d3:at_≠off):Calls prog 6 #[pP hb,iI hd,.agg #[iI at_,iI off]] w λe w'=>∃lb,e=.returned (.tuple #[pP lb,iI 0])/\AB (hlT w0 K) w w'/\BY w0 (λk=>K k\/k=lb) c hb lb hd at_ off [] w'/\w.heap.size<=lb:=by
 have hq:=Yx3 h h1 h2 h3 d1 d2 d3;rw[show Gph.nil c.sl=⟨[],List.replicate c.sl 0⟩from rfl,V6I h1 h2 h3]at hq;refine hq.mono ?_;rintro e w' ⟨lb,rfl,ht,hl,hs⟩;obtain⟨q1,q2,q3⟩:=QyT h1 h2 h3 d1 d2 d3;exact⟨lb,rfl,ht,⟨⟨_,[],hl,q1,q2,q3⟩,ζe _⟩,hs⟩
end
end
section
variable {w0 w w':World} {K:Nat->Prop} {c:HCf} {hb lb hd at_ off:Nat} {D:List (Nat × Nat)} {g:Gph} {R:Nat->Prop}
theorem HLv.wr(h:HLv w0 K c hb g w)(t:AB R w w')(hR:∀k,R k->K k/\w0.heap.size<=k)(ht:1<w0.heap.size):HLv w0 (λk=>K k\/(w.heap.size<=k/\k<w'.heap.size)) c hb g w':=by
 obtain⟨h1,⟨s,e1,e2,e3,e4⟩,h3⟩:=h;refine⟨?_,⟨s.cut w,e1,e2.cut.touch t (λk _ hk=>⟨λhs=>(e4 k (HSt.cut_S e2 k hs).1).2 (hR k hk).1,λe=>by have:=(hR k hk).2;omega⟩),e3,λk hk=>?_⟩,λk hk=>?_⟩
 ·exact((h1.touch R).trans t |>.mono (T:=λ_=>False) (λk hk e=>by have:=(hR k e).2;omega)).gr
 ·obtain⟨k1,k2⟩:=HSt.cut_S e2 k hk;exact⟨(e4 k k1).1,λh=>h.elim (e4 k k1).2 (λh=>by omega)⟩
 ·exact hk.elim (λh=>υ (h3 k h) t.size) (λh=>h.2)
theorem BY.wr(h:BY w0 K c hb lb hd at_ off D w)(t:AB R w w')(hR:∀k,R k->K k/\w0.heap.size<=k/\k≠lb)(ht:1<w0.heap.size):BY w0 (λk=>K k\/(w.heap.size<=k/\k<w'.heap.size)) c hb lb hd at_ off D w':=by
 obtain⟨⟨g,T,a,b⟩,hc⟩:=h;exact⟨⟨g,T,⟨a.hv.wr t (λk hk=>⟨(hR k hk).1,(hR k hk).2.1⟩) ht,a.row.touch t (λe=>(hR lb e).2.2 rfl),.inl a.kl⟩,b⟩,hc⟩
theorem BY.heap(h:BY w0 K c hb lb hd at_ off D w){f:FuncId}{args:Array Value}{v:Value}(hc:∀g,HLv w0 K c hb g w->Calls prog f args w (HLo w0 K c hb w v g)):Calls prog f args w (LsO w0 K c hb lb hd at_ off w v D):=by
 obtain⟨⟨g,T,a,b⟩,hq⟩:=h;refine(hc g a.hv).mono ?_;rintro e w' ⟨rfl,ht,hl⟩;exact⟨rfl,ht,⟨g,T,a.next ht hl,b⟩,hq⟩
theorem BY.live(h:BY w0 K c hb lb hd at_ off D w):Calls prog 20 #[pP hb] w (LsO w0 K c hb lb hd at_ off w (.tuple #[iI D.length,iI (4*D.length:Nat)]) D):=by
 obtain⟨⟨g,T,a,b,ok,al⟩,hq⟩:=h;have hl:=a.hv.live;rw[(b.live ok al).1,(b.live ok al).2]at hl;refine hl.mono ?_;rintro e w' ⟨rfl,ht,hl⟩;exact⟨rfl,ht,⟨g,T,a.next ht hl,b,ok,al⟩,hq⟩
theorem BY.len_le(h:BY w0 K c hb lb hd at_ off D w):D.length<=1000000:=by
 obtain⟨⟨g,T,a,b⟩,hq⟩:=h;have:=a.hv.facts.1.wd;omega
end
structure P38(w0:World)(X:Nat->Prop)(c:HCf)(hb lb rb hd at_ off:Nat)(D N:List (Nat×Nat))(w:World):Prop where
 ex:∃K R:Nat->Prop,BY w0 K c hb lb hd at_ off D w/\Voj w R rb (c.wd/4:Nat) N/\(∀k,R k->K k/\w0.heap.size<=k/\k≠lb)/\∀k,X k->K k/\w0.heap.size<=k/\k≠lb/\¬R k
 tb:1<w0.heap.size
section
variable {w0 w w':World} {X X':Nat->Prop} {c:HCf} {hb lb rb hd at_ off:Nat} {D N D' N':List (Nat × Nat)} {f:FuncId} {args:Array Value} {v:Value}
theorem P38.own(h:P38 w0 X c hb lb rb hd at_ off D N w)(g:Gr w w')(hX:∀k,X' k->X k\/(w.heap.size<=k/\k<w'.heap.size)):P38 w0 X' c hb lb rb hd at_ off D N w':=by
 obtain⟨⟨K,R,h1,⟨x,h2⟩,h3,h4⟩,ht⟩:=h;have hz:=h1.grew.size;have hw:=h1.wr (g.touch (λ_=>False)) (λ_ h=>h.elim) ht
 have hlb:lb<w.heap.size:=by
  obtain⟨⟨g,T,a,b⟩,hq⟩:=h1;exact a.row.lt
 refine⟨⟨_,_,hw,⟨x,h2.cut.gr g⟩,λk hk=>⟨.inl (h3 k hk.1).1,(h3 k hk.1).2⟩,λk hk=>?_⟩,ht⟩;rcases hX k hk with h|h
 ·obtain⟨q1,q2,q3,q4⟩:=h4 k h;exact⟨.inl q1,q2,q3,λh=>q4 h.1⟩
 ·exact⟨.inr h,by omega,by omega,λe=>by have:=e.2;omega⟩
theorem P38.gr(h:P38 w0 X c hb lb rb hd at_ off D N w)(g:Gr w w'):P38 w0 X c hb lb rb hd at_ off D N w':=h.own g (λ_ h=>.inl h)
theorem P38.sub(h:P38 w0 X c hb lb rb hd at_ off D N w)(hX:∀k,X' k->X k):P38 w0 X' c hb lb rb hd at_ off D N w:=h.own (Gr.refl _) (λk h=>.inl (hX k h))
theorem P38.grew(h:P38 w0 X c hb lb rb hd at_ off D N w):Gr w0 w:=by
 obtain⟨⟨K,R,h1,h2,h3⟩,ht⟩:=h;exact h1.grew
theorem P38.lt(h:P38 w0 X c hb lb rb hd at_ off D N w){k:Nat}(hk:X k):k<w.heap.size:=by
 obtain⟨⟨K,R,⟨⟨g,T,a,b⟩,hq⟩,h2,h3,h4⟩,ht⟩:=h;exact a.hv.kl k (h4 k hk).1
theorem P38.wr(h:P38 w0 X c hb lb rb hd at_ off D N w)(t:AB X w w'):P38 w0 X c hb lb rb hd at_ off D N w':=by
 obtain⟨⟨K,R,h1,⟨x,h2⟩,h3,h4⟩,ht⟩:=h;have hz:=h1.grew.size;refine⟨⟨_,_,h1.wr t (λk hk=>⟨(h4 k hk).1,(h4 k hk).2.1,(h4 k hk).2.2.1⟩) ht,⟨x,h2.touch t (λk hk e=>(h4 k e).2.2.2 hk)⟩,λk hk=>⟨.inl (h3 k hk).1,(h3 k hk).2⟩,λk hk=>⟨.inl (h4 k hk).1,(h4 k hk).2⟩⟩,ht⟩
def L6(w0:World)(X:Nat->Prop)(c:HCf)(hb lb rb hd at_ off:Nat)(w:World)(v:Value)(D' N':List (Nat×Nat))(e:Ending)(w':World):Prop:=e=.returned v/\AB (λk=>¬X k) w w'/\P38 w0 X c hb lb rb hd at_ off D' N' w'
theorem P38.ls(h:P38 w0 X c hb lb rb hd at_ off D N w)(hc:∀K,BY w0 K c hb lb hd at_ off D w->Calls prog f args w (LsO w0 K c hb lb hd at_ off w v D')):Calls prog f args w (L6 w0 X c hb lb rb hd at_ off w v D' N):=by
 obtain⟨⟨K,R,h1,⟨x,h2⟩,h3,h4⟩,ht⟩:=h;refine(hc K h1).mono ?_;rintro e w' ⟨rfl,t,hl⟩;exact⟨rfl,t.mono (λk _ e hx=>e.2 (h4 k hx).1),⟨K,R,hl,⟨x,h2.touch t (λk hk e=>e.2 (h3 k hk).1)⟩,h3,h4⟩,ht⟩
theorem P38.rf(h:P38 w0 X c hb lb rb hd at_ off D N w)(hc:∀R x,B9 w R rb (c.wd/4:Nat) N x->Calls prog f args w λe w'=>e=.returned v/\RlO w R rb (c.wd/4:Nat) N' w'):Calls prog f args w (L6 w0 X c hb lb rb hd at_ off w v D N'):=by
 have hX:=λk=>h.lt (k:=k);obtain⟨⟨K,R,h1,⟨x,h2⟩,h3,h4⟩,ht⟩:=h;refine(hc R x h2).mono ?_;rintro e w' ⟨rfl,t,⟨y,hl⟩⟩;have hz:=h1.grew.size
 have hlb:lb<w.heap.size:=by
  obtain⟨⟨g,T,a,b⟩,hq⟩:=h1;exact a.row.lt
 refine⟨rfl,t.mono (λk _ e hx=>(h4 k hx).2.2.2 e),⟨_,_,h1.wr t h3 ht,⟨y,hl.cut⟩,λk hk=>?_,λk hk=>⟨.inl (h4 k hk).1,(h4 k hk).2.1,(h4 k hk).2.2.1,λe=>e.1.elim (h4 k hk).2.2.2 (λh=>by have:=hX k hk;omega)⟩⟩,ht⟩;rcases hk.1 with h|h
 ·exact⟨.inl (h3 k h).1,(h3 k h).2⟩
 ·exact⟨.inr ⟨h,hk.2⟩,by omega,by omega⟩
theorem P38.rd(h:P38 w0 X c hb lb rb hd at_ off D N w)(hc:∀R x,B9 w R rb (c.wd/4:Nat) N x->Calls prog f args w λe w'=>e=.returned v/\Gr w w'):Calls prog f args w (L6 w0 X c hb lb rb hd at_ off w v D N):=by
 have h':=h;obtain⟨⟨K,R,h1,⟨x,h2⟩,h3⟩,ht⟩:=h;refine(hc R x h2).mono ?_;rintro e w' ⟨rfl,g⟩;exact⟨rfl,g.touch _,h'.gr g⟩
theorem P38.len_le(h:P38 w0 X c hb lb rb hd at_ off D N w):D.length<=1000000:=by
 obtain⟨⟨K,R,h1,h2,h3⟩,ht⟩:=h;exact h1.len_le
theorem P38.rr(h:P38 w0 X c hb lb rb hd at_ off D N w):∃A cp,Rec w rb 51 [.slice A N.length cp,iI (c.wd/4:Nat)]:=by
 obtain⟨⟨K,R,h1,⟨x,h2⟩,h3⟩,ht⟩:=h;obtain⟨A,cp,rfl,-,-⟩:=CV h2.own;exact⟨A,cp,h2.row⟩
theorem XnD(N:List (Nat×Nat)){k:Nat}(hk:k<N.length):N.reverse.getD k (0,0)=N.getD (N.length-1-k) (0,0):=by
 rw[δ,δ,ψr hk]
theorem P38.at2(h:P38 w0 X c hb lb rb hd at_ off N.reverse N w)(hN:N.length<=1000000){i:Int}(hi:i<=9223372036854775807):∃(x y:Nat) (e:Int),
  (∀W,Gr w W->Calls prog 8 #[pP lb,iI i] W (L6 w0 X c hb lb rb hd at_ off W (.tuple #[uU x,.float .f64 y,iI e]) N.reverse N)) ∧
  (∀W,P38 w0 X c hb lb rb hd at_ off N.reverse N W->Calls prog 18 #[pP rb,iI i] W (L6 w0 X c hb lb rb hd at_ off W (.tuple #[.agg #[uU x,uU y],iI e]) N.reverse N))/\(0<=i->i<N.length->e=0):=by
 by_cases hk:0<=i/\i<N.length
 ·obtain⟨k,rfl⟩:∃k:Nat,i=k:=⟨i.toNat,by omega⟩;refine⟨(N.getD (N.length-1-k) (0,0)).1,(N.getD (N.length-1-k) (0,0)).2,0,λW g=>(h.gr g).ls λK hl=>?_,λW hW=>hW.rd λR z hr=>YK hr hN Ω,λ_ _=>rfl⟩;have:=hl.at hi;rw[ζJ,μ (ER.2 hk),μ (ER.2 hk),μ (ER.2 hk),XnD _ Ω]at this;exact this
 ·refine⟨0,0,6,λW g=>(h.gr g).ls λK hl=>?_,λW hW=>hW.rd λR z hr=>ZIo hr hk,λh1 h2=>absurd ⟨h1,h2⟩ hk⟩;have:=hl.at hi
  rwa [ζJ,κ (λh=>hk (ER.1 h)),κ (λh=>hk (ER.1 h)),κ (λh=>hk (ER.1 h))]at this
theorem P38.len2(h:P38 w0 X c hb lb rb hd at_ off N.reverse N w):∃A cp,∀W,Gr w W->Rec W rb 51 [.slice A N.length cp,iI (c.wd/4:Nat)]/\Calls prog 12 #[pP lb] W λe w'=>L6 w0 X c hb lb rb hd at_ off W (iI N.length) N.reverse N e w'/\Rec w' rb 51 [.slice A N.length cp,iI (c.wd/4:Nat)]:=by
 obtain⟨⟨K,R,h1,⟨z,h2⟩,h3,h4⟩,ht⟩:=h;obtain⟨A,cp,rfl,-,-⟩:=CV h2.own;refine⟨A,cp,λW g=>⟨h2.row.gr g,?_⟩⟩;have hl:=(h1.gr g).len;rw[ζJ]at hl;refine hl.mono ?_;rintro e w' ⟨rfl,t,hl⟩;exact⟨⟨rfl,t.mono (λk _ e hx=>e.2 (h4 k hx).1),⟨K,R,hl,⟨_,(h2.gr g).touch t (λk hk e=>e.2 (h3 k hk).1)⟩,h3,h4⟩,ht⟩,(h2.row.gr g).touch t (λe=>e.2 (h3 _ h2.sr).1)⟩
end
section
variable {w0 w w':World} {X:Nat->Prop} {c:HCf} {hb lb rb hd at_ off:Nat} {D N D' N':List (Nat × Nat)} {f:FuncId} {args:Array Value} {v:Value} {a:C2} {xs:List Value} {wx:World}
structure M38(w0 w:World)(X:Nat->Prop)(c:HCf)(hb lb rb hd at_ off:Nat)(a:C2)(D N:List (Nat×Nat))(xs:List Value)(wx:World):Prop where
 p:P38 w0 (λk=>X k\/k=w.heap.size\/k=w.heap.size+1) c hb lb rb hd at_ off D N wx
 a:Rec wx w.heap.size 24 a.L
 x:Rec wx (w.heap.size+1) 54 xs
 t:AB (λk=>¬X k) w wx
 l:∀k,X k->k<w.heap.size
theorem M38.start(h:P38 w0 X c hb lb rb hd at_ off D N w)(a:C2):M38 w0 w X c hb lb rb hd at_ off a D N [uU 0,uU 0] ((w.alloc (.cells a.L.toArray 24)).alloc (.cells #[.int .u64 0,.int .u64 0] 54)):=by
 have g1:=(Gr.refl w).alloc (.cells a.L.toArray 24);have g2:=(Gr.refl (w.alloc (.cells a.L.toArray 24))).alloc (.cells #[.int .u64 0,.int .u64 0] 54);have s1:=γ w (.cells a.L.toArray 24);have s2:=γ (w.alloc (.cells a.L.toArray 24)) (.cells #[.int .u64 0,.int .u64 0] 54);refine⟨h.own (g1.trans g2) (λk hk=>hk.imp id (λe=>⟨by omega,by omega⟩)),(Rec.new w _ a.L).gr g2,?_,(g1.trans g2).touch _,λk hk=>h.lt hk⟩;have:=Rec.new (w.alloc (.cells a.L.toArray 24)) 54 [uU 0,uU 0];rw[s1]at this;exact this
theorem M38.to(h:M38 w0 w X c hb lb rb hd at_ off a D N xs wx)(t:AB (λk=>¬(X k\/k=w.heap.size\/k=w.heap.size+1)) wx w')(p:P38 w0 (λk=>X k\/k=w.heap.size\/k=w.heap.size+1) c hb lb rb hd at_ off D' N' w'):M38 w0 w X c hb lb rb hd at_ off a D' N' xs w':=
 ⟨p,h.a.touch t (λe=>e (.inr (.inl rfl))),h.x.touch t (λe=>e (.inr (.inr rfl))),h.t.trans (t.mono (λ_ _ e hx=>e (.inl hx))),h.l⟩
theorem M38.gr(h:M38 w0 w X c hb lb rb hd at_ off a D N xs wx)(g:Gr wx w'):M38 w0 w X c hb lb rb hd at_ off a D N xs w':=h.to (g.touch _) (h.p.gr g)
theorem M38.set{x0 x1 y0 y1:Value}(h:M38 w0 w X c hb lb rb hd at_ off a D N [x0,x1] wx):M38 w0 w X c hb lb rb hd at_ off a D N [y0,y1] ((wx.setCell ⟨w.heap.size+1,0,none⟩ y0).setCell ⟨w.heap.size+1,1,none⟩ y1):=by
 have t:=(((AB.refl (λk=>k=w.heap.size+1) wx).setCell (a:=⟨w.heap.size+1,0,none⟩) (λ_=>rfl) y0).setCell (a:=⟨w.heap.size+1,1,none⟩) (λ_=>rfl) y1);exact⟨h.p.wr (t.mono (λ_ _ e=>.inr (.inr e))),h.a.touch t Ω,((h.x.set 0 y0).set 1 y1),h.t.trans (t.mono (λk _ e hx=>by have:=h.l k hx;omega)),h.l⟩
theorem M38.set1{x0 x1 y0:Value}(h:M38 w0 w X c hb lb rb hd at_ off a D N [x0,x1] wx):M38 w0 w X c hb lb rb hd at_ off a D N [y0,x1] (wx.setCell ⟨w.heap.size+1,0,none⟩ y0):=by
 have t:=((AB.refl (λk=>k=w.heap.size+1) wx).setCell (a:=⟨w.heap.size+1,0,none⟩) (λ_=>rfl) y0);exact⟨h.p.wr (t.mono (λ_ _ e=>.inr (.inr e))),h.a.touch t Ω,h.x.set 0 y0,h.t.trans (t.mono (λk _ e hx=>by have:=h.l k hx;omega)),h.l⟩
def EW(w0 w:World)(X:Nat->Prop)(c:HCf)(hb lb rb hd at_ off:Nat)(a:C2)(v:Value)(D N:List (Nat×Nat))(xs:List Value)(e:Ending)(w':World):Prop:=e=.returned v/\M38 w0 w X c hb lb rb hd at_ off a D N xs w'
theorem M38.ls(h:M38 w0 w X c hb lb rb hd at_ off a D N xs wx)(hc:∀K,BY w0 K c hb lb hd at_ off D wx->Calls prog f args wx (LsO w0 K c hb lb hd at_ off wx v D')):Calls prog f args wx (EW w0 w X c hb lb rb hd at_ off a v D' N xs):=
 (h.p.ls hc).mono (λ_ _ ⟨e,t,p⟩=>⟨e,h.to t p⟩)
theorem M38.rf(h:M38 w0 w X c hb lb rb hd at_ off a D N xs wx)(hc:∀R x,B9 wx R rb (c.wd/4:Nat) N x->Calls prog f args wx λe w'=>e=.returned v/\RlO wx R rb (c.wd/4:Nat) N' w'):Calls prog f args wx (EW w0 w X c hb lb rb hd at_ off a v D N' xs):=
 (h.p.rf hc).mono (λ_ _ ⟨e,t,p⟩=>⟨e,h.to t p⟩)
theorem M38.rd(h:M38 w0 w X c hb lb rb hd at_ off a D N xs wx)(hc:∀R x,B9 wx R rb (c.wd/4:Nat) N x->Calls prog f args wx λe w'=>e=.returned v/\Gr wx w'):Calls prog f args wx (EW w0 w X c hb lb rb hd at_ off a v D N xs):=
 (h.p.rd hc).mono (λ_ _ ⟨e,t,p⟩=>⟨e,h.to t p⟩)
theorem M38.push2(h:M38 w0 w X c hb lb rb hd at_ off a N.reverse N xs wx)(hN:N.length<=1000000){x y:Nat}(hx:x<18446744073709551616)(hy:y<18446744073709551616):∃(e:Int) (N':List (Nat×Nat)),
  (∀W,Gr wx W->Calls prog 10 #[pP lb,uU x,.float .f64 y] W (EW w0 w X c hb lb rb hd at_ off a (iI e) N'.reverse N xs)) ∧
  ∀W,M38 w0 w X c hb lb rb hd at_ off a N'.reverse N xs W->Calls prog 48 #[pP rb,uU x,uU y] W (EW w0 w X c hb lb rb hd at_ off a (iI e) N'.reverse N' xs):=by
 by_cases hf:c.wd<4*N.length+4
 ·refine⟨21,N,λW g=>(h.gr g).ls λK hl=>?_,λW hW=>hW.rf λR z hr=>?_⟩
  ·have:=hl.push hx hy
   rwa [ζJ,μ hf,μ hf]at this
  ·have:=Xnk hr hN x y
   rwa [μ Ω,μ Ω]at this
 ·refine⟨0,N++[(x,y)],λW g=>(h.gr g).ls λK hl=>?_,λW hW=>hW.rf λR z hr=>?_⟩
  ·have:=hl.push hx hy;rw[ζJ,κ hf,κ hf]at this
   rwa [List.reverse_append]
  ·have:=Xnk hr hN x y
   rwa [κ Ω,κ Ω]at this
theorem M38.pop2(h:M38 w0 w X c hb lb rb hd at_ off a N.reverse N xs wx)(hN:N.length<=1000000):∃(x y:Nat) (e:Int) (N':List (Nat×Nat)),
  (∀W,Gr wx W->Calls prog 7 #[pP lb] W (EW w0 w X c hb lb rb hd at_ off a (.tuple #[uU x,.float .f64 y,iI e]) N'.reverse N xs)) ∧
  ∀W,M38 w0 w X c hb lb rb hd at_ off a N'.reverse N xs W->Calls prog 43 #[pP rb] W (EW w0 w X c hb lb rb hd at_ off a (.tuple #[.agg #[uU x,uU y],iI e]) N'.reverse N' xs):=by
 rcases List.eq_nil_or_concat N with rfl|⟨M,⟨x,y⟩,rfl⟩
 ·exact⟨0,0,6,[],λW g=>(h.gr g).ls λK hl=>hl.pop,λW hW=>hW.rd λR z hr=>Ydg hr⟩
 ·rw[List.concat_eq_append]at *
  rw[ζh]at hN;refine⟨x,y,0,M,λW g=>(h.gr g).ls λK hl=>?_,λW hW=>hW.rf λR z hr=>ZjM hr Ω⟩;have:=hl.pop;simp only[List.reverse_append,List.reverse_cons,List.reverse_nil,ζN,ζu]at this⊢;exact this
theorem VV6(N:List (Nat×Nat)){k:Nat}(hk:k<N.length)(z:Nat×Nat):N.reverse.set k z=(N.set (N.length-1-k) z).reverse:=by
 apply ψe;intro i;by_cases hi:i<N.length
 ·rw[ψr (by rw[ν];exact hi),ξQ,ξQ,ζJ,ψr hi,ν];by_cases h:k=i
  ·subst h;rw[μ rfl,μ rfl,μ hk,μ Ω]
  ·rw[κ h,κ Ω]
 ·rw[ζv (by simp;omega),ζv (by simp;omega)]
theorem M38.at2(h:M38 w0 w X c hb lb rb hd at_ off a N.reverse N xs wx)(hN:N.length<=1000000){i:Int}(hi:i<=9223372036854775807):∃(x y:Nat) (e:Int),
  (∀W,Gr wx W->Calls prog 8 #[pP lb,iI i] W (EW w0 w X c hb lb rb hd at_ off a (.tuple #[uU x,.float .f64 y,iI e]) N.reverse N xs)) ∧
  (∀W,M38 w0 w X c hb lb rb hd at_ off a N.reverse N xs W->Calls prog 18 #[pP rb,iI i] W (EW w0 w X c hb lb rb hd at_ off a (.tuple #[.agg #[uU x,uU y],iI e]) N.reverse N xs))/\(0<=i->i<N.length->e=0):=by
 obtain⟨x,y,e,h1,h2,h3⟩:=h.p.at2 hN hi;exact⟨x,y,e,λW g=>(h1 W g).mono λ_ _ ⟨e,t,p⟩=>⟨e,(h.gr g).to t p⟩,λW hW=>(h2 W hW.p).mono λ_ _ ⟨e,t,p⟩=>⟨e,hW.to t p⟩,h3⟩
theorem M38.set2(h:M38 w0 w X c hb lb rb hd at_ off a N.reverse N xs wx)(hN:N.length<=1000000){i:Int}(hi:i<=9223372036854775807){x y:Nat}(hx:x<18446744073709551616)(hy:y<18446744073709551616):∃(e:Int) (N':List (Nat×Nat)),
  (∀W,Gr wx W->Calls prog 11 #[pP lb,iI i,uU x,.float .f64 y] W (EW w0 w X c hb lb rb hd at_ off a (iI e) N'.reverse N xs)) ∧
  ∀W,M38 w0 w X c hb lb rb hd at_ off a N'.reverse N xs W->Calls prog 44 #[pP rb,iI i,uU x,uU y] W (EW w0 w X c hb lb rb hd at_ off a (iI e) N'.reverse N' xs):=by
 by_cases hk:0<=i/\i<N.length
 ·obtain⟨k,rfl⟩:∃k:Nat,i=k:=⟨i.toNat,by omega⟩;refine⟨0,N.set (N.length-1-k) (x,y),λW g=>(h.gr g).ls λK hl=>?_,λW hW=>hW.rf λR z hr=>Xub hr hN Ω x y⟩;have:=hl.set hi hx hy;rw[ζJ,μ (ER.2 hk),μ (ER.2 hk),η,VV6 _ Ω]at this;exact this
 ·refine⟨6,N,λW g=>(h.gr g).ls λK hl=>?_,λW hW=>hW.rd λR z hr=>Jit hr hk x y⟩;have:=hl.set hi hx hy
  rwa [ζJ,κ (λh=>hk (ER.1 h)),κ (λh=>hk (ER.1 h))]at this
theorem M38.heap2(h:M38 w0 w X c hb lb rb hd at_ off a D N xs wx):(∀W,Gr wx W->Calls prog 46 #[pP hb] W (EW w0 w X c hb lb rb hd at_ off a (.tuple #[]) D N xs))/\(∀W,Gr wx W->Calls prog 24 #[pP hb] W (EW w0 w X c hb lb rb hd at_ off a (.tuple #[]) D N xs))/\∀W,Gr wx W->Calls prog 47 #[pP hb] W λe w'=>∃b:Bool,EW w0 w X c hb lb rb hd at_ off a (.bool b) D N xs e w':=
 ⟨λ_ g=>(h.gr g).ls λ_ hl=>hl.heap λ_ hv=>hv.coll,λ_ g=>(h.gr g).ls λ_ hl=>hl.heap λ_ hv=>hv.start,λW g=>by
  have h:=h.gr g;obtain⟨⟨K,R,⟨⟨gg,T,b,b2⟩,hq⟩,⟨z,h2⟩,h3,h4⟩,ht⟩:=h.p;refine b.hv.step.mono ?_;rintro e w' ⟨bb,rfl,t,hl⟩
  exact⟨bb,rfl,h.to (t.mono (λk _ e hx=>e.2 (h4 k hx).1)) ⟨⟨K,R,⟨⟨gg,T,b.next t hl,b2⟩,hq⟩,⟨z,h2.touch t (λk hk e=>e.2 (h3 k hk).1)⟩,h3,h4⟩,ht⟩⟩⟩
theorem M38.len2(h:M38 w0 w X c hb lb rb hd at_ off a N.reverse N xs wx):∃A cp,∀W,Gr wx W->Rec W rb 51 [.slice A N.length cp,iI (c.wd/4:Nat)]/\Calls prog 12 #[pP lb] W λe w'=>EW w0 w X c hb lb rb hd at_ off a (iI N.length) N.reverse N xs e w'/\Rec w' rb 51 [.slice A N.length cp,iI (c.wd/4:Nat)]:=by
 obtain⟨A,cp,hl⟩:=h.p.len2;exact⟨A,cp,λW g=>⟨(hl W g).1,(hl W g).2.mono λ_ _ ⟨⟨e,t,p⟩,r⟩=>⟨⟨e,(h.gr g).to t p⟩,r⟩⟩⟩
theorem AZ{a b:Int}(h:¬a=b):(a==b)=false:=ζo.2 h
theorem IC{a b:Int}(h:a=b):(a==b)=true:=ζ0.2 h
def J38(w0 w:World)(X:Nat->Prop)(c:HCf)(hb lb rb hd at_ off:Nat)(a:C2)(s9 s10 s12 s13:Value)(wx:World):Prop:=
 ∃(x y:Nat) (e:Int) (N':List (Nat×Nat)),s9=uU x/\s10=.float .f64 y/\s12=iI e/\s13=iI e/\Hid (M38 w0 w X c hb lb rb hd at_ off a N'.reverse N' [uU x,uU y] wx)
theorem J2u(h:P38 w0 X c hb lb rb hd at_ off N.reverse N w)(a:C2)(ha:a.Bd):Calls prog 17 #[pP hb,pP lb,pP rb,.agg a.L.toArray] w λe w'=>e=.returned (.bool true)/\AB (λk=>¬X k) w w'/\∃N',P38 w0 X c hb lb rb hd at_ off N'.reverse N' w':=by
 obtain⟨kd,ai,aw,af⟩:=a;have HA:=ι ha;have HM:=ι (M38.start h ⟨kd,ai,aw,af⟩);have U:Hid (N.length<=1000000):=⟨by have:=h.len_le;rwa [ζJ]at this⟩;have Xb:=ha.kd;dsimp only at Xb;obtain⟨m,hm⟩:∃m,m=kd%16:=⟨_,rfl⟩;have hm16:m<16:=Ω
 have hmod:(kd:Int).tmod 16=(m:Int):=by rw[hm];rfl
 obtain⟨w1,G⟩:∃w1,w1=(w.alloc (.cells (C2.L ⟨kd,ai,aw,af⟩).toArray 24)).alloc (.cells #[.int .u64 0,.int .u64 0] 54):=⟨_,rfl⟩;have O:=ι G;rw[<-G]at HM;have k0:=HM.o.a.cc 0;have kl:=HM.o.a.lt;unfold C2.L at O⊢;dsimp only at O k0⊢;clear h ha G hm;go_enter func17,ntmps17;go_upto_region 4 with(fail);rw[<-O.o];clear O
 go_upto_block 0 with(fail)
 go_cut [9,10,12,13] (λs9 s10 s12 s13 wx=>J38 w0 w X c hb lb rb hd at_ off ⟨kd,ai,aw,af⟩ s9 s10 s12 s13 wx)
 case first=>
  rcases(by omega:m<6\/m=6\/m=7\/m=8\/m=9\/m=10\/m=11\/m=12\/m=13\/m=14\/m=15)with hm|hm|hm|hm|hm|hm|hm|hm|hm|hm|hm
  ·obtain⟨e,N',hp,hq⟩:=HM.o.push2 U.o HA.o.w HA.o.f;have HP:=ι hp;have HQ:=ι hq;clear hp hq;have d6:((m:Int)==6)=false:=AZ Ω;have d7:((m:Int)==7)=false:=AZ Ω;have d8:((m:Int)==8)=false:=AZ Ω;have d9:((m:Int)==9)=false:=AZ Ω;have V:((m:Int)==10)=false:=AZ Ω;have M:((m:Int)==11)=false:=AZ Ω;have I:((m:Int)==12)=false:=AZ Ω;have E:((m:Int)==13)=false:=AZ Ω;have B:((m:Int)==14)=false:=AZ Ω;have Xa:((m:Int)==15)=false:=AZ Ω;clear hm;go_upto_region 7 with(fail);clear k0 kl;obtain⟨Sx,Z,HS⟩:=AA.start λW'=>Rec W' w.heap.size 24 (C2.L ⟨kd,ai,aw,af⟩);have y2:=AA.fact Z λ_ h=>h.cell (j:=2) rfl;have y3:=AA.fact Z λ_ h=>h.cell (j:=3) rfl;have Y:=HS.o _ (HM.o.a.gr (Gr.refl _).drew);have J:Inhabited (AA Sx):=⟨⟨_,Y⟩⟩;clear Z;refine AR Sx 15 [([0,1,2,3,4,7,8,9,10,11],5),([],6),([],12)] [13,14] (by kernel_rfl) (by kernel_rfl) Y ?_;refine AG ?_
   try simp only[AC,ζ,ξ]
   repeat(go_big_quiet_step (fail))
   refine ψ ?_;go_wp2_with((go_at_call 22;refine AT (SH _ _) ?_));refine⟨.inr (AA.of (HS.o _ (HM.o.a.gr (Gr.refl _).drew))),?_⟩;refine AG ?_
   try simp only[AC,ζ,ξ]
   repeat(go_big_quiet_step (fail))
   refine ψ ?_;go_wp2_with((go_at_call 10;refine(HP.o _ (Gr.refl _).drew).mono ?_;rintro e w2 ⟨rfl,hm⟩;have H2:=ι hm;clear hm));refine⟨.inr (AA.of (HS.o _ (H2.o.a))),?_⟩;refine AG ?_
   try simp only[AC,ζ,ξ]
   repeat(go_big_quiet_step (fail))
   refine ψ ?_;go_wp2_with((go_at_call 48;refine(HQ.o _ H2.o).mono ?_;rintro e w3 ⟨rfl,hm⟩;have H3:=ι hm;clear hm));refine⟨.inr (AA.of (HS.o _ (H3.o.a))),?_⟩;refine AS ?_
   try simp only[AC,ζ,ξ]
   repeat(go_big_quiet_step (fail))
   refine ψ ?_;refine τ ?_;clear y2 y3 Y J;clear HS Sx;go_wp2
   go_meet
   case rel=>exact⟨0,0,e,N',rfl,rfl,rfl,rfl,H3⟩
  ·have d6:((m:Int)==6)=true:=IC Ω;clear hm;obtain⟨x,y,e,N',hp,hq⟩:=HM.o.pop2 U.o;have HP:=ι hp;have HQ:=ι hq;clear hp hq
   go_wp2_with(first
    | (go_at_call 43;refine(HQ.o _ H2.o).mono ?_;rintro e w3 ⟨rfl,hm⟩;have H3:=ι hm;have z0:=H3.o.x.cc 0;have z1:=H3.o.x.cc 1;have zf:=H3.o.x.free;have zl:=H3.o.x.lt;clear hm)
    | (go_at_call 7;refine(HP.o _ (Gr.refl _)).mono ?_;rintro e w2 ⟨rfl,hm⟩;have H2:=ι hm;have k1:w2.cell? ⟨w.heap.size,1,none⟩=some (iI ai):=H2.o.a.cc 1;have kl:=H2.o.a.lt;clear hm))
   go_meet
   case rel=>exact⟨x,y,e,N',rfl,rfl,rfl,rfl,⟨H3.o.set⟩⟩
  ·have d6:((m:Int)==6)=false:=AZ Ω;have d7:((m:Int)==7)=true:=IC Ω;clear hm;obtain⟨x,y,e,N',hp,hq⟩:=HM.o.pop2 U.o;have HP:=ι hp;have HQ:=ι hq;clear hp hq
   go_wp2_with(first
    | (go_at_call 43;refine(HQ.o _ H2.o).mono ?_;rintro e w3 ⟨rfl,hm⟩;have H3:=ι hm;have z0:=H3.o.x.cc 0;have z1:=H3.o.x.cc 1;have zf:=H3.o.x.free;have zl:=H3.o.x.lt;clear hm)
    | (go_at_call 7;refine(HP.o _ (Gr.refl _)).mono ?_;rintro e w2 ⟨rfl,hm⟩;have H2:=ι hm;have k1:w2.cell? ⟨w.heap.size,1,none⟩=some (iI ai):=H2.o.a.cc 1;have kl:=H2.o.a.lt;clear hm))
   go_meet
   case rel=>exact⟨x,y,e,N',rfl,rfl,rfl,rfl,⟨H3.o.set⟩⟩
  ·have d6:((m:Int)==6)=false:=AZ Ω;have d7:((m:Int)==7)=false:=AZ Ω;have d8:((m:Int)==8)=true:=IC Ω;clear hm;obtain⟨x,y,e,hp,hq,-⟩:=HM.o.at2 U.o HA.o.i.2;have k1:w1.cell? ⟨w.heap.size,1,none⟩=some (iI ai):=HM.o.a.cc 1;have HP:=ι hp;have HQ:=ι hq;clear hp hq
   go_wp2_with(first
    | (go_at_call 18;refine(HQ.o _ H2.o).mono ?_;rintro e w3 ⟨rfl,hm⟩;have H3:=ι hm;have z0:=H3.o.x.cc 0;have z1:=H3.o.x.cc 1;have zf:=H3.o.x.free;have zl:=H3.o.x.lt;clear hm)
    | (go_at_call 8;refine(HP.o _ (Gr.refl _)).mono ?_;rintro e w2 ⟨rfl,hm⟩;have H2:=ι hm;have k1:w2.cell? ⟨w.heap.size,1,none⟩=some (iI ai):=H2.o.a.cc 1;have kl:=H2.o.a.lt;clear hm))
   go_meet
   case rel=>exact⟨x,y,e,N,rfl,rfl,rfl,rfl,⟨H3.o.set⟩⟩
  ·have d6:((m:Int)==6)=false:=AZ Ω;have d7:((m:Int)==7)=false:=AZ Ω;have d8:((m:Int)==8)=false:=AZ Ω;have d9:((m:Int)==9)=true:=IC Ω;clear hm;obtain⟨e,N',hp,hq⟩:=HM.o.set2 U.o HA.o.i.2 HA.o.w HA.o.f;have HP:=ι hp;have HQ:=ι hq;clear hp hq;go_upto_region 16 with(fail);clear k0 kl;obtain⟨Sx,Z,HS⟩:=AA.start λW'=>Rec W' w.heap.size 24 (C2.L ⟨kd,ai,aw,af⟩);have y1:=AA.fact Z λ_ h=>h.cell (j:=1) rfl;have y2:=AA.fact Z λ_ h=>h.cell (j:=2) rfl;have y3:=AA.fact Z λ_ h=>h.cell (j:=3) rfl;have Y:=HS.o _ (HM.o.a.gr (Gr.refl _).drew);have J:Inhabited (AA Sx):=⟨⟨_,Y⟩⟩;clear Z;refine AR Sx 19 [([0,1,2,3,4,5,6,9,10,11,12,13,14,15],7),([],8),([],16)] [17,18] (by kernel_rfl) (by kernel_rfl) Y ?_;refine AG ?_
   try simp only[AC,ζ,ξ]
   repeat(go_big_quiet_step (fail))
   refine ψ ?_;go_wp2_with((go_at_call 22;refine AT (SH _ _) ?_));refine⟨.inr (AA.of (HS.o _ (HM.o.a.gr (Gr.refl _).drew))),?_⟩;refine AG ?_
   try simp only[AC,ζ,ξ]
   repeat(go_big_quiet_step (fail))
   refine ψ ?_;go_wp2_with((go_at_call 11;refine(HP.o _ (Gr.refl _).drew).mono ?_;rintro e w2 ⟨rfl,hm⟩;have H2:=ι hm;clear hm));refine⟨.inr (AA.of (HS.o _ (H2.o.a))),?_⟩;refine AG ?_
   try simp only[AC,ζ,ξ]
   repeat(go_big_quiet_step (fail))
   refine ψ ?_;go_wp2_with((go_at_call 44;refine(HQ.o _ H2.o).mono ?_;rintro e w3 ⟨rfl,hm⟩;have H3:=ι hm;clear hm));refine⟨.inr (AA.of (HS.o _ (H3.o.a))),?_⟩;refine AS ?_
   try simp only[AC,ζ,ξ]
   repeat(go_big_quiet_step (fail))
   refine ψ ?_;refine τ ?_;clear y1 y2 y3 Y J;clear HS Sx;go_wp2
   go_meet
   case rel=>exact⟨0,0,e,N',rfl,rfl,rfl,rfl,H3⟩
  ·have d6:((m:Int)==6)=false:=AZ Ω;have d7:((m:Int)==7)=false:=AZ Ω;have d8:((m:Int)==8)=false:=AZ Ω;have d9:((m:Int)==9)=false:=AZ Ω;have V:((m:Int)==10)=true:=IC Ω;clear hm;have HP:=ι (HM.o.ls λK hl=>hl.turn);have HQ:=ι (λW (hW:M38 w0 w X c hb lb rb hd at_ off ⟨kd,ai,aw,af⟩ N.reverse.reverse N [uU 0,uU 0] W)=>hW.rf λR z hr=>Qif hr U.o)
   go_wp2_with(first
    | (go_at_call 45;refine(HQ.o _ H2.o).mono ?_;rintro e w3 ⟨rfl,hm⟩;have H3:=ι hm;clear hm)
    | (go_at_call 9;refine(HP.o).mono ?_;rintro e w2 ⟨rfl,hm⟩;have H2:=ι hm;clear hm))
   go_meet
   case rel=>exact⟨0,0,0,N.reverse,rfl,rfl,rfl,rfl,H3⟩
  ·have d6:((m:Int)==6)=false:=AZ Ω;have d7:((m:Int)==7)=false:=AZ Ω;have d8:((m:Int)==8)=false:=AZ Ω;have d9:((m:Int)==9)=false:=AZ Ω;have V:((m:Int)==10)=false:=AZ Ω;have M:((m:Int)==11)=true:=IC Ω;clear hm;obtain⟨A,cp,hl⟩:=HM.o.len2;have HL:=ι hl;have u1:IntKind.u64.wrap (N.length:Int)=N.length:=by have:=U.o;exact LA _ Ω
   go_upto_region 21 with(fail);clear k0 kl hl;obtain⟨Sx,Z,HS⟩:=AA.start λW'=>Rec W' rb 51 [.slice A N.length cp,iI (c.wd/4:Nat)];have y0:=AA.fact Z λ_ h=>h.cell (j:=0) rfl;have Y:=HS.o _ ((HL.o _ (Gr.refl _).drew).1);have J:Inhabited (AA Sx):=⟨⟨_,Y⟩⟩;clear Z;refine AR Sx 11 [([0,3,4,5,6,7,8],1),([2,9,10],11)] [] (by kernel_rfl) (by kernel_rfl) Y ?_;refine AG ?_
   try simp only[AC,ζ,ξ]
   repeat(go_big_quiet_step (fail))
   refine ψ ?_;go_wp2_with((go_at_call 12;refine((HL.o _ (Gr.refl _).drew).2).mono ?_;rintro e w2 ⟨⟨rfl,hm⟩,hr⟩;have H2:=ι hm;have HR:=ι hr;have z0:=hm.x.cc 0;have zf:=hm.x.free;have zl:=hm.x.lt;clear hm hr));refine⟨.inr (AA.of (HS.o _ (HR.o))),?_⟩;refine AG ?_
   try simp only[AC,ζ,ξ]
   repeat(go_big_quiet_step (fail))
   refine ψ ?_;go_wp2;refine⟨.inl trivial,?_⟩;refine AS ?_;refine ψ ?_;refine τ ?_;clear y0 Y J;clear HS Sx;go_wp2
   go_meet
   case rel=>exact⟨N.length,0,0,N,rfl,rfl,rfl,rfl,⟨H2.o.set1⟩⟩
  ·have d6:((m:Int)==6)=false:=AZ Ω;have d7:((m:Int)==7)=false:=AZ Ω;have d8:((m:Int)==8)=false:=AZ Ω;have d9:((m:Int)==9)=false:=AZ Ω;have V:((m:Int)==10)=false:=AZ Ω;have M:((m:Int)==11)=false:=AZ Ω;have I:((m:Int)==12)=true:=IC Ω;clear hm;go_wp2_with(go_at_call 46;refine(HM.o.heap2.1 _ (Gr.refl _)).mono ?_;rintro e w2 ⟨rfl,hm⟩;have H2:=ι hm;clear hm)
   go_meet
   case rel=>exact⟨0,0,0,N,rfl,rfl,rfl,rfl,H2⟩
  ·have d6:((m:Int)==6)=false:=AZ Ω;have d7:((m:Int)==7)=false:=AZ Ω;have d8:((m:Int)==8)=false:=AZ Ω;have d9:((m:Int)==9)=false:=AZ Ω;have V:((m:Int)==10)=false:=AZ Ω;have M:((m:Int)==11)=false:=AZ Ω;have I:((m:Int)==12)=false:=AZ Ω;have E:((m:Int)==13)=true:=IC Ω;clear hm;go_wp2_with(go_at_call 24;refine(HM.o.heap2.2.1 _ (Gr.refl _)).mono ?_;rintro e w2 ⟨rfl,hm⟩;have H2:=ι hm;clear hm)
   go_meet
   case rel=>exact⟨0,0,0,N,rfl,rfl,rfl,rfl,H2⟩
  ·have d6:((m:Int)==6)=false:=AZ Ω;have d7:((m:Int)==7)=false:=AZ Ω;have d8:((m:Int)==8)=false:=AZ Ω;have d9:((m:Int)==9)=false:=AZ Ω;have V:((m:Int)==10)=false:=AZ Ω;have M:((m:Int)==11)=false:=AZ Ω;have I:((m:Int)==12)=false:=AZ Ω;have E:((m:Int)==13)=false:=AZ Ω;have B:((m:Int)==14)=true:=IC Ω;clear hm;go_wp2_with(go_at_call 47;refine(HM.o.heap2.2.2 _ (Gr.refl _)).mono ?_;rintro e w2 ⟨b,rfl,hm⟩;have H2:=ι hm;clear hm)
   go_meet
   case rel=>exact⟨0,0,0,N,rfl,rfl,rfl,rfl,H2⟩
  ·have d6:((m:Int)==6)=false:=AZ Ω;have d7:((m:Int)==7)=false:=AZ Ω;have d8:((m:Int)==8)=false:=AZ Ω;have d9:((m:Int)==9)=false:=AZ Ω;have V:((m:Int)==10)=false:=AZ Ω;have M:((m:Int)==11)=false:=AZ Ω;have I:((m:Int)==12)=false:=AZ Ω;have E:((m:Int)==13)=false:=AZ Ω;have B:((m:Int)==14)=false:=AZ Ω;have Xa:((m:Int)==15)=true:=IC Ω;clear hm;go_wp2_with(go_at_call 47;refine(HM.o.heap2.2.2 _ (Gr.refl _)).mono ?_;rintro e w2 ⟨b,rfl,hm⟩;have H2:=ι hm;clear hm)
   go_meet
   case rel=>exact⟨0,0,0,N,rfl,rfl,rfl,rfl,H2⟩
 case rest=>
  obtain⟨x,y,e,N',rfl,rfl,rfl,rfl,HJ⟩:=hcut;go_wp2;obtain⟨Sx,Z,HS⟩:=AA.start λW'=>Rec W' (w.heap.size+1) 54 [uU x,uU y];have y0:=AA.fact Z λ_ h=>h.cell (j:=0) rfl;have y1:=AA.fact Z λ_ h=>h.cell (j:=1) rfl;have Y:=HS.o _ (HJ.o.x.gr (Gr.refl _).drew);have J:Inhabited (AA Sx):=⟨⟨_,Y⟩⟩;clear Z;refine AR Sx 17 [([0,1,2,3,4,5,7,8],6)] [9,10,11,12,13,14,15,16] (by kernel_rfl) (by kernel_rfl) Y ?_;refine AG ?_
  try simp only[AC,ζ,ξ]
  repeat(go_big_quiet_step (fail))
  refine ψ ?_;go_wp2_with((go_at_call 19;refine AT (XE _ _) ?_));refine⟨.inr (AA.of (HS.o _ (HJ.o.x.gr (Gr.refl _).drew))),?_⟩;refine AS ?_
  try simp only[AC,ζ,ξ]
  repeat(go_big_quiet_step (fail))
  refine ψ ?_;refine τ ?_;clear y0 y1 Y J;clear HS Sx;go_wp2;go_ret;have HE:=HJ.o.gr (Gr.refl wc).drew;exact⟨rfl,HE.t,N',HE.p.sub (λ_ h=>.inl h)⟩
end
theorem VHZ(x y z:Int){k:Nat}(hk:k<3)(V:World):(Instr.index 42 (.agg #[iI x,iI y,iI z]) (iI k)).run prog V=.ok (iI ([x,y,z].getD k 0)) V:=by
 rcases(by omega:k=0\/k=1\/k=2)with rfl|rfl|rfl <;> kernel_rfl
theorem QFg{n x y z:Int}{k:Nat}(hk:k<3)(h:[x,y,z].getD k 0<0\/n<=[x,y,z].getD k 0):GC n x y z=17:=by
 refine μ ?_;rcases(by omega:k=0\/k=1\/k=2)with rfl|rfl|rfl <;> simp at h <;> omega
theorem JgK{n x y z:Int}(h:∀k,k<3->0<=[x,y,z].getD k 0/\[x,y,z].getD k 0<n)(hm:GC n x y z≠0):GC n x y z=5/\(x=y\/x=z\/y=z):=by
 have h0:=h 0 Ω;have h1:=h 1 Ω;have h2:=h 2 Ω;simp at h0 h1 h2;unfold GC at hm⊢;rw[κ Ω]at hm⊢;by_cases hq:x=y\/x=z\/y=z
 ·rw[μ hq];exact⟨rfl,hq⟩
 ·exact absurd (κ hq) hm
section
variable {w0 w w':World} {K:Nat->Prop} {c:HCf} {hb:Nat} {g:Gph}
theorem X3J(h:HLv w0 K c hb g w)(x y z:Int)(hm:GC c.sl x y z≠0):Calls prog 6 #[pP hb,iI x,.agg #[iI y,iI z]] w λe w'=>e=.returned (.tuple #[.pointer none,iI (GC c.sl x y z)])/\Gr w w':=by
 have Xg:=h.facts.1.kd;have O:=ι (λ(V:World) (gV:Gr w V)=>(h.get gV).conf);unfold F7 GF at O;have k1:((c.kd:Int)==0)=false:=by rw[ζo];omega
 have HM:=ι hm;have Xb:=ι (λk (hk:k<3) hq=>QFg (n:=c.sl) (x:=x) (y:=y) (z:=z) (k:=k) hk hq);have B:=ι (λhq=>JgK (n:=c.sl) (x:=x) (y:=y) (z:=z) hq hm);have Xf:=ι (λk (hk:k<3) V=>VHZ x y z hk V);have hf0:∀V,(Instr.field 41 (.agg #[iI c.kd,iI c.pg,iI c.bk,iI c.wd,iI c.sl,iI c.st,iI c.ah,.float .f64 c.tr]) 0).run prog V=.ok (iI c.kd) V:=λ_=>by kernel_rfl
 have hf4:∀V,(Instr.field 41 (.agg #[iI c.kd,iI c.pg,iI c.bk,iI c.wd,iI c.sl,iI c.st,iI c.ah,.float .f64 c.tr]) 4).run prog V=.ok (iI c.sl) V:=λ_=>by kernel_rfl
 have hr:=Rec.new w 30 [iI y,iI z];have A:=(Gr.refl w).alloc (.cells #[.int .i64 y,.int .i64 z] 30);obtain⟨wb,U⟩:∃wb,wb=w.alloc (.cells #[.int .i64 y,.int .i64 z] 30):=⟨_,rfl⟩;obtain⟨bx,E⟩:∃bx,bx=w.heap.size:=⟨_,rfl⟩;have HR:Hid (Rec wb bx 30 [iI y,iI z]):=⟨by rw[U,E];exact hr⟩;have Xa:Hid (Gr w wb):=⟨by rw[U];exact A⟩;have HW:=ι U;have Xd:=ι E;obtain⟨x0,x1,xl⟩:=HR.o.k2;obtain⟨M,hM⟩:∃M,M=GC c.sl x y z:=⟨_,rfl⟩;rw[<-hM]at HM Xb B⊢;clear h hm U E hr A Xg hM;go_enter func6,ntmps6;go_upto_region 1 with(fail);rw[<-HW.o,<-Xd.o];go_wp2_with(go_at_call 27;refine(O.o _ Xa.o).mono ?_;rintro e w1 ⟨rfl,hg⟩;have Z:=ι hg;replace x0:=(HR.o.gr hg).cell (j:=0) rfl;replace x1:=(HR.o.gr hg).cell (j:=1) rfl;replace xl:=(HR.o.gr hg).lt;clear hg);have Y:=ι (Xa.o.trans Z.o);clear x0 x1 xl
 go_loopw [21] (λs21 wr=>∃k:Nat,k<=3/\s21=iI k/\Hid (Gr w wr)/\Hid (Gr wb wr)/\Hid (∀j,j<k->0<=[x,y,z].getD j 0/\[x,y,z].getD j 0<c.sl)) (λs21 _=>3-(intOf s21).toNat)
 case atStart=>exact⟨0,by omega,rfl,Y,Z,⟨λj hj=>absurd hj (ζI _)⟩⟩
 case round=>
  clear Y Z;obtain⟨k,hk,rfl,Y,Z,G⟩:=hrel;by_cases J:k<3
  ·have hlI:(k:Int)<3:=Ω
   have Xc:=Xf.o k J
   have HX:Hid (∀j,j<k+1->0<=[x,y,z].getD k 0->[x,y,z].getD k 0<c.sl->0<=[x,y,z].getD j 0/\[x,y,z].getD j 0<c.sl):=⟨λj hj h1 h2=>by
    rcases(by omega:j<k\/j=k)with h|rfl
    ·exact G.o j h
    ·exact⟨h1,h2⟩⟩
   have HB:=ι (Xb.o k J);generalize [x,y,z].getD k 0=v at Xc HX HB;by_cases h0:v<0
   ·have d0:decide (v<0)=true:=θ h0;have HB:=ι (HB.o (.inl h0));clear h0;go_wp2;go_ret2;exact⟨by rw[HB.o];rfl,Y.o⟩
   ·have d0:decide (v<0)=false:=φ h0;by_cases h1:(c.sl:Int)<=v
    ·have d1:decide ((c.sl:Int)<=v)=true:=θ h1;have HB:=ι (HB.o (.inr h1));clear h0 h1;go_wp2_with(go_at_call 27;refine(O.o _ Y.o).mono ?_;rintro e w4 ⟨rfl,hg⟩;have I:=ι (Y.o.trans hg);clear hg);go_ret2;exact⟨by rw[HB.o];rfl,I.o⟩
    ·have d1:decide ((c.sl:Int)<=v)=false:=φ h1;have HX:=ι (λj hj=>HX.o j hj Ω Ω);clear h0 h1;go_wp2_with(go_at_call 27;refine(O.o _ Y.o).mono ?_;rintro e w4 ⟨rfl,hg⟩;have I:=ι (Y.o.trans hg);have Xe:=ι (Z.o.trans hg);clear hg);go_round
     case rel=>exact⟨k+1,by omega,by go_num,I,Xe,HX⟩
     case measure=>simp[intOf];omega
  ·obtain rfl:k=3:=Ω
   have x0:=(HR.o.gr Z.o).cell (j:=0) rfl;have x1:=(HR.o.gr Z.o).cell (j:=1) rfl;have xl:=(HR.o.gr Z.o).lt;obtain⟨hM,hq⟩:=B.o G.o;have L:=ι hM;clear hM J hk;rcases(by omega:x=y\/(¬x=y/\x=z)\/(¬x=y/\¬x=z/\y=z))with q1|⟨q1,q2⟩|⟨q1,q2,q3⟩
   ·have e1:(x==y)=true:=ζ0.2 q1;clear q1 hq;go_wp2;go_ret2;exact⟨by rw[L.o];rfl,Y.o⟩
   ·have e1:(x==y)=false:=ζo.2 q1;have e2:(x==z)=true:=ζ0.2 q2;clear q1 q2 hq;go_wp2;go_ret2;exact⟨by rw[L.o];rfl,Y.o⟩
   ·have e1:(x==y)=false:=ζo.2 q1;have e2:(x==z)=false:=ζo.2 q2;have e3:(y==z)=true:=ζ0.2 q3;clear q1 q2 q3 hq;go_wp2;go_ret2;exact⟨by rw[L.o];rfl,Y.o⟩
end
theorem ZT{W:World}{b:Nat}{c:CfI}(h:Rec W b 41 (E3 c)):W.cell? ⟨b,0,none⟩=some (iI c.kd)/\W.cell? ⟨b,1,none⟩=some (iI c.pg)/\W.cell? ⟨b,2,none⟩=some (iI c.bk)/\W.cell? ⟨b,3,none⟩=some (iI c.wd)/\W.cell? ⟨b,4,none⟩=some (iI c.sl)/\W.cell? ⟨b,5,none⟩=some (iI c.st)/\W.cell? ⟨b,6,none⟩=some (iI c.ah)/\W.cell? ⟨b,7,none⟩=some (.float .f64 c.tr)/\b<W.heap.size:=
 ⟨h.cc 0,h.cc 1,h.cc 2,h.cc 3,h.cc 4,h.cc 5,h.cc 6,h.cc 7,h.lt⟩
theorem YUJ(c:CfI){n:Nat}(hn:n<=120)(A:Option Addr)(cap:Nat)(w:World):Calls prog 14 #[c.V,.slice A n cap] w λe w'=>e=.returned (.bool (decide (2048<c.wd)))/\Gr w w':=by
 have hr:=Rec.new w 41 (E3 c);have HG:=ι ((Gr.refl w).alloc (.cells (E3 c).toArray 41));have c3:=hr.cc 3;have cl:=hr.lt;have hd:decide ((120:Int)<(n:Int))=false:=φ Ω;unfold CfI.V;unfold E3 at c3 cl HG;clear hr hn;cases hb:decide ((2048:Int)<c.wd)
 all_goals
  go_enter func14,ntmps14;go_wp2;go_ret;exact⟨rfl,HG.o⟩
def RL:CfI:=⟨1,4,4,16,3,1,0,0⟩
def PK:Nat->List (Nat×Nat)
 | 0=>[]
 | k+1=>(k+1,0) :: PK k
theorem XX:∀k,(PK k).length=k
 | 0=>rfl
 | k+1=>by show (PK k).length+1=k+1;rw[XX k]
theorem Yhn:RL.may=true:=by decide +kernel
theorem Vbr(w:World)(hT:AP w):Calls prog 13 #[] w λe w'=>e=.returned (.bool true)/\Gr w w':=by
 have Y:=ι (Xcy RL ⟨by show (4:Int)<=_;decide,by show (4:Int)<=_;decide,by show (16:Int)<=_;decide⟩ Yhn w hT);obtain⟨d,hd⟩:∃d,d=RL.nat:=⟨_,rfl⟩;have HD:Hid (d.wd=16/\d.sl=3):=⟨by rw[hd];exact⟨rfl,rfl⟩⟩;rw[<-hd]at Y;unfold CfI.V RL at Y;clear hT hd;go_enter func13,ntmps13;go_upto_region 2 with(go_at_call 15;refine(Y.o).mono ?_;rintro e w1 ⟨s,rfl,hn⟩;have HN:=ι hn;clear hn);have Z:=HLv.new HN.o;obtain⟨hb,J⟩:∃hb,hb=s.A.hp:=⟨_,rfl⟩;rw[<-J]at Z⊢;have O:=ι (ZA7 Z (hd:=0) (at_:=1) (off:=2) (by rw[HD.o.2];omega) (by rw[HD.o.2];omega) (by rw[HD.o.2];omega) Ω Ω Ω);clear Z J;go_wp2_with(go_at_call 6;refine(O.o).mono ?_;rintro e w2 ⟨lb,rfl,ht,hl,-⟩;have HT:=ι ht;have HS:=ι hl;clear ht hl);have HT0:Hid (w.heap.size<=w.heap.size):=⟨π _⟩
 go_loopw [26] (λs26 wr=>∃k:Nat,k<=3/\Hid (BY w (λk=>False\/k=lb) d hb lb 0 1 2 (PK k) wr)/\s26=iI k) (λs26 _=>3-(intOf s26).toNat)
 case atStart=>exact⟨0,by omega,HS,rfl⟩
 case round=>
  clear HS;obtain⟨k,hk,HS,rfl⟩:=hrel;by_cases hlast:k<3
  ·have hkI:(k:Int)<3:=Ω
   have HP:=ι (HS.o.push (x:=k+1) (y:=0) Ω Ω);rw[XX,κ (by rw[HD.o.1];omega),κ (by rw[HD.o.1];omega)]at HP;go_wp2_with(go_at_call 10;refine(HP.o).mono ?_;rintro e w3 ⟨rfl,ht,hl⟩;have I:=ι hl;clear ht hl);go_round
   case rel=>exact⟨k+1,by omega,I,by go_num⟩
   case measure=>simp[intOf];omega
  ·obtain rfl:k=3:=Ω
   go_wp2_with(first
    | (go_at_call 12;refine(M.o.len).mono ?_;rintro e w5 ⟨rfl,ht,hl⟩;have E:=ι hl;clear ht hl)
    | (go_at_call 8;refine(U.o.at (i:=0) (by decide)).mono ?_;rintro e w4 ⟨rfl,ht,hl⟩;have M:=ι hl;clear ht hl)
    | (go_at_call 9;refine(HS.o.turn).mono ?_;rintro e w3 ⟨rfl,ht,hl⟩;have U:=ι hl;clear ht hl))
   go_ret;exact⟨rfl,E.o.grew⟩
end Go.Proofs.YteihjlcmjecmfaaGreatDoor
