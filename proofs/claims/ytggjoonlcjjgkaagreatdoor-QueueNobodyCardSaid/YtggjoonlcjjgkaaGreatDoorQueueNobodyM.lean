/- Part 13 of what QueueNobody leans on: my own lemmas, merged by shake.py. -/
import Derived.Test.YtggjoonlcjjgkaaGreatDoorQueueNobodyL
namespace Go.Proofs.YtggjoonlcjjgkaaGreatDoor
open _root_.Go.Proofs.Tryz
set_option maxHeartbeats 6400000
set_option maxRecDepth 100000
open Go.RowKit Go.Shelf Word
variable{v:Bool}{g g':Gph}{c:HCf}{sl:Int}{M:List (Nat×Nat)}{l:List Int}{a b d f hb k n qb r s u x y:Nat}{K:Nat->Prop}{w w' w0 wx:World}
def quL(hb r a b t d s n:Nat):List Value:=[pP hb,iI r,iI a,iI b,iI t,iI d,iI s,iI n]
structure BA(w0:World)(K:Nat->Prop)(c:HCf)(hb qb r a b t d s n:Nat)(g:Gph)(w:World):Prop where
 hv:HLv w0 K c hb g w
 row:Rec w qb 63 (quL hb r a b t d s n)
 kl:K qb
 ql:w0.heap.size<=qb
 tb:1<w0.heap.size
section
variable{t:Nat}
theorem BA.next(h:BA w0 K c hb qb r a b t d s n g w)(t':AB (hlT w0 K) w w')(hl:HLv w0 K c hb g' w'):BA w0 K c hb qb r a b t d s n g' w':=⟨hl,h.row.touch t' (λe=>e.2 h.kl),h.kl,h.ql,h.tb⟩
theorem BA.gr(h:BA w0 K c hb qb r a b t d s n g w)(gr:Gr w w'):BA w0 K c hb qb r a b t d s n g w':=⟨h.hv.get gr,h.row.gr gr,h.kl,h.ql,h.tb⟩
theorem BA.nx{v:Value}{e:Ending}(h:BA w0 K c hb qb r a b t d s n g w)(t':AB (hlT w0 K) wx w)(ho:HLo w0 K c hb w v g' e w'):e=.returned v/\Hid (AB (hlT w0 K) wx w')/\Hid (BA w0 K c hb qb r a b t d s n g' w')/\w'.cell? ⟨qb,0,none⟩=some (pP hb)/\qb<w'.heap.size:=by
 obtain⟨rfl,ht,hl⟩:=ho;have hq:=h.next ht hl
 exact⟨rfl,⟨t'.trans ht⟩,⟨hq⟩,hq.row.cc 0,hq.row.lt⟩
theorem PH(h:BA w0 K c hb qb r a b t d s n g w):cQ 30 #[pP qb] w (.bool false):=by
 have c0:w.cell? ⟨qb,0,none⟩=some (pP hb):=h.row.cc 0;clear h;go_enter func30,ntmps30;go_wp2;go_ret;exact⟨rfl,rfl⟩
theorem FN(h:BA w0 K c hb qb r a b t d s n g w)(hv:(g.shE x==0)=v):Calls prog 27 #[pP qb,iI x] w (HLo w0 K c hb w (.bool v) (g)):=by
 have HQ:=ι h;have HT:=ι (AB.refl (hlT w0 K) w);have c0:w.cell? ⟨qb,0,none⟩=some (pP hb):=h.row.cc 0;have cl:=h.row.lt;clear h;unfold HLo;have X:=ι (λ(V:World) (hV:BA w0 K c hb qb r a b t d s n g V)=>hV.hv.shap x);unfold AJ at X;generalize g.shE x=E at X hv;generalize (g.shH x).p=h1 at X;generalize (g.shH x).f=h2 at X;generalize (g.shH x).k=h3 at X;go_enter func27,ntmps27;go_wp2_with(go_at_call 61;refine(X.o _ HQ.o).mono ?_;intro e w1 ho;have hn:=HQ.o.nx HT.o ho;clear HT HQ c0 cl ho;obtain⟨rfl,HT,HQ,c0,cl⟩:=hn);go_ret;exact⟨rfl,HT.o.trans (((Gr.refl _).alloc _).touch _),HQ.o.hv.get ((Gr.refl _).alloc _)⟩
theorem ST(h:BA w0 K c hb qb r a b t d s n g w)(x:Nat):Calls prog 31 #[pP qb,iI x] w (HLo w0 K c hb w (.tuple #[.float .f64 (g.fdV x 2 2),uU (g.fdV x 3 3:Nat)]) (g)):=by
 have HQ:=ι h;have HT:=ι (AB.refl (hlT w0 K) w);have c0:w.cell? ⟨qb,0,none⟩=some (pP hb):=h.row.cc 0;have cl:=h.row.lt;clear h;unfold HLo;have X:=ι (λ(V:World) (hV:BA w0 K c hb qb r a b t d s n g V)=>hV.hv.getW x 3);have Y:=ι (λ(V:World) (hV:BA w0 K c hb qb r a b t d s n g V)=>hV.hv.getF x 2);generalize g.fdV x 3 3=u at X⊢;generalize g.fdE x 3 3=e1 at X;generalize g.fdV x 2 2=y at Y⊢;generalize g.fdE x 2 2=e2 at Y;go_enter func31,ntmps31
 go_wp2_with(first
  | (go_at_call 64;refine(Y.o _ HQ.o).mono ?_;intro e w1 ho;have hn:=HQ.o.nx HT.o ho;clear HT HQ c0 cl ho;obtain⟨rfl,HT,HQ,c0,cl⟩:=hn)
  | (go_at_call 65;refine(X.o _ HQ.o).mono ?_;intro e w1 ho;have hn:=HQ.o.nx HT.o ho;clear HT HQ c0 cl ho;obtain⟨rfl,HT,HQ,c0,cl⟩:=hn))
 go_ret2;exact⟨rfl,HT.o,HQ.o.hv⟩
theorem VvP(x y:Nat)(w:World):cQ 17 #[.float .f64 x,.float .f64 y] w (.bool (x==y)):=by
 have hb:((x:Int)==(y:Int))=(x==y):=by
  cases h:x==y
  ·rw[ζG]at h⊢;omega
  ·rw[ζ9]at h⊢;omega
 go_enter func17,ntmps17;go_wp2_with(go_at_call 18;refine AM (OM _ _) ?_);go_ret;exact⟨rfl,rfl⟩
theorem Z3(h:BA w0 K c hb qb r a b t d s n g w)(x y:Nat)(hv:MF g x y=v):Calls prog 62 #[pP qb,iI x,iI y] w (HLo w0 K c hb w (.bool v) (g)):=by
 have HQ:=ι h;have HT:=ι (AB.refl (hlT w0 K) w);have c0:w.cell? ⟨qb,0,none⟩=some (pP hb):=h.row.cc 0;have cl:=h.row.lt;unfold HLo;have HX:=ι (λ(V:World) (hV:BA w0 K c hb qb r a b t d s n g V)=>ST hV x);have HY:=ι (λ(V:World) (hV:BA w0 K c hb qb r a b t d s n g V)=>ST hV y);have l1:=h.hv.fd_lt x 2 2 (.inl rfl);have l2:=h.hv.fd_lt y 2 2 (.inl rfl);unfold MF leQ at hv;dsimp only at hv;generalize g.fdV x 3 3=u at HX hv;generalize g.fdV x 2 2=f at HX hv l1;generalize g.fdV y 3 3=u' at HY hv;generalize g.fdV y 2 2=f' at HY hv l2;have HB:=ι (λW=>ZZy f f' l1 l2 W);have HS:=ι (λW=>VvP f f' W);generalize IK f f'=b1 at HB hv;generalize (f==f')=b2 at HS hv
 have hd:decide ((u:Int)<=(u':Int))=decide (u<=u'):=by
  by_cases h:u<=u'
  ·rw[φ h,φ Ω]
  ·rw[ζ h,ζ Ω]
 generalize hd2:decide (u<=u')=b3 at hd hv;clear h l1 l2;cases b1 <;> cases b2 <;> cases b3
 all_goals
  first
   | (obtain rfl:v=true:=hv.symm)
   | (obtain rfl:v=false:=hv.symm)
  clear hv;go_enter func62,ntmps62
  go_wp2_with(first
   | (go_at_call 17;refine AM (HS.o _) ?_)
   | (go_at_call 16;refine AM (HB.o _) ?_)
   | (go_at_call 31;(with_reducible refine(HY.o _ HQ.o).mono ?_);intro e w1 ho;have hn:=HQ.o.nx HT.o ho;clear HT HQ c0 cl ho HX;obtain⟨rfl,HT,HQ,c0,cl⟩:=hn)
   | (go_at_call 31;(with_reducible refine(HX.o _ HQ.o).mono ?_);intro e w1 ho;have hn:=HQ.o.nx HT.o ho;clear HT HQ c0 cl ho;obtain⟨rfl,HT,HQ,c0,cl⟩:=hn))
  go_ret;exact⟨by first|rfl|(rw[hd2];rfl),HT.o,HQ.o.hv⟩
theorem ZS(h:BA w0 K c hb qb r a b t d s n g w)(x y:Nat):Calls prog 63 #[pP qb,iI x,iI y] w (HLo w0 K c hb w (.tuple #[]) (GP s x y g)):=by
 have HQ:=ι h;have HT:=ι (AB.refl (hlT w0 K) w);have c0:w.cell? ⟨qb,0,none⟩=some (pP hb):=h.row.cc 0;have cl:=h.row.lt;clear h;unfold HLo;unfold GP;go_enter func63,ntmps63;go_upto_region 0 with(fail);clear c0 cl;obtain⟨Sx,X,HS⟩:=AA.start λW'=>Rec W' qb 63 (quL hb r a b t d s n);have y0:∀p:AA Sx,p.w.cell? ⟨qb,0,none⟩=some (pP hb):=λp=>by have h:=AA.get X p;exact h.cc 0
 have y6:∀p:AA Sx,p.w.cell? ⟨qb,6,none⟩=some (iI s):=λp=>by have h:=AA.get X p;exact h.cc 6
 have Y:=HS.o _ (HQ.o.row.gr (Gr.refl _).drew);have Z:Inhabited (AA Sx):=⟨⟨_,Y⟩⟩;clear X;refine AW Sx 9 [([0,1,2,3,4,5,6,7,8],9)] [] Y ?_;refine AI ?_;go_wp2_with((go_at_call 25;refine((HQ.o.gr (Gr.refl _).drew).hv.load _ _ _).mono ?_;intro e w1 ho;have hn:=(HQ.o.gr (Gr.refl _).drew).nx (HT.o.trans ((Gr.refl _).drew.touch _)) ho;clear HT HQ ho;obtain⟨rfl,HT,HQ,c0,cl⟩:=hn));refine⟨.inl trivial,?_⟩;refine BE ?_;clear y0 y6 Y Z;clear HS Sx;go_upto_region 1 with(fail);clear c0 cl;obtain⟨Sx,X,HS⟩:=AA.start λW'=>Rec W' qb 63 (quL hb r a b t d s n);have y0:∀p:AA Sx,p.w.cell? ⟨qb,0,none⟩=some (pP hb):=λp=>by have h:=AA.get X p;exact h.cc 0
 have y6:∀p:AA Sx,p.w.cell? ⟨qb,6,none⟩=some (iI s):=λp=>by have h:=AA.get X p;exact h.cc 6
 have Y:=HS.o _ (HQ.o.row.gr (Gr.refl _).drew);have Z:Inhabited (AA Sx):=⟨⟨_,Y⟩⟩;clear X;refine AW Sx 9 [([0,1,2,3,4,5,6,7,8],9)] [] Y ?_;refine AI ?_;go_wp2_with((go_at_call 59;refine((HQ.o.gr (Gr.refl _).drew).hv.stor _ _ _).mono ?_;intro e w1 ho;have hn:=(HQ.o.gr (Gr.refl _).drew).nx (HT.o.trans ((Gr.refl _).drew.touch _)) ho;clear HT HQ ho;obtain⟨rfl,HT,HQ,c0,cl⟩:=hn));refine⟨.inl trivial,?_⟩;refine BE ?_;clear y0 y6 Y Z;clear HS Sx;go_upto_region 3 with(go_at_call 59;refine(HQ.o.hv.stor _ _ _).mono ?_;intro e w1 ho;have hn:=HQ.o.nx HT.o ho;clear HT HQ c0 cl ho;obtain⟨rfl,HT,HQ,c0,cl⟩:=hn);clear c0 cl;obtain⟨Sx,X,HS⟩:=AA.start λW'=>Rec W' qb 63 (quL hb r a b t d s n);have y0:∀p:AA Sx,p.w.cell? ⟨qb,0,none⟩=some (pP hb):=λp=>by have h:=AA.get X p;exact h.cc 0
 have y6:∀p:AA Sx,p.w.cell? ⟨qb,6,none⟩=some (iI s):=λp=>by have h:=AA.get X p;exact h.cc 6
 have Y:=HS.o _ (HQ.o.row.gr (Gr.refl _).drew);have Z:Inhabited (AA Sx):=⟨⟨_,Y⟩⟩;clear X;refine AW Sx 8 [([0,1,2,3,4,5,6,7],8)] [] Y ?_;refine AI ?_;go_wp2_with((go_at_call 23;refine((HQ.o.gr (Gr.refl _).drew).hv.clr _).mono ?_;intro e w1 ho;have hn:=(HQ.o.gr (Gr.refl _).drew).nx (HT.o.trans ((Gr.refl _).drew.touch _)) ho;clear HT HQ ho;obtain⟨rfl,HT,HQ,c0,cl⟩:=hn));refine⟨.inl trivial,?_⟩;refine BE ?_;clear y0 y6 Y Z;clear HS Sx;go_wp2
 go_end0
 exact⟨rfl,HT.o,HQ.o.hv⟩
theorem S9(h:BA w0 K c hb qb r a b t d s n g w)(x y:Nat):Calls prog 29 #[pP qb,iI x,iI y] w (HLo w0 K c hb w (.tuple #[]) (E9 s x y g)):=by
 have HQ:=ι h;have HT:=ι (AB.refl (hlT w0 K) w);have c0:w.cell? ⟨qb,0,none⟩=some (pP hb):=h.row.cc 0;have cl:=h.row.lt;clear h;unfold HLo;unfold E9;by_cases hy:g.shE y=0
 ·rw[θ hy];have HY:=ι (show (g.shE y==0)=true from ζ9.2 hy);by_cases hx:g.shE x=0
  ·rw[θ hx];have HX:=ι (show (g.shE x==0)=true from ζ9.2 hx);clear hx hy;cases hq:MF g x y with
   | true=>
    have HF:=ι hq;clear hq;rw[θ rfl];go_enter func29,ntmps29
    go_wp2_with(first
     | (go_at_call 62;refine(Z3 HQ.o x y HF.o).mono ?_;intro e w1 ho;have hn:=HQ.o.nx HT.o ho;clear HT HQ c0 cl ho;obtain⟨rfl,HT,HQ,c0,cl⟩:=hn)
     | (go_at_call 63;refine(ZS HQ.o y x).mono ?_;intro e w1 ho;have hn:=HQ.o.nx HT.o ho;clear HT HQ c0 cl ho;obtain⟨rfl,HT,HQ,c0,cl⟩:=hn)
     | (go_at_call 23;refine(HQ.o.hv.clr _).mono ?_;intro e w1 ho;have hn:=HQ.o.nx HT.o ho;clear HT HQ c0 cl ho;obtain⟨rfl,HT,HQ,c0,cl⟩:=hn)
     | (go_at_call 27;(with_reducible refine(FN (x:=x) HQ.o HX.o).mono ?_);intro e w1 ho;have hn:=HQ.o.nx HT.o ho;clear HT HQ c0 cl ho;obtain⟨rfl,HT,HQ,c0,cl⟩:=hn)
     | (go_at_call 27;(with_reducible refine(FN (x:=y) HQ.o HY.o).mono ?_);intro e w1 ho;have hn:=HQ.o.nx HT.o ho;clear HT HQ c0 cl ho;obtain⟨rfl,HT,HQ,c0,cl⟩:=hn))
    go_end0
    exact⟨rfl,HT.o,HQ.o.hv⟩
   | false=>
    have HF:=ι hq;clear hq;rw[ψ (by decide)];go_enter func29,ntmps29
    go_wp2_with(first
     | (go_at_call 62;refine(Z3 HQ.o x y HF.o).mono ?_;intro e w1 ho;have hn:=HQ.o.nx HT.o ho;clear HT HQ c0 cl ho;obtain⟨rfl,HT,HQ,c0,cl⟩:=hn)
     | (go_at_call 63;refine(ZS HQ.o x y).mono ?_;intro e w1 ho;have hn:=HQ.o.nx HT.o ho;clear HT HQ c0 cl ho;obtain⟨rfl,HT,HQ,c0,cl⟩:=hn)
     | (go_at_call 60;refine(HQ.o.hv.copy _ _).mono ?_;intro e w1 ho;have hn:=HQ.o.nx HT.o ho;clear HT HQ c0 cl ho;obtain⟨rfl,HT,HQ,c0,cl⟩:=hn)
     | (go_at_call 23;refine(HQ.o.hv.clr _).mono ?_;intro e w1 ho;have hn:=HQ.o.nx HT.o ho;clear HT HQ c0 cl ho;obtain⟨rfl,HT,HQ,c0,cl⟩:=hn)
     | (go_at_call 27;(with_reducible refine(FN (x:=x) HQ.o HX.o).mono ?_);intro e w1 ho;have hn:=HQ.o.nx HT.o ho;clear HT HQ c0 cl ho;obtain⟨rfl,HT,HQ,c0,cl⟩:=hn)
     | (go_at_call 27;(with_reducible refine(FN (x:=y) HQ.o HY.o).mono ?_);intro e w1 ho;have hn:=HQ.o.nx HT.o ho;clear HT HQ c0 cl ho;obtain⟨rfl,HT,HQ,c0,cl⟩:=hn))
    go_end0
    exact⟨rfl,HT.o,HQ.o.hv⟩
  ·rw[ψ hx];have HX:=ι (show (g.shE x==0)=false from ζG.2 hx);clear hx hy;go_enter func29,ntmps29
   go_wp2_with(first
    | (go_at_call 60;refine(HQ.o.hv.copy _ _).mono ?_;intro e w1 ho;have hn:=HQ.o.nx HT.o ho;clear HT HQ c0 cl ho;obtain⟨rfl,HT,HQ,c0,cl⟩:=hn)
    | (go_at_call 23;refine(HQ.o.hv.clr _).mono ?_;intro e w1 ho;have hn:=HQ.o.nx HT.o ho;clear HT HQ c0 cl ho;obtain⟨rfl,HT,HQ,c0,cl⟩:=hn)
    | (go_at_call 27;(with_reducible refine(FN (x:=x) HQ.o HX.o).mono ?_);intro e w1 ho;have hn:=HQ.o.nx HT.o ho;clear HT HQ c0 cl ho;obtain⟨rfl,HT,HQ,c0,cl⟩:=hn)
    | (go_at_call 27;(with_reducible refine(FN (x:=y) HQ.o HY.o).mono ?_);intro e w1 ho;have hn:=HQ.o.nx HT.o ho;clear HT HQ c0 cl ho;obtain⟨rfl,HT,HQ,c0,cl⟩:=hn))
   go_end0
   exact⟨rfl,HT.o,HQ.o.hv⟩
 ·rw[ψ hy];have HY:=ι (show (g.shE y==0)=false from ζG.2 hy);clear hy;go_enter func29,ntmps29
  go_wp2_with(first
   | (go_at_call 23;refine(HQ.o.hv.clr _).mono ?_;intro e w1 ho;have hn:=HQ.o.nx HT.o ho;clear HT HQ c0 cl ho;obtain⟨rfl,HT,HQ,c0,cl⟩:=hn)
   | (go_at_call 27;(with_reducible refine(FN (x:=y) HQ.o HY.o).mono ?_);intro e w1 ho;have hn:=HQ.o.nx HT.o ho;clear HT HQ c0 cl ho;obtain⟨rfl,HT,HQ,c0,cl⟩:=hn))
  go_end0
  exact⟨rfl,HT.o,HQ.o.hv⟩
theorem V1(h:BA w0 K c hb qb r a b t d s n g w)(x y:Nat):Calls prog 28 #[pP qb,iI x,iI y] w (HLo w0 K c hb w (.tuple #[]) (C7 s x y g)):=by
 have HQ:=ι h;have HT:=ι (AB.refl (hlT w0 K) w);have c0:w.cell? ⟨qb,0,none⟩=some (pP hb):=h.row.cc 0;have cl:=h.row.lt;clear h;unfold HLo;unfold C7;by_cases hy:(g.cpG x y).shE y=0
 ·rw[θ hy];have HY:=ι (show ((g.cpG x y).shE y==0)=true from ζ9.2 hy);clear hy;go_enter func28,ntmps28
  go_upto_region 3 with(first
   | (go_at_call 27;refine(FN HQ.o HY.o).mono ?_;intro e w1 ho;have hn:=HQ.o.nx HT.o ho;clear HT HQ c0 cl ho;obtain⟨rfl,HT,HQ,c0,cl⟩:=hn)
   | (go_at_call 60;refine(HQ.o.hv.copy _ _).mono ?_;intro e w1 ho;have hn:=HQ.o.nx HT.o ho;clear HT HQ c0 cl ho;obtain⟨rfl,HT,HQ,c0,cl⟩:=hn)
   | (go_at_call 25;refine(HQ.o.hv.load _ _ _).mono ?_;intro e w1 ho;have hn:=HQ.o.nx HT.o ho;clear HT HQ c0 cl ho;obtain⟨rfl,HT,HQ,c0,cl⟩:=hn))
  clear c0 cl;obtain⟨Sx,X,HS⟩:=AA.start λW'=>Rec W' qb 63 (quL hb r a b t d s n);have y0:∀p:AA Sx,p.w.cell? ⟨qb,0,none⟩=some (pP hb):=λp=>by have h:=AA.get X p;exact h.cc 0
  have y6:∀p:AA Sx,p.w.cell? ⟨qb,6,none⟩=some (iI s):=λp=>by have h:=AA.get X p;exact h.cc 6
  have Y:=HS.o _ (HQ.o.row.gr (Gr.refl _).drew);have Z:Inhabited (AA Sx):=⟨⟨_,Y⟩⟩;clear X;refine AW Sx 8 [([0,1,2,3,4,5,6,7],8)] [] Y ?_;refine AI ?_;go_wp2_with((go_at_call 23;refine((HQ.o.gr (Gr.refl _).drew).hv.clr _).mono ?_;intro e w1 ho;have hn:=(HQ.o.gr (Gr.refl _).drew).nx (HT.o.trans ((Gr.refl _).drew.touch _)) ho;clear HT HQ ho;obtain⟨rfl,HT,HQ,c0,cl⟩:=hn));refine⟨.inl trivial,?_⟩;refine BE ?_;clear y0 y6 Y Z;clear HS Sx;go_upto_region 4 with(fail);clear c0 cl;obtain⟨Sx,X,HS⟩:=AA.start λW'=>Rec W' qb 63 (quL hb r a b t d s n);have y0:∀p:AA Sx,p.w.cell? ⟨qb,0,none⟩=some (pP hb):=λp=>by have h:=AA.get X p;exact h.cc 0
  have y6:∀p:AA Sx,p.w.cell? ⟨qb,6,none⟩=some (iI s):=λp=>by have h:=AA.get X p;exact h.cc 6
  have Y:=HS.o _ (HQ.o.row.gr (Gr.refl _).drew);have Z:Inhabited (AA Sx):=⟨⟨_,Y⟩⟩;clear X;refine AW Sx 9 [([0,1,2,3,4,5,6,7,8],9)] [] Y ?_;refine AI ?_;go_wp2_with((go_at_call 59;refine((HQ.o.gr (Gr.refl _).drew).hv.stor _ _ _).mono ?_;intro e w1 ho;have hn:=(HQ.o.gr (Gr.refl _).drew).nx (HT.o.trans ((Gr.refl _).drew.touch _)) ho;clear HT HQ ho;obtain⟨rfl,HT,HQ,c0,cl⟩:=hn));refine⟨.inl trivial,?_⟩;refine BE ?_;clear y0 y6 Y Z;clear HS Sx;go_wp2
  go_end0
  exact⟨rfl,HT.o,HQ.o.hv⟩
 ·rw[ψ hy];have HY:=ι (show ((g.cpG x y).shE y==0)=false from ζG.2 hy);clear hy;go_enter func28,ntmps28
  go_wp2_with(first
   | (go_at_call 27;refine(FN HQ.o HY.o).mono ?_;intro e w1 ho;have hn:=HQ.o.nx HT.o ho;clear HT HQ c0 cl ho;obtain⟨rfl,HT,HQ,c0,cl⟩:=hn)
   | (go_at_call 60;refine(HQ.o.hv.copy _ _).mono ?_;intro e w1 ho;have hn:=HQ.o.nx HT.o ho;clear HT HQ c0 cl ho;obtain⟨rfl,HT,HQ,c0,cl⟩:=hn))
  first|go_end0|(refine ζK (ζk rfl _ _ _) rfl ?_)
  exact⟨rfl,HT.o,HQ.o.hv⟩
theorem YXv(x0 x1 x2 x3 x4:Nat)(hk:k<5)(V:World):(Instr.index 30 (.agg #[iI x0,iI x1,iI x2,iI x3,iI x4]) (iI k)).run prog V=.ok (iI ([x0,x1,x2,x3,x4].getD k 0:Nat)) V:=by
 rcases(by omega:k=0\/k=1\/k=2\/k=3\/k=4)with rfl|rfl|rfl|rfl|rfl <;> kernel_rfl
def M2(g:Gph)(l:List Nat):Gph:=l.foldl (λg (j:Nat)=>g.clG (j:Int)) g
theorem YSK(g:Gph)(l:List Nat)(hk:k<l.length):M2 g (l.take (k+1))=(M2 g (l.take k)).clG (l.getD k 0):=by
 unfold M2;rw[ζW hk,List.foldl_append,β,η hk];rfl
theorem WE(h:BA w0 K c hb qb r a b t d s n g w):Calls prog 24 #[pP qb] w (HLo w0 K c hb w (.tuple #[]) (GE a b t d s g)):=by
 have HQ:=ι h;have HT:=ι (AB.refl (hlT w0 K) w);have c0:w.cell? ⟨qb,0,none⟩=some (pP hb):=h.row.cc 0;have cl:=h.row.lt;have c2:w.cell? ⟨qb,2,none⟩=some (iI a):=h.row.cc 2;have c3:w.cell? ⟨qb,3,none⟩=some (iI b):=h.row.cc 3;have c4:w.cell? ⟨qb,4,none⟩=some (iI t):=h.row.cc 4;have c5:w.cell? ⟨qb,5,none⟩=some (iI d):=h.row.cc 5;have c6:w.cell? ⟨qb,6,none⟩=some (iI s):=h.row.cc 6;clear h;unfold HLo;rw[show GE a b t d s g=M2 g [a,b,t,d,s]from rfl];go_enter func24,ntmps24;go_wp2;go_quiet (fail);clear c2 c3 c4 c5 c6
 replace HQ:=ι (HQ.o.gr ((Gr.refl w).drewN nq))
 replace HT:=ι (HT.o.trans (((Gr.refl w).drewN nq).touch _))
 have Y:=ι (λk (hk:k<5) V=>YXv a b t d s hk V);go_wp2
 go_loopw [25] (λs25 wr=>∃k:Nat,k<=5/\s25=iI k/\Hid (BA w0 K c hb qb r a b t d s n (M2 g ([a,b,t,d,s].take k)) wr)/\Hid (AB (hlT w0 K) w wr)) (λs25 _=>5-(intOf s25).toNat)
 case atStart=>exact⟨0,by omega,rfl,HQ,HT⟩
 case round=>
  clear HQ HT c0 cl;obtain⟨k,hk,rfl,HQ,HT⟩:=hrel;have c0:wr.cell? ⟨qb,0,none⟩=some (pP hb):=HQ.o.row.cc 0;have cl:=HQ.o.row.lt;by_cases X:k<5
  ·have hkI:(k:Int)<5:=Ω
   have Z:=Y.o k X;have HS:=ι (YSK g [a,b,t,d,s] (k:=k) X);generalize [a,b,t,d,s].getD k 0=j at Z HS;clear hk X;go_wp2_with(go_at_call 23;refine(HQ.o.hv.clr _).mono ?_;intro e w1 ho;have hn:=HQ.o.nx HT.o ho;clear HT HQ c0 cl ho;obtain⟨rfl,HT,HQ,c0,cl⟩:=hn);rw[<-HS.o]at HQ;go_round
   case rel=>exact⟨k+1,by omega,by go_num,HQ,HT⟩
   case measure=>simp[intOf];omega
  ·obtain rfl:k=5:=Ω
   clear X hk;go_wp2
   go_end0
   exact⟨rfl,HT.o,HQ.o.hv⟩
end
section
variable{t:Nat}{T D R:BT}
theorem BA.cnt(h:BA w0 K c hb qb r a b t d s n g w)(n':Nat):BA w0 K c hb qb r a b t d s n' g (w.setCell ⟨qb,7,none⟩ (.int .i64 n')):=by
 have t1:=(AB.refl (λk=>k=qb) w).setCell (a:=⟨qb,7,none⟩) (λ_=>rfl) (iI n');exact⟨h.hv.touch (t1.mono (λk _ e=>by rw[e];exact⟨h.kl,h.ql⟩)) h.tb,h.row.set 7 _,h.kl,h.ql,h.tb⟩
theorem JmJ(h:BA w0 K c hb qb r a b t d s n g w)(hp:PrG g r a b t d s T D):Calls prog 26 #[pP qb] w λe w'=>∃g' D',PrG g' r a b t d s .nil D'/\D'.its.Perm (T.its++D.its)/\HLo w0 K c hb w (.tuple #[]) g' e w':=by
 have HQ:=ι h;have HT:=ι (AB.refl (hlT w0 K) w);have c0:w.cell? ⟨qb,0,none⟩=some (pP hb):=h.row.cc 0;have cl:=h.row.lt;clear h;have HP:=ι hp;have HI:=ι (List.Perm.refl (T.its++D.its));clear hp;go_enter func26,ntmps26;go_wp2
 go_loopg [] T.ids.length (λm wr=>∃(g1:Gph) (T1 D1:BT),Hid (T1.ids.length=m)/\Hid (BA w0 K c hb qb r a b t d s n g1 wr)/\Hid (AB (hlT w0 K) w wr)/\Hid (PrG g1 r a b t d s T1 D1)/\Hid ((T1.its++D1.its).Perm (T.its++D.its)))
 case atStart=>exact⟨g,T,D,⟨rfl⟩,HQ,HT,HP,HI⟩
 case round=>
  clear HQ HT HP HI c0 cl;obtain⟨g1,T1,D1,HN,HQ,HT,HP,HI⟩:=hrel;have c0:wr.cell? ⟨qb,0,none⟩=some (pP hb):=HQ.o.row.cc 0;have c4:wr.cell? ⟨qb,4,none⟩=some (iI t):=HQ.o.row.cc 4;have cl:=HQ.o.row.lt;have J:=KB (HP.o.q.lt t (by simp));by_cases hz:g1.sv t=0
  ·rw[hz,θ rfl]at J;have HS:=ι (show (g1.shE t==0)=false by rw[J];rfl);have HE:=ι (HP.o.t.rep.top0.1 (HP.o.t.sv.symm.trans hz));clear hz J;go_wp2_with(go_at_call 27;(with_reducible refine(FN (x:=t) HQ.o HS.o).mono ?_);intro e w1 ho;have hn:=HQ.o.nx HT.o ho;clear HT HQ c0 cl ho c4;obtain⟨rfl,HT,HQ,c0,cl⟩:=hn)
   first|go_end0|(refine ζK (ζk rfl _ _ _) rfl ?_)
   have hp:=HP.o;have hi:=HI.o;rw[HE.o]at hp hi;exact⟨g1,D1,hp,hi,rfl,HT.o,HQ.o.hv⟩
  ·rw[ψ hz]at J;have HS:=ι (show (g1.shE t==0)=true by rw[J];rfl)
   have U:Hid (∃T2 D2,T2.ids.length<gk/\PrG (QJ a b t d s g1) r a b t d s T2 D2/\(T2.its++D2.its).Perm (T.its++D.its)):=⟨by
    obtain⟨T2,D2,q1,q2,q3,q4,q5⟩:=HP.o.step hz
    exact⟨T2,D2,by rw[<-HN.o];exact q1,q2,q4.trans HI.o⟩⟩
   clear hz J HP HI HN;go_upto_region 1 with(go_at_call 27;(with_reducible refine(FN (x:=t) HQ.o HS.o).mono ?_);intro e w1 ho;have hn:=HQ.o.nx HT.o ho;clear HT HQ c0 cl ho c4;obtain⟨rfl,HT,HQ,c0,cl⟩:=hn);clear c0 cl;obtain⟨Sx,X,HS⟩:=AA.start λW'=>Rec W' qb 63 (quL hb r a b t d s n);have y2:∀p:AA Sx,p.w.cell? ⟨qb,2,none⟩=some (iI a):=λp=>by have h:=AA.get X p;exact h.cc 2
   have y4:∀p:AA Sx,p.w.cell? ⟨qb,4,none⟩=some (iI t):=λp=>by have h:=AA.get X p;exact h.cc 4
   have Y:=HS.o _ (HQ.o.row.gr (Gr.refl _).drew);have Z:Inhabited (AA Sx):=⟨⟨_,Y⟩⟩;clear X;refine AW Sx 9 [([0,1,2,3,4,5,6,7,8],9)] [] Y ?_;refine AI ?_;go_wp2_with((go_at_call 28;refine(V1 (HQ.o.gr (Gr.refl _).drew) a t).mono ?_;intro e w1 ho;have hn:=(HQ.o.gr (Gr.refl _).drew).nx (HT.o.trans ((Gr.refl _).drew.touch _)) ho;clear HT HQ ho;obtain⟨rfl,HT,HQ,c0,cl⟩:=hn));refine⟨.inl trivial,?_⟩;refine BE ?_;clear y2 y4 Y Z;clear HS Sx;go_upto_region 2 with(fail);clear c0 cl;obtain⟨Sx,X,HS⟩:=AA.start λW'=>Rec W' qb 63 (quL hb r a b t d s n);have y3:∀p:AA Sx,p.w.cell? ⟨qb,3,none⟩=some (iI b):=λp=>by have h:=AA.get X p;exact h.cc 3
   have y4:∀p:AA Sx,p.w.cell? ⟨qb,4,none⟩=some (iI t):=λp=>by have h:=AA.get X p;exact h.cc 4
   have Y:=HS.o _ (HQ.o.row.gr (Gr.refl _).drew);have Z:Inhabited (AA Sx):=⟨⟨_,Y⟩⟩;clear X;refine AW Sx 9 [([0,1,2,3,4,5,6,7,8],9)] [] Y ?_;refine AI ?_;go_wp2_with((go_at_call 28;refine(V1 (HQ.o.gr (Gr.refl _).drew) b t).mono ?_;intro e w1 ho;have hn:=(HQ.o.gr (Gr.refl _).drew).nx (HT.o.trans ((Gr.refl _).drew.touch _)) ho;clear HT HQ ho;obtain⟨rfl,HT,HQ,c0,cl⟩:=hn));refine⟨.inl trivial,?_⟩;refine BE ?_;clear y3 y4 Y Z;clear HS Sx;go_upto_region 3 with(fail);clear c0 cl;obtain⟨Sx,X,HS⟩:=AA.start λW'=>Rec W' qb 63 (quL hb r a b t d s n);have y2:∀p:AA Sx,p.w.cell? ⟨qb,2,none⟩=some (iI a):=λp=>by have h:=AA.get X p;exact h.cc 2
   have y3:∀p:AA Sx,p.w.cell? ⟨qb,3,none⟩=some (iI b):=λp=>by have h:=AA.get X p;exact h.cc 3
   have Y:=HS.o _ (HQ.o.row.gr (Gr.refl _).drew);have Z:Inhabited (AA Sx):=⟨⟨_,Y⟩⟩;clear X;refine AW Sx 9 [([0,1,2,3,4,5,6,7,8],9)] [] Y ?_;refine AI ?_;go_wp2_with((go_at_call 29;refine(S9 (HQ.o.gr (Gr.refl _).drew) a b).mono ?_;intro e w1 ho;have hn:=(HQ.o.gr (Gr.refl _).drew).nx (HT.o.trans ((Gr.refl _).drew.touch _)) ho;clear HT HQ ho;obtain⟨rfl,HT,HQ,c0,cl⟩:=hn));refine⟨.inl trivial,?_⟩;refine BE ?_;clear y2 y3 Y Z;clear HS Sx;go_upto_region 4 with(fail);clear c0 cl;obtain⟨Sx,X,HS⟩:=AA.start λW'=>Rec W' qb 63 (quL hb r a b t d s n);have y0:∀p:AA Sx,p.w.cell? ⟨qb,0,none⟩=some (pP hb):=λp=>by have h:=AA.get X p;exact h.cc 0
   have y2:∀p:AA Sx,p.w.cell? ⟨qb,2,none⟩=some (iI a):=λp=>by have h:=AA.get X p;exact h.cc 2
   have y5:∀p:AA Sx,p.w.cell? ⟨qb,5,none⟩=some (iI d):=λp=>by have h:=AA.get X p;exact h.cc 5
   have Y:=HS.o _ (HQ.o.row.gr (Gr.refl _).drew);have Z:Inhabited (AA Sx):=⟨⟨_,Y⟩⟩;clear X;refine AW Sx 12 [([0,1,2,3,4,5,6,7,8,9,10,11],12)] [] Y ?_;refine AI ?_;go_wp2_with((go_at_call 59;refine((HQ.o.gr (Gr.refl _).drew).hv.stor _ _ _).mono ?_;intro e w1 ho;have hn:=(HQ.o.gr (Gr.refl _).drew).nx (HT.o.trans ((Gr.refl _).drew.touch _)) ho;clear HT HQ ho;obtain⟨rfl,HT,HQ,c0,cl⟩:=hn));refine⟨.inl trivial,?_⟩;refine BE ?_;clear y0 y2 y5 Y Z;clear HS Sx;go_upto_region 5 with(fail);clear c0 cl;obtain⟨Sx,X,HS⟩:=AA.start λW'=>Rec W' qb 63 (quL hb r a b t d s n);have y0:∀p:AA Sx,p.w.cell? ⟨qb,0,none⟩=some (pP hb):=λp=>by have h:=AA.get X p;exact h.cc 0
   have y2:∀p:AA Sx,p.w.cell? ⟨qb,2,none⟩=some (iI a):=λp=>by have h:=AA.get X p;exact h.cc 2
   have y5:∀p:AA Sx,p.w.cell? ⟨qb,5,none⟩=some (iI d):=λp=>by have h:=AA.get X p;exact h.cc 5
   have Y:=HS.o _ (HQ.o.row.gr (Gr.refl _).drew);have Z:Inhabited (AA Sx):=⟨⟨_,Y⟩⟩;clear X;refine AW Sx 12 [([0,1,2,3,4,5,6,7,8,9,10,11],12)] [] Y ?_;refine AI ?_;go_wp2_with((go_at_call 60;refine((HQ.o.gr (Gr.refl _).drew).hv.copy _ _).mono ?_;intro e w1 ho;have hn:=(HQ.o.gr (Gr.refl _).drew).nx (HT.o.trans ((Gr.refl _).drew.touch _)) ho;clear HT HQ ho;obtain⟨rfl,HT,HQ,c0,cl⟩:=hn));refine⟨.inl trivial,?_⟩;refine BE ?_;clear y0 y2 y5 Y Z;clear HS Sx;go_wp2;obtain⟨T2,D2,V,hp,hi⟩:=U.o
   go_roundg T2.ids.length
   case measure=>exact V
   case rel=>exact⟨_,T2,D2,⟨rfl⟩,HQ,HT,⟨hp⟩,⟨hi⟩⟩
theorem Y7Q(h:BA w0 K c hb qb r a b t d s n g w)(hx:x<18446744073709551616)(hy:y<18446744073709551616)(hn:n<=1000000)(he:g.alE c.wd a ⟨2,1,1⟩=0):Calls prog 9 #[pP qb,.float .f64 x,uU y] w λe w'=>e=.returned (iI 0)/\AB (λk=>hlT w0 K k\/k=qb) w w'/\BA w0 K c hb qb r a b t d s (n+1) (GE a b t d s (E9 s r a (SZ a c.wd x y g))) w':=by
 have HQ:=ι h;have HT:=ι (AB.refl (hlT w0 K) w);have c0:w.cell? ⟨qb,0,none⟩=some (pP hb):=h.row.cc 0;have cl:=h.row.lt;clear h;have HX:=ι hx;have HY:=ι hy;have J:=ι (λ(V:World) (hV:BA w0 K c hb qb r a b t d s n g V)=>hV.hv.allo a ⟨2,1,1⟩);unfold AJ at J;dsimp only at J;rw[he]at J;clear he hx hy;go_enter func9,ntmps9;go_upto_region 3 with(go_at_call 30;refine AM (PH HQ.o) ?_);clear c0 cl;obtain⟨Sx,X,HS⟩:=AA.start λW'=>Rec W' qb 63 (quL hb r a b t d s n);have y0:∀p:AA Sx,p.w.cell? ⟨qb,0,none⟩=some (pP hb):=λp=>by have h:=AA.get X p;exact h.cc 0
 have y2:∀p:AA Sx,p.w.cell? ⟨qb,2,none⟩=some (iI a):=λp=>by have h:=AA.get X p;exact h.cc 2
 have Y:=HS.o _ (HQ.o.row.gr (Gr.refl _).drew);have Z:Inhabited (AA Sx):=⟨⟨_,Y⟩⟩;clear X;refine AW Sx 11 [([0,1,2,3,4,5,6,7,8],9)] [10] Y ?_;refine AI ?_;go_wp2_with((go_at_call 32;refine(J.o _ (HQ.o.gr (Gr.refl _).drew)).mono ?_;intro e w1 ho;have hn:=(HQ.o.gr (Gr.refl _).drew).nx (HT.o.trans ((Gr.refl _).drew.touch _)) ho;clear HT HQ ho;obtain⟨rfl,HT,HQ,c0,cl⟩:=hn));refine⟨.inr (AA.of (HS.o _ (HQ.o.row))),?_⟩;refine BE ?_;clear y0 y2 Y Z;clear HS Sx;go_upto_region 6 with(fail);clear c0 cl;obtain⟨Sx,X,HS⟩:=AA.start λW'=>Rec W' qb 63 (quL hb r a b t d s n);have y0:∀p:AA Sx,p.w.cell? ⟨qb,0,none⟩=some (pP hb):=λp=>by have h:=AA.get X p;exact h.cc 0
 have y2:∀p:AA Sx,p.w.cell? ⟨qb,2,none⟩=some (iI a):=λp=>by have h:=AA.get X p;exact h.cc 2
 have Y:=HS.o _ (HQ.o.row.gr (Gr.refl _).drew);have Z:Inhabited (AA Sx):=⟨⟨_,Y⟩⟩;clear X;refine AW Sx 9 [([0,1,2,3,4,5,6,7,8],9)] [] Y ?_;refine AI ?_;go_wp2_with((go_at_call 33;refine((HQ.o.gr (Gr.refl _).drew).hv.setF _ _ HX.o).mono ?_;intro e w1 ho;have hn:=(HQ.o.gr (Gr.refl _).drew).nx (HT.o.trans ((Gr.refl _).drew.touch _)) ho;clear HT HQ ho;obtain⟨rfl,HT,HQ,c0,cl⟩:=hn));refine⟨.inl trivial,?_⟩;refine BE ?_;clear y0 y2 Y Z;clear HS Sx;go_upto_region 7 with(fail);clear c0 cl;obtain⟨Sx,X,HS⟩:=AA.start λW'=>Rec W' qb 63 (quL hb r a b t d s n);have y0:∀p:AA Sx,p.w.cell? ⟨qb,0,none⟩=some (pP hb):=λp=>by have h:=AA.get X p;exact h.cc 0
 have y2:∀p:AA Sx,p.w.cell? ⟨qb,2,none⟩=some (iI a):=λp=>by have h:=AA.get X p;exact h.cc 2
 have Y:=HS.o _ (HQ.o.row.gr (Gr.refl _).drew);have Z:Inhabited (AA Sx):=⟨⟨_,Y⟩⟩;clear X;refine AW Sx 9 [([0,1,2,3,4,5,6,7,8],9)] [] Y ?_;refine AI ?_;go_wp2_with((go_at_call 34;refine((HQ.o.gr (Gr.refl _).drew).hv.setW _ _ HY.o).mono ?_;intro e w1 ho;have hn:=(HQ.o.gr (Gr.refl _).drew).nx (HT.o.trans ((Gr.refl _).drew.touch _)) ho;clear HT HQ ho;obtain⟨rfl,HT,HQ,c0,cl⟩:=hn));refine⟨.inl trivial,?_⟩;refine BE ?_;clear y0 y2 Y Z;clear HS Sx;go_upto_region 8 with(fail);clear c0 cl;obtain⟨Sx,X,HS⟩:=AA.start λW'=>Rec W' qb 63 (quL hb r a b t d s n);have y1:∀p:AA Sx,p.w.cell? ⟨qb,1,none⟩=some (iI r):=λp=>by have h:=AA.get X p;exact h.cc 1
 have y2:∀p:AA Sx,p.w.cell? ⟨qb,2,none⟩=some (iI a):=λp=>by have h:=AA.get X p;exact h.cc 2
 have Y:=HS.o _ (HQ.o.row.gr (Gr.refl _).drew);have Z:Inhabited (AA Sx):=⟨⟨_,Y⟩⟩;clear X;refine AW Sx 9 [([0,1,2,3,4,5,6,7,8],9)] [] Y ?_;refine AI ?_;go_wp2_with((go_at_call 29;refine(S9 (HQ.o.gr (Gr.refl _).drew) r a).mono ?_;intro e w1 ho;have hn:=(HQ.o.gr (Gr.refl _).drew).nx (HT.o.trans ((Gr.refl _).drew.touch _)) ho;clear HT HQ ho;obtain⟨rfl,HT,HQ,c0,cl⟩:=hn));refine⟨.inl trivial,?_⟩;refine BE ?_;clear y1 y2 Y Z;clear HS Sx;go_upto_region 10 with(go_at_call 24;refine(WE HQ.o).mono ?_;intro e w1 ho;have hn:=HQ.o.nx HT.o ho;clear HT HQ c0 cl ho;obtain⟨rfl,HT,HQ,c0,cl⟩:=hn);have c7:w1.cell? ⟨qb,7,none⟩=some (iI n):=HQ.o.row.cc 7;have cf:=HQ.o.row.free 7;go_wp2;go_ret;have e7:((n:Int)+1)=((n+1:Nat):Int):=Ω
 exact⟨rfl,HT.o.mono (λ_ _ h=>.inl h) |>.trans ((AB.refl (λk=>hlT w0 K k\/k=qb) w1).setCell (a:=⟨qb,7,none⟩) (λ_=>.inr rfl) _),by rw[e7];exact HQ.o.cnt (n+1)⟩
theorem QMN(h:BA w0 K c hb qb r a b t d s n g w)(hx:x<18446744073709551616)(hy:y<18446744073709551616)(he:¬g.alE c.wd a ⟨2,1,1⟩=0):Calls prog 9 #[pP qb,.float .f64 x,uU y] w λe w'=>e=.returned (iI (g.alE c.wd a ⟨2,1,1⟩))/\AB (hlT w0 K) w w'/\BA w0 K c hb qb r a b t d s n g w':=by
 have HQ:=ι h;have HT:=ι (AB.refl (hlT w0 K) w);have c0:w.cell? ⟨qb,0,none⟩=some (pP hb):=h.row.cc 0;have cl:=h.row.lt;clear h;have HX:=ι hx;have HY:=ι hy;have X:=ι (λ(V:World) (hV:BA w0 K c hb qb r a b t d s n g V)=>hV.hv.allo a ⟨2,1,1⟩);unfold AJ at X;dsimp only at X;have J:Hid (g.alG c.wd a ⟨2,1,1⟩=g):=⟨by unfold Gph.alG;rw[ψ he]⟩;rw[J.o]at X;have d0:(g.alE c.wd a ⟨2,1,1⟩ !=0)=true:=by rw[ψg];exact he
 generalize g.alE c.wd a ⟨2,1,1⟩=E at X d0⊢;clear he hx hy J;go_enter func9,ntmps9;go_upto_region 3 with(go_at_call 30;refine AM (PH HQ.o) ?_);clear c0 cl;obtain⟨Sx,Y,HS⟩:=AA.start λW'=>Rec W' qb 63 (quL hb r a b t d s n);have y0:∀p:AA Sx,p.w.cell? ⟨qb,0,none⟩=some (pP hb):=λp=>by have h:=AA.get Y p;exact h.cc 0
 have y2:∀p:AA Sx,p.w.cell? ⟨qb,2,none⟩=some (iI a):=λp=>by have h:=AA.get Y p;exact h.cc 2
 have Z:=HS.o _ (HQ.o.row.gr (Gr.refl _).drew);have U:Inhabited (AA Sx):=⟨⟨_,Z⟩⟩;clear Y;refine AW Sx 11 [([0,1,2,3,4,5,6,7,8],9)] [10] Z ?_;refine AI ?_;go_wp2_with((go_at_call 32;refine(X.o _ (HQ.o.gr (Gr.refl _).drew)).mono ?_;intro e w1 ho;have hn:=(HQ.o.gr (Gr.refl _).drew).nx (HT.o.trans ((Gr.refl _).drew.touch _)) ho;clear HT HQ ho;obtain⟨rfl,HT,HQ,c0,cl⟩:=hn));refine⟨.inr (AA.of (HS.o _ (HQ.o.row))),?_⟩;refine BE ?_;clear y0 y2 Z U;clear HS Sx;go_wp2;go_ret;exact⟨rfl,HT.o,HQ.o⟩
theorem VPx(h:BA w0 K c hb qb r a b t d s n g w):cQ 11 #[pP qb] w (iI n):=by
 have HQ:=ι h;have c7:w.cell? ⟨qb,7,none⟩=some (iI n):=h.row.cc 7;have cl:=h.row.lt;clear h;go_enter func11,ntmps11;go_wp2_with(go_at_call 30;refine AM (PH HQ.o) ?_);go_ret;exact⟨rfl,rfl⟩
theorem QnW(h:BA w0 K c hb qb r a b t d s n g w)(hn:n≠0):Calls prog 8 #[pP qb] w (HLo w0 K c hb w (.tuple #[.float .f64 (g.fdV r 2 2),uU (g.fdV r 3 3:Nat),iI 0]) (g)):=by
 have HQ:=ι h;have HT:=ι (AB.refl (hlT w0 K) w);have c0:w.cell? ⟨qb,0,none⟩=some (pP hb):=h.row.cc 0;have cl:=h.row.lt;have c1:w.cell? ⟨qb,1,none⟩=some (iI r):=h.row.cc 1;have c7:w.cell? ⟨qb,7,none⟩=some (iI n):=h.row.cc 7;clear h;unfold HLo;have d0:((n:Int)==0)=false:=by rw[ζG];omega
 have X:=ι (λ(V:World) (hV:BA w0 K c hb qb r a b t d s n g V)=>ST hV r);generalize g.fdV r 3 3=u at X⊢;generalize g.fdV r 2 2=y at X⊢;clear hn;go_enter func8,ntmps8
 go_wp2_with(first
  | (go_at_call 30;refine AM (PH HQ.o) ?_)
  | (go_at_call 31;(with_reducible refine(X.o _ HQ.o).mono ?_);intro e w1 ho;have hn:=HQ.o.nx HT.o ho;clear HT HQ c0 cl ho c1 c7;obtain⟨rfl,HT,HQ,c0,cl⟩:=hn))
 go_ret3
 exact⟨rfl,HT.o,HQ.o.hv⟩
theorem YLH(h:BA w0 K c hb qb r a b t d s (n+1) g w){k:BT}(hn:n<=1000000)(hq:FZ g r a b t d s (.node x f u k .nil)):Calls prog 7 #[pP qb] w λe w'=>∃g' R',e=.returned (.tuple #[.float .f64 f,uU u,iI 0])/\AB (λk=>hlT w0 K k\/k=qb) w w'/\BA w0 K c hb qb r a b t d s n g' w'/\FZ g' r a b t d s R'/\R'.its.Perm k.its:=by
 have HQ:=ι h;have HT:=ι (AB.refl (hlT w0 K) w);have c0:w.cell? ⟨qb,0,none⟩=some (pP hb):=h.row.cc 0;have cl:=h.row.lt;clear h;obtain⟨-,q2,q3,hp⟩:=hq.popped;have U:=ι (λ(V:World) (hV:BA w0 K c hb qb r a b t d s (n+1) g V)=>QnW hV Ω);rw[q2,q3]at U;have HP:=ι hp;clear hq q2 q3 hp;go_enter func7,ntmps7;go_upto_region 4 with(go_at_call 8;refine(U.o _ HQ.o).mono ?_;intro e w1 ho;have hn:=HQ.o.nx HT.o ho;clear HT HQ c0 cl ho;obtain⟨rfl,HT,HQ,c0,cl⟩:=hn);clear c0 cl;obtain⟨Sx,X,HS⟩:=AA.start λW'=>Rec W' qb 63 (quL hb r a b t d s (n+1));have y0:∀p:AA Sx,p.w.cell? ⟨qb,0,none⟩=some (pP hb):=λp=>by have h:=AA.get X p;exact h.cc 0
 have y4:∀p:AA Sx,p.w.cell? ⟨qb,4,none⟩=some (iI t):=λp=>by have h:=AA.get X p;exact h.cc 4
 have y1:∀p:AA Sx,p.w.cell? ⟨qb,1,none⟩=some (iI r):=λp=>by have h:=AA.get X p;exact h.cc 1
 have Y:=HS.o _ (HQ.o.row.gr (Gr.refl _).drew);have Z:Inhabited (AA Sx):=⟨⟨_,Y⟩⟩;clear X;refine AW Sx 12 [([0,1,2,3,4,5,6,7,8,9,10,11],12)] [] Y ?_;refine AI ?_;go_wp2_with((go_at_call 25;refine((HQ.o.gr (Gr.refl _).drew).hv.load _ _ _).mono ?_;intro e w1 ho;have hn:=(HQ.o.gr (Gr.refl _).drew).nx (HT.o.trans ((Gr.refl _).drew.touch _)) ho;clear HT HQ ho;obtain⟨rfl,HT,HQ,c0,cl⟩:=hn));refine⟨.inl trivial,?_⟩;refine BE ?_;clear y0 y4 y1 Y Z;clear HS Sx;have N:=ι (JmJ HQ.o HP.o);clear HP U;go_upto_region 6 with(go_at_call 26;refine N.o.mono ?_;rintro e w2 ⟨g2,D2,hp,hi,ho⟩;have hn:=HQ.o.nx HT.o ho;clear HT HQ c0 cl ho N;obtain⟨rfl,HT,HQ,c0,cl⟩:=hn;have HP:=ι hp;have HI:=ι hi;clear hp hi);clear c0 cl;obtain⟨Sx,X,HS⟩:=AA.start λW'=>Rec W' qb 63 (quL hb r a b t d s (n+1));have y0:∀p:AA Sx,p.w.cell? ⟨qb,0,none⟩=some (pP hb):=λp=>by have h:=AA.get X p;exact h.cc 0
 have y1:∀p:AA Sx,p.w.cell? ⟨qb,1,none⟩=some (iI r):=λp=>by have h:=AA.get X p;exact h.cc 1
 have Y:=HS.o _ (HQ.o.row.gr (Gr.refl _).drew);have Z:Inhabited (AA Sx):=⟨⟨_,Y⟩⟩;clear X;refine AW Sx 8 [([0,1,2,3,4,5,6,7],8)] [] Y ?_;refine AI ?_;go_wp2_with((go_at_call 23;refine((HQ.o.gr (Gr.refl _).drew).hv.clr _).mono ?_;intro e w1 ho;have hn:=(HQ.o.gr (Gr.refl _).drew).nx (HT.o.trans ((Gr.refl _).drew.touch _)) ho;clear HT HQ ho;obtain⟨rfl,HT,HQ,c0,cl⟩:=hn));refine⟨.inl trivial,?_⟩;refine BE ?_;clear y0 y1 Y Z;clear HS Sx;have I:Hid (DrG (g2.clG r) r a b t d s .nil D2):=⟨(HP.o.drained (HP.o.t.sv)).2⟩;have O:Hid ((BT.nil.its++D2.its).Perm k.its):=⟨by have:=HI.o;simpa[BT.its]using this⟩;clear HP HI;go_wp2
 go_loopg [] D2.ids.length (λm wr=>∃(g1:Gph) (R1 D1:BT),Hid (D1.ids.length=m)/\Hid (BA w0 K c hb qb r a b t d s (n+1) g1 wr)/\Hid (AB (hlT w0 K) w wr)/\Hid (DrG g1 r a b t d s R1 D1)/\Hid ((R1.its++D1.its).Perm k.its))
 case atStart=>exact⟨_,.nil,D2,⟨rfl⟩,HQ,HT,I,O⟩
 case round=>
  clear HQ HT I O c0 cl;obtain⟨g1,R1,D1,HN,HQ,HT,HP,HI⟩:=hrel;have c0:wr.cell? ⟨qb,0,none⟩=some (pP hb):=HQ.o.row.cc 0;have c5:wr.cell? ⟨qb,5,none⟩=some (iI d):=HQ.o.row.cc 5;have cl:=HQ.o.row.lt;have J:=KB (HP.o.q.lt d (by simp));by_cases hz:g1.sv d=0
  ·rw[hz,θ rfl]at J;have HS:=ι (show (g1.shE d==0)=false by rw[J];rfl);have HE:=ι (HP.o.rest hz);clear hz J
   go_upto_region 11 with(first
    | (go_at_call 27;(with_reducible refine(FN (x:=d) HQ.o HS.o).mono ?_);intro e w1 ho;have hn:=HQ.o.nx HT.o ho;clear HT HQ c0 cl ho c5;obtain⟨rfl,HT,HQ,c0,cl⟩:=hn)
    | (go_at_call 24;refine(WE HQ.o).mono ?_;intro e w1 ho;have hn:=HQ.o.nx HT.o ho;clear HT HQ c0 cl ho;obtain⟨rfl,HT,HQ,c0,cl⟩:=hn))
   have c7:w1.cell? ⟨qb,7,none⟩=some (iI (n+1:Nat)):=HQ.o.row.cc 7;have cf:=HQ.o.row.free 7;have e7:(((n+1:Nat):Int)-1)=(n:Int):=Ω
   go_wp2
   go_ret3
   refine⟨_,R1,rfl,HT.o.mono (λ_ _ h=>.inl h) |>.trans ((AB.refl (λk=>hlT w0 K k\/k=qb) w1).setCell (a:=⟨qb,7,none⟩) (λ_=>.inr rfl) _),?_,HE.o.1,?_⟩
   ·exact HQ.o.cnt n
   ·have:=HI.o;rw[HE.o.2]at this;simpa[BT.its]using this
  ·rw[ψ hz]at J;have HS:=ι (show (g1.shE d==0)=true by rw[J];rfl)
   have E:Hid (∃R2 D3,D3.ids.length<gk/\DrG (S8 r a d s g1) r a b t d s R2 D3/\(R2.its++D3.its).Perm k.its):=⟨by
    obtain⟨T2,D2,q1,q2,q3⟩:=HP.o.step hz
    exact⟨T2,D2,by rw[<-HN.o];exact q1,q2,q3.trans HI.o⟩⟩
   clear hz J HP HI HN;go_upto_region 8 with(go_at_call 27;(with_reducible refine(FN (x:=d) HQ.o HS.o).mono ?_);intro e w1 ho;have hn:=HQ.o.nx HT.o ho;clear HT HQ c0 cl ho c5;obtain⟨rfl,HT,HQ,c0,cl⟩:=hn);clear c0 cl;obtain⟨Sx,X,HS⟩:=AA.start λW'=>Rec W' qb 63 (quL hb r a b t d s (n+1));have y2:∀p:AA Sx,p.w.cell? ⟨qb,2,none⟩=some (iI a):=λp=>by have h:=AA.get X p;exact h.cc 2
   have y5:∀p:AA Sx,p.w.cell? ⟨qb,5,none⟩=some (iI d):=λp=>by have h:=AA.get X p;exact h.cc 5
   have Y:=HS.o _ (HQ.o.row.gr (Gr.refl _).drew);have Z:Inhabited (AA Sx):=⟨⟨_,Y⟩⟩;clear X;refine AW Sx 9 [([0,1,2,3,4,5,6,7,8],9)] [] Y ?_;refine AI ?_;go_wp2_with((go_at_call 28;refine(V1 (HQ.o.gr (Gr.refl _).drew) a d).mono ?_;intro e w1 ho;have hn:=(HQ.o.gr (Gr.refl _).drew).nx (HT.o.trans ((Gr.refl _).drew.touch _)) ho;clear HT HQ ho;obtain⟨rfl,HT,HQ,c0,cl⟩:=hn));refine⟨.inl trivial,?_⟩;refine BE ?_;clear y2 y5 Y Z;clear HS Sx;go_upto_region 9 with(fail);clear c0 cl;obtain⟨Sx,X,HS⟩:=AA.start λW'=>Rec W' qb 63 (quL hb r a b t d s (n+1));have y1:∀p:AA Sx,p.w.cell? ⟨qb,1,none⟩=some (iI r):=λp=>by have h:=AA.get X p;exact h.cc 1
   have y2:∀p:AA Sx,p.w.cell? ⟨qb,2,none⟩=some (iI a):=λp=>by have h:=AA.get X p;exact h.cc 2
   have Y:=HS.o _ (HQ.o.row.gr (Gr.refl _).drew);have Z:Inhabited (AA Sx):=⟨⟨_,Y⟩⟩;clear X;refine AW Sx 9 [([0,1,2,3,4,5,6,7,8],9)] [] Y ?_;refine AI ?_;go_wp2_with((go_at_call 29;refine(S9 (HQ.o.gr (Gr.refl _).drew) r a).mono ?_;intro e w1 ho;have hn:=(HQ.o.gr (Gr.refl _).drew).nx (HT.o.trans ((Gr.refl _).drew.touch _)) ho;clear HT HQ ho;obtain⟨rfl,HT,HQ,c0,cl⟩:=hn));refine⟨.inl trivial,?_⟩;refine BE ?_;clear y1 y2 Y Z;clear HS Sx;go_wp2;obtain⟨T2,D3,L,hp,hi⟩:=E.o
   go_roundg D3.ids.length
   case measure=>exact L
   case rel=>exact⟨_,T2,D3,⟨rfl⟩,HQ,HT,⟨hp⟩,⟨hi⟩⟩
end
section
variable{s:HSt}
theorem VIO(h:HIn w c g s):Calls prog 22 #[pP s.A.hp] w λe w'=>e=.returned (GS c)/\Gr w w':=by
 have E:=(λ(V:World) (gV:Gr w V)=>G4 (h.gr gV));have hsf:=ZM;have J:=h.com.row;unfold hpL at J;obtain⟨w2,Z⟩:∃w2,w2=w.alloc (.cells #[.int .i64 0,.int .i64 0,.int .i64 0,.int .i64 0,.int .i64 0,.int .i64 0,.int .i64 0,.float .f64 0] 40):=⟨_,rfl⟩;have Y:Rec w2 w.heap.size 40 [iI 0,iI 0,iI 0,iI 0,iI 0,iI 0,iI 0,.float .f64 0]:=by rw[Z];exact Rec.new w 40 [iI 0,iI 0,iI 0,iI 0,iI 0,iI 0,iI 0,.float .f64 0]
 have U:Gr w w2:=by rw[Z];exact(Gr.refl w).alloc _
 have X:=J.gr U;have N:=(E _ U);have I:=Y;have O:=U;obtain⟨k0,k1,k2,k3,k4,k5,k6,k7,kl⟩:=X.k8;have z0:=Y.cc 0;have z1:=Y.cc 1;have z2:=Y.cc 2;have z3:=Y.cc 3;have z4:=Y.cc 4;have z5:=Y.cc 5;have z6:=Y.cc 6;have z7:=Y.cc 7;have zf:=Y.free;have zl:=Y.lt;generalize s.A.hp=hp at *
 obtain⟨kd,pg,bk,wd,sl,st,ah,tr⟩:=c;go_enter func22,ntmps22;go_upto_region 1 with(fail);rw[<-Z];clear Z;go_wp2_with(go_at_call 41;refine N.mono ?_;rintro e w1 ⟨rfl,rfl⟩);have R8:=(Rec.set (Rec.set (Rec.set (Rec.set (Rec.set (Rec.set (Rec.set (Rec.set I 0 (iI kd)) 1 (iI pg)) 2 (iI bk)) 3 (iI wd)) 4 (iI sl)) 5 (iI st)) 6 (iI ah)) 7 (.float .f64 tr));have hl:=XkM R8 (by kernel_rfl) (by kernel_rfl);have ht:=(((((((((O.touch (λk=>w.heap.size<=k)).setCell (a:=⟨w.heap.size,0,none⟩) (λ_=>ϑ _) (iI kd)).setCell (a:=⟨w.heap.size,1,none⟩) (λ_=>ϑ _) (iI pg)).setCell (a:=⟨w.heap.size,2,none⟩) (λ_=>ϑ _) (iI bk)).setCell (a:=⟨w.heap.size,3,none⟩) (λ_=>ϑ _) (iI wd)).setCell (a:=⟨w.heap.size,4,none⟩) (λ_=>ϑ _) (iI sl)).setCell (a:=⟨w.heap.size,5,none⟩) (λ_=>ϑ _) (iI st)).setCell (a:=⟨w.heap.size,6,none⟩) (λ_=>ϑ _) (iI ah)).setCell (a:=⟨w.heap.size,7,none⟩) (λ_=>ϑ _) (.float .f64 tr));refine ζK (v:=.agg #[iI kd,iI pg,iI bk,iI wd,iI sl,iI st,iI ah,.float .f64 tr]) ?_ rfl ⟨rfl,(ht.mono (T:=λ_=>False) (λk hk e=>by omega)).gr⟩;simp[results,results22,asAddr,hl]
theorem HLv.facts(h:HLv w0 K c hb g w):c.Ok/\g.Ok/\g.S.length=c.sl:=by
 obtain⟨-,⟨s,-,h,-,-⟩,-⟩:=h;exact⟨h.cok,h.gok,h.sl⟩
theorem HLv.conf(h:HLv w0 K c hb g w):Calls prog 22 #[pP hb] w λe w'=>e=.returned (GS c)/\Gr w w':=by
 obtain⟨-,⟨s,e1,h,-,-⟩,-⟩:=h;rw[<-e1];exact VIO h
end
def E7(sl:Int)(l:List Int):Int:=if ∃j,j<l.length/\(l.getD j 0<0\/sl<=l.getD j 0)then 17 else if ∃i,i<l.length/\∃j,j<i/\l.getD i 0=l.getD j 0 then 5 else 0
theorem YK(hk:k<l.length)(h:l.getD k 0<0\/sl<=l.getD k 0):E7 sl l=17:=θ ⟨k,hk,h⟩
theorem XHt{m:Nat}(hk:k<l.length)(h:∀j,j<l.length->0<=l.getD j 0/\l.getD j 0<sl)(hm:m<k)(he:l.getD k 0=l.getD m 0):E7 sl l=5:=by
 unfold E7;rw[ψ (λ⟨j,hj,hq⟩=>by have:=h j hj;omega),θ ⟨k,hk,m,hm,he⟩]
theorem YT(h:∀j,j<l.length->0<=l.getD j 0/\l.getD j 0<sl)(hd:∀i,i<l.length->∀j,j<i->l.getD i 0≠l.getD j 0):E7 sl l=0:=by
 unfold E7;rw[ψ (λ⟨j,hj,hq⟩=>by have:=h j hj;omega),ψ (λ⟨i,hi,j,hj,e⟩=>hd i hi j hj e)]
theorem Q4x(w:World)(T:Nat)(x:Value):(w.alloc (.cells #[x] T)).ownsRow 0 T 1 (.slice (some ⟨w.heap.size,0,none⟩) 1 1) 1 [x]:=
 ⟨by simp,.inr ⟨w.heap.size,1,#[x],rfl,ζg _,heap_alloc_new w _,ϑ _,by unfold maxLen;omega,by simp,by simp⟩⟩
def LT(w0 w:World)(K:Nat->Prop)(c:HCf)(hb:Nat)(g:Gph)(x0 x1 x2 x3 x4 x5:Int)(e:Ending)(w':World):Prop:=
 (E7 c.sl [x0,x1,x2,x3,x4,x5]≠0/\e=.returned (.tuple #[.pointer none,iI (E7 c.sl [x0,x1,x2,x3,x4,x5])])/\Gr w w') ∨
 (E7 c.sl [x0,x1,x2,x3,x4,x5]=0/\∃r a b t d s:Nat,x0=r/\x1=a/\x2=b/\x3=t/\x4=d/\x5=s/\(∀j∈[r,a,b,t,d,s],j<c.sl)/\[r,a,b,t,d,s].Nodup ∧
  ∃qb,e=.returned (.tuple #[pP qb,iI 0])/\AB (hlT w0 K) w w'/\BA w0 (λk=>K k\/k=qb) c hb qb r a b t d s 0 (GE a b t d s (g.clG r)) w'/\w.heap.size<=qb)
theorem LT.bad{x0 x1 x2 x3 x4 x5 m:Int}{L:List Int}(hL:[x0,x1,x2,x3,x4,x5]=L)(hm:E7 c.sl L=m)(h0:m≠0)(gr:Gr w w'):LT w0 w K c hb g x0 x1 x2 x3 x4 x5 (.returned (.tuple #[.pointer none,iI m])) w':=.inl ⟨by rw[hL,hm];exact h0,by rw[hL,hm],gr⟩
theorem XW8(h:HLv w0 K c hb g w)(hw0:1<w0.heap.size)(x0 x1 x2 x3 x4 x5:Int):Calls prog 6 #[pP hb,iI x0,.agg #[iI x1,iI x2,iI x3,iI x4,iI x5]] w (LT w0 w K c hb g x0 x1 x2 x3 x4 x5):=by
 obtain⟨ii,Xp,Xn,Xg,Xo⟩:=info_parts OS;have Yb:=h.facts.1.kd;have J:=ι (λ(V:World) (gV:Gr w V)=>(h.get gV).conf);unfold GS G2 at J;have k1:((c.kd:Int)==0)=false:=by rw[ζG];omega
 have Ya:∀V,(Instr.field 40 (.agg #[iI c.kd,iI c.pg,iI c.bk,iI c.wd,iI c.sl,iI c.st,iI c.ah,.float .f64 c.tr]) 0).run prog V=.ok (iI c.kd) V:=λ_=>by kernel_rfl
 have Xz:∀V,(Instr.field 40 (.agg #[iI c.kd,iI c.pg,iI c.bk,iI c.wd,iI c.sl,iI c.st,iI c.ah,.float .f64 c.tr]) 4).run prog V=.ok (iI c.sl) V:=λ_=>by kernel_rfl
 have hr:=Rec.new w 30 [iI x1,iI x2,iI x3,iI x4,iI x5];have Xk:=(Gr.refl w).alloc (.cells #[.int .i64 x1,.int .i64 x2,.int .i64 x3,.int .i64 x4,.int .i64 x5] 30);obtain⟨wb,E⟩:∃wb,wb=w.alloc (.cells #[.int .i64 x1,.int .i64 x2,.int .i64 x3,.int .i64 x4,.int .i64 x5] 30):=⟨_,rfl⟩;obtain⟨bx,Xf⟩:∃bx,bx=w.heap.size:=⟨_,rfl⟩;have HR:Hid (Rec wb bx 30 [iI x1,iI x2,iI x3,iI x4,iI x5]):=⟨by rw[E,Xf];exact hr⟩;have Xa:Hid (Gr w wb):=⟨by rw[E];exact Xk⟩;have HW:=ι E;have Xq:=ι Xf;have H:=ι h;have Xr:=ι hw0;have xl:=HR.o.lt;clear h E Xf hr Xk Yb hw0;go_enter func6,ntmps6;go_upto_region 1 with(fail);rw[<-HW.o,<-Xq.o];go_upto_region 3 with(go_at_call 22;refine(J.o _ Xa.o).mono ?_;rintro e w1 ⟨rfl,hg⟩;have B:=ι hg;clear hg);have Xu:=ι (Xa.o.trans B.o);have O:=ι (HR.o.gr B.o);have Xw:=O.o.lt;clear Xa;go_upto_region 4 with(at_builtin;refine wpList_append_lies _ rfl _ _ 61 rfl 0 3 ii _ 1 8 underlying61 Xp Xn Xg Xo rfl (by decide) (.slice (some ⟨w1.heap.size,0,none⟩) 1 1) 1 [iI x0] rfl (Q4x w1 _ _) ⟨bx,0,none⟩ 5 5 [iI x1,iI x2,iI x3,iI x4,iI x5] rfl rfl (λj u hj=>by rw[show Addr.add ⟨bx,0,none⟩ j=⟨bx,j,none⟩by unfold Addr.add;split <;> simp_all];exact(O.o.gr ((Gr.refl w1).alloc (.cells #[.int .i64 x0] 3))).cell hj) (by simp[Value.oneCell']) Ω (by unfold maxLen;omega) Ω (ζg _) (w1.heap.size+1) (by simp) ?_;intro g3 c3 w3 U Z Xh Xl;have I:=ι U;have Xe:=ι ((((Gr.refl w1).alloc (.cells #[.int .i64 x0] 3)).touch _).trans (E5 Z (λk=>w1.heap.size<=k) (λk e _=>by cases e;exact ϑ _)));clear U Z Xh Xl);have Y:=ι (Xu.o.trans ((Xe.o.mono (T:=λ_=>False) (λk hk e=>by omega)).gr));have HC:Hid (∀V,Gr w3 V->∀j,j<6->V.cell? ⟨g3,j,none⟩=some (iI ([x0,x1,x2,x3,x4,x5].getD j 0))/\g3<V.heap.size):=⟨λV gV j hj=>⟨BU (CU I.o gV) (by rcases(by omega:j=0\/j=1\/j=2\/j=3\/j=4\/j=5)with rfl|rfl|rfl|rfl|rfl|rfl <;> rfl),(BH (CU I.o gV) rfl).2⟩⟩;have Xs:=ι (O.o.touch Xe.o (λe=>by omega));have Xj:Hid (6<=c3):=⟨by obtain⟨_,_,e,-,h,-,-⟩:=EU I.o (by decide);cases e;exact h⟩;have HL:=ι (show [x0,x1,x2,x3,x4,x5].length=6 from rfl);generalize hL:[x0,x1,x2,x3,x4,x5]=L at HC HL
 replace hL:=ι hL
 clear HR HW Xq xl B Xu O Xw I Xe Xp Xn Xg Xo;go_upto_region 5 with(fail)
 go_loopw [26] (λs26 wr=>∃k:Nat,k<=6/\s26=iI k/\Hid (Gr w3 wr)/\Hid (∀j,j<k->0<=L.getD j 0/\L.getD j 0<c.sl)) (λs26 _=>6-(intOf s26).toNat)
 case atStart=>exact⟨0,by omega,rfl,⟨Gr.refl _⟩,⟨λj hj=>absurd hj (ζQ _)⟩⟩
 case round=>
  obtain⟨k,hk,rfl,HG,HA⟩:=hrel;by_cases X:k<6
  ·obtain⟨x0,xl⟩:=HC.o _ HG.o k X;have Xy:(k:Int)<6:=Ω
   generalize hx:L.getD k 0=x at x0;by_cases Xd:x<0
   ·have d0:decide (x<0)=true:=φ Xd;go_wp2;go_ret2;exact LT.bad hL.o (YK (by rw[HL.o];exact X) (.inl (by rw[hx];exact Xd))) (by decide) (Y.o.trans HG.o)
   ·have d0:decide (x<0)=false:=ζ Xd;by_cases A:(c.sl:Int)<=x
    ·have d1:decide ((c.sl:Int)<=x)=true:=φ A;go_wp2_with(go_at_call 22;refine(J.o _ (Y.o.trans HG.o)).mono ?_;rintro e w4 ⟨rfl,hg⟩;have Xc:=ι (HG.o.trans hg);clear hg);go_ret2;exact LT.bad hL.o (YK (by rw[HL.o];exact X) (.inr (by rw[hx];exact A))) (by decide) (Y.o.trans Xc.o)
    ·have d1:decide ((c.sl:Int)<=x)=false:=ζ A;go_wp2_with(go_at_call 22;refine(J.o _ (Y.o.trans HG.o)).mono ?_;rintro e w4 ⟨rfl,hg⟩;have Xc:=ι (HG.o.trans hg);clear hg);go_round
     case rel=>exact⟨k+1,by omega,by go_num,Xc,⟨λj hj=>by rcases ψc.1 hj with h|rfl;exact HA.o j h;rw[hx];exact⟨by omega,by omega⟩⟩⟩
     case measure=>have:=X;simp[intOf];omega
  ·obtain rfl:k=6:=Ω
   clear X hk J Ya Xz k1;have Xv:=Xj.o;go_upto_region 11 with(fail);obtain⟨wq,Xx⟩:∃wq,wq=wr:=⟨_,rfl⟩;subst Xx
   go_loopw [42] (λs42 wr=>∃k:Nat,k<=6/\s42=iI k/\Hid (wr=wq)/\Hid (∀i,i<k->∀j,j<i->L.getD i 0≠L.getD j 0)) (λs42 _=>6-(intOf s42).toNat)
   case atStart=>exact⟨0,by omega,rfl,⟨rfl⟩,⟨λj hj=>absurd hj (ζQ _)⟩⟩
   case round=>
    obtain⟨k,hk,rfl,hw,HD⟩:=hrel
    replace hw:=hw.o
    subst hw;by_cases X:k<6
    ·obtain⟨x0,xl⟩:=HC.o _ HG.o k X;have Xy:(k:Int)<6:=Ω
     have hkJ:(k:Int)<=c3:=Ω
     obtain⟨x,hx⟩:∃x,x=L.getD k 0:=⟨_,rfl⟩;rw[<-hx]at x0;have HX:=ι hx;clear hx;go_upto_region 14 with(fail)
     go_loopw [51] (λs51 wp=>∃m:Nat,m<=k/\s51=iI m/\Hid (wp=wr)/\Hid (∀j,j<m->x≠L.getD j 0)) (λs51 _=>k-(intOf s51).toNat)
     case atStart=>exact⟨0,by omega,rfl,⟨rfl⟩,⟨λj hj=>absurd hj (ζQ _)⟩⟩
     case round=>
      obtain⟨m,hm,rfl,hw,HE⟩:=hrel
      replace hw:=hw.o
      subst hw;by_cases Xi:m<k
      ·obtain⟨y0,yl⟩:=HC.o _ HG.o m Ω;have hmI:(m:Int)<k:=Ω
       obtain⟨y,hy⟩:∃y,y=L.getD m 0:=⟨_,rfl⟩;rw[<-hy]at y0;have HY:=ι hy;clear hy;by_cases G:x=y
       ·have d0:(x==y)=true:=ζ9.2 G;go_wp2;go_ret2;exact LT.bad hL.o (XHt (k:=k) (m:=m) (by rw[HL.o];exact X) (λj hj=>HA.o j (by rw[<-HL.o];exact hj)) Xi (by rw[<-HX.o,<-HY.o];exact G)) (by decide) (Y.o.trans HG.o)
       ·have d0:(x==y)=false:=ζG.2 G;go_wp2;go_round
        case rel=>exact⟨m+1,by omega,by go_num,⟨by trivial⟩,⟨λj hj=>by rcases ψc.1 hj with h|rfl;exact HE.o j h;rw[<-HY.o];exact G⟩⟩
        case measure=>have:=Xi;simp[intOf];omega
      ·obtain rfl:m=k:=Ω
       go_wp2;go_round
       case rel=>exact⟨m+1,by omega,by go_num,⟨by trivial⟩,⟨λi hi=>by rcases ψc.1 hi with h|rfl;exact HD.o i h;rw[<-HX.o];exact HE.o⟩⟩
       case measure=>have:=X;simp[intOf];omega
    ·obtain rfl:k=6:=Ω
     obtain rfl:=hL.o;clear X hk hL HL;have a0:0<=x0/\x0<c.sl:=HA.o 0 (by decide);have a1:0<=x1/\x1<c.sl:=HA.o 1 (by decide);have a2:0<=x2/\x2<c.sl:=HA.o 2 (by decide);have a3:0<=x3/\x3<c.sl:=HA.o 3 (by decide);have a4:0<=x4/\x4<c.sl:=HA.o 4 (by decide);have a5:0<=x5/\x5<c.sl:=HA.o 5 (by decide);obtain⟨r,rfl⟩:∃r:Nat,x0=r:=⟨x0.toNat,by omega⟩;obtain⟨a,rfl⟩:∃r:Nat,x1=r:=⟨x1.toNat,by omega⟩;obtain⟨b,rfl⟩:∃r:Nat,x2=r:=⟨x2.toNat,by omega⟩;obtain⟨t,rfl⟩:∃r:Nat,x3=r:=⟨x3.toNat,by omega⟩;obtain⟨d,rfl⟩:∃r:Nat,x4=r:=⟨x4.toNat,by omega⟩;obtain⟨s,rfl⟩:∃r:Nat,x5=r:=⟨x5.toNat,by omega⟩
     have HM:Hid (E7 c.sl [(r:Int),a,b,t,d,s]=0/\(∀j∈[r,a,b,t,d,s],j<c.sl)/\[r,a,b,t,d,s].Nodup):=by
      refine⟨YT (λj hj=>HA.o j hj) (λi hi=>HD.o i hi),?_,?_⟩
      ·intro j hj;simp only[ζC,ξ0,or_false]at hj;rcases hj with rfl|rfl|rfl|rfl|rfl|rfl <;> omega
      ·have q10:(a:Int)≠r:=HD.o 1 (by decide) 0 (by decide);have q20:(b:Int)≠r:=HD.o 2 (by decide) 0 (by decide);have q21:(b:Int)≠a:=HD.o 2 (by decide) 1 (by decide);have q30:(t:Int)≠r:=HD.o 3 (by decide) 0 (by decide);have q31:(t:Int)≠a:=HD.o 3 (by decide) 1 (by decide);have q32:(t:Int)≠b:=HD.o 3 (by decide) 2 (by decide);have q40:(d:Int)≠r:=HD.o 4 (by decide) 0 (by decide);have q41:(d:Int)≠a:=HD.o 4 (by decide) 1 (by decide);have q42:(d:Int)≠b:=HD.o 4 (by decide) 2 (by decide);have q43:(d:Int)≠t:=HD.o 4 (by decide) 3 (by decide);have q50:(s:Int)≠r:=HD.o 5 (by decide) 0 (by decide);have q51:(s:Int)≠a:=HD.o 5 (by decide) 1 (by decide);have q52:(s:Int)≠b:=HD.o 5 (by decide) 2 (by decide);have q53:(s:Int)≠t:=HD.o 5 (by decide) 3 (by decide);have q54:(s:Int)≠d:=HD.o 5 (by decide) 4 (by decide);simp only[List.nodup_cons,ζC,ξ0,or_false,ξJ,and_true,not_or,not_false_eq_true];omega
     have N:=ι (Y.o.trans HG.o);have RB:=Xs.o.gr HG.o;obtain⟨z0,z1,z2,z3,z4,zl⟩:=RB.k5;clear a0 a1 a2 a3 a4 a5 HA HD HC RB Xs Xj Xv HG Y;go_upto_region 21 with(fail);have Xt:=N.o.alloc (.cells #[.pointer (some ⟨hb,0,none⟩),.int .i64 r,.int .i64 a,.int .i64 b,.int .i64 t,.int .i64 d,.int .i64 s,.int .i64 0] 63);have Xb:=Rec.new wr 63 (quL hb r a b t d s 0);have HQ:Hid (BA w0 (λk=>K k\/k=wr.heap.size) c hb wr.heap.size r a b t d s 0 g (wr.alloc (.cells #[.pointer (some ⟨hb,0,none⟩),.int .i64 r,.int .i64 a,.int .i64 b,.int .i64 t,.int .i64 d,.int .i64 s,.int .i64 0] 63))):=⟨((H.o.get N.o).own ((Gr.refl wr).alloc _) (λk hk=>hk.imp id (λe=>⟨by omega,by rw[e];exact Xb.lt⟩))),Xb,.inr rfl,δ H.o.gr.size N.o.size,Xr.o⟩;have HT:Hid (AB (hlT w0 (λk=>K k\/k=wr.heap.size)) w (wr.alloc (.cells #[.pointer (some ⟨hb,0,none⟩),.int .i64 r,.int .i64 a,.int .i64 b,.int .i64 t,.int .i64 d,.int .i64 s,.int .i64 0] 63))):=⟨Xt.touch _⟩;have Xm:=ι N.o.size;clear Xt Xb z0 z1 z2 z3 z4 zl H Xr N;generalize wr.alloc (.cells #[.pointer (some ⟨hb,0,none⟩),.int .i64 r,.int .i64 a,.int .i64 b,.int .i64 t,.int .i64 d,.int .i64 s,.int .i64 0] 63)=wz at HQ HT⊢;generalize wr.heap.size=qb at HQ HT Xm⊢;have c0:wz.cell? ⟨qb,0,none⟩=some (pP hb):=HQ.o.row.cc 0;have cl:=HQ.o.row.lt
     go_wp2_with(first
      | (go_at_call 23;refine(HQ.o.hv.clr _).mono ?_;intro e w1 ho;have hn:=HQ.o.nx HT.o ho;clear HT HQ c0 cl ho;obtain⟨rfl,HT,HQ,c0,cl⟩:=hn)
      | (go_at_call 24;refine(WE HQ.o).mono ?_;intro e w1 ho;have hn:=HQ.o.nx HT.o ho;clear HT HQ c0 cl ho;obtain⟨rfl,HT,HQ,c0,cl⟩:=hn))
     go_ret2;exact .inr ⟨HM.o.1,r,a,b,t,d,s,rfl,rfl,rfl,rfl,rfl,rfl,HM.o.2.1,HM.o.2.2,qb,rfl,HT.o.mono (λk _ hk=>⟨hk.1,λe=>hk.2 (.inl e)⟩),HQ.o,Xm.o⟩
theorem ZQd(ha:a<g.S.length)(C:Nat):g.alE C a ⟨2,1,1⟩=if C<g.words+5 then 21 else 0:=by
 unfold Gph.alE;rw[g.sl_lt ha,θ rfl,ψ (by decide),show B9 ⟨2,1,1⟩=5 by decide];by_cases h:C<g.words+5
 ·rw[θ h,θ Ω]
 ·rw[ψ h,ψ Ω]
structure EB(w0:World)(K:Nat->Prop)(c:HCf)(hb qb r a b t d s:Nat)(M:List (Nat×Nat))(w:World):Prop where
 ex:∃g R,BA w0 K c hb qb r a b t d s M.length g w/\FZ g r a b t d s R/\R.its.Perm M
 cap:5*M.length<=c.wd
def ZK(w0:World)(K:Nat->Prop)(c:HCf)(hb qb r a b t d s:Nat)(w:World)(v:Value)(M':List (Nat×Nat))(e:Ending)(w':World):Prop:=e=.returned v/\AB (λk=>hlT w0 K k\/k=qb) w w'/\EB w0 K c hb qb r a b t d s M' w'
section
variable{t:Nat}{M:List (Nat × Nat)}
theorem EB.grew(h:EB w0 K c hb qb r a b t d s M w):Gr w0 w:=by
 obtain⟨⟨g,R,q,p⟩,hc⟩:=h;exact q.hv.gr
theorem EB.len_le(h:EB w0 K c hb qb r a b t d s M w):M.length<=1000000:=by
 obtain⟨⟨g,R,q,p⟩,hc⟩:=h;have:=q.hv.facts.1.wd;omega
theorem EB.words(h:EB w0 K c hb qb r a b t d s M w):∃g R,BA w0 K c hb qb r a b t d s M.length g w/\FZ g r a b t d s R/\R.its.Perm M/\g.all.length=M.length/\g.words=5*M.length:=by
 obtain⟨⟨g,R,q,p,pe⟩,hc⟩:=h;obtain⟨l1,l2⟩:=p.hs.live q.hv.facts.2.1 p.nd p.z;have e:R.ids.length=M.length:=by rw[<-BT.len_its,pe.length_eq]
 exact⟨g,R,q,p,pe,by rw[l1,e],by rw[l2,e]⟩
theorem EB.push(h:EB w0 K c hb qb r a b t d s M w)(hx:x<18446744073709551616)(hy:y<18446744073709551616):Calls prog 9 #[pP qb,.float .f64 x,uU y] w (ZK w0 K c hb qb r a b t d s w (iI (if c.wd<5*M.length+5 then 21 else 0)) (if c.wd<5*M.length+5 then M else (x,y) :: M)):=by
 have hn:=h.len_le;have X:=h.cap;obtain⟨g,R,q,p,pe,-,hw⟩:=h.words;have he:=ZQd (p.q.lt a (by simp)) c.wd;rw[hw]at he;by_cases hf:c.wd<5*M.length+5
 ·rw[θ hf]at he⊢;rw[θ hf];refine(QMN q hx hy (by rw[he];decide)).mono ?_;rintro e w' ⟨rfl,ht,hq⟩;exact⟨by rw[he],ht.mono (λ_ _ h=>.inl h),⟨g,R,hq,p,pe⟩,X⟩
 ·rw[ψ hf]at he⊢;rw[ψ hf];obtain⟨R',p',Y⟩:=p.push he (f:=x) (w:=y);refine(Y7Q q hx hy hn he).mono ?_;rintro e w' ⟨rfl,ht,hq⟩;exact⟨rfl,ht,⟨_,R',hq,p',Y.trans (pe.cons _)⟩,by rw[ζz];omega⟩
theorem EB.len(h:EB w0 K c hb qb r a b t d s M w):cQ 11 #[pP qb] w (iI M.length):=by
 obtain⟨⟨g,R,q,p⟩,hc⟩:=h;exact VPx q
theorem EB.node(h:EB w0 K c hb qb r a b t d s M w)(hM:M≠[]):∃g x f u k,BA w0 K c hb qb r a b t d s M.length g w/\FZ g r a b t d s (.node x f u k .nil)/\M.Perm ((f,u) :: k.its)/\(f,u)∈M/\∀p∈M,leQ (f,u) p=true:=by
 obtain⟨⟨g,R,q,p,pe⟩,hc⟩:=h;rcases p.sr with rfl|⟨x,f,u,k,rfl⟩
 ·exact absurd pe.symm.eq_nil hM
 ·have e:(BT.node x f u k .nil).its=(f,u) :: k.its:=by simp[BT.its]
  have l:=BT.least p.hp;rw[e]at pe l;exact⟨g,x,f,u,k,q,p,pe.symm,pe.mem_iff.1 (ζh ..),λp hp=>l p (pe.mem_iff.2 hp)⟩
theorem EB.pop(h:EB w0 K c hb qb r a b t d s M w)(hM:M≠[]):∃(f u:Nat) (M':List (Nat×Nat)),M.Perm ((f,u) :: M')/\(∀p∈M,leQ (f,u) p=true)/\Calls prog 7 #[pP qb] w (ZK w0 K c hb qb r a b t d s w (.tuple #[.float .f64 f,uU u,iI 0]) M'):=by
 have hn:=h.len_le;have hcap:=h.cap;obtain⟨g,x,f,u,k,q,p,pe,hm,hl⟩:=h.node hM;have e:=pe.length_eq;rw[ζz]at e;rw[e]at q;refine⟨f,u,k.its,pe,hl,(YLH q Ω p).mono ?_⟩;rintro e' w' ⟨g',R',rfl,ht,hq,p',X⟩;exact⟨rfl,ht,⟨g',R',hq,p',X⟩,by omega⟩
end
theorem MG(h:a<n)(L:List GOb):Gph.clG ⟨L,List.replicate n 0⟩ a=⟨L,List.replicate n 0⟩:=by
 grind [Gph.clG_ok,List.set_replicate_self]
theorem JvX{t:Nat}(h:∀j∈[r,a,b,t,d,s],j<n):GE a b t d s (Gph.clG ⟨[],List.replicate n 0⟩ r)=⟨[],List.replicate n 0⟩:=by
 unfold GE;rw[MG (h r (by simp)),MG (h a (by simp)),MG (h b (by simp)),MG (h t (by simp)),MG (h d (by simp)),MG (h s (by simp))]
theorem VOC(h:HLv w0 K c hb (Gph.nil c.sl) w)(hw0:1<w0.heap.size)(x0 x1 x2 x3 x4 x5:Int):Calls prog 6 #[pP hb,iI x0,.agg #[iI x1,iI x2,iI x3,iI x4,iI x5]] w λe w'=>
  (E7 c.sl [x0,x1,x2,x3,x4,x5]≠0/\e=.returned (.tuple #[.pointer none,iI (E7 c.sl [x0,x1,x2,x3,x4,x5])])/\Gr w w') ∨
  (E7 c.sl [x0,x1,x2,x3,x4,x5]=0/\∃r a b t d s qb:Nat,e=.returned (.tuple #[pP qb,iI 0])/\AB (hlT w0 K) w w'/\EB w0 (λk=>K k\/k=qb) c hb qb r a b t d s [] w'/\w.heap.size<=qb):=by
 refine(XW8 h hw0 x0 x1 x2 x3 x4 x5).mono ?_;rintro e w' (hn|⟨hm,r,a,b,t,d,s,-,-,-,-,-,-,hl,hd,qb,he,ht,hq,hs⟩)
 ·exact .inl hn
 ·rw[show Gph.nil c.sl=⟨[],List.replicate c.sl 0⟩from rfl,JvX hl]at hq;exact .inr ⟨hm,r,a,b,t,d,s,qb,he,ht,⟨⟨_,.nil,hq,Yf8 hd hl,.nil⟩,ζg _⟩,hs⟩
def Q3:CfI:=⟨1,4,4,16,6,1,0,0⟩
def OZ(k:Nat):List (Nat×Nat):=(([(9221120237041090560,5),(9223372036854775808,5),(0,5)]:List (Nat×Nat)).take k).reverse
theorem JYV(h:(OZ 3).Perm ((f,u) :: M))(hl:∀p∈OZ 3,leQ (f,u) p=true):f=9223372036854775808/\u=5/\M.Perm [(0,5),(9221120237041090560,5)]:=by
 have e:OZ 3=[(0,5),(9223372036854775808,5),(9221120237041090560,5)]:=rfl;rw[e]at h hl;have hm:(f,u)∈[(0,5),(9223372036854775808,5),(9221120237041090560,5)]:=h.mem_iff.2 (ζh ..);simp only[ζC,ξ0,or_false,Prod.mk.injEq]at hm;rcases hm with⟨rfl,rfl⟩|⟨rfl,rfl⟩|⟨rfl,rfl⟩
 ·exact absurd (hl (9223372036854775808,5) (by simp)) (by decide)
 ·exact⟨rfl,rfl,(((List.Perm.swap ..).trans h).cons_inv).symm⟩
 ·exact absurd (hl (9223372036854775808,5) (by simp)) (by decide)
theorem JWn{M':List (Nat×Nat)}(hM:M.Perm [(0,5),(9221120237041090560,5)])(h:M.Perm ((f,u) :: M'))(hl:∀p∈M,leQ (f,u) p=true):f=0/\M'.length=1:=by
 have hn:=(hM.symm.trans h).length_eq;have hm:(f,u)∈[(0,5),(9221120237041090560,5)]:=hM.mem_iff.1 (h.mem_iff.2 (ζh ..));have h0:=hl (0,5) (hM.mem_iff.2 (by simp));simp only[ζC,ξ0,or_false,Prod.mk.injEq]at hm;rcases hm with⟨rfl,rfl⟩|⟨rfl,rfl⟩
 ·exact⟨rfl,by simpa using hn.symm⟩
 ·exact absurd h0 (by decide)
theorem V0X:Q3.may=true:=by decide +kernel
theorem JT7(w:World)(hT:AP w):Calls prog 12 #[] w λe w'=>e=.returned (.bool true)/\Gr w w':=by
 have G:=ι hT.lt;have J:=(Xcy Q3 ⟨by show (4:Int)<=_;decide,by show (4:Int)<=_;decide,by show (16:Int)<=_;decide⟩ V0X w hT);obtain⟨d,hd⟩:∃d,d=Q3.nat:=⟨_,rfl⟩;have HD:Hid (d.wd=16/\d.sl=6):=⟨by rw[hd];exact⟨rfl,rfl⟩⟩;rw[<-hd]at J;unfold CfI.V Q3 at J;clear hT hd;go_enter func12,ntmps12;go_upto_region 2 with(go_at_call 14;refine(J).mono ?_;rintro e w1 ⟨s,rfl,hn⟩;have HN:=hn;clear hn);have Z:=HLv.new HN;obtain⟨hb,I⟩:∃hb,hb=s.A.hp:=⟨_,rfl⟩;rw[<-I]at Z⊢;have E:=VOC Z G.o 0 1 2 3 4 5;have hm:E7 d.sl [0,1,2,3,4,5]=0:=by rw[HD.o.2];exact YT (by decide) (by decide)
 rw[hm]at E;clear Z I hm;go_upto_region 5 with(go_at_call 6;refine(E).mono ?_;rintro e w2 (⟨L,-⟩|⟨-,r,a,b,t,d',s',qb,rfl,ht,hl,-⟩);exact absurd rfl L;have HT:=ι ht;have HS:=ι hl;clear ht hl);have i0:∀V,(Instr.index 75 (.agg #[uU 9221120237041090560,uU 9223372036854775808,uU 0]) (iI 0)).run prog V=.ok (uU 9221120237041090560) V:=λ_=>by kernel_rfl
 have i1:∀V,(Instr.index 75 (.agg #[uU 9221120237041090560,uU 9223372036854775808,uU 0]) (iI 1)).run prog V=.ok (uU 9223372036854775808) V:=λ_=>by kernel_rfl
 have i2:∀V,(Instr.index 75 (.agg #[uU 9221120237041090560,uU 9223372036854775808,uU 0]) (iI 2)).run prog V=.ok (uU 0) V:=λ_=>by kernel_rfl
 go_upto_region 6 with(fail)
 go_loopw [31] (λs31 wr=>∃k:Nat,k<=3/\Hid (EB w (λk=>False\/k=qb) d hb qb r a b t d' s' (OZ k) wr)/\s31=iI k) (λs31 _=>3-(intOf s31).toNat)
 case atStart=>exact⟨0,by omega,HS,rfl⟩
 case round=>
  clear HS HT;obtain⟨k,hk,HS,rfl⟩:=hrel;by_cases X:k<3
  ·have B:k=0\/k=1\/k=2:=Ω
   clear X hk;rcases B with rfl|rfl|rfl
   ·have HP:=HS.o.push (x:=9221120237041090560) (y:=5) (by decide) (by decide);rw[ψ (by rw[HD.o.1];decide),ψ (by rw[HD.o.1];decide)]at HP
    go_wp2_with(first
     | (go_at_call 10;refine AM (MK _ _) ?_)
     | (go_at_call 9;refine HP.mono ?_;rintro e w3 ⟨rfl,ht,hl⟩;have Y:=ι hl;clear ht hl))
    go_round
    case rel=>exact⟨1,by omega,Y,by go_num⟩
    case measure=>simp[intOf]
   ·have HP:=HS.o.push (x:=9223372036854775808) (y:=5) (by decide) (by decide);rw[ψ (by rw[HD.o.1];decide),ψ (by rw[HD.o.1];decide)]at HP
    go_wp2_with(first
     | (go_at_call 10;refine AM (MK _ _) ?_)
     | (go_at_call 9;refine HP.mono ?_;rintro e w3 ⟨rfl,ht,hl⟩;have Y:=ι hl;clear ht hl))
    go_round
    case rel=>exact⟨2,by omega,Y,by go_num⟩
    case measure=>simp[intOf]
   ·have HP:=HS.o.push (x:=0) (y:=5) (by decide) (by decide);rw[ψ (by rw[HD.o.1];decide),ψ (by rw[HD.o.1];decide)]at HP
    go_wp2_with(first
     | (go_at_call 10;refine AM (MK _ _) ?_)
     | (go_at_call 9;refine HP.mono ?_;rintro e w3 ⟨rfl,ht,hl⟩;have Y:=ι hl;clear ht hl))
    go_round
    case rel=>exact⟨3,by omega,Y,by go_num⟩
    case measure=>simp[intOf]
  ·obtain rfl:k=3:=Ω
   clear X hk;obtain⟨f,u,M,h1,h2,HP⟩:=HS.o.pop (by decide);obtain⟨rfl,rfl,h3⟩:=JYV h1 h2;clear h1 h2;have H3:=ι h3;clear h3;go_upto_region 12 with(go_at_call 7;refine HP.mono ?_;rintro e w3 ⟨rfl,ht,hl⟩;have O:=ι hl;clear ht hl);clear HP HS;obtain⟨f,u,M',h1,h2,HP⟩:=O.o.pop (λe=>by have:=H3.o.length_eq;rw[e]at this;cases this);obtain⟨rfl,h4⟩:=JWn H3.o h1 h2;clear h1 h2 H3;go_upto_region 13 with(go_at_call 7;refine HP.mono ?_;rintro e w4 ⟨rfl,ht,hl⟩;have N:=ι hl;clear ht hl);clear HP O;have U:=ι N.o.len;rw[h4]at U
   go_wp2_with(first
    | (go_at_call 18;refine AM (OM _ _) ?_)
    | (go_at_call 11;refine AM (U.o) ?_))
   go_ret;exact⟨rfl,N.o.grew⟩
theorem X2J(w:World):Calls prog 22 #[.pointer none] w λe w'=>e=.returned (.agg #[iI 0,iI 0,iI 0,iI 0,iI 0,iI 0,iI 0,.float .f64 0])/\Gr w w':=by
 have hsf:=ZM;have hr:=Rec.new w 40 [iI 0,iI 0,iI 0,iI 0,iI 0,iI 0,iI 0,.float .f64 0];have HL:=(XkM hr (by kernel_rfl) (by kernel_rfl));go_enter func22,ntmps22;go_wp2_with(go_at_call 41;refine(Jvl _).mono ?_;rintro e w1 ⟨rfl,rfl⟩);refine ζK (v:=.agg #[iI 0,iI 0,iI 0,iI 0,iI 0,iI 0,iI 0,.float .f64 0]) ?_ rfl ⟨rfl,(Gr.refl w).alloc _⟩;simp[results,results22,asAddr,HL]
theorem Jox(w:World):Calls prog 6 #[.pointer none,iI 0,.agg #[iI 1,iI 2,iI 3,iI 4,iI 5]] w λe w'=>e=.returned (.tuple #[.pointer none,iI 9])/\Gr w w':=by
 have X:=((Gr.refl w).alloc (.cells #[.int .i64 1,.int .i64 2,.int .i64 3,.int .i64 4,.int .i64 5] 30));have hf0:∀V,(Instr.field 40 (.agg #[iI 0,iI 0,iI 0,iI 0,iI 0,iI 0,iI 0,.float .f64 0]) 0).run prog V=.ok (iI 0) V:=λ_=>by kernel_rfl
 go_enter func6,ntmps6;go_wp2_with(go_at_call 22;refine(X2J _).mono ?_;rintro e w1 ⟨rfl,hg⟩;have HG1:=(X.trans hg));go_ret2
 simp_all
theorem SM(w:World):cQ 30 #[.pointer none] w (.bool true):=by
 go_enter func30,ntmps30;go_wp2;go_ret
 simp_all
theorem VRn(w:World):cQ 8 #[.pointer none] w (.tuple #[.float .f64 0,uU 0,iI 9]):=by
 go_enter func8,ntmps8;go_wp2_with(go_at_call 30;refine(SM _).mono ?_;rintro e w1 ⟨rfl,rfl⟩)
 go_ret3
 simp_all
theorem ZMR(w:World):cQ 7 #[.pointer none] w (.tuple #[.float .f64 0,uU 0,iI 9]):=by
 go_enter func7,ntmps7;go_wp2_with(go_at_call 8;refine(VRn _).mono ?_;rintro e w1 ⟨rfl,rfl⟩)
 go_ret3
 simp_all
theorem ZE6(w:World)(x y:Nat):cQ 9 #[.pointer none,.float .f64 x,uU y] w (iI 9):=by
 go_enter func9,ntmps9;go_wp2_with(go_at_call 30;refine(SM _).mono ?_;rintro e w1 ⟨rfl,rfl⟩);go_ret
 simp_all
theorem YvE(w:World):cQ 11 #[.pointer none] w (iI 0):=by
 go_enter func11,ntmps11;go_wp2_with(go_at_call 30;refine(SM _).mono ?_;rintro e w1 ⟨rfl,rfl⟩);go_ret
 simp_all
theorem YCy(hT:AP w)(x:IS):Calls prog 3 #[.agg x.L.toArray] w λe w'=>e=.returned (.bool true)/\Gr w w':=by
 have HT:=ι hT;have HB:=ι (Rec.new w 24 [.int .u8 x.kd,uU x.f,uU x.w]);have U:=ι ((Gr.refl w).alloc (.cells #[.int .u8 x.kd,.int .u64 x.f,.int .u64 x.w] 24));have hf0:(FloatKind.f64.format.order 0 0==some Ordering.eq)=true:=by kernel_rfl
 unfold IS.L;clear hT;go_enter func3,ntmps3;go_upto_region 3 with(go_at_call 6;refine(Jox _).mono ?_;rintro e w1 ⟨rfl,hg⟩;have Z:=ι hg;clear hg)
 go_upto_region 5 with(first
  | (go_at_call 7;refine AM (ZMR _) ?_;skip)
  | (go_at_call 8;refine AM (VRn _) ?_;skip))
 have N:=ι (U.o.trans Z.o);have V:=ι (HB.o.gr Z.o);clear U HB Z;obtain⟨Sx,X,HS⟩:=AA.start λW'=>Gr w1 W';have z1:=AA.fact X λ_ h=>(V.o.gr h).cell (j:=1) rfl;have z2:=AA.fact X λ_ h=>(V.o.gr h).cell (j:=2) rfl;have Y:=HS.o _ ((Gr.refl w1).drew);have O:Inhabited (AA Sx):=⟨⟨_,Y⟩⟩;clear X;refine AW Sx 47 [([0,1,2,3,4,5,6,7,8,9,10,11,12,13,14,15,16,17,18,19,20,21,22,23,24,25,26,27,28,29,30,31,33,34],32),([],35),([36,37,38,39],40),([41,42,43],44)] [45,46] Y ?_;refine AI ?_;go_wp2_with((go_at_call 10;refine AM (MK _ _) ?_));refine⟨.inr (AA.of (HS.o _ ((Gr.refl w1).drew))),?_⟩;refine AI ?_;go_wp2_with((go_at_call 9;refine AM (ZE6 _ _ _) ?_));refine⟨.inr (AA.of (HS.o _ ((Gr.refl w1).drew))),?_⟩;refine AI ?_;go_wp2_with((go_at_call 11;refine AM (YvE _) ?_));refine⟨.inr (AA.of (HS.o _ ((Gr.refl w1).drew))),?_⟩;refine AI ?_;go_wp2_with((go_at_call 12;refine(JT7 _ ((N.o.trans (Gr.refl w1).drew).tab HT.o.lt HT.o)).mono ?_;rintro e w3 ⟨rfl,hg⟩;have J:=ι ((Gr.refl w1).drew.trans hg);clear hg));refine⟨.inr (AA.of (HS.o _ (J.o))),?_⟩;refine BE ?_;clear z1 z2 Y O;clear HS Sx;go_wp2;go_ret;exact⟨rfl,N.o.trans J.o⟩
end Go.Proofs.YtggjoonlcjjgkaaGreatDoor
