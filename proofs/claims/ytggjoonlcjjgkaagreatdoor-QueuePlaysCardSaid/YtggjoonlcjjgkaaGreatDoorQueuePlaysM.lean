/- Part 13 of what QueuePlays leans on: my own lemmas, merged by shake.py. -/
import Derived.Test.YtggjoonlcjjgkaaGreatDoorQueuePlaysL
namespace Go.Proofs.YtggjoonlcjjgkaaGreatDoor
open _root_.Go.Proofs.Tryz
set_option maxHeartbeats 6400000
set_option maxRecDepth 100000
open Go.RowKit Go.Shelf Word
variable{c:HCf}{M:List (Nat×Nat)}{a b d f hb qb r s u:Nat}{K:Nat->Prop}{x0 x1 y1:Value}{w w' w0:World}
section
variable{X:Nat->Prop}{rb t:Nat}{M N M' N':List (Nat × Nat)}{f:FuncId}{args:Array Value}{v:Value}{x:DD}{xs:List Value}{wx:World}
theorem P40.push2(h:P40 w0 X c hb qb rb r a b t d s M N w)(hp:M.Perm N){x y:Nat}(hx:x<18446744073709551616)(hy:y<18446744073709551616):∃(e:Int) (M' N':List (Nat×Nat)),M'.Perm N' ∧
  (∀W,Gr w W->Calls prog 9 #[pP qb,.float .f64 x,uU y] W (EH w0 X c hb qb rb r a b t d s W (iI e) M' N)) ∧
  ∀W,P40 w0 X c hb qb rb r a b t d s M' N W->Calls prog 54 #[pP rb,uU x,uU y] W (EH w0 X c hb qb rb r a b t d s W (iI e) M' N'):=by
 have hN:=h.len_le2 hp;have hl:=hp.length_eq;by_cases hf:c.wd<5*M.length+5
 ·refine⟨21,M,N,hp,λW g=>(h.gr g).qu λK hq=>?_,λW hW=>hW.rf λR z hr=>?_⟩
  ·have:=hq.push hx hy
   rwa [θ hf,θ hf]at this
  ·have:=Vpg hr hN x y
   rwa [θ Ω,θ Ω]at this
 ·refine⟨0,(x,y) :: M,N++[(x,y)],(hp.cons _).trans (ξ4 (l₁:=[(x,y)])),λW g=>(h.gr g).qu λK hq=>?_,λW hW=>hW.rf λR z hr=>?_⟩
  ·have:=hq.push hx hy
   rwa [φ hf,φ hf]at this
  ·have:=Vpg hr hN x y
   rwa [φ Ω,φ Ω]at this
theorem P40.pop3(h:P40 w0 X c hb qb rb r a b t d s M N w)(hp:M.Perm N):∃(f u:Nat) (e:Int) (M' N':List (Nat×Nat)),M'.Perm N' ∧
  Calls prog 7 #[pP qb] w (EH w0 X c hb qb rb r a b t d s w (.tuple #[.float .f64 f,uU u,iI e]) M' N) ∧
  ∀W,P40 w0 X c hb qb rb r a b t d s M' N W->Calls prog 50 #[pP rb] W (EH w0 X c hb qb rb r a b t d s W (.tuple #[.agg #[uU f,uU u],iI e]) M' N'):=by
 by_cases hM:M=[]
 ·subst hM;have:=hp.symm.eq_nil;subst this;refine⟨0,0,6,[],[],.nil,h.qu λK hq=>hq.pop_no.mono ?_,λW hW=>hW.rd λR x hr=>JYX hr⟩;rintro e w' ⟨rfl,rfl⟩;exact⟨rfl,.refl _ _,hq⟩
 ·obtain⟨f,u,M',N',h1,-,h2,h3⟩:=h.pop2 hp hM;exact⟨f,u,0,M',N',h1,h2,h3⟩
theorem P40.peek3(h:P40 w0 X c hb qb rb r a b t d s M N w)(hp:M.Perm N):∃(f u:Nat) (e:Int),
  Calls prog 8 #[pP qb] w (EH w0 X c hb qb rb r a b t d s w (.tuple #[.float .f64 f,uU u,iI e]) M N) ∧
  ∀W,P40 w0 X c hb qb rb r a b t d s M N W->Calls prog 51 #[pP rb] W (EH w0 X c hb qb rb r a b t d s W (.tuple #[.agg #[uU f,uU u],iI e]) M N):=by
 by_cases hM:M=[]
 ·subst hM;have:=hp.symm.eq_nil;subst this;refine⟨0,0,6,h.qu λK hq=>hq.peek_no.mono ?_,λW hW=>hW.rd λR x hr=>Jif hr⟩;rintro e w' ⟨rfl,rfl⟩;exact⟨rfl,.refl _ _,hq⟩
 ·obtain⟨f,u,h1,h2⟩:=h.peek2 hp hM;exact⟨f,u,0,h1,h2⟩
theorem P40.step(h:P40 w0 X c hb qb rb r a b t d s M N w):Calls prog 15 #[pP hb] w λe w'=>∃z:Bool,EH w0 X c hb qb rb r a b t d s w (.bool z) M N e w':=by
 obtain⟨⟨K,R,⟨⟨gg,T,q,p⟩,hq⟩,⟨z,h2⟩,h3,h4⟩,ht⟩:=h;refine q.hv.step.mono ?_;rintro e w' ⟨bb,rfl,t',hl⟩;exact⟨bb,rfl,t'.mono (λk _ e hx=>e.2 (h4 k hx).1),⟨K,R,⟨⟨gg,T,q.next t' hl,p⟩,hq⟩,⟨z,h2.touch t' (λk hk e=>e.2 (h3 k hk).1)⟩,h3,h4⟩,ht⟩
theorem P40.rr(h:P40 w0 X c hb qb rb r a b t d s M N w):∃A cp,Rec w rb 57 [.slice A N.length cp,iI (c.wd/5:Nat)]:=by
 obtain⟨⟨K,R,h1,⟨x,h2⟩,h3⟩,ht⟩:=h;obtain⟨A,cp,rfl,-,-⟩:=DF h2.own;exact⟨A,cp,h2.row⟩
theorem P40.len2(h:P40 w0 X c hb qb rb r a b t d s M N w)(hp:M.Perm N):∃A cp,∀W,Gr w W->Rec W rb 57 [.slice A N.length cp,iI (c.wd/5:Nat)]/\Calls prog 11 #[pP qb] W λe w'=>EH w0 X c hb qb rb r a b t d s W (iI N.length) M N e w'/\Rec w' rb 57 [.slice A N.length cp,iI (c.wd/5:Nat)]:=by
 obtain⟨A,cp,hr⟩:=h.rr;refine⟨A,cp,λW g=>⟨hr.gr g,?_⟩⟩;have hg:=h.gr g;obtain⟨⟨K,R,h1,h2⟩,ht⟩:=h;have hl:=(h1.gr g).len;rw[hp.length_eq]at hl;refine hl.mono ?_;rintro e w' ⟨rfl,rfl⟩;exact⟨⟨rfl,.refl _ _,hg⟩,hr.gr g⟩
theorem P40.live2(h:P40 w0 X c hb qb rb r a b t d s M N w)(hp:M.Perm N):Calls prog 19 #[pP hb] w (EH w0 X c hb qb rb r a b t d s w (.tuple #[iI N.length,iI (5*N.length:Nat)]) M N):=by
 rw[<-hp.length_eq];exact h.qu λK hq=>hq.live
structure M40(w0 w:World)(X:Nat->Prop)(c:HCf)(hb qb rb r a b t d s:Nat)(x:DD)(M N:List (Nat×Nat))(xs:List Value)(wx:World):Prop where
 p:P40 w0 (λk=>X k\/k=w.heap.size\/k=w.heap.size+1) c hb qb rb r a b t d s M N wx
 a:Rec wx w.heap.size 24 x.L
 x:Rec wx (w.heap.size+1) 104 xs
 t:AB (λk=>¬X k) w wx
 l:∀k,X k->k<w.heap.size
theorem M40.start(h:P40 w0 X c hb qb rb r a b t d s M N w)(x:DD):M40 w0 w X c hb qb rb r a b t d s x M N [uU 0,uU 0] ((w.alloc (.cells x.L.toArray 24)).alloc (.cells #[.int .u64 0,.int .u64 0] 104)):=by
 have g1:=(Gr.refl w).alloc (.cells x.L.toArray 24);have g2:=(Gr.refl (w.alloc (.cells x.L.toArray 24))).alloc (.cells #[.int .u64 0,.int .u64 0] 104);have s1:=χ w (.cells x.L.toArray 24);have s2:=χ (w.alloc (.cells x.L.toArray 24)) (.cells #[.int .u64 0,.int .u64 0] 104);refine⟨h.own (g1.trans g2) (λk hk=>hk.imp id (λe=>⟨by omega,by omega⟩)),(Rec.new w _ x.L).gr g2,?_,(g1.trans g2).touch _,λk hk=>h.lt hk⟩;have:=Rec.new (w.alloc (.cells x.L.toArray 24)) 104 [uU 0,uU 0];rw[s1]at this;exact this
theorem M40.to(h:M40 w0 w X c hb qb rb r a b t d s x M N xs wx)(t':AB (λk=>¬(X k\/k=w.heap.size\/k=w.heap.size+1)) wx w')(p:P40 w0 (λk=>X k\/k=w.heap.size\/k=w.heap.size+1) c hb qb rb r a b t d s M' N' w'):M40 w0 w X c hb qb rb r a b t d s x M' N' xs w':=
 ⟨p,h.a.touch t' (λe=>e (.inr (.inl rfl))),h.x.touch t' (λe=>e (.inr (.inr rfl))),h.t.trans (t'.mono (λ_ _ e hx=>e (.inl hx))),h.l⟩
theorem M40.gr(h:M40 w0 w X c hb qb rb r a b t d s x M N xs wx)(g:Gr wx w'):M40 w0 w X c hb qb rb r a b t d s x M N xs w':=h.to (g.touch _) (h.p.gr g)
theorem M40.set{y0:Value}(h:M40 w0 w X c hb qb rb r a b t d s x M N [x0,x1] wx):M40 w0 w X c hb qb rb r a b t d s x M N [y0,y1] ((wx.setCell ⟨w.heap.size+1,0,none⟩ y0).setCell ⟨w.heap.size+1,1,none⟩ y1):=by
 have t':=(((AB.refl (λk=>k=w.heap.size+1) wx).setCell (a:=⟨w.heap.size+1,0,none⟩) (λ_=>rfl) y0).setCell (a:=⟨w.heap.size+1,1,none⟩) (λ_=>rfl) y1);exact⟨h.p.wr (t'.mono (λ_ _ e=>.inr (.inr e))),h.a.touch t' Ω,((h.x.set 0 y0).set 1 y1),h.t.trans (t'.mono (λk _ e hx=>by have:=h.l k hx;omega)),h.l⟩
theorem M40.set1(h:M40 w0 w X c hb qb rb r a b t d s x M N [x0,x1] wx):M40 w0 w X c hb qb rb r a b t d s x M N [x0,y1] (wx.setCell ⟨w.heap.size+1,1,none⟩ y1):=by
 have t':=((AB.refl (λk=>k=w.heap.size+1) wx).setCell (a:=⟨w.heap.size+1,1,none⟩) (λ_=>rfl) y1);exact⟨h.p.wr (t'.mono (λ_ _ e=>.inr (.inr e))),h.a.touch t' Ω,h.x.set 1 y1,h.t.trans (t'.mono (λk _ e hx=>by have:=h.l k hx;omega)),h.l⟩
def Xin(w0 w:World)(X:Nat->Prop)(c:HCf)(hb qb rb r a b t d s:Nat)(x:DD)(v:Value)(M N:List (Nat×Nat))(xs:List Value)(e:Ending)(w':World):Prop:=e=.returned v/\M40 w0 w X c hb qb rb r a b t d s x M N xs w'
theorem M40.ask(h:M40 w0 w X c hb qb rb r a b t d s x M N xs wx)(hc:Calls prog f args wx (EH w0 (λk=>X k\/k=w.heap.size\/k=w.heap.size+1) c hb qb rb r a b t d s wx v M' N')):Calls prog f args wx (Xin w0 w X c hb qb rb r a b t d s x v M' N' xs):=
 hc.mono (λ_ _ ⟨e,t,p⟩=>⟨e,h.to t p⟩)
theorem BF{a b:Int}(h:¬a=b):(a==b)=false:=ζy.2 h
theorem IK{a b:Int}(h:a=b):(a==b)=true:=ζ1.2 h
def J40(w0 w:World)(X:Nat->Prop)(c:HCf)(hb qb rb r a b t d s:Nat)(x:DD)(s1 s2 s3 s4:Value)(wx:World):Prop:=
 ∃(f u:Nat) (e:Int) (M' N':List (Nat×Nat)),M'.Perm N'/\s1=uU u/\s2=.float .f64 f/\s3=iI e/\s4=iI e/\Hid (M40 w0 w X c hb qb rb r a b t d s x M' N' [uU f,uU u] wx)
--DO40
theorem ZrY(h:P40 w0 X c hb qb rb r a b t d s M N w)(hp:M.Perm N)(y:DD)(ha:y.Bd):Calls prog 21 #[pP hb,pP qb,pP rb,.agg y.L.toArray] w λe w'=>e=.returned (.bool true)/\AB (λk=>¬X k) w w'/\∃M' N',M'.Perm N'/\P40 w0 X c hb qb rb r a b t d s M' N' w':=by
 have Xb:Hid (N.length<=1000000):=⟨h.len_le2 hp⟩;have Y:=ι hp;obtain⟨kd,af,aw⟩:=y;have HA:=ι ha;have HM:=ι (M40.start h ⟨kd,af,aw⟩);have Xc:=ha.kd;dsimp only at Xc;obtain⟨m,hm⟩:∃m,m=kd%16:=⟨_,rfl⟩;have hm16:m<16:=Ω
 have hmod:(kd:Int).tmod 16=(m:Int):=by rw[hm];rfl
 obtain⟨w1,G⟩:∃w1,w1=(w.alloc (.cells (DD.L ⟨kd,af,aw⟩).toArray 24)).alloc (.cells #[.int .u64 0,.int .u64 0] 104):=⟨_,rfl⟩;have E:=ι G;rw[<-G]at HM;have k0:=HM.o.a.cc 0;have kl:=HM.o.a.lt;unfold DD.L at E⊢;dsimp only at E k0⊢;clear h hp ha G hm;go_enter func21,ntmps21;go_upto_region 4 with(fail);rw[<-E.o];clear E
 go_upto_block 0 with(fail)
 go_cut [9,10,12,13] (λs9 s10 s12 s13 wx=>J40 w0 w X c hb qb rb r a b t d s ⟨kd,af,aw⟩ s9 s10 s12 s13 wx)
 case first=>
  rcases(by omega:m<7\/m=7\/m=8\/m=9\/m=10\/m=11\/m=12\/m=13\/m=14\/m=15)with hm|hm|hm|hm|hm|hm|hm|hm|hm|hm
  ·obtain⟨e,M2,N2,hq,h1,h2⟩:=HM.o.p.push2 Y.o HA.o.f HA.o.w;have HQ:=ι hq;have H1:=ι h1;have H2:=ι h2;clear hq h1 h2;have d7:((m:Int)==7)=false:=BF Ω;have d8:((m:Int)==8)=false:=BF Ω;have d9:((m:Int)==9)=false:=BF Ω;have V:((m:Int)==10)=false:=BF Ω;have O:((m:Int)==11)=false:=BF Ω;have I:((m:Int)==12)=false:=BF Ω;have D:((m:Int)==13)=false:=BF Ω;have Xa:((m:Int)==14)=false:=BF Ω;have Xd:((m:Int)==15)=false:=BF Ω;clear hm;go_upto_region 6 with(fail);clear k0 kl;obtain⟨Sx,J,HS⟩:=AA.start λW'=>Rec W' w.heap.size 24 (DD.L ⟨kd,af,aw⟩);have y1:=AA.fact J λ_ h=>h.cell (j:=1) rfl;have y2:=AA.fact J λ_ h=>h.cell (j:=2) rfl;have Z:=HS.o _ (HM.o.a.gr (Gr.refl _).drew);have U:Inhabited (AA Sx):=⟨⟨_,Z⟩⟩;clear J;refine AV Sx 15 [([0,1,2,4,5,7,8,9,10,11],3),([],6),([],12)] [13,14] Z ?_;refine AH ?_;go_wp2_with((go_at_call 10;refine AK (M6 _ _) ?_));refine⟨.inr (AA.of (HS.o _ (HM.o.a.gr (Gr.refl _).drew))),?_⟩;refine AH ?_;go_wp2_with((go_at_call 9;refine((HM.o.gr (Gr.refl _).drew).ask (H1.o _ (Gr.refl _).drew)).mono ?_;rintro e w2 ⟨rfl,hm⟩;have H3:=ι hm;clear hm));refine⟨.inr (AA.of (HS.o _ (H3.o.a))),?_⟩;refine AH ?_;go_wp2_with((go_at_call 54;refine(H3.o.ask (H2.o _ H3.o.p)).mono ?_;rintro e w3 ⟨rfl,hm⟩;have H4:=ι hm;clear hm));refine⟨.inr (AA.of (HS.o _ (H4.o.a))),?_⟩;refine BG ?_;clear y1 y2 Z U;clear HS Sx;go_wp2
   go_meet
   case rel=>exact⟨0,0,e,M2,N2,HQ.o,rfl,rfl,rfl,rfl,H4⟩
  ·have d7:((m:Int)==7)=true:=IK Ω;clear hm;obtain⟨f,u,e,M2,N2,hq,h1,h2⟩:=HM.o.p.pop3 Y.o;have HQ:=ι hq;have H1:=ι h1;have H2:=ι h2;clear hq h1 h2
   go_wp2_with(first
    | (go_at_call 50;refine(H3.o.ask (H2.o _ H3.o.p)).mono ?_;rintro e w3 ⟨rfl,hm⟩;have H4:=ι hm;have z0:=H4.o.x.cc 0;have z1:=H4.o.x.cc 1;have zf:=H4.o.x.free;have zl:=H4.o.x.lt;clear hm)
    | (go_at_call 7;refine(HM.o.ask H1.o).mono ?_;rintro e w2 ⟨rfl,hm⟩;have H3:=ι hm;clear hm))
   go_meet
   case rel=>exact⟨f,u,e,M2,N2,HQ.o,rfl,rfl,rfl,rfl,⟨H4.o.set⟩⟩
  ·have d7:((m:Int)==7)=false:=BF Ω;have d8:((m:Int)==8)=true:=IK Ω;clear hm;obtain⟨f,u,e,M2,N2,hq,h1,h2⟩:=HM.o.p.pop3 Y.o;have HQ:=ι hq;have H1:=ι h1;have H2:=ι h2;clear hq h1 h2
   go_wp2_with(first
    | (go_at_call 50;refine(H3.o.ask (H2.o _ H3.o.p)).mono ?_;rintro e w3 ⟨rfl,hm⟩;have H4:=ι hm;have z0:=H4.o.x.cc 0;have z1:=H4.o.x.cc 1;have zf:=H4.o.x.free;have zl:=H4.o.x.lt;clear hm)
    | (go_at_call 7;refine(HM.o.ask H1.o).mono ?_;rintro e w2 ⟨rfl,hm⟩;have H3:=ι hm;clear hm))
   go_meet
   case rel=>exact⟨f,u,e,M2,N2,HQ.o,rfl,rfl,rfl,rfl,⟨H4.o.set⟩⟩
  ·have d7:((m:Int)==7)=false:=BF Ω;have d8:((m:Int)==8)=false:=BF Ω;have d9:((m:Int)==9)=true:=IK Ω;clear hm;obtain⟨f,u,e,M2,N2,hq,h1,h2⟩:=HM.o.p.pop3 Y.o;have HQ:=ι hq;have H1:=ι h1;have H2:=ι h2;clear hq h1 h2
   go_wp2_with(first
    | (go_at_call 50;refine(H3.o.ask (H2.o _ H3.o.p)).mono ?_;rintro e w3 ⟨rfl,hm⟩;have H4:=ι hm;have z0:=H4.o.x.cc 0;have z1:=H4.o.x.cc 1;have zf:=H4.o.x.free;have zl:=H4.o.x.lt;clear hm)
    | (go_at_call 7;refine(HM.o.ask H1.o).mono ?_;rintro e w2 ⟨rfl,hm⟩;have H3:=ι hm;clear hm))
   go_meet
   case rel=>exact⟨f,u,e,M2,N2,HQ.o,rfl,rfl,rfl,rfl,⟨H4.o.set⟩⟩
  ·have d7:((m:Int)==7)=false:=BF Ω;have d8:((m:Int)==8)=false:=BF Ω;have d9:((m:Int)==9)=false:=BF Ω;have V:((m:Int)==10)=true:=IK Ω;clear hm;obtain⟨f,u,e,h1,h2⟩:=HM.o.p.peek3 Y.o;have H1:=ι h1;have H2:=ι h2;clear h1 h2
   go_wp2_with(first
    | (go_at_call 51;refine(H3.o.ask (H2.o _ H3.o.p)).mono ?_;rintro e w3 ⟨rfl,hm⟩;have H4:=ι hm;have z0:=H4.o.x.cc 0;have z1:=H4.o.x.cc 1;have zf:=H4.o.x.free;have zl:=H4.o.x.lt;clear hm)
    | (go_at_call 8;refine(HM.o.ask H1.o).mono ?_;rintro e w2 ⟨rfl,hm⟩;have H3:=ι hm;clear hm))
   go_meet
   case rel=>exact⟨f,u,e,M,N,Y.o,rfl,rfl,rfl,rfl,⟨H4.o.set⟩⟩
  ·have d7:((m:Int)==7)=false:=BF Ω;have d8:((m:Int)==8)=false:=BF Ω;have d9:((m:Int)==9)=false:=BF Ω;have V:((m:Int)==10)=false:=BF Ω;have O:((m:Int)==11)=true:=IK Ω;clear hm;obtain⟨A,cp,hl⟩:=HM.o.p.len2 Y.o;have HL:=ι hl;have u1:IntKind.u64.wrap (N.length:Int)=N.length:=by have:=Xb.o;exact LE _ Ω
   go_upto_region 16 with(fail);clear k0 kl hl;obtain⟨Sx,J,HS⟩:=AA.start λW'=>Rec W' rb 57 [.slice A N.length cp,iI (c.wd/5:Nat)];have y0:=AA.fact J λ_ h=>h.cell (j:=0) rfl;have Z:=HS.o _ ((HL.o _ (Gr.refl _).drew).1);have U:Inhabited (AA Sx):=⟨⟨_,Z⟩⟩;clear J;refine AV Sx 11 [([0,3,4,5,6,7,8],1),([2,9,10],11)] [] Z ?_;refine AH ?_;go_wp2_with((go_at_call 11;refine((HL.o _ (Gr.refl _).drew).2).mono ?_;rintro e w2 ⟨⟨rfl,hm⟩,hr⟩;have H3:=ι ((HM.o.gr (Gr.refl _).drew).to hm.1 hm.2);have HR:=ι hr;have z1:=H3.o.x.cc 1;have zf:=H3.o.x.free;have zl:=H3.o.x.lt;clear hm hr));refine⟨.inr (AA.of (HS.o _ (HR.o))),?_⟩;refine AH ?_;go_wp2;refine⟨.inl trivial,?_⟩;refine EN ?_;refine ζb ?_;refine ζA ?_;clear y0 Z U;clear HS Sx;go_wp2
   go_meet
   case rel=>exact⟨0,N.length,0,M,N,Y.o,rfl,rfl,rfl,rfl,⟨H3.o.set1⟩⟩
  ·have d7:((m:Int)==7)=false:=BF Ω;have d8:((m:Int)==8)=false:=BF Ω;have d9:((m:Int)==9)=false:=BF Ω;have V:((m:Int)==10)=false:=BF Ω;have O:((m:Int)==11)=false:=BF Ω;have I:((m:Int)==12)=true:=IK Ω;clear hm;have H1:=ι (HM.o.ask (HM.o.p.qu λ_ hq=>hq.heap λ_ hv=>hv.coll));go_wp2_with(go_at_call 52;refine(H1.o).mono ?_;rintro e w2 ⟨rfl,hm⟩;have H2:=ι hm;clear hm)
   go_meet
   case rel=>exact⟨0,0,0,M,N,Y.o,rfl,rfl,rfl,rfl,H2⟩
  ·have d7:((m:Int)==7)=false:=BF Ω;have d8:((m:Int)==8)=false:=BF Ω;have d9:((m:Int)==9)=false:=BF Ω;have V:((m:Int)==10)=false:=BF Ω;have O:((m:Int)==11)=false:=BF Ω;have I:((m:Int)==12)=false:=BF Ω;have D:((m:Int)==13)=true:=IK Ω;clear hm;have H1:=ι (HM.o.ask (HM.o.p.qu λ_ hq=>hq.heap λ_ hv=>hv.start));go_wp2_with(go_at_call 53;refine(H1.o).mono ?_;rintro e w2 ⟨rfl,hm⟩;have H2:=ι hm;clear hm)
   go_meet
   case rel=>exact⟨0,0,0,M,N,Y.o,rfl,rfl,rfl,rfl,H2⟩
  ·have d7:((m:Int)==7)=false:=BF Ω;have d8:((m:Int)==8)=false:=BF Ω;have d9:((m:Int)==9)=false:=BF Ω;have V:((m:Int)==10)=false:=BF Ω;have O:((m:Int)==11)=false:=BF Ω;have I:((m:Int)==12)=false:=BF Ω;have D:((m:Int)==13)=false:=BF Ω;have Xa:((m:Int)==14)=true:=IK Ω;clear hm;have H1:=ι HM.o.p.step;go_wp2_with(go_at_call 15;refine(H1.o).mono ?_;rintro e w2 ⟨z,rfl,hm⟩;have H2:=ι (HM.o.to hm.1 hm.2);clear hm)
   go_meet
   case rel=>exact⟨0,0,0,M,N,Y.o,rfl,rfl,rfl,rfl,H2⟩
  ·have d7:((m:Int)==7)=false:=BF Ω;have d8:((m:Int)==8)=false:=BF Ω;have d9:((m:Int)==9)=false:=BF Ω;have V:((m:Int)==10)=false:=BF Ω;have O:((m:Int)==11)=false:=BF Ω;have I:((m:Int)==12)=false:=BF Ω;have D:((m:Int)==13)=false:=BF Ω;have Xa:((m:Int)==14)=false:=BF Ω;have Xd:((m:Int)==15)=true:=IK Ω;clear hm;have H1:=ι HM.o.p.step;go_wp2_with(go_at_call 15;refine(H1.o).mono ?_;rintro e w2 ⟨z,rfl,hm⟩;have H2:=ι (HM.o.to hm.1 hm.2);clear hm)
   go_meet
   case rel=>exact⟨0,0,0,M,N,Y.o,rfl,rfl,rfl,rfl,H2⟩
 case rest=>
  obtain⟨f,u,e,M2,N2,B,rfl,rfl,rfl,rfl,HJ⟩:=hcut;have HQ:=ι B;clear B;go_wp2;obtain⟨Sx,J,HS⟩:=AA.start λW'=>Rec W' (w.heap.size+1) 104 [uU f,uU u];have y0:=AA.fact J λ_ h=>h.cell (j:=0) rfl;have y1:=AA.fact J λ_ h=>h.cell (j:=1) rfl;have Z:=HS.o _ (HJ.o.x.gr (Gr.refl _).drew);have U:Inhabited (AA Sx):=⟨⟨_,Z⟩⟩;clear J;refine AV Sx 17 [([0,1,2,3,4,5,7,8],6)] [9,10,11,12,13,14,15,16] Z ?_;refine AH ?_;go_wp2_with((go_at_call 18;refine AK (MY _ _) ?_));refine⟨.inr (AA.of (HS.o _ (HJ.o.x.gr (Gr.refl _).drew))),?_⟩;refine BG ?_;clear y0 y1 Z U;clear HS Sx;go_wp2;go_ret;have HE:=HJ.o.gr (Gr.refl wc).drew;exact⟨rfl,HE.t,M2,N2,HQ.o,HE.p.sub (λ_ h=>.inl h)⟩
end
theorem Qci{W:World}{c:CfI}(h:Rec W b 40 (E5 c)):W.cell? ⟨b,0,none⟩=some (iI c.kd)/\W.cell? ⟨b,1,none⟩=some (iI c.pg)/\W.cell? ⟨b,2,none⟩=some (iI c.bk)/\W.cell? ⟨b,3,none⟩=some (iI c.wd)/\W.cell? ⟨b,4,none⟩=some (iI c.sl)/\W.cell? ⟨b,5,none⟩=some (iI c.st)/\W.cell? ⟨b,6,none⟩=some (iI c.ah)/\W.cell? ⟨b,7,none⟩=some (.float .f64 c.tr)/\b<W.heap.size:=
 ⟨h.cc 0,h.cc 1,h.cc 2,h.cc 3,h.cc 4,h.cc 5,h.cc 6,h.cc 7,h.lt⟩
theorem YUJ(c:CfI){n:Nat}(hn:n<=120)(A:Option Addr)(cap:Nat)(w:World):Calls prog 13 #[c.V,.slice A n cap] w λe w'=>e=.returned (.bool (decide (2048<c.wd)))/\Gr w w':=by
 have hr:=Rec.new w 40 (E5 c);have HG:=ι ((Gr.refl w).alloc (.cells (E5 c).toArray 40));have c3:=hr.cc 3;have cl:=hr.lt;have hd:decide ((120:Int)<(n:Int))=false:=ζ Ω;unfold CfI.V;unfold E5 at c3 cl HG;clear hr hn;cases hb:decide ((2048:Int)<c.wd)
 all_goals
  go_enter func13,ntmps13;go_wp2;go_ret;exact⟨rfl,HG.o⟩
def R9:CfI:=⟨1,4,4,16,6,1,0,0⟩
def PM(k:Nat):List (Nat×Nat):=(([(9221120237041090560,5),(9223372036854775808,5),(0,5)]:List (Nat×Nat)).take k).reverse
theorem JYV(h:(PM 3).Perm ((f,u) :: M))(hl:∀p∈PM 3,leQ (f,u) p=true):f=9223372036854775808/\u=5/\M.Perm [(0,5),(9221120237041090560,5)]:=by
 have e:PM 3=[(0,5),(9223372036854775808,5),(9221120237041090560,5)]:=rfl;rw[e]at h hl;have hm:(f,u)∈[(0,5),(9223372036854775808,5),(9221120237041090560,5)]:=h.mem_iff.2 (ζh ..);simp only[ζD,ξW,or_false,Prod.mk.injEq]at hm;rcases hm with⟨rfl,rfl⟩|⟨rfl,rfl⟩|⟨rfl,rfl⟩
 ·exact absurd (hl (9223372036854775808,5) (by simp)) (by decide)
 ·exact⟨rfl,rfl,(((List.Perm.swap ..).trans h).cons_inv).symm⟩
 ·exact absurd (hl (9223372036854775808,5) (by simp)) (by decide)
theorem JWn{M':List (Nat×Nat)}(hM:M.Perm [(0,5),(9221120237041090560,5)])(h:M.Perm ((f,u) :: M'))(hl:∀p∈M,leQ (f,u) p=true):f=0/\M'.length=1:=by
 have hn:=(hM.symm.trans h).length_eq;have hm:(f,u)∈[(0,5),(9221120237041090560,5)]:=hM.mem_iff.1 (h.mem_iff.2 (ζh ..));have h0:=hl (0,5) (hM.mem_iff.2 (by simp));simp only[ζD,ξW,or_false,Prod.mk.injEq]at hm;rcases hm with⟨rfl,rfl⟩|⟨rfl,rfl⟩
 ·exact⟨rfl,by simpa using hn.symm⟩
 ·exact absurd h0 (by decide)
theorem V0X:R9.may=true:=by decide +kernel
theorem JT7(w:World)(hT:AQ w):Calls prog 12 #[] w λe w'=>e=.returned (.bool true)/\Gr w w':=by
 have G:=ι hT.lt;have U:=(Xcy R9 ⟨by show (4:Int)<=_;decide,by show (4:Int)<=_;decide,by show (16:Int)<=_;decide⟩ V0X w hT);obtain⟨d,hd⟩:∃d,d=R9.nat:=⟨_,rfl⟩;have HD:Hid (d.wd=16/\d.sl=6):=⟨by rw[hd];exact⟨rfl,rfl⟩⟩;rw[<-hd]at U;unfold CfI.V R9 at U;clear hT hd;go_enter func12,ntmps12;go_upto_region 2 with(go_at_call 14;refine(U).mono ?_;rintro e w1 ⟨s,rfl,hn⟩;have HN:=hn;clear hn);have J:=HLv.new HN;obtain⟨hb,I⟩:∃hb,hb=s.A.hp:=⟨_,rfl⟩;rw[<-I]at J⊢;have O:=VA J G.o 0 1 2 3 4 5;have hm:DR d.sl [0,1,2,3,4,5]=0:=by rw[HD.o.2];exact TQ (by decide) (by decide)
 rw[hm]at O;clear J I hm;go_upto_region 5 with(go_at_call 6;refine(O).mono ?_;rintro e w2 (⟨Xa,-⟩|⟨-,r,a,b,t,d',s',qb,rfl,ht,hl,-⟩);exact absurd rfl Xa;have HT:=ι ht;have HS:=ι hl;clear ht hl);have i0:∀V,(Instr.index 75 (.agg #[uU 9221120237041090560,uU 9223372036854775808,uU 0]) (iI 0)).run prog V=.ok (uU 9221120237041090560) V:=λ_=>by kernel_rfl
 have i1:∀V,(Instr.index 75 (.agg #[uU 9221120237041090560,uU 9223372036854775808,uU 0]) (iI 1)).run prog V=.ok (uU 9223372036854775808) V:=λ_=>by kernel_rfl
 have i2:∀V,(Instr.index 75 (.agg #[uU 9221120237041090560,uU 9223372036854775808,uU 0]) (iI 2)).run prog V=.ok (uU 0) V:=λ_=>by kernel_rfl
 go_upto_region 6 with(fail)
 go_loopw [31] (λs31 wr=>∃k:Nat,k<=3/\Hid (BQ w (λk=>False\/k=qb) d hb qb r a b t d' s' (PM k) wr)/\s31=iI k) (λs31 _=>3-(intOf s31).toNat)
 case atStart=>exact⟨0,by omega,HS,rfl⟩
 case round=>
  clear HS HT;obtain⟨k,hk,HS,rfl⟩:=hrel;by_cases Y:k<3
  ·have B:k=0\/k=1\/k=2:=Ω
   clear Y hk;rcases B with rfl|rfl|rfl
   ·have HP:=HS.o.push (x:=9221120237041090560) (y:=5) (by decide) (by decide);rw[φ (by rw[HD.o.1];decide),φ (by rw[HD.o.1];decide)]at HP
    go_wp2_with(first
     | (go_at_call 10;refine AK (M6 _ _) ?_)
     | (go_at_call 9;refine HP.mono ?_;rintro e w3 ⟨rfl,ht,hl⟩;have Z:=ι hl;clear ht hl))
    go_round
    case rel=>exact⟨1,by omega,Z,by go_num⟩
    case measure=>simp[intOf]
   ·have HP:=HS.o.push (x:=9223372036854775808) (y:=5) (by decide) (by decide);rw[φ (by rw[HD.o.1];decide),φ (by rw[HD.o.1];decide)]at HP
    go_wp2_with(first
     | (go_at_call 10;refine AK (M6 _ _) ?_)
     | (go_at_call 9;refine HP.mono ?_;rintro e w3 ⟨rfl,ht,hl⟩;have Z:=ι hl;clear ht hl))
    go_round
    case rel=>exact⟨2,by omega,Z,by go_num⟩
    case measure=>simp[intOf]
   ·have HP:=HS.o.push (x:=0) (y:=5) (by decide) (by decide);rw[φ (by rw[HD.o.1];decide),φ (by rw[HD.o.1];decide)]at HP
    go_wp2_with(first
     | (go_at_call 10;refine AK (M6 _ _) ?_)
     | (go_at_call 9;refine HP.mono ?_;rintro e w3 ⟨rfl,ht,hl⟩;have Z:=ι hl;clear ht hl))
    go_round
    case rel=>exact⟨3,by omega,Z,by go_num⟩
    case measure=>simp[intOf]
  ·obtain rfl:k=3:=Ω
   clear Y hk;obtain⟨f,u,M,h1,h2,HP⟩:=HS.o.pop (by decide);obtain⟨rfl,rfl,h3⟩:=JYV h1 h2;clear h1 h2;have H3:=ι h3;clear h3;go_upto_region 12 with(go_at_call 7;refine HP.mono ?_;rintro e w3 ⟨rfl,ht,hl⟩;have D:=ι hl;clear ht hl);clear HP HS;obtain⟨f,u,M',h1,h2,HP⟩:=D.o.pop (λe=>by have:=H3.o.length_eq;rw[e]at this;cases this);obtain⟨rfl,h4⟩:=JWn H3.o h1 h2;clear h1 h2 H3;go_upto_region 13 with(go_at_call 7;refine HP.mono ?_;rintro e w4 ⟨rfl,ht,hl⟩;have E:=ι hl;clear ht hl);clear HP D;have L:=ι E.o.len;rw[h4]at L
   go_wp2_with(first
    | (go_at_call 18;refine AK (MY _ _) ?_)
    | (go_at_call 11;refine AK (L.o) ?_))
   go_ret;exact⟨rfl,E.o.grew⟩
section
variable{t:Nat}
theorem P40.new(h:BQ w K c hb qb r a b t d s [] w')(ht:1<w.heap.size):P40 w (λ_=>False) c hb qb w'.heap.size r a b t d s [] [] (w'.alloc (.cells #[.slice none 0 0,.int .i64 (c.wd/5:Nat)] 57)):=by
 have g:=(Gr.refl w').alloc (.cells #[.slice none 0 0,.int .i64 (c.wd/5:Nat)] 57);have hz:=h.grew.size;have hlb:=h.lt;have hr:=Rec.new w' 57 [.slice none 0 0,iI (c.wd/5:Nat)];refine⟨⟨_,λk=>k=w'.heap.size,h.wr (g.touch (λ_=>False)) (λ_ h=>h.elim) ht,⟨.slice none 0 0,hr,GR _ _ _ _,rfl,λg hg=>by cases hg⟩,λk hk=>?_,λ_ h=>h.elim⟩,ht⟩;subst hk;exact⟨.inr ⟨ϑ _,hr.lt⟩,by omega,by omega⟩
end
theorem JFf(h:HLv w0 K c hb (Gph.nil c.sl) w)(hw0:1<w0.heap.size)(x0 x1 x2 x3 x4 x5:Int)(hq:DR c.sl [x0,x1,x2,x3,x4,x5]≠0):Calls prog 6 #[pP hb,iI x0,.agg #[iI x1,iI x2,iI x3,iI x4,iI x5]] w λe w'=>e=.returned (.tuple #[.pointer none,iI (DR c.sl [x0,x1,x2,x3,x4,x5])])/\Gr w w':=by
 refine(VA h hw0 x0 x1 x2 x3 x4 x5).mono ?_;rintro e w' (⟨-,h⟩|⟨h,-⟩)
 ·exact h
 ·exact absurd h hq
theorem VM7(h:HLv w0 K c hb (Gph.nil c.sl) w)(hw0:1<w0.heap.size)(x0 x1 x2 x3 x4 x5:Int)(hq:DR c.sl [x0,x1,x2,x3,x4,x5]=0):Calls prog 6 #[pP hb,iI x0,.agg #[iI x1,iI x2,iI x3,iI x4,iI x5]] w λe w'=>∃r a b t d s qb:Nat,e=.returned (.tuple #[pP qb,iI 0])/\BQ w0 (λk=>K k\/k=qb) c hb qb r a b t d s [] w':=by
 refine(VA h hw0 x0 x1 x2 x3 x4 x5).mono ?_;rintro e w' (⟨h,-⟩|⟨-,r,a,b,t,d,s,qb,h1,-,h2,-⟩)
 ·exact absurd hq h
 ·exact⟨r,a,b,t,d,s,qb,h1,h2⟩
theorem XET(hT:AQ w)(c:CfI)(hc:c.Bd)(y0 y1 y2 y3 y4 y5:Int){A:Option Addr}{cap:Nat}{l:List DD}(hA:OV w A l)(hl:l.length<=maxLen):Calls prog 5 #[c.V,.agg #[iI y0,iI y1,iI y2,iI y3,iI y4,iI y5],.slice A l.length cap] w λe w'=>e=.returned (.bool true)/\Gr w w':=by
 unfold maxLen at hl;obtain⟨w1,Xb⟩:∃w1,w1=(w.alloc (.cells (E5 c).toArray 40)).alloc (.cells #[.int .i64 y0,.int .i64 y1,.int .i64 y2,.int .i64 y3,.int .i64 y4,.int .i64 y5] 51):=⟨_,rfl⟩;have Xg:Hid (Gr w w1):=⟨by rw[Xb];exact((Gr.refl w).alloc _).alloc _⟩;have Xc:Hid (Rec w1 w.heap.size 40 (E5 c)):=⟨by rw[Xb];exact(Rec.new w _ (E5 c)).gr ((Gr.refl _).alloc _)⟩
 have D:Hid (Rec w1 (w.heap.size+1) 51 [iI y0,iI y1,iI y2,iI y3,iI y4,iI y5]):=⟨by
  have:=Rec.new (w.alloc (.cells (E5 c).toArray 40)) 51 [iI y0,iI y1,iI y2,iI y3,iI y4,iI y5];rw[χ]at this
  rw[Xb];exact this⟩
 have HL:=ι (λ(V:World) (g:Gr w V)=>JT7 V (g.tab hT.lt hT));have Xz:Hid (∀V,Gr w V->1<V.heap.size):=⟨λV g=>κ hT.lt g.size⟩;have E:=ι Xb;have HA:=ι hA;obtain⟨N,hN⟩:∃N,N=l.length:=⟨_,rfl⟩;have HN:=ι hN;rw[<-hN]at hl⊢;have J:=ι (λ(V:World)=>YUJ c (n:=0) Ω none 0 V);have Yi:=ι (λ(V:World) (g:Gr w1 V)=>Qci (Xc.o.gr g));obtain⟨b0,b1,b2,b3,b4,b5,b6,b7,bl⟩:=Qci Xc.o;have Xf:Hid (∀V,Gr w1 V->V.cell? ⟨w.heap.size,3,none⟩=some (iI c.wd)/\V.cell? ⟨w.heap.size,4,none⟩=some (iI c.sl)/\w.heap.size<V.heap.size):=⟨λV g=>⟨(Xc.o.gr g).cell (j:=3) rfl,(Xc.o.gr g).cell (j:=4) rfl,(Xc.o.gr g).lt⟩⟩;have Xp:Hid (∀V,Gr w1 V->V.cell? ⟨w.heap.size+1,0,none⟩=some (iI y0)/\V.cell? ⟨w.heap.size+1,1,none⟩=some (iI y1)/\V.cell? ⟨w.heap.size+1,2,none⟩=some (iI y2)/\V.cell? ⟨w.heap.size+1,3,none⟩=some (iI y3)/\V.cell? ⟨w.heap.size+1,4,none⟩=some (iI y4)/\V.cell? ⟨w.heap.size+1,5,none⟩=some (iI y5)/\w.heap.size+1<V.heap.size):=⟨λV g=>⟨(D.o.gr g).cell (j:=0) rfl,(D.o.gr g).cell (j:=1) rfl,(D.o.gr g).cell (j:=2) rfl,(D.o.gr g).cell (j:=3) rfl,(D.o.gr g).cell (j:=4) rfl,(D.o.gr g).cell (j:=5) rfl,(D.o.gr g).lt⟩⟩;have B:Hid (∀V,Gr w V->c.may=true->Calls prog 14 #[c.V] V λe w'=>∃s,e=.returned (.tuple #[pP s.A.hp,iI 0])/\X2 V c.nat s w'):=⟨λV g hm=>Xcy c hc hm V (g.tab hT.lt hT)⟩;have Xe:=ι (λ(V:World) hm=>YnZ c hc hm V);clear Xb hA hN hc;by_cases hf:2048<c.wd
 ·have d0:decide (2048<c.wd)=true:=ξ hf;rw[d0]at J;unfold CfI.V at J⊢;unfold E5 at E;clear hf d0;go_enter func5,ntmps5;go_upto_region 1 with(fail);rw[<-E.o]
  go_wp2_with(first
   | (go_at_call 13;refine(J.o _).mono ?_;rintro e w2 ⟨rfl,hg⟩;have Y:=ι (Xg.o.trans hg);clear hg)
   | (go_at_call 12;refine(HL.o _ Y.o).mono ?_;rintro e w3 ⟨rfl,hg⟩;have Z:=ι (Y.o.trans hg);clear hg))
  go_ret;exact⟨rfl,Z.o⟩
 have d0:decide (2048<c.wd)=false:=ζ hf;rw[d0]at J;by_cases hn:60<N
 ·have Yp:(60:Int)<(N:Int):=Ω
  unfold CfI.V at J⊢;unfold E5 at E;clear hf hn d0;go_enter func5,ntmps5;go_upto_region 1 with(fail);rw[<-E.o]
  go_wp2_with(first
   | (go_at_call 13;refine(J.o _).mono ?_;rintro e w2 ⟨rfl,hg⟩;have Y:=ι (Xg.o.trans hg);clear hg)
   | (go_at_call 12;refine(HL.o _ Y.o).mono ?_;rintro e w3 ⟨rfl,hg⟩;have Z:=ι (Y.o.trans hg);clear hg))
  go_ret;exact⟨rfl,Z.o⟩
 have Yp:¬(60:Int)<(N:Int):=Ω
 by_cases hm:c.may=true
 case neg=>
  have Xe:=ι (λV=>Xe.o V (by simpa using hm));unfold CfI.V at J Xe⊢;unfold E5 at E;clear hf hn d0 hm B;go_enter func5,ntmps5;go_upto_region 1 with(fail);rw[<-E.o]
  go_wp2_with(first
   | (go_at_call 13;refine(J.o _).mono ?_;rintro e w2 ⟨rfl,hg⟩;have Y:=ι hg;obtain⟨a0,a1,a2,a3,a4,a5,a6,a7,al⟩:=Yi.o _ hg;clear hg)
   | (go_at_call 14;refine(Xe.o _).mono ?_;rintro e w3 ⟨rfl,hg⟩;have Z:=ι ((Xg.o.trans Y.o).trans hg);clear hg)
   | (go_at_call 12;refine(HL.o _ Z.o).mono ?_;rintro e w4 ⟨rfl,hg⟩;have G:=ι (Z.o.trans hg);clear hg))
  go_ret;exact⟨rfl,G.o⟩
 obtain⟨d,hd⟩:∃d,d=c.nat:=⟨_,rfl⟩;have Xw:=CfI.base_in (c:=c) (by unfold CfI.may at hm;simp at hm;exact hm.1);have Xt:c.wd=(d.wd:Int):=by rw[hd];exact(ξA (by have:=I1 Xw.1.2.2.2.2.1;omega)).symm
 have Yk:c.sl=(d.sl:Int):=by rw[hd];exact(ξA (by have:=Xw.2.1;omega)).symm
 have B:=ι (λV g=>B.o V g hm);rw[<-hd]at B;rw[Xt,Yk]at Xf;rw[Xt]at hf;have HD:Hid (d.wd<=2048):=⟨by omega⟩;have Xa:=ι (λV=>XxL (d.sl:Int) y0 y1 y2 y3 y4 y5 V);have HTW:=ι hT.lt;unfold CfI.V at J B⊢;unfold E5 at E;clear hf hn d0 hm Xe Xw Xt Yk hd;go_enter func5,ntmps5;go_upto_region 1 with(fail);rw[<-E.o]
 go_upto_region 4 with(first
  | (go_at_call 13;refine(J.o _).mono ?_;rintro e w2 ⟨rfl,hg⟩;have Y:=ι hg;obtain⟨a0,a1,a2,a3,a4,a5,a6,a7,al⟩:=Yi.o _ hg;clear hg)
  | (go_at_call 14;refine(B.o _ (Xg.o.trans Y.o)).mono ?_;rintro e w3 ⟨s,rfl,hn⟩;have Xl:=ι hn;clear hn))
 have U:=ι (Xg.o.trans Y.o);have Z:=ι (Y.o.trans Xl.o.gr);have Xn:=ι (U.o.trans Xl.o.gr);have hv:=HLv.new Xl.o;obtain⟨hb,Ye⟩:∃hb,hb=s.A.hp:=⟨_,rfl⟩;rw[<-Ye]at hv⊢;have HV:=ι hv;obtain⟨x0,x1,x2,x3,x4,x5,xl⟩:=Xp.o _ Z.o;obtain⟨f3,f4,fl⟩:=Xf.o _ Z.o;clear hv Ye Xl b0 b1 b2 b3 b4 b5 b6 b7 bl a0 a1 a2 a3 a4 a5 a6 a7 al;obtain⟨L,hL⟩:∃L,L=[y0,y1,y2,y3,y4,y5]:=⟨_,rfl⟩;have Xo:=Xz.o _ U.o;have Xk:=ι (λh=>JFf HV.o Xo y0 y1 y2 y3 y4 y5 h);have Xj:=ι (λh=>VM7 HV.o Xo y0 y1 y2 y3 y4 y5 h);rw[<-hL]at Xa Xk Xj;clear hL Xo;by_cases hq:DR d.sl L=0
 case neg=>
  have Xd:=ι (Xk.o hq);obtain⟨M,hM⟩:∃M,M=DR d.sl L:=⟨_,rfl⟩;rw[<-hM]at Xd Xa hq;have e0:(M==0)=false:=BF hq;clear hq hM Xk Xj
  go_wp2_with(first
   | (go_at_call 6;refine(Xd.o).mono ?_;rintro e w4 ⟨rfl,hg⟩;have G:=ι hg;obtain⟨x0,x1,x2,x3,x4,x5,xl⟩:=Xp.o _ (Z.o.trans hg);obtain⟨f3,f4,fl⟩:=Xf.o _ (Z.o.trans hg);clear hg)
   | (go_at_call 20;refine(Xa.o _).mono ?_;rintro e w5 ⟨rfl,hg⟩;have Xm:=ι ((Xn.o.trans G.o).trans hg);clear hg)
   | (go_at_call 12;refine(HL.o _ Xm.o).mono ?_;rintro e w6 ⟨rfl,hg⟩;have Yw:=ι (Xm.o.trans hg);clear hg))
  go_ret;exact⟨rfl,Yw.o⟩
 rw[hq]at Xa;have Xd:=ι (Xj.o hq);clear hq Xk Xj;obtain⟨rm,Yb⟩:∃rm,rm=d.wd/5:=⟨_,rfl⟩;have Ym:=ι Yb;have e4:wrap64 ((d.wd:Int)/5)=(rm:Int):=by have:=HD.o;rw[ψh _ Ω];omega
 clear Yb
 go_upto_region 13 with(first
  | (go_at_call 6;refine(Xd.o).mono ?_;rintro e w4 ⟨r,a,b,t,d',s',qb,rfl,Xh⟩;have G:=ι Xh.grew;have Ya:=ι Xh;obtain⟨x0,x1,x2,x3,x4,x5,xl⟩:=Xp.o _ (Y.o.trans Xh.grew);obtain⟨f3,f4,fl⟩:=Xf.o _ (Y.o.trans Xh.grew);clear Xh)
  | (go_at_call 20;refine(Xa.o _).mono ?_;rintro e w5 ⟨rfl,hg⟩;have Xm:=ι hg;obtain⟨f3,f4,fl⟩:=Xf.o _ (Y.o.trans (G.o.trans hg));clear hg))
 have hp:=P40.new (Ya.o.gr Xm.o) (Xz.o _ U.o);rw[<-Ym.o]at hp;obtain⟨w6,Yf⟩:∃w6,w6=w5.alloc (.cells #[.slice none 0 0,.int .i64 (rm:Nat)] 57):=⟨_,rfl⟩;obtain⟨rb,Yd⟩:∃rb,rb=w5.heap.size:=⟨_,rfl⟩;rw[<-Yf,<-Yd]at hp⊢;have HP:=ι hp;clear hp Yf Yd x0 x1 x2 x3 x4 x5 xl f3 f4 fl Ya G Z Xn HV e4 Xa Xd;have Yq:=ι (λ(V:World) (g:Gr w2 V)=>HL.o V (U.o.trans g));go_wp2
 go_loopw [75] (λs75 wr=>∃(i:Nat) (M N':List (Nat×Nat)),i<=N/\s75=iI i/\M.Perm N'/\Hid (P40 w2 (λ_=>False) d hb qb rb r a b t d' s' M N' wr)) (λs75 _=>N-(intOf s75).toNat)
 case atStart=>exact⟨0,[],[],ζc _,rfl,.nil,HP⟩
 case round=>
  clear HP;obtain⟨i,M,N',hi,rfl,Yg,HP⟩:=hrel;have Yv:=ι Yg;clear Yg;by_cases O:i<N
  ·have Yo:(i:Int)<(N:Int):=Ω
   have Yc:i<l.length:=by rw[<-HN.o];exact O
   have Yl:=ι O;obtain⟨Xu,bb,o,rfl,Yt,c0,c1,c2⟩:=(HA.o.gr (U.o.trans HP.o.grew)) i Yc;generalize l[i]=x at Xu c0 c1 c2;have I:=Rec.new wr 24 x.L;have Xv:=ι (λ(V:World) (g:Gr wr V)=>ZrY (HP.o.gr g) Yv.o x Xu);obtain⟨kd,af,aw⟩:=x;unfold DD.L at I Xv;dsimp only at I Xv c0 c1 c2;clear Xu O Yc hi;go_upto_region 16 with(fail);have Yh:=(Gr.refl wr).alloc (.cells #[.int .u8 kd,.int .u64 af,.int .u64 aw] 24);obtain⟨wz,Xi⟩:∃wz,wz=wr.alloc (.cells #[.int .u8 kd,.int .u64 af,.int .u64 aw] 24):=⟨_,rfl⟩;obtain⟨ob,Xq⟩:∃ob,ob=wr.heap.size:=⟨_,rfl⟩;have I:Rec wz ob 24 [.int .u8 kd,uU af,uU aw]:=by rw[Xi,Xq];exact I
   have Yu:Hid (Gr wr wz):=⟨by rw[Xi];exact Yh⟩;rw[<-Xi,<-Xq];clear Xi Xq Yh c0 c1 c2 Yt;obtain⟨y0,y1,y2,yl⟩:=I.k3;clear I;go_upto_region 18 with(go_at_call 21;refine(Xv.o _ Yu.o).mono ?_;rintro e w8 ⟨rfl,-,M2,N2,hq,hp⟩;have Yj:=ι hp;have Xs:=ι hq;clear hp hq);have Xx:=Yj.o.live2 Xs.o;have Yn:=Yj.o.len_le2 Xs.o;have Xy:=ι Xx;obtain⟨q,hq⟩:∃q,q=5*N2.length:=⟨_,rfl⟩;rw[<-hq]at Xy;have em:wrap64 (5*(N2.length:Int))=(q:Int):=by rw[ψh _ Ω];omega
   clear Xx hq Yn;go_upto_region 19 with(go_at_call 19;refine(Xy.o).mono ?_;rintro e w7 ⟨rfl,-,hp⟩;have Yr:=ι hp;obtain⟨A2,cp,Xr⟩:=hp.rr;have r0:=Xr.cc 0;have rl:=Xr.lt;clear hp Xr);go_wp2;go_round
   case rel=>exact⟨i+1,M2,N2,Yl.o,by go_num,Xs.o,Yr⟩
   case measure=>have:=Yl.o;simp[intOf];omega
  ·have Yo:¬(i:Int)<(N:Int):=Ω
   clear hi O;have HW:=ι HP.o.grew;go_wp2_with(go_at_call 12;refine(Yq.o _ HW.o).mono ?_;rintro e w8 ⟨rfl,hg⟩;have Ys:=ι hg;clear hg);go_ret;exact⟨rfl,(U.o.trans HW.o).trans Ys.o⟩
end Go.Proofs.YtggjoonlcjjgkaaGreatDoor
