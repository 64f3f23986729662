/- Part 8 of what Heaps leans on: my own lemmas, merged by shake.py. -/
import Derived.Test.YtbdimhlaaoadgaaGreatDoorHeapsG
import Derived.Deep.MidRow
namespace Go.Proofs.YtbdimhlaaoadgaaGreatDoor
open _root_.Go.Proofs.Tryz
set_option maxHeartbeats 3200000
set_option maxRecDepth 100000
open Go.RowKit Word
variable{l n:List Nat}{xs:List Value}{T b p q:Nat}{s:SmS}{w:World}
def SQ(n:List Nat)(k:Nat):Prop:=∀x∈n.drop k,x=0
theorem Jyg{k:Nat}(h:SQ n (k+1))(h0:n.getD k 0=0):SQ n k:=λx hx=>by
 rcases χ k n.length with hk|hk
 ·rw[ξA hk]at hx;rcases ξv.1 hx with rfl|hx
  ·rw[δ,υ hk]at h0;exact h0
  ·exact h x hx
 ·rw[ψg hk]at hx;cases hx
theorem YN{x:Nat}(hx:x<18446744073709551616):Word.len x=(CH x:Nat):=by
 unfold Word.len CH;by_cases h0:x=0
 ·subst h0;rw[θ rfl,LE (k:=-1) Ω Ω (λi _ _=>Nat.zero_testBit i) (λh=>by omega)];rfl
 ·rw[ψ h0];have h1:x.log2<64:=(Nat.log2_lt h0).2 hx
  rw[LE (k:=(x.log2:Nat)) Ω Ω (λi hi _=>Nat.testBit_lt_two_pow (ϑ Nat.lt_log2_self (Nat.pow_le_pow_right (by decide) Ω))) (λ_=>by
   rw[β,Nat.testBit_eq_decide_div_mod_eq];have a1:=Nat.log2_self_le h0;have a2:x<2 ^ (x.log2+1):=Nat.lt_log2_self
   have a3:x/2 ^ x.log2=1:=by
    have b1:1<=x/2 ^ x.log2:=(Nat.one_le_div_iff (Nat.two_pow_pos _)).2 a1;have b2:x/2 ^ x.log2<2:=(ζB (Nat.two_pow_pos _)).2 (by rw[Nat.pow_succ]at a2;omega);omega
   rw[a3]
   decide)]
  omega
theorem ZQZ(hl:n.length=35)(hd:∀x∈n,x<18446744073709551616)(w:World):Calls prog 271 #[lbV n] w λe w'=>e=.returned (iI (CH (lv 18446744073709551616 n):Nat))/\Gr w w':=by
 have H:=ι (BQ.new w hl hd);have U:=ι ((Gr.refl w).alloc (.cells (lbL n).toArray 314));have HL:=ι hl;have HD:=ι hd;obtain⟨N,hN⟩:∃N,N=CH (lv 18446744073709551616 n):=⟨_,rfl⟩;rw[<-hN];have HN:=ι hN;have G:w.heap.size<(w.alloc (.cells (lbL n).toArray 314)).heap.size:=by rw[π];omega
 unfold lbV;obtain⟨w1,J⟩:∃w1,w1=w.alloc (.cells (lbL n).toArray 314):=⟨_,rfl⟩;rw[<-J]at H U G;have I:=ι J;have E:(lbL n).toArray.size=35:=by unfold lbL;simp[hl]
 generalize (lbL n).toArray=arr at I E⊢;clear J hN hl hd;go_enter func271,ntmps271;go_upto_region 1 with(fail);rw[<-I.o];go_wp2
 go_loopw [3] (λs3 wr=>∃k:Nat,k<=35/\wr=w1/\Hid (SQ n k)/\s3=iI ((k:Int)-1)) (λs3 _=>(intOf s3+1).toNat)
 case atStart=>exact⟨35,by omega,rfl,⟨λx hx=>by rw[ψg (by rw[HL.o];omega)]at hx;cases hx⟩,rfl⟩
 case round=>
  obtain⟨k,hk,Xa,HZ,rfl⟩:=hrel;have h:=Xa.symm;subst h;rcases k with _|j
  ·have O:N=0:=by
    rw[HN.o,(NN (by decide)).2 (λx hx=>HZ.o x (by rw[List.drop_zero];exact hx))];rfl
   have V:(((0:Nat):Int)-1) = -1:=Ω
   rw[V];clear V;have D:=ι O;clear O;go_wp2;go_ret;exact⟨by rw[D.o] <;> rfl,U.o⟩
  ·have M:(((j+1:Nat):Int)-1)=(j:Int):=Ω
   rw[M];have hc:=H.o.limb (i:=j) Ω;have hd:=IA (B:=18446744073709551616) (by decide) HD.o j;have Y:=ι (λ(W:World)=>Z4f (n.getD j 0) hd W);rw[YN hd]at Y
   have X:Hid (n.getD j 0≠0->N=64*j+CH (n.getD j 0)):=⟨λh0=>by
    rw[HN.o]
    exact ZHT (b:=64) HD.o (by rw[HL.o];omega) h0 HZ.o⟩
   have Z:Hid (n.getD j 0=0->SQ n j):=⟨λh0=>Jyg HZ.o h0⟩
   have L:CH (n.getD j 0)<=64:=by
    have h1:=YN hd;have h2:=RT (n.getD j 0);omega
   generalize CH (n.getD j 0)=lx at Y X L;generalize n.getD j 0=x at hc hd Y X Z;have hjI:(j:Int)<35:=Ω
   clear M HZ;by_cases hx:0<x
   ·have hxI:(0:Int)<x:=Ω
    have A:=ι (X.o Ω);clear hx X Z hd;go_wp2_with(go_at_call 288;refine AJ (Y.o _) ?_);go_ret;exact⟨by rw[A.o] <;> rfl,U.o⟩
   ·obtain rfl:x=0:=Ω
    have Xb:=ι (Z.o rfl);clear hx X Z hd;go_wp2;go_round
    case rel=>exact⟨j,by omega,by first|trivial|rfl,Xb,by go_num⟩
    case measure=>simp[intOf]
theorem Zsi{j:Nat}(hj:j<n.length)(h:∀x∈n.take j,x=0)(h0:n.getD j 0=0):∀x∈n.take (j+1),x=0:=λx hx=>by
 rw[ζR hj]at hx;rcases ζr.1 hx with hx|hx
 ·exact h x hx
 ·rw[ζL.1 hx];rw[δ,υ hj]at h0;exact h0
def YPr(n:List Nat)(k:Nat)(w:World)(e:Ending)(w':World):Prop:=∃b,(b=true↔blL n k)/\e=.returned (.bool b)/\Gr w w'
theorem XGY(hl:n.length=35)(hd:∀x∈n,x<18446744073709551616){at':Nat}(ha:at' / 64<35)(w:World):Calls prog 273 #[lbV n,iI at'] w (YPr n at' w):=by
 have H:=ι (BQ.new w hl hd);have J:=ι ((Gr.refl w).alloc (.cells (lbL n).toArray 314));have HL:=ι hl;have e1:((at':Int).tdiv 64)=((at' / 64:Nat):Int):=rfl;have e2:((at':Int).tmod 64)=((at' % 64:Nat):Int):=rfl;have ho:at' % 64<64:=ζK _ (by decide);have HB:Hid (blL n at'↔(∃x∈n.take (at' / 64),x≠0)\/n.getD (at' / 64) 0%2 ^ (at' % 64)≠0):=⟨Iff.rfl⟩;have G:w.heap.size<(w.alloc (.cells (lbL n).toArray 314)).heap.size:=by rw[π];omega
 generalize at' / 64=q at e1 ha HB;generalize at' % 64=Y at e2 ho HB;have g1:IntKind.i64.wrap (q:Int)=(q:Int):=ζp _ Ω;unfold lbV;obtain⟨w1,M⟩:∃w1,w1=w.alloc (.cells (lbL n).toArray 314):=⟨_,rfl⟩;rw[<-M]at H J G;have L:=ι M;have I:(lbL n).toArray.size=35:=by unfold lbL;simp[hl]
 generalize (lbL n).toArray=arr at L I⊢;clear M hl hd;go_enter func273,ntmps273;go_upto_region 1 with(fail);rw[<-L.o];go_wp2
 go_loopw [8] (λs8 wr=>∃j:Nat,j<=q/\wr=w1/\Hid (∀x∈n.take j,x=0)/\s8=iI j) (λs8 _=>q-(intOf s8).toNat)
 case atStart=>exact⟨0,ζg _,rfl,⟨λx hx=>by cases hx⟩,rfl⟩
 case round=>
  obtain⟨j,hj,A,HZ,rfl⟩:=hrel;have h:=A.symm;subst h;by_cases hjq:j<q
  ·have Xe:(j:Int)<q:=Ω
   have hc:=H.o.limb (i:=j) Ω;have O:(j:Int)<35:=Ω
   have HX:Hid (n.getD j 0≠0->blL n at'):=⟨λh0=>HB.o.2 (.inl ⟨n.getD j 0,by
    rw[δ,υ (by rw[HL.o];omega),ψA]
    exact ψv.2 ⟨j,by rw[HL.o];omega,rfl⟩,h0⟩)⟩
   have U:Hid (n.getD j 0=0->∀x∈n.take (j+1),x=0):=⟨λh0=>Zsi (by rw[HL.o];omega) HZ.o h0⟩;generalize n.getD j 0=x at hc HX U;clear HZ;by_cases hx:0<x
   ·have hxI:(0:Int)<x:=Ω
    have Xa:=ι (HX.o Ω);clear hx HX U;go_wp2;go_ret;exact⟨true,⟨λ_=>Xa.o,λ_=>rfl⟩,rfl,J.o⟩
   ·obtain rfl:x=0:=Ω
    have Xf:=ι (U.o rfl);clear hx HX U;go_wp2;go_round
    case rel=>exact⟨j+1,by omega,by first|trivial|rfl,Xf,by go_num⟩
    case measure=>simp[intOf];omega
  ·have Xe:¬(j:Int)<q:=Ω
   obtain rfl:j=q:=Ω
   have hc:=H.o.limb (i:=j) ha;have E:=IA (B:=18446744073709551616) (by decide) H.o.dig j;have X:=ι (Qkn (x:=n.getD j 0) ho)
   have Z:Hid (blL n at'↔n.getD j 0%2 ^ Y≠0):=⟨by
    refine⟨λh=>?_,λh=>HB.o.2 (.inr h)⟩;rcases HB.o.1 h with⟨x,hx,h0⟩|h
    ·exact absurd (HZ.o x hx) h0
    ·exact h⟩
   generalize n.getD j 0=x at hc X Z E;have O:(j:Int)<35:=Ω
   have Xc:((63:Int)-(Y:Int))=((63-Y:Nat):Int):=Ω
   have N:(63-Y:Nat)<=63:=Ω
   generalize 63-Y=c at Xc X N
   have hz:IntKind.u64.wrap ((x:Int)*2 ^ c)=((x*2 ^ c%18446744073709551616:Nat):Int):=by
    rw[ζF,ξu,ξY,Int.natCast_pow];rfl
   obtain⟨y,hy⟩:∃y,y=x*2 ^ c%18446744073709551616:=⟨_,rfl⟩;have Xb:y<18446744073709551616:=by rw[hy];exact ζK _ (by decide)
   rw[<-hy]at hz X;have Xd:IntKind.u64.wrap ((y:Int)*2)=((y*2%18446744073709551616:Nat):Int):=by rw[ζF];omega
   generalize y*2%18446744073709551616=z at Xd X;clear hy E HZ HB Xb N;by_cases h0:0<z
   ·have hzI:(0:Int)<z:=Ω
    by_cases V:0<Y
    ·have D:decide (0<Y)=true:=φ V;have HR:Hid (blL n at'):=⟨Z.o.2 (X.o.1 ⟨h0,V⟩)⟩;clear h0 Z X;go_wp2;go_ret;exact⟨true,⟨λ_=>HR.o,λ_=>rfl⟩,rfl,J.o⟩
    ·have D:decide (0<Y)=false:=ζ V;have HR:Hid (¬blL n at'):=⟨λh=>V (X.o.2 (Z.o.1 h)).2⟩;clear h0 Z X;go_wp2;go_ret;exact⟨false,⟨λh=>absurd h (by decide),λh=>absurd h HR.o⟩,rfl,J.o⟩
   ·obtain rfl:z=0:=Ω
    have HR:Hid (¬blL n at'):=⟨λh=>h0 (X.o.2 (Z.o.1 h)).1⟩;clear h0 Z X;go_wp2;go_ret;exact⟨false,⟨λh=>absurd h (by decide),λh=>absurd h HR.o⟩,rfl,J.o⟩
theorem JlF{P:Program}{ops:Array Oper}{rest:List Oper}{op:Oper}{a:Act}{Q:Exit->Act->World->Prop}(hw:Region.wanted op (yielded ops a.tmps)=true)(ty:TypeId)(x:Operand)(ho:op.op=.load ty x)
  (b o:Nat) (hx:a.eval x=.pointer (some ⟨b,o,none⟩)) (cs:List Value) (d:TypeDesc) (hc:w.rangeAt b o cs)
  (hu:P.underlying ty=some d) (hd:d.isRow=true) (hi:(P.info? ty).map (·.size)=some cs.length)
  (h:wpList P ops Q rest (a.put op.dst (.agg cs.toArray)) w):wpList P ops Q (op :: rest) a w:=
 wpList_step λK hK=>by rw[θ hw];exact wp_load_mid ty x ho b o hx cs d hc hu hd hi (hK _ _ h)
theorem BQ.from0(h:BQ w b n):(loadCellsFrom ⟨b,0,none⟩ 0 35 #[]).run prog w=.ok (lbL n).toArray w:=by
 have:=ZaP h.row 35 0 #[] (by unfold lbL;rw[ζU,h.len]);simpa using this
theorem BQ.range(h:BQ w b n):w.rangeAt b 0 (lbL n):=λj v hj=>by
 rw[ζ9];exact h.row.cell hj
theorem NZ{cs:List Value}(h:cs.length=35):(prog.info? 314).map (·.size)=some cs.length:=by
 rw[h];have:(prog.info? 314).map (·.size)=some 35:=by kernel_rfl
 exact this
theorem Qlo(hl:n.length=35)(hd:∀x∈n,x<18446744073709551616)(hs:lv 18446744073709551616 n<2 ^ (64*34+63))(w:World):Calls prog 241 #[lbV n] w λe w'=>e=.returned (uU (EK (lv 18446744073709551616 n):Nat))/\Gr w w':=by
 obtain⟨k,hk⟩:∃k,k=CH (lv 18446744073709551616 n)-53:=⟨_,rfl⟩
 have Xa:CH (lv 18446744073709551616 n)<=2239:=by
  unfold CH
  split
  ·omega
  ·rename_i h0;have:=(Nat.log2_lt h0).2 hs;omega
 have Xb:max ((CH (lv 18446744073709551616 n):Int)-53) 0=(k:Int):=by
  clear hs hd hl;omega
 have A:k/64<35:=Ω
 obtain⟨R0,R1,R2⟩:=Vrg (l:=n) hd hk (by rw[hl];exact A);have M:=ι (λ(W:World)=>ZQZ hl hd W);have O:=ι (λ(W:World)=>ZR2 hl hd A W);have E:=ι (λ(W:World)=>XGY hl hd (at':=k-1) Ω W);have H:=ι (BQ.new w hl hd);have V:=ι ((Gr.refl w).alloc (.cells (lbL n).toArray 314));have J:=ι (λ(W:World) (gg:Gr (w.alloc (.cells (lbL n).toArray 314)) W)=>((BQ.new w hl hd).gr gg).range);have Xp:=ι (λ(W:World) (gg:Gr (w.alloc (.cells (lbL n).toArray 314)) W)=>((BQ.new w hl hd).gr gg).from0);have N:w.heap.size<(w.alloc (.cells (lbL n).toArray 314)).heap.size:=by rw[π];omega
 have Xy:frL n k<9007199254740992:=by unfold frL;exact ζK _ (by decide)
 have e1:(((k-1:Nat):Int).tdiv 64)=(((k-1)/64:Nat):Int):=rfl;have e2:(((k-1:Nat):Int).tmod 64)=(((k-1)%64:Nat):Int):=rfl;have hq:(k-1)/64<35:=Ω
 have ho:(k-1)%64<64:=ζK _ (by decide);have U:=H.o.limb hq;have D:=IA (B:=18446744073709551616) (by decide) hd ((k-1)/64);have hm2:=ML prog;have hmi2:=RF prog;obtain⟨R,hR⟩:∃R,R=EK (lv 18446744073709551616 n):=⟨_,rfl⟩;rw[<-hR]at R0 R1 R2⊢;have Xe:k=0->R=min (frL n k) AK:=λh=>(R0 h).trans (by rw[h]);clear R0;generalize CH (lv 18446744073709551616 n)=ln at hk Xa M Xb;generalize frL n k=fr at Xe R1 R2 O Xy;have hb1:IntKind.u64.wrap (k:Int)=(k:Int):=by rw[ζF];omega
 have Yf:IntKind.u64.wrap ((k:Int)*4503599627370496)=((k*4503599627370496:Nat):Int):=by rw[ζF];omega
 have Xz:=ι Xe;have Yc:=ι R1;have Ya:=ι R2;unfold lbV at M O E J⊢;obtain⟨w1,Xg⟩:∃w1,w1=w.alloc (.cells (lbL n).toArray 314):=⟨_,rfl⟩;rw[<-Xg]at H V N J Xp U;have Xr:=ι Xg;have Xj:(lbL n).length=35:=by unfold lbL;simp[hl]
 have HI:=ι (NZ Xj);generalize lbL n=cs at Xr Xj HI M O E J Xp⊢;have harr:cs.toArray.size=35:=by simpa using Xj
 clear Xg Xe R1 R2 hR hs hl hd hk;go_enter func241,ntmps241;go_upto_region 1 with(fail);rw[<-Xr.o]
 go_upto_region 3 with(first
  | (go_at_call 271;refine(M.o _).mono ?_;rintro e w2 ⟨rfl,hg⟩;have Xd:=ι hg;clear hg)
  | (go_at_call 272;refine(O.o _).mono ?_;rintro e w3 ⟨rfl,hg⟩;have X:=ι (Xd.o.trans hg);clear hg)
  | (have hm:=Xd.o;clear hm;refine wpList_load_mid rfl 314 _ rfl w.heap.size 0 rfl cs _ (J.o _ Xd.o) underlying314 rfl HI.o ?_)
  | (refine wpList_load_mid rfl 314 _ rfl w.heap.size 0 rfl cs _ (J.o _ (Gr.refl w1)) underlying314 rfl HI.o ?_))
 obtain⟨kb,Xi⟩:∃kb,kb=k*4503599627370496:=⟨_,rfl⟩;have Xu:=ι Xi;rw[<-Xi]at Yf;have Yg:IntKind.u64.wrap ((kb:Int)+(fr:Int))=((kb+fr:Nat):Int):=by rw[ζF];omega
 have G:IntKind.u64.wrap (((kb+fr:Nat):Int)+1)=((kb+fr+1:Nat):Int):=by rw[ζF];omega
 obtain⟨B0,Xh⟩:∃B0,B0=kb+fr:=⟨_,rfl⟩;have Xl:=ι Xh;rw[<-Xh]at Yg G;obtain⟨B1,Xc⟩:∃B1,B1=B0+1:=⟨_,rfl⟩;have Ye:=ι Xc;rw[<-Xc]at G;have Xf:∀z:Nat,min (z:Int) 9218868437227405312=((min z AK:Nat):Int):=λz=>by unfold AK;omega
 have Z:=Xf B0;have Y:=Xf B1;clear Xi Xh Xc Xf Xb Xa;by_cases I:k=0
 ·have Yd:¬(0:Int)<k:=Ω
  have HF:Hid (R=min B0 AK):=⟨by rw[Xz.o I,Xl.o,Xu.o,I,ξT,ζ9]⟩;clear I G Y e1 e2;generalize min B0 AK=MM at Z HF;go_wp2;go_ret;exact⟨by rw[HF.o] <;> rfl,V.o.trans X.o⟩
 ·have Yd:(0:Int)<k:=Ω
  obtain⟨k1,Xk⟩:∃k1,k1=k-1:=⟨_,rfl⟩;have hkk:((k:Int)-1)=(k1:Int):=Ω
  have R1:=Yc.o Ω;have R2:=Ya.o Ω;rw[<-Xk]at e1 e2 U E R1 R2 hq ho D;have Xt:k1/64<35:=hq;generalize k1/64=q at e1 U R1 R2 hq D;generalize k1%64=L at e2 ho R1 R2;generalize n.getD q 0=x at U R1 R2 D;have hq1:IntKind.i64.wrap (q:Int)=(q:Int):=ζp _ Ω;have hqI:(q:Int)<35:=Ω
  have Yb:((x:Int)/2 ^ L)=((x/2 ^ L:Nat):Int):=by rw[ζX,Int.natCast_pow];rfl
  have Xo:x/2 ^ L<=x:=ζT _ _;generalize x/2 ^ L=y at Yb Xo R1 R2
  have Xm:bits .and .u64 (y:Int) 1=((y%2:Nat):Int):=by
   have e:(1:Int)=((1:Nat):Int):=rfl;rw[e,D0 y 1 Ω Ω,Nat.and_one_is_mod]
  have Xv:bits .and .u64 (fr:Int) 1=((fr%2:Nat):Int):=by
   have e:(1:Int)=((1:Nat):Int):=rfl;rw[e,D0 fr 1 Ω Ω,Nat.and_one_is_mod]
  have Xx:=ι (λ(W:World) (gg:Gr w3 W)=>J.o W (X.o.trans gg));rw[<-Xu.o,<-Xl.o]at R1 R2;rw[<-Ye.o]at R1;clear Xk D Xo I;have hc3:w3.cell? ⟨w.heap.size,q,none⟩=some (uU (x:Nat)):=(X.o.cell N q).trans U;have hw3:w.heap.size<w3.heap.size:=ϑ N X.o.size;clear U N Xt;rcases(by omega:y%2=0\/y%2=1)with hz|hz
  ·rw[hz]at Xm;have HF:Hid (R=min B0 AK):=⟨R2 (λh=>by rw[hz]at h;exact absurd h.1 (by decide))⟩;clear G Y R1 R2 hz;generalize min B0 AK=MM at Z HF;go_wp2;go_ret;exact⟨by rw[HF.o] <;> rfl,V.o.trans X.o⟩
  ·rw[hz]at Xm;rcases(by omega:fr%2=1\/fr%2=0)with hf|hf
   ·rw[hf]at Xv;have HF:Hid (R=min B1 AK):=⟨R1 hz (.inl hf)⟩;clear Z R1 R2 hz hf;generalize min B1 AK=MM at Y HF;go_wp2;go_ret;exact⟨by rw[HF.o] <;> rfl,V.o.trans X.o⟩
   ·rw[hf]at Xv;have Xs:Hid (blL n k1->R=min B1 AK):=⟨λh=>R1 hz (.inr h)⟩
    have Xq:Hid (¬blL n k1->R=min B0 AK):=⟨λh=>R2 (λhh=>by
     rcases hh.2 with h3|h3
     ·rw[hf]at h3;exact absurd h3 (by decide)
     ·exact h h3)⟩
    clear R1 R2 hz hf;generalize min B0 AK=M0 at Z Xq;generalize min B1 AK=M1 at Y Xs
    go_wp2_with(first
     | (go_at_call 273;refine(E.o _).mono ?_;rintro e w4 ⟨(_|_),hb,rfl,hg⟩ <;> (have Xw:=ι hg;have Xn:=ι hb;clear hg hb))
     | (refine JlF rfl 314 (.tmp 1) rfl w.heap.size 0 rfl cs _ (Xx.o _ (Gr.refl w3)) underlying314 rfl HI.o ?_))
    ·go_ret;exact⟨by rw[Xq.o (λh=>by have:=Xn.o.2 h;cases this)] <;> rfl,V.o.trans (X.o.trans Xw.o)⟩
    ·go_ret;exact⟨by rw[Xs.o (Xn.o.1 trivial)] <;> rfl,V.o.trans (X.o.trans Xw.o)⟩
theorem Za3{o:Nat}(v:Value)(r:List Value)(ho:o<xs.length):(xs.set o v).take (o+1)++r=xs.take o++v :: r:=by
 rw[ζR (by rw[η];exact ho),List.getElem_set_self,List.take_set_of_le (κ _),ξm];rfl
theorem Rec.setCells{q T:Nat}:∀(vs:List Value) (o:Nat) (w:World) (xs:List Value),Rec w q T xs->o+vs.length=xs.length->Rec (w.setCells q o vs) q T (xs.take o++vs)
 | [],o,w,xs,h,hl=>by
  rw[ψH,ξV (by simp at hl;omega)];exact h
 | v :: r,o,w,xs,h,hl=>by
  have hl:o+(r.length+1)=xs.length:=hl;have:=Rec.setCells r (o+1) (w.setCell ⟨q,o,none⟩ v) (xs.set o v) (h.set o v) (by rw[η];omega);rw[Za3 v r Ω]at this;exact this
theorem AB.setCells{q:Nat}:∀(vs:List Value) (o:Nat) (w:World),AB (λk=>k=q) w (w.setCells q o vs)
 | [],_,_=>AB.refl _ _
 | v :: r,o,w=>((AB.refl (λk=>k=q) w).setCell (a:=⟨q,o,none⟩) (λ_=>rfl) v).trans (AB.setCells r (o+1) _)
theorem TV(n:List Nat):(lbL n).toArray.all (·.oneCell')=true:=all_oneCell_toArray (λv hv=>by
 unfold lbL at hv;obtain⟨x,-,rfl⟩:=ξx.1 hv
 rfl)
theorem BQ.over(h:Rec w b 314 xs)(hx:xs.length=35)(hl:n.length=35)(hd:∀x∈n,x<18446744073709551616):BQ (w.setCells b 0 (lbL n)) b n:=by
 refine⟨?_,hl,hd⟩;have:=Rec.setCells (lbL n) 0 w xs h (by unfold lbL;rw[ζU,hl,hx]);rw[ψM,ζZ]at this;exact this
theorem Rec.there(h:Rec w b T xs):w.there b 0 xs.length:=λj hj=>by
 rw[ζ9];refine⟨?_,h.free j⟩;rw[h.cell (υ hj)];rfl
theorem A1.range(h:A1 w p s):w.rangeAt p 1 (lbL s.n):=λj v hj=>by
 have X:j<35:=by
  have:=(List.getElem?_eq_some_iff.1 hj).1;unfold lbL at this;rw[ζU,h.len]at this;exact this
 rw[h.limb X];unfold lbL at hj;rw[ψf,υ (by rw[h.len];exact X)]at hj;rw[δ,υ (by rw[h.len];exact X)];exact hj
def JuE(w:World)(n:List Nat)(e:Ending)(w':World):Prop:=∃n' ng,e=.returned (.tuple #[lbV n',.bool ng])/\Gr w w'/\n'.length=35/\(∀x∈n',x<18446744073709551616) ∧
 ((ng=false/\lv 18446744073709551616 n<2 ^ (64*34+63)/\n'=n)\/(ng=true/\¬lv 18446744073709551616 n<2 ^ (64*34+63)/\lv 18446744073709551616 n'=18446744073709551616 ^ 35-lv 18446744073709551616 n))
theorem Y8d(h:A1 w p s):Calls prog 240 #[pP p] w (JuE w s.n):=by
 have HZR:=ι (Rec.new w 314 (lbL (List.replicate 35 0)));have cl:=h.row.lt;have H:=ι h;have HI:=ι (NZ (cs:=lbL s.n) (by unfold lbL;rw[ζU];exact h.len));clear h;go_enter func240,ntmps240;go_upto_region 1 with(fail);generalize hw1:w.alloc (Obj.cells _ _)=w1;have Xu:Rec w1 w.heap.size 314 (lbL (List.replicate 35 0)):=by rw[<-hw1];exact Rec.new w _ _
 have Xd:Gr w w1:=by rw[<-hw1];exact(Gr.refl w).alloc _
 have Xp:w1.heap.size=w.heap.size+1:=by rw[<-hw1];exact π ..
 clear hw1;have Xs:=ι Xu;have Yf:=ι Xd;have Xh:=ι Xp;have Xi:=ι ((H.o.gr Xd).range);have Xf:(lbL s.n).toArray.size=35:=by unfold lbL;simp[H.o.len]
 have Xj:Hid ((prog.info? 314).map (·.size)=some (lbL s.n).toArray.size):=⟨by rw[Xf];exact NZ (cs:=lbL (List.replicate 35 0)) rfl⟩
 have J:Hid ((w1.alloc (.cells (lbL (List.replicate 35 0)).toArray 314)).there w1.heap.size 0 (lbL s.n).toArray.size):=⟨by
  rw[Xf]
  exact(Rec.new w1 314 (lbL (List.replicate 35 0))).there⟩
 have Xm:Hid (BQ ((w1.alloc (.cells (lbL (List.replicate 35 0)).toArray 314)).setCells w1.heap.size 0 (lbL s.n)) w1.heap.size s.n):=⟨BQ.over (Rec.new w1 _ _) rfl H.o.len H.o.dig⟩
 have Xv:Hid (Gr w1 ((w1.alloc (.cells (lbL (List.replicate 35 0)).toArray 314)).setCells w1.heap.size 0 (lbL s.n))):=⟨by
  have t:=(((Gr.refl w1).alloc (.cells (lbL (List.replicate 35 0)).toArray 314)).touch (λk=>k=w1.heap.size)).trans (AB.setCells (q:=w1.heap.size) (lbL s.n) 0 _)
  exact(t.mono (T:=λ_=>False) (λk hk e=>by omega)).gr⟩
 have Xt:=ι (TV s.n);clear Xu Xd Xp Xf;have Xy:p<w1.heap.size:=by have:=Xh.o;omega
 go_upto_region 2 with(first
  | (refine wpList_load_mid rfl 314 _ rfl p 1 rfl (lbL s.n) _ Xi.o underlying314 rfl HI.o ?_)
  | (refine wpList_store_mid rfl 314 _ _ rfl w1.heap.size 0 (lbL s.n).toArray rfl rfl J.o Xj.o Xt.o ?_))
 have Xn:=Xm.o;have Xq:=Xv.o;generalize hw2:World.setCells _ _ _ _=w2;have Z:BQ w2 w1.heap.size s.n:=by rw[<-hw2];exact Xn
 have O:Gr w1 w2:=by rw[<-hw2];exact Xq
 clear hw2 Xn Xq Xm Xv J Xi Xy;obtain⟨b,hb⟩:∃b,b=w1.heap.size:=⟨_,rfl⟩;rw[<-hb]at Z⊢;have Yc:=ι hb;have Xo:=ι (Yf.o.trans O);have D:=ι (Xs.o.gr O);have Xk:b≠w.heap.size:=by have:=Xh.o;omega
 have Yd:=ι Xk;have X:=ι Z;have hx:=IA (B:=18446744073709551616) (by decide) Z.dig 34;have Xa:=Z.limb (i:=34) (by decide);have N:=ι (Qrb (l:=s.n) Z.dig Z.len);have hbl:=Z.row.lt;have hwl:=(Xs.o.gr O).lt;have hu:∀(W:World) (n':List Nat),BQ W b n'->W.rangeAt b 0 (lbL n'):=λW n' h=>h.range;have HU:=ι hu;clear hu Z O hb Xk;have KL:=ι (λ(W:World) (n':List Nat) (h:BQ W w.heap.size n')=>h.load);rcases(by omega:s.n.getD 34 0/9223372036854775808=0\/s.n.getD 34 0/9223372036854775808=1)with h0|h0
 ·have HQ:Hid (lv 18446744073709551616 s.n<2 ^ (64*34+63)):=⟨N.o.1 h0⟩;have e0:((s.n.getD 34 0:Nat):Int)/9223372036854775808=0:=Ω
  generalize s.n.getD 34 0=x at Xa e0 hx;clear N h0
  have J:Hid (w2.there w.heap.size 0 (lbL s.n).toArray.size):=⟨by
   rw[show (lbL s.n).toArray.size=(lbL (List.replicate 35 0)).length by unfold lbL;simp[X.o.len]]
   exact D.o.there⟩
  go_wp2_with(first
   | (refine wpList_load_mid rfl 314 _ rfl b 0 rfl (lbL s.n) _ (HU.o _ _ X.o) underlying314 rfl HI.o ?_)
   | (refine wpList_store_mid rfl 314 _ _ rfl w.heap.size 0 (lbL s.n).toArray rfl rfl J.o Xj.o Xt.o ?_))
  have hL:BQ (w2.setCells w.heap.size 0 (lbL s.n)) w.heap.size s.n:=BQ.over D.o rfl X.o.len X.o.dig;have hl:=KL.o _ _ hL;refine ζH (v:=.tuple #[lbV s.n,.bool false]) ?_ rfl ?_
  ·rw[results_cell_tmp rfl];simp[asAddr,Result.andThen,hl]
  ·have t:=(Xo.o.touch (λk=>k=w.heap.size)).trans (AB.setCells (q:=w.heap.size) (lbL s.n) 0 w2);exact⟨s.n,false,rfl,(t.mono (T:=λ_=>False) (λk hk e=>by omega)).gr,X.o.len,X.o.dig,.inl ⟨rfl,HQ.o,rfl⟩⟩
 ·have hq:¬lv 18446744073709551616 s.n<2 ^ (64*34+63):=λh=>by
   have:=N.o.2 h;have e:s.n.getD 34 0/2 ^ 63=s.n.getD 34 0/9223372036854775808:=rfl;omega
  have HQ:=ι hq;have e0:((s.n.getD 34 0:Nat):Int)/9223372036854775808=1:=Ω
  generalize s.n.getD 34 0=x at Xa e0 hx;clear N h0 hq;go_wp2;clear Xa e0 hx
  go_loopw [5,16] (λs5 s16 wr=>∃(i c:Nat) (l':List Nat),i<=35/\Hid (G4 18446744073709551616 s.n l' i c/\BQ wr b l'/\AB (λk=>k=b) w2 wr)/\s5=uU c/\s16=iI i) (λ_ s16 _=>35-(intOf s16).toNat)
  case atStart=>exact⟨0,1,s.n,by omega,⟨G4.zero X.o.dig,X.o,AB.refl _ _⟩,rfl,rfl⟩
  case round=>
   obtain⟨i,c,l',hi,HP,rfl,rfl⟩:=hrel;by_cases Xc:i<35
   ·have Xz:(i:Int)<35:=Ω
    obtain⟨n1,n2,n3⟩:=HP.o;have Xx:=n1.car;have hd:=IA (B:=18446744073709551616) (by decide) X.o.dig i;have M:=n2.limb Xc;rw[n1.same i (κ _)]at M;have Xl:=XTi (s.n.getD i 0) hd;have Y:=n1.step (by decide) X.o.dig (by rw[X.o.len];exact Xc);have hv:18446744073709551616-1-s.n.getD i 0=18446744073709551615-s.n.getD i 0:=Ω
    rw[hv]at Y;have G:18446744073709551615-s.n.getD i 0<18446744073709551616:=Ω
    have hfree:=n2.row.free;have hlt:=n2.row.lt;generalize s.n.getD i 0=x at M Xl hd hv Y G;generalize 18446744073709551615-x=v at Xl Y G;have L:=λW=>Y7 v 0 c Xx W;have hy:(v+c)%18446744073709551616<18446744073709551616:=ζK _ (by decide);have E:=ι (n2.put (i:=i) hy);have U:=ι Y;obtain⟨y,I⟩:∃y,y=(v+c)%18446744073709551616:=⟨_,rfl⟩;obtain⟨d,Xb⟩:∃d,d=(v+c)/18446744073709551616:=⟨_,rfl⟩;have hadd2:∀W,(callFunc 270 #[uU v,uU 0,uU c]).run prog W=.ok (.value (.tuple #[uU (y:Nat),uU (d:Nat)])) W:=λW=>by rw[I,Xb];exact L W
    rw[<-I,<-Xb]at U;rw[<-I]at E;have Xe:=ι n3;clear L hy I Xb Y n1 n2 n3 hv G hd Xx HP;go_wp2;go_round
    case rel=>exact⟨i+1,d,l'.set i y,by omega,⟨U.o,E.o,Xe.o.setCell (a:=⟨b,i,none⟩) (λ_=>rfl) _⟩,rfl,by go_num⟩
    case measure=>simp[intOf];omega
   ·have Xz:¬(i:Int)<35:=Ω
    obtain rfl:i=35:=Ω
    obtain⟨n1,n2,n3⟩:=HP.o;have Xw:=Q8s (k:=34) (off:=63) HQ.o;have Xg:=G4.done (c:=c) (by rw[X.o.len];exact n1) Xw;rw[X.o.len]at Xg;have Ye:=ι Xg;have V:=ι n2;have A:=ι (D.o.touch n3 (λe=>Yd.o e.symm));have Xe:=ι n3
    have J:Hid (wr.there w.heap.size 0 (lbL l').toArray.size):=⟨by
     rw[show (lbL l').toArray.size=(lbL (List.replicate 35 0)).length by unfold lbL;simp[n2.len]]
     exact A.o.there⟩
    have Xr:=ι (NZ (cs:=lbL l') (by unfold lbL;rw[ζU];exact n2.len))
    have Ya:Hid ((prog.info? 314).map (·.size)=some (lbL l').toArray.size):=⟨by
     rw[show (lbL l').toArray.size=(lbL l').length by simp];exact Xr.o⟩
    have Yb:=ι (TV l');have hbl2:=n2.row.lt;have hwl2:=A.o.lt;clear n1 n2 n3 Xw Xg HP hi Xc
    go_wp2_with(first
     | (refine wpList_load_mid rfl 314 _ rfl b 0 rfl (lbL l') _ (HU.o _ _ V.o) underlying314 rfl Xr.o ?_)
     | (refine wpList_store_mid rfl 314 _ _ rfl w.heap.size 0 (lbL l').toArray rfl rfl J.o Ya.o Yb.o ?_))
    have hL:BQ (wr.setCells w.heap.size 0 (lbL l')) w.heap.size l':=BQ.over A.o rfl V.o.len V.o.dig;have hl:=KL.o _ _ hL;refine ζH (v:=.tuple #[lbV l',.bool true]) ?_ rfl ?_
    ·rw[results_cell_tmp rfl];simp[asAddr,Result.andThen,hl]
    ·have t:=((Xo.o.touch (λk=>k=w.heap.size\/k=b)).trans (Xe.o.mono (λk _ h=>.inr h))).trans ((AB.setCells (q:=w.heap.size) (lbL l') 0 wr).mono (λk _ h=>.inl h));refine⟨l',true,rfl,(t.mono (T:=λ_=>False) (λk hk e=>?_)).gr,V.o.len,V.o.dig,.inr ⟨rfl,HQ.o,Ye.o⟩⟩;have h1:=Yc.o;have h2:=Xh.o;rcases e with e|e
     ·have e:k=w.heap.size:=e;omega
     ·have e:k=b:=e;omega
theorem Qez(h:b<9223372036854775808):Op.negFloat .f64 b=b+9223372036854775808:=by
 have e:b ^^^ 2 ^ 63=b ||| 2 ^ 63:=ξh λi=>by
  rw[Nat.testBit_xor,Nat.testBit_or,Nat.testBit_two_pow];by_cases hi:63=i
  ·subst hi;rw[Nat.testBit_lt_two_pow (show b<2 ^ 63 from h)];rfl
  ·rw[ζ hi];simp
 show b ^^^ 2 ^ 63=_
 rw[e];have:=JW b 1 63 9223372036854775808 (by decide) h;rw[ξg,ξB]at this;exact this
theorem EC.whole(h:EC l s):KV l=if s.na||(s.pl&&s.mi)then 9221120237041090560 else if s.pl then AK else if s.mi then AK+sgN else if decide (0<s.ct)&&(s.ze==s.ct)then sgN else if CF l<CG l then EK (CG l-CF l)+sgN else EK (CF l-CG l):=by
 unfold KV;rw[h.na,h.pl,h.mi];have e1:decide (0<s.ct)=decide (0<l.length):=by rw[h.ct];exact ξr.2 Ω
 have e2:(s.ze==s.ct)=(l.all λb=>b==sgN):=by
  rw[h.ze,h.ct,ξ9,ξl,ζ7];constructor
  ·intro hh b hb;have:=ψe.1 (show (l.filter λb=>b==sgN).length=l.length by omega);exact this b hb
  ·intro hh;have:=ψe.2 hh;omega
 rw[e1,e2]
theorem EC.zeros(h:EC l s)(hz:(decide (0<s.ct)&&(s.ze==s.ct))=true):CF l=0/\CG l=0:=by
 have e2:∀b∈l,b=sgN:=by
  rw[ζb,ξl,h.ze,h.ct]at hz;intro b hb;have:=ψe.1 (show (l.filter λb=>b==sgN).length=l.length by omega) b hb;simpa using this
 have v0:BR 0=0:=by decide
 clear h hz
 induction l with
 | nil=>exact⟨rfl,rfl⟩
 | cons b l ih=>
  obtain⟨h1,h2⟩:=ih (λx hx=>e2 x (ζA _ hx));have hb:=e2 b (ζt ..);subst hb;unfold CF CG at *
  rw[ξw,ξ3,ξw,ξ3,h1,h2];refine⟨by rw[ψ (by decide)],by rw[θ (by decide)];exact v0⟩
theorem EC.side(h:EC l s)(hl:l.length<=255):(lv 18446744073709551616 s.n<2 ^ (64*34+63)->¬CF l<CG l/\lv 18446744073709551616 s.n=CF l-CG l) ∧
  (¬lv 18446744073709551616 s.n<2 ^ (64*34+63)->CF l<CG l/\18446744073709551616 ^ 35-lv 18446744073709551616 s.n=CG l-CF l/\CG l-CF l<2 ^ (64*34+63)):=by
 have h1:=X2h l;have h2:=QXW l;have h3:l.length*BR AK<=256*BR AK:=ζh _ Ω;have h4:=QaL;have hB:(18446744073709551616:Nat) ^ 35=2*2 ^ (64*34+63):=by decide +kernel
 have hn:=h.n;rw[hB]at hn⊢;generalize (2:Nat) ^ (64*34+63)=M at hn h4⊢;generalize BR AK=vi at *
 generalize CF l=P at *
 generalize CG l=Q at *
 generalize lv 18446744073709551616 s.n=n at *
 generalize 256*vi=W at *
 obtain⟨t1,t2,t3⟩:=JRN (M:=M) (n:=n) (S:=(P:Int)-Q) hn Ω Ω;constructor
 ·intro X;have:=t1.1 X;have:=t2 this;omega
 ·intro X
  have hs:(P:Int)-Q<0:=by
   rcases Int.lt_or_le ((P:Int)-Q) 0 with hh|hh
   ·exact hh
   ·exact absurd (t1.2 hh) X
  have:=t3 hs;omega
theorem ZHo(x:Int)(w:World):cQ 239 #[iI x] w (.float .f64 (if 0<=x then AK else AK+sgN)):=by
 have h1:∀W,(callFunc 53 #[uU 9218868437227405312]).run prog W=.ok (.value (.float .f64 9218868437227405312)) W:=λW=>UX 9218868437227405312 W;have h2:∀W,(callFunc 53 #[uU 18442240474082181120]).run prog W=.ok (.value (.float .f64 18442240474082181120)) W:=λW=>UX 18442240474082181120 W;by_cases h:0<=x
 ·rw[θ h];go_enter func239,ntmps239;go_wp2;go_ret;exact⟨rfl,rfl⟩
 ·rw[ψ h];go_enter func239,ntmps239;go_wp2;go_ret;exact⟨rfl,rfl⟩
theorem ZFj(h:A1 w p s)(hS:EC l s)(hl:l.length<=255):Calls prog 200 #[pP p] w λe w'=>e=.returned (.float .f64 (KV l))/\Gr w w':=by
 have HW:=ι hS.whole;have HZ:=ι hS.zeros;have J:=ι (hS.side hl);have I:=ι (Y8d h);have HC:=ι (λ(W:World) (gg:Gr w W)=>h.gr gg);have L:w.cell? ⟨p,36,none⟩=some (.bool s.na):=h.tail (k:=0) rfl;have Xg:w.cell? ⟨p,37,none⟩=some (.bool s.pl):=h.tail (k:=1) rfl;have Xj:w.cell? ⟨p,38,none⟩=some (.bool s.mi):=h.tail (k:=2) rfl;have cl:=h.row.lt;obtain⟨V,hV⟩:∃V,V=KV l:=⟨_,rfl⟩;rw[<-hV]at HW⊢;obtain⟨na,E⟩:∃na,na=s.na:=⟨_,rfl⟩;obtain⟨pl,D⟩:∃pl,pl=s.pl:=⟨_,rfl⟩;obtain⟨mi,Xd⟩:∃mi,mi=s.mi:=⟨_,rfl⟩;rw[<-E]at L HW;rw[<-D]at Xg HW;rw[<-Xd]at Xj HW;clear hV E D Xd h hS hl;cases na with
 | true=>
  have HV:Hid (V=9221120237041090560):=⟨HW.o⟩;clear HW;go_enter func200,ntmps200;go_wp2_with(go_at_call 15;refine AJ (PL _ _) ?_);go_ret;exact⟨by rw[HV.o] <;> rfl,Gr.refl _⟩
 | false=>
  cases pl with
  | true=>
   cases mi with
   | true=>
    have HV:Hid (V=9221120237041090560):=⟨HW.o⟩;clear HW;go_enter func200,ntmps200;go_wp2_with(go_at_call 15;refine AJ (PL _ _) ?_);go_ret;exact⟨by rw[HV.o] <;> rfl,Gr.refl _⟩
   | false=>
    have HV:Hid (V=AK):=⟨HW.o⟩;clear HW;go_enter func200,ntmps200;go_wp2_with(go_at_call 239;refine AJ (ZHo _ _) ?_);go_ret;exact⟨by rw[HV.o] <;> rfl,Gr.refl _⟩
  | false=>
   cases mi with
   | true=>
    have HV:Hid (V=AK+sgN):=⟨HW.o⟩;clear HW;go_enter func200,ntmps200;go_wp2_with(go_at_call 239;refine AJ (ZHo _ _) ?_);go_ret;exact⟨by rw[HV.o] <;> rfl,Gr.refl _⟩
   | false=>
    have HV:Hid (V=if decide (0<s.ct)&&(s.ze==s.ct)then sgN else if CF l<CG l then EK (CG l-CF l)+sgN else EK (CF l-CG l)):=⟨HW.o⟩;clear HW;go_enter func200,ntmps200
    go_upto_region 10 with(first
     | (go_at_call 240;refine I.o.mono ?_;rintro e w1 ⟨n',ng,rfl,hg,M,Xk,O⟩;have HG:=ι hg;have Xh:=ι M;have Xi:=ι Xk;have U:=ι O;have Xe:=ι (NZ (cs:=lbL n') (by unfold lbL;rw[ζU];exact M));have Xo:Hid ((prog.info? 314).map (·.size)=some (lbL n').toArray.size):=⟨by rw[show (lbL n').toArray.size=(lbL n').length by simp];exact Xe.o⟩;have Xb:Hid ((w1.alloc (.cells (lbL (List.replicate 35 0)).toArray 314)).there w1.heap.size 0 (lbL n').toArray.size):=⟨by rw[show (lbL n').toArray.size=(lbL (List.replicate 35 0)).length by unfold lbL;simp[M]];exact(Rec.new w1 314 (lbL (List.replicate 35 0))).there⟩;have HO:=ι (TV n');clear hg M Xk O)
     | (refine wpList_store_mid rfl 314 _ _ rfl w1.heap.size 0 (lbL n').toArray rfl rfl Xb.o Xo.o HO.o ?_))
    have A:BQ ((w1.alloc (.cells (lbL (List.replicate 35 0)).toArray 314)).setCells w1.heap.size 0 (lbL n')) w1.heap.size n':=BQ.over (Rec.new w1 _ _) rfl Xh.o Xi.o
    have Xa:Gr w1 ((w1.alloc (.cells (lbL (List.replicate 35 0)).toArray 314)).setCells w1.heap.size 0 (lbL n')):=by
     have t:=(((Gr.refl w1).alloc (.cells (lbL (List.replicate 35 0)).toArray 314)).touch (λk=>k=w1.heap.size)).trans (AB.setCells (q:=w1.heap.size) (lbL n') 0 _);exact(t.mono (T:=λ_=>False) (λk hk e=>by omega)).gr
    generalize hw2:World.setCells _ _ _ _=w2;have N:BQ w2 w1.heap.size n':=by rw[<-hw2];exact A
    have B:Gr w1 w2:=by rw[<-hw2];exact Xa
    clear hw2 A Xa Xb;obtain⟨b,hb⟩:∃b,b=w1.heap.size:=⟨_,rfl⟩;rw[<-hb]at N⊢;have Xp:=ι (HG.o.trans B);have Xm:=ι N.range;have hbl:=N.row.lt
    have hB:lv 18446744073709551616 n' < 2 ^ (64*34+63):=by
     rcases U.o with⟨-,h1,h2⟩|⟨-,h1,h2⟩
     ·rw[h2];exact h1
     ·obtain⟨k1,k2,k3⟩:=J.o.2 h1;rw[h2,k2];exact k3
    have Xf:=ι (λW=>Qlo Xh.o Xi.o hB W);clear hB N B hb L Xg Xj cl;obtain⟨R,hR⟩:∃R,R=EK (lv 18446744073709551616 n'):=⟨_,rfl⟩;rw[<-hR]at Xf;have HR:=ι hR;clear hR
    go_upto_region 11 with(first
     | (go_at_call 241;refine(Xf.o _).mono ?_;rintro e w3 ⟨rfl,hg⟩;have Xc:=ι (Xp.o.trans hg);clear hg)
     | (go_at_call 15;refine AJ (PL _ _) ?_)
     | (refine wpList_load_mid rfl 314 _ rfl b 0 rfl (lbL n') _ Xm.o underlying314 rfl Xe.o ?_))
    have h3:=HC.o _ Xc.o;have Xq:w3.cell? ⟨p,39,none⟩=some (iI s.ct):=h3.tail (k:=3) rfl;have Xn:w3.cell? ⟨p,40,none⟩=some (iI s.ze):=h3.tail (k:=4) rfl;have cl:=h3.row.lt;have G:Hid (Op.negFloat .f64 R=R+sgN):=⟨Qez (by rw[HR.o];exact ξq (Q1n _) (by decide))⟩;have hng:∀W,(Op.unary UnOp.neg (.float .f64 R)).run prog W=.ok (.float .f64 (Op.negFloat .f64 R)) W:=λW=>by simp[Op.unary,go_sem]
    have Z:Hid (∀W,Gr w3 W->Gr w W):=⟨λW gg=>Xc.o.trans gg⟩;have O:=U.o;rcases O with⟨rfl,h1,h2⟩|⟨rfl,h1,h2⟩
    ·obtain⟨k1,k2⟩:=J.o.1 h1;have Xl:Hid (R=EK (CF l-CG l)):=⟨by rw[HR.o,h2,k2]⟩;have X:Hid ((decide (0<s.ct)&&(s.ze==s.ct))=false->V=R):=⟨λhf=>by rw[HV.o,hf,ψ (by decide),ψ k1,Xl.o]⟩
     have Y:Hid ((decide (0<s.ct)&&(s.ze==s.ct))=true->V=R+sgN):=⟨λht=>by
      obtain⟨e1,e2⟩:=HZ.o ht;rw[HV.o,ht,θ rfl,Xl.o,e1,e2]
      decide⟩
     clear h1 h2 k1 k2 h3 U J HV HZ HC I;generalize s.ct=ct at Xq X Y;generalize s.ze=ze at Xn X Y;obtain⟨z1,d1⟩:∃z,decide ((0:Int)<ct)=z:=⟨_,rfl⟩;obtain⟨z2,d2⟩:∃z,(ze==ct)=z:=⟨_,rfl⟩;rw[d1,d2]at X Y;cases z1 with
     | false=>
      have HQ:=ι (X.o rfl);clear X Y;go_quiet (fail);go_wp2;go_ret;exact⟨by rw[HQ.o] <;> rfl,Z.o _ ((Gr.refl w3).drewN _)⟩
     | true=>
      cases z2 with
      | false=>
       have HQ:=ι (X.o rfl);clear X Y;go_quiet (fail);go_wp2;go_ret;exact⟨by rw[HQ.o] <;> rfl,Z.o _ ((Gr.refl w3).drewN _)⟩
      | true=>
       have HQ:=ι (Y.o rfl);clear X Y;go_quiet (fail);go_wp2;go_ret;exact⟨by rw[HQ.o,<-G.o] <;> rfl,Z.o _ ((Gr.refl w3).drewN _)⟩
    ·obtain⟨k1,k2,k3⟩:=J.o.2 h1
     have HQ:Hid (V=R+sgN):=⟨by
      have hz:(decide (0<s.ct)&&(s.ze==s.ct))=false:=by
       cases hz:(decide (0<s.ct)&&(s.ze==s.ct))with
       | false=>rfl
       | true=>
        obtain⟨e1,e2⟩:=HZ.o hz;omega
      rw[HV.o,hz,ψ (by decide),θ k1,HR.o,h2,k2]⟩
     clear h1 h2 k1 k2 k3 h3 U J HV HZ HC I;go_quiet (fail);go_wp2;go_ret;exact⟨by rw[HQ.o,<-G.o] <;> rfl,Z.o _ ((Gr.refl w3).drewN _)⟩
def C1(x:GOp):Array Value:=#[iI x.kd,iI x.a,iI x.b,iI x.i,iI x.h.p,iI x.h.f,iI x.h.k,uU (x.wd:Nat),.float .f64 x.fl]
def FB(e:GRe):List Value:=[iI e.code,.bool e.is,iI e.n,uU (e.wd:Nat),iI e.h.p,iI e.h.f,iI e.h.k]
def FY(e:GRe):Value:=.agg (FB e).toArray
def VcR:List Value:=[iI 0,.bool false,iI 0,uU 0,iI 0,iI 0,iI 0]
theorem PU{W:World}{e:GRe}(h:Rec W b 84 (FB e)):(loadVar 84 ⟨b,0,none⟩).run prog W=.ok (FY e) W:=WD h (by kernel_rfl) (by kernel_rfl)
end Go.Proofs.YtbdimhlaaoadgaaGreatDoor
