/- Lemmas. -/
import Derived.Test.YtcihfnpokdbfpaaGreatDoorTwoG
import Derived.Deep.MidRow
namespace Go.Proofs.YtcihfnpokdbfpaaGreatDoor
open _root_.Go.Proofs.Tryz
set_option maxHeartbeats 3200000
set_option maxRecDepth 100000
open Go.RowKit Word
variable{a:Act}{listed:Array Bool}{ops:Array Oper}{Q:Exit->Act->World->Prop}{g:Gph}{T al l n ww:List Nat}{xs:List Value}{b base c f i j k nb o p q y z:Nat}{F:Nat->Nat}{A B:Option Addr}{P:Program}{md:Region.Mode}{s:SmS}{v v1 v2 v3:Value}{w w':World}{C S0 S1:World->Prop}
def UV(n:List Nat)(k:Nat):Prop:=∀x∈n.drop k,x=0
theorem Jyg(h:UV n (k+1))(h0:n.getD k 0=0):UV n k:=λx hx=>by
 rcases δ k n.length with hk|hk
 ·rw[ξH hk]at hx;rcases ξC.1 hx with rfl|hx
  ·rw[κ,τ hk]at h0;exact h0
  ·exact h x hx
 ·rw[ψo hk]at hx;cases hx
theorem JPH{x:Nat}(hx:x<18446744073709551616):Word.len x=(CQ x:Nat):=by
 unfold Word.len CQ;by_cases h0:x=0
 ·subst h0;rw[θ rfl,ME (k:=-1) Ω Ω (λi _ _=>Nat.zero_testBit i) (λh=>by omega)];rfl
 ·rw[ψ h0];have h1:x.log2<64:=(Nat.log2_lt h0).2 hx
  rw[ME (k:=(x.log2:Nat)) Ω Ω (λi hi _=>Nat.testBit_lt_two_pow (ϑ Nat.lt_log2_self (Nat.pow_le_pow_right (by decide) Ω))) (λ_=>by
   rw[β,Nat.testBit_eq_decide_div_mod_eq];have a1:=Nat.log2_self_le h0;have a2:x<2 ^ (x.log2+1):=Nat.lt_log2_self
   have a3:x/2 ^ x.log2=1:=by
    have b1:1<=x/2 ^ x.log2:=(Nat.one_le_div_iff (Nat.two_pow_pos _)).2 a1;have b2:x/2 ^ x.log2<2:=(ζC (Nat.two_pow_pos _)).2 (by rw[Nat.pow_succ]at a2;omega);omega
   rw[a3]
   decide)]
  omega
theorem ZQZ(hl:n.length=35)(hd:∀x∈n,x<18446744073709551616)(w:World):Calls prog 236 #[lbV n] w λe w'=>e=.returned (iI (CQ (lv 18446744073709551616 n):Nat))/\Gr w w':=by
 have H:=ι (BY.new w hl hd);have U:=ι ((Gr.refl w).alloc (.cells (lbL n).toArray 250));have HL:=ι hl;have HD:=ι hd;obtain⟨N,hN⟩:=ε (CQ (lv 18446744073709551616 n));rw[<-hN];have HN:=ι hN;have G:w.heap.size<(w.alloc (.cells (lbL n).toArray 250)).heap.size:=by rw[π];omega
 unfold lbV;obtain⟨w1,J⟩:=ε (w.alloc (.cells (lbL n).toArray 250));rw[<-J]at H U G;have I:=ι J;have E:(lbL n).toArray.size=35:=by unfold lbL;simp[hl]
 generalize (lbL n).toArray=arr at I E⊢;clear J hN hl hd;go_in;go_upto_region 1 with(fail);rw[<-I.o];go_wp2
 go_loopw [3] (λs3 wr=>∃k:Nat,k<=35/\wr=w1/\Hid (UV n k)/\s3=iI ((k:Int)-1)) (λs3 _=>(intOf s3+1).toNat)
 case atStart=>exact⟨35,by omega,rfl,⟨λx hx=>by rw[ψo (by rw[HL.o];omega)]at hx;cases hx⟩,rfl⟩
 case round=>
  obtain⟨k,hk,Xa,HZ,rfl⟩:=hrel;have h:=Xa.symm;subst h;rcases k with _|j
  ·have O:N=0:=by
    rw[HN.o,(O5 (by decide)).2 (λx hx=>HZ.o x (by rw[List.drop_zero];exact hx))];rfl
   have V:(((0:Nat):Int)-1) = -1:=Ω
   rw[V];clear V;have D:=ι O;clear O;go_wp2;go_ret;exact⟨by rw[D.o] <;> rfl,U.o⟩
  ·have M:(((j+1:Nat):Int)-1)=(j:Int):=Ω
   rw[M];have hc:=H.o.limb (i:=j) Ω;have hd:=I4 (B:=18446744073709551616) (by decide) HD.o j;have Y:=ι (λ(W:World)=>Z4f (n.getD j 0) hd W);rw[JPH hd]at Y
   have X:Hid (n.getD j 0≠0->N=64*j+CQ (n.getD j 0)):=⟨λh0=>by
    rw[HN.o]
    exact ZHT (b:=64) HD.o (by rw[HL.o];omega) h0 HZ.o⟩
   have Z:Hid (n.getD j 0=0->UV n j):=⟨λh0=>Jyg HZ.o h0⟩
   have L:CQ (n.getD j 0)<=64:=by
    have h1:=JPH hd;have h2:=T8 (n.getD j 0);omega
   generalize CQ (n.getD j 0)=lx at Y X L;generalize n.getD j 0=x at hc hd Y X Z;have hjI:(j:Int)<35:=Ω
   clear M HZ;by_cases hx:0<x
   ·have hxI:(0:Int)<x:=Ω
    have A:=ι (X.o Ω);clear hx X Z hd;go_wp2_with(go_at_call 277;refine AJ (Y.o _) ?_);go_ret;exact⟨by rw[A.o] <;> rfl,U.o⟩
   ·obtain rfl:x=0:=Ω
    have Xb:=ι (Z.o rfl);clear hx X Z hd;go_wp2;go_round
    case rel=>exact⟨j,by omega,by first|trivial|rfl,Xb,by go_num⟩
    case measure=>simp[intOf]
theorem Zsi(hj:j<n.length)(h:∀x∈n.take j,x=0)(h0:n.getD j 0=0):∀x∈n.take (j+1),x=0:=λx hx=>by
 rw[ζK hj]at hx;rcases ζs.1 hx with hx|hx
 ·exact h x hx
 ·rw[ζO.1 hx];rw[κ,τ hj]at h0;exact h0
def YPr(n:List Nat)(k:Nat)(w:World)(e:Ending)(w':World):Prop:=∃b,(b=true↔blL n k)/\e=.returned (.bool b)/\Gr w w'
theorem XGY(hl:n.length=35)(hd:∀x∈n,x<18446744073709551616){at':Nat}(ha:at' / 64<35)(w:World):Calls prog 238 #[lbV n,iI at'] w (YPr n at' w):=by
 have H:=ι (BY.new w hl hd);have J:=ι ((Gr.refl w).alloc (.cells (lbL n).toArray 250));have HL:=ι hl;have e1:((at':Int).tdiv 64)=((at' / 64:Nat):Int):=rfl;have e2:((at':Int).tmod 64)=((at' % 64:Nat):Int):=rfl;have ho:at' % 64<64:=ζN _ (by decide);have HB:Hid (blL n at'↔(∃x∈n.take (at' / 64),x≠0)\/n.getD (at' / 64) 0%2 ^ (at' % 64)≠0):=⟨Iff.rfl⟩;have G:w.heap.size<(w.alloc (.cells (lbL n).toArray 250)).heap.size:=by rw[π];omega
 generalize at' / 64=q at e1 ha HB;generalize at' % 64=Y at e2 ho HB;have g1:IntKind.i64.wrap (q:Int)=(q:Int):=ζp _ Ω;unfold lbV;obtain⟨w1,M⟩:=ε (w.alloc (.cells (lbL n).toArray 250));rw[<-M]at H J G;have L:=ι M;have I:(lbL n).toArray.size=35:=by unfold lbL;simp[hl]
 generalize (lbL n).toArray=arr at L I⊢;clear M hl hd;go_in;go_upto_region 1 with(fail);rw[<-L.o];go_wp2
 go_loopw [8] (λs8 wr=>∃j:Nat,j<=q/\wr=w1/\Hid (∀x∈n.take j,x=0)/\s8=iI j) (λs8 _=>q-(intOf s8).toNat)
 case atStart=>exact⟨0,ζe _,rfl,⟨λx hx=>by cases hx⟩,rfl⟩
 case round=>
  obtain⟨j,hj,A,HZ,rfl⟩:=hrel;have h:=A.symm;subst h;by_cases hjq:j<q
  ·have Xe:(j:Int)<q:=Ω
   have hc:=H.o.limb (i:=j) Ω;have O:(j:Int)<35:=Ω
   have HX:Hid (n.getD j 0≠0->blL n at'):=⟨λh0=>HB.o.2 (.inl ⟨n.getD j 0,by
    rw[κ,τ (by rw[HL.o];omega),ψq]
    exact ψC.2 ⟨j,by rw[HL.o];omega,rfl⟩,h0⟩)⟩
   have U:Hid (n.getD j 0=0->∀x∈n.take (j+1),x=0):=⟨λh0=>Zsi (by rw[HL.o];omega) HZ.o h0⟩;generalize n.getD j 0=x at hc HX U;clear HZ;by_cases hx:0<x
   ·have hxI:(0:Int)<x:=Ω
    have Xa:=ι (HX.o Ω);clear hx HX U;go_wp2;go_ret;exact⟨true,⟨λ_=>Xa.o,λ_=>rfl⟩,rfl,J.o⟩
   ·obtain rfl:x=0:=Ω
    have Xf:=ι (U.o rfl);clear hx HX U;go_wp2;go_round
    case rel=>exact⟨j+1,by omega,by first|trivial|rfl,Xf,by go_num⟩
    case measure=>simp[intOf];omega
  ·have Xe:¬(j:Int)<q:=Ω
   obtain rfl:j=q:=Ω
   have hc:=H.o.limb (i:=j) ha;have E:=I4 (B:=18446744073709551616) (by decide) H.o.dig j;have X:=ι (Qkn (x:=n.getD j 0) ho)
   have Z:Hid (blL n at'↔n.getD j 0%2 ^ Y≠0):=⟨by
    refine⟨λh=>?_,λh=>HB.o.2 (.inr h)⟩;rcases HB.o.1 h with⟨x,hx,h0⟩|h
    ·exact absurd (HZ.o x hx) h0
    ·exact h⟩
   generalize n.getD j 0=x at hc X Z E;have O:(j:Int)<35:=Ω
   have Xc:((63:Int)-(Y:Int))=((63-Y:Nat):Int):=Ω
   have N:(63-Y:Nat)<=63:=Ω
   generalize 63-Y=c at Xc X N
   have hz:IntKind.u64.wrap ((x:Int)*2 ^ c)=((x*2 ^ c%18446744073709551616:Nat):Int):=by
    rw[ζG,ξB,ψa,Int.natCast_pow];rfl
   obtain⟨y,hy⟩:=ε (x*2 ^ c%18446744073709551616);have Xb:y<18446744073709551616:=by rw[hy];exact ζN _ (by decide)
   rw[<-hy]at hz X;have Xd:IntKind.u64.wrap ((y:Int)*2)=((y*2%18446744073709551616:Nat):Int):=by rw[ζG];omega
   generalize y*2%18446744073709551616=z at Xd X;clear hy E HZ HB Xb N;by_cases h0:0<z
   ·have hzI:(0:Int)<z:=Ω
    by_cases V:0<Y
    ·have D:decide (0<Y)=true:=φ V;have HR:Hid (blL n at'):=⟨Z.o.2 (X.o.1 ⟨h0,V⟩)⟩;clear h0 Z X;go_wp2;go_ret;exact⟨true,⟨λ_=>HR.o,λ_=>rfl⟩,rfl,J.o⟩
    ·have D:decide (0<Y)=false:=ζ V;have HR:Hid (¬blL n at'):=⟨λh=>V (X.o.2 (Z.o.1 h)).2⟩;clear h0 Z X;go_wp2;go_ret;exact⟨false,⟨λh=>absurd h (by decide),λh=>absurd h HR.o⟩,rfl,J.o⟩
   ·obtain rfl:z=0:=Ω
    have HR:Hid (¬blL n at'):=⟨λh=>h0 (X.o.2 (Z.o.1 h)).1⟩;clear h0 Z X;go_wp2;go_ret;exact⟨false,⟨λh=>absurd h (by decide),λh=>absurd h HR.o⟩,rfl,J.o⟩
theorem JlF{rest:List Oper}{op:Oper}(hw:Region.wanted op (yielded ops a.tmps)=true)(ty:TypeId)(x:Operand)(ho:op.op=.load ty x)
  (b o:Nat) (hx:a.eval x=.pointer (some ⟨b,o,none⟩)) (cs:List Value) (d:TypeDesc) (hc:w.rangeAt b o cs)
  (hu:P.underlying ty=some d) (hd:d.isRow=true) (hi:(P.info? ty).map (·.size)=some cs.length)
  (h:wpList P ops Q rest (a.put op.dst (.agg cs.toArray)) w):wpList P ops Q (op :: rest) a w:=
 wpList_step λK hK=>by rw[θ hw];exact wp_load_mid ty x ho b o hx cs d hc hu hd hi (hK _ _ h)
theorem BY.from0(h:BY w b n):(loadCellsFrom ⟨b,0,none⟩ 0 35 #[]).run prog w=.ok (lbL n).toArray w:=by
 have:=YaP h.row 35 0 #[] (by unfold lbL;rw[ζE,h.len]);simpa using this
theorem BY.range(h:BY w b n):w.rangeAt b 0 (lbL n):=λj v hj=>by
 rw[ζ6];exact h.row.cell hj
theorem PG{cs:List Value}(h:cs.length=35):(prog.info? 250).map (·.size)=some cs.length:=by
 rw[h];have:(prog.info? 250).map (·.size)=some 35:=by kernel_rfl
 exact this
theorem Qlo(hl:n.length=35)(hd:∀x∈n,x<18446744073709551616)(hs:lv 18446744073709551616 n<2 ^ (64*34+63))(w:World):Calls prog 177 #[lbV n] w λe w'=>e=.returned (uU (E4 (lv 18446744073709551616 n):Nat))/\Gr w w':=by
 obtain⟨k,hk⟩:=ε (CQ (lv 18446744073709551616 n)-53)
 have Xa:CQ (lv 18446744073709551616 n)<=2239:=by
  unfold CQ
  split
  ·omega
  ·rename_i h0;have:=(Nat.log2_lt h0).2 hs;omega
 have Xb:max ((CQ (lv 18446744073709551616 n):Int)-53) 0=(k:Int):=by
  clear hs hd hl;omega
 have A:k/64<35:=Ω
 obtain⟨R0,R1,R2⟩:=Vrg (l:=n) hd hk (by rw[hl];exact A);have M:=ι (λ(W:World)=>ZQZ hl hd W);have O:=ι (λ(W:World)=>ZR2 hl hd A W);have E:=ι (λ(W:World)=>XGY hl hd (at':=k-1) Ω W);have H:=ι (BY.new w hl hd);have V:=ι ((Gr.refl w).alloc (.cells (lbL n).toArray 250));have J:=ι (λ(W:World) (gg:Gr (w.alloc (.cells (lbL n).toArray 250)) W)=>((BY.new w hl hd).gr gg).range);have Xp:=ι (λ(W:World) (gg:Gr (w.alloc (.cells (lbL n).toArray 250)) W)=>((BY.new w hl hd).gr gg).from0);have N:w.heap.size<(w.alloc (.cells (lbL n).toArray 250)).heap.size:=by rw[π];omega
 have Xy:frL n k<9007199254740992:=by unfold frL;exact ζN _ (by decide)
 have e1:(((k-1:Nat):Int).tdiv 64)=(((k-1)/64:Nat):Int):=rfl;have e2:(((k-1:Nat):Int).tmod 64)=(((k-1)%64:Nat):Int):=rfl;have hq:(k-1)/64<35:=Ω
 have ho:(k-1)%64<64:=ζN _ (by decide);have U:=H.o.limb hq;have D:=I4 (B:=18446744073709551616) (by decide) hd ((k-1)/64);have hm2:=NW prog;have hmi2:=TU prog;obtain⟨R,hR⟩:=ε (E4 (lv 18446744073709551616 n));rw[<-hR]at R0 R1 R2⊢;have Xe:k=0->R=min (frL n k) AM:=λh=>(R0 h).trans (by rw[h]);clear R0;generalize CQ (lv 18446744073709551616 n)=ln at hk Xa M Xb;generalize frL n k=fr at Xe R1 R2 O Xy;have hb1:IntKind.u64.wrap (k:Int)=(k:Int):=by rw[ζG];omega
 have Yf:IntKind.u64.wrap ((k:Int)*4503599627370496)=((k*4503599627370496:Nat):Int):=by rw[ζG];omega
 have Xz:=ι Xe;have Yc:=ι R1;have Ya:=ι R2;unfold lbV at M O E J⊢;obtain⟨w1,Xg⟩:=ε (w.alloc (.cells (lbL n).toArray 250));rw[<-Xg]at H V N J Xp U;have Xr:=ι Xg;have Xj:(lbL n).length=35:=by unfold lbL;simp[hl]
 have HI:=ι (PG Xj);generalize lbL n=cs at Xr Xj HI M O E J Xp⊢;have harr:cs.toArray.size=35:=by simpa using Xj
 clear Xg Xe R1 R2 hR hs hl hd hk;go_in;go_upto_region 1 with(fail);rw[<-Xr.o]
 go_upto_region 3 with(first|(go_at_call 236;refine Qb (M.o _) λw2 Xd=>?_)|(go_at_call 237;refine Qa (O.o _) λw3 hg=>?_;have X:=ι (Xd.o.trans hg);clear hg)|(have hm:=Xd.o;clear hm;refine wpList_load_mid rfl 250 _ rfl w.heap.size 0 rfl cs _ (J.o _ Xd.o) underlying250 rfl HI.o ?_)|(refine wpList_load_mid rfl 250 _ rfl w.heap.size 0 rfl cs _ (J.o _ (Gr.refl w1)) underlying250 rfl HI.o ?_))
 obtain⟨kb,Xi⟩:=ε (k*4503599627370496);have Xu:=ι Xi;rw[<-Xi]at Yf;have Yg:IntKind.u64.wrap ((kb:Int)+(fr:Int))=((kb+fr:Nat):Int):=by rw[ζG];omega
 have G:IntKind.u64.wrap (((kb+fr:Nat):Int)+1)=((kb+fr+1:Nat):Int):=by rw[ζG];omega
 obtain⟨B0,Xh⟩:=ε (kb+fr);have Xl:=ι Xh;rw[<-Xh]at Yg G;obtain⟨B1,Xc⟩:=ε (B0+1);have Ye:=ι Xc;rw[<-Xc]at G;have Xf:∀z:Nat,min (z:Int) 9218868437227405312=((min z AM:Nat):Int):=λz=>by unfold AM;omega
 have Z:=Xf B0;have Y:=Xf B1;clear Xi Xh Xc Xf Xb Xa;by_cases I:k=0
 ·have Yd:¬(0:Int)<k:=Ω
  have HF:Hid (R=min B0 AM):=⟨by rw[Xz.o I,Xl.o,Xu.o,I,ξ5,ζ6]⟩;clear I G Y e1 e2;generalize min B0 AM=MM at Z HF;go_wp2;go_ret;exact⟨by rw[HF.o] <;> rfl,V.o.trans X.o⟩
 ·have Yd:(0:Int)<k:=Ω
  obtain⟨k1,Xk⟩:=ε (k-1);have hkk:((k:Int)-1)=(k1:Int):=Ω
  have R1:=Yc.o Ω;have R2:=Ya.o Ω;rw[<-Xk]at e1 e2 U E R1 R2 hq ho D;have Xt:k1/64<35:=hq;generalize k1/64=q at e1 U R1 R2 hq D;generalize k1%64=L at e2 ho R1 R2;generalize n.getD q 0=x at U R1 R2 D;have hq1:IntKind.i64.wrap (q:Int)=(q:Int):=ζp _ Ω;have hqI:(q:Int)<35:=Ω
  have Yb:((x:Int)/2 ^ L)=((x/2 ^ L:Nat):Int):=by rw[ζ2,Int.natCast_pow];rfl
  have Xo:x/2 ^ L<=x:=ζV _ _;generalize x/2 ^ L=y at Yb Xo R1 R2
  have Xm:bits .and .u64 (y:Int) 1=((y%2:Nat):Int):=by
   have e:(1:Int)=((1:Nat):Int):=rfl;rw[e,EP y 1 Ω Ω,Nat.and_one_is_mod]
  have Xv:bits .and .u64 (fr:Int) 1=((fr%2:Nat):Int):=by
   have e:(1:Int)=((1:Nat):Int):=rfl;rw[e,EP fr 1 Ω Ω,Nat.and_one_is_mod]
  have Xx:=ι (λ(W:World) (gg:Gr w3 W)=>J.o W (X.o.trans gg));rw[<-Xu.o,<-Xl.o]at R1 R2;rw[<-Ye.o]at R1;clear Xk D Xo I;have hc3:w3.cell? ⟨w.heap.size,q,none⟩=some (uU (x:Nat)):=(X.o.cell N q).trans U;have hw3:w.heap.size<w3.heap.size:=ϑ N X.o.size;clear U N Xt;rcases(by omega:y%2=0\/y%2=1)with hz|hz
  ·rw[hz]at Xm;have HF:Hid (R=min B0 AM):=⟨R2 (λh=>by rw[hz]at h;exact absurd h.1 (by decide))⟩;clear G Y R1 R2 hz;generalize min B0 AM=MM at Z HF;go_wp2;go_ret;exact⟨by rw[HF.o] <;> rfl,V.o.trans X.o⟩
  ·rw[hz]at Xm;rcases(by omega:fr%2=1\/fr%2=0)with hf|hf
   ·rw[hf]at Xv;have HF:Hid (R=min B1 AM):=⟨R1 hz (.inl hf)⟩;clear Z R1 R2 hz hf;generalize min B1 AM=MM at Y HF;go_wp2;go_ret;exact⟨by rw[HF.o] <;> rfl,V.o.trans X.o⟩
   ·rw[hf]at Xv;have Xs:Hid (blL n k1->R=min B1 AM):=⟨λh=>R1 hz (.inr h)⟩
    have Xq:Hid (¬blL n k1->R=min B0 AM):=⟨λh=>R2 (λhh=>by
     rcases hh.2 with h3|h3
     ·rw[hf]at h3;exact absurd h3 (by decide)
     ·exact h h3)⟩
    clear R1 R2 hz hf;generalize min B0 AM=M0 at Z Xq;generalize min B1 AM=M1 at Y Xs
    go_wp2_with(first|(go_at_call 238;refine(E.o _).mono ?_;rintro e w4 ⟨(_|_),hb,rfl,hg⟩ <;> (have Xw:=ι hg;have Xn:=ι hb;clear hg hb))|(refine JlF rfl 250 (.tmp 1) rfl w.heap.size 0 rfl cs _ (Xx.o _ (Gr.refl w3)) underlying250 rfl HI.o ?_))
    ·go_ret;exact⟨by rw[Xq.o (λh=>by have:=Xn.o.2 h;cases this)] <;> rfl,V.o.trans (X.o.trans Xw.o)⟩
    ·go_ret;exact⟨by rw[Xs.o (Xn.o.1 trivial)] <;> rfl,V.o.trans (X.o.trans Xw.o)⟩
theorem Za3(v:Value)(r:List Value)(ho:o<xs.length):(xs.set o v).take (o+1)++r=xs.take o++v :: r:=by
 rw[ζK (by rw[ζa];exact ho),List.getElem_set_self,List.take_set_of_le (μ _),ξj];rfl
theorem Rec.setCells{q T:Nat}:∀(vs:List Value) (o:Nat) (w:World) (xs:List Value),Rec w q T xs->o+vs.length=xs.length->Rec (w.setCells q o vs) q T (xs.take o++vs)
 | [],o,w,xs,h,hl=>by
  rw[ψP,ξe (by simp at hl;omega)];exact h
 | v :: r,o,w,xs,h,hl=>by
  have hl:o+(r.length+1)=xs.length:=hl;have:=Rec.setCells r (o+1) (w.setCell ⟨q,o,none⟩ v) (xs.set o v) (h.set o v) (by rw[ζa];omega);rw[Za3 v r Ω]at this;exact this
theorem AB.setCells{q:Nat}:∀(vs:List Value) (o:Nat) (w:World),AB (λk=>k=q) w (w.setCells q o vs)
 | [],_,_=>AB.refl _ _
 | v :: r,o,w=>((AB.refl (λk=>k=q) w).setCell (a:=⟨q,o,none⟩) (λ_=>rfl) v).trans (AB.setCells r (o+1) _)
theorem V3(n:List Nat):(lbL n).toArray.all (·.oneCell')=true:=all_oneCell_toArray (λv hv=>by
 unfold lbL at hv;obtain⟨x,-,rfl⟩:=ξw.1 hv
 rfl)
theorem BY.over(h:Rec w b 250 xs)(hx:xs.length=35)(hl:n.length=35)(hd:∀x∈n,x<18446744073709551616):BY (w.setCells b 0 (lbL n)) b n:=by
 refine⟨?_,hl,hd⟩;have:=Rec.setCells (lbL n) 0 w xs h (by unfold lbL;rw[ζE,hl,hx]);rw[ψU,ζ4]at this;exact this
theorem Rec.there{T:Nat}(h:Rec w b T xs):w.there b 0 xs.length:=λj hj=>by
 rw[ζ6];refine⟨?_,h.free j⟩;rw[h.cell (τ hj)];rfl
theorem BA.range(h:BA w p s):w.rangeAt p 1 (lbL s.n):=λj v hj=>by
 have X:j<35:=by
  have:=(List.getElem?_eq_some_iff.1 hj).1;unfold lbL at this;rw[ζE,h.len]at this;exact this
 rw[h.limb X];unfold lbL at hj;rw[ξD,τ (by rw[h.len];exact X)]at hj;rw[κ,τ (by rw[h.len];exact X)];exact hj
def JuE(w:World)(n:List Nat)(e:Ending)(w':World):Prop:=∃n' ng,e=.returned (.tuple #[lbV n',.bool ng])/\Gr w w'/\n'.length=35/\(∀x∈n',x<18446744073709551616) ∧
 ((ng=false/\lv 18446744073709551616 n<2 ^ (64*34+63)/\n'=n)\/(ng=true/\¬lv 18446744073709551616 n<2 ^ (64*34+63)/\lv 18446744073709551616 n'=18446744073709551616 ^ 35-lv 18446744073709551616 n))
theorem Y8d(h:BA w p s):Calls prog 176 #[pP p] w (JuE w s.n):=by
 have HZR:=ι (Rec.new w 250 (lbL (List.replicate 35 0)));have cl:=h.row.lt;have H:=ι h;have HI:=ι (PG (cs:=lbL s.n) (by unfold lbL;rw[ζE];exact h.len));clear h;go_in;go_upto_region 1 with(fail);generalize hw1:w.alloc (Obj.cells _ _)=w1;have Xu:Rec w1 w.heap.size 250 (lbL (List.replicate 35 0)):=by rw[<-hw1];exact Rec.new w _ _
 have Xd:Gr w w1:=by rw[<-hw1];exact(Gr.refl w).alloc _
 have Xp:w1.heap.size=w.heap.size+1:=by rw[<-hw1];exact π ..
 clear hw1;have Xs:=ι Xu;have Yf:=ι Xd;have Xh:=ι Xp;have Xi:=ι ((H.o.gr Xd).range);have Xf:(lbL s.n).toArray.size=35:=by unfold lbL;simp[H.o.len]
 have Xj:Hid ((prog.info? 250).map (·.size)=some (lbL s.n).toArray.size):=⟨by rw[Xf];exact PG (cs:=lbL (List.replicate 35 0)) rfl⟩
 have J:Hid ((w1.alloc (.cells (lbL (List.replicate 35 0)).toArray 250)).there w1.heap.size 0 (lbL s.n).toArray.size):=⟨by
  rw[Xf]
  exact(Rec.new w1 250 (lbL (List.replicate 35 0))).there⟩
 have Xm:Hid (BY ((w1.alloc (.cells (lbL (List.replicate 35 0)).toArray 250)).setCells w1.heap.size 0 (lbL s.n)) w1.heap.size s.n):=⟨BY.over (Rec.new w1 _ _) rfl H.o.len H.o.dig⟩
 have Xv:Hid (Gr w1 ((w1.alloc (.cells (lbL (List.replicate 35 0)).toArray 250)).setCells w1.heap.size 0 (lbL s.n))):=⟨by
  have t:=(((Gr.refl w1).alloc (.cells (lbL (List.replicate 35 0)).toArray 250)).touch (λk=>k=w1.heap.size)).trans (AB.setCells (q:=w1.heap.size) (lbL s.n) 0 _)
  exact(t.mono (T:=λ_=>False) (λk hk e=>by omega)).gr⟩
 have Xt:=ι (V3 s.n);clear Xu Xd Xp Xf;have Xy:p<w1.heap.size:=by have:=Xh.o;omega
 go_upto_region 2 with(first|(refine wpList_load_mid rfl 250 _ rfl p 1 rfl (lbL s.n) _ Xi.o underlying250 rfl HI.o ?_)|(refine wpList_store_mid rfl 250 _ _ rfl w1.heap.size 0 (lbL s.n).toArray rfl rfl J.o Xj.o Xt.o ?_))
 have Xn:=Xm.o;have Xq:=Xv.o;generalize hw2:World.setCells _ _ _ _=w2;have Z:BY w2 w1.heap.size s.n:=by rw[<-hw2];exact Xn
 have O:Gr w1 w2:=by rw[<-hw2];exact Xq
 clear hw2 Xn Xq Xm Xv J Xi Xy;obtain⟨b,hb⟩:=ε w1.heap.size;rw[<-hb]at Z⊢;have Yc:=ι hb;have Xo:=ι (Yf.o.trans O);have D:=ι (Xs.o.gr O);have Xk:b≠w.heap.size:=by have:=Xh.o;omega
 have Yd:=ι Xk;have X:=ι Z;have hx:=I4 (B:=18446744073709551616) (by decide) Z.dig 34;have Xa:=Z.limb (i:=34) (by decide);have N:=ι (Qrb (l:=s.n) Z.dig Z.len);have hbl:=Z.row.lt;have hwl:=(Xs.o.gr O).lt;have hu:∀(W:World) (n':List Nat),BY W b n'->W.rangeAt b 0 (lbL n'):=λW n' h=>h.range;have HU:=ι hu;clear hu Z O hb Xk;have KL:=ι (λ(W:World) (n':List Nat) (h:BY W w.heap.size n')=>h.load);rcases(by omega:s.n.getD 34 0/9223372036854775808=0\/s.n.getD 34 0/9223372036854775808=1)with h0|h0
 ·have HQ:Hid (lv 18446744073709551616 s.n<2 ^ (64*34+63)):=⟨N.o.1 h0⟩;have e0:((s.n.getD 34 0:Nat):Int)/9223372036854775808=0:=Ω
  generalize s.n.getD 34 0=x at Xa e0 hx;clear N h0
  have J:Hid (w2.there w.heap.size 0 (lbL s.n).toArray.size):=⟨by
   rw[show (lbL s.n).toArray.size=(lbL (List.replicate 35 0)).length by unfold lbL;simp[X.o.len]]
   exact D.o.there⟩
  go_wp2_with(first|(refine wpList_load_mid rfl 250 _ rfl b 0 rfl (lbL s.n) _ (HU.o _ _ X.o) underlying250 rfl HI.o ?_)|(refine wpList_store_mid rfl 250 _ _ rfl w.heap.size 0 (lbL s.n).toArray rfl rfl J.o Xj.o Xt.o ?_))
  have hL:BY (w2.setCells w.heap.size 0 (lbL s.n)) w.heap.size s.n:=BY.over D.o rfl X.o.len X.o.dig;have hl:=KL.o _ _ hL;refine ζH (v:=.tuple #[lbV s.n,.bool false]) ?_ rfl ?_
  ·rw[results_cell_tmp rfl];simp[asAddr,Result.andThen,hl]
  ·have t:=(Xo.o.touch (λk=>k=w.heap.size)).trans (AB.setCells (q:=w.heap.size) (lbL s.n) 0 w2);exact⟨s.n,false,rfl,(t.mono (T:=λ_=>False) (λk hk e=>by omega)).gr,X.o.len,X.o.dig,.inl ⟨rfl,HQ.o,rfl⟩⟩
 ·have hq:¬lv 18446744073709551616 s.n<2 ^ (64*34+63):=λh=>by
   have:=N.o.2 h;have e:s.n.getD 34 0/2 ^ 63=s.n.getD 34 0/9223372036854775808:=rfl;omega
  have HQ:=ι hq;have e0:((s.n.getD 34 0:Nat):Int)/9223372036854775808=1:=Ω
  generalize s.n.getD 34 0=x at Xa e0 hx;clear N h0 hq;go_wp2;clear Xa e0 hx
  go_loopw [5,16] (λs5 s16 wr=>∃(i c:Nat) (l':List Nat),i<=35/\Hid (IR 18446744073709551616 s.n l' i c/\BY wr b l'/\AB (λk=>k=b) w2 wr)/\s5=uU c/\s16=iI i) (λ_ s16 _=>35-(intOf s16).toNat)
  case atStart=>exact⟨0,1,s.n,by omega,⟨IR.zero X.o.dig,X.o,AB.refl _ _⟩,rfl,rfl⟩
  case round=>
   obtain⟨i,c,l',hi,HP,rfl,rfl⟩:=hrel;by_cases Xc:i<35
   ·have Xz:(i:Int)<35:=Ω
    obtain⟨n1,n2,n3⟩:=HP.o;have Xx:=n1.car;have hd:=I4 (B:=18446744073709551616) (by decide) X.o.dig i;have M:=n2.limb Xc;rw[n1.same i (μ _)]at M;have Xl:=XTi (s.n.getD i 0) hd;have Y:=n1.step (by decide) X.o.dig (by rw[X.o.len];exact Xc);have hv:18446744073709551616-1-s.n.getD i 0=18446744073709551615-s.n.getD i 0:=Ω
    rw[hv]at Y;have G:18446744073709551615-s.n.getD i 0<18446744073709551616:=Ω
    have hfree:=n2.row.free;have hlt:=n2.row.lt;generalize s.n.getD i 0=x at M Xl hd hv Y G;generalize 18446744073709551615-x=v at Xl Y G;have L:=λW=>Jlz v 0 c Xx W;have hy:(v+c)%18446744073709551616<18446744073709551616:=ζN _ (by decide);have E:=ι (n2.put (i:=i) hy);have U:=ι Y;obtain⟨y,I⟩:=ε ((v+c)%18446744073709551616);obtain⟨d,Xb⟩:=ε ((v+c)/18446744073709551616);have hadd2:∀W,(callFunc 235 #[uU v,uU 0,uU c]).run prog W=.ok (.value (.tuple #[uU (y:Nat),uU (d:Nat)])) W:=λW=>by rw[I,Xb];exact L W
    rw[<-I,<-Xb]at U;rw[<-I]at E;have Xe:=ι n3;clear L hy I Xb Y n1 n2 n3 hv G hd Xx HP;go_wp2;go_round
    case rel=>exact⟨i+1,d,l'.set i y,by omega,⟨U.o,E.o,Xe.o.setCell (a:=⟨b,i,none⟩) (λ_=>rfl) _⟩,rfl,by go_num⟩
    case measure=>simp[intOf];omega
   ·have Xz:¬(i:Int)<35:=Ω
    obtain rfl:i=35:=Ω
    obtain⟨n1,n2,n3⟩:=HP.o;have Xw:=Q8s (k:=34) (off:=63) HQ.o;have Xg:=IR.done (c:=c) (by rw[X.o.len];exact n1) Xw;rw[X.o.len]at Xg;have Ye:=ι Xg;have V:=ι n2;have A:=ι (D.o.touch n3 (λe=>Yd.o e.symm));have Xe:=ι n3
    have J:Hid (wr.there w.heap.size 0 (lbL l').toArray.size):=⟨by
     rw[show (lbL l').toArray.size=(lbL (List.replicate 35 0)).length by unfold lbL;simp[n2.len]]
     exact A.o.there⟩
    have Xr:=ι (PG (cs:=lbL l') (by unfold lbL;rw[ζE];exact n2.len))
    have Ya:Hid ((prog.info? 250).map (·.size)=some (lbL l').toArray.size):=⟨by
     rw[show (lbL l').toArray.size=(lbL l').length by simp];exact Xr.o⟩
    have Yb:=ι (V3 l');have hbl2:=n2.row.lt;have hwl2:=A.o.lt;clear n1 n2 n3 Xw Xg HP hi Xc
    go_wp2_with(first|(refine wpList_load_mid rfl 250 _ rfl b 0 rfl (lbL l') _ (HU.o _ _ V.o) underlying250 rfl Xr.o ?_)|(refine wpList_store_mid rfl 250 _ _ rfl w.heap.size 0 (lbL l').toArray rfl rfl J.o Ya.o Yb.o ?_))
    have hL:BY (wr.setCells w.heap.size 0 (lbL l')) w.heap.size l':=BY.over A.o rfl V.o.len V.o.dig;have hl:=KL.o _ _ hL;refine ζH (v:=.tuple #[lbV l',.bool true]) ?_ rfl ?_
    ·rw[results_cell_tmp rfl];simp[asAddr,Result.andThen,hl]
    ·have t:=((Xo.o.touch (λk=>k=w.heap.size\/k=b)).trans (Xe.o.mono (λk _ h=>.inr h))).trans ((AB.setCells (q:=w.heap.size) (lbL l') 0 wr).mono (λk _ h=>.inl h));refine⟨l',true,rfl,(t.mono (T:=λ_=>False) (λk hk e=>?_)).gr,V.o.len,V.o.dig,.inr ⟨rfl,HQ.o,Ye.o⟩⟩;have h1:=Yc.o;have h2:=Xh.o;rcases e with e|e
     ·have e:k=w.heap.size:=e;omega
     ·have e:k=b:=e;omega
theorem Qez(h:b<9223372036854775808):Op.negFloat .f64 b=b+9223372036854775808:=by
 have e:b ^^^ 2 ^ 63=b ||| 2 ^ 63:=ξm λi=>by
  rw[Nat.testBit_xor,Nat.testBit_or,Nat.testBit_two_pow];by_cases hi:63=i
  ·subst hi;rw[Nat.testBit_lt_two_pow (show b<2 ^ 63 from h)];rfl
  ·rw[ζ hi];simp
 show b ^^^ 2 ^ 63=_
 rw[e];have:=K8 b 1 63 9223372036854775808 (by decide) h;rw[ξl,ξI]at this;exact this
theorem ES.whole(h:ES l s):LZ l=if s.na||(s.pl&&s.mi)then 9221120237041090560 else if s.pl then AM else if s.mi then AM+sgN else if decide (0<s.ct)&&(s.ze==s.ct)then sgN else if CO l<CP l then E4 (CP l-CO l)+sgN else E4 (CO l-CP l):=by
 unfold LZ;rw[h.na,h.pl,h.mi];have e1:decide (0<s.ct)=decide (0<l.length):=by rw[h.ct];exact ξy.2 Ω
 have e2:(s.ze==s.ct)=(l.all λb=>b==sgN):=by
  rw[h.ze,h.ct,ψj,ξk,ζ1];constructor
  ·intro hh b hb;have:=ψn.1 (show (l.filter λb=>b==sgN).length=l.length by omega);exact this b hb
  ·intro hh;have:=ψn.2 hh;omega
 rw[e1,e2]
theorem ES.zeros(h:ES l s)(hz:(decide (0<s.ct)&&(s.ze==s.ct))=true):CO l=0/\CP l=0:=by
 have e2:∀b∈l,b=sgN:=by
  rw[ζd,ξk,h.ze,h.ct]at hz;intro b hb;have:=ψn.1 (show (l.filter λb=>b==sgN).length=l.length by omega) b hb;simpa using this
 have v0:BZ 0=0:=by decide
 clear h hz
 induction l with
 | nil=>exact⟨rfl,rfl⟩
 | cons b l ih=>
  obtain⟨h1,h2⟩:=ih (λx hx=>e2 x (ζB _ hx));have hb:=e2 b (ζu ..);subst hb;unfold CO CP at *
  rw[ξr,ψb,ξr,ψb,h1,h2];refine⟨by rw[ψ (by decide)],by rw[θ (by decide)];exact v0⟩
theorem ES.side(h:ES l s)(hl:l.length<=255):(lv 18446744073709551616 s.n<2 ^ (64*34+63)->¬CO l<CP l/\lv 18446744073709551616 s.n=CO l-CP l) ∧
  (¬lv 18446744073709551616 s.n<2 ^ (64*34+63)->CO l<CP l/\18446744073709551616 ^ 35-lv 18446744073709551616 s.n=CP l-CO l/\CP l-CO l<2 ^ (64*34+63)):=by
 have h1:=X2h l;have h2:=QXW l;have h3:l.length*BZ AM<=256*BZ AM:=ζj _ Ω;have h4:=QaL;have hB:(18446744073709551616:Nat) ^ 35=2*2 ^ (64*34+63):=by decide +kernel
 have hn:=h.n;rw[hB]at hn⊢;generalize (2:Nat) ^ (64*34+63)=M at hn h4⊢;generalize BZ AM=vi at *
 generalize CO l=P at *
 generalize CP l=Q at *
 generalize lv 18446744073709551616 s.n=n at *
 generalize 256*vi=W at *
 obtain⟨t1,t2,t3⟩:=JRN (M:=M) (n:=n) (S:=(P:Int)-Q) hn Ω Ω;constructor
 ·intro X;have:=t1.1 X;have:=t2 this;omega
 ·intro X
  have hs:(P:Int)-Q<0:=by
   rcases Int.lt_or_le ((P:Int)-Q) 0 with hh|hh
   ·exact hh
   ·exact absurd (t1.2 hh) X
  have:=t3 hs;omega
theorem ZHo(x:Int)(w:World):cQ 175 #[iI x] w (.float .f64 (if 0<=x then AM else AM+sgN)):=by
 have h1:∀W,(callFunc 91 #[uU 9218868437227405312]).run prog W=.ok (.value (.float .f64 9218868437227405312)) W:=λW=>XC 9218868437227405312 W;have h2:∀W,(callFunc 91 #[uU 18442240474082181120]).run prog W=.ok (.value (.float .f64 18442240474082181120)) W:=λW=>XC 18442240474082181120 W;by_cases h:0<=x
 ·rw[θ h];go_enter func175,ntmps175;go_wp2;go_ret;exact⟨rfl,rfl⟩
 ·rw[ψ h];go_enter func175,ntmps175;go_wp2;go_ret;exact⟨rfl,rfl⟩
theorem ZFj(h:BA w p s)(hS:ES l s)(hl:l.length<=255):Calls prog 107 #[pP p] w λe w'=>e=.returned (.float .f64 (LZ l))/\Gr w w':=by
 have HW:=ι hS.whole;have HZ:=ι hS.zeros;have J:=ι (hS.side hl);have I:=ι (Y8d h);have HC:=ι (λ(W:World) (gg:Gr w W)=>h.gr gg);have L:w.cell? ⟨p,36,none⟩=some (.bool s.na):=h.tail (k:=0) rfl;have Xg:w.cell? ⟨p,37,none⟩=some (.bool s.pl):=h.tail (k:=1) rfl;have Xj:w.cell? ⟨p,38,none⟩=some (.bool s.mi):=h.tail (k:=2) rfl;have cl:=h.row.lt;obtain⟨V,hV⟩:=ε (LZ l);rw[<-hV]at HW⊢;obtain⟨na,E⟩:=ε s.na;obtain⟨pl,D⟩:=ε s.pl;obtain⟨mi,Xd⟩:=ε s.mi;rw[<-E]at L HW;rw[<-D]at Xg HW;rw[<-Xd]at Xj HW;clear hV E D Xd h hS hl;cases na with
 | true=>
  have HV:Hid (V=9221120237041090560):=⟨HW.o⟩;clear HW;go_in;go_wp2_with(go_at_call 25;refine AJ (Q9 _ _) ?_);go_ret;exact⟨by rw[HV.o] <;> rfl,Gr.refl _⟩
 | false=>
  cases pl with
  | true=>
   cases mi with
   | true=>
    have HV:Hid (V=9221120237041090560):=⟨HW.o⟩;clear HW;go_in;go_wp2_with(go_at_call 25;refine AJ (Q9 _ _) ?_);go_ret;exact⟨by rw[HV.o] <;> rfl,Gr.refl _⟩
   | false=>
    have HV:Hid (V=AM):=⟨HW.o⟩;clear HW;go_in;go_wp2_with(go_at_call 175;refine AJ (ZHo _ _) ?_);go_ret;exact⟨by rw[HV.o] <;> rfl,Gr.refl _⟩
  | false=>
   cases mi with
   | true=>
    have HV:Hid (V=AM+sgN):=⟨HW.o⟩;clear HW;go_in;go_wp2_with(go_at_call 175;refine AJ (ZHo _ _) ?_);go_ret;exact⟨by rw[HV.o] <;> rfl,Gr.refl _⟩
   | false=>
    have HV:Hid (V=if decide (0<s.ct)&&(s.ze==s.ct)then sgN else if CO l<CP l then E4 (CP l-CO l)+sgN else E4 (CO l-CP l)):=⟨HW.o⟩;clear HW;go_in
    go_upto_region 10 with(first|(go_at_call 176;refine I.o.mono ?_;rintro e w1 ⟨n',ng,rfl,hg,M,Xk,O⟩;have HG:=ι hg;have Xh:=ι M;have Xi:=ι Xk;have U:=ι O;have Xe:=ι (PG (cs:=lbL n') (by unfold lbL;rw[ζE];exact M));have Xo:Hid ((prog.info? 250).map (·.size)=some (lbL n').toArray.size):=⟨by rw[show (lbL n').toArray.size=(lbL n').length by simp];exact Xe.o⟩;have Xb:Hid ((w1.alloc (.cells (lbL (List.replicate 35 0)).toArray 250)).there w1.heap.size 0 (lbL n').toArray.size):=⟨by rw[show (lbL n').toArray.size=(lbL (List.replicate 35 0)).length by unfold lbL;simp[M]];exact(Rec.new w1 250 (lbL (List.replicate 35 0))).there⟩;have HO:=ι (V3 n');clear hg M Xk O)|(refine wpList_store_mid rfl 250 _ _ rfl w1.heap.size 0 (lbL n').toArray rfl rfl Xb.o Xo.o HO.o ?_))
    have A:BY ((w1.alloc (.cells (lbL (List.replicate 35 0)).toArray 250)).setCells w1.heap.size 0 (lbL n')) w1.heap.size n':=BY.over (Rec.new w1 _ _) rfl Xh.o Xi.o
    have Xa:Gr w1 ((w1.alloc (.cells (lbL (List.replicate 35 0)).toArray 250)).setCells w1.heap.size 0 (lbL n')):=by
     have t:=(((Gr.refl w1).alloc (.cells (lbL (List.replicate 35 0)).toArray 250)).touch (λk=>k=w1.heap.size)).trans (AB.setCells (q:=w1.heap.size) (lbL n') 0 _);exact(t.mono (T:=λ_=>False) (λk hk e=>by omega)).gr
    generalize hw2:World.setCells _ _ _ _=w2;have N:BY w2 w1.heap.size n':=by rw[<-hw2];exact A
    have B:Gr w1 w2:=by rw[<-hw2];exact Xa
    clear hw2 A Xa Xb;obtain⟨b,hb⟩:=ε w1.heap.size;rw[<-hb]at N⊢;have Xp:=ι (HG.o.trans B);have Xm:=ι N.range;have hbl:=N.row.lt
    have hB:lv 18446744073709551616 n' < 2 ^ (64*34+63):=by
     rcases U.o with⟨-,h1,h2⟩|⟨-,h1,h2⟩
     ·rw[h2];exact h1
     ·obtain⟨k1,k2,k3⟩:=J.o.2 h1;rw[h2,k2];exact k3
    have Xf:=ι (λW=>Qlo Xh.o Xi.o hB W);clear hB N B hb L Xg Xj cl;obtain⟨R,hR⟩:=ε (E4 (lv 18446744073709551616 n'));rw[<-hR]at Xf;have HR:=ι hR;clear hR
    go_upto_region 11 with(first|(go_at_call 177;refine Qa (Xf.o _) λw3 hg=>?_;have Xc:=ι (Xp.o.trans hg);clear hg)|(go_at_call 25;refine AJ (Q9 _ _) ?_)|(refine wpList_load_mid rfl 250 _ rfl b 0 rfl (lbL n') _ Xm.o underlying250 rfl Xe.o ?_))
    have h3:=HC.o _ Xc.o;have Xq:w3.cell? ⟨p,39,none⟩=some (iI s.ct):=h3.tail (k:=3) rfl;have Xn:w3.cell? ⟨p,40,none⟩=some (iI s.ze):=h3.tail (k:=4) rfl;have cl:=h3.row.lt;have G:Hid (Op.negFloat .f64 R=R+sgN):=⟨Qez (by rw[HR.o];exact ξx (Q1n _) (by decide))⟩;have hng:∀W,(Op.unary UnOp.neg (.float .f64 R)).run prog W=.ok (.float .f64 (Op.negFloat .f64 R)) W:=λW=>by simp[Op.unary,go_sem]
    have Z:Hid (∀W,Gr w3 W->Gr w W):=⟨λW gg=>Xc.o.trans gg⟩;have O:=U.o;rcases O with⟨rfl,h1,h2⟩|⟨rfl,h1,h2⟩
    ·obtain⟨k1,k2⟩:=J.o.1 h1;have Xl:Hid (R=E4 (CO l-CP l)):=⟨by rw[HR.o,h2,k2]⟩;have X:Hid ((decide (0<s.ct)&&(s.ze==s.ct))=false->V=R):=⟨λhf=>by rw[HV.o,hf,ψ (by decide),ψ k1,Xl.o]⟩
     have Y:Hid ((decide (0<s.ct)&&(s.ze==s.ct))=true->V=R+sgN):=⟨λht=>by
      obtain⟨e1,e2⟩:=HZ.o ht;rw[HV.o,ht,θ rfl,Xl.o,e1,e2]
      decide⟩
     clear h1 h2 k1 k2 h3 U J HV HZ HC I;generalize s.ct=ct at Xq X Y;generalize s.ze=ze at Xn X Y;obtain⟨z1,d1⟩:∃z,decide ((0:Int)<ct)=z:=⟨_,rfl⟩;obtain⟨z2,d2⟩:∃z,(ze==ct)=z:=⟨_,rfl⟩;rw[d1,d2]at X Y;cases z1 with
     | false=>
      have HQ:=ι (X.o rfl);clear X Y;go_quiet (fail);go_wp2;go_ret;exact⟨by rw[HQ.o] <;> rfl,Z.o _ ((Gr.refl w3).drewN _)⟩
     | true=>
      cases z2 with
      | false=>
       have HQ:=ι (X.o rfl);clear X Y;go_quiet (fail);go_wp2;go_ret;exact⟨by rw[HQ.o] <;> rfl,Z.o _ ((Gr.refl w3).drewN _)⟩
      | true=>
       have HQ:=ι (Y.o rfl);clear X Y;go_quiet (fail);go_wp2;go_ret;exact⟨by rw[HQ.o,<-G.o] <;> rfl,Z.o _ ((Gr.refl w3).drewN _)⟩
    ·obtain⟨k1,k2,k3⟩:=J.o.2 h1
     have HQ:Hid (V=R+sgN):=⟨by
      have hz:(decide (0<s.ct)&&(s.ze==s.ct))=false:=by
       cases hz:(decide (0<s.ct)&&(s.ze==s.ct))with
       | false=>rfl
       | true=>
        obtain⟨e1,e2⟩:=HZ.o hz;omega
      rw[HV.o,hz,ψ (by decide),θ k1,HR.o,h2,k2]⟩
     clear h1 h2 k1 k2 k3 h3 U J HV HZ HC I;go_quiet (fail);go_wp2;go_ret;exact⟨by rw[HQ.o,<-G.o] <;> rfl,Z.o _ ((Gr.refl w3).drewN _)⟩
def C6(x:GOp):Array Value:=#[iI x.kd,iI x.a,iI x.b,iI x.i,iI x.h.p,iI x.h.f,iI x.h.k,uU (x.wd:Nat),.float .f64 x.fl]
def FH(e:GRe):List Value:=[iI e.code,.bool e.is,iI e.n,uU (e.wd:Nat),iI e.h.p,iI e.h.f,iI e.h.k]
def FT(e:GRe):Value:=.agg (FH e).toArray
def VcR:List Value:=[iI 0,.bool false,iI 0,uU 0,iI 0,iI 0,iI 0]
theorem RM{W:World}{e:GRe}(h:Rec W b 39 (FH e)):(loadVar 39 ⟨b,0,none⟩).run prog W=.ok (FT e) W:=QD h (by kernel_rfl) (by kernel_rfl)
def MS(w:World)(A:Option Addr)(l:List Nat):Prop:=∀i,i<l.length->∃b o,A=some ⟨b,o,none⟩/\b<w.heap.size/\w.cell? ⟨b,o+i,none⟩=some (uU (l.getD i 0:Nat))
def EZ(l:List Nat):List Value:=l.map λx:Nat=>uU x
theorem YGR(h:i<l.length):(EZ l)[i]?=some (uU (l.getD i 0:Nat)):=by
 unfold EZ;rw[ξD,κ,τ h];rfl
structure GB(g:Gph)(T:List Nat)(i:Nat):Prop where
 ok:OkL T
 inn:InL g.L.length T
 run:∃f,FF g.pts f T i=g.all/\g.L.length+1<=f+i
theorem GB.start(h:g.Ok):GB g (BP [] g.S) 0:=⟨MT _ Y5,SR (λx hx=>absurd hx (by simp)) h.st,⟨g.L.length+1,rfl,by omega⟩⟩
theorem GB.step(h:g.Ok)(hM:GB g T i)(hi:i<T.length):GB g (BP T (g.pts (T.getD i 0))) (i+1):=by
 obtain⟨h1,h2,f,h3,h4⟩:=hM;have hl:=h2.len h1;have hx:=h2 _ (SS hi);refine⟨MT _ h1,SR h2 (λy hy=>h.pts_le hy),?_⟩;obtain⟨f',rfl⟩:∃f',f=f' + 1:=⟨f-1,by omega⟩;refine⟨f',?_,by omega⟩;rw[<-h3]
 show _=(if i<T.length then FF g.pts f' (BP T (g.pts (T.getD i 0))) (i+1)else T)
 rw[θ hi]
def plL(al:List Nat)(y:Nat):Int:=if y≠0/\y∈al then (al.idxOf y:Nat)else -1
structure CK where
 p:List Int
 f:List Nat
 k:List Nat
variable{d:CK}
def Gph.slD(g:Gph):List Int:=g.S.map (plL g.all)
def Gph.ndD(g:Gph)(x:Nat):CK:=⟨(g.pts x).map (plL g.all),(g.ob x).fls,(g.ob x).w.drop ((g.ob x).p+(g.ob x).f)⟩
def Gph.ndsD(g:Gph):List CK:=g.all.map g.ndD
def LD:CK:=⟨[],[],[]⟩
def RC(w:World)(b o:Nat)(d:CK):Prop:=∃(A1 A2 A3:Option Addr) (c1 c2 c3:Nat),w.cell? ⟨b,o,none⟩=some (.slice A1 d.p.length c1)/\w.cell? ⟨b,o+1,none⟩=some (.slice A2 d.f.length c2)/\w.cell? ⟨b,o+2,none⟩=some (.slice A3 d.k.length c3)/\MJ w A1 d.p/\MS w A2 d.f/\MS w A3 d.k
def QE(w:World)(A:Option Addr)(l:List CK):Prop:=∀i,i<l.length->∃b o,A=some ⟨b,o,none⟩/\b<w.heap.size/\RC w b (o+i*3) (l.getD i LD)
def GD(w:World)(v:Value)(s:List Int)(l:List CK):Prop:=∃A B c d,v=.agg #[.slice A s.length c,.slice B l.length d]/\MJ w A s/\QE w B l
theorem NQ{l:List Int}(h:MJ w A l)(g:Gr w w'):MJ w' A l:=λi hi=>by
 obtain⟨b,o,e,hb,hc⟩:=h i hi;exact⟨b,o,e,ϑ hb g.size,(g.cell hb _).trans hc⟩
theorem N5(h:MS w A l)(g:Gr w w'):MS w' A l:=λi hi=>by
 obtain⟨b,o,e,hb,hc⟩:=h i hi;exact⟨b,o,e,ϑ hb g.size,(g.cell hb _).trans hc⟩
theorem RC.gr(h:RC w b o d)(hb:b<w.heap.size)(g:Gr w w'):RC w' b o d:=by
 obtain⟨A1,A2,A3,c1,c2,c3,h1,h2,h3,h4,h5,h6⟩:=h;exact⟨A1,A2,A3,c1,c2,c3,(g.cell hb _).trans h1,(g.cell hb _).trans h2,(g.cell hb _).trans h3,NQ h4 g,N5 h5 g,N5 h6 g⟩
theorem QE.gr{l:List CK}(h:QE w A l)(g:Gr w w'):QE w' A l:=λi hi=>by
 obtain⟨b,o,e,hb,hc⟩:=h i hi;exact⟨b,o,e,ϑ hb g.size,hc.gr hb g⟩
theorem GD.gr{s:List Int}{l:List CK}(h:GD w v s l)(g:Gr w w'):GD w' v s l:=by
 obtain⟨A,B,c,d,e,h1,h2⟩:=h;exact⟨A,B,c,d,e,NQ h1 g,h2.gr g⟩
def I9(F:Nat->Nat)(T:List Nat)(a:Int):Option Value:=(T.findIdx? λy=>decide ((F y:Int)=a)).map λi=>iI (i:Nat)
theorem Qde(h:∀z∈T,F z≠F y):I9 F T (F y)=none:=by
 unfold I9;rw[List.findIdx?_eq_none_iff.2 (λz hz=>ζ (by have:=h z hz;omega))];rfl
theorem J9n(hi:∀z∈T,F z=F y->z=y)(hy:y∈T):I9 F T (F y)=some (iI (T.idxOf y:Nat)):=by
 unfold I9
 have e:(T.findIdx? λz=>decide ((F z:Int)=(F y:Int)))=some (T.idxOf y):=by
  have Y:=List.idxOf_lt_length_of_mem hy;rw[List.findIdx?_eq_some_iff_getElem];refine⟨Y,φ (by rw[List.getElem_idxOf]),λj hj=>?_⟩;have X:j<T.length:=Ω
  simp only[Bool.not_eq_true,ξL];intro e;have e2:=hi _ (χ X) Ω;have h2:=ψI hj;simp[e2]at h2
 rw[e];rfl
theorem ZY2(h:∀z∈T,F z≠F y):I9 F (T++[y])=λa:Int=>if a=(F y:Int)then some (iI (T.length:Nat))else I9 F T a:=by
 funext a
 unfold I9;rw[List.findIdx?_append];by_cases e:a=(F y:Int)
 ·subst e;rw[θ rfl,List.findIdx?_eq_none_iff.2 (λz hz=>ζ (by have:=h z hz;omega))];simp
 ·rw[ψ e];cases hf:(T.findIdx? λy=>decide ((F y:Int)=a))with
  | some i=>simp
  | none=>simp[show ¬(F y:Int)=a from λh=>e h.symm]
theorem VvW:I9 F []=λ_=>none:=by
 funext a
 rfl
theorem XgR{S:List Nat}(hy:y=0\/y∈T):plL (T++S) y=plL T y:=by
 unfold plL;rcases hy with rfl|hy
 ·simp
 ·by_cases h0:y=0
  ·simp[h0]
  ·rw[θ ⟨h0,ξq _ hy⟩,θ ⟨h0,hy⟩,List.idxOf_append,θ hy]
theorem JaM:(prog.info? 126).map (λi=>(i.zero,i.size,i.bytes))=some (some (.agg #[.slice none 0 0,.slice none 0 0,.slice none 0 0]),3,72):=by kernel_rfl
def F9(l:List Int):List Value:=l.map λx:Int=>iI x
theorem X8Z{l:List Int}(h:i<l.length):(F9 l)[i]?=some (iI l[i]):=by
 unfold F9;rw[ξD,τ h];rfl
structure DK(w:World)(b:Nat)(v1 v2 v3:Value)(d:CK):Prop where
 o1:w.ownsRow b 3 1 v1 d.p.length (F9 d.p)
 o2:w.ownsRow b 35 1 v2 d.f.length (EZ d.f)
 o3:w.ownsRow b 35 1 v3 d.k.length (EZ d.k)
def nvC(v:Value×Value×Value):List Value:=[v.1,v.2.1,v.2.2]
def PR(w:World)(b:Nat)(vN:Value)(l:List CK):Prop:=∃vs:List (Value×Value×Value),vs.length=l.length/\w.ownsRow b 126 3 vN l.length (vs.flatMap nvC)/\∀i (h:i<l.length),∃v,vs[i]?=some v/\DK w 0 v.1 v.2.1 v.2.2 l[i]
theorem fm3:∀(vs:List (Value×Value×Value)) (i:Nat) (v:Value×Value×Value),vs[i]?=some v->(vs.flatMap nvC)[i*3]?=some v.1/\(vs.flatMap nvC)[i*3+1]?=some v.2.1/\(vs.flatMap nvC)[i*3+2]?=some v.2.2
 | [],_,_,h=>by simp at h
 | x :: r,0,v,h=>by
  obtain rfl:x=v:=by simpa using h
  exact⟨rfl,rfl,rfl⟩
 | x :: r,i+1,v,h=>by
  have:=fm3 r i v (by simpa using h);have e:(x :: r).flatMap nvC=x.1 :: x.2.1 :: x.2.2 :: r.flatMap nvC:=rfl;rw[e,show (i+1)*3=i*3+1+1+1 by omega];simpa using this
section
variable{T:Nat->Prop}
theorem DK.gr(h:DK w b v1 v2 v3 d)(g:Gr w w'):DK w' b v1 v2 v3 d:=⟨CF h.o1 g,CF h.o2 g,CF h.o3 g⟩
theorem PR.shape{vN:Value}{l:List CK}(h:PR w b vN l):∃A c,vN=.slice A l.length c/\l.length<=c/\c<=maxLen:=by
 obtain⟨vs,hl,ho,-⟩:=h;exact B9 ho
theorem YUk{n:Nat}{l:List Int}(h:w.ownsRow base 3 1 (.slice A n c) n (F9 l))(hn:n=l.length):MJ w A l:=λi hi=>by
 subst hn;obtain⟨g,c,e,-,-,-,X⟩:=E6 h Ω;cases e;exact⟨g,0,rfl,X,by rw[ζ6];exact BU h (X8Z hi)⟩
theorem Yjb{n:Nat}(h:w.ownsRow base 35 1 (.slice A n c) n (EZ l))(hn:n=l.length):MS w A l:=λi hi=>by
 subst hn;obtain⟨g,c,e,-,-,-,X⟩:=E6 h Ω;cases e;exact⟨g,0,rfl,X,by rw[ζ6];exact BU h (YGR hi)⟩
theorem PR.at{A:Option Addr}{b c n:Nat}{l:List CK}(h:PR w b (.slice A n c) l):QE w A l:=by
 obtain⟨vs,hl,ho,hn⟩:=h;intro i hi;obtain⟨A',c',e,-,-⟩:=B9 ho;cases e;obtain⟨g,c',e,-,-,-,Y⟩:=E6 ho Ω;cases e;obtain⟨⟨v1,v2,v3⟩,hv,hd⟩:=hn i hi;obtain⟨k0,k1,k2⟩:=fm3 vs i _ hv;obtain⟨A1,c1,e1,-⟩:=B9 hd.o1;obtain⟨A2,c2,e2,-⟩:=B9 hd.o2;obtain⟨A3,c3,e3,-⟩:=B9 hd.o3;dsimp only at e1 e2 e3 k0 k1 k2;subst e1 e2 e3;have X:l.getD i LD=l[i]:=by rw[κ,τ hi];rfl
 refine⟨g,0,rfl,Y,?_⟩;rw[X,ζ6];exact⟨A1,A2,A3,c1,c2,c3,BU ho k0,BU ho k1,BU ho k2,YUk hd.o1 rfl,Yjb hd.o2 rfl,Yjb hd.o3 rfl⟩
end
def ndK(al ww:List Nat)(p f k:Nat):CK:=⟨((ww.take p).take k).map (plL al),((ww.drop p).take f).take (k-p),(ww.drop (p+f)).take (k-(p+f))⟩
theorem QZ(l:List Nat)(h:k<l.length):l.take (k+1)=l.take k++[l.getD k 0]:=by
 rw[ζK h,κ,τ h];rfl
theorem QrH(al ww:List Nat)(p f:Nat):ndK al ww p f 0=⟨[],[],[]⟩:=by unfold ndK;simp
theorem Yg9(h:k<p)(hw:k<ww.length):ndK al ww p f (k+1)=⟨(ndK al ww p f k).p++[plL al (ww.getD k 0)],(ndK al ww p f k).f,(ndK al ww p f k).k⟩:=by
 unfold ndK;simp only[CK.mk.injEq];refine⟨?_,by rw[show k+1-p=k-p by omega],by rw[show k+1-(p+f)=k-(p+f)by omega]⟩;rw[ξn,ξn,ξ8 Ω,ξ8 Ω,QZ ww hw,ζI];rfl
theorem XW6(h1:p<=k)(h:k<p+f)(hw:k<ww.length):ndK al ww p f (k+1)=⟨(ndK al ww p f k).p,(ndK al ww p f k).f++[ww.getD k 0],(ndK al ww p f k).k⟩:=by
 unfold ndK;simp only[CK.mk.injEq];refine⟨?_,?_,by rw[show k+1-(p+f)=k-(p+f)by omega]⟩
 ·rw[ξn,ξn,ξP Ω,ξP Ω]
 ·have e:ww.getD k 0=((ww.drop p).take f).getD (k-p) 0:=by
   rw[κ,κ,ψG Ω,ξS,show p+(k-p)=k by omega]
  rw[e,show k+1-p=(k-p)+1 by omega,QZ _ (by rw[ξc,ψt];omega)]
theorem ZZl(h1:p+f<=k)(hw:k<ww.length):ndK al ww p f (k+1)=⟨(ndK al ww p f k).p,(ndK al ww p f k).f,(ndK al ww p f k).k++[ww.getD k 0]⟩:=by
 unfold ndK;simp only[CK.mk.injEq];refine⟨?_,?_,?_⟩
 ·rw[ξn,ξn,ξP Ω,ξP Ω]
 ·rw[ξn,ξn,ξP Ω,ξP Ω]
 ·have e:ww.getD k 0=(ww.drop (p+f)).getD (k-(p+f)) 0:=by
   rw[κ,κ,ξS,show p+f+(k-(p+f))=k by omega]
  rw[e,show k+1-(p+f)=(k-(p+f))+1 by omega,QZ _ (by rw[ψt];omega)]
theorem Xjo(g:Gph)(x:Nat)(hw:(g.ob x).w.length=(g.ob x).p+(g.ob x).f+(g.ob x).k):ndK g.all (g.ob x).w (g.ob x).p (g.ob x).f (g.ob x).w.length=g.ndD x:=by
 unfold ndK Gph.ndD Gph.pts GOb.fls;simp only[CK.mk.injEq];refine⟨?_,?_,?_⟩
 ·rw[ξn,ξP Ω]
 ·rw[ξn,ξP Ω]
 ·rw[ξe];rw[ψt];omega
theorem ZBn(al ww:List Nat)(p f k:Nat):(ndK al ww p f k).p.length<=k/\(ndK al ww p f k).f.length<=k/\(ndK al ww p f k).k.length<=k:=by
 unfold ndK;dsimp only;refine⟨?_,?_,?_⟩
 ·rw[ζE,ξc];omega
 ·rw[ξc];omega
 ·rw[ξc];omega
def SQ(w:World)(g:Gph)(e:Ending)(w':World):Prop:=∃v,e=.returned v/\Gr w w'/\GD w' v g.slD g.ndsD
section
variable{wa w5:World}{u v':Value}
theorem KN(w5:World)(nb j:Nat)(u:Value):AB (λk=>k=nb) w5 (w5.setCell ⟨nb,j,none⟩ u):=(AB.refl (λk=>k=nb) w5).setCell (a:=⟨nb,j,none⟩) (λ_=>rfl) u
theorem DK.push1{z:Int}(h:DK w b v1 v2 v3 d)(t:AB (λk=>v1.ownBlock=some k) w w5)(hq:Rec w5 nb 126 xs)(ho:w5.ownsRow b 3 1 v' (d.p.length+1) (F9 d.p++[iI z])):DK (w5.setCell ⟨nb,j,none⟩ u) b v' v2 v3 ⟨d.p++[z],d.f,d.k⟩:=by
 have h2:=AX h.o2 t (λg hg e=>AG h.o1 h.o2 (by decide) e hg rfl);have h3:=AX h.o3 t (λg hg e=>AG h.o1 h.o3 (by decide) e hg rfl);refine⟨?_,AW h2 u (λg hg=>AG h2 hq (by decide) hg rfl),AW h3 u (λg hg=>AG h3 hq (by decide) hg rfl)⟩;have:=AW (j:=j) ho u (λg hg=>AG ho hq (by decide) hg rfl)
 show World.ownsRow _ b _ 1 v' (d.p++[z]).length (F9 (d.p++[z]))
 unfold F9;rw[ζm,ζI];exact this
theorem DK.push2(h:DK w b v1 v2 v3 d)(hne:∀k,v2.ownBlock=some k->v3.ownBlock≠some k)(t:AB (λk=>v2.ownBlock=some k) w w5)(hq:Rec w5 nb 126 xs)(ho:w5.ownsRow b 35 1 v' (d.f.length+1) (EZ d.f++[uU z])):DK (w5.setCell ⟨nb,j,none⟩ u) b v1 v' v3 ⟨d.p,d.f++[z],d.k⟩:=by
 have h1:=AX h.o1 t (λg hg e=>AG h.o1 h.o2 (by decide) hg e rfl);have h3:=AX h.o3 t (λg hg e=>hne g e hg);refine⟨AW h1 u (λg hg=>AG h1 hq (by decide) hg rfl),?_,AW h3 u (λg hg=>AG h3 hq (by decide) hg rfl)⟩;have:=AW (j:=j) ho u (λg hg=>AG ho hq (by decide) hg rfl)
 show World.ownsRow _ b _ 1 v' (d.f++[z]).length (EZ (d.f++[z]))
 unfold EZ;rw[ζm,ζI];exact this
theorem DK.push3(h:DK w b v1 v2 v3 d)(hne:∀k,v2.ownBlock=some k->v3.ownBlock≠some k)(t:AB (λk=>v3.ownBlock=some k) w w5)(hq:Rec w5 nb 126 xs)(ho:w5.ownsRow b 35 1 v' (d.k.length+1) (EZ d.k++[uU z])):DK (w5.setCell ⟨nb,j,none⟩ u) b v1 v2 v' ⟨d.p,d.f,d.k++[z]⟩:=by
 have h1:=AX h.o1 t (λg hg e=>AG h.o1 h.o3 (by decide) hg e rfl);have h2:=AX h.o2 t (λg hg e=>hne g hg e);refine⟨AW h1 u (λg hg=>AG h1 hq (by decide) hg rfl),AW h2 u (λg hg=>AG h2 hq (by decide) hg rfl),?_⟩;have:=AW (j:=j) ho u (λg hg=>AG ho hq (by decide) hg rfl)
 show World.ownsRow _ b _ 1 v' (d.k++[z]).length (EZ (d.k++[z]))
 unfold EZ;rw[ζm,ζI];exact this
end
def adL(F:Nat->Nat)(T:List Nat):List Value:=T.map λy=>iI (F y:Nat)
theorem V8E(h:i<T.length):(adL F T)[i]?=some (iI (F (T.getD i 0):Nat)):=by
 unfold adL
 simp_all
def EW(nb mb:Nat)(v:Value)(k:Nat):Prop:=k=nb\/k=mb\/v.ownBlock=some k
structure CS(w:World)(nb mb:Nat)(F:Nat->Nat)(T:List Nat)(v:Value):Prop where
 row:Rec w nb 131 [.map (some mb),v]
 own:w.ownsRow 0 3 1 v T.length (adL F T)
 map:BH prog 3 w mb T.length (I9 F T)
def MY(w:World)(nb mb:Nat)(F:Nat->Nat)(T':List Nat)(v:Value)(w':World):Prop:=AB (EW nb mb v) w w'/\∃v',CS w' nb mb F T' v'/\∀g,v'.ownBlock=some g->v.ownBlock=some g\/w.heap.size<=g
section
variable{mb:Nat}
theorem CS.touch{R:Nat->Prop}(h:CS w nb mb F T v)(t:AB R w w')(hT:∀k,EW nb mb v k->¬R k):CS w' nb mb F T v:=
 ⟨h.row.touch t (hT _ (.inl rfl)),AX h.own t (λg hg=>hT g (.inr (.inr hg))),h.map.touch t (hT _ (.inr (.inl rfl)))⟩
theorem CS.gr(h:CS w nb mb F T v)(g:Gr w w'):CS w' nb mb F T v:=h.touch (g.touch (λ_=>False)) (λ_ _=>id)
theorem CS.same(h:CS w nb mb F T v):MY w nb mb F T v w:=⟨.refl _ _,v,h,λ_=>.inl⟩
theorem CS.ne(h:CS w nb mb F T v):mb≠nb/\∀g,v.ownBlock=some g->g≠nb/\g≠mb:=by
 obtain⟨X,e⟩:=H9 h.row rfl;refine⟨h.map.ne ⟨_,_,e⟩,λg hg=>⟨AG h.own h.row (by decide) hg rfl,λe2=>?_⟩⟩;obtain⟨X,e1⟩:=H9 h.own hg;exact h.map.ne ⟨_,_,e1⟩ e2.symm
theorem CS.shape(h:CS w nb mb F T v):∃A c,v=.slice A T.length c/\T.length<=c/\c<=maxLen:=B9 h.own
theorem YaZ(nb:Nat)(w:World):cQ 68 #[pP nb,iI 0] w (iI (-1)):=by
 go_enter func68,ntmps68;go_wp2;go_ret
 simp_all
theorem XqV(h:CS w nb mb F T v)(hy:y∈T)(hi:∀z∈T,F z=F y->z=y)(h0:0<F y)(hb:F y<9223372036854775808):cQ 68 #[pP nb,iI (F y:Nat)] w (iI (T.idxOf y:Nat)):=by
 have lk:=h.map.look_ok GQ underlying129 underlying3 (OM w) (x:=(F y:Nat)) (WalkArith.wf_i64 Ω);rw[J9n hi hy]at lk;have c0:=h.row.cc 0;generalize T.idxOf y=m at lk⊢;generalize F y=a at lk h0 hb⊢;go_enter func68,ntmps68;go_wp2;go_ret;exact⟨rfl,rfl⟩
theorem XCg(h:CS w nb mb F T v)(hy:∀z∈T,F z≠F y)(h0:0<F y)(hb:F y<9223372036854775808)(hl:T.length<=1000000):Calls prog 68 #[pP nb,.int .i64 (F y:Nat)] w λe w'=>e=.returned (.int .i64 (T.length:Nat))/\MY w nb mb F (T++[y]) v w':=by
 obtain⟨ii,Xn,Xr,Xj,Xk⟩:=info_parts NA;have I:(Lit.int .i64 ((F y:Nat):Int)).wf=true:=WalkArith.wf_i64 Ω;have lk:=h.map.look_ok GQ underlying129 underlying3 (OM w) (x:=(F y:Nat)) I;rw[Qde hy]at lk;simp only[Option.getD_none,Option.isSome_none]at lk;obtain⟨A,c,rfl,Xs,hc2⟩:=h.shape;have B:=h.ne;have Xb:=(ZY2 hy);have Xc:Hid (adL F (T++[y])=adL F T++[.int .i64 (F y:Nat)]):=⟨by unfold adL;rw[ζI];rfl⟩;have X:=B;have L:=I;obtain⟨c0,c1,cl⟩:=h.row.k2;obtain⟨a,ha⟩:=ε (F y);rw[<-ha]at lk h0 hb Xb Xc L⊢;have d0:((a:Int)==0)=false:=by rw[ζl];omega
 have G:=hl;obtain⟨n,hn⟩:=ε T.length;rw[<-hn]at c1 Xs hl G⊢;have HN:=ι hn;clear hy B I h0 hb ha hn;go_in;go_upto_region 6 with(fail);obtain⟨Sx,V,HS⟩:=AA.start λW'=>Rec W' nb 131 [.map (some mb),.slice A n c];have y0:=AA.fact V λ_ h=>h.cell (j:=0) rfl;have y1:=AA.fact V λ_ h=>h.cell (j:=1) rfl;have yl:∀p:AA Sx,nb<p.w.heap.size:=λp=>by have h:=AA.get V p;exact h.lt
 have D:=HS.o _ ((by rw[HN.o];exact h.row.gr (Gr.refl _).drew));have Xa:Inhabited (AA Sx):=⟨⟨_,D⟩⟩;clear V;refine BI Sx 10 [([0,1,2,3,4,5,6,7,8,9],10)] [] D ?_;refine AL ?_;go_wp2_with((at_mapUpdate;refine X8 _ rfl _ _ _ 129 rfl 3 3 GQ underlying129 underlying3 mb T.length (I9 F T) rfl (h.map.gr (Gr.refl w).drew) (by have:=G;have:=HN.o;unfold maxLen;omega) (a:Int) (.int .i64 (n:Nat)) rfl rfl L ?_;intro w3 Xl Xq;have M:=(((Gr.refl w).drew.touch (λi=>i=mb)).trans Xq)));refine⟨.inl trivial,?_⟩;refine CU ?_;clear y0 y1 yl D Xa;have J:=(h.row.touch M (λe=>X.1 e.symm));rw[<-HN.o]at J;have Xd:=(AX h.own M (λg hg e=>(X.2 g hg).2 e));rw[<-HN.o]at Xd;have c1:=J.cc 1;have cl:=J.lt;go_upto_region 8 with(at_builtin;refine wpList_append_own_at _ rfl _ _ 42 rfl 0 3 ii _ 1 8 underlying42 Xn Xr Xj Xk rfl (by decide) (.slice A n c) n (adL F T) rfl (CF Xd ((Gr.refl _).alloc _)) ⟨w3.heap.size,0,none⟩ 1 1 [.int .i64 (a:Nat)] rfl rfl (ζY (cs:=#[.int .i64 (a:Nat)]) (t:=3) (fr:=(0,0)) (heap_alloc_new w3 _)) (by simp[Value.oneCell']) (by unfold maxLen;have:=G;omega) Ω (ζe _) ?_;intro v' w4 N Z _ Xi;obtain⟨A',c',rfl,-,-⟩:=B9 N;have Y:=((J.gr ((Gr.refl w3).alloc (.cells #[.int .i64 (a:Nat)] 3))).touch (DT Z (λk=>(Value.slice A n c).ownBlock=some k) (λk e _=>e)) (λe=>(X.2 _ (by rw[<-HN.o];exact e)).1 rfl));have Xg:=N;have Xe:=Z;have Xm:=Xi;have c1:=Y.cc 1;have cf:=Y.free;have cl:=Y.lt);have Xp:Hid (AB (EW nb mb (.slice A n c)) w w4):=⟨((M.mono (T:=EW nb mb (.slice A n c)) (λk _ e=>.inr (.inl e))).trans (((Gr.refl w3).alloc _).touch _)).trans (DT Xe _ (λk e _=>.inr (.inr e)))⟩;have Xo:mb≠nb:=X.1;have E:=(((Xl.gr ((Gr.refl w3).alloc (.cells #[.int .i64 (a:Nat)] 3))).touch (DT Xe (λk=>(Value.slice A n c).ownBlock=some k) (λk e _=>e)) (λe=>(X.2 _ (by rw[<-HN.o];exact e)).2 rfl)).touch ((AB.refl (λk=>k=nb) w4).setCell (a:=⟨nb,1,none⟩) (λ_=>rfl) (.slice A' (n+1) c')) Xo);have hsz:=((M.size:w.heap.size<=w3.heap.size));have hz3:=π w3 (.cells #[.int .i64 (a:Nat)] 3)
 have O:∀g,(Value.slice A' (n+1) c').ownBlock=some g->((Value.slice A n c).ownBlock=some g\/w.heap.size<=g)/\g≠nb:=λg hg=>by
  refine⟨?_,AG Xg Y (by decide) hg rfl⟩;rcases Xm with e|e
  ·exact .inl (e▸hg)
  ·rw[e]at hg;have hg:=Option.some.inj hg;exact .inr Ω
 have U:=(Y.set 1 (.slice A' (n+1) c'));have Xf:=(Xp.o.setCell (a:=⟨nb,1,none⟩) (λ_=>.inl rfl) (.slice A' (n+1) c'));have Xh:=(AX Xg ((AB.refl (λk=>k=nb) w4).setCell (a:=⟨nb,1,none⟩) (λ_=>rfl) (.slice A' (n+1) c')) (λg hg=>(O g hg).2));generalize w4.setCell ⟨nb,1,none⟩ (.slice A' (n+1) c')=w5 at U Xf Xh E⊢;have lk:=E.look GQ underlying129 underlying3 (OM w5) (x:=(a:Nat)) L;rw[θ rfl]at lk;simp only[ψq]at lk
 replace c0:=U.cc 0
 replace cl:=U.lt
 go_wp2;go_ret;refine⟨rfl,Xf,_,⟨U,?_,?_⟩,λg hg=>(O g hg).1⟩
 ·have:=Xh;rw[Xc.o,ζm,<-HN.o];exact this
 ·have:=E;rw[Xb,ζm,<-HN.o];rw[<-HN.o]at this;exact this
theorem YNV(h:CS w nb mb F T v)(hz:y=0->F y=0)(h0:y≠0->0<F y)(hi:y≠0->∀z∈T,F z=F y->z=y)(hb:F y<9223372036854775808)(hl:T.length<=1000000):Calls prog 68 #[pP nb,iI (F y:Nat)] w λe w'=>e=.returned (iI (plL (BP T [y]) y))/\MY w nb mb F (BP T [y]) v w':=by
 by_cases hy:y=0
 ·have e1:BP T [y]=T:=by rw[OU,QC,ψ (λe=>e.1 hy)]
  rw[e1,hz hy,show plL T y = -1 from ψ (λe=>e.1 hy)];refine(YaZ nb w).mono ?_;rintro e w' ⟨rfl,rfl⟩;exact⟨rfl,h.same⟩
 ·by_cases hm:y∈T
  ·have e1:BP T [y]=T:=by rw[OU,QC,ψ (λe=>e.2 hm)]
   rw[e1,show plL T y=(T.idxOf y:Nat)from θ ⟨hy,hm⟩];refine(XqV h hm (hi hy) (h0 hy) hb).mono ?_;rintro e w' ⟨rfl,rfl⟩;exact⟨rfl,h.same⟩
  ·have e1:BP T [y]=T++[y]:=by rw[OU,QC,θ ⟨hy,hm⟩]
   have e2:plL (T++[y]) y=(T.length:Nat):=by
    unfold plL
    grind
   rw[e1,e2];exact XCg h (λz hz e=>hm ((hi hy z hz e)▸hz)) (h0 hy) hb hl
end
def FP(S0 S1:World->Prop)(z:Nat)(listed:Array Bool)(w:World):Prop:=cond (listed.getD z false) (S1 w) (S0 w)
def M6(P:Program)(md:Region.Mode)(ops:Array Oper)(Q:Exit->Act->World->Prop)(S0 S1:World->Prop)(z y:Nat):Nat->Array Bool->Act->World->Prop
 | 0,listed,a,w=>Region.ready md ops listed=[]/\Q .normal a w
 | f+1,listed,a,w=>
  (Region.ready md ops listed=[]->Q .normal a w) ∧
  ∀i∈Region.ready md ops listed,wpOp P ops Q i (λa' w'=>(y<=i\/FP S0 S1 z (listed.setIfInBounds i true) w')/\M6 P md ops Q S0 S1 z y f (listed.setIfInBounds i true) a' w') a w
theorem YPg{z y:Nat}:∀(f:Nat) (listed:Array Bool) (a:Act) (w:World),M6 P md ops Q S0 S1 z y f listed a w->wpAny P md ops Q f listed a w
 | 0,_,_,_,h=>h
 | f+1,_,_,_,h=>⟨h.1,λi hi=>wpOp_mono (λa' w' h'=>YPg f _ a' w' h'.2) (h.2 i hi)⟩
theorem WH(h:i≠z):FP S0 S1 z (listed.setIfInBounds i true) w=FP S0 S1 z listed w:=by
 unfold FP
 simp_all
theorem JaT{oi:Oper}(hi:ops[i]?=some oi)(hiy:i<y)(hiz:i≠z)(hsel:∀(j:Nat) (o:Oper) cs b,ops[j]?=some o->o.op≠.select cs b)
  (hQ:∀c a w,Q (.panic c) (a.put oi.dst v) w->Q (.panic c) a w) (hy:IA md ops y=true)
  (hC:∀listed w,BE md ops listed->listed.getD i true=false->FP S0 S1 z listed w->C w):
  ∀(f:Nat) (listed:Array Bool) (a:Act) (w:World),BE md ops listed →
   (∀j oj,ops[j]?=some oj->j≠i->listed.getD j true=false->(∀e∈oj.after,Region.binds md e=true->e.on≠i)->oi.apart ops oj=true) →
   i∈Region.ready md ops listed->YieldsIf P ops C oi v a->FP S0 S1 z listed w →
   M6 P md ops Q S0 S1 z y f (listed.setIfInBounds i true) (a.put oi.dst v) w->M6 P md ops Q S0 S1 z y (f+1) listed a w:=by
 intro f
 induction f with
 | zero=>
  intro listed a w Y _ hr V hS H;refine⟨λh=>(by simp_all),λj hj=>?_⟩;by_cases X:j=i
  ·subst X;exact V.wpOp hi (hC _ _ Y (mem_ready.1 hr).1 hS) ⟨.inr (by rw[WH hiz];exact hS),H⟩
  ·have:=ready_mono hj X;rw[H.1]at this;cases this
 | succ f ih=>
  intro listed a w Y Z hr V hS H;refine⟨λh=>(by simp_all),λj hj=>?_⟩;by_cases X:j=i
  ·subst X;exact V.wpOp hi (hC _ _ Y (mem_ready.1 hr).1 hS) ⟨.inr (by rw[WH hiz];exact hS),H⟩
  ·have h1:=H.2 j (ready_mono hj X);obtain⟨M,oj,N,O⟩:=mem_ready.1 hj;have J:=(mem_ready.1 hr).1;have G:¬y<=j:=λe=>IF J (Z9 hy Y hj e hiy);have L:∀e∈oj.after,Region.binds md e=true->e.on≠i:=λe he hb heq=>IF J (heq▸O e he hb);have h2:=wpOp_putIf N (Z j oj N X M L) (λcs b=>hsel i oi cs b hi) (λcs b=>hsel j oj cs b N) hQ V h1
   have U:∀k ok,ops[k]?=some ok->k≠i->(listed.setIfInBounds j true).getD k true=false →
     (∀e∈ok.after,Region.binds md e=true->e.on≠i)->oi.apart ops ok=true:=λk ok hk hki J hno=>by
    refine Z k ok hk hki ?_ hno;by_cases D:j=k
    ·subst D;exact M
    ·rw[getD_set_ne true D]at J;exact J
   refine wpOp_mono (λa' w' h3=>?_) h2;obtain⟨h3,h4,h5⟩:=h3;have E:(listed.setIfInBounds i true).setIfInBounds j true=(listed.setIfInBounds j true).setIfInBounds i true:=ξ0 _ _ (Ne.symm X)
   have I:FP S0 S1 z (listed.setIfInBounds j true) w':=by
    have h6:=h4.resolve_left G;rw[E,WH hiz]at h6;exact h6
   refine⟨.inr I,ih (listed.setIfInBounds j true) a' w' (Y.set hj) U (ready_mono hr (Ne.symm X)) h3 I ?_⟩;rw[<-E];exact h5
def JZ(md:Region.Mode)(ops:Array Oper)(z y:Nat):List (Nat×Nat)->Array Bool->Bool
 | [],listed=>(Region.ready md ops listed).isEmpty
 | (0,k) :: r,listed=>decide (Region.ready md ops listed=[k])&&(decide (k<y)||r.all λx=>x.1==0)&&JZ md ops z y r (listed.setIfInBounds k true)
 | (t+1,k) :: r,listed=>(Region.ready md ops listed).contains k&&Region.free md ops listed k&&((ops[k]?).any H8)&&decide (k<y)&&!(k==z)&&(t==1||t==0&&anc md ops ops.size z k)&&JZ md ops z y r (listed.setIfInBounds k true)
def GZ:List ((List Nat×List Nat)×Nat)->List (Nat×Nat)
 | []=>[]
 | (qs,k) :: r=>qs.1.map (λk=>(1,k))++(qs.2.map (λk=>(2,k))++(0,k) :: GZ r)
def OG(P:Program)(l:List Oper)(S0 S1:World->Prop)(z y:Nat)(Q:Exit->Act->World->Prop):List ((List Nat×List Nat)×Nat)->Bool->Act->World->Prop
 | [],_,a,w=>Q .normal a w
 | (qs,k) :: r,b,a,w=>wpQuiet P l.toArray S0 (λa1=>wpQuiet P l.toArray S1 (λa'=>wpList P l.toArray (Exit.then (λa2 w2=>(y<=k\/cond (b||k==z) (S1 w2) (S0 w2))/\OG P l S0 S1 z y Q r (b||k==z) a2 w2) Q) (AF l [k]) a' w) (AF l qs.2) a1) (AF l qs.1) a
section
variable{l:List Oper}
theorem YF{C:World->Prop}{t:Nat}{b:Bool}(hsel:Region.noSelect l.toArray=true)(hQ:∀c a b w,Q (.panic c) b w->Q (.panic c) a w)(hy:IA md l.toArray y=true){w:World}{K:Act->Prop}{R:List (Nat×Nat)}{f:Nat}
  (hC:∀k,(t==1||t==0&&anc md l.toArray l.toArray.size z k)=true->∀listed w,BE md l.toArray listed->listed.getD k true=false->FP S0 S1 z listed w->C w)
  (hK:∀listed a,listed.getD z false=b->JZ md l.toArray z y R listed=true->BE md l.toArray listed->K a->M6 P md l.toArray Q S0 S1 z y f listed a w):
  ∀(qs:List Nat) (listed:Array Bool) (a:Act),(cond b (S1 w) (S0 w)\/qs=[])->listed.getD z false=b->JZ md l.toArray z y (qs.map (λk=>(t+1,k))++R) listed=true->BE md l.toArray listed->wpQuiet P l.toArray C K (AF l qs) a →
   M6 P md l.toArray Q S0 S1 z y (qs.length+f) listed a w
 | [],listed,a,_,hb,hB,hc,h=>by simpa using hK listed a hb hB hc h
 | k :: qs,listed,a,hS,hb,hB,hc,h=>by
  have hS:cond b (S1 w) (S0 w):=hS.resolve_right (by simp);simp only[ξr,ζv,JZ,ζd]at hB;obtain⟨⟨⟨⟨⟨⟨hr,hf⟩,hq⟩,V⟩,X⟩,ht⟩,U⟩:=hB;have X:k≠z:=by simpa using X
  cases ho:l.toArray[k]? with
  | none=>simp_all
  | some o=>
   have Z:k∈Region.ready md l.toArray listed:=by simp_all
   rw[EK ho]at h;simp only[wpQuiet]at h
   have Y:∃v,YieldsIf P l.toArray C o v a/\wpQuiet P l.toArray C K (AF l qs) (a.put o.dst v):=by
    split at h
    ·rename_i hw;obtain⟨v,h1,h2⟩:=h
     grind [MP]
    ·rename_i hw;exact⟨undef,.inr ⟨by simp_all,rfl⟩,h⟩
   obtain⟨v,Y,M⟩:=Y;have J:(k :: qs).length+f=(qs.length+f)+1:=by simp;omega
   rw[J]
   exact JaT ho (by simpa using V) X (Region.noSelect_spec hsel) (λc a w h=>hQ c a _ w h) hy (hC k ht) _ listed a w hc (Region.free_spec ho hf) Z Y (by unfold FP;rw[hb];exact hS)
    (YF hsel hQ hy hC hK qs _ _ (.inl hS) (by rw[getD_set_ne false X];exact hb) U (hc.set Z) M)
theorem Ytv(ha:anc md l.toArray l.toArray.size z k=true)(hc:BE md l.toArray listed)(hk:listed.getD k true=false)(h:FP S0 S1 z listed w):S0 w:=by
 unfold FP at h;cases hz:listed.getD z false with
 | false=>simp_all
 | true=>
  refine(IF hk ?_).elim;cases ho:l.toArray[z]? with
  | none=>
   generalize l.toArray.size=n at ha;cases n with
   | zero=>cases ha
   | succ n=>simp only[anc,ho]at ha;cases ha
  | some o=>exact O7 hc _ _ _ o ho (hc z o ho hz) ha
theorem YBi(h01:∀w,S0 w->S1 w)(hsel:Region.noSelect l.toArray=true)(hQ:∀c a b w,Q (.panic c) b w->Q (.panic c) a w)(hy:IA md l.toArray y=true):
  ∀(segs:List ((List Nat×List Nat)×Nat)) (b:Bool) (listed:Array Bool) (a:Act) (w:World),listed.getD z false=b->JZ md l.toArray z y (GZ segs) listed=true->BE md l.toArray listed →
   (cond b (S1 w) (S0 w)\/((GZ segs).all λx=>x.1==0)=true)->OG P l S0 S1 z y Q segs b a w->M6 P md l.toArray Q S0 S1 z y (GZ segs).length listed a w
 | [],b,listed,a,w,hb,hB,hc,hS,h=>⟨by simpa[JZ,GZ]using hB,h⟩
 | ((q1,q2),k) :: r,b,listed,a,w,hb,hB,hc,hS,h=>by
  have hS1:cond b (S1 w) (S0 w)\/q1=[]:=hS.imp id λh=>by
   cases q1 with
   | nil=>rfl
   | cons x y=>simp[GZ]at h
  have N:cond b (S1 w) (S0 w)\/q2=[]:=hS.imp id λh=>by
   cases q2 with
   | nil=>rfl
   | cons x y=>simp[GZ]at h
  have U:(GZ (((q1,q2),k) :: r)).length=q1.length+(q2.length+((GZ r).length+1)):=by simp[GZ]
  rw[U];have E:∀k,((0:Nat)==1||(0:Nat)==0&&anc md l.toArray l.toArray.size z k)=true->∀listed w,BE md l.toArray listed->listed.getD k true=false->FP S0 S1 z listed w->S0 w:=λk ha listed w hc hk h=>Ytv (by simpa using ha) hc hk h
  have V:∀k,((1:Nat)==1||(1:Nat)==0&&anc md l.toArray l.toArray.size z k)=true->∀listed w,BE md l.toArray listed->listed.getD k true=false->FP S0 S1 z listed w->S1 w:=λk _ listed w hc hk h=>by
   unfold FP at h;cases hz:listed.getD z false with
   | false=>rw[hz]at h;exact h01 _ h
   | true=>rw[hz]at h;exact h
  refine YF (b:=b) hsel hQ hy E (λlisted a hb hB hc h=>?_) q1 listed a hS1 hb hB hc h;refine YF (b:=b) hsel hQ hy V (λlisted a hb hB hc h=>?_) q2 listed a N hb hB hc h;simp only[JZ,ζd,ζg,ζW]at hB;obtain⟨⟨hr,I⟩,O⟩:=hB;have Y:k∈Region.ready md l.toArray listed:=by rw[hr];simp
  refine⟨λh0=>(by simp_all),λi hi=>?_⟩;obtain rfl:i=k:=by simp_all
  obtain⟨Z,o,ho,_⟩:=mem_ready.1 Y;rw[EK ho]at h
  have J:(listed.setIfInBounds i true).getD z false=(b||i==z):=by
   by_cases X:i=z
   ·subst X
    have:i<listed.size:=by
     by_cases M:i<listed.size
     ·exact M
     ·rw[ξO,ψL Ω]at Z;cases Z
    simp[this]
   ·rw[getD_set_ne false X,hb];simp[X]
  refine ML ho (λa2 w2 h2=>⟨h2.1.imp id (λh=>by unfold FP;rw[J];exact h),YBi h01 hsel hQ hy r _ _ a2 w2 J O (hc.set Y) ?_ h2.2⟩) h;rcases I with h3|h3
  ·exact .inl (h2.1.resolve_left Ω)
  ·exact .inr h3
theorem TL{qs:List Nat×List Nat}{r:List ((List Nat×List Nat)×Nat)}{b:Bool}
  (h:wpQuiet P l.toArray S0 (λa1=>wpQuiet P l.toArray S1 (λa'=>wpList P l.toArray (Exit.then (λa2 w2=>(y<=k\/cond (b||k==z) (S1 w2) (S0 w2))/\OG P l S0 S1 z y Q r (b||k==z) a2 w2) Q) (AF l [k]) a' w) (AF l qs.2) a1) (AF l qs.1) a):
  OG P l S0 S1 z y Q ((qs,k) :: r) b a w:=h
theorem ZvM{b:Bool}(h:Q .normal a w):OG P l S0 S1 z y Q [] b a w:=h
theorem QaV{id:Nat}(S0 S1:World->Prop)(z y:Nat)(segs:List ((List Nat×List Nat)×Nat))(hm:P.follows .mixedOrders=true)
  (hB:(Region.noSelect l.toArray&&IA .any l.toArray y&&JZ .any l.toArray z y (GZ segs) (Array.replicate l.toArray.size false)&&(GZ segs).length==l.toArray.size)=true) (h01:∀w,S0 w->S1 w) (hS:S0 w.drew)
  (h:OG P l (λw'=>∃p:AA S0,w'=p.w) (λw'=>∃p:AA S1,w'=p.w) z y (NoPanic Q) segs false a w.drew):(Code.region id l.toArray true).wp P Q a w:=by
 simp only[ζd,ξk]at hB;obtain⟨⟨⟨Y,hy⟩,hB⟩,X⟩:=hB;refine wp_region_noPanic (wp_region_any hm ?_)
 have Z:(Array.replicate l.toArray.size false).getD z false=false:=by
  rw[ξO,Array.getElem?_replicate]
  split <;> rfl
 have:=YBi (P:=P) (Q:=NoPanic Q) (md:=.any) (z:=z) (S0:=λw'=>∃p:AA S0,w'=p.w) (S1:=λw'=>∃p:AA S1,w'=p.w) (λw ⟨p,e⟩=>⟨⟨p.w,h01 _ p.h⟩,e⟩) Y (λc a b w h=>h) hy segs false _ a w.drew Z hB (BE.none .any l.toArray) (.inl (AA.of hS)) h;rw[X]at this;exact YPg _ _ _ _ this
end
theorem JvE{d:Nat}{l:List Int}(hA:MJ w A l)(hB:MJ w B l)(hl:l.length<=1000):Calls prog 65 #[.slice A l.length c,.slice B l.length d] w λe w'=>e=.returned (.bool true)/\Gr w w':=by
 obtain⟨N,hN⟩:=ε l.length;have HN:=ι hN;have HA:=ι hA;have HB:=ι hB;rw[<-hN]at hl⊢;clear hA hB hN;go_in;go_wp2
 go_loopw [5] (λs5 wr=>∃i:Nat,i<=N/\s5=iI i/\Hid (Gr w wr)) (λs5 _=>N-(intOf s5).toNat)
 case atStart=>exact⟨0,ζe _,rfl,⟨Gr.refl _⟩⟩
 case round=>
  obtain⟨i,hi,rfl,HG⟩:=hrel;by_cases X:i<N
  ·have M:(i:Int)<(N:Int):=Ω
   have Z:i<l.length:=by rw[<-HN.o];exact X
   obtain⟨b1,o1,rfl,Y,V⟩:=HA.o i Z;obtain⟨b2,o2,rfl,J,U⟩:=HB.o i Z;have c1:=(HG.o.cell Y (o1+i)).trans V;have c2:=(HG.o.cell J (o2+i)).trans U;have l1:b1<wr.heap.size:=ϑ Y HG.o.size;have l2:b2<wr.heap.size:=ϑ J HG.o.size;generalize l[i]=x at c1 c2;have HI:=ι X;clear X Z Y J V U hi;go_upto_region 6 with(fail);go_quiet (fail);have O:=ι (HG.o.drewN nq);go_wp2;go_round
   case rel=>exact⟨i+1,HI.o,by go_num,O⟩
   case measure=>have:=HI.o;simp[intOf];omega
  ·have M:¬(i:Int)<(N:Int):=Ω
   clear X hi;go_wp2;go_ret;exact⟨rfl,HG.o⟩
theorem QUC{d:Nat}(hA:MS w A l)(hB:MS w B l)(hl:l.length<=1000):Calls prog 66 #[.slice A l.length c,.slice B l.length d] w λe w'=>e=.returned (.bool true)/\Gr w w':=by
 obtain⟨N,hN⟩:=ε l.length;have HN:=ι hN;have HA:=ι hA;have HB:=ι hB;rw[<-hN]at hl⊢;clear hA hB hN;go_in;go_wp2
 go_loopw [5] (λs5 wr=>∃i:Nat,i<=N/\s5=iI i/\Hid (Gr w wr)) (λs5 _=>N-(intOf s5).toNat)
 case atStart=>exact⟨0,ζe _,rfl,⟨Gr.refl _⟩⟩
 case round=>
  obtain⟨i,hi,rfl,HG⟩:=hrel;by_cases X:i<N
  ·have M:(i:Int)<(N:Int):=Ω
   have Z:i<l.length:=by rw[<-HN.o];exact X
   obtain⟨b1,o1,rfl,Y,V⟩:=HA.o i Z;obtain⟨b2,o2,rfl,J,U⟩:=HB.o i Z;have c1:=(HG.o.cell Y (o1+i)).trans V;have c2:=(HG.o.cell J (o2+i)).trans U;have l1:b1<wr.heap.size:=ϑ Y HG.o.size;have l2:b2<wr.heap.size:=ϑ J HG.o.size;generalize l.getD i 0=x at c1 c2;have HI:=ι X;clear X Z Y J V U hi;go_upto_region 6 with(fail);go_quiet (fail);have O:=ι (HG.o.drewN nq);go_wp2;go_round
   case rel=>exact⟨i+1,HI.o,by go_num,O⟩
   case measure=>have:=HI.o;simp[intOf];omega
  ·have M:¬(i:Int)<(N:Int):=Ω
   clear X hi;go_wp2;go_ret;exact⟨rfl,HG.o⟩
theorem Zqm{s:List Int}{l:List CK}(h1:GD w v1 s l)(h2:GD w v2 s l)(hs:s.length<=1000)(hl:l.length<=1000000)(hn:∀d∈l,d.p.length<=1000/\d.f.length<=1000/\d.k.length<=1000):Calls prog 17 #[v1,v2] w λe w'=>e=.returned (.bool true)/\Gr w w':=by
 obtain⟨A1,B1,c1,d1,rfl,D,L⟩:=h1;obtain⟨A2,B2,c2,d2,rfl,B,A⟩:=h2;obtain⟨K,hK⟩:=ε l.length;have HK:=ι hK;have HI:=ι (λ(V:World) (gV:Gr w V)=>JvE (c:=c1) (d:=c2) (NQ D gV) (NQ B gV) hs);have Xh:=ι L;have Xi:=ι A;have HN:=ι hn;rw[<-hK]at hl⊢;generalize s.length=sn at HI hs;have r1:=(Rec.new w 45 [.slice A1 sn c1,.slice B1 K d1]).gr ((Gr.refl _).alloc (.cells #[.slice A2 sn c2,.slice B2 K d2] 45));have r2:=Rec.new (w.alloc (.cells #[.slice A1 sn c1,.slice B1 K d1] 45)) 45 [.slice A2 sn c2,.slice B2 K d2];rw[π]at r2;have hg:Gr w ((w.alloc (.cells #[.slice A1 sn c1,.slice B1 K d1] 45)).alloc (.cells #[.slice A2 sn c2,.slice B2 K d2] 45)):=((Gr.refl w).alloc _).alloc _;obtain⟨w2,J⟩:=ε ((w.alloc (.cells #[.slice A1 sn c1,.slice B1 K d1] 45)).alloc (.cells #[.slice A2 sn c2,.slice B2 K d2] 45));rw[<-J]at hg;have r1:Rec w2 w.heap.size 45 [.slice A1 sn c1,.slice B1 K d1]:=by rw[J];exact r1
 have r2:Rec w2 (w.heap.size+1) 45 [.slice A2 sn c2,.slice B2 K d2]:=by rw[J];exact r2
 have HW:=ι J;have HG:=ι hg;have E:=ι r1;have I:=ι r2;have a0:=r1.cc 0;have a1:=r1.cc 1;have b0:=r2.cc 0;have b1:=r2.cc 1;have al:=r1.lt;have bl:=r2.lt;clear D L B A hn hK hg J r1 r2;go_in;go_upto_region 1 with(fail);rw[<-HW.o];clear HW;go_upto_region 3 with(go_at_call 65;refine Qa (HI.o _ HG.o) λw3 hg=>?_;have G:=ι hg;have Xd:=(E.o.gr hg).cell (j:=1) rfl;have Xj:=(I.o.gr hg).cell (j:=1) rfl;have Xc:=(E.o.gr hg).lt;have Xe:=(I.o.gr hg).lt;clear hg);go_wp2
 go_loopw [5] (λs5 wr=>∃i:Nat,i<=K/\s5=iI i/\Hid (Gr w2 wr)) (λs5 _=>K-(intOf s5).toNat)
 case atStart=>exact⟨0,ζe _,rfl,G⟩
 case round=>
  clear G a0 a1 b0 b1 al bl Xd Xj Xc Xe;obtain⟨i,hi,rfl,M⟩:=hrel;have q1:=E.o.gr M.o;have q2:=I.o.gr M.o;have a1:=q1.cc 1;have b1:=q2.cc 1;have al:=q1.lt;have bl:=q2.lt;clear q1 q2;by_cases X:i<K
  ·have Xf:(i:Int)<(K:Int):=Ω
   have U:i<l.length:=by rw[<-HK.o];exact X
   have gg:=HG.o.trans M.o;obtain⟨p1,o1,rfl,Xb,M1,M2,M3,m1,m2,m3,x1,x2,x3,x4,x5,x6⟩:=(Xh.o.gr gg) i U;obtain⟨p2,o2,rfl,Xg,N1,N2,N3,n1,n2,n3,y1,y2,y3,y4,y5,y6⟩:=(Xi.o.gr gg) i U
   have N:(l.getD i LD).p.length<=1000/\(l.getD i LD).f.length<=1000/\(l.getD i LD).k.length<=1000:=by
    rw[κ,τ U];exact HN.o _ (χ U)
   have I1:=ι (λ(V:World) (gV:Gr wr V)=>JvE (c:=m1) (d:=n1) (NQ x4 gV) (NQ y4 gV) N.1);have I2:=ι (λ(V:World) (gV:Gr wr V)=>QUC (c:=m2) (d:=n2) (N5 x5 gV) (N5 y5 gV) N.2.1);have I3:=ι (λ(V:World) (gV:Gr wr V)=>QUC (c:=m3) (d:=n3) (N5 x6 gV) (N5 y6 gV) N.2.2);have Xa:=ι X;generalize (l.getD i LD).p.length=u1 at x1 y1 I1;generalize (l.getD i LD).f.length=u2 at x2 y2 I2;generalize (l.getD i LD).k.length=u3 at x3 y3 I3;clear x4 x5 x6 y4 y5 y6 N gg U X hi;go_upto_region 8 with(fail);have Z:=(Rec.new wr 126 [.slice M1 u1 m1,.slice M2 u2 m2,.slice M3 u3 m3]).gr ((Gr.refl _).alloc (.cells #[.slice N1 u1 n1,.slice N2 u2 n2,.slice N3 u3 n3] 126));have Y:=Rec.new (wr.alloc (.cells #[.slice M1 u1 m1,.slice M2 u2 m2,.slice M3 u3 m3] 126)) 126 [.slice N1 u1 n1,.slice N2 u2 n2,.slice N3 u3 n3];rw[π]at Y;have g5:Gr wr ((wr.alloc (.cells #[.slice M1 u1 m1,.slice M2 u2 m2,.slice M3 u3 m3] 126)).alloc (.cells #[.slice N1 u1 n1,.slice N2 u2 n2,.slice N3 u3 n3] 126)):=((Gr.refl wr).alloc _).alloc _;obtain⟨w5,O⟩:=ε ((wr.alloc (.cells #[.slice M1 u1 m1,.slice M2 u2 m2,.slice M3 u3 m3] 126)).alloc (.cells #[.slice N1 u1 n1,.slice N2 u2 n2,.slice N3 u3 n3] 126));have Z:Rec w5 wr.heap.size 126 [.slice M1 u1 m1,.slice M2 u2 m2,.slice M3 u3 m3]:=by rw[O];exact Z
   have Y:Rec w5 (wr.heap.size+1) 126 [.slice N1 u1 n1,.slice N2 u2 n2,.slice N3 u3 n3]:=by rw[O];exact Y
   rw[<-O]at g5⊢;have G5:=ι g5;have Q1:=ι Z;have Q2:=ι Y;have z0:=Z.cc 0;have t0:=Y.cc 0;have zl:=Z.lt;have tl:=Y.lt;clear O g5 Z Y x1 x2 x3 y1 y2 y3 Xb Xg a1 b1 al bl
   go_wp2_with(first|(go_at_call 65;refine Qa (I1.o _ G5.o) λw6 hg=>?_;have G6:=ι hg;have z1:=(Q1.o.gr hg).cell (j:=1) rfl;have t1:=(Q2.o.gr hg).cell (j:=1) rfl;have zl6:=(Q1.o.gr hg).lt;have tl6:=(Q2.o.gr hg).lt;clear hg)|(go_at_call 66;refine Qa (I2.o _ (G5.o.trans G6.o)) λw7 hg=>?_;have G7:=ι (G6.o.trans hg);have z2:=(Q1.o.gr G7.o).cell (j:=2) rfl;have t2:=(Q2.o.gr G7.o).cell (j:=2) rfl;have zl7:=(Q1.o.gr G7.o).lt;have tl7:=(Q2.o.gr G7.o).lt;clear hg I2)|(go_at_call 66;refine Qa (I3.o _ (G5.o.trans G7.o)) λw8 hg=>?_;have G8:=ι (G7.o.trans hg);clear hg))
   go_round
   case rel=>exact⟨i+1,Xa.o,by go_num,⟨M.o.trans (G5.o.trans G8.o)⟩⟩
   case measure=>have:=Xa.o;simp[intOf];omega
  ·have Xf:¬(i:Int)<(K:Int):=Ω
   clear X hi;go_wp2;go_ret;exact⟨rfl,HG.o.trans M.o⟩
end Go.Proofs.YtcihfnpokdbfpaaGreatDoor
