/- Part 13 of what Heaps leans on: my own lemmas, merged by shake.py. -/
import Derived.Test.YtbdimhlaaoadgaaGreatDoorHeapsL
namespace Go.Proofs.YtbdimhlaaoadgaaGreatDoor
open _root_.Go.Proofs.Tryz
set_option maxHeartbeats 6400000
set_option maxRecDepth 100000
open Go.RowKit Go.Shelf Word
variable{e:Ending}{x:GOp}{re re':GRe}{g g':Gph}{c:HCf}{s:HSt}{C a hb n:Nat}{K:Nat->Prop}{v:Value}{W w w' w0 w1 w2 wx:World}
theorem ZvI(h:HIn w c g s)(hn:s.o=none↔s.lf=0)(a:Int):Calls prog 145 #[pP s.A.hp,iI a] w λe w'=>e=.returned (.tuple #[.float .f64 (g.smV a),iI (g.shE a)])/\HOp w c s g w':=by
 have X:=ι (VcO h hn a);have Ya:=ι h.com.lt.2.2.2.2;by_cases he:g.shE a=0
 ·obtain⟨p,f,k,hh,N,l,hl,Xv,Xu⟩:=h.fls he;rw[Xv,he];obtain⟨rv,M⟩:∃rv,rv=KV l:=⟨_,rfl⟩;rw[<-M];have Xz:=ι M;clear M;rw[hh,he]at X;have L:=ι Xu;have HL:=ι hl;have Yb:=ι N;obtain⟨ap,hp⟩:∃ap,ap=s.A.hp:=⟨_,rfl⟩;have HP:=ι hp;rw[<-hp]at X⊢;have Xa:=ι (λ(W:World)=>XZg N W)
  have GF:Hid (∀(B:Nat->Prop) (W:World),DL w c s g B W->∀i:Int,Calls prog 58 #[pP ap,iI a,iI i] W λe W'=>e=.returned (.tuple #[.float .f64 (g.fdV a i 2),iI (g.fdE a i 2)])/\DL w c s g B W'/\∃T,AB T W W'/\∀k,B k->¬T k):=⟨λB W ho i=>by
   obtain⟨s',h1,h2,h3,h4⟩:=ho.op;have h5:=QI h1 h2 a i;rw[h3,<-hp]at h5
   exact h5.mono (λe W' hh=>⟨hh.1,h4 _ _ hh.2⟩)⟩
  have hff:(f:Int)<=255:=Ω
  have hpp:(p:Int)<=255:=Ω
  clear h hn he Xv Xu hl hp hh N;unfold AL at X Xa;go_enter func145,ntmps145;go_upto_region 4 with(go_at_call 34;refine X.o.mono ?_;rintro e w1 ⟨rfl,ho⟩;have HO:=ι ho;clear ho);have G:=(Gr.refl w1).alloc (.cells #[.int .i64 p,.int .i64 f,.int .i64 k] 64);have Xn:=Rec.new w1 64 [iI p,iI f,iI k];have hz:(w1.alloc (.cells #[.int .i64 p,.int .i64 f,.int .i64 k] 64)).heap.size=w1.heap.size+1:=π ..;obtain⟨w2,O⟩:∃w2,w2=w1.alloc (.cells #[.int .i64 p,.int .i64 f,.int .i64 k] 64):=⟨_,rfl⟩;have D:Rec w2 w1.heap.size 64 [iI p,iI f,iI k]:=by rw[O];exact Xn
  clear Xn;rw[<-O]at G hz⊢;clear O;obtain⟨x,hx⟩:∃x,x=w1.heap.size:=⟨_,rfl⟩;rw[<-hx]at D⊢
  have U:Hid (∀W,Gr w2 W->w2.heap.size<W.heap.size->DL w c s g (λk=>k=x\/k=w2.heap.size) W):=⟨λW gW hs=>((HO.o.beside.alloc (G.trans gW))).mono (λk hk=>by
   refine .inr ?_
   rcases hk with e|e <;> omega)⟩
  have Xj:=ι D;have HN:=ι (QFq w2);have Xx:Hid (x≠w2.heap.size):=⟨by omega⟩;clear G hz D hx HO X;obtain⟨q,hq⟩:∃q,q=w2.heap.size:=⟨_,rfl⟩;rw[<-hq]at U HN Xx;clear hq;go_upto_region 5 with(go_at_call 197;refine HN.o.mono ?_;rintro e w3 ⟨rfl,I,V⟩);have Xq:q<w3.heap.size:=V.row.lt;have Xo:=ι (U.o _ I Xq);have Xd:=Xj.o.gr I;have Xl:=ι Xd;have y1:=Xd.cc 1;have Xs:=ι V;clear I V Xq Xd U Xj HN;go_wp2
  go_loopw [24] (λs24 wr=>∃j:Nat,j<=f/\s24=iI j/\Hid (DL w c s g (λk=>k=x\/k=q) wr)/\Hid (Rec wr x 64 [iI p,iI f,iI k])/\Hid (∃sm,A1 wr q sm/\EC (l.take j) sm)) (λs24 _=>f-(intOf s24).toNat)
  case atStart=>exact⟨0,ζg _,rfl,Xo,Xl,⟨smZ,Xs.o,EC.zero⟩⟩
  case round=>
   clear Xo Xl Xs y1;obtain⟨j,hj,rfl,Xe,Y,J⟩:=hrel;by_cases Xc:j<f
   ·have Yi:(j:Int)<f:=Ω
    have y0:=Y.o.cc 0;have y1:=Y.o.cc 1;have y2:=Y.o.cc 2;obtain⟨b,hb,hE,hV,hT⟩:=L.o j Xc;have hc:((p+j:Nat):Int)=(p:Int)+j:=ξ8 _ _;rw[hc]at hE hV;have GX:=ι (λ(W:World) (ho:DL w c s g (λk=>k=x\/k=q) W)=>GF.o _ W ho ((p:Int)+j));rw[hE,hV]at GX;have HT:=ι hT;have Ye:=ι hb;have Xg:=ι Xc;clear hT hb hc hE hV hj Xc;clear GF L;have Yg:=ι (λ(W:World) (gW:Gr wr W)=>(Xe.o.alloc gW).mono (B':=λk=>k=x\/k=q) (λk hk=>.inl hk))
    go_wp2_with first
     | (go_at_call 198;refine(Xa.o _).mono ?_;rintro e w4 ⟨rfl,Xk⟩;have Xh:=ι Xk;clear Xk)
     | (go_at_call 58;refine(GX.o _ (Yg.o _ Xh.o)).mono ?_;rintro e w5 ⟨rfl,Xm,T,E,Z⟩;have Xf:=ι Xm;have Yc:=ι ((Y.o.gr Xh.o).touch E (Z x (.inl rfl)));have Yh:Hid (∃sm,A1 w5 q sm/\EC (l.take j) sm):=⟨J.o.imp (λsm h=>⟨(h.1.gr Xh.o).touch E (Z q (.inr rfl)),h.2⟩)⟩;have Yd:Hid (Calls prog 199 #[pP q,.float .f64 b] w5 λe w'=>e=.returned (.tuple #[])/\QK w5 q (l.take j++[b]) w'):=⟨by obtain⟨sm,a1,a2⟩:=Yh.o;exact XQS a1 a2 (by rw[ψj];have:=Yb.o;have:=Xg.o;omega) Ye.o⟩;clear Xm E Z T y0 y1 y2)
     | (go_at_call 199;refine Yd.o.mono ?_;rintro e w6 ⟨rfl,Xp,Xt⟩;have Xw:=ι Xp;have Yf:=ι Xt;clear Xp Xt)
    go_round
    case rel=>
     refine⟨j+1,Xg.o,by go_num,⟨Xf.o.own Ya.o Xw.o (λk hk=>.inr hk)⟩,⟨Yc.o.touch Xw.o Xx.o⟩,⟨?_⟩⟩;rw[HT.o];exact Yf.o
    case measure=>have:=Xg.o;simp[intOf];omega
   ·have Yi:¬(j:Int)<f:=Ω
    have Yj:j=f:=Ω
    obtain⟨sm,Xr,Xb⟩:=J.o;have Xi:l.take j=l:=ξV (by rw[HL.o];omega);rw[Xi]at Xb;have hW:=ZFj Xr Xb (by rw[HL.o];omega);rw[<-Xz.o]at hW;have HW:=ι hW;have Yk:=ι (λ(W:World) (gW:Gr wr W)=>(Xe.o.alloc gW).fin);clear Xr Xb Xi hj Yj J hW GF L Xa Xz Y Xe;go_wp2_with(go_at_call 200;refine HW.o.mono ?_;rintro e w5 ⟨rfl,Xy⟩;have Xf:=ι (Yk.o _ Xy);clear Xy);go_ret2;exact⟨rfl,Xf.o⟩
 ·have HV:Hid (g.smV a=0):=⟨by unfold Gph.smV;rw[ψ he]⟩;rw[HV.o];generalize s.A.hp=ap at X⊢;generalize g.shE a=re at X he⊢;generalize g.shH a=hd at X;have d0:(re !=0)=true:=by simpa using he
  clear he h hn;unfold AL at X;go_enter func145,ntmps145;go_wp2_with(go_at_call 34;refine X.o.mono ?_;rintro e w1 ⟨rfl,ho⟩;have HO:=ι ho;clear ho);go_ret2;exact⟨rfl,(HO.o.beside.alloc ((Gr.refl w1).alloc _)).fin⟩
theorem HIn.flt_lt(h:HIn w c g s)(a i:Int):g.fdV a i 2<18446744073709551616:=by
 unfold Gph.fdV
 split
 ·rename_i he;unfold Gph.fdE at he
  split at he
  ·rename_i h1
   split at he
   ·exact absurd he (by decide)
   ·rename_i h2
    split at he
    ·exact absurd he (by decide)
    ·rename_i h0
     split at he
     ·rename_i hk;have hr:g.Rd (g.at a):=(Gph.at_ro h1).resolve_left h2;have hb:=h.gok.rd hr;obtain⟨hl,hs⟩:=h.gok.len _ (Gph.ob_mem hb.1 hb.2);have hN:BL (g.ob (g.at a)).hdr=1+((g.ob (g.at a)).p:Int)+(g.ob (g.at a)).f+(g.ob (g.at a)).k:=θ (DJ hs);unfold BU at hk;rw[hN]at hk
      split at hk
      ·rename_i h3
       split at hk
       ·exact absurd hk (by decide)
       ·rename_i h4;have h4:¬i<((g.ob (g.at a)).p:Int):=h4;have hw:=h.img.wd _ hr i.toNat Ω Ω;have h9:=h.mem.ok.ldV_lt ((s.F (g.at a)+1+i.toNat:Nat):Int);rw[hw.2]at h9;exact h9
      ·exact absurd hk (by decide)
     ·exact absurd he (by decide)
  ·exact absurd he (by decide)
 ·decide
theorem XF1(h:HIn w c g s)(hn:s.o=none↔s.lf=0)(a i b k:Int):Calls prog 146 #[pP s.A.hp,iI a,iI i,iI b,iI k] w λe w'=>e=.returned (.tuple #[iI (g.orV a i b k),iI (g.orE a i b k)])/\HOp w c s g w':=by
 have Y:=ι (QI h hn a i);obtain⟨ap,hp⟩:∃ap,ap=s.A.hp:=⟨_,rfl⟩
 have J:Hid (∀W,HOp w c s g W->Calls prog 58 #[pP ap,iI b,iI k] W λe W'=>e=.returned (.tuple #[.float .f64 (g.fdV b k 2),iI (g.fdE b k 2)])/\HOp w c s g W'):=⟨λW ho=>by
  obtain⟨s',h1,h2,h3,h4⟩:=ho.beside.op;have h5:=QI h1 h2 b k;rw[h3,<-hp]at h5
  exact h5.mono (λe W' hh=>⟨hh.1,(h4 _ _ hh.2).1.fin⟩)⟩
 have hx:=h.flt_lt a i;have hy:=h.flt_lt b k;have HV:Hid (g.orV a i b k=if g.orE a i b k=0 then (if H5 (g.fdV a i 2) (g.fdV b k 2)then -1 else if H5 (g.fdV b k 2) (g.fdV a i 2)then 1 else 0)else 0):=⟨rfl⟩;have HE:Hid (g.orE a i b k=if g.fdE a i 2=0 then g.fdE b k 2 else g.fdE a i 2):=⟨rfl⟩;rw[<-hp]at Y⊢;clear hp h hn;generalize g.orV a i b k=rv at HV⊢;generalize g.orE a i b k=re at HV HE⊢;generalize g.fdV a i 2=x at HV Y hx;generalize g.fdV b k 2=y at HV J hy;generalize g.fdE a i 2=e1 at HE Y;generalize g.fdE b k 2=e2 at HE J;have M:=ι (ZZy x y hx hy);have N:=ι (ZZy y x hy hx);generalize H5 x y=b1 at HV M;generalize H5 y x=b2 at HV N;clear hx hy;by_cases h1:e1=0
 ·subst h1;have X:Hid (re=e2):=⟨by rw[HE.o,θ rfl]⟩;clear HE;by_cases h2:e2=0
  ·subst h2;have Z:Hid (rv=if b1 then -1 else if b2 then 1 else 0):=⟨by rw[HV.o,X.o,θ rfl]⟩;rw[X.o];clear HV X;rw[Z.o];clear Z
   cases b1 <;> cases b2 <;> (
    go_enter func146,ntmps146
    go_wp2_with first
     | (go_at_call 58;refine Y.o.mono ?_;rintro e w1 ⟨rfl,ho⟩;have U:=ι ho;clear ho Y)
     | (go_at_call 58;refine(J.o _ U.o).mono ?_;rintro e w2 ⟨rfl,ho⟩;have V:=ι ho;clear ho J)
     | (go_at_call 201;refine(M.o _).mono ?_;rintro e w3 ⟨rfl,rfl⟩;clear M)
     | (go_at_call 201;refine(N.o _).mono ?_;rintro e w3 ⟨rfl,rfl⟩;clear N)
    go_ret2
    exact⟨rfl,V.o⟩)
  ·have Z:Hid (rv=0):=⟨by rw[HV.o,X.o,ψ h2]⟩;rw[Z.o,X.o];have d0:(e2 !=0)=true:=by simpa using h2
   clear HV X Z h2;go_enter func146,ntmps146
   go_wp2_with first
    | (go_at_call 58;refine Y.o.mono ?_;rintro e w1 ⟨rfl,ho⟩;have U:=ι ho;clear ho Y)
    | (go_at_call 58;refine(J.o _ U.o).mono ?_;rintro e w2 ⟨rfl,ho⟩;have V:=ι ho;clear ho J)
   go_ret2;exact⟨rfl,V.o⟩
 ·have X:Hid (re=e1):=⟨by rw[HE.o,ψ h1]⟩;have Z:Hid (rv=0):=⟨by rw[HV.o,X.o,ψ h1]⟩;rw[Z.o,X.o];have d0:(e1 !=0)=true:=by simpa using h1
  clear HV HE X Z h1;go_enter func146,ntmps146;go_wp2_with(go_at_call 58;refine Y.o.mono ?_;rintro e w1 ⟨rfl,ho⟩;have U:=ι ho;clear ho Y);go_ret2;exact⟨rfl,U.o⟩
theorem HIn.memWords(h:HIn w c g s):cQ 67 #[pP s.A.q] w (iI c.n):=by
 have hm:=h.mem;cases ho:s.o with
 | none=>
  rw[ho]at hm;have:=I6 hm.1;rw[hm.2.1.n]at this;exact this
 | some y=>
  rw[ho]at hm;obtain⟨z,sl,v,R,Sv,X,e1,e2⟩:=hm;have:=I6 X.vm;rw[X.hv.n]at this;exact this
theorem HpA.pk{sl:Sl}{v u:Vm}{top:Nat}(h:HpA top u sl v)(h1:sl.cf.to<=a)(h2:a<top)(hu:u.ldE a=0):sl.pkV v a=u.ldV a/\sl.pkE v a=u.ldE a:=by
 unfold Sl.pkV Sl.pkE;rw[hu];rcases χ a (sl.cf.to+AC sl.L)with h3|h3
 ·obtain⟨i,rfl⟩:∃i,a=sl.cf.to+i:=⟨a-sl.cf.to,by omega⟩;rw[FH.2 ⟨by omega,by omega⟩,θ rfl,θ rfl,show (((sl.cf.to+i:Nat):Int)-(sl.cf.to:Int)).toNat=i by omega];exact⟨(h.c i Ω).symm,rfl⟩
 ·rw[UU Ω];obtain⟨x1,x2⟩:=h.x a h3 h2;exact⟨x2,x1⟩
def spL(c:HCf)(g:Gph)(s:HSt):Sp:=
 ⟨128,.agg #[pP s.A.hp],316,λa=>∃n:Nat,a=n/\s.base<=n/\n<s.top,False,λk=>s.S k\/k=1,
  λu _ w=>u=s.u/\HIn w c g s/\∀k,s.S k->k<w.heap.size⟩
theorem ZKh(h:HIn w c g s)(h1:s.base<=a)(h2:a<s.top):Calls prog 316 #[.agg #[pP s.A.hp],iI a] w λe w'=>e=.returned (.tuple #[uU (s.u.ldV a:Nat),iI (s.u.ldE a)])/\Gr w w':=by
 have J:=(Gr.refl w).alloc (.cells #[.pointer (some ⟨s.A.hp,0,none⟩)] 128);have U:=ι J;have Z:=h.cc 11;have c8:=h.cc 8;have cl:=h.com.row.lt;have hm:=h.mem;have O:=h.hi;have N:=h.bt;cases ho:s.o with
 | none=>
  rw[ho]at hm Z;simp only[ψp]at Z;have HL:=ι (JR (hm.1.gr J) (a:Int));generalize s.A.hp=ap at U HL Z c8 cl⊢;generalize s.u.ldV a=v at HL⊢;generalize s.u.ldE a=e at HL⊢;clear h hm ho h1 h2 J O N;go_enter func316,ntmps316;go_wp2_with(go_at_call 216;refine(HL.o).mono ?_;rintro e w1 ⟨rfl,hg⟩;have HG:=ι hg;clear hg);go_ret2;exact⟨rfl,U.o.trans HG.o⟩
 | some y=>
  rw[ho]at hm Z;simp only[ξ7]at Z;obtain⟨z,sl,v,R,Sv,Y,e1,e2⟩:=hm;have X:=Y.gr J;have M:=Y.bs;have V:=Y.ok.st;have I:=V.cf.ln;have E:=Y.a.lm;obtain⟨p1,p2⟩:=Y.a.pk (a:=a) (by rw[M];exact h1) h2 (Y.a.un a Ω);obtain⟨HP⟩:Hid _:=ι (XMX X.cy X.ok X.tab X.vm (a:Int) Ω);rw[p1,p2]at HP;have HL:=ι HP;generalize s.A.hp=ap at U HL Z c8 cl⊢;generalize s.u.ldV a=vv at HL⊢;generalize s.u.ldE a=e at HL⊢;clear h ho h1 h2 J O N Y X M V I E p1 p2 HP e1 e2;go_enter func316,ntmps316;go_wp2_with(go_at_call 318;refine(HL.o).mono ?_;rintro e w1 ⟨rfl,hg⟩;have HG:=ι hg;clear hg);go_ret2;exact⟨rfl,U.o.trans HG.o⟩
theorem JVB(n:Nat)(v:Value)(w:World):(nilAhead (n+1) 128 (.agg #[v]) "Load").run prog w=.ok (some false) w:=by kernel_rfl
theorem Zd6(n:Nat)(v:Value)(w:World):(method (n+1) 128 (.agg #[v]) "Load").run prog w=.ok (316,.agg #[v]) w:=by kernel_rfl
theorem YQv(c:HCf)(g:Gph)(s:HSt):(spL c g s).Ok:=by
 refine⟨λn w=>JVB n _ w,λn w=>Zd6 n _ w,λargs w=>by kernel_rfl,λw=>by kernel_rfl,λh=>?_,λ{u S S' T' w w'} h t hT hs=>?_,λ{u S w} h k hk=>?_,λ{u S w} h=>h,λ{u S w} h a ha=>?_⟩
 ·obtain⟨rfl,h,-⟩:=h;exact h.mem.ok
 ·obtain⟨e,h,h2⟩:=h;exact⟨e,h.touch t (λk hk ht=>⟨λhs=>(hT k hk ht).2 (.inl hs),λe=>(hT k hk ht).2 (.inr e)⟩),λk hk=>ϑ (h2 k hk) t.size⟩
 ·obtain⟨e,h,h2⟩:=h;rcases hk with hk|rfl
  ·exact h2 k hk
  ·exact h.com.tab.lt
 ·obtain⟨rfl,h,h2⟩:=h;obtain⟨n,rfl,h3,h4⟩:=ha;refine(ZKh h h3 h4).mono ?_;rintro e w' ⟨rfl,g⟩;exact⟨rfl,g.touch _,rfl,h.gr g,λk hk=>ϑ (h2 k hk) g.size⟩
theorem HIn.lk(h:HIn w c g s)(S:Nat->Prop):(spL c g (s.cut w)).I s.u S w:=by
 obtain⟨l1,l2,l3,l4,l5⟩:=h.com.lt;refine⟨rfl,h.cut,λk hk=>?_⟩;rcases hk with hk|hk|hk|hk|hk
 ·exact hk.2
 ·rw[hk];exact l1
 ·rw[hk];exact l3
 ·rw[hk];exact l2
 ·rw[hk];exact l4
theorem HIn.soundN(h:HIn w c g s)(hn:s.top<=n):DP s.u (s.rs g) n:=by
 have hS:=h.img.sound h.gok;exact⟨hS.rd,hS.pt,λa ha=>by have:=hS.rm a ha;omega,hS.dj⟩
theorem HIn.mrun(h:HIn w c g s)(gr:Gr w W){m p1 b1 p2 b2 g1 cp:Nat}(hE:Ext W m p1 b1 p2 b2 c.n [])(hm:w.heap.size<=m/\w.heap.size<=p1/\w.heap.size<=b1/\w.heap.size<=p2/\w.heap.size<=b2)(ho:W.ownsRow 0 3 1 (.slice (some ⟨g1,0,none⟩) (s.rs g).length cp) (s.rs g).length (zs (s.rs g)))(hg1:¬AS m b1 b2 g1):
  Calls prog 68 #[.iface 128 (.agg #[pP s.A.hp]),.slice (some ⟨g1,0,none⟩) (s.rs g).length cp,pP m,iI c.st] W λe w'=>
   (∃r vi:Int,e=.returned (.tuple #[.agg #[iI (g.all.length:Nat),iI (g.words:Nat),iI r,iI vi],iI 0]))/\AB (AS m b1 b2) W w':=by
 have hst:=h.cok.st
 have hn:s.top<=c.n:=by
  have h1:=(RX h.cok).1;have h2:=h.bt;have h3:=h.cok.kd;unfold HCf.n;rcases h.bs with e|⟨e,e2⟩
  ·split <;> omega
  ·rw[ψ e2];omega
 have hS:=h.soundN hn;obtain⟨L0,hM0,-,-,-,hz0,hl0⟩:=h.rch hn
 have X:(s.rs g).length<=maxLen:=by
  have:=h.sl;have:=h.cok.sl;unfold maxLen;unfold HSt.rs;rw[ζU];omega
 have M:=HSt.cut_S h;have Y:=h.com.lt.2.2.2.2;have hI:=h.lk (λ_=>False);obtain⟨hI1,U,Z⟩:=hI;have J:(spL c g (s.cut w)).I s.u (λ_=>False) W:=⟨rfl,U.gr gr,λk hk=>ϑ (Z k hk) gr.size⟩;refine(VVP hS (z:=spL c g (s.cut w)) (SV:=λ_=>False) (v:=s.u) (rs:=s.rs g) (room:=c.st) ⟨YQv ..,id⟩ (λa ha=>?_) (λi hi=>?_) J hE (gr.tab Y h.com.tab) (λi hi=>?_) X (λ_ h=>h.elim) id id id (λe=>?_) Ω).mono ?_
 ·obtain⟨x,hx,rfl⟩:=h.img.rch h.gok ha;exact⟨λh0=>h.rdP (.inr hx) h0,λi h0=>h.fdP (.inr hx) i (by decide) h0⟩
 ·have V:i<w.heap.size:=by
   rcases hi with hi|hi
   ·exact(M i hi).2
   ·rw[hi];exact Y
  exact⟨ϑ V gr.size,λe=>by rcases e with e|e|e <;> omega⟩
 ·exact⟨g1,0,rfl,(BF ho rfl).2,hg1,by rw[ζ9];exact BZ ho (L8 hi)⟩
 ·rcases e with e|e|e <;> omega
 ·rintro e w' ⟨ht,-,L,r,vi,rfl,-,hM,-⟩;have e1:=h.img.words h.gok hM;have e2:=h.img.count h.gok hM;unfold Z9;rw[e1,e2];exact⟨⟨r,vi,rfl⟩,ht.mono (λk _ hk=>hk.elim id (λe=>e.elim))⟩
theorem QLM(h:HIn w c g s):Calls prog 20 #[pP s.A.hp] w λe w'=>e=.returned (.tuple #[iI (g.all.length:Nat),iI (g.words:Nat)])/\Gr w w':=by
 have Xs:=ι (FK h);have HW:=ι (h.memWords);obtain⟨q1,q2,-⟩:=RX h.cok;have q3:=h.cok.wd;have HX:=ι (λW=>ON c.n Ω Ω W);have Xc:=ι (λ(W:World) (gr:Gr w W)=>SP (h.com.rt.gr gr));have I:=ι (λ(W:World) (gr:Gr w W) (m p1 b1 p2 b2 g1 cp:Nat) (hE:Ext W m p1 b1 p2 b2 c.n []) hm ho hg1=>h.mrun gr (m:=m) (p1:=p1) (b1:=b1) (p2:=p2) (b2:=b2) (g1:=g1) (cp:=cp) hE hm ho hg1);have Xb:=ι h.com.row;have c8:=h.cc 8;have Xm:=h.com.row.lt;obtain⟨ap,Xv⟩:∃ap,ap=s.A.hp:=⟨_,rfl⟩;obtain⟨rr,Xo⟩:∃rr,rr=s.A.r:=⟨_,rfl⟩;obtain⟨qq,Xr⟩:∃qq,qq=s.A.q:=⟨_,rfl⟩;rw[<-Xv]at Xs I Xb c8 Xm⊢;rw[<-Xo]at Xc;rw[<-Xr]at HW c8;generalize (g.all.length:Nat)=na at I⊢;generalize (g.words:Nat)=nw at I⊢
 have Xu:Hid (∀W,Gr w W->W.cell? ⟨ap,9,none⟩=some (pP rr)/\W.cell? ⟨ap,5,none⟩=some (iI c.st)):=⟨λW gr=>by
  have:=Xb.o.gr gr
  exact⟨by rw[Xo];exact this.cc 9,this.cc 5⟩⟩
 have HLT:=ι Xm;clear h Xv Xo Xr q1 q2 q3 Xb Xm;go_enter func20,ntmps20
 go_upto_region 4 with first
  | (go_at_call 63;refine Xs.o.mono ?_;rintro e w1 ⟨rfl,rfl⟩)
  | (go_at_call 67;refine HW.o.mono ?_;rintro e w1 ⟨rfl,rfl⟩)
  | (go_at_call 66;refine(HX.o _).mono ?_;rintro e w3 ⟨m,p1,b1,p2,b2,rfl,Xt,Xx,Xy,Yb,Xz,Yc,Ya⟩;have V:=ι Xt;have Xf:=ι Xx;have HB:=ι (ξ Xy (ξ Yb (ξ Xz (ξ Yc Ya))));clear Xt Xx Xy Yb Xz Yc Ya)
 have Xj:Hid (∀i,AS m b1 b2 i->w.heap.size<=i/\i<w3.heap.size):=⟨λi hi=>by
  have h1:=Xf.o.hm;have h2:=Xf.o.v1.hb;have h3:=Xf.o.v2.hb;have h4:=HB.o
  rcases hi with rfl|rfl|rfl <;> omega⟩
 have Xl:Hid (∀W1 W2,Gr w3 W1->AB (AS m b1 b2) W1 W2->Gr w W2):=⟨λW1 W2 g1 t=>(((V.o.trans g1).touch (AS m b1 b2)).trans t |>.mono (T:=λ_=>False) (λk hk e=>by have:=(Xj.o k e).1;omega)).gr⟩;obtain⟨Sx,Xg⟩:∃Sx:World->Prop,Sx=λW'=>Gr w W':=⟨_,rfl⟩;have y9:∀p':AA Sx,p'.w.cell? ⟨ap,9,none⟩=some (pP rr):=λp=>(Xu.o _ (AA.get Xg p)).1;have y5:∀p':AA Sx,p'.w.cell? ⟨ap,5,none⟩=some (iI c.st):=λp=>(Xu.o _ (AA.get Xg p)).2;have Xw:Sx w3.drew:=by rw[Xg];exact V.o.drew
 have U:=ι Xg;have inst:Inhabited (AA Sx):=⟨⟨_,Xw⟩⟩;clear Xg;refine YU Sx (.two [0,1,2,3,4,5,6,8,9,10,11,12,13] 7 (.two [] 14 (.one [15,16,17] 18 (.one [] 19 (.fin [20]))) 18 (.one [] 14 (.one [15,16,17] 19 (.fin [20])))) 18 (.one [] 7 (.one [] 14 (.one [15,16,17] 19 (.fin [20]))))) Xw ?_;refine PZ ?_;simp only[AF,ν,μ]
 repeat(go_big_quiet_step (fail))
 refine ζc ⟨?_,?_⟩
 ·go_wp2_with(go_at_call 69;refine(Xc.o _ (V.o.trans (Gr.refl w3).drew)).mono ?_;rintro e w4 ⟨g1,cp,rfl,Xa,Xi,Xe⟩;have X:Hid (Gr w3 w4):=⟨((Gr.refl w3).drew).trans Xa⟩;have Xq:Hid (w3.heap.size<=g1):=⟨ω ((Gr.refl w3).drew).size Xi⟩;have Xp:=ι Xe;clear Xe Xi);have Xk:Hid (∀W,Gr w4 W->Calls prog 68 #[.iface 128 (.agg #[pP ap]),.slice (some ⟨g1,0,none⟩) (s.rs g).length cp,pP m,iI c.st] W λe w'=>(∃r vi:Int,e=.returned (.tuple #[.agg #[iI (na:Nat),iI (nw:Nat),iI r,iI vi],iI 0]))/\AB (AS m b1 b2) W w'):=⟨λW gW=>I.o W (V.o.trans (X.o.trans gW)) m p1 b1 p2 b2 g1 cp (Xf.o.gr (X.o.trans gW)) HB.o (CW Xp.o gW) (λe=>by have:=(Xj.o _ e).2;have:=Xq.o;omega)⟩;have L:Hid (∀W W2,Gr w4 W->AB (AS m b1 b2) W W2->Gr w W2):=⟨λW W2 g1 t=>Xl.o W W2 (X.o.trans g1) t⟩;have D:Hid (Gr w w4):=⟨V.o.trans X.o⟩;refine⟨AA.of (by rw[U.o];exact D.o),?_⟩;refine PZ ?_;simp only[AF,ν,μ]
  repeat(go_big_quiet_step (fail))
  refine ζc ⟨?_,?_⟩
  ·go_wp2_with(go_at_call 68;refine(Xk.o _ (Gr.refl w4)).mono ?_;rintro e w5 ⟨⟨rv,vi,rfl⟩,N⟩;have E:=ι N;clear N);have Y:Hid (Gr w w5):=⟨L.o _ _ (Gr.refl w4) E.o⟩;refine⟨AA.of (by rw[U.o];exact Y.o),?_⟩;refine IJ ?_;go_wp2;refine⟨AA.of (by rw[U.o];exact Y.o.alloc _),?_⟩;refine IJ ?_;go_wp2;refine⟨AA.of (by rw[U.o];exact Y.o.alloc _),?_⟩;refine NA ?_;obtain⟨x,hx⟩:∃x,x=w5.heap.size:=⟨_,rfl⟩;rw[<-hx];obtain⟨WX,J⟩:∃WX,WX=w5.alloc (.cells #[.int .i64 (na:Nat),.int .i64 (nw:Nat),.int .i64 rv,.int .i64 vi] 124):=⟨_,rfl⟩;have Xh:Hid (Gr w WX):=⟨by rw[J];exact Y.o.alloc _⟩;have rx:Rec WX x 124 [iI (na:Nat),iI (nw:Nat),iI rv,iI vi]:=by rw[J];exact hx▸Rec.new w5 124 [iI (na:Nat),iI (nw:Nat),iI rv,iI vi]
   rw[<-J];obtain⟨k0,k1,kl⟩:=rx.k2;clear J rx hx;go_wp2;go_quiet (fail);go_wp2;go_ret2;exact⟨rfl,Xh.o.drewN _⟩
  ·go_wp2;obtain⟨WB,M⟩:∃WB,WB=w4.alloc (.cells #[.int .i64 0,.int .i64 0,.int .i64 0,.int .i64 0] 124):=⟨_,rfl⟩;obtain⟨x,hx⟩:∃x,x=w4.heap.size:=⟨_,rfl⟩;have O:Hid (Gr w4 WB):=⟨by rw[M];exact(Gr.refl w4).alloc _⟩;have Xn:Hid (Rec WB x 124 [iI 0,iI 0,iI 0,iI 0]):=⟨by rw[M,hx];exact Rec.new w4 124 [iI 0,iI 0,iI 0,iI 0]⟩;rw[<-M,<-hx];have Xd:Hid (w3.heap.size<=x):=⟨by rw[hx];exact X.o.size⟩;clear M hx;refine⟨AA.of (by rw[U.o];exact D.o.trans O.o),?_⟩;refine IJ ?_;go_wp2_with(go_at_call 68;refine(Xk.o _ (O.o)).mono ?_;rintro e w5 ⟨⟨rv,vi,rfl⟩,N⟩;have E:=ι N;clear N);have Y:Hid (Gr w w5):=⟨L.o _ _ O.o E.o⟩;have B:=Xn;have Z:=ι (B.o.touch E.o (λe=>by have:=(Xj.o _ e).2;have:=Xd.o;omega));have q0:=Z.o.cc 0;have q1:=Z.o.cc 1;have q2:=Z.o.cc 2;have q3:=Z.o.cc 3;have qf:=Z.o.free;have ql:=Z.o.lt;have G:Hid (Gr w ((((w5.setCell ⟨x,0,none⟩ (.int .i64 (na:Nat))).setCell ⟨x,1,none⟩ (.int .i64 (nw:Nat))).setCell ⟨x,2,none⟩ (.int .i64 rv)).setCell ⟨x,3,none⟩ (.int .i64 vi))):=⟨((Y.o.touch (λk=>k=x)).trans ((((((AB.refl (λk=>k=x) w5).setCell (a:=⟨x,0,none⟩) (λ_=>rfl) _).setCell (a:=⟨x,1,none⟩) (λ_=>rfl) _).setCell (a:=⟨x,2,none⟩) (λ_=>rfl) _).setCell (a:=⟨x,3,none⟩) (λ_=>rfl) _)) |>.mono (T:=λ_=>False) (λk hk e=>by have e:k=x:=e;have:=Xd.o;have:=V.o.size;omega)).gr⟩;refine⟨AA.of (by rw[U.o];exact Y.o),?_⟩;refine IJ ?_;go_wp2;refine⟨AA.of (by rw[U.o];exact G.o),?_⟩;refine NA ?_;clear q0 q1 q2 q3 qf ql;obtain⟨WX,J⟩:∃WX,WX=(((w5.setCell ⟨x,0,none⟩ (.int .i64 (na:Nat))).setCell ⟨x,1,none⟩ (.int .i64 (nw:Nat))).setCell ⟨x,2,none⟩ (.int .i64 rv)).setCell ⟨x,3,none⟩ (.int .i64 vi):=⟨_,rfl⟩;have Xh:Hid (Gr w WX):=⟨by rw[J];exact G.o⟩;have rx:Rec WX x 124 [iI (na:Nat),iI (nw:Nat),iI rv,iI vi]:=by rw[J];exact((((Z.o.set 0 (iI (na:Nat))).set 1 (iI (nw:Nat))).set 2 (iI rv)).set 3 (iI vi))
   rw[<-J];obtain⟨k0,k1,kl⟩:=rx.k2;clear J rx;go_wp2;go_quiet (fail);go_wp2;go_ret2;exact⟨rfl,Xh.o.drewN _⟩
 ·go_wp2;obtain⟨WB,M⟩:∃WB,WB=(w3.alloc (.cells #[.int .i64 0,.int .i64 0,.int .i64 0,.int .i64 0] 124)).drew:=⟨_,rfl⟩;obtain⟨x,hx⟩:∃x,x=w3.heap.size:=⟨_,rfl⟩;have O:Hid (Gr w3 WB):=⟨by rw[M];exact((Gr.refl w3).alloc _).drew⟩;have Xn:Hid (Rec WB x 124 [iI 0,iI 0,iI 0,iI 0]):=⟨by rw[M,hx];exact Rec.new w3 124 [iI 0,iI 0,iI 0,iI 0]⟩;rw[<-M,<-hx];have Xd:Hid (w3.heap.size<=x):=⟨by rw[hx];exact κ _⟩;clear M hx;refine⟨AA.of (by rw[U.o];exact V.o.trans O.o),?_⟩;refine IJ ?_;go_wp2_with(go_at_call 69;refine(Xc.o _ (V.o.trans O.o)).mono ?_;rintro e w4 ⟨g1,cp,rfl,Xa,Xi,Xe⟩;have X:Hid (Gr w3 w4):=⟨O.o.trans Xa⟩;have Xq:Hid (w3.heap.size<=g1):=⟨ω O.o.size Xi⟩;have Xp:=ι Xe;have B:=ι (Xn.o.gr Xa);clear Xe Xi Xa);have Xk:Hid (∀W,Gr w4 W->Calls prog 68 #[.iface 128 (.agg #[pP ap]),.slice (some ⟨g1,0,none⟩) (s.rs g).length cp,pP m,iI c.st] W λe w'=>(∃r vi:Int,e=.returned (.tuple #[.agg #[iI (na:Nat),iI (nw:Nat),iI r,iI vi],iI 0]))/\AB (AS m b1 b2) W w'):=⟨λW gW=>I.o W (V.o.trans (X.o.trans gW)) m p1 b1 p2 b2 g1 cp (Xf.o.gr (X.o.trans gW)) HB.o (CW Xp.o gW) (λe=>by have:=(Xj.o _ e).2;have:=Xq.o;omega)⟩;have L:Hid (∀W W2,Gr w4 W->AB (AS m b1 b2) W W2->Gr w W2):=⟨λW W2 g1 t=>Xl.o W W2 (X.o.trans g1) t⟩;have D:Hid (Gr w w4):=⟨V.o.trans X.o⟩;refine⟨AA.of (by rw[U.o];exact D.o),?_⟩;refine IJ ?_;go_wp2_with(go_at_call 68;refine(Xk.o _ (Gr.refl w4)).mono ?_;rintro e w5 ⟨⟨rv,vi,rfl⟩,N⟩;have E:=ι N;clear N);have Y:Hid (Gr w w5):=⟨L.o _ _ (Gr.refl w4) E.o⟩;have Z:=ι (B.o.touch E.o (λe=>by have:=(Xj.o _ e).2;have:=Xd.o;omega));have q0:=Z.o.cc 0;have q1:=Z.o.cc 1;have q2:=Z.o.cc 2;have q3:=Z.o.cc 3;have qf:=Z.o.free;have ql:=Z.o.lt;have G:Hid (Gr w ((((w5.setCell ⟨x,0,none⟩ (.int .i64 (na:Nat))).setCell ⟨x,1,none⟩ (.int .i64 (nw:Nat))).setCell ⟨x,2,none⟩ (.int .i64 rv)).setCell ⟨x,3,none⟩ (.int .i64 vi))):=⟨((Y.o.touch (λk=>k=x)).trans ((((((AB.refl (λk=>k=x) w5).setCell (a:=⟨x,0,none⟩) (λ_=>rfl) _).setCell (a:=⟨x,1,none⟩) (λ_=>rfl) _).setCell (a:=⟨x,2,none⟩) (λ_=>rfl) _).setCell (a:=⟨x,3,none⟩) (λ_=>rfl) _)) |>.mono (T:=λ_=>False) (λk hk e=>by have e:k=x:=e;have:=Xd.o;have:=V.o.size;omega)).gr⟩;refine⟨AA.of (by rw[U.o];exact Y.o),?_⟩;refine IJ ?_;go_wp2;refine⟨AA.of (by rw[U.o];exact G.o),?_⟩;refine NA ?_;clear q0 q1 q2 q3 qf ql;obtain⟨WX,J⟩:∃WX,WX=(((w5.setCell ⟨x,0,none⟩ (.int .i64 (na:Nat))).setCell ⟨x,1,none⟩ (.int .i64 (nw:Nat))).setCell ⟨x,2,none⟩ (.int .i64 rv)).setCell ⟨x,3,none⟩ (.int .i64 vi):=⟨_,rfl⟩;have Xh:Hid (Gr w WX):=⟨by rw[J];exact G.o⟩;have rx:Rec WX x 124 [iI (na:Nat),iI (nw:Nat),iI rv,iI vi]:=by rw[J];exact((((Z.o.set 0 (iI (na:Nat))).set 1 (iI (nw:Nat))).set 2 (iI rv)).set 3 (iI vi))
  rw[<-J];obtain⟨k0,k1,kl⟩:=rx.k2;clear J rx;go_wp2;go_quiet (fail);go_wp2;go_ret2;exact⟨rfl,Xh.o.drewN _⟩
def HLo(w0:World)(K:Nat->Prop)(c:HCf)(hb:Nat)(w:World)(v:Value)(g':Gph)(e:Ending)(w':World):Prop:=e=.returned v/\AB (hlT w0 K) w w'/\HLv w0 K c hb g' w'
section
variable{f:FuncId}{args:Array Value}
theorem HLv.of_op(h:HLv w0 K c hb g w)(hc:∀s:HSt,s.A.hp=hb->HIn w c g s->(s.o=none↔s.lf=0)->Calls prog f args w λe w'=>e=.returned v/\HOp w c s g' w'):Calls prog f args w (HLo w0 K c hb w v g'):=by
 obtain⟨h1,⟨s,e1,e2,e3,e4⟩,h3⟩:=h;refine(hc s e1 e2 e3).mono ?_;rintro e w' ⟨rfl,s',r,-⟩;exact⟨rfl,HLv.res h1 h3 e1 e4 r⟩
theorem HLv.getW(h:HLv w0 K c hb g w)(a i:Int):Calls prog 116 #[pP hb,iI a,iI i] w (HLo w0 K c hb w (.tuple #[uU (g.fdV a i 3:Nat),iI (g.fdE a i 3)]) g):=h.of_op (λ_ e1 e2 e3=>e1▸J4u e2 e3 a i)
theorem HLv.getF(h:HLv w0 K c hb g w)(a i:Int):Calls prog 58 #[pP hb,iI a,iI i] w (HLo w0 K c hb w (.tuple #[.float .f64 (g.fdV a i 2),iI (g.fdE a i 2)]) g):=h.of_op (λ_ e1 e2 e3=>e1▸QI e2 e3 a i)
theorem HLv.setW(h:HLv w0 K c hb g w)(a i:Int){x:Nat}(hx:x<18446744073709551616):Calls prog 51 #[pP hb,iI a,iI i,uU x] w (HLo w0 K c hb w (iI (g.fdE a i 3)) (g.wrG a i 3 x)):=h.of_op (λ_ e1 e2 e3=>e1▸Vld e2 e3 a i hx)
theorem HLv.setF(h:HLv w0 K c hb g w)(a i:Int){x:Nat}(hx:x<18446744073709551616):Calls prog 50 #[pP hb,iI a,iI i,.float .f64 x] w (HLo w0 K c hb w (iI (g.fdE a i 2)) (g.wrG a i 2 x)):=h.of_op (λ_ e1 e2 e3=>e1▸Xe2 e2 e3 a i hx)
theorem HLv.load(h:HLv w0 K c hb g w)(a b i:Int):Calls prog 57 #[pP hb,iI a,iI b,iI i] w (HLo w0 K c hb w (iI (g.loE a b i)) (g.loG a b i)):=h.of_op (λ_ e1 e2 e3=>e1▸V9V e2 e3 a b i)
theorem HLv.stor(h:HLv w0 K c hb g w)(a i b:Int):Calls prog 86 #[pP hb,iI a,iI i,iI b] w (HLo w0 K c hb w (iI (g.stE a i b)) (g.stG a i b)):=h.of_op (λ_ e1 e2 e3=>e1▸QmE e2 e3 a i b)
theorem HLv.copy(h:HLv w0 K c hb g w)(a b:Int):Calls prog 54 #[pP hb,iI a,iI b] w (HLo w0 K c hb w (iI (g.two a b 0)) (g.cpG a b)):=h.of_op (λ_ e1 e2 e3=>e1▸Xxc e2 e3 a b)
theorem HLv.clr(h:HLv w0 K c hb g w)(a:Int):Calls prog 46 #[pP hb,iI a] w (HLo w0 K c hb w (iI (g.slE a)) (g.clG a)):=h.of_op (λ_ e1 e2 e3=>e1▸Y3 e2 e3 a)
theorem HLv.shap(h:HLv w0 K c hb g w)(a:Int):Calls prog 34 #[pP hb,iI a] w (HLo w0 K c hb w (.tuple #[AL (g.shH a),iI (g.shE a)]) g):=h.of_op (λ_ e1 e2 e3=>e1▸VcO e2 e3 a)
theorem HLv.allo(h:HLv w0 K c hb g w)(a:Int)(x:Hdr):Calls prog 26 #[pP hb,iI a,AL x] w (HLo w0 K c hb w (iI (g.alE c.wd a x)) (g.alG c.wd a x)):=h.alloc a x
theorem HLv.coll(h:HLv w0 K c hb g w):Calls prog 39 #[pP hb] w (HLo w0 K c hb w (.tuple #[]) g):=by
 obtain⟨h1,⟨s,e1,e2,e3,e4⟩,h3⟩:=h;have hc:=VR e2 e3;rw[e1]at hc;refine hc.mono ?_;rintro e w' ⟨rfl,s',r,-⟩;exact⟨rfl,HLv.res h1 h3 e1 e4 r⟩
theorem HLv.same0(h:HLv w0 K c hb g w)(v:Value):HLo w0 K c hb w v g (.returned v) w:=⟨rfl,AB.refl _ _,h⟩
theorem HLv.start(h:HLv w0 K c hb g w):Calls prog 31 #[pP hb] w (HLo w0 K c hb w (.tuple #[]) g):=by
 have h':=h;obtain⟨h1,⟨s,e1,e2,e3,e4⟩,h3⟩:=h;by_cases ho:s.o=none
 ·by_cases hk:c.kd=1
  ·have hc:=YE8 e2 ho hk;rw[e1]at hc;refine hc.mono ?_;rintro e w' ⟨rfl,s',r,-⟩;exact⟨rfl,HLv.res h1 h3 e1 e4 r⟩
  ·have hc:=Yyb e2 e3 ho hk;rw[e1]at hc;refine hc.mono ?_;rintro e w' ⟨rfl,s',r,-⟩;exact⟨rfl,HLv.res h1 h3 e1 e4 r⟩
 ·have hc:=JxG e2 ho;rw[e1]at hc;refine hc.mono ?_;rintro e w' ⟨rfl,rfl⟩;exact h'.same0 _
theorem HLv.step(h:HLv w0 K c hb g w):Calls prog 19 #[pP hb] w λe w'=>∃b:Bool,HLo w0 K c hb w (.bool b) g e w':=by
 have h':=h;obtain⟨h1,⟨s,e1,e2,e3,e4⟩,h3⟩:=h;by_cases hl:s.lf=0
 ·have hc:=Z4 e2 e3 hl;rw[e1]at hc;refine hc.mono ?_;rintro e w' ⟨rfl,rfl⟩;exact⟨_,h'.same0 _⟩
 ·have hc:=WP e2 e3 hl;rw[e1]at hc;refine hc.mono ?_;rintro e w' ⟨rfl,s',r,-⟩;exact⟨_,rfl,HLv.res h1 h3 e1 e4 r⟩
theorem HLv.live(h:HLv w0 K c hb g w):Calls prog 20 #[pP hb] w (HLo w0 K c hb w (.tuple #[iI (g.all.length:Nat),iI (g.words:Nat)]) g):=by
 have h':=h;obtain⟨h1,⟨s,e1,e2,e3,e4⟩,h3⟩:=h;have hc:=QLM e2;rw[e1]at hc;refine hc.mono ?_;rintro e w' ⟨rfl,hg⟩;exact⟨rfl,hg.touch _,h'.get hg⟩
end
theorem HLv.same(h:HLv w0 K c hb g w)(a b:Int):Calls prog 119 #[pP hb,iI a,iI b] w (HLo w0 K c hb w (.tuple #[.bool (g.sl a&&g.sl b&&(g.at a==g.at b)),iI (g.two a b 0)]) g):=h.of_op (λ_ e1 e2 e3=>e1▸JaK e2 e3 a b)
theorem HLv.sum(h:HLv w0 K c hb g w)(a:Int):Calls prog 145 #[pP hb,iI a] w (HLo w0 K c hb w (.tuple #[.float .f64 (g.smV a),iI (g.shE a)]) g):=h.of_op (λ_ e1 e2 e3=>e1▸ZvI e2 e3 a)
theorem HLv.ord(h:HLv w0 K c hb g w)(a i b k:Int):Calls prog 146 #[pP hb,iI a,iI i,iI b,iI k] w (HLo w0 K c hb w (.tuple #[iI (g.orV a i b k),iI (g.orE a i b k)]) g):=h.of_op (λ_ e1 e2 e3=>e1▸XF1 e2 e3 a i b k)
theorem HLv.isnt(h:HLv w0 K c hb g w):cQ 63 #[pP hb] w (.bool false):=by
 obtain⟨h1,⟨s,rfl,e2,e3,e4⟩,h3⟩:=h;exact FK e2
theorem ZgR(y:Nat)(hy:y<18446744073709551616)(w:World):cQ 147 #[uU y] w (iI (if y<256 then y else -1)):=by
 by_cases h:y<256
 ·rw[θ h];have d0:decide ((256:Int)<=(y:Int))=false:=ζ Ω;have e0:wrap64 (y:Int)=y:=ψy _ Ω;clear hy;go_enter func147,ntmps147;go_wp2;go_ret;exact⟨rfl,rfl⟩
 ·rw[ψ h];have d0:decide ((256:Int)<=(y:Int))=true:=φ Ω;clear hy;go_enter func147,ntmps147;go_wp2;go_ret;exact⟨rfl,rfl⟩
structure C9(w0 w:World)(K:Nat->Prop)(c:HCf)(hb:Nat)(g:Gph)(x:GOp)(re:GRe)(wx:World):Prop where
 hv:HLv w0 (λk=>K k\/k=w.heap.size\/k=w.heap.size+1) c hb g wx
 o:Rec wx w.heap.size 82 (opL x)
 q:Rec wx (w.heap.size+1) 84 (FB re)
 t:AB (hlT w0 K) w wx
theorem C9.op(h:C9 w0 w K c hb g x re wx)(ho:HLo w0 (λk=>K k\/k=w.heap.size\/k=w.heap.size+1) c hb wx v g' e w'):e=.returned v/\C9 w0 w K c hb g' x re w':=by
 obtain⟨rfl,t,hl⟩:=ho;exact⟨rfl,hl,h.o.touch t (λe=>e.2 (.inr (.inl rfl))),h.q.touch t (λe=>e.2 (.inr (.inr rfl))),h.t.trans (t.mono (λ_ _ e=>⟨e.1,λk=>e.2 (.inl k)⟩))⟩
theorem C9.gr(h:C9 w0 w K c hb g x re wx)(gr:Gr wx w'):C9 w0 w K c hb g x re w':=⟨h.hv.get gr,h.o.gr gr,h.q.gr gr,h.t.trans (gr.touch _)⟩
theorem C9.sset(h:C9 w0 w K c hb g x re wx)(hw:w0.heap.size<=w.heap.size)(ht:1<w0.heap.size)(hk:∀k,K k->k<w.heap.size)(j:Nat)(u:Value)(hu:(FB re).set j u=FB re'):C9 w0 w K c hb g x re' (wx.setCell ⟨w.heap.size+1,j,none⟩ u):=by
 have t:=(AB.refl (λk=>k=w.heap.size+1) wx).setCell (a:=⟨w.heap.size+1,j,none⟩) (λ_=>rfl) u;refine⟨h.hv.touch (t.mono (λk _ e=>⟨.inr (.inr e),by rw[e];omega⟩)) ht,h.o.touch t Ω,?_,h.t.trans (t.mono (λk _ e=>⟨by rw[e];omega,λh=>by have:=hk k h;omega⟩))⟩;have:=h.q.set j u;rw[hu]at this;exact this
theorem C9.put(h:C9 w0 w K c hb g x re wx)(hw:w0.heap.size<=w.heap.size)(ht:1<w0.heap.size)(hk:∀k,K k->k<w.heap.size)(r:GRe):C9 w0 w K c hb g x r (((((((wx.setCell ⟨w.heap.size+1,0,none⟩ (.int .i64 r.code)).setCell ⟨w.heap.size+1,1,none⟩ (.bool r.is)).setCell ⟨w.heap.size+1,2,none⟩ (.int .i64 r.n)).setCell ⟨w.heap.size+1,3,none⟩ (.int .u64 (r.wd:Nat))).setCell ⟨w.heap.size+1,4,none⟩ (.int .i64 r.h.p)).setCell ⟨w.heap.size+1,5,none⟩ (.int .i64 r.h.f)).setCell ⟨w.heap.size+1,6,none⟩ (.int .i64 r.h.k)):=
 ((((((h.sset (re':=⟨r.code,re.is,re.n,re.wd,re.h⟩) hw ht hk 0 _ rfl).sset (re':=⟨r.code,r.is,re.n,re.wd,re.h⟩) hw ht hk 1 _ rfl).sset (re':=⟨r.code,r.is,r.n,re.wd,re.h⟩) hw ht hk 2 _ rfl).sset (re':=⟨r.code,r.is,r.n,r.wd,re.h⟩) hw ht hk 3 _ rfl).sset (re':=⟨r.code,r.is,r.n,r.wd,⟨r.h.p,re.h.f,re.h.k⟩⟩) hw ht hk 4 _ rfl).sset (re':=⟨r.code,r.is,r.n,r.wd,⟨r.h.p,r.h.f,re.h.k⟩⟩) hw ht hk 5 _ rfl).sset (re':=r) hw ht hk 6 _ rfl
theorem C9.fin(h:C9 w0 w K c hb g x re wx):AB (hlT w0 K) w wx/\HLv w0 K c hb g wx:=⟨h.t,h.hv.own (Gr.refl _) (λ_ k=>.inl (.inl k))⟩
theorem C9.new(h:HLv w0 K c hb g w)(x:GOp):∃w2,w2=(w.alloc (.cells (C1 x) 82)).alloc (.cells #[.int .i64 0,.bool false,.int .i64 0,.int .u64 0,.int .i64 0,.int .i64 0,.int .i64 0] 84)/\C9 w0 w K c hb g x (.no 0) w2:=by
 have g1:=(Gr.refl w).alloc (.cells (C1 x) 82);have g2:=(Gr.refl (w.alloc (.cells (C1 x) 82))).alloc (.cells #[.int .i64 0,.bool false,.int .i64 0,.int .u64 0,.int .i64 0,.int .i64 0,.int .i64 0] 84);have s1:=π w (.cells (C1 x) 82);have s2:=π (w.alloc (.cells (C1 x) 82)) (.cells #[.int .i64 0,.bool false,.int .i64 0,.int .u64 0,.int .i64 0,.int .i64 0,.int .i64 0] 84);refine⟨_,rfl,h.own (g1.trans g2) (λk hk=>hk.imp id (λe=>⟨by omega,by omega⟩)),(Rec.new w 82 (opL x)).gr g2,?_,(g1.trans g2).touch _⟩;have:=Rec.new (w.alloc (.cells (C1 x) 82)) 84 VcR;rw[s1]at this;exact this
theorem HLv.words_le(h:HLv w0 K c hb g w):g.words<=c.wd/\c.wd<=131072:=by
 obtain⟨h1,⟨s,e1,e2,-⟩,h3⟩:=h;obtain⟨L,-,-,-,h4,h5,-⟩:=e2.rch (κ _);have:=e2.bt;have:=e2.cok.wd;exact⟨by omega,by omega⟩
structure C0(w0 w:World)(K:Nat->Prop)(c:HCf)(hb:Nat)(g:Gph)(x:GOp)(rq re:GRe)(wx:World):Prop where
 hv:HLv w0 (λk=>K k\/k=w.heap.size\/k=w.heap.size+1\/k=w.heap.size+2) c hb g wx
 o:Rec wx w.heap.size 82 (opL x)
 q:Rec wx (w.heap.size+1) 84 (FB rq)
 p:Rec wx (w.heap.size+2) 84 (FB re)
 t:AB (hlT w0 K) w wx
section
variable{rq rq':GRe}
theorem C0.op(h:C0 w0 w K c hb g x rq re wx)(ho:HLo w0 (λk=>K k\/k=w.heap.size\/k=w.heap.size+1\/k=w.heap.size+2) c hb wx v g' e w'):e=.returned v/\C0 w0 w K c hb g' x rq re w':=by
 obtain⟨rfl,t,hl⟩:=ho;exact⟨rfl,hl,h.o.touch t (λe=>e.2 (.inr (.inl rfl))),h.q.touch t (λe=>e.2 (.inr (.inr (.inl rfl)))),h.p.touch t (λe=>e.2 (.inr (.inr (.inr rfl)))),h.t.trans (t.mono (λ_ _ e=>⟨e.1,λk=>e.2 (.inl k)⟩))⟩
theorem C0.gr(h:C0 w0 w K c hb g x rq re wx)(gr:Gr wx w'):C0 w0 w K c hb g x rq re w':=⟨h.hv.get gr,h.o.gr gr,h.q.gr gr,h.p.gr gr,h.t.trans (gr.touch _)⟩
theorem C0.sset(h:C0 w0 w K c hb g x rq re wx)(hw:w0.heap.size<=w.heap.size)(ht:1<w0.heap.size)(hk:∀k,K k->k<w.heap.size)(j:Nat)(u:Value)(hu:(FB re).set j u=FB re'):C0 w0 w K c hb g x rq re' (wx.setCell ⟨w.heap.size+2,j,none⟩ u):=by
 have t:=(AB.refl (λk=>k=w.heap.size+2) wx).setCell (a:=⟨w.heap.size+2,j,none⟩) (λ_=>rfl) u;refine⟨h.hv.touch (t.mono (λk _ e=>⟨.inr (.inr (.inr e)),by rw[e];omega⟩)) ht,h.o.touch t Ω,h.q.touch t Ω,?_,h.t.trans (t.mono (λk _ e=>⟨by rw[e];omega,λh=>by have:=hk k h;omega⟩))⟩;have:=h.p.set j u;rw[hu]at this;exact this
theorem C0.qset(h:C0 w0 w K c hb g x rq re wx)(hw:w0.heap.size<=w.heap.size)(ht:1<w0.heap.size)(hk:∀k,K k->k<w.heap.size)(j:Nat)(u:Value)(hu:(FB rq).set j u=FB rq'):C0 w0 w K c hb g x rq' re (wx.setCell ⟨w.heap.size+1,j,none⟩ u):=by
 have t:=(AB.refl (λk=>k=w.heap.size+1) wx).setCell (a:=⟨w.heap.size+1,j,none⟩) (λ_=>rfl) u;refine⟨h.hv.touch (t.mono (λk _ e=>⟨.inr (.inr (.inl e)),by rw[e];omega⟩)) ht,h.o.touch t Ω,?_,h.p.touch t Ω,h.t.trans (t.mono (λk _ e=>⟨by rw[e];omega,λh=>by have:=hk k h;omega⟩))⟩;have:=h.q.set j u;rw[hu]at this;exact this
theorem C0.put(h:C0 w0 w K c hb g x rq re wx)(hw:w0.heap.size<=w.heap.size)(ht:1<w0.heap.size)(hk:∀k,K k->k<w.heap.size)(r:GRe):C0 w0 w K c hb g x r re (((((((wx.setCell ⟨w.heap.size+1,0,none⟩ (.int .i64 r.code)).setCell ⟨w.heap.size+1,1,none⟩ (.bool r.is)).setCell ⟨w.heap.size+1,2,none⟩ (.int .i64 r.n)).setCell ⟨w.heap.size+1,3,none⟩ (.int .u64 (r.wd:Nat))).setCell ⟨w.heap.size+1,4,none⟩ (.int .i64 r.h.p)).setCell ⟨w.heap.size+1,5,none⟩ (.int .i64 r.h.f)).setCell ⟨w.heap.size+1,6,none⟩ (.int .i64 r.h.k)):=
 ((((((h.qset (rq':=⟨r.code,rq.is,rq.n,rq.wd,rq.h⟩) hw ht hk 0 _ rfl).qset (rq':=⟨r.code,r.is,rq.n,rq.wd,rq.h⟩) hw ht hk 1 _ rfl).qset (rq':=⟨r.code,r.is,r.n,rq.wd,rq.h⟩) hw ht hk 2 _ rfl).qset (rq':=⟨r.code,r.is,r.n,r.wd,rq.h⟩) hw ht hk 3 _ rfl).qset (rq':=⟨r.code,r.is,r.n,r.wd,⟨r.h.p,rq.h.f,rq.h.k⟩⟩) hw ht hk 4 _ rfl).qset (rq':=⟨r.code,r.is,r.n,r.wd,⟨r.h.p,r.h.f,rq.h.k⟩⟩) hw ht hk 5 _ rfl).qset (rq':=r) hw ht hk 6 _ rfl
theorem C0.fin(h:C0 w0 w K c hb g x rq re wx):AB (hlT w0 K) w wx/\HLv w0 K c hb g wx:=⟨h.t,h.hv.own (Gr.refl _) (λ_ k=>.inl (.inl k))⟩
theorem C0.new(h:HLv w0 K c hb g w)(x:GOp):∃w3,w3=((w.alloc (.cells (C1 x) 82)).alloc (.cells #[.int .i64 0,.bool false,.int .i64 0,.int .u64 0,.int .i64 0,.int .i64 0,.int .i64 0] 84)).alloc (.cells #[.int .i64 0,.bool false,.int .i64 0,.int .u64 0,.int .i64 0,.int .i64 0,.int .i64 0] 84)/\C0 w0 w K c hb g x (.no 0) (.no 0) w3:=by
 obtain⟨w2,e2,hm⟩:=C9.new h x;have g3:=(Gr.refl w2).alloc (.cells #[.int .i64 0,.bool false,.int .i64 0,.int .u64 0,.int .i64 0,.int .i64 0,.int .i64 0] 84);have s1:=π w (.cells (C1 x) 82);have s2:w2.heap.size=w.heap.size+2:=by rw[e2,π,π]
 have s3:=π w2 (.cells #[.int .i64 0,.bool false,.int .i64 0,.int .u64 0,.int .i64 0,.int .i64 0,.int .i64 0] 84);refine⟨_,by rw[<-e2],hm.hv.own g3 (λk hk=>?_),hm.o.gr g3,hm.q.gr g3,?_,hm.t.trans (g3.touch _)⟩
 ·rcases hk with e|e|e|e
  ·exact .inl (.inl e)
  ·exact .inl (.inr (.inl e))
  ·exact .inl (.inr (.inr e))
  ·exact .inr ⟨by omega,by omega⟩
 ·have:=Rec.new w2 84 VcR;rw[s2]at this;exact this
end
theorem Y5B(h:HLv w0 K c hb g w)(ht:1<w0.heap.size)(x:GOp)(hkk:¬(x.kd=4\/x.kd=6\/(10<=x.kd/\x.kd<=14))):Calls prog 97 #[pP hb,.agg (C1 x)] w (HLo w0 K c hb w (.tuple #[FY (.no 0),.bool false]) g):=by
 obtain⟨kd,xa,xb,xi,⟨hp,hf,hk⟩,xw,xf⟩:=x;obtain⟨w2,X,hm⟩:=C0.new h ⟨kd,xa,xb,xi,⟨hp,hf,hk⟩,xw,xf⟩;have HW:=ι X;have HM:=ι hm;have Z:=ι h.gr.size;have Y:=ι ht;have J:=ι h.kl;have k0:=hm.o.cc 0;have kl:=hm.o.lt;obtain⟨p0,p1,p2,p3,p4,p5,p6,pl⟩:=hm.p.k7;have j0:=hm.q.cc 0;have j1:=hm.q.cc 1;have j2:=hm.q.cc 2;have j3:=hm.q.cc 3;have j4:=hm.q.cc 4;have j5:=hm.q.cc 5;have j6:=hm.q.cc 6;have jf:=hm.q.free;have jl:=hm.q.lt;unfold C1 at HW⊢;dsimp only at HW k0 hkk⊢;dsimp only[GRe.no]at p0 p1 p2 p3 p4 p5 p6 j0 j1 j2 j3 j4 j5 j6;have d4:(kd==4)=false:=by rw[ζj];omega
 have d6:(kd==6)=false:=by rw[ζj];omega
 have d10:(kd==10)=false:=by rw[ζj];omega
 have d11:(kd==11)=false:=by rw[ζj];omega
 have d12:(kd==12)=false:=by rw[ζj];omega
 have d13:(kd==13)=false:=by rw[ζj];omega
 have d14:(kd==14)=false:=by rw[ζj];omega
 clear h ht hm X hkk;go_enter func97,ntmps97;go_upto_region 2 with(fail);rw[<-HW.o];clear HW;go_wp2;have hs:=HM.o.put Z.o Y.o J.o (.no 0);have hl:=PU hs.q;have e0:((0:Nat):Int)=0:=rfl;simp only[GRe.no,e0]at hl;refine ζH (v:=.tuple #[FY (.no 0),.bool false]) ?_ rfl ⟨rfl,hs.fin.1,hs.fin.2⟩;simp[results,results97,asAddr,hl,Result.andThen,GRe.no]
theorem Q4h(h:HLv w0 K c hb g w)(ht:1<w0.heap.size)(x:GOp)(hx:x.Bd)(hkk:x.kd=4\/x.kd=6\/x.kd=10\/x.kd=11\/x.kd=12\/x.kd=13\/x.kd=14):Calls prog 97 #[pP hb,.agg (C1 x)] w (HLo w0 K c hb w (.tuple #[FY (x.doR c.wd g),.bool true]) g):=by
 have D:=hx.wd;obtain⟨kd,xa,xb,xi,⟨hp,hf,hk⟩,xw,xf⟩:=x;obtain⟨w2,B,hm⟩:=C0.new h ⟨kd,xa,xb,xi,⟨hp,hf,hk⟩,xw,xf⟩;have HW:=ι B;have HM:=ι hm;have J:=ι h.gr.size;have Z:=ι ht;have U:=ι h.kl;have k0:=hm.o.cc 0;have kl:=hm.o.lt;have HX:=ι D;obtain⟨re,Y⟩:∃re,re=GOp.doR c.wd ⟨kd,xa,xb,xi,⟨hp,hf,hk⟩,xw,xf⟩ g:=⟨_,rfl⟩;have M:=ι Y;rw[<-Y];unfold C1 at HW⊢;dsimp only at HW k0 hkk D HX⊢;clear h ht hm B Y D hx;go_enter func97,ntmps97;go_upto_region 2 with(fail);rw[<-HW.o];clear HW
 go_upto_block 0 with(fail)
 go_cut [] (λwx=>Hid (C0 w0 w K c hb g ⟨kd,xa,xb,xi,⟨hp,hf,hk⟩,xw,xf⟩ (.no 0) re wx))
 case first=>
  have k1:=HM.o.o.cc 1;have k2:=HM.o.o.cc 2;have k3:=HM.o.o.cc 3;have k4:=HM.o.o.cc 4;have k5:=HM.o.o.cc 5;have k6:=HM.o.o.cc 6;have k7:=HM.o.o.cc 7;have k8:=HM.o.o.cc 8;rcases hkk with rfl|rfl|rfl|rfl|rfl|rfl|rfl
  ·have Y:re=⟨g.fdE xa xi 3,false,0,g.fdV xa xi 3,⟨0,0,0⟩⟩:=M.o.trans rfl;have HC:=ι (HM.o.hv.getW xa xi);generalize g.fdV xa xi 3=V at HC Y;generalize g.fdE xa xi 3=E at HC Y;have N:=ι Y;clear Y M;go_wp2_with(go_at_call 116;refine(HC.o).mono ?_;intro e w5 ho;have hn:=HM.o.op ho;clear ho;obtain⟨rfl,hm⟩:=hn;have X:=ι hm;have z3:=X.o.p.cc 3;have z0:=X.o.p.cc 0;have zf:=X.o.p.free;have zl:=X.o.p.lt;clear hm)
   go_meet
   case rel=>
    rw[N.o];exact⟨((X.o.sset (re':=⟨0,false,0,V,⟨0,0,0⟩⟩) J.o Z.o U.o 3 (uU (V:Nat)) rfl).sset (re':=⟨E,false,0,V,⟨0,0,0⟩⟩) J.o Z.o U.o 0 (iI E) rfl)⟩
  ·have Y:re=⟨g.fdE xa xi 2,false,0,g.fdV xa xi 2,⟨0,0,0⟩⟩:=M.o.trans rfl;have HC:=ι (HM.o.hv.getF xa xi);generalize g.fdV xa xi 2=V at HC Y;generalize g.fdE xa xi 2=E at HC Y;have N:=ι Y;clear Y M
   go_wp2_with(first
    | (go_at_call 17;refine AJ (JC _ _) ?_)
    | (go_at_call 58;refine(HC.o).mono ?_;intro e w5 ho;have hn:=HM.o.op ho;clear ho;obtain⟨rfl,hm⟩:=hn;have X:=ι hm;have z0:=X.o.p.cc 0;have z3:=X.o.p.cc 3;have zf:=X.o.p.free;have zl:=X.o.p.lt;clear hm))
   go_meet
   case rel=>
    rw[N.o];exact⟨((X.o.sset (re':=⟨E,false,0,0,⟨0,0,0⟩⟩) J.o Z.o U.o 0 (iI E) rfl).sset (re':=⟨E,false,0,V,⟨0,0,0⟩⟩) J.o Z.o U.o 3 (uU (V:Nat)) rfl)⟩
  ·have Y:re=⟨g.two xa xb 0,g.sl xa&&g.sl xb&&(g.at xa==g.at xb),0,0,⟨0,0,0⟩⟩:=M.o.trans rfl;have HC:=ι (HM.o.hv.same xa xb);generalize (g.sl xa&&g.sl xb&&(g.at xa==g.at xb))=V at HC Y;generalize g.two xa xb 0=E at HC Y;have N:=ι Y;clear Y M;go_wp2_with(go_at_call 119;refine(HC.o).mono ?_;intro e w5 ho;have hn:=HM.o.op ho;clear ho;obtain⟨rfl,hm⟩:=hn;have X:=ι hm;have z1:=X.o.p.cc 1;have z0:=X.o.p.cc 0;have zf:=X.o.p.free;have zl:=X.o.p.lt;clear hm)
   go_meet
   case rel=>
    rw[N.o];exact⟨((X.o.sset (re':=⟨0,V,0,0,⟨0,0,0⟩⟩) J.o Z.o U.o 1 (.bool V) rfl).sset (re':=⟨E,V,0,0,⟨0,0,0⟩⟩) J.o Z.o U.o 0 (iI E) rfl)⟩
  ·have Y:re=⟨g.shE xa,false,0,0,g.shH xa⟩:=M.o.trans rfl;have HC:=ι (HM.o.hv.shap xa);generalize g.shH xa=HH at HC Y;obtain⟨pp,ff,kk⟩:=HH;unfold AL at HC;dsimp only at HC;generalize g.shE xa=E at HC Y;have N:=ι Y;clear Y M;go_wp2_with(go_at_call 34;refine(HC.o).mono ?_;intro e w5 ho;have hn:=HM.o.op ho;clear ho;obtain⟨rfl,hm⟩:=hn;have X:=ι hm;have z4:=X.o.p.cc 4;have z5:=X.o.p.cc 5;have z6:=X.o.p.cc 6;have z0:=X.o.p.cc 0;have zf:=X.o.p.free;have zl:=X.o.p.lt;clear hm)
   go_meet
   case rel=>
    rw[N.o];exact⟨((((X.o.sset (re':=⟨0,false,0,0,⟨pp,0,0⟩⟩) J.o Z.o U.o 4 (iI pp) rfl).sset (re':=⟨0,false,0,0,⟨pp,ff,0⟩⟩) J.o Z.o U.o 5 (iI ff) rfl).sset (re':=⟨0,false,0,0,⟨pp,ff,kk⟩⟩) J.o Z.o U.o 6 (iI kk) rfl).sset (re':=⟨E,false,0,0,⟨pp,ff,kk⟩⟩) J.o Z.o U.o 0 (iI E) rfl)⟩
  ·have Y:re=⟨g.shE xa,false,0,g.smV xa,⟨0,0,0⟩⟩:=M.o.trans rfl;have HC:=ι (HM.o.hv.sum xa);generalize g.smV xa=V at HC Y;generalize g.shE xa=E at HC Y;have N:=ι Y;clear Y M
   go_wp2_with(first
    | (go_at_call 17;refine AJ (JC _ _) ?_)
    | (go_at_call 145;refine(HC.o).mono ?_;intro e w5 ho;have hn:=HM.o.op ho;clear ho;obtain⟨rfl,hm⟩:=hn;have X:=ι hm;have z0:=X.o.p.cc 0;have z3:=X.o.p.cc 3;have zf:=X.o.p.free;have zl:=X.o.p.lt;clear hm))
   go_meet
   case rel=>
    rw[N.o];exact⟨((X.o.sset (re':=⟨E,false,0,0,⟨0,0,0⟩⟩) J.o Z.o U.o 0 (iI E) rfl).sset (re':=⟨E,false,0,V,⟨0,0,0⟩⟩) J.o Z.o U.o 3 (uU (V:Nat)) rfl)⟩
  ·have Y:re=⟨g.orE xa xi xb (if xw<256 then xw else -1),false,g.orV xa xi xb (if xw<256 then xw else -1),0,⟨0,0,0⟩⟩:=M.o.trans rfl;have HF:=ι (ZgR xw HX.o);generalize (if xw<256 then (xw:Int)else -1)=kx at HF Y;have HC:=ι (λW (hW:C0 w0 w K c hb g ⟨13,xa,xb,xi,⟨hp,hf,hk⟩,xw,xf⟩ (.no 0) (.no 0) W)=>hW.hv.ord xa xi xb kx);generalize g.orV xa xi xb kx=V at HC Y;generalize g.orE xa xi xb kx=E at HC Y;have N:=ι Y;clear Y M;go_upto_region 18 with(fail);obtain⟨Sx,O,HS⟩:=AA.start λW'=>Rec W' w.heap.size 82 (opL ⟨13,xa,xb,xi,⟨hp,hf,hk⟩,xw,xf⟩);have y1:=AA.fact O λ_ h=>h.cell (j:=1) rfl;have y2:=AA.fact O λ_ h=>h.cell (j:=2) rfl;have y3:=AA.fact O λ_ h=>h.cell (j:=3) rfl;have y7:=AA.fact O λ_ h=>h.cell (j:=7) rfl;have yl:∀p:AA Sx,w.heap.size<p.w.heap.size:=λp=>by have h:=AA.get O p;exact h.lt
   have L:=HS.o _ (HM.o.o.gr (Gr.refl _).drew);have A:Inhabited (AA Sx):=⟨⟨_,L⟩⟩;clear O;refine BJ Sx 17 [([0,1,2,3,4,5,6,7,8],9),([],10),([11,12,13,14],15),([16],17)] [] L ?_;refine AN ?_;go_wp2_with((go_at_call 147;refine AJ (HF.o _) ?_));refine⟨.inr (AA.of (HS.o _ (HM.o.o.gr (Gr.refl _).drew))),?_⟩;refine AN ?_;go_wp2_with((go_at_call 146;refine(HC.o _ (HM.o.gr (Gr.refl _).drew)).mono ?_;intro e w5 ho;have hn:=(HM.o.gr (Gr.refl _).drew).op ho;clear ho;obtain⟨rfl,hm⟩:=hn;have X:=ι hm;have z2:=X.o.p.cc 2;have z0:=X.o.p.cc 0;have zf:=X.o.p.free;have zl:=X.o.p.lt;clear hm));refine⟨.inr (AA.of (HS.o _ (X.o.o))),?_⟩
   try simp only[Act.put,ζe,ζl,ζo]
   refine AN ?_;go_wp2_with((fail));refine⟨.inr (AA.of (HS.o _ ((X.o.sset (re':=⟨0,false,V,0,⟨0,0,0⟩⟩) J.o Z.o U.o 2 (iI V) rfl).o))),?_⟩
   try simp only[Act.put,ζe,ζl,ζo]
   refine AN ?_;go_wp2;refine⟨.inl trivial,?_⟩;refine EW ?_;refine ζc ?_;refine ζD ?_;clear y1 y2 y3 y7 yl L A;clear HS Sx;go_wp2
   go_meet
   case rel=>
    rw[N.o];exact⟨((X.o.sset (re':=⟨0,false,V,0,⟨0,0,0⟩⟩) J.o Z.o U.o 2 (iI V) rfl).sset (re':=⟨E,false,V,0,⟨0,0,0⟩⟩) J.o Z.o U.o 0 (iI E) rfl)⟩
  ·have Y:re=⟨0,false,(g.all.length:Nat),g.words,⟨0,0,0⟩⟩:=M.o.trans rfl;have HC:=ι HM.o.hv.live;have G:=HM.o.hv.words_le;generalize g.words=I at HC Y G;generalize g.all.length=al at HC Y;have u1:IntKind.u64.wrap (I:Int)=I:=LL _ Ω;clear G;have N:=ι Y;clear Y M;go_wp2_with(go_at_call 20;refine(HC.o).mono ?_;intro e w5 ho;have hn:=HM.o.op ho;clear ho;obtain⟨rfl,hm⟩:=hn;have X:=ι hm;have z2:=X.o.p.cc 2;have z3:=X.o.p.cc 3;have zf:=X.o.p.free;have zl:=X.o.p.lt;clear hm)
   go_meet
   case rel=>
    rw[N.o];exact⟨((X.o.sset (re':=⟨0,false,(al:Nat),0,⟨0,0,0⟩⟩) J.o Z.o U.o 2 (iI (al:Nat)) rfl).sset (re':=⟨0,false,(al:Nat),I,⟨0,0,0⟩⟩) J.o Z.o U.o 3 (uU (I:Nat)) rfl)⟩
 case rest=>
  have HD:=hcut;obtain⟨p0,p1,p2,p3,p4,p5,p6,pl⟩:=HD.o.p.k7;have j0:=HD.o.q.cc 0;have j1:=HD.o.q.cc 1;have j2:=HD.o.q.cc 2;have j3:=HD.o.q.cc 3;have j4:=HD.o.q.cc 4;have j5:=HD.o.q.cc 5;have j6:=HD.o.q.cc 6;have jf:=HD.o.q.free;have jl:=HD.o.q.lt;clear k0 kl HM;go_wp2;have hs:=HD.o.put J.o Z.o U.o re;have hl:=PU hs.q;refine ζH (v:=.tuple #[FY re,.bool true]) ?_ rfl ⟨rfl,hs.fin.1,hs.fin.2⟩;simp[results,results97,asAddr,hl,Result.andThen]
structure KD(w0 w:World)(K:Nat->Prop)(c:HCf)(hb:Nat)(g:Gph)(x:GOp)(wx:World):Prop where
 hv:HLv w0 (λk=>K k\/k=w.heap.size) c hb g wx
 o:Rec wx w.heap.size 82 (opL x)
 t:AB (hlT w0 K) w wx
theorem KD.new(h:HLv w0 K c hb g w)(x:GOp):∃w2,w2=w.alloc (.cells (C1 x) 82)/\KD w0 w K c hb g x w2:=by
 have g1:=(Gr.refl w).alloc (.cells (C1 x) 82);have s1:=π w (.cells (C1 x) 82);exact⟨_,rfl,h.own g1 (λk hk=>hk.imp id (λe=>⟨by omega,by omega⟩)),Rec.new w 82 (opL x),g1.touch _⟩
theorem KD.op(h:KD w0 w K c hb g x wx)(ho:HLo w0 (λk=>K k\/k=w.heap.size) c hb wx v g' e w'):e=.returned v/\Hid (HLo w0 K c hb w v g' e w'):=by
 obtain⟨rfl,t,hl⟩:=ho;exact⟨rfl,⟨rfl,h.t.trans (t.mono (λ_ _ e=>⟨e.1,λk=>e.2 (.inl k)⟩)),hl.own (Gr.refl _) (λ_ k=>.inl (.inl k))⟩⟩
theorem KD.done(h:KD w0 w K c hb g x wx)(v:Value):HLo w0 K c hb w v g (.returned v) wx:=⟨rfl,h.t,h.hv.own (Gr.refl _) (λ_ k=>.inl (.inl k))⟩
theorem HLo.as{v':Value}(h:HLo w0 K c hb w v g' e w'):HLo w0 K c hb w v' g' (.returned v') w':=⟨rfl,h.2.1,h.2.2⟩
theorem QJf(h:HLv w0 K c hb g w)(x:GOp)(hx:x.Bd)(hkk:¬(x.kd=4\/x.kd=6\/(10<=x.kd/\x.kd<=14))):Calls prog 98 #[pP hb,.agg (C1 x)] w (HLo w0 K c hb w (iI (x.doR c.wd g).code) (x.doG c.wd g)):=by
 have Y:=hx.wd;have X:=hx.fl;obtain⟨kd,xa,xb,xi,⟨hp,hf,hk⟩,xw,xf⟩:=x;obtain⟨w2,U,hm⟩:=KD.new h ⟨kd,xa,xb,xi,⟨hp,hf,hk⟩,xw,xf⟩;have HW:=ι U;have HM:=ι hm;obtain⟨k0,k1,k2,k3,k4,k5,k6,k7,k8,kl⟩:=hm.o.k9;unfold C1 at HW⊢;dsimp only at HW k0 k1 k2 k3 k4 k5 k6 k7 k8 hkk Y X⊢;clear h hm U hx;have M:kd=1\/kd=2\/kd=3\/kd=5\/kd=7\/kd=8\/kd=9\/kd=15\/kd=16\/kd=17\/(kd<1\/17<kd):=Ω
 clear hkk;rcases M with rfl|rfl|rfl|rfl|rfl|rfl|rfl|rfl|rfl|rfl|V
 ·rw[show (GOp.doR c.wd ⟨1,xa,xb,xi,⟨hp,hf,hk⟩,xw,xf⟩ g).code=g.alE c.wd xa ⟨hp,hf,hk⟩from rfl,show GOp.doG c.wd ⟨1,xa,xb,xi,⟨hp,hf,hk⟩,xw,xf⟩ g=g.alG c.wd xa ⟨hp,hf,hk⟩from rfl];have HC:=ι (HM.o.hv.allo xa ⟨hp,hf,hk⟩);unfold AL at HC;dsimp only at HC;clear Y X;go_enter func98,ntmps98;go_upto_region 1 with(fail);rw[<-HW.o];clear HW;go_wp2_with(go_at_call 26;refine HC.o.mono ?_;intro e w5 ho;have hn:=HM.o.op ho;clear ho;obtain⟨rfl,HE⟩:=hn);go_ret;exact HE.o
 ·rw[show (GOp.doR c.wd ⟨2,xa,xb,xi,⟨hp,hf,hk⟩,xw,xf⟩ g).code=g.loE xa xb xi from rfl,show GOp.doG c.wd ⟨2,xa,xb,xi,⟨hp,hf,hk⟩,xw,xf⟩ g=g.loG xa xb xi from rfl];have HC:=ι (HM.o.hv.load xa xb xi);clear Y X;go_enter func98,ntmps98;go_upto_region 1 with(fail);rw[<-HW.o];clear HW;go_wp2_with(go_at_call 57;refine HC.o.mono ?_;intro e w5 ho;have hn:=HM.o.op ho;clear ho;obtain⟨rfl,HE⟩:=hn);go_ret;exact HE.o
 ·rw[show (GOp.doR c.wd ⟨3,xa,xb,xi,⟨hp,hf,hk⟩,xw,xf⟩ g).code=g.stE xa xi xb from rfl,show GOp.doG c.wd ⟨3,xa,xb,xi,⟨hp,hf,hk⟩,xw,xf⟩ g=g.stG xa xi xb from rfl];have HC:=ι (HM.o.hv.stor xa xi xb);clear Y X;go_enter func98,ntmps98;go_upto_region 1 with(fail);rw[<-HW.o];clear HW;go_wp2_with(go_at_call 86;refine HC.o.mono ?_;intro e w5 ho;have hn:=HM.o.op ho;clear ho;obtain⟨rfl,HE⟩:=hn);go_ret;exact HE.o
 ·rw[show (GOp.doR c.wd ⟨5,xa,xb,xi,⟨hp,hf,hk⟩,xw,xf⟩ g).code=g.fdE xa xi 3 from rfl,show GOp.doG c.wd ⟨5,xa,xb,xi,⟨hp,hf,hk⟩,xw,xf⟩ g=g.wrG xa xi 3 xw from rfl];have HC:=ι (HM.o.hv.setW xa xi Y);clear Y X;go_enter func98,ntmps98;go_upto_region 1 with(fail);rw[<-HW.o];clear HW;go_wp2_with(go_at_call 51;refine HC.o.mono ?_;intro e w5 ho;have hn:=HM.o.op ho;clear ho;obtain⟨rfl,HE⟩:=hn);go_ret;exact HE.o
 ·rw[show (GOp.doR c.wd ⟨7,xa,xb,xi,⟨hp,hf,hk⟩,xw,xf⟩ g).code=g.fdE xa xi 2 from rfl,show GOp.doG c.wd ⟨7,xa,xb,xi,⟨hp,hf,hk⟩,xw,xf⟩ g=g.wrG xa xi 2 xf from rfl];have HC:=ι (HM.o.hv.setF xa xi X);clear Y X;go_enter func98,ntmps98;go_upto_region 1 with(fail);rw[<-HW.o];clear HW;go_wp2_with(go_at_call 50;refine HC.o.mono ?_;intro e w5 ho;have hn:=HM.o.op ho;clear ho;obtain⟨rfl,HE⟩:=hn);go_ret;exact HE.o
 ·rw[show (GOp.doR c.wd ⟨8,xa,xb,xi,⟨hp,hf,hk⟩,xw,xf⟩ g).code=g.two xa xb 0 from rfl,show GOp.doG c.wd ⟨8,xa,xb,xi,⟨hp,hf,hk⟩,xw,xf⟩ g=g.cpG xa xb from rfl];have HC:=ι (HM.o.hv.copy xa xb);clear Y X;go_enter func98,ntmps98;go_upto_region 1 with(fail);rw[<-HW.o];clear HW;go_wp2_with(go_at_call 54;refine HC.o.mono ?_;intro e w5 ho;have hn:=HM.o.op ho;clear ho;obtain⟨rfl,HE⟩:=hn);go_ret;exact HE.o
 ·rw[show (GOp.doR c.wd ⟨9,xa,xb,xi,⟨hp,hf,hk⟩,xw,xf⟩ g).code=g.slE xa from rfl,show GOp.doG c.wd ⟨9,xa,xb,xi,⟨hp,hf,hk⟩,xw,xf⟩ g=g.clG xa from rfl];have HC:=ι (HM.o.hv.clr xa);clear Y X;go_enter func98,ntmps98;go_upto_region 1 with(fail);rw[<-HW.o];clear HW;go_wp2_with(go_at_call 46;refine HC.o.mono ?_;intro e w5 ho;have hn:=HM.o.op ho;clear ho;obtain⟨rfl,HE⟩:=hn);go_ret;exact HE.o
 ·rw[show (GOp.doR c.wd ⟨15,xa,xb,xi,⟨hp,hf,hk⟩,xw,xf⟩ g).code=0 from rfl,show GOp.doG c.wd ⟨15,xa,xb,xi,⟨hp,hf,hk⟩,xw,xf⟩ g=g from rfl];have HC:=ι (HM.o.hv.coll);clear Y X;go_enter func98,ntmps98;go_upto_region 1 with(fail);rw[<-HW.o];clear HW;go_wp2_with(go_at_call 39;refine HC.o.mono ?_;intro e w5 ho;have hn:=HM.o.op ho;clear ho;obtain⟨rfl,HE⟩:=hn);go_ret;exact HE.o.as
 ·rw[show (GOp.doR c.wd ⟨16,xa,xb,xi,⟨hp,hf,hk⟩,xw,xf⟩ g).code=0 from rfl,show GOp.doG c.wd ⟨16,xa,xb,xi,⟨hp,hf,hk⟩,xw,xf⟩ g=g from rfl];have HC:=ι (HM.o.hv.start);clear Y X;go_enter func98,ntmps98;go_upto_region 1 with(fail);rw[<-HW.o];clear HW;go_wp2_with(go_at_call 31;refine HC.o.mono ?_;intro e w5 ho;have hn:=HM.o.op ho;clear ho;obtain⟨rfl,HE⟩:=hn);go_ret;exact HE.o.as
 ·rw[show (GOp.doR c.wd ⟨17,xa,xb,xi,⟨hp,hf,hk⟩,xw,xf⟩ g).code=0 from rfl,show GOp.doG c.wd ⟨17,xa,xb,xi,⟨hp,hf,hk⟩,xw,xf⟩ g=g from rfl];have HC:=ι (HM.o.hv.step);clear Y X;go_enter func98,ntmps98;go_upto_region 1 with(fail);rw[<-HW.o];clear HW;go_wp2_with(go_at_call 19;refine HC.o.mono ?_;rintro e w5 ⟨bb,ho⟩;have hn:=HM.o.op ho;clear ho;obtain⟨rfl,HE⟩:=hn);go_ret;exact HE.o.as
 ·have J:GOp.doR c.wd ⟨kd,xa,xb,xi,⟨hp,hf,hk⟩,xw,xf⟩ g=.no 24:=by unfold GOp.doR;dsimp only;rw[ψ Ω];rw[ψ Ω];rw[ψ Ω];rw[ψ Ω];rw[ψ Ω];rw[ψ Ω];rw[ψ Ω];rw[ψ Ω];rw[ψ Ω];rw[ψ Ω];rw[ψ Ω];rw[ψ Ω];rw[ψ Ω];rw[ψ Ω];rw[ψ Ω]
  have Z:GOp.doG c.wd ⟨kd,xa,xb,xi,⟨hp,hf,hk⟩,xw,xf⟩ g=g:=by unfold GOp.doG;dsimp only;rw[ψ Ω];rw[ψ Ω];rw[ψ Ω];rw[ψ Ω];rw[ψ Ω];rw[ψ Ω];rw[ψ Ω]
  rw[J,Z];have d1:(kd==1)=false:=by rw[ζj];omega
  have d2:(kd==2)=false:=by rw[ζj];omega
  have d3:(kd==3)=false:=by rw[ζj];omega
  have d5:(kd==5)=false:=by rw[ζj];omega
  have d7:(kd==7)=false:=by rw[ζj];omega
  have d8:(kd==8)=false:=by rw[ζj];omega
  have d9:(kd==9)=false:=by rw[ζj];omega
  have d15:(kd==15)=false:=by rw[ζj];omega
  have d16:(kd==16)=false:=by rw[ζj];omega
  have d17:(kd==17)=false:=by rw[ζj];omega
  clear J Z V Y X;go_enter func98,ntmps98;go_upto_region 1 with(fail);rw[<-HW.o];clear HW;go_wp2;go_ret;exact HM.o.done _
theorem XbQ(h:x.kd=4\/x.kd=6\/x.kd=10\/x.kd=11\/x.kd=12\/x.kd=13\/x.kd=14):x.doG C g=g:=by
 unfold GOp.doG;rw[ψ Ω];rw[ψ Ω];rw[ψ Ω];rw[ψ Ω];rw[ψ Ω];rw[ψ Ω];rw[ψ Ω]
theorem Jf8(hno:x.kd<1\/17<x.kd):x.doR C g=.no 24:=by
 unfold GOp.doR;rw[ψ Ω];rw[ψ Ω];rw[ψ Ω];rw[ψ Ω];rw[ψ Ω];rw[ψ Ω];rw[ψ Ω];rw[ψ Ω];rw[ψ Ω];rw[ψ Ω];rw[ψ Ω];rw[ψ Ω];rw[ψ Ω];rw[ψ Ω];rw[ψ Ω]
theorem Y1L(h:¬(x.kd=4\/x.kd=6\/(10<=x.kd/\x.kd<=14))):x.doR C g=.no (x.doR C g).code:=by
 obtain⟨kd,xa,xb,xi,xh,xw,xf⟩:=x;dsimp only at h;have Y:kd=1\/kd=2\/kd=3\/kd=5\/kd=7\/kd=8\/kd=9\/kd=15\/kd=16\/kd=17\/(kd<1\/17<kd):=Ω
 rcases Y with rfl|rfl|rfl|rfl|rfl|rfl|rfl|rfl|rfl|rfl|X
 all_goals first
  | rfl
  | (rw[Jf8 (x:=⟨kd,xa,xb,xi,xh,xw,xf⟩) X];rfl)
theorem VWw(h:HLv w0 K c hb g w)(ht:1<w0.heap.size)(x:GOp)(hx:x.Bd)(hkk:x.kd=4\/x.kd=6\/x.kd=10\/x.kd=11\/x.kd=12\/x.kd=13\/x.kd=14):Calls prog 37 #[pP hb,.agg (C1 x)] w (HLo w0 K c hb w (FY (x.doR c.wd g)) (x.doG c.wd g)):=by
 rw[XbQ hkk];obtain⟨w2,Z,hm⟩:=C9.new h x;have HW:=ι Z;have HM:=ι hm;have U:=ι h.gr.size;have J:=ι ht;have V:=ι h.kl;have M:=ι hm.hv.isnt;have k0:=hm.o.cc 0;have k1:=hm.o.cc 1;have k2:=hm.o.cc 2;have k3:=hm.o.cc 3;have k4:=hm.o.cc 4;have k5:=hm.o.cc 5;have k6:=hm.o.cc 6;have k7:=hm.o.cc 7;have k8:=hm.o.cc 8;have j0:=hm.q.cc 0;have j1:=hm.q.cc 1;have j2:=hm.q.cc 2;have j3:=hm.q.cc 3;have j4:=hm.q.cc 4;have j5:=hm.q.cc 5;have j6:=hm.q.cc 6;have jf:=hm.q.free;have jl:=hm.q.lt;have kl:=hm.o.lt;have HC:=ι (Q4h hm.hv ht x hx hkk);generalize x.doR c.wd g=re at HC⊢;obtain⟨kd,xa,xb,xi,⟨hp,hf,hk⟩,xw,xf⟩:=x;unfold C1 at HW HC⊢;dsimp only at HW HC k0 k1 k2 k3 k4 k5 k6 k7 k8⊢;unfold FY FB at HC;clear h hm Z hx hkk ht;go_enter func37,ntmps37;go_upto_region 1 with(fail);rw[<-HW.o];clear HW
 go_wp2_with(first
  | (go_at_call 63;refine AJ M.o ?_)
  | (go_at_call 97;refine HC.o.mono ?_;intro e w3 ho;have hn:=HM.o.op ho;clear ho;obtain⟨rfl,hm⟩:=hn;have X:=ι hm;have j0:=X.o.q.cc 0;have j1:=X.o.q.cc 1;have j2:=X.o.q.cc 2;have j3:=X.o.q.cc 3;have j4:=X.o.q.cc 4;have j5:=X.o.q.cc 5;have j6:=X.o.q.cc 6;have jf:=X.o.q.free;have jl:=X.o.q.lt;clear hm))
 have HS:=X.o.put U.o J.o V.o re;have Y:=HS.gr ((Gr.refl _).alloc (.cells #[.int .i64 re.code,.bool re.is,.int .i64 re.n,.int .u64 (re.wd:Nat),.int .i64 re.h.p,.int .i64 re.h.f,.int .i64 re.h.k] 84));have hl:=PU Y.q;refine ζH (v:=FY re) ?_ rfl ⟨rfl,Y.fin.1,Y.fin.2⟩;simp[results,results37,asAddr,hl]
theorem J8P(h:HLv w0 K c hb g w)(ht:1<w0.heap.size)(x:GOp)(hx:x.Bd)(hkk:¬(x.kd=4\/x.kd=6\/(10<=x.kd/\x.kd<=14))):Calls prog 37 #[pP hb,.agg (C1 x)] w (HLo w0 K c hb w (FY (x.doR c.wd g)) (x.doG c.wd g)):=by
 rw[Y1L (C:=c.wd) (g:=g) hkk];obtain⟨w2,J,hm⟩:=C9.new h x;have HW:=ι J;have HM:=ι hm;have M:=ι h.gr.size;have U:=ι ht;have O:=ι h.kl;have I:=ι hm.hv.isnt;have k0:=hm.o.cc 0;have k1:=hm.o.cc 1;have k2:=hm.o.cc 2;have k3:=hm.o.cc 3;have k4:=hm.o.cc 4;have k5:=hm.o.cc 5;have k6:=hm.o.cc 6;have k7:=hm.o.cc 7;have k8:=hm.o.cc 8;have j0:=hm.q.cc 0;have j1:=hm.q.cc 1;have j2:=hm.q.cc 2;have j3:=hm.q.cc 3;have j4:=hm.q.cc 4;have j5:=hm.q.cc 5;have j6:=hm.q.cc 6;have jf:=hm.q.free;have jl:=hm.q.lt;have kl:=hm.o.lt;have HC:=ι (Y5B hm.hv ht x hkk);have HU:=ι (λW (hW:C9 w0 w K c hb g x (.no 0) W)=>QJf hW.hv x hx hkk);generalize (x.doR c.wd g).code=cd at HU⊢;generalize x.doG c.wd g=g2 at HU⊢;obtain⟨kd,xa,xb,xi,⟨hp,hf,hk⟩,xw,xf⟩:=x;unfold C1 at HW HC HU⊢;dsimp only at HW HC HU k0 k1 k2 k3 k4 k5 k6 k7 k8⊢;unfold FY FB GRe.no at HC;clear h hm J hx hkk ht;go_enter func37,ntmps37;go_upto_region 1 with(fail);rw[<-HW.o];clear HW
 go_upto_region 6 with(first
  | (go_at_call 63;refine AJ I.o ?_)
  | (go_at_call 97;refine HC.o.mono ?_;intro e w3 ho;have hn:=HM.o.op ho;clear ho;obtain⟨rfl,hm⟩:=hn;have V:=ι hm;clear hm))
 obtain⟨w4,Z⟩:∃w4,w4=w3.alloc (.cells #[.int .i64 0,.bool false,.int .i64 0,.int .u64 0,.int .i64 0,.int .i64 0,.int .i64 0] 84):=⟨_,rfl⟩;have X:Hid (C9 w0 w K c hb g ⟨kd,xa,xb,xi,⟨hp,hf,hk⟩,xw,xf⟩ (.no 0) w4):=⟨by rw[Z];exact V.o.gr ((Gr.refl w3).alloc _)⟩;rw[<-Z];obtain⟨k0,k1,k2,k3,k4,k5,k6,k7,k8,kl⟩:=X.o.o.k9;clear Z;have N:=ι (HU.o _ X.o);go_wp2_with(go_at_call 98;refine N.o.mono ?_;intro e w5 ho;have hn:=X.o.op ho;clear ho;obtain⟨rfl,hm⟩:=hn;have Y:=ι hm;have j0:=Y.o.q.cc 0;have j1:=Y.o.q.cc 1;have j2:=Y.o.q.cc 2;have j3:=Y.o.q.cc 3;have j4:=Y.o.q.cc 4;have j5:=Y.o.q.cc 5;have j6:=Y.o.q.cc 6;have jf:=Y.o.q.free;have jl:=Y.o.q.lt;clear hm);have HS:=Y.o.put M.o U.o O.o (.no cd);have hl:=PU HS.q;have e0:((0:Nat):Int)=0:=rfl;simp only[GRe.no,e0]at hl;refine ζH (v:=FY (.no cd)) ?_ rfl ⟨rfl,HS.fin.1,HS.fin.2⟩;simp[results,results37,asAddr,hl,GRe.no]
theorem HLv.do(h:HLv w0 K c hb g w)(ht:1<w0.heap.size)(x:GOp)(hx:x.Bd):Calls prog 37 #[pP hb,.agg (C1 x)] w (HLo w0 K c hb w (FY (x.doR c.wd g)) (x.doG c.wd g)):=by
 by_cases hk:x.kd=4\/x.kd=6\/x.kd=10\/x.kd=11\/x.kd=12\/x.kd=13\/x.kd=14
 ·exact VWw h ht x hx hk
 ·exact J8P h ht x hx Ω
theorem Qci{b:Nat}{c:CfI}(h:Rec W b 24 (ET c)):W.cell? ⟨b,0,none⟩=some (iI c.kd)/\W.cell? ⟨b,1,none⟩=some (iI c.pg)/\W.cell? ⟨b,2,none⟩=some (iI c.bk)/\W.cell? ⟨b,3,none⟩=some (iI c.wd)/\W.cell? ⟨b,4,none⟩=some (iI c.sl)/\W.cell? ⟨b,5,none⟩=some (iI c.st)/\W.cell? ⟨b,6,none⟩=some (iI c.ah)/\W.cell? ⟨b,7,none⟩=some (.float .f64 c.tr)/\b<W.heap.size:=
 ⟨h.cc 0,h.cc 1,h.cc 2,h.cc 3,h.cc 4,h.cc 5,h.cc 6,h.cc 7,h.lt⟩
theorem YUJ(c:CfI)(hn:n<=120)(A:Option Addr)(cap:Nat)(w:World):Calls prog 10 #[c.V,.slice A n cap] w λe w'=>e=.returned (.bool (decide (2048<c.wd)))/\Gr w w':=by
 have hr:=Rec.new w 24 (ET c);have HG:=ι ((Gr.refl w).alloc (.cells (ET c).toArray 24));have c3:=hr.cc 3;have cl:=hr.lt;have hd:decide ((120:Int)<(n:Int))=false:=ζ Ω;unfold CfI.V;unfold ET at c3 cl HG;clear hr hn;cases hb:decide ((2048:Int)<c.wd)
 all_goals
  go_enter func10,ntmps10;go_wp2;go_ret;exact⟨rfl,HG.o⟩
def IV(k:Int):CfI:=⟨k,4,4,16,3,2,1,4607182418800017408⟩
theorem XK4(k:Int)(w:World):Calls prog 96 #[iI k] w λe w'=>e=.returned (IV k).V/\Gr w w':=by
 unfold CfI.V IV;have hsf:=Qwi;have hr:=Rec.new w 24 [iI k,iI 4,iI 4,iI 16,iI 3,iI 2,iI 1,.float .f64 4607182418800017408];have HL:=ι (WD hr (by kernel_rfl) (by kernel_rfl));clear hr;go_enter func96,ntmps96;go_wp2;have hl:=HL.o;refine ζH (v:=.agg #[iI k,iI 4,iI 4,iI 16,iI 3,iI 2,iI 1,.float .f64 4607182418800017408]) ?_ rfl ⟨rfl,(Gr.refl w).alloc _⟩;simp[results,results96,asAddr,hl]
def x7:Hdr:=⟨0,0,7⟩
def Q5:Gph:=Gph.nil 3
def TB:Gph:=Q5.alG 16 0 x7
def UB:Gph:=TB.alG 16 1 x7
def TH:Gph:=UB.alG 16 2 x7
def Z2:Gph:=TH.clG 0
theorem JK1:Q5.alE 16 0 x7=0/\TB.alE 16 1 x7=0/\UB.alE 16 2 x7=21/\TH.slE 0=0/\Z2.alE 16 2 x7=0:=by decide +kernel
theorem V6:(IV 1).may=true/\(IV 2).may=true/\(IV 3).may=true:=by decide +kernel
theorem Zse(w:World)(hT:AP w):Calls prog 36 #[] w λe w'=>e=.returned (.bool true)/\Gr w w':=by
 have HT:=ι hT;have hx:=JK1;have Xo:=ι hx.1;have Xf:=ι hx.2.1;have Xe:=ι hx.2.2.1;have Xp:=ι hx.2.2.2.1;have Xn:=ι hx.2.2.2.2;clear hT hx;go_enter func36,ntmps36;go_wp2
 go_loopw [1] (λs1 wr=>∃k:Nat,1<=k/\k<=4/\Hid (Gr w wr)/\s1=iI k) (λs1 _=>5-(intOf s1).toNat)
 case atStart=>exact⟨1,κ _,by omega,⟨Gr.refl w⟩,rfl⟩
 case round=>
  obtain⟨k,hk1,hk4,HG,rfl⟩:=hrel;by_cases hlast:k<=3
  ·have Xk:(k:Int)<=3:=Ω
   have hm:(IV k).may=true:=by
    rcases(by omega:k=1\/k=2\/k=3)with rfl|rfl|rfl
    ·exact V6.1
    ·exact V6.2.1
    ·exact V6.2.2
   have U:=ι (λ(W:World) (gg:Gr w W)=>Xcy (IV k) ⟨by show (4:Int)<=_;decide,by show (4:Int)<=_;decide,by show (16:Int)<=_;decide⟩ hm W (gg.tab HT.o.lt HT.o));obtain⟨d,hd⟩:∃d,d=(IV k).nat:=⟨_,rfl⟩;have HD:Hid (d.wd=16/\d.sl=3):=⟨by rw[hd];exact⟨rfl,rfl⟩⟩;rw[<-hd]at U;have O:=ι (λ(W:World)=>XK4 k W);obtain⟨cv,hcv⟩:∃cv,cv=(IV k).V:=⟨_,rfl⟩;rw[<-hcv]at U O;clear hm hd hcv
   go_upto_region 5 with(first
    | (go_at_call 96;refine(O.o _).mono ?_;rintro e w1 ⟨rfl,hg⟩;have Xa:=ι (HG.o.trans hg);clear hg)
    | (go_at_call 12;refine(U.o _ Xa.o).mono ?_;rintro e w2 ⟨s,rfl,hn⟩;have HN:=ι hn;clear hn))
   have J:=HLv.new HN.o;obtain⟨hb,G⟩:∃hb,hb=s.A.hp:=⟨_,rfl⟩;rw[<-G]at J⊢;have X:=Rec.new w2 64 [iI 0,iI 0,iI 7];have M:=(Gr.refl w2).alloc (.cells #[.int .i64 0,.int .i64 0,.int .i64 7] 64);have D:=π w2 (.cells #[.int .i64 0,.int .i64 0,.int .i64 7] 64);go_upto_region 6 with(fail);obtain⟨w3,I⟩:∃w3,w3=w2.alloc (.cells #[.int .i64 0,.int .i64 0,.int .i64 7] 64):=⟨_,rfl⟩;rw[<-I]at X M D⊢;obtain⟨xb,E⟩:∃xb,xb=w2.heap.size:=⟨_,rfl⟩;rw[<-E]at X⊢;have N:=J.own (K':=λk=>k=xb) M (λk hk=>.inr (by have hk:k=xb:=hk;omega));rw[HD.o.2]at N;have Xj:Hid (HLv w1 (λk=>k=xb) d hb Q5 w3):=⟨N⟩;have HR:=ι X;have Y:Hid (¬hlT w1 (λk=>k=xb) xb):=⟨λh=>h.2 rfl⟩;obtain⟨y0,y1,y2,yl⟩:=X.k3
   have Z:Hid (∀(W:World) (g:Gph) (a:Int),HLv w1 (λk=>k=xb) d hb g W->Calls prog 26 #[pP hb,iI a,.agg #[iI 0,iI 0,iI 7]] W λe w'=>e=.returned (iI (g.alE 16 a x7))/\AB (hlT w1 (λk=>k=xb)) W w'/\HLv w1 (λk=>k=xb) d hb (g.alG 16 a x7) w'):=⟨λW g a h=>by
    have:=h.alloc a x7;rw[HD.o.1]at this
    exact this⟩
   have Xm:Hid (∀(W:World) (g:Gph) (a:Int),HLv w1 (λk=>k=xb) d hb g W->Calls prog 46 #[pP hb,iI a] W λe w'=>e=.returned (iI (g.slE a))/\AB (hlT w1 (λk=>k=xb)) W w'/\HLv w1 (λk=>k=xb) d hb (g.clG a) w'):=⟨λW g a h=>h.clear a⟩;clear J G X M D I E N
   go_wp2_with(first
    | (have hm:=Xd.o;go_at_call 26;refine(Z.o _ Z2 2 hm).mono ?_;rintro e w8 ⟨rfl,ht,hl⟩;rw[Xn.o];have Xl:=ι hl;have HT5:=ι ((B.o.trans ht));have rr:=HR.o.touch (B.o.trans ht) Y.o;obtain⟨y0,y1,y2,yl⟩:=rr.k3;clear rr;clear ht hl hm)
    | (have hm:=Xi.o;go_at_call 46;refine(Xm.o _ TH 0 hm).mono ?_;rintro e w7 ⟨rfl,ht,hl⟩;rw[Xp.o];have Xd:=ι hl;have B:=ι ((Xc.o.trans ht));have rr:=HR.o.touch (Xc.o.trans ht) Y.o;obtain⟨y0,y1,y2,yl⟩:=rr.k3;clear rr;clear ht hl hm)
    | (have hm:=Xh.o;go_at_call 26;refine(Z.o _ UB 2 hm).mono ?_;rintro e w6 ⟨rfl,ht,hl⟩;rw[Xe.o];have Xi:=ι hl;have Xc:=ι ((Xb.o.trans ht));have rr:=HR.o.touch (Xb.o.trans ht) Y.o;obtain⟨y0,y1,y2,yl⟩:=rr.k3;clear rr;clear ht hl hm)
    | (have hm:=Xg.o;go_at_call 26;refine(Z.o _ TB 1 hm).mono ?_;rintro e w5 ⟨rfl,ht,hl⟩;rw[Xf.o];have Xh:=ι hl;have Xb:=ι ((L.o.trans ht));have rr:=HR.o.touch (L.o.trans ht) Y.o;obtain⟨y0,y1,y2,yl⟩:=rr.k3;clear rr;clear ht hl hm)
    | (have hm:=Xj.o;go_at_call 26;refine(Z.o _ Q5 0 hm).mono ?_;rintro e w4 ⟨rfl,ht,hl⟩;rw[Xo.o];have Xg:=ι hl;have L:=ι (ht);have rr:=HR.o.touch ht Y.o;obtain⟨y0,y1,y2,yl⟩:=rr.k3;clear rr;clear ht hl hm))
   go_round
   case rel=>exact⟨k+1,by omega,by omega,⟨Xa.o.trans Xl.o.gr⟩,by go_num⟩
   case measure=>simp[intOf];omega
  ·have Xk:¬(k:Int)<=3:=Ω
   go_wp2;go_ret;exact⟨rfl,HG.o⟩
theorem QRE(c:CfI)(hn:120<n)(A:Option Addr)(cap:Nat)(w:World):Calls prog 10 #[c.V,.slice A n cap] w λe w'=>e=.returned (.bool true)/\Gr w w':=by
 have hr:=Rec.new w 24 (ET c);have HG:=ι ((Gr.refl w).alloc (.cells (ET c).toArray 24));have c3:=hr.cc 3;have cl:=hr.lt;have hd:decide ((120:Int)<(n:Int))=true:=φ Ω;unfold CfI.V;unfold ET at c3 cl HG;clear hr hn;cases hb:decide ((2048:Int)<c.wd)
 all_goals
  go_enter func10,ntmps10;go_wp2;go_ret;exact⟨rfl,HG.o⟩
theorem JQZ(C:Nat)(g:Gph)(a:Int)(h:Hdr):g.alE C a h=17\/g.alE C a h=15\/((∃p f k:Nat,h=⟨p,f,k⟩/\p+f+k<=255/\BL h=1+p+f+k)/\((g.alE C a h=21/\(C:Int)<g.words+BL h)\/(g.alE C a h=0/\¬(C:Int)<g.words+BL h))):=by
 unfold Gph.alE;by_cases h1:g.sl a=true
 ·rw[θ h1];by_cases h2:CQ h≠0
  ·rw[θ h2];exact .inr (.inl rfl)
  ·rw[ψ h2];have h3:CQ h=0:=Ω
   have hN:BL h=1+h.p+h.f+h.k:=θ h3
   have hb:(inS h.p&&inS h.f&&inS h.k&&decide (h.p+h.f+h.k<256))=true:=by
    unfold CQ at h3;by_cases e:(inS h.p&&inS h.f&&inS h.k&&decide (h.p+h.f+h.k<256))=true
    ·exact e
    ·rw[ψ e]at h3;omega
   simp only[ζb,inS,ζd]at hb;obtain⟨p,f,k⟩:=h;dsimp only at hb hN;have hx:∃p' f' k':Nat,(⟨p,f,k⟩:Hdr)=⟨p',f',k'⟩/\p' + f' + k'<=255/\BL ⟨p,f,k⟩=1+p' + f' + k':=⟨p.toNat,f.toNat,k.toNat,by rw[Hdr.mk.injEq];omega,by omega,by omega⟩;refine .inr (.inr ⟨hx,?_⟩);by_cases h4:(C:Int)<g.words+BL ⟨p,f,k⟩
   ·exact .inl ⟨θ h4,h4⟩
   ·exact .inr ⟨ψ h4,h4⟩
 ·rw[ψ h1];exact .inl rfl
theorem JYr(hT:AP w)(c:CfI)(hc:c.Bd){A:Option Addr}{cap:Nat}{l:List GOp}(hA:LZ w A l):Calls prog 7 #[c.V,.slice A l.length cap] w λe w'=>e=.returned (.bool true)/\Gr w w':=by
 obtain⟨w1,Xt⟩:∃w1,w1=w.alloc (.cells (ET c).toArray 24):=⟨_,rfl⟩;have Xu:Hid (Gr w w1):=⟨by rw[Xt];exact(Gr.refl w).alloc _⟩;have Xl:Hid (Rec w1 w.heap.size 24 (ET c)):=⟨by rw[Xt];exact Rec.new w _ (ET c)⟩;have HL:=ι (λ(V:World) (g:Gr w V)=>Zse V (g.tab hT.lt hT));have Yd:Hid (∀V,Gr w V->1<V.heap.size):=⟨λV g=>ϑ hT.lt g.size⟩;have Xb:=ι Xt;have HA:=ι hA;obtain⟨N,hN⟩:∃N,N=l.length:=⟨_,rfl⟩;have HN:=ι hN;rw[<-hN];have Yb:=ι (λ(V:World) (g:Gr w1 V)=>Qci (Xl.o.gr g));obtain⟨b0,b1,b2,b3,b4,b5,b6,b7,bl⟩:=Qci Xl.o;have G:Hid (∀V,Gr w V->c.may=true->Calls prog 12 #[c.V] V λe w'=>∃s,e=.returned (.tuple #[pP s.A.hp,iI 0])/\XZ V c.nat s w'):=⟨λV g hm=>Xcy c hc hm V (g.tab hT.lt hT)⟩;have Xi:=ι (λ(V:World) hm=>YnZ c hc hm V);clear Xt hA hN hc
 have Ys:(∀V,Calls prog 10 #[c.V,.slice A N cap] V λe w'=>e=.returned (.bool true)/\Gr V w')\/(N<=120/\c.wd<=2048/\∀V,Calls prog 10 #[c.V,.slice A N cap] V λe w'=>e=.returned (.bool false)/\Gr V w'):=by
  by_cases h1:120<N
  ·exact .inl (λV=>QRE c h1 A cap V)
  ·by_cases h2:2048<c.wd
   ·exact .inl (λV=>by have:=YUJ c (n:=N) Ω A cap V;rw[φ h2]at this;exact this)
   ·exact .inr ⟨by omega,by omega,λV=>by have:=YUJ c (n:=N) Ω A cap V;rw[ζ h2]at this;exact this⟩
 rcases Ys with Xg|⟨hn,hf,Xg⟩
 ·have E:=ι Xg;unfold CfI.V at E⊢;unfold ET at Xb;clear Xg;go_enter func7,ntmps7;go_upto_region 1 with(fail);rw[<-Xb.o]
  go_wp2_with(first
   | (go_at_call 10;refine(E.o _).mono ?_;rintro e w2 ⟨rfl,hg⟩;have L:=ι (Xu.o.trans hg);clear hg)
   | (go_at_call 36;refine(HL.o _ L.o).mono ?_;rintro e w3 ⟨rfl,hg⟩;have Xr:=ι (L.o.trans hg);clear hg))
  go_ret;exact⟨rfl,Xr.o⟩
 have E:=ι Xg;clear Xg;by_cases hm:c.may=true
 case neg=>
  have Xi:=ι (λV=>Xi.o V (by simpa using hm));unfold CfI.V at E Xi⊢;unfold ET at Xb;clear hf hn hm G;go_enter func7,ntmps7;go_upto_region 1 with(fail);rw[<-Xb.o]
  go_wp2_with(first
   | (go_at_call 10;refine(E.o _).mono ?_;rintro e w2 ⟨rfl,hg⟩;have L:=ι hg;obtain⟨a0,a1,a2,a3,a4,a5,a6,a7,al⟩:=Yb.o _ hg;clear hg)
   | (go_at_call 12;refine(Xi.o _).mono ?_;rintro e w3 ⟨rfl,hg⟩;have Xr:=ι ((Xu.o.trans L.o).trans hg);clear hg)
   | (go_at_call 36;refine(HL.o _ Xr.o).mono ?_;rintro e w4 ⟨rfl,hg⟩;have Zk:=ι (Xr.o.trans hg);clear hg))
  go_ret;exact⟨rfl,Zk.o⟩
 obtain⟨d,hd⟩:∃d,d=c.nat:=⟨_,rfl⟩;have Yp:=CfI.base_in (c:=c) (by unfold CfI.may at hm;simp at hm;exact hm.1);have Yc:c.wd=(d.wd:Int):=by rw[hd];exact(ξG (by have:=IP Yp.1.2.2.2.2.1;omega)).symm
 have G:=ι (λV g=>G.o V g hm);rw[<-hd]at G;have Yj:Hid (∀V,Gr w1 V->V.cell? ⟨w.heap.size,3,none⟩=some (iI (d.wd:Nat))/\w.heap.size<V.heap.size):=⟨λV g=>⟨by rw[<-Yc];exact(Xl.o.gr g).cell (j:=3) rfl,(Xl.o.gr g).lt⟩⟩;rw[Yc]at hf;have HD:Hid (d.wd<=2048):=⟨by omega⟩;unfold CfI.V at E G⊢;unfold ET at Xb;clear hf hm Xi Yp Yc hd;go_enter func7,ntmps7;go_upto_region 1 with(fail);rw[<-Xb.o]
 go_upto_region 4 with(first
  | (go_at_call 10;refine(E.o _).mono ?_;rintro e w2 ⟨rfl,hg⟩;have L:=ι hg;obtain⟨a0,a1,a2,a3,a4,a5,a6,a7,al⟩:=Yb.o _ hg;clear hg)
  | (go_at_call 12;refine(G.o _ (Xu.o.trans L.o)).mono ?_;rintro e w3 ⟨s,rfl,hn⟩;have Yq:=ι hn;clear hn))
 have Xd:=ι (Xu.o.trans L.o);have hv:=HLv.new Yq.o;obtain⟨hb,Yz⟩:∃hb,hb=s.A.hp:=⟨_,rfl⟩;rw[<-Yz]at hv⊢;have HV:=ι hv;have Zc:=ι (Yd.o _ Xd.o);have Xm:Hid (∀V,Gr w2 V->V.cell? ⟨w.heap.size,3,none⟩=some (iI (d.wd:Nat))/\w.heap.size<V.heap.size):=⟨λV g=>Yj.o V (L.o.trans g)⟩;obtain⟨cb,Ye⟩:∃cb,cb=w.heap.size:=⟨_,rfl⟩;rw[<-Ye]at Xm⊢;have Zh:Hid (∀V,Gr w2 V->LZ V A l):=⟨λV g=>HA.o.gr (Xd.o.trans g)⟩;have Zf:=ι (λ(V:World) (g:Gr w2 V)=>HL.o V (Xd.o.trans g));clear hv Yz Ye Yq b0 b1 b2 b3 b4 b5 b6 b7 bl a0 a1 a2 a3 a4 a5 a6 a7 al Yj Xl Yb G E Xb Yd;go_wp2
 go_loopw [26] (λs26 wr=>∃(i:Nat) (g:Gph),i<=N/\s26=iI i/\Hid (HLv w2 (λ_=>False) d hb g wr)) (λs26 _=>N-(intOf s26).toNat)
 case atStart=>exact⟨0,_,ζg _,rfl,HV⟩
 case round=>
  clear HV;obtain⟨i,g,hi,rfl,HV⟩:=hrel;by_cases B:i<N
  ·have Ze:(i:Int)<(N:Int):=Ω
   have Yy:i<l.length:=by rw[<-HN.o];exact B
   have M:=ι B;obtain⟨Xv,bb,o,rfl,Zi,c0,c1,c2,c3,c4,c5,c6,c7,c8⟩:=(Zh.o _ HV.o.gr) i Yy;generalize l[i]=x at Xv c0 c1 c2 c3 c4 c5 c6 c7 c8;have Zd:=ι Xv;obtain⟨r,hr⟩:∃r,r=x.doR d.wd g:=⟨_,rfl⟩;have Xf:=ι (λ(V:World) (K:Nat->Prop) (h:HLv w2 K d hb g V)=>h.do Zc.o x Xv);rw[<-hr]at Xf;have Xc:=ι (λ(h:x.kd=1)=>(show r.code=g.alE d.wd x.a x.h by rw[hr];unfold GOp.doR;rw[θ h];rfl));generalize x.doG d.wd g=g' at Xf;have Xe:=Rec.new wr 82 (opL x);obtain⟨wz,Xq⟩:∃wz,wz=wr.alloc (.cells (opL x).toArray 82):=⟨_,rfl⟩;have Yr:Hid (Gr wr wz):=⟨by rw[Xq];exact(Gr.refl wr).alloc _⟩;rw[<-Xq]at Xe;have Xn:=ι Xq;obtain⟨ob,Xo⟩:∃ob,ob=wr.heap.size:=⟨_,rfl⟩;rw[<-Xo]at Xe;have Yw:=ι Xo;have Xs:=ι Xe;have Yu:Hid (HLv w2 (λk=>k=ob) d hb g wz):=⟨HV.o.own Yr.o (λk e=>.inr (by have:=Xe.lt;rw[Xo]at e this;omega))⟩;obtain⟨kd,xa,xb,xi,⟨hp,Yl,hk⟩,xw,xf⟩:=x;obtain⟨U,is,rn,Xk,⟨r4,r5,r6⟩⟩:=r;unfold C1 FY FB at Xf;unfold opL at Xe Xs Xn;dsimp only at Xe Xs Xn Xf Xc c0 c1 c2 c3 c4 c5 c6 c7 c8;have Xj:=ι Yu.o.live;obtain⟨gw,Xx⟩:∃gw,gw=g.words:=⟨_,rfl⟩;rw[<-Xx]at Xj;have Ya:=ι Xx;clear Xx;clear Xv hr Xq Xo Yy;have Zg:=Qwi;go_upto_region 9 with(fail);rw[<-Xn.o,<-Yw.o];clear Zg;clear c0 c1 c2 c3 c4 c5 c6 c7 c8 Zi;go_upto_region 10 with(go_at_call 20;refine Xj.o.mono ?_;rintro e w4 ⟨rfl,Yo,Yh⟩;have Yt:=ι Yh;have J:=ι (Xs.o.touch Yo (λe=>e.2 rfl));obtain⟨y0,y1,y2,y3,y4,y5,y6,y7,y8,yl⟩:=J.o.k9;clear Yo Yh);go_upto_region 11 with(go_at_call 37;refine(Xf.o _ _ Yt.o).mono ?_;rintro e w5 ⟨rfl,Ym,Yv⟩;have Za:=ι Yv;have Yk:=ι (J.o.touch Ym (λe=>e.2 rfl));clear Ym Yv y0 y1 y2 y3 y4 y5 y6 y7 y8 yl);obtain⟨rb,Yn⟩:∃rb,rb=w5.heap.size:=⟨_,rfl⟩;have Xw:=Rec.new w5 84 [iI U,.bool is,iI rn,uU (Xk:Nat),iI r4,iI r5,iI r6];rw[<-Yn]at Xw⊢;obtain⟨wq,Xz⟩:∃wq,wq=w5.alloc (.cells #[.int .i64 U,.bool is,.int .i64 rn,.int .u64 (Xk:Nat),.int .i64 r4,.int .i64 r5,.int .i64 r6] 84):=⟨_,rfl⟩;rw[<-Xz]at Xw⊢;have Xy:Gr w5 wq:=by rw[Xz];exact(Gr.refl w5).alloc _
   have Z:Hid (Rec wq rb 84 [iI U,.bool is,iI rn,uU (Xk:Nat),iI r4,iI r5,iI r6]):=⟨Xw⟩;have Y:Hid (Rec wq ob 82 [iI kd,iI xa,iI xb,iI xi,iI hp,iI Yl,iI hk,uU (xw:Nat),.float .f64 xf]):=⟨Yk.o.gr Xy⟩;have I:Hid (HLv w2 (λ_=>False) d hb g' wq):=⟨Za.o.own Xy (λk e=>e.elim)⟩;have Yi:=ι HV.o.words_le;clear Yn Xw Xz Xy Yk Za J Yt Xs Yu Yr Xj Xf Xn Yw Zd;by_cases Yf:kd=1
   ·obtain rfl:=Yf;have D:=Xc.o rfl;rcases JQZ d.wd g xa ⟨hp,Yl,hk⟩with he|he|⟨⟨p,f,k,hh,hs,hz⟩,hc⟩
    ·rw[he]at D;obtain rfl:U=17:=D;have y0:=Y.o.cc 0;have yl:=Y.o.lt;have z0:=Z.o.cc 0;have zl:=Z.o.lt;clear he Xc;go_wp2;go_round
     case rel=>exact⟨i+1,g',M.o,by go_num,I⟩
     case measure=>have:=M.o;simp[intOf];omega
    ·rw[he]at D;obtain rfl:U=15:=D;have y0:=Y.o.cc 0;have yl:=Y.o.lt;have z0:=Z.o.cc 0;have zl:=Z.o.lt;clear he Xc;go_wp2;go_round
     case rel=>exact⟨i+1,g',M.o,by go_num,I⟩
     case measure=>have:=M.o;simp[intOf];omega
    ·rw[Hdr.mk.injEq]at hh;obtain⟨rfl,rfl,rfl⟩:=hh;have Xp:=λV=>QTR hs V;rw[hz]at Xp hc;obtain⟨zz,Zj⟩:∃zz:Nat,zz=1+p+f+k:=⟨_,rfl⟩;rw[show (1:Int)+p+f+k=(zz:Int)by omega]at Xp hc;have Yx:=ι Xp;rw[<-Ya.o]at hc;have Yg:=Yi.o;rw[<-Ya.o]at Yg;obtain⟨T,hT⟩:∃T,T=gw+zz:=⟨_,rfl⟩;have ew:wrap64 ((gw:Int)+(zz:Int))=(T:Int):=by rw[ψy _ Ω];omega
     clear Xp Zj hz hs Yg Ya Yi;rcases hc with⟨he,hl⟩|⟨he,hl⟩
     ·rw[he]at D;obtain rfl:U=21:=D;have y0:=Y.o.cc 0;have yl:=Y.o.lt;have z0:=Z.o.cc 0;have zl:=Z.o.lt;clear he Xc;have dT:decide ((d.wd:Int)<(T:Int))=true:=φ Ω;have dN:decide (d.wd<T)=true:=φ Ω;clear hT hl;go_upto_region 12 with(fail);clear z0 zl y0 yl;obtain⟨Sx,X,HS⟩:=AA.start λW'=>Rec W' ob 82 [iI 1,iI xa,iI xb,iI xi,iI (p:Nat),iI (f:Nat),iI (k:Nat),uU (xw:Nat),.float .f64 xf]/\Rec W' rb 84 [iI 21,.bool is,iI rn,uU (Xk:Nat),iI r4,iI r5,iI r6]/\W'.cell? ⟨cb,3,none⟩=some (iI (d.wd:Nat))/\cb<W'.heap.size;have q0:=AA.fact X λ_ h=>h.2.1.cell (j:=0) rfl;have q4:=AA.fact X λ_ h=>h.1.cell (j:=4) rfl;have q5:=AA.fact X λ_ h=>h.1.cell (j:=5) rfl;have q6:=AA.fact X λ_ h=>h.1.cell (j:=6) rfl;have q3:=AA.fact X λ_ h=>h.2.2.1;have ql:∀p:AA Sx,rb<p.w.heap.size:=λp=>by have h:=AA.get X p;exact h.2.1.lt
      have qo:∀p:AA Sx,ob<p.w.heap.size:=λp=>by have h:=AA.get X p;exact h.1.lt
      have qc:∀p:AA Sx,cb<p.w.heap.size:=λp=>by have h:=AA.get X p;exact h.2.2.2
      have Xa:=HS.o _ (⟨Y.o.gr (Gr.refl _).drew,Z.o.gr (Gr.refl _).drew,Xm.o _ (I.o.gr.trans (Gr.refl _).drew)⟩);have Xh:Inhabited (AA Sx):=⟨⟨_,Xa⟩⟩;clear X;refine BJ Sx 22 [([0,1,2,3,4,5,8,9],6)] [7,10,11,12,13,14,15,16,17,18,19,20,21] Xa ?_;refine AN ?_;go_wp2_with((go_at_call 38;refine(Yx.o _).mono ?_;rintro e w7 ⟨rfl,hg⟩;have O:=ι ((Gr.refl wq).drew.trans hg);clear hg));refine⟨.inr (AA.of (HS.o _ (⟨Y.o.gr O.o,Z.o.gr O.o,Xm.o _ (I.o.gr.trans O.o)⟩))),?_⟩;refine CR ?_;clear q0 q4 q5 q6 q3 ql qo qc Xa Xh;clear HS Sx;go_wp2;go_round
      case rel=>exact⟨i+1,g',M.o,by go_num,⟨I.o.get O.o⟩⟩
      case measure=>have:=M.o;simp[intOf];omega
     ·rw[he]at D;obtain rfl:U=0:=D;have y0:=Y.o.cc 0;have yl:=Y.o.lt;have z0:=Z.o.cc 0;have zl:=Z.o.lt;clear he Xc;have dT:decide ((d.wd:Int)<(T:Int))=false:=ζ Ω;have dN:decide (d.wd<T)=false:=ζ Ω;clear hT hl;go_upto_region 12 with(fail);clear z0 zl y0 yl;obtain⟨Sx,X,HS⟩:=AA.start λW'=>Rec W' ob 82 [iI 1,iI xa,iI xb,iI xi,iI (p:Nat),iI (f:Nat),iI (k:Nat),uU (xw:Nat),.float .f64 xf]/\Rec W' rb 84 [iI 0,.bool is,iI rn,uU (Xk:Nat),iI r4,iI r5,iI r6]/\W'.cell? ⟨cb,3,none⟩=some (iI (d.wd:Nat))/\cb<W'.heap.size;have q0:=AA.fact X λ_ h=>h.2.1.cell (j:=0) rfl;have q4:=AA.fact X λ_ h=>h.1.cell (j:=4) rfl;have q5:=AA.fact X λ_ h=>h.1.cell (j:=5) rfl;have q6:=AA.fact X λ_ h=>h.1.cell (j:=6) rfl;have q3:=AA.fact X λ_ h=>h.2.2.1;have ql:∀p:AA Sx,rb<p.w.heap.size:=λp=>by have h:=AA.get X p;exact h.2.1.lt
      have qo:∀p:AA Sx,ob<p.w.heap.size:=λp=>by have h:=AA.get X p;exact h.1.lt
      have qc:∀p:AA Sx,cb<p.w.heap.size:=λp=>by have h:=AA.get X p;exact h.2.2.2
      have Xa:=HS.o _ (⟨Y.o.gr (Gr.refl _).drew,Z.o.gr (Gr.refl _).drew,Xm.o _ (I.o.gr.trans (Gr.refl _).drew)⟩);have Xh:Inhabited (AA Sx):=⟨⟨_,Xa⟩⟩;clear X;refine BJ Sx 22 [([0,1,2,3,4,5,8,9],6)] [7,10,11,12,13,14,15,16,17,18,19,20,21] Xa ?_;refine AN ?_;go_wp2_with((go_at_call 38;refine(Yx.o _).mono ?_;rintro e w7 ⟨rfl,hg⟩;have O:=ι ((Gr.refl wq).drew.trans hg);clear hg));refine⟨.inr (AA.of (HS.o _ (⟨Y.o.gr O.o,Z.o.gr O.o,Xm.o _ (I.o.gr.trans O.o)⟩))),?_⟩;refine CR ?_;clear q0 q4 q5 q6 q3 ql qo qc Xa Xh;clear HS Sx;go_wp2;go_round
      case rel=>exact⟨i+1,g',M.o,by go_num,⟨I.o.get O.o⟩⟩
      case measure=>have:=M.o;simp[intOf];omega
   ·have e0:(kd==1)=false:=by rw[ζj];exact Yf
    have y0:=Y.o.cc 0;have yl:=Y.o.lt;have z0:=Z.o.cc 0;have zl:=Z.o.lt;clear Xc;go_wp2;go_round
    case rel=>exact⟨i+1,g',M.o,by go_num,I⟩
    case measure=>have:=M.o;simp[intOf];omega
  ·have Ze:¬(i:Int)<(N:Int):=Ω
   have HW:=ι HV.o.gr;clear hi B;go_wp2_with(go_at_call 36;refine(Zf.o _ HW.o).mono ?_;rintro e w8 ⟨rfl,hg⟩;have Zb:=ι hg;clear hg);go_ret;exact⟨rfl,(Xd.o.trans HW.o).trans Zb.o⟩
end Go.Proofs.YtbdimhlaaoadgaaGreatDoor
