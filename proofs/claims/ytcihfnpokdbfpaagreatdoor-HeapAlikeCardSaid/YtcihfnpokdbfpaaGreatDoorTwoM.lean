/- Lemmas. -/
import Derived.Test.YtcihfnpokdbfpaaGreatDoorTwoL
namespace Go.Proofs.YtcihfnpokdbfpaaGreatDoor
open _root_.Go.Proofs.Tryz
set_option maxHeartbeats 6400000
set_option maxRecDepth 100000
open Go.RowKit Go.Shelf Word
variable{d:CK}{e:Ending}{x:GOp}{re re':GRe}{g g':Gph}{c:HCf}{s:HSt}{z:Int}{T T':List Nat}{xs:List Value}{C E a b f hb k mb n nb nn p q r0 size:Nat}{F:Nat->Nat}{K:Nat->Prop}{gh gh':Option (Nat × Int)}{u v v' v1 v2 v3 v4 vN:Value}{W w w' w0 w1 w2 w5 wx:World}
theorem ZvI(h:HIn w c g s)(hn:s.o=none↔s.lf=0)(a:Int):Calls prog 144 #[pP s.A.hp,iI a] w λe w'=>e=.returned (.tuple #[.float .f64 (g.smV a),iI (g.shE a)])/\HOp w c s g w':=by
 have X:=ι (VcO h hn a);have Ya:=ι h.com.lt.2.2.2.2;by_cases he:g.shE a=0
 ·obtain⟨p,f,k,hh,N,l,hl,Xv,Xu⟩:=h.fls he;rw[Xv,he];obtain⟨rv,M⟩:=ε (LZ l);rw[<-M];have Xz:=ι M;clear M;rw[hh,he]at X;have L:=ι Xu;have HL:=ι hl;have Yb:=ι N;obtain⟨ap,hp⟩:=ε s.A.hp;have HP:=ι hp;rw[<-hp]at X⊢;have Xa:=ι (λ(W:World)=>XZg N W)
  have GF:Hid (∀(B:Nat->Prop) (W:World),D0 w c s g B W->∀i:Int,Calls prog 109 #[pP ap,iI a,iI i] W λe W'=>e=.returned (.tuple #[.float .f64 (g.fdV a i 2),iI (g.fdE a i 2)])/\D0 w c s g B W'/\∃T,AB T W W'/\∀k,B k->¬T k):=⟨λB W ho i=>by
   obtain⟨s',h1,h2,h3,h4⟩:=ho.op;have h5:=SK h1 h2 a i;rw[h3,<-hp]at h5
   exact h5.mono (λe W' hh=>⟨hh.1,h4 _ _ hh.2⟩)⟩
  have hff:(f:Int)<=255:=Ω
  have hpp:(p:Int)<=255:=Ω
  clear h hn he Xv Xu hl hp hh N;unfold AO at X Xa;go_in;go_upto_region 4 with(go_at_call 28;refine Qb X.o λw1 HO=>?_);have G:=(Gr.refl w1).alloc (.cells #[.int .i64 p,.int .i64 f,.int .i64 k] 34);have Xn:=Rec.new w1 34 [iI p,iI f,iI k];have hz:(w1.alloc (.cells #[.int .i64 p,.int .i64 f,.int .i64 k] 34)).heap.size=w1.heap.size+1:=π ..;obtain⟨w2,O⟩:=ε (w1.alloc (.cells #[.int .i64 p,.int .i64 f,.int .i64 k] 34));have D:Rec w2 w1.heap.size 34 [iI p,iI f,iI k]:=by rw[O];exact Xn
  clear Xn;rw[<-O]at G hz⊢;clear O;obtain⟨x,hx⟩:=ε w1.heap.size;rw[<-hx]at D⊢
  have U:Hid (∀W,Gr w2 W->w2.heap.size<W.heap.size->D0 w c s g (λk=>k=x\/k=w2.heap.size) W):=⟨λW gW hs=>((HO.o.beside.alloc (G.trans gW))).mono (λk hk=>by
   refine .inr ?_
   rcases hk with e|e <;> omega)⟩
  have Xj:=ι D;have HN:=ι (QFq w2);have Xx:Hid (x≠w2.heap.size):=⟨by omega⟩;clear G hz D hx HO X;obtain⟨q,hq⟩:=ε w2.heap.size;rw[<-hq]at U HN Xx;clear hq;go_upto_region 5 with(go_at_call 104;refine Qa HN.o λw3⟨I,V⟩=>?_);have Xq:q<w3.heap.size:=V.row.lt;have Xo:=ι (U.o _ I Xq);have Xd:=Xj.o.gr I;have Xl:=ι Xd;have y1:=Xd.cc 1;have Xs:=ι V;clear I V Xq Xd U Xj HN;go_wp2
  go_loopw [24] (λs24 wr=>∃j:Nat,j<=f/\s24=iI j/\Hid (D0 w c s g (λk=>k=x\/k=q) wr)/\Hid (Rec wr x 34 [iI p,iI f,iI k])/\Hid (∃sm,BA wr q sm/\ES (l.take j) sm)) (λs24 _=>f-(intOf s24).toNat)
  case atStart=>exact⟨0,ζe _,rfl,Xo,Xl,⟨smZ,Xs.o,ES.zero⟩⟩
  case round=>
   clear Xo Xl Xs y1;obtain⟨j,hj,rfl,Xe,Y,J⟩:=hrel;by_cases Xc:j<f
   ·have Yi:(j:Int)<f:=Ω
    have y0:=Y.o.cc 0;have y1:=Y.o.cc 1;have y2:=Y.o.cc 2;obtain⟨b,hb,hE,hV,hT⟩:=L.o j Xc;have hc:((p+j:Nat):Int)=(p:Int)+j:=ψi _ _;rw[hc]at hE hV;have GX:=ι (λ(W:World) (ho:D0 w c s g (λk=>k=x\/k=q) W)=>GF.o _ W ho ((p:Int)+j));rw[hE,hV]at GX;have HT:=ι hT;have Ye:=ι hb;have Xg:=ι Xc;clear hT hb hc hE hV hj Xc;clear GF L;have Yg:=ι (λ(W:World) (gW:Gr wr W)=>(Xe.o.alloc gW).mono (B':=λk=>k=x\/k=q) (λk hk=>.inl hk))
    go_wp2_with first|(go_at_call 215;refine Qb (Xa.o _) λw4 Xh=>?_)|(go_at_call 109;refine Qa (GX.o _ (Yg.o _ Xh.o)) λw5⟨Xm,T,E,Z⟩=>?_;have Xf:=ι Xm;have Yc:=ι ((Y.o.gr Xh.o).touch E (Z x (.inl rfl)));have Yh:Hid (∃sm,BA w5 q sm/\ES (l.take j) sm):=⟨J.o.imp (λsm h=>⟨(h.1.gr Xh.o).touch E (Z q (.inr rfl)),h.2⟩)⟩;have Yd:Hid (Calls prog 106 #[pP q,.float .f64 b] w5 λe w'=>e=.returned (.tuple #[])/\SM w5 q (l.take j++[b]) w'):=⟨by obtain⟨sm,a1,a2⟩:=Yh.o;exact XQS a1 a2 (by rw[ξc];have:=Yb.o;have:=Xg.o;omega) Ye.o⟩;clear Xm E Z T y0 y1 y2)|(go_at_call 106;refine Qa Yd.o λw6⟨Xp,Xt⟩=>?_;have Xw:=ι Xp;have Yf:=ι Xt;clear Xp Xt)
    go_round
    case rel=>
     refine⟨j+1,Xg.o,by go_num,⟨Xf.o.own Ya.o Xw.o (λk hk=>.inr hk)⟩,⟨Yc.o.touch Xw.o Xx.o⟩,⟨?_⟩⟩;rw[HT.o];exact Yf.o
    case measure=>have:=Xg.o;simp[intOf];omega
   ·have Yi:¬(j:Int)<f:=Ω
    have Yj:j=f:=Ω
    obtain⟨sm,Xr,Xb⟩:=J.o;have Xi:l.take j=l:=ξe (by rw[HL.o];omega);rw[Xi]at Xb;have hW:=ZFj Xr Xb (by rw[HL.o];omega);rw[<-Xz.o]at hW;have HW:=ι hW;have Yk:=ι (λ(W:World) (gW:Gr wr W)=>(Xe.o.alloc gW).fin);clear Xr Xb Xi hj Yj J hW GF L Xa Xz Y Xe;go_wp2_with(go_at_call 107;refine Qa HW.o λw5 Xy=>?_;have Xf:=ι (Yk.o _ Xy);clear Xy);go_ret2;exact⟨rfl,Xf.o⟩
 ·have HV:Hid (g.smV a=0):=⟨by unfold Gph.smV;rw[ψ he]⟩;rw[HV.o];generalize s.A.hp=ap at X⊢;generalize g.shE a=re at X he⊢;generalize g.shH a=hd at X;have d0:(re !=0)=true:=by simpa using he
  clear he h hn;unfold AO at X;go_in;go_wp2_with(go_at_call 28;refine Qb X.o λw1 HO=>?_);go_ret2;exact⟨rfl,(HO.o.beside.alloc ((Gr.refl w1).alloc _)).fin⟩
theorem HIn.flt_lt(h:HIn w c g s)(a i:Int):g.fdV a i 2<18446744073709551616:=by
 unfold Gph.fdV
 split
 ·rename_i he;unfold Gph.fdE at he
  split at he
  ·rename_i h1
   split at he
   ·exact absurd he (by decide)
   ·rename_i h2
    split at he
    ·exact absurd he (by decide)
    ·rename_i h0
     split at he
     ·rename_i hk;have hr:g.Rd (g.at a):=(Gph.at_ro h1).resolve_left h2;have hb:=h.gok.rd hr;obtain⟨hl,hs⟩:=h.gok.len _ (Gph.ob_mem hb.1 hb.2);have hN:CD (g.ob (g.at a)).hdr=1+((g.ob (g.at a)).p:Int)+(g.ob (g.at a)).f+(g.ob (g.at a)).k:=θ (DM hs);unfold BS at hk;rw[hN]at hk
      split at hk
      ·rename_i h3
       split at hk
       ·exact absurd hk (by decide)
       ·rename_i h4;have h4:¬i<((g.ob (g.at a)).p:Int):=h4;have hw:=h.img.wd _ hr i.toNat Ω Ω;have h9:=h.mem.ok.ldV_lt ((s.F (g.at a)+1+i.toNat:Nat):Int);rw[hw.2]at h9;exact h9
      ·exact absurd hk (by decide)
     ·exact absurd he (by decide)
  ·exact absurd he (by decide)
 ·decide
theorem XF1(h:HIn w c g s)(hn:s.o=none↔s.lf=0)(a i b k:Int):Calls prog 145 #[pP s.A.hp,iI a,iI i,iI b,iI k] w λe w'=>e=.returned (.tuple #[iI (g.orV a i b k),iI (g.orE a i b k)])/\HOp w c s g w':=by
 have Y:=ι (SK h hn a i);obtain⟨ap,hp⟩:=ε s.A.hp
 have J:Hid (∀W,HOp w c s g W->Calls prog 109 #[pP ap,iI b,iI k] W λe W'=>e=.returned (.tuple #[.float .f64 (g.fdV b k 2),iI (g.fdE b k 2)])/\HOp w c s g W'):=⟨λW ho=>by
  obtain⟨s',h1,h2,h3,h4⟩:=ho.beside.op;have h5:=SK h1 h2 b k;rw[h3,<-hp]at h5
  exact h5.mono (λe W' hh=>⟨hh.1,(h4 _ _ hh.2).1.fin⟩)⟩
 have hx:=h.flt_lt a i;have hy:=h.flt_lt b k;have HV:Hid (g.orV a i b k=if g.orE a i b k=0 then (if IX (g.fdV a i 2) (g.fdV b k 2)then -1 else if IX (g.fdV b k 2) (g.fdV a i 2)then 1 else 0)else 0):=⟨rfl⟩;have HE:Hid (g.orE a i b k=if g.fdE a i 2=0 then g.fdE b k 2 else g.fdE a i 2):=⟨rfl⟩;rw[<-hp]at Y⊢;clear hp h hn;generalize g.orV a i b k=rv at HV⊢;generalize g.orE a i b k=re at HV HE⊢;generalize g.fdV a i 2=x at HV Y hx;generalize g.fdV b k 2=y at HV J hy;generalize g.fdE a i 2=e1 at HE Y;generalize g.fdE b k 2=e2 at HE J;have M:=ι (ZZy x y hx hy);have N:=ι (ZZy y x hy hx);generalize IX x y=b1 at HV M;generalize IX y x=b2 at HV N;clear hx hy;by_cases h1:e1=0
 ·subst h1;have X:Hid (re=e2):=⟨by rw[HE.o,θ rfl]⟩;clear HE;by_cases h2:e2=0
  ·subst h2;have Z:Hid (rv=if b1 then -1 else if b2 then 1 else 0):=⟨by rw[HV.o,X.o,θ rfl]⟩;rw[X.o];clear HV X;rw[Z.o];clear Z
   cases b1 <;> cases b2 <;> (
    go_in
    go_wp2_with first|(go_at_call 109;refine Y.o.mono ?_;rintro e w1 ⟨rfl,ho⟩;have U:=ι ho;clear ho Y)|(go_at_call 109;refine(J.o _ U.o).mono ?_;rintro e w2 ⟨rfl,ho⟩;have V:=ι ho;clear ho J)|(go_at_call 216;refine(M.o _).mono ?_;rintro e w3 ⟨rfl,rfl⟩;clear M)|(go_at_call 216;refine(N.o _).mono ?_;rintro e w3 ⟨rfl,rfl⟩;clear N)
    go_ret2
    exact⟨rfl,V.o⟩)
  ·have Z:Hid (rv=0):=⟨by rw[HV.o,X.o,ψ h2]⟩;rw[Z.o,X.o];have d0:(e2 !=0)=true:=by simpa using h2
   clear HV X Z h2;go_in
   go_wp2_with first|(go_at_call 109;refine Y.o.mono ?_;rintro e w1 ⟨rfl,ho⟩;have U:=ι ho;clear ho Y)|(go_at_call 109;refine(J.o _ U.o).mono ?_;rintro e w2 ⟨rfl,ho⟩;have V:=ι ho;clear ho J)
   go_ret2;exact⟨rfl,V.o⟩
 ·have X:Hid (re=e1):=⟨by rw[HE.o,ψ h1]⟩;have Z:Hid (rv=0):=⟨by rw[HV.o,X.o,ψ h1]⟩;rw[Z.o,X.o];have d0:(e1 !=0)=true:=by simpa using h1
  clear HV HE X Z h1;go_in;go_wp2_with(go_at_call 109;refine Y.o.mono ?_;rintro e w1 ⟨rfl,ho⟩;have U:=ι ho;clear ho Y);go_ret2;exact⟨rfl,U.o⟩
theorem HIn.memWords(h:HIn w c g s):cQ 71 #[pP s.A.q] w (iI c.n):=by
 have hm:=h.mem;cases ho:s.o with
 | none=>
  rw[ho]at hm;have:=J0 hm.1;rw[hm.2.1.n]at this;exact this
 | some y=>
  rw[ho]at hm;obtain⟨z,sl,v,R,Sv,X,e1,e2⟩:=hm;have:=J0 X.vm;rw[X.hv.n]at this;exact this
theorem HpA.pk{sl:Sl}{v u:Vm}{top:Nat}(h:HpA top u sl v)(h1:sl.cf.to<=a)(h2:a<top)(hu:u.ldE a=0):sl.pkV v a=u.ldV a/\sl.pkE v a=u.ldE a:=by
 unfold Sl.pkV Sl.pkE;rw[hu];rcases δ a (sl.cf.to+AC sl.L)with h3|h3
 ·obtain⟨i,rfl⟩:∃i,a=sl.cf.to+i:=⟨a-sl.cf.to,by omega⟩;rw[F6.2 ⟨by omega,by omega⟩,θ rfl,θ rfl,show (((sl.cf.to+i:Nat):Int)-(sl.cf.to:Int)).toNat=i by omega];exact⟨(h.c i Ω).symm,rfl⟩
 ·rw[W9 Ω];obtain⟨x1,x2⟩:=h.x a h3 h2;exact⟨x2,x1⟩
def spL(c:HCf)(g:Gph)(s:HSt):Sp:=
 ⟨136,.agg #[pP s.A.hp],328,λa=>∃n:Nat,a=n/\s.base<=n/\n<s.top,False,λk=>s.S k\/k=1,
  λu _ w=>u=s.u/\HIn w c g s/\∀k,s.S k->k<w.heap.size⟩
theorem ZKh(h:HIn w c g s)(h1:s.base<=a)(h2:a<s.top):Calls prog 328 #[.agg #[pP s.A.hp],iI a] w λe w'=>e=.returned (.tuple #[uU (s.u.ldV a:Nat),iI (s.u.ldE a)])/\Gr w w':=by
 have J:=(Gr.refl w).alloc (.cells #[.pointer (some ⟨s.A.hp,0,none⟩)] 136);have U:=ι J;have Z:=h.cc 11;have c8:=h.cc 8;have cl:=h.com.row.lt;have hm:=h.mem;have O:=h.hi;have N:=h.bt;cases ho:s.o with
 | none=>
  rw[ho]at hm Z;simp only[ψy]at Z;have HL:=ι (KX (hm.1.gr J) (a:Int));generalize s.A.hp=ap at U HL Z c8 cl⊢;generalize s.u.ldV a=v at HL⊢;generalize s.u.ldE a=e at HL⊢;clear h hm ho h1 h2 J O N;go_in;go_wp2_with(go_at_call 206;refine Qb (HL.o) λw1 HG=>?_);go_ret2;exact⟨rfl,U.o.trans HG.o⟩
 | some y=>
  rw[ho]at hm Z;simp only[ψh]at Z;obtain⟨z,sl,v,R,Sv,Y,e1,e2⟩:=hm;have X:=Y.gr J;have M:=Y.bs;have V:=Y.ok.st;have I:=V.cf.ln;have E:=Y.a.lm;obtain⟨p1,p2⟩:=Y.a.pk (a:=a) (by rw[M];exact h1) h2 (Y.a.un a Ω);obtain⟨HP⟩:Hid _:=ι (XMX X.cy X.ok X.tab X.vm (a:Int) Ω);rw[p1,p2]at HP;have HL:=ι HP;generalize s.A.hp=ap at U HL Z c8 cl⊢;generalize s.u.ldV a=vv at HL⊢;generalize s.u.ldE a=e at HL⊢;clear h ho h1 h2 J O N Y X M V I E p1 p2 HP e1 e2;go_in;go_wp2_with(go_at_call 330;refine Qb (HL.o) λw1 HG=>?_);go_ret2;exact⟨rfl,U.o.trans HG.o⟩
theorem JVB(n:Nat)(v:Value)(w:World):(nilAhead (n+1) 136 (.agg #[v]) "Load").run prog w=.ok (some false) w:=by kernel_rfl
theorem Zd6(n:Nat)(v:Value)(w:World):(method (n+1) 136 (.agg #[v]) "Load").run prog w=.ok (328,.agg #[v]) w:=by kernel_rfl
theorem YQv(c:HCf)(g:Gph)(s:HSt):(spL c g s).Ok:=by
 refine⟨λn w=>JVB n _ w,λn w=>Zd6 n _ w,λargs w=>by kernel_rfl,λw=>by kernel_rfl,λh=>?_,λ{u S S' T' w w'} h t hT hs=>?_,λ{u S w} h k hk=>?_,λ{u S w} h=>h,λ{u S w} h a ha=>?_⟩
 ·obtain⟨rfl,h,-⟩:=h;exact h.mem.ok
 ·obtain⟨e,h,h2⟩:=h;exact⟨e,h.touch t (λk hk ht=>⟨λhs=>(hT k hk ht).2 (.inl hs),λe=>(hT k hk ht).2 (.inr e)⟩),λk hk=>ϑ (h2 k hk) t.size⟩
 ·obtain⟨e,h,h2⟩:=h;rcases hk with hk|rfl
  ·exact h2 k hk
  ·exact h.com.tab.lt
 ·obtain⟨rfl,h,h2⟩:=h;obtain⟨n,rfl,h3,h4⟩:=ha;refine Qa (ZKh h h3 h4) λw' g=>?_;exact⟨rfl,g.touch _,rfl,h.gr g,λk hk=>ϑ (h2 k hk) g.size⟩
theorem HIn.lk(h:HIn w c g s)(S:Nat->Prop):(spL c g (s.cut w)).I s.u S w:=by
 obtain⟨l1,l2,l3,l4,l5⟩:=h.com.lt;refine⟨rfl,h.cut,λk hk=>?_⟩;rcases hk with hk|hk|hk|hk|hk
 ·exact hk.2
 ·rw[hk];exact l1
 ·rw[hk];exact l3
 ·rw[hk];exact l2
 ·rw[hk];exact l4
theorem HIn.soundN(h:HIn w c g s)(hn:s.top<=n):DX s.u (s.rs g) n:=by
 have hS:=h.img.sound h.gok;exact⟨hS.rd,hS.pt,λa ha=>by have:=hS.rm a ha;omega,hS.dj⟩
theorem HIn.mrun(h:HIn w c g s)(gr:Gr w W){m p1 b1 p2 b2 g1 cp:Nat}(hE:Ext W m p1 b1 p2 b2 c.n [])(hm:w.heap.size<=m/\w.heap.size<=p1/\w.heap.size<=b1/\w.heap.size<=p2/\w.heap.size<=b2)(ho:W.ownsRow 0 3 1 (.slice (some ⟨g1,0,none⟩) (s.rs g).length cp) (s.rs g).length (zs (s.rs g)))(hg1:¬AT m b1 b2 g1):Calls prog 72 #[.iface 136 (.agg #[pP s.A.hp]),.slice (some ⟨g1,0,none⟩) (s.rs g).length cp,pP m,iI c.st] W λe w'=>
   (∃r vi:Int,e=.returned (.tuple #[.agg #[iI (g.all.length:Nat),iI (g.words:Nat),iI r,iI vi],iI 0]))/\AB (AT m b1 b2) W w':=by
 have hst:=h.cok.st
 have hn:s.top<=c.n:=by
  have h1:=(UD h.cok).1;have h2:=h.bt;have h3:=h.cok.kd;unfold HCf.n;rcases h.bs with e|⟨e,e2⟩
  ·split <;> omega
  ·rw[ψ e2];omega
 have hS:=h.soundN hn;obtain⟨L0,hM0,-,-,-,hz0,hl0⟩:=h.rch hn
 have X:(s.rs g).length<=maxLen:=by
  have:=h.sl;have:=h.cok.sl;unfold maxLen;unfold HSt.rs;rw[ζE];omega
 have M:=HSt.cut_S h;have Y:=h.com.lt.2.2.2.2;have hI:=h.lk (λ_=>False);obtain⟨hI1,U,Z⟩:=hI;have J:(spL c g (s.cut w)).I s.u (λ_=>False) W:=⟨rfl,U.gr gr,λk hk=>ϑ (Z k hk) gr.size⟩;refine(VVP hS (z:=spL c g (s.cut w)) (SV:=λ_=>False) (v:=s.u) (rs:=s.rs g) (room:=c.st) ⟨YQv ..,id⟩ (λa ha=>?_) (λi hi=>?_) J hE (gr.tab Y h.com.tab) (λi hi=>?_) X (λ_ h=>h.elim) id id id (λe=>?_) Ω).mono ?_
 ·obtain⟨x,hx,rfl⟩:=h.img.rch h.gok ha;exact⟨λh0=>h.rdP (.inr hx) h0,λi h0=>h.fdP (.inr hx) i (by decide) h0⟩
 ·have V:i<w.heap.size:=by
   rcases hi with hi|hi
   ·exact(M i hi).2
   ·rw[hi];exact Y
  exact⟨ϑ V gr.size,λe=>by rcases e with e|e|e <;> omega⟩
 ·exact⟨g1,0,rfl,(A9 ho rfl).2,hg1,by rw[ζ6];exact BU ho (NH hi)⟩
 ·rcases e with e|e|e <;> omega
 ·rintro e w' ⟨ht,-,L,r,vi,rfl,-,hM,-⟩;have e1:=h.img.words h.gok hM;have e2:=h.img.count h.gok hM;unfold PI;rw[e1,e2];exact⟨⟨r,vi,rfl⟩,ht.mono (λk _ hk=>hk.elim id (λe=>e.elim))⟩
theorem QLM(h:HIn w c g s):Calls prog 19 #[pP s.A.hp] w λe w'=>e=.returned (.tuple #[iI (g.all.length:Nat),iI (g.words:Nat)])/\Gr w w':=by
 have Xs:=ι (FU h);have HW:=ι (h.memWords);obtain⟨q1,q2,-⟩:=UD h.cok;have q3:=h.cok.wd;have HX:=ι (λW=>P7 c.n Ω Ω W);have Xc:=ι (λ(W:World) (gr:Gr w W)=>Q3 (h.com.rt.gr gr));have I:=ι (λ(W:World) (gr:Gr w W) (m p1 b1 p2 b2 g1 cp:Nat) (hE:Ext W m p1 b1 p2 b2 c.n []) hm ho hg1=>h.mrun gr (m:=m) (p1:=p1) (b1:=b1) (p2:=p2) (b2:=b2) (g1:=g1) (cp:=cp) hE hm ho hg1);have Xb:=ι h.com.row;have c8:=h.cc 8;have Xm:=h.com.row.lt;obtain⟨ap,Xv⟩:=ε s.A.hp;obtain⟨rr,Xo⟩:=ε s.A.r;obtain⟨qq,Xr⟩:=ε s.A.q;rw[<-Xv]at Xs I Xb c8 Xm⊢;rw[<-Xo]at Xc;rw[<-Xr]at HW c8;generalize (g.all.length:Nat)=na at I⊢;generalize (g.words:Nat)=nw at I⊢
 have Xu:Hid (∀W,Gr w W->W.cell? ⟨ap,9,none⟩=some (pP rr)/\W.cell? ⟨ap,5,none⟩=some (iI c.st)):=⟨λW gr=>by
  have:=Xb.o.gr gr
  exact⟨by rw[Xo];exact this.cc 9,this.cc 5⟩⟩
 have HLT:=ι Xm;clear h Xv Xo Xr q1 q2 q3 Xb Xm;go_in
 go_upto_region 4 with first|(go_at_call 51;refine Xs.o.mono ?_;rintro e w1 ⟨rfl,rfl⟩)|(go_at_call 71;refine HW.o.mono ?_;rintro e w1 ⟨rfl,rfl⟩)|(go_at_call 70;refine(HX.o _).mono ?_;rintro e w3 ⟨m,p1,b1,p2,b2,rfl,Xt,Xx,Xy,Yb,Xz,Yc,Ya⟩;have V:=ι Xt;have Xf:=ι Xx;have HB:=ι (ξ Xy (ξ Yb (ξ Xz (ξ Yc Ya))));clear Xt Xx Xy Yb Xz Yc Ya)
 have Xj:Hid (∀i,AT m b1 b2 i->w.heap.size<=i/\i<w3.heap.size):=⟨λi hi=>by
  have h1:=Xf.o.hm;have h2:=Xf.o.v1.hb;have h3:=Xf.o.v2.hb;have h4:=HB.o
  rcases hi with rfl|rfl|rfl <;> omega⟩
 have Xl:Hid (∀W1 W2,Gr w3 W1->AB (AT m b1 b2) W1 W2->Gr w W2):=⟨λW1 W2 g1 t=>(((V.o.trans g1).touch (AT m b1 b2)).trans t |>.mono (T:=λ_=>False) (λk hk e=>by have:=(Xj.o k e).1;omega)).gr⟩;obtain⟨Sx,Xg⟩:=ε (λW'=>Gr w W':World->Prop);have y9:∀p':AA Sx,p'.w.cell? ⟨ap,9,none⟩=some (pP rr):=λp=>(Xu.o _ (AA.get Xg p)).1;have y5:∀p':AA Sx,p'.w.cell? ⟨ap,5,none⟩=some (iI c.st):=λp=>(Xu.o _ (AA.get Xg p)).2;have Xw:Sx w3.drew:=by rw[Xg];exact V.o.drew
 have U:=ι Xg;have inst:Inhabited (AA Sx):=⟨⟨_,Xw⟩⟩;clear Xg;refine JVh Sx (.two [0,1,2,3,4,5,6,8,9,10,11,12,13] 7 (.two [] 14 (.one [15,16,17] 18 (.one [] 19 (.fin [20]))) 18 (.one [] 14 (.one [15,16,17] 19 (.fin [20])))) 18 (.one [] 7 (.one [] 14 (.one [15,16,17] 19 (.fin [20]))))) Xw ?_;refine RV ?_;simp only[AF,υ,ν]
 repeat(go_big_quiet_step (fail))
 refine ζb ⟨?_,?_⟩
 ·go_wp2_with(go_at_call 67;refine(Xc.o _ (V.o.trans (Gr.refl w3).drew)).mono ?_;rintro e w4 ⟨g1,cp,rfl,Xa,Xi,Xe⟩;have X:Hid (Gr w3 w4):=⟨((Gr.refl w3).drew).trans Xa⟩;have Xq:Hid (w3.heap.size<=g1):=⟨ω ((Gr.refl w3).drew).size Xi⟩;have Xp:=ι Xe;clear Xe Xi);have Xk:Hid (∀W,Gr w4 W->Calls prog 72 #[.iface 136 (.agg #[pP ap]),.slice (some ⟨g1,0,none⟩) (s.rs g).length cp,pP m,iI c.st] W λe w'=>(∃r vi:Int,e=.returned (.tuple #[.agg #[iI (na:Nat),iI (nw:Nat),iI r,iI vi],iI 0]))/\AB (AT m b1 b2) W w'):=⟨λW gW=>I.o W (V.o.trans (X.o.trans gW)) m p1 b1 p2 b2 g1 cp (Xf.o.gr (X.o.trans gW)) HB.o (CF Xp.o gW) (λe=>by have:=(Xj.o _ e).2;have:=Xq.o;omega)⟩;have L:Hid (∀W W2,Gr w4 W->AB (AT m b1 b2) W W2->Gr w W2):=⟨λW W2 g1 t=>Xl.o W W2 (X.o.trans g1) t⟩;have D:Hid (Gr w w4):=⟨V.o.trans X.o⟩;refine⟨AA.of (by rw[U.o];exact D.o),?_⟩;refine RV ?_;simp only[AF,υ,ν]
  repeat(go_big_quiet_step (fail))
  refine ζb ⟨?_,?_⟩
  ·go_wp2_with(go_at_call 72;refine(Xk.o _ (Gr.refl w4)).mono ?_;rintro e w5 ⟨⟨rv,vi,rfl⟩,N⟩;have E:=ι N;clear N);have Y:Hid (Gr w w5):=⟨L.o _ _ (Gr.refl w4) E.o⟩;refine⟨AA.of (by rw[U.o];exact Y.o),?_⟩;refine JE ?_;go_wp2;refine⟨AA.of (by rw[U.o];exact Y.o.alloc _),?_⟩;refine JE ?_;go_wp2;refine⟨AA.of (by rw[U.o];exact Y.o.alloc _),?_⟩;refine ON ?_;obtain⟨x,hx⟩:=ε w5.heap.size;rw[<-hx];obtain⟨WX,J⟩:=ε (w5.alloc (.cells #[.int .i64 (na:Nat),.int .i64 (nw:Nat),.int .i64 rv,.int .i64 vi] 141));have Xh:Hid (Gr w WX):=⟨by rw[J];exact Y.o.alloc _⟩;have rx:Rec WX x 141 [iI (na:Nat),iI (nw:Nat),iI rv,iI vi]:=by rw[J];exact hx▸Rec.new w5 141 [iI (na:Nat),iI (nw:Nat),iI rv,iI vi]
   rw[<-J];obtain⟨k0,k1,kl⟩:=rx.k2;clear J rx hx;go_wp2;go_quiet (fail);go_wp2;go_ret2;exact⟨rfl,Xh.o.drewN _⟩
  ·go_wp2;obtain⟨WB,M⟩:=ε (w4.alloc (.cells #[.int .i64 0,.int .i64 0,.int .i64 0,.int .i64 0] 141));obtain⟨x,hx⟩:=ε w4.heap.size;have O:Hid (Gr w4 WB):=⟨by rw[M];exact(Gr.refl w4).alloc _⟩;have Xn:Hid (Rec WB x 141 [iI 0,iI 0,iI 0,iI 0]):=⟨by rw[M,hx];exact Rec.new w4 141 [iI 0,iI 0,iI 0,iI 0]⟩;rw[<-M,<-hx];have Xd:Hid (w3.heap.size<=x):=⟨by rw[hx];exact X.o.size⟩;clear M hx;refine⟨AA.of (by rw[U.o];exact D.o.trans O.o),?_⟩;refine JE ?_;go_wp2_with(go_at_call 72;refine(Xk.o _ (O.o)).mono ?_;rintro e w5 ⟨⟨rv,vi,rfl⟩,N⟩;have E:=ι N;clear N);have Y:Hid (Gr w w5):=⟨L.o _ _ O.o E.o⟩;have B:=Xn;have Z:=ι (B.o.touch E.o (λe=>by have:=(Xj.o _ e).2;have:=Xd.o;omega));have q0:=Z.o.cc 0;have q1:=Z.o.cc 1;have q2:=Z.o.cc 2;have q3:=Z.o.cc 3;have qf:=Z.o.free;have ql:=Z.o.lt;have G:Hid (Gr w ((((w5.setCell ⟨x,0,none⟩ (.int .i64 (na:Nat))).setCell ⟨x,1,none⟩ (.int .i64 (nw:Nat))).setCell ⟨x,2,none⟩ (.int .i64 rv)).setCell ⟨x,3,none⟩ (.int .i64 vi))):=⟨((Y.o.touch (λk=>k=x)).trans ((((((AB.refl (λk=>k=x) w5).setCell (a:=⟨x,0,none⟩) (λ_=>rfl) _).setCell (a:=⟨x,1,none⟩) (λ_=>rfl) _).setCell (a:=⟨x,2,none⟩) (λ_=>rfl) _).setCell (a:=⟨x,3,none⟩) (λ_=>rfl) _)) |>.mono (T:=λ_=>False) (λk hk e=>by have e:k=x:=e;have:=Xd.o;have:=V.o.size;omega)).gr⟩;refine⟨AA.of (by rw[U.o];exact Y.o),?_⟩;refine JE ?_;go_wp2;refine⟨AA.of (by rw[U.o];exact G.o),?_⟩;refine ON ?_;clear q0 q1 q2 q3 qf ql;obtain⟨WX,J⟩:=ε ((((w5.setCell ⟨x,0,none⟩ (.int .i64 (na:Nat))).setCell ⟨x,1,none⟩ (.int .i64 (nw:Nat))).setCell ⟨x,2,none⟩ (.int .i64 rv)).setCell ⟨x,3,none⟩ (.int .i64 vi));have Xh:Hid (Gr w WX):=⟨by rw[J];exact G.o⟩;have rx:Rec WX x 141 [iI (na:Nat),iI (nw:Nat),iI rv,iI vi]:=by rw[J];exact((((Z.o.set 0 (iI (na:Nat))).set 1 (iI (nw:Nat))).set 2 (iI rv)).set 3 (iI vi))
   rw[<-J];obtain⟨k0,k1,kl⟩:=rx.k2;clear J rx;go_wp2;go_quiet (fail);go_wp2;go_ret2;exact⟨rfl,Xh.o.drewN _⟩
 ·go_wp2;obtain⟨WB,M⟩:=ε ((w3.alloc (.cells #[.int .i64 0,.int .i64 0,.int .i64 0,.int .i64 0] 141)).drew);obtain⟨x,hx⟩:=ε w3.heap.size;have O:Hid (Gr w3 WB):=⟨by rw[M];exact((Gr.refl w3).alloc _).drew⟩;have Xn:Hid (Rec WB x 141 [iI 0,iI 0,iI 0,iI 0]):=⟨by rw[M,hx];exact Rec.new w3 141 [iI 0,iI 0,iI 0,iI 0]⟩;rw[<-M,<-hx];have Xd:Hid (w3.heap.size<=x):=⟨by rw[hx];exact μ _⟩;clear M hx;refine⟨AA.of (by rw[U.o];exact V.o.trans O.o),?_⟩;refine JE ?_;go_wp2_with(go_at_call 67;refine(Xc.o _ (V.o.trans O.o)).mono ?_;rintro e w4 ⟨g1,cp,rfl,Xa,Xi,Xe⟩;have X:Hid (Gr w3 w4):=⟨O.o.trans Xa⟩;have Xq:Hid (w3.heap.size<=g1):=⟨ω O.o.size Xi⟩;have Xp:=ι Xe;have B:=ι (Xn.o.gr Xa);clear Xe Xi Xa);have Xk:Hid (∀W,Gr w4 W->Calls prog 72 #[.iface 136 (.agg #[pP ap]),.slice (some ⟨g1,0,none⟩) (s.rs g).length cp,pP m,iI c.st] W λe w'=>(∃r vi:Int,e=.returned (.tuple #[.agg #[iI (na:Nat),iI (nw:Nat),iI r,iI vi],iI 0]))/\AB (AT m b1 b2) W w'):=⟨λW gW=>I.o W (V.o.trans (X.o.trans gW)) m p1 b1 p2 b2 g1 cp (Xf.o.gr (X.o.trans gW)) HB.o (CF Xp.o gW) (λe=>by have:=(Xj.o _ e).2;have:=Xq.o;omega)⟩;have L:Hid (∀W W2,Gr w4 W->AB (AT m b1 b2) W W2->Gr w W2):=⟨λW W2 g1 t=>Xl.o W W2 (X.o.trans g1) t⟩;have D:Hid (Gr w w4):=⟨V.o.trans X.o⟩;refine⟨AA.of (by rw[U.o];exact D.o),?_⟩;refine JE ?_;go_wp2_with(go_at_call 72;refine(Xk.o _ (Gr.refl w4)).mono ?_;rintro e w5 ⟨⟨rv,vi,rfl⟩,N⟩;have E:=ι N;clear N);have Y:Hid (Gr w w5):=⟨L.o _ _ (Gr.refl w4) E.o⟩;have Z:=ι (B.o.touch E.o (λe=>by have:=(Xj.o _ e).2;have:=Xd.o;omega));have q0:=Z.o.cc 0;have q1:=Z.o.cc 1;have q2:=Z.o.cc 2;have q3:=Z.o.cc 3;have qf:=Z.o.free;have ql:=Z.o.lt;have G:Hid (Gr w ((((w5.setCell ⟨x,0,none⟩ (.int .i64 (na:Nat))).setCell ⟨x,1,none⟩ (.int .i64 (nw:Nat))).setCell ⟨x,2,none⟩ (.int .i64 rv)).setCell ⟨x,3,none⟩ (.int .i64 vi))):=⟨((Y.o.touch (λk=>k=x)).trans ((((((AB.refl (λk=>k=x) w5).setCell (a:=⟨x,0,none⟩) (λ_=>rfl) _).setCell (a:=⟨x,1,none⟩) (λ_=>rfl) _).setCell (a:=⟨x,2,none⟩) (λ_=>rfl) _).setCell (a:=⟨x,3,none⟩) (λ_=>rfl) _)) |>.mono (T:=λ_=>False) (λk hk e=>by have e:k=x:=e;have:=Xd.o;have:=V.o.size;omega)).gr⟩;refine⟨AA.of (by rw[U.o];exact Y.o),?_⟩;refine JE ?_;go_wp2;refine⟨AA.of (by rw[U.o];exact G.o),?_⟩;refine ON ?_;clear q0 q1 q2 q3 qf ql;obtain⟨WX,J⟩:=ε ((((w5.setCell ⟨x,0,none⟩ (.int .i64 (na:Nat))).setCell ⟨x,1,none⟩ (.int .i64 (nw:Nat))).setCell ⟨x,2,none⟩ (.int .i64 rv)).setCell ⟨x,3,none⟩ (.int .i64 vi));have Xh:Hid (Gr w WX):=⟨by rw[J];exact G.o⟩;have rx:Rec WX x 141 [iI (na:Nat),iI (nw:Nat),iI rv,iI vi]:=by rw[J];exact((((Z.o.set 0 (iI (na:Nat))).set 1 (iI (nw:Nat))).set 2 (iI rv)).set 3 (iI vi))
  rw[<-J];obtain⟨k0,k1,kl⟩:=rx.k2;clear J rx;go_wp2;go_quiet (fail);go_wp2;go_ret2;exact⟨rfl,Xh.o.drewN _⟩
def HLo(gh:Option (Nat×Int))(w0:World)(K:Nat->Prop)(c:HCf)(hb:Nat)(w:World)(v:Value)(g':Gph)(e:Ending)(w':World):Prop:=e=.returned v/\AB (hlT w0 K) w w'/\HLv gh w0 K c hb g' w'
section
variable{f:FuncId}{args:Array Value}
theorem HLv.of_op(h:HLv gh w0 K c hb g w)(hc:∀s:HSt,s.A.hp=hb->HIn w c g s->(s.o=none↔s.lf=0)->Calls prog f args w λe w'=>e=.returned v/\HOp w c s g' w'):Calls prog f args w (HLo gh w0 K c hb w v g'):=by
 obtain⟨h1,⟨s,e1,e2,e3,e4,e5⟩,h3⟩:=h;refine Qa (hc s e1 e2 e3) λw'⟨s',r,st⟩=>?_;exact⟨rfl,HLv.res h1 h3 e1 e4 r (e5.stp st)⟩
theorem HLv.getW(h:HLv gh w0 K c hb g w)(a i:Int):Calls prog 142 #[pP hb,iI a,iI i] w (HLo gh w0 K c hb w (.tuple #[uU (g.fdV a i 3:Nat),iI (g.fdE a i 3)]) g):=h.of_op (λ_ e1 e2 e3=>e1▸J4u e2 e3 a i)
theorem HLv.getF(h:HLv gh w0 K c hb g w)(a i:Int):Calls prog 109 #[pP hb,iI a,iI i] w (HLo gh w0 K c hb w (.tuple #[.float .f64 (g.fdV a i 2),iI (g.fdE a i 2)]) g):=h.of_op (λ_ e1 e2 e3=>e1▸SK e2 e3 a i)
theorem HLv.setW(h:HLv gh w0 K c hb g w)(a i:Int){x:Nat}(hx:x<18446744073709551616):Calls prog 103 #[pP hb,iI a,iI i,uU x] w (HLo gh w0 K c hb w (iI (g.fdE a i 3)) (g.wrG a i 3 x)):=h.of_op (λ_ e1 e2 e3=>e1▸Vld e2 e3 a i hx)
theorem HLv.setF(h:HLv gh w0 K c hb g w)(a i:Int){x:Nat}(hx:x<18446744073709551616):Calls prog 102 #[pP hb,iI a,iI i,.float .f64 x] w (HLo gh w0 K c hb w (iI (g.fdE a i 2)) (g.wrG a i 2 x)):=h.of_op (λ_ e1 e2 e3=>e1▸Xe2 e2 e3 a i hx)
theorem HLv.load(h:HLv gh w0 K c hb g w)(a b i:Int):Calls prog 93 #[pP hb,iI a,iI b,iI i] w (HLo gh w0 K c hb w (iI (g.loE a b i)) (g.loG a b i)):=h.of_op (λ_ e1 e2 e3=>e1▸V9V e2 e3 a b i)
theorem HLv.stor(h:HLv gh w0 K c hb g w)(a i b:Int):Calls prog 89 #[pP hb,iI a,iI i,iI b] w (HLo gh w0 K c hb w (iI (g.stE a i b)) (g.stG a i b)):=h.of_op (λ_ e1 e2 e3=>e1▸QmE e2 e3 a i b)
theorem HLv.copy(h:HLv gh w0 K c hb g w)(a b:Int):Calls prog 90 #[pP hb,iI a,iI b] w (HLo gh w0 K c hb w (iI (g.two a b 0)) (g.cpG a b)):=h.of_op (λ_ e1 e2 e3=>e1▸Xxc e2 e3 a b)
theorem HLv.clr(h:HLv gh w0 K c hb g w)(a:Int):Calls prog 45 #[pP hb,iI a] w (HLo gh w0 K c hb w (iI (g.slE a)) (g.clG a)):=h.of_op (λ_ e1 e2 e3=>e1▸JfK e2 e3 a)
theorem HLv.shap(h:HLv gh w0 K c hb g w)(a:Int):Calls prog 28 #[pP hb,iI a] w (HLo gh w0 K c hb w (.tuple #[AO (g.shH a),iI (g.shE a)]) g):=h.of_op (λ_ e1 e2 e3=>e1▸VcO e2 e3 a)
theorem HLv.allo(h:HLv gh w0 K c hb g w)(a:Int)(x:Hdr):Calls prog 22 #[pP hb,iI a,AO x] w (HLo none w0 K c hb w (iI (g.alE c.wd a x)) (g.alG c.wd a x)):=h.alloc a x
theorem HLv.coll(h:HLv gh w0 K c hb g w):Calls prog 13 #[pP hb] w (HLo none w0 K c hb w (.tuple #[]) g):=by
 obtain⟨h1,⟨s,e1,e2,e3,e4,e5⟩,h3⟩:=h;have hc:=XZ e2 e3;rw[e1]at hc;refine hc.mono ?_;rintro e w' ⟨rfl,s',r,-⟩;exact⟨rfl,HLv.res h1 h3 e1 e4 r (HGh.no _)⟩
theorem HLv.same0(h:HLv gh w0 K c hb g w)(v:Value):HLo gh w0 K c hb w v g (.returned v) w:=⟨rfl,AB.refl _ _,h⟩
theorem HLv.start(h:HLv gh w0 K c hb g w):Calls prog 14 #[pP hb] w (HLo none w0 K c hb w (.tuple #[]) g):=by
 have h':=h;obtain⟨h1,⟨s,e1,e2,e3,e4,e5⟩,h3⟩:=h;by_cases ho:s.o=none
 ·by_cases hk:c.kd=1
  ·have hc:=YE8 e2 ho hk;rw[e1]at hc;refine hc.mono ?_;rintro e w' ⟨rfl,s',r,-⟩;exact⟨rfl,HLv.res h1 h3 e1 e4 r (HGh.no _)⟩
  ·have hc:=Yyb e2 e3 ho hk;rw[e1]at hc;refine hc.mono ?_;rintro e w' ⟨rfl,s',r,-⟩;exact⟨rfl,HLv.res h1 h3 e1 e4 r (HGh.no _)⟩
 ·have hc:=JxG e2 ho;rw[e1]at hc;refine hc.mono ?_;rintro e w' ⟨rfl,rfl⟩;exact h'.no.same0 _
theorem HLv.step(h:HLv gh w0 K c hb g w):Calls prog 15 #[pP hb] w λe w'=>∃b:Bool,HLo gh w0 K c hb w (.bool b) g e w':=by
 have h':=h;obtain⟨h1,⟨s,e1,e2,e3,e4,e5⟩,h3⟩:=h;by_cases hl:s.lf=0
 ·have hc:=QNw e2 e3 hl;rw[e1]at hc;refine hc.mono ?_;rintro e w' ⟨rfl,rfl⟩;exact⟨_,h'.same0 _⟩
 ·have hc:=YY e2 e3 hl;rw[e1]at hc;refine hc.mono ?_;rintro e w' ⟨rfl,s',r,st,-⟩;exact⟨_,rfl,HLv.res h1 h3 e1 e4 r (e5.stp st)⟩
theorem HLv.live(h:HLv gh w0 K c hb g w):Calls prog 19 #[pP hb] w (HLo gh w0 K c hb w (.tuple #[iI (g.all.length:Nat),iI (g.words:Nat)]) g):=by
 have h':=h;obtain⟨h1,⟨s,e1,e2,e3,e4,e5⟩,h3⟩:=h;have hc:=QLM e2;rw[e1]at hc;refine Qa hc λw' hg=>?_;exact⟨rfl,hg.touch _,h'.get hg⟩
end
section
variable{R:Nat->Prop}
theorem HLv.wr(h:HLv gh w0 K c hb g w)(t:AB R w w')(hR:∀k,R k->K k/\w0.heap.size<=k)(ht:1<w0.heap.size):HLv gh w0 (λk=>K k\/(w.heap.size<=k/\k<w'.heap.size)) c hb g w':=by
 obtain⟨h1,⟨s,e1,e2,e3,e4,e5⟩,h3⟩:=h;refine⟨?_,⟨s.cut w,e1,e2.cut.touch t (λk _ hk=>⟨λhs=>(e4 k (HSt.cut_S e2 k hs).1).2 (hR k hk).1,λe=>by have:=(hR k hk).2;omega⟩),e3,λk hk=>?_,e5⟩,λk hk=>?_⟩
 ·exact((h1.touch R).trans t |>.mono (T:=λ_=>False) (λk hk e=>by have:=(hR k e).2;omega)).gr
 ·obtain⟨k1,k2⟩:=HSt.cut_S e2 k hk;exact⟨(e4 k k1).1,λh=>h.elim (e4 k k1).2 (λh=>by omega)⟩
 ·exact hk.elim (λh=>ϑ (h3 k h) t.size) (λh=>h.2)
end
theorem HLv.same(h:HLv gh w0 K c hb g w)(a b:Int):Calls prog 143 #[pP hb,iI a,iI b] w (HLo gh w0 K c hb w (.tuple #[.bool (g.sl a&&g.sl b&&(g.at a==g.at b)),iI (g.two a b 0)]) g):=h.of_op (λ_ e1 e2 e3=>e1▸JaK e2 e3 a b)
theorem HLv.sum(h:HLv gh w0 K c hb g w)(a:Int):Calls prog 144 #[pP hb,iI a] w (HLo gh w0 K c hb w (.tuple #[.float .f64 (g.smV a),iI (g.shE a)]) g):=h.of_op (λ_ e1 e2 e3=>e1▸ZvI e2 e3 a)
theorem HLv.ord(h:HLv gh w0 K c hb g w)(a i b k:Int):Calls prog 145 #[pP hb,iI a,iI i,iI b,iI k] w (HLo gh w0 K c hb w (.tuple #[iI (g.orV a i b k),iI (g.orE a i b k)]) g):=h.of_op (λ_ e1 e2 e3=>e1▸XF1 e2 e3 a i b k)
theorem HLv.isnt(h:HLv gh w0 K c hb g w):cQ 51 #[pP hb] w (.bool false):=by
 obtain⟨h1,⟨s,rfl,e2,e3,e4⟩,h3⟩:=h;exact FU e2
theorem ZgR(y:Nat)(hy:y<18446744073709551616)(w:World):cQ 146 #[uU y] w (iI (if y<256 then y else -1)):=by
 by_cases h:y<256
 ·have d0:decide ((256:Int)<=(y:Int))=false:=ζ Ω;have e0:wrap64 (y:Int)=y:=ξY _ Ω;go_enter func146,ntmps146;go_wp2;go_ret
  simp_all
 ·have d0:decide ((256:Int)<=(y:Int))=true:=φ Ω;go_enter func146,ntmps146;go_wp2;go_ret
  simp_all
structure DN(gh:Option (Nat×Int))(w0 w:World)(K:Nat->Prop)(c:HCf)(hb:Nat)(g:Gph)(x:GOp)(re:GRe)(wx:World):Prop where
 hv:HLv gh w0 (λk=>K k\/k=w.heap.size\/k=w.heap.size+1) c hb g wx
 o:Rec wx w.heap.size 37 (opL x)
 q:Rec wx (w.heap.size+1) 39 (FH re)
 t:AB (hlT w0 K) w wx
theorem DN.op(h:DN gh w0 w K c hb g x re wx)(ho:HLo gh' w0 (λk=>K k\/k=w.heap.size\/k=w.heap.size+1) c hb wx v g' e w'):e=.returned v/\DN gh' w0 w K c hb g' x re w':=by
 obtain⟨rfl,t,hl⟩:=ho;exact⟨rfl,hl,h.o.touch t (λe=>e.2 (.inr (.inl rfl))),h.q.touch t (λe=>e.2 (.inr (.inr rfl))),h.t.trans (t.mono (λ_ _ e=>⟨e.1,λk=>e.2 (.inl k)⟩))⟩
theorem DN.gr(h:DN gh w0 w K c hb g x re wx)(gr:Gr wx w'):DN gh w0 w K c hb g x re w':=⟨h.hv.get gr,h.o.gr gr,h.q.gr gr,h.t.trans (gr.touch _)⟩
theorem DN.sset(h:DN gh w0 w K c hb g x re wx)(hw:w0.heap.size<=w.heap.size)(ht:1<w0.heap.size)(hk:∀k,K k->k<w.heap.size)(j:Nat)(u:Value)(hu:(FH re).set j u=FH re'):DN gh w0 w K c hb g x re' (wx.setCell ⟨w.heap.size+1,j,none⟩ u):=by
 have t:=(AB.refl (λk=>k=w.heap.size+1) wx).setCell (a:=⟨w.heap.size+1,j,none⟩) (λ_=>rfl) u;refine⟨h.hv.touch (t.mono (λk _ e=>⟨.inr (.inr e),by omega⟩)) ht,h.o.touch t Ω,?_,h.t.trans (t.mono (λk _ e=>⟨by omega,λh=>by grind⟩))⟩;have:=h.q.set j u
 simp_all
theorem DN.put(h:DN gh w0 w K c hb g x re wx)(hw:w0.heap.size<=w.heap.size)(ht:1<w0.heap.size)(hk:∀k,K k->k<w.heap.size)(r:GRe):DN gh w0 w K c hb g x r (((((((wx.setCell ⟨w.heap.size+1,0,none⟩ (.int .i64 r.code)).setCell ⟨w.heap.size+1,1,none⟩ (.bool r.is)).setCell ⟨w.heap.size+1,2,none⟩ (.int .i64 r.n)).setCell ⟨w.heap.size+1,3,none⟩ (.int .u64 (r.wd:Nat))).setCell ⟨w.heap.size+1,4,none⟩ (.int .i64 r.h.p)).setCell ⟨w.heap.size+1,5,none⟩ (.int .i64 r.h.f)).setCell ⟨w.heap.size+1,6,none⟩ (.int .i64 r.h.k)):=
 ((((((h.sset (re':=⟨r.code,re.is,re.n,re.wd,re.h⟩) hw ht hk 0 _ rfl).sset (re':=⟨r.code,r.is,re.n,re.wd,re.h⟩) hw ht hk 1 _ rfl).sset (re':=⟨r.code,r.is,r.n,re.wd,re.h⟩) hw ht hk 2 _ rfl).sset (re':=⟨r.code,r.is,r.n,r.wd,re.h⟩) hw ht hk 3 _ rfl).sset (re':=⟨r.code,r.is,r.n,r.wd,⟨r.h.p,re.h.f,re.h.k⟩⟩) hw ht hk 4 _ rfl).sset (re':=⟨r.code,r.is,r.n,r.wd,⟨r.h.p,r.h.f,re.h.k⟩⟩) hw ht hk 5 _ rfl).sset (re':=r) hw ht hk 6 _ rfl
theorem DN.fin(h:DN gh w0 w K c hb g x re wx):AB (hlT w0 K) w wx/\HLv gh w0 K c hb g wx:=⟨h.t,h.hv.own (Gr.refl _) (λ_ k=>.inl (.inl k))⟩
theorem DN.new(h:HLv gh w0 K c hb g w)(x:GOp):∃w2,w2=(w.alloc (.cells (C6 x) 37)).alloc (.cells #[.int .i64 0,.bool false,.int .i64 0,.int .u64 0,.int .i64 0,.int .i64 0,.int .i64 0] 39)/\DN gh w0 w K c hb g x (.no 0) w2:=by
 have g1:=(Gr.refl w).alloc (.cells (C6 x) 37);have g2:=(Gr.refl (w.alloc (.cells (C6 x) 37))).alloc (.cells #[.int .i64 0,.bool false,.int .i64 0,.int .u64 0,.int .i64 0,.int .i64 0,.int .i64 0] 39);have s1:=π w (.cells (C6 x) 37);have s2:=π (w.alloc (.cells (C6 x) 37)) (.cells #[.int .i64 0,.bool false,.int .i64 0,.int .u64 0,.int .i64 0,.int .i64 0,.int .i64 0] 39);refine⟨_,rfl,h.own (g1.trans g2) (λk hk=>hk.imp id (λe=>⟨by omega,by omega⟩)),(Rec.new w 37 (opL x)).gr g2,?_,(g1.trans g2).touch _⟩;have:=Rec.new (w.alloc (.cells (C6 x) 37)) 39 VcR;rw[s1]at this;exact this
theorem HLv.words_le(h:HLv gh w0 K c hb g w):g.words<=c.wd/\c.wd<=131072:=by
 obtain⟨h1,⟨s,e1,e2,-⟩,h3⟩:=h;obtain⟨L,-,-,-,h4,h5,-⟩:=e2.rch (μ _);have:=e2.bt;have:=e2.cok.wd;omega
structure DB(gh:Option (Nat×Int))(w0 w:World)(K:Nat->Prop)(c:HCf)(hb:Nat)(g:Gph)(x:GOp)(rq re:GRe)(wx:World):Prop where
 hv:HLv gh w0 (λk=>K k\/k=w.heap.size\/k=w.heap.size+1\/k=w.heap.size+2) c hb g wx
 o:Rec wx w.heap.size 37 (opL x)
 q:Rec wx (w.heap.size+1) 39 (FH rq)
 p:Rec wx (w.heap.size+2) 39 (FH re)
 t:AB (hlT w0 K) w wx
section
variable{rq rq':GRe}
theorem DB.op(h:DB gh w0 w K c hb g x rq re wx)(ho:HLo gh' w0 (λk=>K k\/k=w.heap.size\/k=w.heap.size+1\/k=w.heap.size+2) c hb wx v g' e w'):e=.returned v/\DB gh' w0 w K c hb g' x rq re w':=by
 obtain⟨rfl,t,hl⟩:=ho;exact⟨rfl,hl,h.o.touch t (λe=>e.2 (.inr (.inl rfl))),h.q.touch t (λe=>e.2 (.inr (.inr (.inl rfl)))),h.p.touch t (λe=>e.2 (.inr (.inr (.inr rfl)))),h.t.trans (t.mono (λ_ _ e=>⟨e.1,λk=>e.2 (.inl k)⟩))⟩
theorem DB.gr(h:DB gh w0 w K c hb g x rq re wx)(gr:Gr wx w'):DB gh w0 w K c hb g x rq re w':=⟨h.hv.get gr,h.o.gr gr,h.q.gr gr,h.p.gr gr,h.t.trans (gr.touch _)⟩
theorem DB.sset(h:DB gh w0 w K c hb g x rq re wx)(hw:w0.heap.size<=w.heap.size)(ht:1<w0.heap.size)(hk:∀k,K k->k<w.heap.size)(j:Nat)(u:Value)(hu:(FH re).set j u=FH re'):DB gh w0 w K c hb g x rq re' (wx.setCell ⟨w.heap.size+2,j,none⟩ u):=by
 have t:=(AB.refl (λk=>k=w.heap.size+2) wx).setCell (a:=⟨w.heap.size+2,j,none⟩) (λ_=>rfl) u;refine⟨h.hv.touch (t.mono (λk _ e=>⟨.inr (.inr (.inr e)),by omega⟩)) ht,h.o.touch t Ω,h.q.touch t Ω,?_,h.t.trans (t.mono (λk _ e=>⟨by omega,λh=>by grind⟩))⟩;have:=h.p.set j u
 simp_all
theorem DB.qset(h:DB gh w0 w K c hb g x rq re wx)(hw:w0.heap.size<=w.heap.size)(ht:1<w0.heap.size)(hk:∀k,K k->k<w.heap.size)(j:Nat)(u:Value)(hu:(FH rq).set j u=FH rq'):DB gh w0 w K c hb g x rq' re (wx.setCell ⟨w.heap.size+1,j,none⟩ u):=by
 have t:=(AB.refl (λk=>k=w.heap.size+1) wx).setCell (a:=⟨w.heap.size+1,j,none⟩) (λ_=>rfl) u;refine⟨h.hv.touch (t.mono (λk _ e=>⟨.inr (.inr (.inl e)),by omega⟩)) ht,h.o.touch t Ω,?_,h.p.touch t Ω,h.t.trans (t.mono (λk _ e=>⟨by omega,λh=>by grind⟩))⟩;have:=h.q.set j u
 simp_all
theorem DB.put(h:DB gh w0 w K c hb g x rq re wx)(hw:w0.heap.size<=w.heap.size)(ht:1<w0.heap.size)(hk:∀k,K k->k<w.heap.size)(r:GRe):DB gh w0 w K c hb g x r re (((((((wx.setCell ⟨w.heap.size+1,0,none⟩ (.int .i64 r.code)).setCell ⟨w.heap.size+1,1,none⟩ (.bool r.is)).setCell ⟨w.heap.size+1,2,none⟩ (.int .i64 r.n)).setCell ⟨w.heap.size+1,3,none⟩ (.int .u64 (r.wd:Nat))).setCell ⟨w.heap.size+1,4,none⟩ (.int .i64 r.h.p)).setCell ⟨w.heap.size+1,5,none⟩ (.int .i64 r.h.f)).setCell ⟨w.heap.size+1,6,none⟩ (.int .i64 r.h.k)):=
 ((((((h.qset (rq':=⟨r.code,rq.is,rq.n,rq.wd,rq.h⟩) hw ht hk 0 _ rfl).qset (rq':=⟨r.code,r.is,rq.n,rq.wd,rq.h⟩) hw ht hk 1 _ rfl).qset (rq':=⟨r.code,r.is,r.n,rq.wd,rq.h⟩) hw ht hk 2 _ rfl).qset (rq':=⟨r.code,r.is,r.n,r.wd,rq.h⟩) hw ht hk 3 _ rfl).qset (rq':=⟨r.code,r.is,r.n,r.wd,⟨r.h.p,rq.h.f,rq.h.k⟩⟩) hw ht hk 4 _ rfl).qset (rq':=⟨r.code,r.is,r.n,r.wd,⟨r.h.p,r.h.f,rq.h.k⟩⟩) hw ht hk 5 _ rfl).qset (rq':=r) hw ht hk 6 _ rfl
theorem DB.fin(h:DB gh w0 w K c hb g x rq re wx):AB (hlT w0 K) w wx/\HLv gh w0 K c hb g wx:=⟨h.t,h.hv.own (Gr.refl _) (λ_ k=>.inl (.inl k))⟩
theorem DB.new(h:HLv gh w0 K c hb g w)(x:GOp):∃w3,w3=((w.alloc (.cells (C6 x) 37)).alloc (.cells #[.int .i64 0,.bool false,.int .i64 0,.int .u64 0,.int .i64 0,.int .i64 0,.int .i64 0] 39)).alloc (.cells #[.int .i64 0,.bool false,.int .i64 0,.int .u64 0,.int .i64 0,.int .i64 0,.int .i64 0] 39)/\DB gh w0 w K c hb g x (.no 0) (.no 0) w3:=by
 obtain⟨w2,e2,hm⟩:=DN.new h x;have g3:=(Gr.refl w2).alloc (.cells #[.int .i64 0,.bool false,.int .i64 0,.int .u64 0,.int .i64 0,.int .i64 0,.int .i64 0] 39);have s2:w2.heap.size=w.heap.size+2:=by simp_all
 have s3:=π w2 (.cells #[.int .i64 0,.bool false,.int .i64 0,.int .u64 0,.int .i64 0,.int .i64 0,.int .i64 0] 39);refine⟨_,by rw[<-e2],hm.hv.own g3 (λk hk=>?_),hm.o.gr g3,hm.q.gr g3,?_,hm.t.trans (g3.touch _)⟩
 ·grind
 ·have:=Rec.new w2 39 VcR;rw[s2]at this;exact this
end
theorem Y5B(h:HLv gh w0 K c hb g w)(ht:1<w0.heap.size)(x:GOp)(hkk:¬(x.kd=4\/x.kd=6\/(10<=x.kd/\x.kd<=14))):Calls prog 63 #[pP hb,.agg (C6 x)] w (HLo gh w0 K c hb w (.tuple #[FT (.no 0),.bool false]) g):=by
 obtain⟨kd,xa,xb,xi,⟨hp,hf,hk⟩,xw,xf⟩:=x;obtain⟨w2,X,hm⟩:=DB.new h ⟨kd,xa,xb,xi,⟨hp,hf,hk⟩,xw,xf⟩;have HM:=hm;have Z:=h.gr.size;have Y:=ht;have J:=h.kl;have k0:=hm.o.cc 0;have kl:=hm.o.lt;obtain⟨p0,p1,p2,p3,p4,p5,p6,pl⟩:=hm.p.k7;have j0:=hm.q.cc 0;have j1:=hm.q.cc 1;have j2:=hm.q.cc 2;have j3:=hm.q.cc 3;have j4:=hm.q.cc 4;have j5:=hm.q.cc 5;have j6:=hm.q.cc 6;have jf:=hm.q.free;have jl:=hm.q.lt;unfold C6 at X⊢;dsimp only at X k0 hkk⊢;dsimp only[GRe.no]at p0 p1 p2 p3 p4 p5 p6 j0 j1 j2 j3 j4 j5 j6;have d4:(kd==4)=false:=by rw[ζl];omega
 have d6:(kd==6)=false:=by rw[ζl];omega
 have d10:(kd==10)=false:=by rw[ζl];omega
 have d11:(kd==11)=false:=by rw[ζl];omega
 have d12:(kd==12)=false:=by rw[ζl];omega
 have d13:(kd==13)=false:=by rw[ζl];omega
 have d14:(kd==14)=false:=by rw[ζl];omega
 go_in;go_upto_region 2 with(fail);rw[<-X];clear X;go_wp2;have hs:=HM.put Z Y J (.no 0);have hl:=RM hs.q;have e0:((0:Nat):Int)=0:=rfl;simp only[GRe.no,e0]at hl;refine ζH (v:=.tuple #[FT (.no 0),.bool false]) ?_ rfl ⟨rfl,hs.fin.1,hs.fin.2⟩;simp[results,results63,asAddr,hl,Result.andThen,GRe.no]
theorem Q4h(h:HLv gh w0 K c hb g w)(ht:1<w0.heap.size)(x:GOp)(hx:x.Bd)(hkk:x.kd=4\/x.kd=6\/x.kd=10\/x.kd=11\/x.kd=12\/x.kd=13\/x.kd=14):Calls prog 63 #[pP hb,.agg (C6 x)] w (HLo gh w0 K c hb w (.tuple #[FT (x.doR c.wd g),.bool true]) g):=by
 have D:=hx.wd;obtain⟨kd,xa,xb,xi,⟨hp,hf,hk⟩,xw,xf⟩:=x;obtain⟨w2,B,hm⟩:=DB.new h ⟨kd,xa,xb,xi,⟨hp,hf,hk⟩,xw,xf⟩;have HW:=B;have HM:=hm;have J:=h.gr.size;have Z:=ht;have U:=h.kl;have k0:=hm.o.cc 0;have kl:=hm.o.lt;have HX:=D;obtain⟨re,Y⟩:=ε (GOp.doR c.wd ⟨kd,xa,xb,xi,⟨hp,hf,hk⟩,xw,xf⟩ g);have M:=ι Y;rw[<-Y];unfold C6 at HW⊢;dsimp only at HW k0 hkk D HX⊢;clear h ht hm B Y D hx;go_in;go_upto_region 2 with(fail);rw[<-HW];clear HW
 go_upto_block 0 with(fail)
 go_cut [] (λwx=>Hid (DB gh w0 w K c hb g ⟨kd,xa,xb,xi,⟨hp,hf,hk⟩,xw,xf⟩ (.no 0) re wx))
 case first=>
  have k1:=HM.o.cc 1;have k2:=HM.o.cc 2;have k3:=HM.o.cc 3;have k4:=HM.o.cc 4;have k5:=HM.o.cc 5;have k6:=HM.o.cc 6;have k7:=HM.o.cc 7;have k8:=HM.o.cc 8;rcases hkk with rfl|rfl|rfl|rfl|rfl|rfl|rfl
  ·have Y:re=⟨g.fdE xa xi 3,false,0,g.fdV xa xi 3,⟨0,0,0⟩⟩:=M.o.trans rfl;have HC:=ι (HM.hv.getW xa xi);generalize g.fdV xa xi 3=V at HC Y;generalize g.fdE xa xi 3=E at HC Y;have N:=ι Y;clear Y M;go_wp2_with(go_at_call 142;refine(HC.o).mono ?_;intro e w5 ho;have hn:=HM.op ho;clear ho;obtain⟨rfl,hm⟩:=hn;have X:=ι hm;have z3:=X.o.p.cc 3;have z0:=X.o.p.cc 0;have zf:=X.o.p.free;have zl:=X.o.p.lt;clear hm)
   go_meet
   case rel=>
    rw[N.o];exact⟨((X.o.sset (re':=⟨0,false,0,V,⟨0,0,0⟩⟩) J Z U 3 (uU (V:Nat)) rfl).sset (re':=⟨E,false,0,V,⟨0,0,0⟩⟩) J Z U 0 (iI E) rfl)⟩
  ·have Y:re=⟨g.fdE xa xi 2,false,0,g.fdV xa xi 2,⟨0,0,0⟩⟩:=M.o.trans rfl;have HC:=ι (HM.hv.getF xa xi);generalize g.fdV xa xi 2=V at HC Y;generalize g.fdE xa xi 2=E at HC Y;have N:=ι Y;clear Y M
   go_wp2_with(first|(go_at_call 30;refine AJ (J6 _ _) ?_)|(go_at_call 109;refine(HC.o).mono ?_;intro e w5 ho;have hn:=HM.op ho;clear ho;obtain⟨rfl,hm⟩:=hn;have X:=ι hm;have z0:=X.o.p.cc 0;have z3:=X.o.p.cc 3;have zf:=X.o.p.free;have zl:=X.o.p.lt;clear hm))
   go_meet
   case rel=>
    rw[N.o];exact⟨((X.o.sset (re':=⟨E,false,0,0,⟨0,0,0⟩⟩) J Z U 0 (iI E) rfl).sset (re':=⟨E,false,0,V,⟨0,0,0⟩⟩) J Z U 3 (uU (V:Nat)) rfl)⟩
  ·have Y:re=⟨g.two xa xb 0,g.sl xa&&g.sl xb&&(g.at xa==g.at xb),0,0,⟨0,0,0⟩⟩:=M.o.trans rfl;have HC:=ι (HM.hv.same xa xb);generalize (g.sl xa&&g.sl xb&&(g.at xa==g.at xb))=V at HC Y;generalize g.two xa xb 0=E at HC Y;have N:=ι Y;clear Y M;go_wp2_with(go_at_call 143;refine(HC.o).mono ?_;intro e w5 ho;have hn:=HM.op ho;clear ho;obtain⟨rfl,hm⟩:=hn;have X:=ι hm;have z1:=X.o.p.cc 1;have z0:=X.o.p.cc 0;have zf:=X.o.p.free;have zl:=X.o.p.lt;clear hm)
   go_meet
   case rel=>
    rw[N.o];exact⟨((X.o.sset (re':=⟨0,V,0,0,⟨0,0,0⟩⟩) J Z U 1 (.bool V) rfl).sset (re':=⟨E,V,0,0,⟨0,0,0⟩⟩) J Z U 0 (iI E) rfl)⟩
  ·have Y:re=⟨g.shE xa,false,0,0,g.shH xa⟩:=M.o.trans rfl;have HC:=ι (HM.hv.shap xa);generalize g.shH xa=HH at HC Y;obtain⟨pp,ff,kk⟩:=HH;unfold AO at HC;dsimp only at HC;generalize g.shE xa=E at HC Y;have N:=ι Y;clear Y M;go_wp2_with(go_at_call 28;refine(HC.o).mono ?_;intro e w5 ho;have hn:=HM.op ho;clear ho;obtain⟨rfl,hm⟩:=hn;have X:=ι hm;have z4:=X.o.p.cc 4;have z5:=X.o.p.cc 5;have z6:=X.o.p.cc 6;have z0:=X.o.p.cc 0;have zf:=X.o.p.free;have zl:=X.o.p.lt;clear hm)
   go_meet
   case rel=>
    rw[N.o];exact⟨((((X.o.sset (re':=⟨0,false,0,0,⟨pp,0,0⟩⟩) J Z U 4 (iI pp) rfl).sset (re':=⟨0,false,0,0,⟨pp,ff,0⟩⟩) J Z U 5 (iI ff) rfl).sset (re':=⟨0,false,0,0,⟨pp,ff,kk⟩⟩) J Z U 6 (iI kk) rfl).sset (re':=⟨E,false,0,0,⟨pp,ff,kk⟩⟩) J Z U 0 (iI E) rfl)⟩
  ·have Y:re=⟨g.shE xa,false,0,g.smV xa,⟨0,0,0⟩⟩:=M.o.trans rfl;have HC:=ι (HM.hv.sum xa);generalize g.smV xa=V at HC Y;generalize g.shE xa=E at HC Y;have N:=ι Y;clear Y M
   go_wp2_with(first|(go_at_call 30;refine AJ (J6 _ _) ?_)|(go_at_call 144;refine(HC.o).mono ?_;intro e w5 ho;have hn:=HM.op ho;clear ho;obtain⟨rfl,hm⟩:=hn;have X:=ι hm;have z0:=X.o.p.cc 0;have z3:=X.o.p.cc 3;have zf:=X.o.p.free;have zl:=X.o.p.lt;clear hm))
   go_meet
   case rel=>
    rw[N.o];exact⟨((X.o.sset (re':=⟨E,false,0,0,⟨0,0,0⟩⟩) J Z U 0 (iI E) rfl).sset (re':=⟨E,false,0,V,⟨0,0,0⟩⟩) J Z U 3 (uU (V:Nat)) rfl)⟩
  ·have Y:re=⟨g.orE xa xi xb (if xw<256 then xw else -1),false,g.orV xa xi xb (if xw<256 then xw else -1),0,⟨0,0,0⟩⟩:=M.o.trans rfl;have HF:=ι (ZgR xw HX);generalize (if xw<256 then (xw:Int)else -1)=kx at HF Y;have HC:=ι (λW (hW:DB gh w0 w K c hb g ⟨13,xa,xb,xi,⟨hp,hf,hk⟩,xw,xf⟩ (.no 0) (.no 0) W)=>hW.hv.ord xa xi xb kx);generalize g.orV xa xi xb kx=V at HC Y;generalize g.orE xa xi xb kx=E at HC Y;have N:=ι Y;clear Y M;go_upto_region 18 with(fail);obtain⟨Sx,O,HS⟩:=AA.start λW'=>Rec W' w.heap.size 37 (opL ⟨13,xa,xb,xi,⟨hp,hf,hk⟩,xw,xf⟩);have y1:=AA.fact O λ_ h=>h.cell (j:=1) rfl;have y2:=AA.fact O λ_ h=>h.cell (j:=2) rfl;have y3:=AA.fact O λ_ h=>h.cell (j:=3) rfl;have y7:=AA.fact O λ_ h=>h.cell (j:=7) rfl;have yl:∀p:AA Sx,w.heap.size<p.w.heap.size:=λp=>by have h:=AA.get O p;exact h.lt
   have L:=HS.o _ (HM.o.gr (Gr.refl _).drew);have A:Inhabited (AA Sx):=⟨⟨_,L⟩⟩;clear O;refine BI Sx 17 [([0,1,2,3,4,5,6,7,8],9),([],10),([11,12,13,14],15),([16],17)] [] L ?_;refine AL ?_;go_wp2_with((go_at_call 146;refine AJ (HF.o _) ?_));refine⟨.inr (AA.of (HS.o _ (HM.o.gr (Gr.refl _).drew))),?_⟩;refine AL ?_;go_wp2_with((go_at_call 145;refine(HC.o _ (HM.gr (Gr.refl _).drew)).mono ?_;intro e w5 ho;have hn:=(HM.gr (Gr.refl _).drew).op ho;clear ho;obtain⟨rfl,hm⟩:=hn;have X:=ι hm;have z2:=X.o.p.cc 2;have z0:=X.o.p.cc 0;have zf:=X.o.p.free;have zl:=X.o.p.lt;clear hm));refine⟨.inr (AA.of (HS.o _ (X.o.o))),?_⟩
   try simp only[Act.put,η,ζf,ζi]
   refine AL ?_;go_wp2_with((fail));refine⟨.inr (AA.of (HS.o _ ((X.o.sset (re':=⟨0,false,V,0,⟨0,0,0⟩⟩) J Z U 2 (iI V) rfl).o))),?_⟩
   try simp only[Act.put,η,ζf,ζi]
   refine AL ?_;go_wp2;refine⟨.inl trivial,?_⟩;refine EM ?_;refine ζb ?_;refine ζx ?_;clear y1 y2 y3 y7 yl L A;clear HS Sx;go_wp2
   go_meet
   case rel=>
    rw[N.o];exact⟨((X.o.sset (re':=⟨0,false,V,0,⟨0,0,0⟩⟩) J Z U 2 (iI V) rfl).sset (re':=⟨E,false,V,0,⟨0,0,0⟩⟩) J Z U 0 (iI E) rfl)⟩
  ·have Y:re=⟨0,false,(g.all.length:Nat),g.words,⟨0,0,0⟩⟩:=M.o.trans rfl;have HC:=ι HM.hv.live;have G:=HM.hv.words_le;generalize g.words=I at HC Y G;generalize g.all.length=al at HC Y;have u1:IntKind.u64.wrap (I:Int)=I:=MQ _ Ω;clear G;have N:=ι Y;clear Y M;go_wp2_with(go_at_call 19;refine(HC.o).mono ?_;intro e w5 ho;have hn:=HM.op ho;clear ho;obtain⟨rfl,hm⟩:=hn;have X:=ι hm;have z2:=X.o.p.cc 2;have z3:=X.o.p.cc 3;have zf:=X.o.p.free;have zl:=X.o.p.lt;clear hm)
   go_meet
   case rel=>
    rw[N.o];exact⟨((X.o.sset (re':=⟨0,false,(al:Nat),0,⟨0,0,0⟩⟩) J Z U 2 (iI (al:Nat)) rfl).sset (re':=⟨0,false,(al:Nat),I,⟨0,0,0⟩⟩) J Z U 3 (uU (I:Nat)) rfl)⟩
 case rest=>
  have HD:=hcut;obtain⟨p0,p1,p2,p3,p4,p5,p6,pl⟩:=HD.o.p.k7;have j0:=HD.o.q.cc 0;have j1:=HD.o.q.cc 1;have j2:=HD.o.q.cc 2;have j3:=HD.o.q.cc 3;have j4:=HD.o.q.cc 4;have j5:=HD.o.q.cc 5;have j6:=HD.o.q.cc 6;have jf:=HD.o.q.free;have jl:=HD.o.q.lt;clear k0 kl HM;go_wp2;have hs:=HD.o.put J Z U re;have hl:=RM hs.q;refine ζH (v:=.tuple #[FT re,.bool true]) ?_ rfl ⟨rfl,hs.fin.1,hs.fin.2⟩;simp[results,results63,asAddr,hl,Result.andThen]
structure LQ(gh:Option (Nat×Int))(w0 w:World)(K:Nat->Prop)(c:HCf)(hb:Nat)(g:Gph)(x:GOp)(wx:World):Prop where
 hv:HLv gh w0 (λk=>K k\/k=w.heap.size) c hb g wx
 o:Rec wx w.heap.size 37 (opL x)
 t:AB (hlT w0 K) w wx
def ghD(gh:Option (Nat×Int))(kd:Int):Option (Nat×Int):=if kd=1\/kd=15\/kd=16 then none else gh
theorem LQ.new(h:HLv gh w0 K c hb g w)(x:GOp):∃w2,w2=w.alloc (.cells (C6 x) 37)/\LQ gh w0 w K c hb g x w2:=by
 have g1:=(Gr.refl w).alloc (.cells (C6 x) 37);have s1:=π w (.cells (C6 x) 37);exact⟨_,rfl,h.own g1 (λk hk=>hk.imp id (λe=>⟨by omega,by omega⟩)),Rec.new w 37 (opL x),g1.touch _⟩
theorem LQ.op(h:LQ gh w0 w K c hb g x wx)(ho:HLo gh' w0 (λk=>K k\/k=w.heap.size) c hb wx v g' e w'):e=.returned v/\Hid (HLo gh' w0 K c hb w v g' e w'):=by
 obtain⟨rfl,t,hl⟩:=ho;exact⟨rfl,⟨rfl,h.t.trans (t.mono (λ_ _ e=>⟨e.1,λk=>e.2 (.inl k)⟩)),hl.own (Gr.refl _) (λ_ k=>.inl (.inl k))⟩⟩
theorem LQ.done(h:LQ gh w0 w K c hb g x wx)(v:Value):HLo gh w0 K c hb w v g (.returned v) wx:=⟨rfl,h.t,h.hv.own (Gr.refl _) (λ_ k=>.inl (.inl k))⟩
theorem HLo.as(h:HLo gh w0 K c hb w v g' e w'):HLo gh w0 K c hb w v' g' (.returned v') w':=⟨rfl,h.2.1,h.2.2⟩
theorem QJf(h:HLv gh w0 K c hb g w)(x:GOp)(hx:x.Bd)(hkk:¬(x.kd=4\/x.kd=6\/(10<=x.kd/\x.kd<=14))):Calls prog 64 #[pP hb,.agg (C6 x)] w (HLo (ghD gh x.kd) w0 K c hb w (iI (x.doR c.wd g).code) (x.doG c.wd g)):=by
 have Z:=hx.wd;have Y:=hx.fl;obtain⟨kd,xa,xb,xi,⟨hp,hf,hk⟩,xw,xf⟩:=x;obtain⟨w2,X,hm⟩:=LQ.new h ⟨kd,xa,xb,xi,⟨hp,hf,hk⟩,xw,xf⟩;have HM:=hm;obtain⟨k0,k1,k2,k3,k4,k5,k6,k7,k8,kl⟩:=hm.o.k9;unfold C6 at X⊢;dsimp only at X k0 k1 k2 k3 k4 k5 k6 k7 k8 hkk Z Y⊢;have M:kd=1\/kd=2\/kd=3\/kd=5\/kd=7\/kd=8\/kd=9\/kd=15\/kd=16\/kd=17\/(kd<1\/17<kd):=Ω
 rcases M with rfl|rfl|rfl|rfl|rfl|rfl|rfl|rfl|rfl|rfl|V
 ·rw[show (GOp.doR c.wd ⟨1,xa,xb,xi,⟨hp,hf,hk⟩,xw,xf⟩ g).code=g.alE c.wd xa ⟨hp,hf,hk⟩from rfl,show GOp.doG c.wd ⟨1,xa,xb,xi,⟨hp,hf,hk⟩,xw,xf⟩ g=g.alG c.wd xa ⟨hp,hf,hk⟩from rfl];have HC:=(HM.hv.allo xa ⟨hp,hf,hk⟩);unfold AO at HC;dsimp only at HC;go_in;go_upto_region 1 with(fail);rw[<-X];clear X;go_wp2_with(go_at_call 22;refine HC.mono ?_;intro e w5 ho;have hn:=HM.op ho;obtain⟨rfl,HE⟩:=hn);go_ret;exact HE.o
 ·rw[show (GOp.doR c.wd ⟨2,xa,xb,xi,⟨hp,hf,hk⟩,xw,xf⟩ g).code=g.loE xa xb xi from rfl,show GOp.doG c.wd ⟨2,xa,xb,xi,⟨hp,hf,hk⟩,xw,xf⟩ g=g.loG xa xb xi from rfl];have HC:=(HM.hv.load xa xb xi);go_in;go_upto_region 1 with(fail);rw[<-X];clear X;go_wp2_with(go_at_call 93;refine HC.mono ?_;intro e w5 ho;have hn:=HM.op ho;clear ho;obtain⟨rfl,HE⟩:=hn);go_ret;exact HE.o
 ·rw[show (GOp.doR c.wd ⟨3,xa,xb,xi,⟨hp,hf,hk⟩,xw,xf⟩ g).code=g.stE xa xi xb from rfl,show GOp.doG c.wd ⟨3,xa,xb,xi,⟨hp,hf,hk⟩,xw,xf⟩ g=g.stG xa xi xb from rfl];have HC:=(HM.hv.stor xa xi xb);clear Z Y;go_in;go_upto_region 1 with(fail);rw[<-X];clear X;go_wp2_with(go_at_call 89;refine HC.mono ?_;intro e w5 ho;have hn:=HM.op ho;clear ho;obtain⟨rfl,HE⟩:=hn);go_ret;exact HE.o
 ·rw[show (GOp.doR c.wd ⟨5,xa,xb,xi,⟨hp,hf,hk⟩,xw,xf⟩ g).code=g.fdE xa xi 3 from rfl,show GOp.doG c.wd ⟨5,xa,xb,xi,⟨hp,hf,hk⟩,xw,xf⟩ g=g.wrG xa xi 3 xw from rfl];have HC:=(HM.hv.setW xa xi Z);clear Z Y;go_in;go_upto_region 1 with(fail);rw[<-X];clear X;go_wp2_with(go_at_call 103;refine HC.mono ?_;intro e w5 ho;have hn:=HM.op ho;clear ho;obtain⟨rfl,HE⟩:=hn);go_ret;exact HE.o
 ·rw[show (GOp.doR c.wd ⟨7,xa,xb,xi,⟨hp,hf,hk⟩,xw,xf⟩ g).code=g.fdE xa xi 2 from rfl,show GOp.doG c.wd ⟨7,xa,xb,xi,⟨hp,hf,hk⟩,xw,xf⟩ g=g.wrG xa xi 2 xf from rfl];have HC:=(HM.hv.setF xa xi Y);clear Z Y;go_in;go_upto_region 1 with(fail);rw[<-X];clear X;go_wp2_with(go_at_call 102;refine HC.mono ?_;intro e w5 ho;have hn:=HM.op ho;clear ho;obtain⟨rfl,HE⟩:=hn);go_ret;exact HE.o
 ·rw[show (GOp.doR c.wd ⟨8,xa,xb,xi,⟨hp,hf,hk⟩,xw,xf⟩ g).code=g.two xa xb 0 from rfl,show GOp.doG c.wd ⟨8,xa,xb,xi,⟨hp,hf,hk⟩,xw,xf⟩ g=g.cpG xa xb from rfl];have HC:=(HM.hv.copy xa xb);clear Z Y;go_in;go_upto_region 1 with(fail);rw[<-X];clear X;go_wp2_with(go_at_call 90;refine HC.mono ?_;intro e w5 ho;have hn:=HM.op ho;clear ho;obtain⟨rfl,HE⟩:=hn);go_ret;exact HE.o
 ·rw[show (GOp.doR c.wd ⟨9,xa,xb,xi,⟨hp,hf,hk⟩,xw,xf⟩ g).code=g.slE xa from rfl,show GOp.doG c.wd ⟨9,xa,xb,xi,⟨hp,hf,hk⟩,xw,xf⟩ g=g.clG xa from rfl];have HC:=(HM.hv.clr xa);clear Z Y;go_in;go_upto_region 1 with(fail);rw[<-X];clear X;go_wp2_with(go_at_call 45;refine HC.mono ?_;intro e w5 ho;have hn:=HM.op ho;clear ho;obtain⟨rfl,HE⟩:=hn);go_ret;exact HE.o
 ·rw[show (GOp.doR c.wd ⟨15,xa,xb,xi,⟨hp,hf,hk⟩,xw,xf⟩ g).code=0 from rfl,show GOp.doG c.wd ⟨15,xa,xb,xi,⟨hp,hf,hk⟩,xw,xf⟩ g=g from rfl];have HC:=(HM.hv.coll);clear Z Y;go_in;go_upto_region 1 with(fail);rw[<-X];clear X;go_wp2_with(go_at_call 13;refine HC.mono ?_;intro e w5 ho;have hn:=HM.op ho;clear ho;obtain⟨rfl,HE⟩:=hn);go_ret;exact HE.o.as
 ·rw[show (GOp.doR c.wd ⟨16,xa,xb,xi,⟨hp,hf,hk⟩,xw,xf⟩ g).code=0 from rfl,show GOp.doG c.wd ⟨16,xa,xb,xi,⟨hp,hf,hk⟩,xw,xf⟩ g=g from rfl];have HC:=(HM.hv.start);clear Z Y;go_in;go_upto_region 1 with(fail);rw[<-X];clear X;go_wp2_with(go_at_call 14;refine HC.mono ?_;intro e w5 ho;have hn:=HM.op ho;clear ho;obtain⟨rfl,HE⟩:=hn);go_ret;exact HE.o.as
 ·rw[show (GOp.doR c.wd ⟨17,xa,xb,xi,⟨hp,hf,hk⟩,xw,xf⟩ g).code=0 from rfl,show GOp.doG c.wd ⟨17,xa,xb,xi,⟨hp,hf,hk⟩,xw,xf⟩ g=g from rfl];have HC:=(HM.hv.step);clear Z Y;go_in;go_upto_region 1 with(fail);rw[<-X];clear X;go_wp2_with(go_at_call 15;refine HC.mono ?_;rintro e w5 ⟨bb,ho⟩;have hn:=HM.op ho;clear ho;obtain⟨rfl,HE⟩:=hn);go_ret;exact HE.o.as
 ·have U:GOp.doR c.wd ⟨kd,xa,xb,xi,⟨hp,hf,hk⟩,xw,xf⟩ g=.no 24:=by unfold GOp.doR;dsimp only;rw[ψ Ω];rw[ψ Ω];rw[ψ Ω];rw[ψ Ω];rw[ψ Ω];rw[ψ Ω];rw[ψ Ω];rw[ψ Ω];rw[ψ Ω];rw[ψ Ω];rw[ψ Ω];rw[ψ Ω];rw[ψ Ω];rw[ψ Ω];rw[ψ Ω]
  have J:GOp.doG c.wd ⟨kd,xa,xb,xi,⟨hp,hf,hk⟩,xw,xf⟩ g=g:=by unfold GOp.doG;dsimp only;rw[ψ Ω];rw[ψ Ω];rw[ψ Ω];rw[ψ Ω];rw[ψ Ω];rw[ψ Ω];rw[ψ Ω]
  rw[U,J,show ghD gh (GOp.mk kd xa xb xi ⟨hp,hf,hk⟩ xw xf).kd=gh from ψ (by dsimp only;omega)];have d1:(kd==1)=false:=by rw[ζl];omega
  have d2:(kd==2)=false:=by rw[ζl];omega
  have d3:(kd==3)=false:=by rw[ζl];omega
  have d5:(kd==5)=false:=by rw[ζl];omega
  have d7:(kd==7)=false:=by rw[ζl];omega
  have d8:(kd==8)=false:=by rw[ζl];omega
  have d9:(kd==9)=false:=by rw[ζl];omega
  have d15:(kd==15)=false:=by rw[ζl];omega
  have d16:(kd==16)=false:=by rw[ζl];omega
  have d17:(kd==17)=false:=by rw[ζl];omega
  clear U J V Z Y;go_in;go_upto_region 1 with(fail);rw[<-X];clear X;go_wp2;go_ret;exact HM.done _
theorem XbQ(h:x.kd=4\/x.kd=6\/x.kd=10\/x.kd=11\/x.kd=12\/x.kd=13\/x.kd=14):x.doG C g=g:=by
 unfold GOp.doG;rw[ψ Ω];rw[ψ Ω];rw[ψ Ω]
 grind
theorem Jf8(hno:x.kd<1\/17<x.kd):x.doR C g=.no 24:=by
 unfold GOp.doR;rw[ψ Ω];rw[ψ Ω];rw[ψ Ω];rw[ψ Ω];rw[ψ Ω];rw[ψ Ω]
 grind
theorem Y1L(h:¬(x.kd=4\/x.kd=6\/(10<=x.kd/\x.kd<=14))):x.doR C g=.no (x.doR C g).code:=by
 obtain⟨kd,xa,xb,xi,xh,xw,xf⟩:=x;dsimp only at h;have Y:kd=1\/kd=2\/kd=3\/kd=5\/kd=7\/kd=8\/kd=9\/kd=15\/kd=16\/kd=17\/(kd<1\/17<kd):=Ω
 rcases Y with rfl|rfl|rfl|rfl|rfl|rfl|rfl|rfl|rfl|rfl|X
 all_goals first
  | rfl
  | (rw[Jf8 (x:=⟨kd,xa,xb,xi,xh,xw,xf⟩) X];rfl)
theorem VWw(h:HLv gh w0 K c hb g w)(ht:1<w0.heap.size)(x:GOp)(hx:x.Bd)(hkk:x.kd=4\/x.kd=6\/x.kd=10\/x.kd=11\/x.kd=12\/x.kd=13\/x.kd=14):Calls prog 16 #[pP hb,.agg (C6 x)] w (HLo gh w0 K c hb w (FT (x.doR c.wd g)) (x.doG c.wd g)):=by
 rw[XbQ hkk];obtain⟨w2,X,hm⟩:=DN.new h x;have HM:=hm;have J:=h.gr.size;have Z:=ht;have U:=h.kl;have V:=hm.hv.isnt;have k0:=hm.o.cc 0;have k1:=hm.o.cc 1;have k2:=hm.o.cc 2;have k3:=hm.o.cc 3;have k4:=hm.o.cc 4;have k5:=hm.o.cc 5;have k6:=hm.o.cc 6;have k7:=hm.o.cc 7;have k8:=hm.o.cc 8;have j0:=hm.q.cc 0;have j1:=hm.q.cc 1;have j2:=hm.q.cc 2;have j3:=hm.q.cc 3;have j4:=hm.q.cc 4;have j5:=hm.q.cc 5;have j6:=hm.q.cc 6;have jf:=hm.q.free;have jl:=hm.q.lt;have kl:=hm.o.lt;have HC:=(Q4h hm.hv ht x hx hkk);generalize x.doR c.wd g=re at HC⊢;obtain⟨kd,xa,xb,xi,⟨hp,hf,hk⟩,xw,xf⟩:=x;unfold C6 at X HC⊢;dsimp only at X HC k0 k1 k2 k3 k4 k5 k6 k7 k8⊢;unfold FT FH at HC;go_in;go_upto_region 1 with(fail);rw[<-X];clear X
 go_wp2_with(first|(go_at_call 51;refine AJ V ?_)|(go_at_call 63;refine HC.mono ?_;intro e w3 ho;have hn:=HM.op ho;obtain⟨rfl,hm⟩:=hn;have j0:=hm.q.cc 0;have j1:=hm.q.cc 1;have j2:=hm.q.cc 2;have j3:=hm.q.cc 3;have j4:=hm.q.cc 4;have j5:=hm.q.cc 5;have j6:=hm.q.cc 6;have jf:=hm.q.free;have jl:=hm.q.lt))
 have HS:=hm.put J Z U re;have Y:=HS.gr ((Gr.refl _).alloc (.cells #[.int .i64 re.code,.bool re.is,.int .i64 re.n,.int .u64 (re.wd:Nat),.int .i64 re.h.p,.int .i64 re.h.f,.int .i64 re.h.k] 39));have hl:=RM Y.q;refine ζH (v:=FT re) ?_ rfl ⟨rfl,Y.fin.1,Y.fin.2⟩;simp[results,results16,asAddr,hl]
theorem J8P(h:HLv gh w0 K c hb g w)(ht:1<w0.heap.size)(x:GOp)(hx:x.Bd)(hkk:¬(x.kd=4\/x.kd=6\/(10<=x.kd/\x.kd<=14))):Calls prog 16 #[pP hb,.agg (C6 x)] w (HLo (ghD gh x.kd) w0 K c hb w (FT (x.doR c.wd g)) (x.doG c.wd g)):=by
 rw[Y1L (C:=c.wd) (g:=g) hkk];obtain⟨w2,Y,hm⟩:=DN.new h x;have HM:=hm;have V:=h.gr.size;have J:=ht;have N:=h.kl;have O:=hm.hv.isnt;have k0:=hm.o.cc 0;have k1:=hm.o.cc 1;have k2:=hm.o.cc 2;have k3:=hm.o.cc 3;have k4:=hm.o.cc 4;have k5:=hm.o.cc 5;have k6:=hm.o.cc 6;have k7:=hm.o.cc 7;have k8:=hm.o.cc 8;have j0:=hm.q.cc 0;have j1:=hm.q.cc 1;have j2:=hm.q.cc 2;have j3:=hm.q.cc 3;have j4:=hm.q.cc 4;have j5:=hm.q.cc 5;have j6:=hm.q.cc 6;have jf:=hm.q.free;have jl:=hm.q.lt;have kl:=hm.o.lt;have HC:=(Y5B hm.hv ht x hkk);have HU:=(λW (hW:DN gh w0 w K c hb g x (.no 0) W)=>QJf hW.hv x hx hkk);generalize (x.doR c.wd g).code=cd at HU⊢;generalize x.doG c.wd g=g2 at HU⊢;obtain⟨kd,xa,xb,xi,⟨hp,hf,hk⟩,xw,xf⟩:=x;unfold C6 at Y HC HU⊢;dsimp only at Y HC HU k0 k1 k2 k3 k4 k5 k6 k7 k8⊢;unfold FT FH GRe.no at HC;go_in;go_upto_region 1 with(fail);rw[<-Y];clear Y
 go_upto_region 6 with(first|(go_at_call 51;refine AJ O ?_)|(go_at_call 63;refine HC.mono ?_;intro e w3 ho;have hn:=HM.op ho;obtain⟨rfl,hm⟩:=hn;have U:=hm))
 obtain⟨w4,Z⟩:=ε (w3.alloc (.cells #[.int .i64 0,.bool false,.int .i64 0,.int .u64 0,.int .i64 0,.int .i64 0,.int .i64 0] 39));have X:Hid (DN gh w0 w K c hb g ⟨kd,xa,xb,xi,⟨hp,hf,hk⟩,xw,xf⟩ (.no 0) w4):=⟨by rw[Z];exact U.gr ((Gr.refl w3).alloc _)⟩;rw[<-Z];obtain⟨k0,k1,k2,k3,k4,k5,k6,k7,k8,kl⟩:=X.o.o.k9;clear Z;have M:=(HU _ X.o);go_wp2_with(go_at_call 64;refine M.mono ?_;intro e w5 ho;have hn:=X.o.op ho;obtain⟨rfl,hm⟩:=hn;have j0:=hm.q.cc 0;have j1:=hm.q.cc 1;have j2:=hm.q.cc 2;have j3:=hm.q.cc 3;have j4:=hm.q.cc 4;have j5:=hm.q.cc 5;have j6:=hm.q.cc 6;have jf:=hm.q.free;have jl:=hm.q.lt);have HS:=hm.put V J N (.no cd);have hl:=RM HS.q;have e0:((0:Nat):Int)=0:=rfl;simp only[GRe.no,e0]at hl;refine ζH (v:=FT (.no cd)) ?_ rfl ⟨rfl,HS.fin.1,HS.fin.2⟩;simp[results,results16,asAddr,hl,GRe.no]
theorem HLv.doT(h:HLv gh w0 K c hb g w)(ht:1<w0.heap.size)(x:GOp)(hx:x.Bd):Calls prog 16 #[pP hb,.agg (C6 x)] w (HLo (ghD gh x.kd) w0 K c hb w (FT (x.doR c.wd g)) (x.doG c.wd g)):=by
 by_cases hk:x.kd=4\/x.kd=6\/x.kd=10\/x.kd=11\/x.kd=12\/x.kd=13\/x.kd=14
 ·rw[show ghD gh x.kd=gh from ψ Ω];exact VWw h ht x hx hk
 ·exact J8P h ht x hx Ω
theorem HLv.do(h:HLv gh w0 K c hb g w)(ht:1<w0.heap.size)(x:GOp)(hx:x.Bd):Calls prog 16 #[pP hb,.agg (C6 x)] w (HLo none w0 K c hb w (FT (x.doR c.wd g)) (x.doG c.wd g)):=(h.doT ht x hx).mono λ_ _ h=>⟨h.1,h.2.1,h.2.2.no⟩
theorem SP{c:CfI}(h:Rec W b 24 (CY c)):W.cell? ⟨b,0,none⟩=some (iI c.kd)/\W.cell? ⟨b,1,none⟩=some (iI c.pg)/\W.cell? ⟨b,2,none⟩=some (iI c.bk)/\W.cell? ⟨b,3,none⟩=some (iI c.wd)/\W.cell? ⟨b,4,none⟩=some (iI c.sl)/\W.cell? ⟨b,5,none⟩=some (iI c.st)/\W.cell? ⟨b,6,none⟩=some (iI c.ah)/\W.cell? ⟨b,7,none⟩=some (.float .f64 c.tr)/\b<W.heap.size:=
 ⟨h.cc 0,h.cc 1,h.cc 2,h.cc 3,h.cc 4,h.cc 5,h.cc 6,h.cc 7,h.lt⟩
theorem YUJ(c:CfI)(hn:n<=120)(A:Option Addr)(cap:Nat)(w:World):Calls prog 10 #[c.V,.slice A n cap] w λe w'=>e=.returned (.bool (decide (2048<c.wd)))/\Gr w w':=by
 have hr:=Rec.new w 24 (CY c);have HG:=ι ((Gr.refl w).alloc (.cells (CY c).toArray 24));have c3:=hr.cc 3;have cl:=hr.lt;have hd:decide ((120:Int)<(n:Int))=false:=ζ Ω;unfold CfI.V;unfold CY at c3 cl HG;clear hr hn;cases hb:decide ((2048:Int)<c.wd)
 all_goals
  go_in;go_wp2;go_ret;exact⟨rfl,HG.o⟩
def JO(k:Int):CfI:=⟨k,4,4,16,3,2,1,4607182418800017408⟩
theorem XK4(k:Int)(w:World):Calls prog 44 #[iI k] w λe w'=>e=.returned (JO k).V/\Gr w w':=by
 unfold CfI.V JO;have hsf:=WU;have hr:=Rec.new w 24 [iI k,iI 4,iI 4,iI 16,iI 3,iI 2,iI 1,.float .f64 4607182418800017408];have HL:=ι (QD hr (by kernel_rfl) (by kernel_rfl));clear hr;go_in;go_wp2;have hl:=HL.o;refine ζH (v:=.agg #[iI k,iI 4,iI 4,iI 16,iI 3,iI 2,iI 1,.float .f64 4607182418800017408]) ?_ rfl ⟨rfl,(Gr.refl w).alloc _⟩;simp[results,results44,asAddr,hl]
def x7:Hdr:=⟨0,0,7⟩
def TI:Gph:=Gph.nil 3
def VG:Gph:=TI.alG 16 0 x7
def WF:Gph:=VG.alG 16 1 x7
def VO:Gph:=WF.alG 16 2 x7
def QMF:Gph:=VO.clG 0
theorem JK1:TI.alE 16 0 x7=0/\VG.alE 16 1 x7=0/\WF.alE 16 2 x7=21/\VO.slE 0=0/\QMF.alE 16 2 x7=0:=by decide +kernel
theorem YG:(JO 1).may=true/\(JO 2).may=true/\(JO 3).may=true:=by decide +kernel
theorem Zse(w:World)(hT:AQ w):Calls prog 11 #[] w λe w'=>e=.returned (.bool true)/\Gr w w':=by
 have HT:=ι hT;have hx:=JK1;have Xo:=ι hx.1;have Xf:=ι hx.2.1;have Xe:=ι hx.2.2.1;have Xp:=ι hx.2.2.2.1;have Xn:=ι hx.2.2.2.2;clear hT hx;go_in;go_wp2
 go_loopw [1] (λs1 wr=>∃k:Nat,1<=k/\k<=4/\Hid (Gr w wr)/\s1=iI k) (λs1 _=>5-(intOf s1).toNat)
 case atStart=>exact⟨1,μ _,by omega,⟨Gr.refl w⟩,rfl⟩
 case round=>
  obtain⟨k,hk1,hk4,HG,rfl⟩:=hrel;by_cases hlast:k<=3
  ·have Xk:(k:Int)<=3:=Ω
   have hm:(JO k).may=true:=by
    rcases(by omega:k=1\/k=2\/k=3)with rfl|rfl|rfl
    ·exact YG.1
    ·exact YG.2.1
    ·exact YG.2.2
   have U:=ι (λ(W:World) (gg:Gr w W)=>TS (JO k) ⟨by show (4:Int)<=_;decide,by show (4:Int)<=_;decide,by show (16:Int)<=_;decide⟩ hm W (gg.tab HT.o.lt HT.o));obtain⟨d,hd⟩:=ε ((JO k).nat);have HD:Hid (d.wd=16/\d.sl=3):=⟨by rw[hd];exact⟨rfl,rfl⟩⟩;rw[<-hd]at U;have O:=ι (λ(W:World)=>XK4 k W);obtain⟨cv,hcv⟩:=ε ((JO k).V);rw[<-hcv]at U O;clear hm hd hcv
   go_upto_region 5 with(first|(go_at_call 44;refine Qa (O.o _) λw1 hg=>?_;have Xa:=ι (HG.o.trans hg);clear hg)|(go_at_call 12;refine(U.o _ Xa.o).mono ?_;rintro e w2 ⟨s,rfl,hn⟩;have HN:=ι hn;clear hn))
   have J:=HLv.new HN.o;obtain⟨hb,G⟩:=ε s.A.hp;rw[<-G]at J⊢;have X:=Rec.new w2 34 [iI 0,iI 0,iI 7];have M:=(Gr.refl w2).alloc (.cells #[.int .i64 0,.int .i64 0,.int .i64 7] 34);have D:=π w2 (.cells #[.int .i64 0,.int .i64 0,.int .i64 7] 34);go_upto_region 6 with(fail);obtain⟨w3,I⟩:=ε (w2.alloc (.cells #[.int .i64 0,.int .i64 0,.int .i64 7] 34));rw[<-I]at X M D⊢;obtain⟨xb,E⟩:=ε w2.heap.size;rw[<-E]at X⊢;have N:=J.own (K':=λk=>k=xb) M (λk hk=>.inr (by have hk:k=xb:=hk;omega));rw[HD.o.2]at N;have Xj:Hid (HLv none w1 (λk=>k=xb) d hb TI w3):=⟨N⟩;have HR:=ι X;have Y:Hid (¬hlT w1 (λk=>k=xb) xb):=⟨λh=>h.2 rfl⟩;obtain⟨y0,y1,y2,yl⟩:=X.k3
   have Z:Hid (∀(W:World) (g:Gph) (a:Int),HLv none w1 (λk=>k=xb) d hb g W->Calls prog 22 #[pP hb,iI a,.agg #[iI 0,iI 0,iI 7]] W λe w'=>e=.returned (iI (g.alE 16 a x7))/\AB (hlT w1 (λk=>k=xb)) W w'/\HLv none w1 (λk=>k=xb) d hb (g.alG 16 a x7) w'):=⟨λW g a h=>by
    have:=h.alloc a x7;rw[HD.o.1]at this
    exact this⟩
   have Xm:Hid (∀(W:World) (g:Gph) (a:Int),HLv none w1 (λk=>k=xb) d hb g W->Calls prog 45 #[pP hb,iI a] W λe w'=>e=.returned (iI (g.slE a))/\AB (hlT w1 (λk=>k=xb)) W w'/\HLv none w1 (λk=>k=xb) d hb (g.clG a) w'):=⟨λW g a h=>h.clear a⟩;clear J G X M D I E N
   go_wp2_with(first|(have hm:=Xd.o;go_at_call 22;refine Qa (Z.o _ QMF 2 hm) λw8⟨ht,hl⟩=>?_;rw[Xn.o];have Xl:=ι hl;have HT5:=ι ((B.o.trans ht));have rr:=HR.o.touch (B.o.trans ht) Y.o;obtain⟨y0,y1,y2,yl⟩:=rr.k3;clear rr;clear ht hl hm)|(have hm:=Xi.o;go_at_call 45;refine Qa (Xm.o _ VO 0 hm) λw7⟨ht,hl⟩=>?_;rw[Xp.o];have Xd:=ι hl;have B:=ι ((Xc.o.trans ht));have rr:=HR.o.touch (Xc.o.trans ht) Y.o;obtain⟨y0,y1,y2,yl⟩:=rr.k3;clear rr;clear ht hl hm)|(have hm:=Xh.o;go_at_call 22;refine Qa (Z.o _ WF 2 hm) λw6⟨ht,hl⟩=>?_;rw[Xe.o];have Xi:=ι hl;have Xc:=ι ((Xb.o.trans ht));have rr:=HR.o.touch (Xb.o.trans ht) Y.o;obtain⟨y0,y1,y2,yl⟩:=rr.k3;clear rr;clear ht hl hm)|(have hm:=Xg.o;go_at_call 22;refine Qa (Z.o _ VG 1 hm) λw5⟨ht,hl⟩=>?_;rw[Xf.o];have Xh:=ι hl;have Xb:=ι ((L.o.trans ht));have rr:=HR.o.touch (L.o.trans ht) Y.o;obtain⟨y0,y1,y2,yl⟩:=rr.k3;clear rr;clear ht hl hm)|(have hm:=Xj.o;go_at_call 22;refine Qa (Z.o _ TI 0 hm) λw4⟨ht,hl⟩=>?_;rw[Xo.o];have Xg:=ι hl;have L:=ι (ht);have rr:=HR.o.touch ht Y.o;obtain⟨y0,y1,y2,yl⟩:=rr.k3;clear rr;clear ht hl hm))
   go_round
   case rel=>exact⟨k+1,by omega,by omega,⟨Xa.o.trans Xl.o.gr⟩,by go_num⟩
   case measure=>simp[intOf];omega
  ·have Xk:¬(k:Int)<=3:=Ω
   go_wp2;go_ret;exact⟨rfl,HG.o⟩
theorem QRE(c:CfI)(hn:120<n)(A:Option Addr)(cap:Nat)(w:World):Calls prog 10 #[c.V,.slice A n cap] w λe w'=>e=.returned (.bool true)/\Gr w w':=by
 have hr:=Rec.new w 24 (CY c);have HG:=ι ((Gr.refl w).alloc (.cells (CY c).toArray 24));have c3:=hr.cc 3;have cl:=hr.lt;have hd:decide ((120:Int)<(n:Int))=true:=φ Ω;unfold CfI.V;unfold CY at c3 cl HG;clear hr hn;cases hb:decide ((2048:Int)<c.wd)
 all_goals
  go_in;go_wp2;go_ret;exact⟨rfl,HG.o⟩
def QAB(w:World)(nb mb:Nat)(F:Nat->Nat)(T':List Nat)(v:Value)(d:CK)(e:Ending)(w':World):Prop:=
 ∃v1 v2 v3,e=.returned (.agg #[v1,v2,v3])/\DK w' w.heap.size v1 v2 v3 d/\AB (EW nb mb v) w w'/\∃v',CS w' nb mb F T' v'/\∀g,v'.ownBlock=some g->(v.ownBlock=some g\/w.heap.size<=g)/\v1.ownBlock≠some g
structure T9(w:World)(nb mb hp:Nat)(F:Nat->Nat)(v:Value)(a:Nat)(al ww:List Nat)(p f k:Nat)(TT:Nat->List Nat):Prop where
 sz:ww.length=p+f+k/\ww.length<=255
 ab:a<2147483648
 rd:∀V,AB (EW nb mb v) w V->Calls prog 95 #[.iface 136 (.agg #[pP hp]),iI (a:Nat)] V λe w'=>e=.returned (.tuple #[AO ⟨p,f,k⟩,iI 0])/\Gr V w'
 ld:∀V,AB (EW nb mb v) w V->∀i,i<ww.length->Calls prog 328 #[.agg #[pP hp],iI (a+1+i:Nat)] V λe w'=>e=.returned (.tuple #[uU ((if i<p then F (ww.getD i 0)else ww.getD i 0:Nat):Nat),iI 0])/\Gr V w'
 nm:∀i,i<p->F (ww.getD i 0)<2147483648/\∀V v',CS V nb mb F (TT i) v'->Calls prog 68 #[pP nb,iI (F (ww.getD i 0):Nat)] V λe w'=>e=.returned (iI (plL al (ww.getD i 0)))/\MY V nb mb F (TT (i+1)) v' w'
 tt:∀i,p<=i->TT i=TT p
section
variable{hp:Nat}{x:Nat}
theorem Vj1(h:HIn w c g s){xs:List Nat}(hxs:∀y∈xs,y≠0->g.Rd y)(hall:∃S,g.all=BP T xs++S)(hln:g.all.length<=1000000){i:Nat}(hi:i<xs.length):s.F (xs.getD i 0)<2147483648/\∀V v',CS V nb mb s.F (BP T (xs.take i)) v'->Calls prog 68 #[pP nb,iI (s.F (xs.getD i 0):Nat)] V λe w'=>e=.returned (iI (plL g.all (xs.getD i 0)))/\MY V nb mb s.F (BP T (xs.take (i+1))) v' w':=by
 have hcut:xs.take (i+1)=xs.take i++[xs.getD i 0]:=by
  simp_all
 have hy:xs.getD i 0∈xs:=by
  simp_all
 generalize xs.getD i 0=y at hcut hy⊢;have hbt:=h.bt;have hbs:=h.bs;have hwd:=h.cok.wd;have hpg:=h.cok.pw;have X:y≠0->g.Rd y:=hxs y hy
 have Z:s.F y<2147483648:=by
  by_cases h0:y=0
  ·rw[h0,h.img.z];decide
  ·have h1:=h.img.lo y (X h0);omega
 refine⟨Z,λV v' hV=>?_⟩;obtain⟨S,hS2⟩:=hall;have e1:BP (BP T (xs.take i)) [y]=BP T (xs.take (i+1)):=by grind [JH2]
 obtain⟨S1,h1⟩:=L9 (xs.drop (i+1)) (BP T (xs.take (i+1)));rw[<-JH2,ψp]at h1;obtain⟨S0,h0⟩:=L9 [y] (BP T (xs.take i));rw[e1]at h0;have Y:∀z∈BP T (xs.take i),g.Rd z:=λz hz=>h.gok.mem_all.1 (by simp_all)
 have J:(BP T (xs.take i)).length<=1000000:=by
  grind
 have hal:plL g.all y=plL (BP T (xs.take (i+1))) y:=by
  grind [ξj,XgR,KQ]
 have:=YNV hV (y:=y) (λe=>by rw[e];exact h.img.z) (λe=>h.img.pos (X e)) (λe z hz e2=>h.img.inj (Y z hz) (X e) e2) Ω J
 simp_all
theorem T9.of(h:HIn w c g s)(hS:∀k,EW nb mb v k->¬s.S k/\k≠1)(hx:g.Rd x)(hall:∃S,g.all=BP T (g.pts x)++S)(hln:g.all.length<=1000000):T9 w nb mb s.A.hp s.F v (s.F x) g.all (g.ob x).w (g.ob x).p (g.ob x).f (g.ob x).k (λi=>BP T ((g.pts x).take i)):=by
 obtain⟨J,X⟩:=h.gok.rd hx;obtain⟨l1,l2⟩:=h.gok.len _ (Gph.ob_mem J X);have HI:∀V,AB (EW nb mb v) w V->HIn V c g s:=λV t=>h.touch t (λk _ e=>hS k e);have Y:=h.img.lo x hx;have hbt:=h.bt;have hbs:=h.bs;have hwd:=h.cok.wd;have hpg:=h.cok.pw;have hsz:(g.ob x).size=1+(g.ob x).p+(g.ob x).f+(g.ob x).k:=rfl;have htop:s.top<2147483648:=Ω
 have hF:∀y,g.Rd y->s.F y<2147483648:=λy hy=>by have:=h.img.lo y hy;omega
 have hpl:(g.pts x).length=(g.ob x).p:=by unfold Gph.pts;rw[ξc];omega
 have Z:∀i,i<(g.ob x).p->(g.pts x).getD i 0=(g.ob x).w.getD i 0:=λi hi=>by
  unfold Gph.pts;rw[κ,ψG hi,κ]
 refine⟨⟨l1,by omega⟩,hF x hx,λV t=>?_,λV t i hi=>?_,λi hi=>?_,λi hi=>?_⟩
 ·have hv:=HI V t;have hr:=NZ (z:=spL c g (s.cut V)) (YQv c g (s.cut V)) (hv.lk (λ_=>False)) (s.F x:Nat) (λ_=>⟨s.F x,rfl,Y.1,by show s.F x<s.top;omega⟩);refine hr.mono λe w' h'=>⟨?_,h'.2.ro (λh=>h)⟩
  rw[h'.1,show s.u.rdH (s.F x)=_ from h.img.hd x hx,show s.u.rdE (s.F x)=0 from h.img.rd x hx];rfl
 ·have hv:=HI V t;have hr:=ZKh hv (a:=s.F x+1+i) Ω Ω
  have hw:s.u.ldV (s.F x+1+i:Nat)=(if i<(g.ob x).p then s.F ((g.ob x).w.getD i 0)else (g.ob x).w.getD i 0)/\s.u.ldE (s.F x+1+i:Nat)=0:=by
   by_cases hp:i<(g.ob x).p
   ·rw[θ hp];obtain⟨q1,q2⟩:=h.img.pt x hx i hp;obtain⟨-,-,q3,-,q4⟩:=NP q1;have e:((s.F x:Int)+1+(i:Int))=((s.F x+1+i:Nat):Int):=Ω
    rw[e]at q3 q4;exact⟨by omega,q3⟩
   ·rw[ψ hp];obtain⟨q1,q2⟩:=h.img.wd x hx i Ω Ω;exact⟨q2,q1⟩
  rw[hw.1,hw.2]at hr;exact hr
 ·have:=Vj1 (nb:=nb) (mb:=mb) h (xs:=g.pts x) (λy hy h0=>hx.step hy h0) hall hln (i:=i) Ω;rw[Z i hi]at this;exact this
 ·rw[ξe Ω,ξe Ω]
structure DP(w:World)(nb mb:Nat)(F:Nat->Nat)(v:Value)(r0 q hx:Nat)(p f k:Nat)(T:List Nat)(d:CK)(v1 v2 v3 v':Value)(wr:World):Prop where
 t:AB (EW nb mb v) w wr
 num:CS wr nb mb F T v'
 nv:∀g,v'.ownBlock=some g->v.ownBlock=some g\/w.heap.size<=g
 re:Rec wr r0 126 [.slice none 0 0,.slice none 0 0,.slice none 0 0]
 ro:Rec wr q 126 [v1,v2,v3]
 rh:Rec wr hx 34 [iI p,iI f,iI k]
 nd:DK wr w.heap.size v1 v2 v3 d
 n1:∀g,v1.ownBlock=some g->v'.ownBlock≠some g
 n2:∀g,v2.ownBlock=some g->v3.ownBlock≠some g
 b:w.heap.size<=r0/\r0<q
section
variable{wr:World}{hx:Nat}
theorem DP.gr(h:DP w nb mb F v r0 q hx p f k T d v1 v2 v3 v' wr)(g:Gr wr w'):DP w nb mb F v r0 q hx p f k T d v1 v2 v3 v' w':=
 ⟨h.t.trans (g.touch _),h.num.gr g,h.nv,h.re.gr g,h.ro.gr g,h.rh.gr g,h.nd.gr g,h.n1,h.n2,h.b⟩
theorem CS.far(h:CS wr nb mb F T v'){base:Nat}(ho:wr.ownsRow base E size u n xs)(h1:E≠3)(h2:E≠131):∀g,u.ownBlock=some g->¬EW nb mb v' g:=λg hg e=>by
 rcases e with e|e|e
 ·exact AG ho h.row h2 hg rfl e
 ·obtain⟨cur,e1⟩:=H9 ho hg;exact h.map.ne ⟨_,_,e1⟩ e.symm
 ·exact AG ho h.own h1 hg e rfl
theorem DP.num'(h:DP w nb mb F v r0 q hx p f k T d v1 v2 v3 v' wr)(hn:MY wr nb mb F T' v' w'):∃v'',DP w nb mb F v r0 q hx p f k T' d v1 v2 v3 v'' w':=by
 obtain⟨t,v'',hN,hv⟩:=hn;have hz:=h.t.size;refine⟨v'',h.t.trans' t (λg hg e=>?_),hN,λg hg=>?_,h.re.touch t (h.num.far h.re (by decide) (by decide) _ rfl),h.ro.touch t (h.num.far h.ro (by decide) (by decide) _ rfl),h.rh.touch t (h.num.far h.rh (by decide) (by decide) _ rfl),⟨AX h.nd.o1 t (λg hg e=>?_),AX h.nd.o2 t (h.num.far h.nd.o2 (by decide) (by decide)),AX h.nd.o3 t (h.num.far h.nd.o3 (by decide) (by decide))⟩,λg hg e=>?_,h.n2,h.b⟩
 ·rcases e with e|e|e
  ·exact .inl e
  ·exact .inr (.inl e)
  ·rcases h.nv g e with e|e
   ·exact .inr (.inr e)
   ·omega
 ·rcases hv g hg with e|e
  ·exact h.nv g e
  omega
 ·rcases e with e|e|e
  ·exact AG h.nd.o1 h.num.row (by decide) hg rfl e
  ·obtain⟨cur,e1⟩:=H9 h.nd.o1 hg;exact h.num.map.ne ⟨_,_,e1⟩ e.symm
  ·exact h.n1 g hg e
 ·rcases hv g e with e|e
  ·exact h.n1 g hg e
  ·have:=(A9 h.nd.o1 hg).2;omega
theorem DP.put(h:DP w nb mb F v r0 q hx p f k T d v1 v2 v3 v' wr)(hu:wr.ownsRow w.heap.size E size u n xs)(h1:E=3->∀g,u.ownBlock=some g->v'.ownBlock≠some g)(hE:E=3\/E=35)(t:AB (λg=>u.ownBlock=some g) wr w5)(j:Nat)(x:Value):
  AB (EW nb mb v) w (w5.setCell ⟨q,j,none⟩ x)/\CS (w5.setCell ⟨q,j,none⟩ x) nb mb F T v'/\Rec (w5.setCell ⟨q,j,none⟩ x) r0 126 [.slice none 0 0,.slice none 0 0,.slice none 0 0]/\Rec (w5.setCell ⟨q,j,none⟩ x) q 126 ([v1,v2,v3].set j x)/\Rec (w5.setCell ⟨q,j,none⟩ x) hx 34 [iI p,iI f,iI k]:=by
 have hq:=h.ro.touch t (λe=>AG hu h.ro Ω e rfl rfl);have hr:=h.re.touch t (λe=>AG hu h.re Ω e rfl rfl);have hh:=h.rh.touch t (λe=>AG hu h.rh Ω e rfl rfl)
 have hN:=h.num.touch t (λg e hg=>by
  rcases e with e|e|e
  ·exact AG hu h.num.row Ω hg rfl e
  ·obtain⟨cur,e1⟩:=H9 hu hg;exact h.num.map.ne ⟨_,_,e1⟩ e.symm
  ·rcases hE with rfl|rfl
   ·simp_all
   ·exact AG hu h.num.own (by decide) hg e rfl)
 have t2:=KN w5 q j x;have hb:=h.b;refine⟨(h.t.trans' t (λg hg e=>by have:=(A9 hu e).1;omega)).trans' t2 (λg hg e=>by omega),hN.touch t2 (λg e e2=>?_),hr.touch t2 Ω,hq.set j x,hh.touch t2 (λe=>AG hq hh (by decide) rfl rfl e.symm)⟩;rw[e2]at e;exact hN.far hq (by decide) (by decide) q rfl e
theorem DP.push1(h:DP w nb mb F v r0 q hx p f k T d v1 v2 v3 v' wr)(t:AB (λg=>v1.ownBlock=some g) wr w5)(ho:w5.ownsRow w.heap.size 3 1 v4 (d.p.length+1) (F9 d.p++[iI z]))(hb:v4.ownBlock=v1.ownBlock\/v4.ownBlock=some nn)(hn:wr.heap.size<=nn):DP w nb mb F v r0 q hx p f k T ⟨d.p++[z],d.f,d.k⟩ v4 v2 v3 v' (w5.setCell ⟨q,0,none⟩ v4):=by
 obtain⟨a1,a2,a3,a4,a5⟩:=h.put h.nd.o1 (λ_=>h.n1) (.inl rfl) t 0 v4;have hq:=h.ro.touch t (λe=>AG h.nd.o1 h.ro (by decide) e rfl rfl);refine⟨a1,a2,h.nv,a3,a4,a5,h.nd.push1 t hq ho,λg hg e=>?_,h.n2,h.b⟩;rcases hb with e2|e2
 ·exact h.n1 g (e2▸hg) e
 ·rw[e2]at hg;have:=Option.some.inj hg;have:=(A9 h.num.own e).2;omega
theorem DP.push2{z:Nat}(h:DP w nb mb F v r0 q hx p f k T d v1 v2 v3 v' wr)(t:AB (λg=>v2.ownBlock=some g) wr w5)(ho:w5.ownsRow w.heap.size 35 1 v4 (d.f.length+1) (EZ d.f++[uU z]))(hb:v4.ownBlock=v2.ownBlock\/v4.ownBlock=some nn)(hn:wr.heap.size<=nn):DP w nb mb F v r0 q hx p f k T ⟨d.p,d.f++[z],d.k⟩ v1 v4 v3 v' (w5.setCell ⟨q,1,none⟩ v4):=by
 obtain⟨a1,a2,a3,a4,a5⟩:=h.put h.nd.o2 (λe=>absurd e (by decide)) (.inr rfl) t 1 v4;have hq:=h.ro.touch t (λe=>AG h.nd.o2 h.ro (by decide) e rfl rfl);refine⟨a1,a2,h.nv,a3,a4,a5,h.nd.push2 h.n2 t hq ho,h.n1,λg hg e=>?_,h.b⟩;rcases hb with e2|e2
 ·exact h.n2 g (e2▸hg) e
 ·rw[e2]at hg;have:=Option.some.inj hg;have:=(A9 h.nd.o3 e).2;omega
theorem DP.push3{z:Nat}(h:DP w nb mb F v r0 q hx p f k T d v1 v2 v3 v' wr)(t:AB (λg=>v3.ownBlock=some g) wr w5)(ho:w5.ownsRow w.heap.size 35 1 v4 (d.k.length+1) (EZ d.k++[uU z]))(hb:v4.ownBlock=v3.ownBlock\/v4.ownBlock=some nn)(hn:wr.heap.size<=nn):DP w nb mb F v r0 q hx p f k T ⟨d.p,d.f,d.k++[z]⟩ v1 v2 v4 v' (w5.setCell ⟨q,2,none⟩ v4):=by
 obtain⟨a1,a2,a3,a4,a5⟩:=h.put h.nd.o3 (λe=>absurd e (by decide)) (.inr rfl) t 2 v4;have hq:=h.ro.touch t (λe=>AG h.nd.o3 h.ro (by decide) e rfl rfl);refine⟨a1,a2,h.nv,a3,a4,a5,h.nd.push3 h.n2 t hq ho,h.n1,λg hg e=>?_,h.b⟩;rcases hb with e2|e2
 ·exact h.n2 g hg (e2▸e)
 ·rw[e2]at e;have:=Option.some.inj e;have:=(A9 h.nd.o2 hg).2;omega
theorem DP.done(h:DP w nb mb F v r0 q hx p f k T d v1 v2 v3 v' wr):Rec (((wr.setCell ⟨r0,0,none⟩ v1).setCell ⟨r0,1,none⟩ v2).setCell ⟨r0,2,none⟩ v3) r0 126 [v1,v2,v3]/\DK (((wr.setCell ⟨r0,0,none⟩ v1).setCell ⟨r0,1,none⟩ v2).setCell ⟨r0,2,none⟩ v3) w.heap.size v1 v2 v3 d/\AB (EW nb mb v) w (((wr.setCell ⟨r0,0,none⟩ v1).setCell ⟨r0,1,none⟩ v2).setCell ⟨r0,2,none⟩ v3)/\CS (((wr.setCell ⟨r0,0,none⟩ v1).setCell ⟨r0,1,none⟩ v2).setCell ⟨r0,2,none⟩ v3) nb mb F T v':=by
 have t:=((KN wr r0 0 v1).setCell (a:=⟨r0,1,none⟩) (λ_=>rfl) v2).setCell (a:=⟨r0,2,none⟩) (λ_=>rfl) v3;have hb:=h.b;refine⟨((h.re.set 0 v1).set 1 v2).set 2 v3,⟨AX h.nd.o1 t (λg hg e=>AG h.nd.o1 h.re (by decide) hg rfl e),AX h.nd.o2 t (λg hg e=>AG h.nd.o2 h.re (by decide) hg rfl e),AX h.nd.o3 t (λg hg e=>AG h.nd.o3 h.re (by decide) hg rfl e)⟩,h.t.trans' t (λg hg e=>by omega),h.num.touch t (λg e e2=>?_)⟩;rw[e2]at e;exact h.num.far h.re (by decide) (by decide) r0 rfl e
end
theorem Xi5{al ww:List Nat}{TT:Nat->List Nat}(h:T9 w nb mb hp F v a al ww p f k TT)(hN:CS w nb mb F (TT 0) v):Calls prog 69 #[pP nb,.iface 136 (.agg #[pP hp]),iI (a:Nat)] w (QAB w nb mb F (TT p) v (ndK al ww p f ww.length)):=by
 obtain⟨ii,Zc,Ze,Yu,Yx⟩:=info_parts NA;obtain⟨iu,Yk,Ys,Yg,Yh⟩:=info_parts OV;have n1:=λ(n:Nat) (V:World)=>JVB n (pP hp) V;have m1:=λ(n:Nat) (V:World)=>Zd6 n (pP hp) V;have cl1:∀(args:Array Value) (V:World),(callFunc 328 args).run prog V=.ok (.enter 328 args) V:=λargs V=>by kernel_rfl
 have H:=h;have Yj:=hN;have Xj:=h.ab;obtain⟨Yd,Xk⟩:=h.sz;have Yz:=ι Xj;obtain⟨l1,Zd⟩:=ε (ww.length+1);have Xm:=ι (λV=>LH ⟨p,f,k⟩ V);have Yo:CD ⟨p,f,k⟩=(l1:Int):=by rw[show CD ⟨(p:Int),f,k⟩=1+(p:Int)+f+k from θ (DM Ω)];omega
 rw[Yo]at Xm;have e2:wrap64 ((l1:Int)-1)=(ww.length:Nat):=by rw[ξY _ Ω];omega
 obtain⟨wl,Xs⟩:=ε ww.length;rw[<-Xs]at e2 Yd Xk⊢;have Yv:=ι Xs;have Zb:=ι Xk;have Xa:=ι Yd;have Xw:=ι h.rd;unfold AO at Xw;dsimp only at Xw;clear h hN Yo Xs Yd Xk Xj Zd;unfold AO at Xm;have Yl:=(Gr.refl w).alloc (.cells #[.slice none 0 0,.slice none 0 0,.slice none 0 0] 126);have Xx:=(Gr.refl (w.alloc (.cells #[.slice none 0 0,.slice none 0 0,.slice none 0 0] 126))).alloc (.cells #[.slice none 0 0,.slice none 0 0,.slice none 0 0] 126);have Yr:=(Rec.new w 126 [.slice none 0 0,.slice none 0 0,.slice none 0 0]).gr Xx;have Xr:=Rec.new (w.alloc (.cells #[.slice none 0 0,.slice none 0 0,.slice none 0 0] 126)) 126 [.slice none 0 0,.slice none 0 0,.slice none 0 0];rw[π]at Xr;obtain⟨wa,Xf⟩:=ε ((w.alloc (.cells #[.slice none 0 0,.slice none 0 0,.slice none 0 0] 126)).alloc (.cells #[.slice none 0 0,.slice none 0 0,.slice none 0 0] 126));obtain⟨r0,Ya⟩:=ε w.heap.size;obtain⟨q,hq⟩:=ε (w.heap.size+1);have Yq:Hid (Rec wa r0 126 [.slice none 0 0,.slice none 0 0,.slice none 0 0]):=⟨by rw[Xf,Ya];exact Yr⟩;have Yn:Hid (Rec wa q 126 [.slice none 0 0,.slice none 0 0,.slice none 0 0]):=⟨by rw[Xf,hq];exact Xr⟩;have Ye:Hid (Gr w wa):=⟨by rw[Xf];exact Yl.trans Xx⟩;have Yp:=ι Xf;have Xu:=ι Ya;have HQ:=ι hq;clear Yl Xx Yr Xr Xf Ya hq;go_in;go_upto_region 2 with(fail);rw[<-Yp.o,<-HQ.o,<-Xu.o];go_upto_region 3 with(go_at_call 95;refine Qa (Xw.o _ (Ye.o.touch _)) λw3 hg=>?_;have Xz:=ι (Ye.o.trans hg);have Xo:=ι (Yq.o.gr hg);have Xp:=ι (Yn.o.gr hg);clear hg);have Yc:=Rec.new w3 34 [iI p,iI f,iI k];have B:=(Gr.refl w3).alloc (.cells #[.int .i64 p,.int .i64 f,.int .i64 k] 34);obtain⟨w4,Xi⟩:=ε (w3.alloc (.cells #[.int .i64 p,.int .i64 f,.int .i64 k] 34));obtain⟨hx,Yb⟩:=ε w3.heap.size;rw[<-Xi,<-Yb];rw[<-Xi,<-Yb]at Yc;rw[<-Xi]at B;have HI:Hid (DP w nb mb F v r0 q hx p f k (TT 0) (ndK al ww p f 0) (.slice none 0 0) (.slice none 0 0) (.slice none 0 0) v w4):=⟨⟨(Xz.o.trans B).touch _,Yj.gr (Xz.o.trans B),λg e=>.inl e,Xo.o.gr B,Xp.o.gr B,Yc,by rw[QrH];exact⟨FD _ _ _ _,FD _ _ _ _,FD _ _ _ _⟩,λg e=>(by cases e),λg e=>(by cases e),by have:=Xu.o;have:=HQ.o;omega⟩⟩;obtain⟨z0,z1,z2,zl⟩:=HI.o.rh.k3;clear Yc B Xi Yb Xz Xo Xp Yq Yn Ye Yp Xu HQ Yj;go_upto_region 4 with(go_at_call 81;refine Qa (Xm.o _) λw5 hg=>?_;have X:=ι (HI.o.gr hg);clear hg);clear z0 z1 z2 zl Xm HI;rw[e2];clear e2
 go_loopw [22] (λs22 wr=>∃(i:Nat) (v1 v2 v3 v':Value),i<=wl/\s22=iI i/\Hid (DP w nb mb F v r0 q hx p f k (TT i) (ndK al ww p f i) v1 v2 v3 v' wr)) (λs22 _=>wl-(intOf s22).toNat)
 case atStart=>exact⟨0,_,_,_,_,ζe _,rfl,X⟩
 case round=>
  clear X;obtain⟨i,v1,v2,v3,v',hi,rfl,HI⟩:=hrel;obtain⟨Xt,Xn,Xl⟩:=ZBn al ww p f i;obtain⟨⟨d1,d2,d3⟩,hdd⟩:∃d,d=ndK al ww p f i:=⟨_,rfl⟩;rw[<-hdd]at HI Xt Xn Xl;dsimp only at Xt Xn Xl;have o1:wr.ownsRow w.heap.size 3 1 v1 d1.length (F9 d1):=HI.o.nd.o1;have o2:wr.ownsRow w.heap.size 35 1 v2 d2.length (EZ d2):=HI.o.nd.o2;have o3:wr.ownsRow w.heap.size 35 1 v3 d3.length (EZ d3):=HI.o.nd.o3;obtain⟨A1,c1,rfl,-,-⟩:=B9 o1;obtain⟨A2,c2,rfl,-,-⟩:=B9 o2;obtain⟨A3,c3,rfl,-,-⟩:=B9 o3;clear o1 o2 o3;by_cases L:i<wl
  ·have Yy:(i:Int)<(wl:Int):=Ω
   have A:i<ww.length:=by rw[<-Yv.o];exact L
   have Xb:=ι L;have Xk:=Zb.o;have Xj:=Yz.o;have U:=ι (H.ld wr HI.o.t i A);have O:=ι (λV=>S4 (a:=p) (b:=f) (c:=k) (by have:=Xa.o;omega) (i:Int) V);unfold AO at O;dsimp only at O;rw[show ((a+1+i:Nat):Int)=wrap64 (wrap64 ((a:Int)+1)+(i:Int))by rw[ξY _ (by rw[ξY _ Ω];omega),ξY _ Ω];omega]at U;have HN:Hid (CD ⟨(p:Int),f,k⟩=1+(p:Int)+f+k):=⟨θ (DM (by have:=Xa.o;omega))⟩;clear Xj L hi;by_cases hp:i<p
   ·rw[θ hp]at U;obtain⟨Yw,Yt⟩:=H.nm i hp;have Xy:=ι Yt;have HD:=ι (Yg9 (al:=al) (f:=f) hp A);rw[<-hdd]at HD
    have G:Hid (BS ⟨p,f,k⟩ (i:Int)=1):=⟨by
     have:=Xa.o;unfold BS
     rw[HN.o,θ ⟨by omega,by omega⟩,θ (by dsimp only;omega)]⟩
    rw[G.o]at O;generalize plL al (ww.getD i 0)=z at Xy HD;generalize F (ww.getD i 0)=y at U Xy Yw;have u1:IntKind.i64.wrap (y:Int)=y:=ζp _ Ω;clear Yt hp A G hdd Xn Xl;go_upto_region 7 with(go_at_call 328;refine Qa U.o λw5 hg=>?_;have X:=ι (HI.o.gr hg);clear hg);obtain⟨z0,z1,z2,zl⟩:=X.o.rh.k3;go_upto_region 10 with(go_at_call 148;refine Qa (O.o _) λw6 hg=>?_;have M:=ι (X.o.gr hg);clear hg);clear z0 z1 z2 zl X HI U O HN;obtain⟨Sx,Ym,HS⟩:=AA.start λW'=>Rec W' q 126 [.slice A1 d1.length c1,.slice A2 d2.length c2,.slice A3 d3.length c3];have y0:=AA.fact Ym λ_ h=>h.cell (j:=0) rfl;have Xv:=HS.o _ (M.o.ro.gr (Gr.refl _).drew);have Yi:Inhabited (AA Sx):=⟨⟨_,Xv⟩⟩;clear Ym;refine BI Sx 9 [([0,1,2,3,4],5),([],6),([],7),([8],9)] [] Xv ?_;refine AL ?_;go_wp2_with((go_at_call 68;refine Qa (Xy.o _ _ (M.o.gr (Gr.refl _).drew).num) λw7 hn=>?_;obtain⟨vn,Yf⟩:=(M.o.gr (Gr.refl _).drew).num' hn;have Xq:=ι Yf;clear hn Yf));refine⟨.inr (AA.of (HS.o _ (Xq.o.ro))),?_⟩;refine AL ?_;go_wp2_with((fail));refine⟨.inr (AA.of (HS.o _ (Xq.o.ro.gr ((Gr.refl _).alloc _)))),?_⟩
    try simp only[Act.put,η,ζf,ζi]
    have Y:=ι (Xq.o.gr ((Gr.refl w7).alloc (.cells #[.int .i64 z] 3)));refine AL ?_;go_wp2_with((at_builtin;refine wpList_append_own_at _ rfl _ _ 42 rfl w.heap.size 3 ii _ 1 8 underlying42 Zc Ze Yu Yx rfl (by decide) (.slice A1 d1.length c1) d1.length (F9 d1) rfl Y.o.nd.o1 ⟨w7.heap.size,0,none⟩ 1 1 [iI z] rfl rfl (ζY (cs:=#[iI z]) (t:=3) (fr:=(0,0)) (heap_alloc_new w7 (.cells #[.int .i64 z] 3))) (by simp[Value.oneCell']) (by unfold maxLen;omega) Ω Y.o.t.size ?_;intro v4 w8 Z J _ N;obtain⟨A4,c4,rfl,-,-⟩:=B9 Z;have D:=ι (DT J (λk=>(Value.slice A1 d1.length c1).ownBlock=some k) (λk e _=>e));have Xe:=ι Z;have Xd:=ι N;have I:=ι (Y.o.ro.touch D.o (λe=>AG Y.o.nd.o1 Y.o.ro (by decide) e rfl rfl));have x1:=I.o.cc 0;have xf:=I.o.free 0;clear Z J N));refine⟨.inr (AA.of (HS.o _ (I.o))),?_⟩
    try simp only[Act.put,η,ζf,ζi]
    refine AL ?_;go_wp2;refine⟨.inl trivial,?_⟩;refine EM ?_;refine ζb ?_;refine ζx ?_;clear y0 Xv Yi;clear HS Sx;have E:=ι (Y.o.push1 D.o Xe.o Xd.o (μ _));rw[<-HD.o]at E;generalize w8.setCell ⟨q,0,none⟩ (.slice A4 (d1.length+1) c4)=w9 at E⊢;clear x1 xf;go_wp2;go_round
    case rel=>exact⟨i+1,_,_,_,_,Xb.o,by go_num,E⟩
    case measure=>have:=Xb.o;simp[intOf];omega
   ·by_cases Xh:i<p+f
    ·skip;have Xc:(i:Int)<(p:Int)+f:=Ω
     rw[ψ hp]at U;have Xg:=ι ((H.tt i Ω).trans (H.tt (i+1) Ω).symm);have HD:=ι (XW6 (al:=al) (f:=f) (ξQ hp) Xh A);rw[<-hdd]at HD
     have G:Hid (BS ⟨p,f,k⟩ (i:Int)=2):=⟨by
      have:=Xa.o;unfold BS
      rw[HN.o,θ ⟨by omega,by omega⟩,ψ (by dsimp only;omega),θ (by dsimp only;omega)]⟩
     rw[G.o]at O;generalize ww.getD i 0=y at U HD;clear Xc hp Xh A G hdd;go_upto_region 7 with(go_at_call 328;refine Qa U.o λw5 hg=>?_;have X:=ι (HI.o.gr hg);clear hg);obtain⟨z0,z1,z2,zl⟩:=X.o.rh.k3;go_upto_region 12 with(go_at_call 148;refine Qa (O.o _) λw6 hg=>?_;have M:=ι (X.o.gr hg);clear hg);clear z0 z1 z2 zl X HI U O HN;have x1:=M.o.ro.cc 1;have xf:=M.o.ro.free 1;have xl:=M.o.ro.lt;have Y:=ι (M.o.gr ((Gr.refl w6).alloc (.cells #[.int .u64 y] 35)));go_wp2_with(at_builtin;refine wpList_append_own_at _ rfl _ _ 55 rfl w.heap.size 35 iu _ 1 8 underlying55 Yk Ys Yg Yh rfl (by decide) (.slice A2 d2.length c2) d2.length (EZ d2) rfl Y.o.nd.o2 ⟨w6.heap.size,0,none⟩ 1 1 [uU y] rfl rfl (ζY (cs:=#[uU y]) (t:=35) (fr:=(0,0)) (heap_alloc_new w6 (.cells #[.int .u64 y] 35))) (by simp[Value.oneCell']) (by unfold maxLen;omega) Ω Y.o.t.size ?_;intro v4 w8 Z J _ N;obtain⟨A4,c4,rfl,-,-⟩:=B9 Z;have D:=ι (DT J (λk=>(Value.slice A2 d2.length c2).ownBlock=some k) (λk e _=>e));have Xe:=ι Z;have Xd:=ι N;have I:=ι (Y.o.ro.touch D.o (λe=>AG Y.o.nd.o2 Y.o.ro (by decide) e rfl rfl));clear Z J N x1 xf xl;have x1:=I.o.cc 1;have xf:=I.o.free 1;have xl:=I.o.lt);have E:=ι (Y.o.push2 D.o Xe.o Xd.o (μ _));rw[<-HD.o,Xg.o]at E;go_round
     case rel=>exact⟨i+1,_,_,_,_,Xb.o,by go_num,E⟩
     case measure=>have:=Xb.o;simp[intOf];omega
    ·skip;have Xc:¬(i:Int)<(p:Int)+f:=Ω
     rw[ψ hp]at U;have Xg:=ι ((H.tt i Ω).trans (H.tt (i+1) Ω).symm);have HD:=ι (ZZl (al:=al) (f:=f) (ξQ Xh) A);rw[<-hdd]at HD
     have G:Hid (BS ⟨p,f,k⟩ (i:Int)=3):=⟨by
      have:=Xa.o;unfold BS
      rw[HN.o,θ ⟨by omega,by omega⟩,ψ (by dsimp only;omega),ψ (by dsimp only;omega)]⟩
     rw[G.o]at O;generalize ww.getD i 0=y at U HD;clear Xc hp Xh A G hdd;go_upto_region 7 with(go_at_call 328;refine Qa U.o λw5 hg=>?_;have X:=ι (HI.o.gr hg);clear hg);obtain⟨z0,z1,z2,zl⟩:=X.o.rh.k3;go_upto_region 8 with(go_at_call 148;refine Qa (O.o _) λw6 hg=>?_;have M:=ι (X.o.gr hg);clear hg);clear z0 z1 z2 zl X HI U O HN;have x1:=M.o.ro.cc 2;have xf:=M.o.ro.free 2;have xl:=M.o.ro.lt;have Y:=ι (M.o.gr ((Gr.refl w6).alloc (.cells #[.int .u64 y] 35)));go_wp2_with(at_builtin;refine wpList_append_own_at _ rfl _ _ 55 rfl w.heap.size 35 iu _ 1 8 underlying55 Yk Ys Yg Yh rfl (by decide) (.slice A3 d3.length c3) d3.length (EZ d3) rfl Y.o.nd.o3 ⟨w6.heap.size,0,none⟩ 1 1 [uU y] rfl rfl (ζY (cs:=#[uU y]) (t:=35) (fr:=(0,0)) (heap_alloc_new w6 (.cells #[.int .u64 y] 35))) (by simp[Value.oneCell']) (by unfold maxLen;omega) Ω Y.o.t.size ?_;intro v4 w8 Z J _ N;obtain⟨A4,c4,rfl,-,-⟩:=B9 Z;have D:=ι (DT J (λk=>(Value.slice A3 d3.length c3).ownBlock=some k) (λk e _=>e));have Xe:=ι Z;have Xd:=ι N;have I:=ι (Y.o.ro.touch D.o (λe=>AG Y.o.nd.o3 Y.o.ro (by decide) e rfl rfl));clear Z J N x1 xf xl;have x1:=I.o.cc 2;have xf:=I.o.free 2;have xl:=I.o.lt);have E:=ι (Y.o.push3 D.o Xe.o Xd.o (μ _));rw[<-HD.o,Xg.o]at E;go_round
     case rel=>exact⟨i+1,_,_,_,_,Xb.o,by go_num,E⟩
     case measure=>have:=Xb.o;simp[intOf];omega
  ·have Yy:¬(i:Int)<(wl:Int):=Ω
   obtain rfl:i=wl:=Ω
   obtain⟨z0,z1,z2,zl⟩:=HI.o.ro.k3;have x0:=HI.o.re.cc 0;have x1:=HI.o.re.cc 1;have x2:=HI.o.re.cc 2;have xf:=HI.o.re.free;have xl:=HI.o.re.lt;have Xg:=ι (H.tt i (by have:=Xa.o;omega));have Za:=ι hdd;clear L hi Xt Xn Xl hdd;go_wp2;obtain⟨a1,a2,a3,a4⟩:=HI.o.done;have hl:=QD a1 (by kernel_rfl) (by kernel_rfl);rw[Xg.o]at a4;rw[Za.o]at a2;refine ζH (v:=.agg #[.slice A1 d1.length c1,.slice A2 d2.length c2,.slice A3 d3.length c3]) ?_ rfl ⟨_,_,_,rfl,a2,a3,_,a4,λg hg=>⟨HI.o.nv g hg,λe=>HI.o.n1 g e hg⟩⟩;simp[results,results69,asAddr,hl]
end
theorem PS{S:Nat->Prop}{wr:World}(g:Gr w wr)(t:AB S wr w')(h:∀k,S k->w.heap.size<=k):Gr w w':=((g.touch (λ_=>False)).trans' t (λk hk e=>by grind)).gr
def EE(w:World)(b:Nat)(vN:Value)(l:List CK)(v:Value):Prop:=∃vs:List (Value×Value×Value),vs.length=l.length/\w.ownsRow b 126 3 vN l.length (vs.flatMap nvC)/\∀i (h:i<l.length),∃x,vs[i]?=some x/\DK w 0 x.1 x.2.1 x.2.2 l[i]/\∀g,x.1.ownBlock=some g->v.ownBlock≠some g
section
variable{wr:World}{l:List CK}{T:Nat->Prop}
theorem EE.nods(h:EE w b vN l v):PR w b vN l:=by
 obtain⟨vs,h1,h2,h3⟩:=h;exact⟨vs,h1,h2,λi hi=>by simp_all⟩
theorem EE.nil(w:World)(b:Nat)(v:Value):EE w b (.slice none 0 0) [] v:=⟨[],rfl,FD _ _ _ _,λi hi=>absurd hi (by simp)⟩
theorem EE.turn(h:EE w b vN l v)(t:AB T w w')(hv:∀g,v'.ownBlock=some g->v.ownBlock=some g\/w.heap.size<=g)(hN:∀g,vN.ownBlock=some g->¬T g)(h1:∀g n xs u,w.ownsRow 0 3 1 u n xs->u.ownBlock=some g->v.ownBlock≠some g->¬T g)(h2:∀g n xs u,w.ownsRow 0 35 1 u n xs->u.ownBlock=some g->¬T g):EE w' b vN l v':=by
 obtain⟨vs,e1,e2,e3⟩:=h;refine⟨vs,e1,AX e2 t hN,λi hi=>?_⟩;obtain⟨x,q1,q2,q3⟩:=e3 i hi;refine⟨x,q1,⟨AX q2.o1 t (λg hg=>h1 g _ _ _ q2.o1 hg (q3 g hg)),AX q2.o2 t (λg hg=>h2 g _ _ _ q2.o2 hg),AX q2.o3 t (λg hg=>h2 g _ _ _ q2.o3 hg)⟩,λg hg e=>?_⟩;rcases hv g e with e|e
 ·simp_all
 ·have:=(A9 q2.o1 hg).2;omega
theorem EE.touch(h:EE w b vN l v)(t:AB T w w')(hN:∀g,vN.ownBlock=some g->¬T g)(h1:∀g n xs u,w.ownsRow 0 3 1 u n xs->u.ownBlock=some g->v.ownBlock≠some g->¬T g)(h2:∀g n xs u,w.ownsRow 0 35 1 u n xs->u.ownBlock=some g->¬T g):EE w' b vN l v:=h.turn t (λ_=>.inl) hN h1 h2
theorem EE.gr(h:EE w b vN l v)(g:Gr w w'):EE w' b vN l v:=h.touch (g.touch (λ_=>False)) (λ_ _=>id) (λ_ _ _ _ _ _ _=>id) (λ_ _ _ _ _ _=>id)
theorem EE.rec(h:EE w b vN l v)(hq:Rec w q E xs)(t:AB (λk=>k=q) w w')(hN:E≠126)(h1:E≠3)(h2:E≠35):EE w' b vN l v:=
 h.touch t (λg hg e=>by
  obtain⟨vs,e1,e2,e3⟩:=h
  exact AG e2 hq (λe=>hN e.symm) hg rfl e) (λg n xs u ho hg _ e=>AG ho hq (λe=>h1 e.symm) hg rfl e) (λg n xs u ho hg e=>AG ho hq (λe=>h2 e.symm) hg rfl e)
end
structure GrI(w w5:World)(nb mb:Nat)(F:Nat->Nat)(r0 q:Nat)(T:List Nat)(dR:List Int)(dN:List CK)(vR vN v:Value)(wr:World):Prop where
 gw:Gr w wr
 t:AB (λk=>k=q\/k=nb\/k=mb\/w5.heap.size<=k) w5 wr
 num:CS wr nb mb F T v
 nv:∀g,v.ownBlock=some g->w5.heap.size<=g
 re:Rec wr r0 45 [.slice none 0 0,.slice none 0 0]
 ro:Rec wr q 45 [vR,vN]
 oR:wr.ownsRow w5.heap.size 3 1 vR dR.length (F9 dR)
 oN:EE wr w5.heap.size vN dN v
 n1:∀g,vR.ownBlock=some g->v.ownBlock≠some g
 b:w.heap.size<=r0/\r0<q/\w.heap.size<=nb/\w.heap.size<=mb/\w.heap.size<=w5.heap.size
section
variable{wr w6:World}{dR:List Int}{dN:List CK}{vR:Value}
theorem GrI.gr(h:GrI w w5 nb mb F r0 q T dR dN vR vN v wr)(g:Gr wr w'):GrI w w5 nb mb F r0 q T dR dN vR vN v w':=
 ⟨h.gw.trans g,h.t.trans (g.touch _),h.num.gr g,h.nv,h.re.gr g,h.ro.gr g,CF h.oR g,h.oN.gr g,h.n1,h.b⟩
theorem GrI.numX{v'':Value}(h:GrI w w5 nb mb F r0 q T dR dN vR vN v wr)(t:AB (EW nb mb v) wr w')(hN:CS w' nb mb F T' v'')(hv:∀g,v''.ownBlock=some g->v.ownBlock=some g\/wr.heap.size<=g):GrI w w5 nb mb F r0 q T' dR dN vR vN v'' w':=by
 have hz:=h.t.size;have hb:=h.b
 have hS:∀k,EW nb mb v k->k=nb\/k=mb\/w5.heap.size<=k:=λk e=>by
  rcases e with e|e|e
  ·exact .inl e
  ·omega
  ·exact .inr (.inr (h.nv k e))
 have X:∀g n xs u base,wr.ownsRow base 3 1 u n xs->u.ownBlock=some g->v.ownBlock≠some g->¬EW nb mb v g:=λg n xs u base ho hg hv e=>by
  rcases e with e|e|e
  ·exact AG ho h.num.row (by decide) hg rfl e
  ·obtain⟨cur,e1⟩:=H9 ho hg;exact h.num.map.ne ⟨_,_,e1⟩ e.symm
  ·exact hv e
 refine⟨PS h.gw t (λk e=>by grind),h.t.trans (t.mono (λk _ e=>.inr (hS k e))),hN,λg hg=>?_,h.re.touch t (h.num.far h.re (by decide) (by decide) _ rfl),h.ro.touch t (h.num.far h.ro (by decide) (by decide) _ rfl),AX h.oR t (λg hg=>X g _ _ _ _ h.oR hg (h.n1 g hg)),?_,λg hg e=>?_,hb⟩
 ·rcases hv g hg with e|e
  ·exact h.nv g e
  ·omega
 ·exact h.oN.turn t hv (λg hg=>by
   obtain⟨vs,-,e2,-⟩:=h.oN
   exact h.num.far e2 (by decide) (by decide) g hg) (λg n xs u ho hg hv=>X g n xs u 0 ho hg hv) (λg n xs u ho hg=>h.num.far ho (by decide) (by decide) g hg)
 ·rcases hv g e with e|e
  ·exact h.n1 g hg e
  ·have:=(A9 h.oR hg).2;omega
theorem GrI.num'(h:GrI w w5 nb mb F r0 q T dR dN vR vN v wr)(hn:MY wr nb mb F T' v w'):∃v'',GrI w w5 nb mb F r0 q T' dR dN vR vN v'' w':=by
 obtain⟨t,v'',hN,hv⟩:=hn;exact⟨v'',h.numX t hN hv⟩
theorem GrI.put(h:GrI w w5 nb mb F r0 q T dR dN vR vN v wr)(hu:wr.ownsRow w5.heap.size E size u n xs)(h1:E=3->∀g,u.ownBlock=some g->v.ownBlock≠some g)(hE:E=3\/E=126)(t:AB (λg=>u.ownBlock=some g) wr w6)(j:Nat)(x:Value):
  Gr w (w6.setCell ⟨q,j,none⟩ x)/\AB (λk=>k=q\/k=nb\/k=mb\/w5.heap.size<=k) w5 (w6.setCell ⟨q,j,none⟩ x)/\CS (w6.setCell ⟨q,j,none⟩ x) nb mb F T v/\Rec (w6.setCell ⟨q,j,none⟩ x) r0 45 [.slice none 0 0,.slice none 0 0]/\Rec w6 q 45 [vR,vN]/\Rec (w6.setCell ⟨q,j,none⟩ x) q 45 ([vR,vN].set j x):=by
 have hq:=h.ro.touch t (λe=>AG hu h.ro Ω e rfl rfl);have hr:=h.re.touch t (λe=>AG hu h.re Ω e rfl rfl)
 have hN:=h.num.touch t (λg e hg=>by
  rcases e with e|e|e
  ·exact AG hu h.num.row Ω hg rfl e
  ·obtain⟨cur,e1⟩:=H9 hu hg;exact h.num.map.ne ⟨_,_,e1⟩ e.symm
  ·rcases hE with rfl|rfl
   ·simp_all
   ·exact AG hu h.num.own (by decide) hg e rfl)
 have t2:=KN w6 q j x;have hb:=h.b;refine⟨PS (PS h.gw t (λk e=>by have:=(A9 hu e).1;omega)) t2 (λk e=>by omega),(h.t.trans (t.mono (λk _ e=>.inr (.inr (.inr (A9 hu e).1))))).trans (t2.mono (λk _ e=>.inl e)),hN.touch t2 (λg e e2=>?_),hr.touch t2 Ω,hq,hq.set j x⟩;rw[e2]at e;exact hN.far hq (by decide) (by decide) q rfl e
theorem GrI.pushR(h:GrI w w5 nb mb F r0 q T dR [] vR (.slice none 0 0) v wr)(t:AB (λg=>vR.ownBlock=some g) wr w6)(ho:w6.ownsRow w5.heap.size 3 1 v4 (dR.length+1) (F9 dR++[iI z]))(hb:v4.ownBlock=vR.ownBlock\/v4.ownBlock=some nn)(hn:wr.heap.size<=nn):GrI w w5 nb mb F r0 q T (dR++[z]) [] v4 (.slice none 0 0) v (w6.setCell ⟨q,0,none⟩ v4):=by
 obtain⟨a1,a2,a3,a4,hq,a5⟩:=h.put h.oR (λ_=>h.n1) (.inl rfl) t 0 v4;refine⟨a1,a2,a3,h.nv,a4,a5,?_,EE.nil _ _ _,λg hg e=>?_,h.b⟩
 ·have:=AX ho (KN w6 q 0 v4) (λg hg=>AG ho hq (by decide) hg rfl);unfold F9 at this⊢
  simp_all
 ·rcases hb with e2|e2
  ·exact h.n1 g (e2▸hg) e
  ·rw[e2]at hg;have:=Option.some.inj hg;have:=(A9 h.num.own e).2;omega
theorem GrI.pushN{bb:Nat}{vs:List (Value×Value×Value)}(h:GrI w w5 nb mb F r0 q T dR dN vR vN v wr)(hl:vs.length=dN.length)(hvs:wr.ownsRow w5.heap.size 126 3 vN dN.length (vs.flatMap nvC))(hx:∀i (h:i<dN.length),∃x,vs[i]?=some x/\DK wr 0 x.1 x.2.1 x.2.2 dN[i]/\∀g,x.1.ownBlock=some g->v.ownBlock≠some g)(hd:DK wr bb v1 v2 v3 d)(hs:∀g,v1.ownBlock=some g->v.ownBlock≠some g)(t:AB (λg=>vN.ownBlock=some g) wr w6)(ho:w6.ownsRow w5.heap.size 126 3 v4 (dN.length+1) (vs.flatMap nvC++[v1,v2,v3])):GrI w w5 nb mb F r0 q T dR (dN++[d]) vR v4 v (w6.setCell ⟨q,1,none⟩ v4):=by
 obtain⟨a1,a2,a3,a4,hq,a5⟩:=h.put hvs (λe=>absurd e (by decide)) (.inr rfl) t 1 v4;have t2:=KN w6 q 1 v4
 have Y:∀{x1 x2 x3:Value} {b:Nat} {d:CK},DK wr b x1 x2 x3 d->DK (w6.setCell ⟨q,1,none⟩ v4) b x1 x2 x3 d:=λhd=>by
  have q1:=AX hd.o1 t (λg hg e=>AG hd.o1 hvs (by decide) hg e rfl);have q2:=AX hd.o2 t (λg hg e=>AG hd.o2 hvs (by decide) hg e rfl);have q3:=AX hd.o3 t (λg hg e=>AG hd.o3 hvs (by decide) hg e rfl);exact⟨AX q1 t2 (λg hg=>AG q1 hq (by decide) hg rfl),AX q2 t2 (λg hg=>AG q2 hq (by decide) hg rfl),AX q3 t2 (λg hg=>AG q3 hq (by decide) hg rfl)⟩
 have hR:=AX h.oR t (λg hg e=>AG h.oR hvs (by decide) hg e rfl);have X:=Y hd;refine⟨a1,a2,a3,h.nv,a4,a5,AX hR t2 (λg hg=>AG hR hq (by decide) hg rfl),⟨vs++[(v1,v2,v3)],by simp[hl],?_,λi hi=>?_⟩,h.n1,h.b⟩
 ·rw[ζm,List.flatMap_append];exact AX ho t2 (λg hg=>AG ho hq (by decide) hg rfl)
 ·by_cases e:i<dN.length
  ·grind
  ·have e:i=dN.length:=by grind
   subst e;refine⟨(v1,v2,v3),by simp_all,?_,hs⟩;have:(dN++[d])[dN.length]'(by simp)=d:=by simp
   rw[this];exact⟨M4 X.o1,M4 X.o2,M4 X.o3⟩
theorem GrI.done(h:GrI w w5 nb mb F r0 q T dR dN vR vN v wr):Rec ((wr.setCell ⟨r0,0,none⟩ vR).setCell ⟨r0,1,none⟩ vN) r0 45 [vR,vN]/\Gr w ((wr.setCell ⟨r0,0,none⟩ vR).setCell ⟨r0,1,none⟩ vN)/\GD ((wr.setCell ⟨r0,0,none⟩ vR).setCell ⟨r0,1,none⟩ vN) (.agg #[vR,vN]) dR dN:=by
 have t:=(KN wr r0 0 vR).setCell (a:=⟨r0,1,none⟩) (λ_=>rfl) vN;have hb:=h.b;have hR:=AX h.oR t (λg hg=>AG h.oR h.re (by decide) hg rfl);have hN:=(h.oN.rec h.re t (by decide) (by decide) (by decide)).nods;obtain⟨A,c,rfl,-,-⟩:=B9 hR;obtain⟨B,c2,rfl,-,-⟩:=hN.shape;exact⟨(h.re.set 0 _).set 1 _,PS h.gw t (λk e=>by omega),A,B,c,c2,rfl,YUk hR rfl,hN.at⟩
end
theorem ZKB(g:Gph):g.all.length<=g.words:=by
 unfold Gph.words;generalize g.all=l
 induction l with
 | nil=>simp_all
 | cons x r ih=>
  simp only[ζD,ξr,ψb];have:1<=(g.ob x).size:=by unfold GOb.size;omega
  omega
theorem GB.pre(h:GB g T n):∃S,g.all=T++S:=by
 obtain⟨-,-,f,e,-⟩:=h;obtain⟨S,e2⟩:=V4 g.pts f T n
 grind
theorem GB.all(h:GB g T T.length):g.all=T:=by
 obtain⟨-,-,f,e,-⟩:=h;rw[<-e];cases f with
 | zero=>rfl
 | succ f=>unfold FF;simp_all
section
variable{s0:HSt}
theorem Zvv(h0:HIn w c g s0):Calls prog 18 #[pP s0.A.hp] w (SQ w g):=by
 obtain⟨s,hs⟩:=ε (s0.cut w);have h:HIn w c g s:=by rw[hs];exact h0.cut
 have Zt:s0.A.hp=s.A.hp:=by rw[hs];rfl
 have hS:∀k,w.heap.size<=k->¬s.S k/\k≠1:=λk hk=>⟨λe=>by rw[hs]at e;have:=(HSt.cut_S h0 k e).2;omega,λe=>by have:=h.com.tab.lt;omega⟩
 rw[Zt];clear hs Zt h0;obtain⟨L,-,-,-,h4,h5,-⟩:=h.rch (μ _)
 have Xb:g.all.length<=1000000:=by
  have h1:=ZKB g;have h2:=h.bt;have h3:=h.cok.wd;omega
 clear h4 h5 L;have Jz:=Xb;have Zo:(s.rs g).length=g.S.length:=by unfold HSt.rs;rw[ζE]
 have Ju:g.S.length<=64:=by rw[h.sl];exact h.cok.sl.2
 have Yz:=(λi (hi:i<g.S.length)=>Vj1 (T:=[]) (nb:=w.heap.size+3) (mb:=w.heap.size+2) h (xs:=g.S) (λy hy h0=>Gph.Rd.root hy h0) (GB.pre (GB.start h.gok)) Xb hi)
 have Jh:∀i,i<g.S.length->(zs (s.rs g))[i]?=some (iI (s.F (g.S.getD i 0):Nat)):=λi hi=>by
  unfold zs HSt.rs;rw[ξD,ξD,τ hi,κ,τ hi];rfl
 have Je:=Jh;have Jc:=ι (GB.start h.gok);have Xs:=h.gok;have HF:=(λx (hx:g.Rd x)=>h.img.lo x hx);have HS:=ι hS;have H:=(λV (gV:Gr w V)=>h.gr gV);have Yl:=(λV (gV:Gr w V)=>FU (h.gr gV));have Xf:=(λV (gV:Gr w V)=>Q3 (h.com.rt.gr gV));have Yf:Hid (∀V,Gr w V->V.cell? ⟨s.A.hp,9,none⟩=some (pP s.A.r)/\s.A.hp<V.heap.size):=⟨λV gV=>⟨(h.com.row.gr gV).cell (j:=9) rfl,(h.com.row.gr gV).lt⟩⟩;have Zn:=(Gr.refl w).alloc (.cells #[.slice none 0 0,.slice none 0 0] 45);have Yw:=(Gr.refl (w.alloc (.cells #[.slice none 0 0,.slice none 0 0] 45))).alloc (.cells #[.slice none 0 0,.slice none 0 0] 45);have Zh:=(Rec.new w 45 [.slice none 0 0,.slice none 0 0]).gr Yw;have Yc:=Rec.new (w.alloc (.cells #[.slice none 0 0,.slice none 0 0] 45)) 45 [.slice none 0 0,.slice none 0 0];rw[π]at Yc;obtain⟨wa,Xk⟩:=ε ((w.alloc (.cells #[.slice none 0 0,.slice none 0 0] 45)).alloc (.cells #[.slice none 0 0,.slice none 0 0] 45));obtain⟨r0,Ys⟩:=ε w.heap.size;obtain⟨q,hq⟩:=ε (w.heap.size+1);have Ji:Hid (Rec wa r0 45 [.slice none 0 0,.slice none 0 0]):=⟨by rw[Xk,Ys];exact Zh⟩;have Zw:Hid (Rec wa q 45 [.slice none 0 0,.slice none 0 0]):=⟨by rw[Xk,hq];exact Yc⟩;have Yj:Hid (Gr w wa):=⟨by rw[Xk];exact Zn.trans Yw⟩;have Yx:=ι Xk;have Yd:=ι Ys;have HQ:=ι hq;have Jw:=@run_makeMap prog;clear Zn Yw Zh Yc Xk Ys hq Xb hS Jh;generalize hhp:s.A.hp=hp at Yl Yf⊢;generalize hrr:s.A.r=rr at Xf Yf;have Ua:=ι hhp;clear hhp hrr;go_in;go_upto_region 2 with(fail);rw[<-Yx.o,<-HQ.o,<-Yd.o];go_upto_region 4 with(go_at_call 51;refine AJ (Yl _ Yj.o) ?_);go_upto_region 5 with(fail);have Jd:=BH.made (P:=prog) (K:=3) wa;have Yp:Gr wa (wa.alloc (.map #[] 0)):=(Gr.refl wa).alloc _;have Ya:=Rec.new (wa.alloc (.map #[] 0)) 131 [.map (some wa.heap.size),.slice none 0 0];have Xo:Gr (wa.alloc (.map #[] 0)) ((wa.alloc (.map #[] 0)).alloc (.cells #[.map (some wa.heap.size),.slice none 0 0] 131)):=(Gr.refl _).alloc _;rw[π]at Ya;obtain⟨wb,Xc⟩:=ε ((wa.alloc (.map #[] 0)).alloc (.cells #[.map (some wa.heap.size),.slice none 0 0] 131));have HB:Hid (CS wb (wa.heap.size+1) wa.heap.size s.F [] (.slice none 0 0)):=⟨by rw[Xc];exact⟨Ya,FD _ _ _ _,by rw[VvW];exact Jd.gr Xo⟩⟩;have Xp:Hid (Gr w wb):=⟨by rw[Xc];exact(Yj.o.trans Yp).trans Xo⟩;have Xj:Hid (Gr wa wb):=⟨by rw[Xc];exact Yp.trans Xo⟩;have Zx:wa.heap.size=w.heap.size+2:=by rw[Yx.o,π,π]
 rw[<-Xc];rw[Zx]at HB⊢;obtain⟨c9,cl⟩:=Yf.o _ Xp.o;have Yk:Hid (wb.heap.size=w.heap.size+4):=⟨by rw[Xc,π,π];omega⟩;obtain⟨nb,I⟩:=ε (w.heap.size+3);obtain⟨mb,Xv⟩:=ε (w.heap.size+2);rw[show w.heap.size+2+1=nb by omega,<-Xv]at HB⊢;rw[<-Xv,<-I]at Yz;have Zy:=ι (ξ I Xv);clear Jd Yp Ya Xo Xc Zx I Xv Jw;go_upto_region 6 with(go_at_call 67;refine(Xf _ Xp.o).mono ?_;rintro e w5 ⟨g1,cp,rfl,Jk,Zj,Ze⟩;have Xa:=ι Jk;have Yi:=ι Zj;have Xq:=ι Ze;clear Jk Zj Ze)
 have HI:Hid (GrI w w5 nb mb s.F r0 q (BP [] (g.S.take 0)) ((g.S.take 0).map (plL g.all)) [] (.slice none 0 0) (.slice none 0 0) (.slice none 0 0) w5):=⟨by
  have h1:=Yi.o;have h2:=Yk.o;have h3:=Zy.o;have h4:=Yd.o;have h5:=HQ.o;have h6:=Xa.o.size
  exact⟨Xp.o.trans Xa.o,.refl _ _,HB.o.gr Xa.o,λg e=>(by cases e),Ji.o.gr (Xj.o.trans Xa.o),Zw.o.gr (Xj.o.trans Xa.o),FD _ _ _ _,EE.nil _ _ _,λg e=>(by cases e),by omega⟩⟩
 obtain⟨R,hR⟩:=ε g.S.length;have Xr:=ι hR
 have Za:Hid (∀W,AB (λk=>k=q\/k=nb\/k=mb\/w5.heap.size<=k) w5 W->∀i,i<R->W.cell? ⟨g1,i,none⟩=some (iI (s.F (g.S.getD i 0):Nat))/\g1<W.heap.size):=⟨λW t i hi=>by
  have h1:=Yi.o;have h2:=Yk.o;have h3:=Zy.o;have h5:=HQ.o;have h6:g1<w5.heap.size:=(A9 Xq.o rfl).2
  exact⟨(t.cell h6 Ω i).trans (BU Xq.o (Je i (by rw[<-Xr.o];exact hi))),ϑ h6 t.size⟩⟩
 rw[Zo,<-hR]at Xq;have hR64:R<=64:=Ω
 rw[<-hR];clear Zo hR Ju HB Xp Xj Xa Yi Xq Ji Zw Yj Yx Yd Je Xf Yl c9 cl Yk;obtain⟨ii,Uf,Ub,Js,Jo⟩:=info_parts NA
 go_loopw [20] (λs20 wr=>∃(i:Nat) (vR v:Value),i<=R/\s20=iI i/\Hid (GrI w w5 nb mb s.F r0 q (BP [] (g.S.take i)) ((g.S.take i).map (plL g.all)) [] vR (.slice none 0 0) v wr)) (λs20 _=>R-(intOf s20).toNat)
 case atStart=>exact⟨0,_,_,ζe _,rfl,HI⟩
 case round=>
  clear HI;obtain⟨i,vR,v,hi,rfl,HI⟩:=hrel;have oR:=HI.o.oR;have Xm:((g.S.take i).map (plL g.all)).length=i:=by rw[ζE,ξc];have:=Xr.o;omega
  rw[Xm]at oR;obtain⟨AR,cR,rfl,-,-⟩:=B9 oR;by_cases X:i<R
  ·have Uc:(i:Int)<(R:Int):=Ω
   have Yy:i<g.S.length:=by rw[<-Xr.o];exact X
   have Yt:=ι X;have HOR:=ι oR;obtain⟨k0,kl⟩:=Za.o wr HI.o.t i X;obtain⟨Ye,Zi⟩:=Yz i Yy;have Yn:=ι Zi;have Zd:Hid ((g.S.take (i+1)).map (plL g.all)=(g.S.take i).map (plL g.all)++[plL g.all (g.S.getD i 0)]):=⟨by rw[QZ _ Yy,ζI];rfl⟩;generalize plL g.all (g.S.getD i 0)=z at Zd Yn;generalize s.F (g.S.getD i 0)=y at k0 Yn Ye;have Zr:=ι Xm;clear Zi Yy X hi oR Xm;go_upto_region 8 with(fail);clear k0 kl;obtain⟨Sx,M,HS⟩:=AA.start λW'=>Rec W' q 45 [.slice AR i cR,.slice none 0 0];have y0:=AA.fact M λ_ h=>h.cell (j:=0) rfl;have N:=HS.o _ (HI.o.ro.gr (Gr.refl _).drew);have Xe:Inhabited (AA Sx):=⟨⟨_,N⟩⟩;clear M;refine BI Sx 8 [([0,1,2,3],4),([],5),([],6),([7],8)] [] N ?_;refine AL ?_;go_wp2_with((go_at_call 68;refine Qa (Yn.o _ _ (HI.o.gr (Gr.refl _).drew).num) λw7 hn=>?_;obtain⟨vn,Zk⟩:=(HI.o.gr (Gr.refl _).drew).num' hn;have O:=ι Zk;clear hn Zk));refine⟨.inr (AA.of (HS.o _ (O.o.ro))),?_⟩;refine AL ?_;go_wp2_with((fail));refine⟨.inr (AA.of (HS.o _ (O.o.ro.gr ((Gr.refl _).alloc _)))),?_⟩
   try simp only[Act.put,η,ζf,ζi]
   have Z:=ι (O.o.gr ((Gr.refl w7).alloc (.cells #[.int .i64 z] 3)));have Zb:=ι Z.o.oR;rw[Zr.o]at Zb;refine AL ?_;go_wp2_with((at_builtin;refine wpList_append_own_at _ rfl _ _ 42 rfl w5.heap.size 3 ii _ 1 8 underlying42 Uf Ub Js Jo rfl (by decide) (.slice AR i cR) i (F9 ((g.S.take i).map (plL g.all))) rfl Zb.o ⟨w7.heap.size,0,none⟩ 1 1 [iI z] rfl rfl (ζY (cs:=#[iI z]) (t:=3) (fr:=(0,0)) (heap_alloc_new w7 (.cells #[.int .i64 z] 3))) (by simp[Value.oneCell']) (by unfold maxLen;omega) Ω Z.o.t.size ?_;intro v4 w8 U J _ B;obtain⟨A4,c4,rfl,-,-⟩:=B9 U;have Xg:=ι (DT J (λk=>(Value.slice AR i cR).ownBlock=some k) (λk e _=>e));have Yh:=ι U;have Jv:=ι B;have D:=ι (Z.o.ro.touch Xg.o (λe=>AG Z.o.oR Z.o.ro (by decide) e rfl rfl));have x1:=D.o.cc 0;have xf:=D.o.free 0;clear U J B));refine⟨.inr (AA.of (HS.o _ (D.o))),?_⟩
   try simp only[Act.put,η,ζf,ζi]
   refine AL ?_;go_wp2;refine⟨.inl trivial,?_⟩;refine EM ?_;refine ζb ?_;refine ζx ?_;clear y0 N Xe;clear HS Sx;have G:=ι (Z.o.pushR Xg.o (by rw[Zr.o];exact Yh.o) Jv.o (μ _));rw[<-Zd.o]at G;generalize w8.setCell ⟨q,0,none⟩ (.slice A4 (i+1) c4)=w9 at G⊢;clear x1 xf;go_wp2;go_round
   case rel=>exact⟨i+1,_,_,Yt.o,by go_num,G⟩
   case measure=>have:=Yt.o;simp[intOf];omega
  ·have Uc:¬(i:Int)<(R:Int):=Ω
   obtain rfl:i=R:=Ω
   have Zf:g.S.take i=g.S:=by rw[Xr.o];exact ζ0
   have Y:=ι HI.o;rw[Zf]at Y;have Ja:=ι (show g.S.map (plL g.all)=g.slD from rfl);rw[Ja.o]at Y;have Xh:=Jc;generalize BP [] g.S=T at Y Xh;have Zu:Hid (GrI w w5 nb mb s.F r0 q T g.slD ((T.take 0).map g.ndD) (.slice AR i cR) (.slice none 0 0) v wr):=Y;clear X hi oR Xm HI Y Zf Jc Ja Za Yz;go_wp2
   go_loopw [7] (λs7 wr=>∃(n:Nat) (T:List Nat) (vN v:Value),n<=T.length/\s7=iI n/\Hid (GB g T n)/\Hid (GrI w w5 nb mb s.F r0 q T g.slD ((T.take n).map g.ndD) (.slice AR i cR) vN v wr)) (λs7 _=>1000001-(intOf s7).toNat)
   case atStart=>exact⟨0,T,_,_,ζe _,rfl,Xh,Zu⟩
   case round=>
    clear Xh Zu;obtain⟨n,T,vN,v,hn,rfl,HM,HI⟩:=hrel;obtain⟨A,cT,rfl,-,-⟩:=B9 HI.o.num.own;have k1:=HI.o.num.row.cc 1;have kl:=HI.o.num.row.lt
    have Jm:T.length<=g.all.length:=by
     obtain⟨S,hS⟩:=HM.o.pre;rw[hS,ζm];omega
    have Xb:=Jz;by_cases X:n<T.length
    ·have Ym:(n:Int)<(T.length:Int):=Ω
     have Yt:=ι X;obtain⟨x,hx⟩:=ε (T.getD n 0)
     have Xt:g.Rd x:=Xs.mem_all.1 (by
      obtain⟨S,hS⟩:=HM.o.pre;rw[hS,hx]
      exact ξq _ (SS X))
     have Xw:=GB.step Xs HM.o X;rw[<-hx]at Xw
     have Zv:∀k,EW nb mb (.slice A T.length cT) k->¬s.S k/\k≠1:=λk e=>HS.o k (by
      have h1:=HI.o.b;rcases e with e|e|e
      ·omega
      ·omega
      ·have:=HI.o.nv k e
       omega)
     obtain⟨x1,x2⟩:=Xs.rd Xt;have Jf:=(Xs.len _ (Gph.ob_mem x1 x2)).1
     have Zp:(g.pts x).take (g.ob x).p=g.pts x:=by
      refine ξe ?_;unfold Gph.pts;rw[ξc];omega
     have Xx:=λW (gW:Gr wr W)=>Xi5 (nb:=nb) (mb:=mb) (T9.of (nb:=nb) (mb:=mb) (v:=.slice A T.length cT) (H W (HI.o.gw.trans gW)) Zv Xt Xw.pre Xb) (HI.o.num.gr gW);rw[Xjo g x Jf,Ua.o]at Xx;rw[Zp]at Xx;have Zg:=ι Xx;have Xh:=ι Xw;obtain⟨vs,Xu,E,Xn⟩:=HI.o.oN;have Yo:((T.take n).map g.ndD).length=n:=by rw[ζE,ξc];omega
     rw[Yo]at E;obtain⟨AN,cN,rfl,-,-⟩:=B9 E;obtain⟨S2,Xl⟩:=L9 (g.pts x) T;have Jq:Hid (((BP T (g.pts x)).take (n+1)).map g.ndD=(T.take n).map g.ndD++[g.ndD x]):=⟨by rw[Xl,ξK X,QZ _ X,ζI,<-hx];rfl⟩;have Jt:Hid (n+1<=(BP T (g.pts x)).length):=⟨by rw[Xl,ζm];omega⟩;obtain⟨gA,cA,eA,-,-,-,Yb⟩:=E6 HI.o.num.own Ω;simp only[Value.slice.injEq]at eA;obtain⟨rfl,-,rfl⟩:=eA;have kx:=BU HI.o.num.own (V8E (F:=s.F) X);rw[<-hx]at kx;have Ye:=(HF x Xt);obtain⟨tl,Jg⟩:=ε T.length;have I:=HI.o.num.row;rw[<-Jg]at I Ym k1;have Zq:Hid (∀W,Gr wr W->Rec W nb 131 [.map (some mb),.slice (some ⟨gA,0,none⟩) tl cT]/\W.cell? ⟨gA,n,none⟩=some (iI (s.F x:Nat))/\gA<W.heap.size):=⟨λW gW=>⟨I.gr gW,(gW.cell Yb n).trans kx,ϑ Yb gW.size⟩⟩;obtain⟨Jx,Ue,Jy,Jl,Ug⟩:=info_parts JaM;have Xz:=ι Yo;have hn6:n<=1000000:=Ω
     generalize s.F x=y at Zq Zg;clear hx Xt Xw Zv x1 x2 Jf Zp Xx Xu E Xn Yo Yb kx Ye Jg I Jm Xb X hn Xl;go_upto_region 13 with(fail);clear k1 kl;obtain⟨Sx,M,Zc⟩:=AA.start λW'=>Rec W' q 45 [.slice AR i cR,.slice AN n cN]/\Rec W' nb 131 [.map (some mb),.slice (some ⟨gA,0,none⟩) tl cT]/\W'.cell? ⟨gA,n,none⟩=some (iI (y:Nat))/\gA<W'.heap.size;obtain⟨Sy,Zz,Xd⟩:=AA.start λW'=>Rec W' q 45 [.slice AR i cR,.slice AN n cN];have y0:=AA.fact Zz λ_ h=>h.cell (j:=1) rfl;have y1:=AA.fact M λ_ h=>h.2.1.cell (j:=1) rfl;have y2:∀p:AA Sx,p.w.cell? ⟨gA,n,none⟩=some (iI (y:Nat)):=λp=>by have h:=AA.get M p;exact h.2.2.1
     have yl:∀p:AA Sx,nb<p.w.heap.size:=λp=>by have h:=AA.get M p;exact h.2.1.lt
     have yg:∀p:AA Sx,gA<p.w.heap.size:=λp=>by have h:=AA.get M p;exact h.2.2.2
     have N:=Zc.o _ ⟨HI.o.ro.gr (Gr.refl wr).drew,Zq.o _ (Gr.refl wr).drew⟩;have Yg:∀w,Sx w->Sy w:=λw h=>Xd.o w (by rw[M]at h;exact h.1);have Xe:Inhabited (AA Sx):=⟨⟨_,N⟩⟩;have Yv:Inhabited (AA Sy):=⟨⟨_,Yg _ N⟩⟩;clear M Zz;refine QaV Sx Sy 13 17 [(([2,3,4,5,6,7,8,9,10,11,12],[0,1]),13),(([],[]),14),(([],[]),15),(([],[16]),17)] (by kernel_rfl) (by kernel_rfl) Yg N ?_;refine TL ?_;refine Qy5 ?_
     repeat(go_big_quiet_step (fail))
     refine ζb ?_;go_wp2_with(go_at_call 69;refine(Zg.o _ (Gr.refl wr).drew).mono ?_;rintro e w7 ⟨v1,v2,v3,rfl,Xi,Jb,vn,Jj,Yu⟩;have O:=ι ((HI.o.gr (Gr.refl wr).drew).numX Jb Jj (λg hg=>(Yu g hg).1));have Yq:=ι Xi;have Uh:Hid (∀g,v1.ownBlock=some g->vn.ownBlock≠some g):=⟨λg hg e=>(Yu g e).2 hg⟩;obtain⟨B1,e1,rfl,-,-⟩:=B9 Xi.o1;obtain⟨B2,e2,rfl,-,-⟩:=B9 Xi.o2;obtain⟨B3,e3,rfl,-,-⟩:=B9 Xi.o3;clear Xi Jb Jj Yu);refine⟨.inr (AA.of (Xd.o _ O.o.ro)),?_⟩;refine TL ?_
     try simp only[AF,υ,ν]
     refine ζb ?_;refine ζb ?_;go_wp2_with(fail);refine⟨.inr (AA.of (Xd.o _ (O.o.ro.gr ((Gr.refl _).alloc _)))),?_⟩
     try simp only[Act.put,η,ζf,ζi]
     have Z:=ι (O.o.gr ((Gr.refl w7).alloc (.cells #[.slice B1 (g.ndD x).p.length e1,.slice B2 (g.ndD x).f.length e2,.slice B3 (g.ndD x).k.length e3] 126)));have Jn:Hid (DK (w7.alloc (.cells #[.slice B1 (g.ndD x).p.length e1,.slice B2 (g.ndD x).f.length e2,.slice B3 (g.ndD x).k.length e3] 126)) _ (.slice B1 (g.ndD x).p.length e1) (.slice B2 (g.ndD x).f.length e2) (.slice B3 (g.ndD x).k.length e3) (g.ndD x)):=⟨⟨CF Yq.o.o1 ((Gr.refl w7).alloc _),CF Yq.o.o2 ((Gr.refl w7).alloc _),CF Yq.o.o3 ((Gr.refl w7).alloc _)⟩⟩;obtain⟨vz,Xu,E,Xn⟩:=Z.o.oN;have Ud:=ι Xu;have Jp:=ι Xn;have Jr:=ι E;have Yr:=ι E;rw[Xz.o]at Yr;clear Xu E Xn;refine TL ?_
     try simp only[AF,υ,ν]
     refine ζb ?_;refine ζb ?_;go_wp2_with(at_builtin;refine wpList_append_own_at _ rfl _ _ 43 rfl w5.heap.size 126 Jx _ 3 72 underlying43 Ue Jy Jl Ug rfl (by decide) (.slice AN n cN) n (vz.flatMap nvC) rfl Yr.o ⟨w7.heap.size,0,none⟩ 1 1 [.slice B1 (g.ndD x).p.length e1,.slice B2 (g.ndD x).f.length e2,.slice B3 (g.ndD x).k.length e3] rfl rfl (ζY (cs:=#[.slice B1 (g.ndD x).p.length e1,.slice B2 (g.ndD x).f.length e2,.slice B3 (g.ndD x).k.length e3]) (t:=126) (fr:=(0,0)) (heap_alloc_new w7 (.cells #[.slice B1 (g.ndD x).p.length e1,.slice B2 (g.ndD x).f.length e2,.slice B3 (g.ndD x).k.length e3] 126))) (by simp[Value.oneCell']) (by unfold maxLen;omega) Ω Z.o.t.size ?_;intro v4 w8 U J _ B;obtain⟨A4,c4,rfl,-,-⟩:=B9 U;have Xg:=ι (DT J (λk=>(Value.slice AN n cN).ownBlock=some k) (λk e _=>e));have Yh:=ι U;have D:=ι (Z.o.ro.touch Xg.o (λe=>AG Yr.o Z.o.ro (by decide) e rfl rfl));have x1:=D.o.cc 1;have xf:=D.o.free 1;clear U J B);refine⟨.inr (AA.of (Xd.o _ D.o)),?_⟩
     try simp only[Act.put,η,ζf,ζi]
     refine TL ?_
     try simp only[AF,υ,ν]
     refine ζb ?_
     repeat(go_big_quiet_step (fail))
     refine ζb ?_;go_wp2;refine⟨.inl (by decide),?_⟩;refine ZvM ?_;refine ζx ?_;clear y0 y1 y2 yl yg N Yg Xe Yv;clear Zc Xd Sx Sy
     try simp only[Act.put,η,ζf,ζi]
     have G:=ι (Z.o.pushN Ud.o Jr.o Jp.o Jn.o Uh.o Xg.o (by rw[Xz.o];exact Yh.o));rw[<-Jq.o]at G;generalize w8.setCell ⟨q,1,none⟩ (.slice A4 (n+1) c4)=w9 at G⊢;clear x1 xf;go_wp2;go_round
     case rel=>exact⟨n+1,_,_,_,Jt.o,by go_num,Xh,G⟩
     case measure=>clear Ym;simp only[intOf,β];rw[show ((n:Int)+1).toNat=n+1 by omega];omega
    ·have Ym:¬(n:Int)<(T.length:Int):=Ω
     obtain rfl:n=T.length:=Ω
     have Xy:=HM.o.all;have Y:=ι HI.o;rw[ζ0,<-Xy]at Y;have HE:Hid (g.all.map g.ndD=g.ndsD):=⟨rfl⟩;rw[HE.o]at Y;clear HI Xy X;obtain⟨AN,cN,rfl,-,-⟩:=Y.o.oN.nods.shape;obtain⟨Zm,Zl,Zs⟩:=Y.o.done;obtain⟨c0,c1,cl⟩:=Y.o.ro.k2;have k0:=Y.o.re.cc 0;have k2:=Y.o.re.cc 1;have kf:=Y.o.re.free;have kl2:=Y.o.re.lt;go_wp2;have hl:=QD Zm (by kernel_rfl) (by kernel_rfl);generalize (wr.setCell ⟨r0,0,none⟩ (.slice AR i cR)).setCell ⟨r0,1,none⟩ (.slice AN g.ndsD.length cN)=wE at Zm Zl Zs hl⊢;refine ζH (v:=.agg #[.slice AR i cR,.slice AN g.ndsD.length cN]) ?_ rfl ⟨_,rfl,Zl,Zs⟩;simp[results,results18,asAddr,hl]
end
theorem HLv.graph(h:HLv none w0 K c hb g w):Calls prog 18 #[pP hb] w (SQ w g):=by
 obtain⟨-,⟨s,rfl,e2,-,-⟩,-⟩:=h;exact Zvv e2
structure Two(w0:World)(Ka Kb:Nat->Prop)(c d:HCf)(ha hb:Nat)(ga gb:Gph)(w:World):Prop where
 a:HLv none w0 Ka c ha ga w
 b:HLv none w0 Kb d hb gb w
 al:∀k,w0.heap.size<=k->k<w.heap.size->Ka k\/Kb k
section
variable{Ka Kb:Nat->Prop}{d:HCf}{ha:Nat}{ga gb:Gph}
theorem Two.opA(h:Two w0 Ka Kb c d ha hb ga gb w)(ht:1<w0.heap.size)(ho:HLo none w0 Ka c ha w v g' e w'):e=.returned v/\Two w0 Ka (λk=>Kb k\/(w.heap.size<=k/\k<w'.heap.size)) c d ha hb g' gb w'/\AB (hlT w0 Ka) w w':=by
 obtain⟨rfl,t,hl⟩:=ho;refine⟨rfl,⟨hl,h.b.wr (R:=λk=>k<w.heap.size/\hlT w0 Ka k) (t.mono (λk hk e=>⟨hk,e⟩)) (λk e=>⟨(h.al k e.2.1 e.1).resolve_left e.2.2,e.2.1⟩) ht,λk h1 h2=>?_⟩,t⟩;by_cases hk:k<w.heap.size
 ·exact(h.al k h1 hk).imp id .inl
 omega
theorem Two.opB(h:Two w0 Ka Kb c d ha hb ga gb w)(ht:1<w0.heap.size)(ho:HLo none w0 Kb d hb w v g' e w'):e=.returned v/\Two w0 (λk=>Ka k\/(w.heap.size<=k/\k<w'.heap.size)) Kb c d ha hb ga g' w'/\AB (hlT w0 Kb) w w':=by
 obtain⟨rfl,t,hl⟩:=ho;refine⟨rfl,⟨h.a.wr (R:=λk=>k<w.heap.size/\hlT w0 Kb k) (t.mono (λk hk e=>⟨hk,e⟩)) (λk e=>⟨(h.al k e.2.1 e.1).resolve_right e.2.2,e.2.1⟩) ht,hl,λk h1 h2=>?_⟩,t⟩;by_cases hk:k<w.heap.size
 ·exact(h.al k h1 hk).imp .inl id
 omega
theorem Two.gr(h:Two w0 Ka Kb c d ha hb ga gb w)(g:Gr w w'):Two w0 (λk=>Ka k\/(w.heap.size<=k/\k<w'.heap.size)) (λk=>Kb k\/(w.heap.size<=k/\k<w'.heap.size)) c d ha hb ga gb w':=by
 refine⟨h.a.own g (λk e=>e),h.b.own g (λk e=>e),λk h1 h2=>?_⟩;by_cases hk:k<w.heap.size
 ·exact(h.al k h1 hk).imp .inl .inl
 omega
theorem Two.new{sb:HSt}(h:HLv none w0 (λ_=>False) c ha ga w1)(r:OX w1 d sb w2):∃Ka Kb,Two w0 Ka Kb c d ha sb.A.hp ga (Gph.nil d.sl) w2:=by
 have hb:=HLv.new r;obtain⟨g2,⟨s,e1,e2,e3,e4,e5⟩,-⟩:=hb;have hz:=h.gr.size;have hz2:=r.gr.size;refine⟨λk=>w1.heap.size<=k/\k<w2.heap.size,λk=>k<w1.heap.size,h.own r.gr (λk e=>.inr e),⟨h.gr.trans r.gr,⟨s,e1,e2,e3,λk hk=>⟨by grind,λe=>by grind⟩,e5⟩,λk e=>by omega⟩,λk h1 h2=>?_⟩;omega
end
theorem ZAP(hg:g.Ok)(hw:g.words<=C)(hC:C<=131072)(hs:g.S.length<=64)(h1:GD w v1 g.slD g.ndsD)(h2:GD w v2 g.slD g.ndsD):Calls prog 17 #[v1,v2] w λe w'=>e=.returned (.bool true)/\Gr w w':=by
 refine Zqm h1 h2 ?_ ?_ ?_
 ·unfold Gph.slD;grind
 ·have:=ZKB g;unfold Gph.ndsD
  grind
 ·intro nd X;obtain⟨x,hx,rfl⟩:=ξw.1 X;have Y:=hg.mem_all.1 hx;obtain⟨x1,x2⟩:=hg.rd Y;obtain⟨l1,l2⟩:=hg.len _ (Gph.ob_mem x1 x2);unfold Gph.ndD Gph.pts GOb.fls
  grind
end Go.Proofs.YtcihfnpokdbfpaaGreatDoor
