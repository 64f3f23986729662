/- Part 11 of what QueueSorts leans on: my own lemmas, merged by shake.py. -/
import Derived.Test.YtggjoonlcjjgkaaGreatDoorQueueSortsJ
import Derived.Laws.FloatArith
namespace Go.Proofs.YtggjoonlcjjgkaaGreatDoor
open _root_.Go.Proofs.Tryz
set_option maxHeartbeats 6400000
set_option maxRecDepth 100000
open Go.RowKit Go.Shelf Word
variable{g g':Gph}{A:HAd}{c:HCf}{s s':HSt}{p:List MemPlace}{L:List Ob}{a b b0 f k m n pg rm x:Nat}{F:Nat->Nat}{X:Nat->Prop}{sl:Sl}{H:Type}{u v v':Vm}{W w w' w0 w1 w2 w3:World}
theorem VsG{B:Nat}(hB:1<=B)(h:n<=m)(hm:m%B=0):upN n B<=m:=by
 have e:m=m/B*B:=by grind [ζu,ζT]
 have h1:(n+B-1)/B<m/B+1:=by
  rw[ζ1 Ω,ξf,ξA,<-e];omega
 have h2:=ζi B (Nat.le_of_lt_succ h1)
 show (n+B-1)/B*B<=m
 omega
theorem NU{fr tp:Nat}(hg:AP n L)(h:∀o∈L,fr<=o.1/\o.1+o.2<=tp)(h2:fr<=tp):fr+sizes L<=tp:=by
 rcases ζE L.length with h0|h0
 ·have:L=[]:=ζv h0;subst this
  assumption
 ·have hj:L.length-1<L.length:=Ω
  have h1:=RI hg (λo ho=>(h o ho).1) hj;have h3:=h _ (μ hj);have h4:=E6 (L:=L) (j:=L.length-1) hj
  grind
theorem HCf.Ok.pg1(h:c.Ok):1<=c.pg:=by
 have h1:=h.pg;unfold DZ at h1;rw[ζd]at h1;have:=DA h1.1;omega
theorem HIn.cf(h:HIn w c g s)(hk:c.kd≠3)(hv:HVm c v):G4 v.pl.pg v.n (C7 c s.base s.top (c.ot s.base)):=by
 have k:=h.cok;have U:=h.ot;have Z:=h.bt;have hn:v.n=c.pg+c.wd+c.wd:=by rw[hv.n];exact ψ hk
 have J:=hv.pg;have Y:=k.pg1;have d0:c.pg%c.pg=0:=Nat.mod_self _;have d1:(c.pg+c.wd)%c.pg=0:=by rw[Nat.add_mod,d0,k.dv];simp
 have d2:(c.pg+c.wd+c.wd)%c.pg=0:=by rw[Nat.add_mod,d1,k.dv];simp
 rw[J,hn];unfold C7;refine⟨k.bk,k.st,k.ah,?_,Z.1,?_,?_,ζK _ _,?_,?_,?_,?_,?_⟩ <;> dsimp only
 ·omega
 ·omega
 ·omega
 ·omega
 ·grind
 ·grind
 ·grind
 ·rcases U with⟨e,e2⟩|⟨e,e2⟩
  ·have:=VsG (n:=s.top) (m:=c.pg+c.wd) Y Ω d1;omega
  ·omega
theorem HIn.rch(h:HIn w c g s)(hn:s.top<=n):∃L,BF s.u (s.rs g) n L/\(∀o∈L,s.base<=o.1/\o.1+o.2<=s.top)/\FN s.u L/\s.base+sizes L<=s.top/\sizes L=g.words/\L.length=g.all.length:=by
 obtain⟨L,hM⟩:=h.img.marks h.gok hn;have Y:=h.img.inn h.gok hM;exact⟨L,hM,Y,h.img.full h.gok hM,NU hM.mkd.good Y h.bt.1,h.img.words h.gok hM,h.img.count h.gok hM⟩
theorem HIn.opnd(h:HIn w c g s)(hk:c.kd=1)(hv:HVm c v)(hok:AE v)(hsh:ShA s.base s.top v)(hu:v=s.u)(hI:E3 v (s.rs g) s.base s.top L){j:Nat}
  (hU:EP (AX v (C7 c s.base s.top (c.ot s.base)) L) v v' (s.base/v.pl.pg) j) (hj:s.top<=(s.base/v.pl.pg+j)*v.pl.pg):
  sizes L=g.words/\BL (AX v (C7 c s.base s.top (c.ot s.base)) L) v'/\c.ot s.base+sizes L<=c.ot s.base+c.wd/\∃u,HpA (c.ot s.base+sizes L) u (AX v (C7 c s.base s.top (c.ot s.base)) L) v' ∧
   Img u g (λx=>(toV L (c.ot s.base) (s.F x)).toNat) (c.ot s.base) (c.ot s.base+sizes L)/\(s.rs g).map (toV L (c.ot s.base))=g.S.map (λx=>(((toV L (c.ot s.base) (s.F x)).toNat:Nat):Int)):=by
 have N:=h.cf Ω hv;have hM:BF v (s.rs g) v.n L:=hI.1;have O:∀o∈L,s.base<=o.1/\o.1+o.2<=s.top:=λo ho=>by have:=hI.2 o ho;omega
 have Y:Img v g s.F s.base s.top:=by rw[hu];exact h.img
 have Z:=Y.full h.gok hM;have hle:=NU hM.mkd.good O h.bt.1;have E:=h.bt
 have M:sizes L<=(C7 c s.base s.top (c.ot s.base)).lm-(C7 c s.base s.top (c.ot s.base)).to:=by
  show sizes L<=c.ot s.base+c.wd-c.ot s.base
  omega
 have U:=hv.pg;have hus:=hsh.used (W:=c.wd) (by rw[U];exact h.cok.dv) E.2
 have I:v.pl.used+(c.ah+2)*(max 1 (c.bk/v.pl.pg)+3)<=v.pl.rm:=by
  have e:v.pl.rm=c.wd/c.pg+(c.ah+2)*(max 1 (c.bk/c.pg)+3):=by
   rw[hv.rm];unfold HCf.fr;rw[θ hk];rfl
  simp_all
 obtain⟨hO,u,hA⟩:=Jap hok N hI M Z hU hj (λp hp hne=>(hsh.map hp).1 hne) I
 ·have V:=XUb (v:=v) (gv:=u) (c:=C7 c s.base s.top (c.ot s.base)) hM hok.n2 (λi hi=>⟨hA.un _ (by have h1:c.ot s.base+c.wd<=v.n:=N.ln;show c.ot s.base+i<v.n;omega),hA.c i hi⟩);have J:1<=c.ot s.base:=by have:=h.cok.pg1;rcases h.ot with⟨e,-⟩|⟨e,-⟩ <;> omega
  refine⟨Y.words h.gok hM,hO,by omega,u,hA,Y.moved h.gok V J ?_,Y.roots V⟩;have:=h.cok.wd;have:=h.cok.pw;rcases h.ot with⟨e,-⟩|⟨e,-⟩ <;> omega
def ZT(w:World)(c:HCf)(g:Gph)(s:HSt)(w':World):Prop:=∃s',BC w c s g s' w'/\s'.cyc=(if s'.lf=0 then wrap64 (s.cyc+1)else s.cyc)/\s'.top=s'.base+g.words/\s'.lf=nbl g.words c.bk
theorem HIn.opn(h:HIn w c g s)(hn:s.o=none)(hk:c.kd=1)(hg1:Gr w w1){e:Ending}(hO:PZ w1 (AD s.X w) s.A.q s.A.r s.A.g s.u (s.rs g) (C7 c s.base s.top (c.ot s.base)) e w2):
  ∃y,e=.returned (.tuple #[pP y,iI 0])/\Rec w2 s.A.hp 83 (hpL c s.A none s.cyc s.blk) ∧
   (∀w3,w3=w2.setCell ⟨s.A.hp,11,none⟩ (.pointer (some ⟨y,0,none⟩)) →
    (∀W,Gr w3 W->Calls prog 113 #[pP y] W λe W'=>e=.returned (iI ((c.ot s.base+g.words:Nat):Int))/\Gr W W') ∧
    (∀W,Gr w3 W->Calls prog 95 #[pP s.A.hp,iI (c.ot s.base:Nat),iI ((c.ot s.base+g.words:Nat):Int)] W λe W'=>e=.returned (.tuple #[]) ∧
     Calls prog 43 #[pP s.A.hp] W' λe w'=>e=.returned (.tuple #[])/\ZT w c g s w')):=by
 have hm:=h.mem;rw[hn]at hm;obtain⟨hV,hv,Xf,hlf⟩:=hm;obtain⟨hT,hO⟩:=hO;have Xn:=h.rch (n:=s.u.n) (by have:=Xf.bt;omega);obtain⟨L0,Xk,G,-,hle0,hw0,-⟩:=Xn;have Xo:=h.bt;obtain⟨l1,l2,l3,l4,l5⟩:=h.com.lt;have D:=hg1.size;have hS:∀k,k<w1.heap.size->(k=s.A.g\/AD s.X w k)->k=s.A.g\/s.X k:=λk _ hk=>hk.imp id (λh=>h.1);have J:AB (λk=>k=s.A.g\/s.X k) w w2:=(hg1.touch _).trans (hT.mono hS);have hx:=h.com.x
 have N:Rec w2 s.A.hp 83 (hpL c s.A none s.cyc s.blk):=by
  have:=h.com.row;rw[hn]at this;exact this.touch J (λhk=>hk.elim h.com.n1.2.1 hx.1)
 rcases hO with⟨Xh,-⟩|⟨L,hI,⟨Xa,-⟩|⟨hfit,y,z,R,S',v',j,rfl,Xe,Xm,Xi,hR,hU,hj,-,Xg⟩⟩
 ·exact absurd (⟨Xk,λo ho=>by have:=G o ho;show (s.base:Int)<=_/\_<=(s.top:Int);omega⟩:E3 s.u (s.rs g) s.base s.top L0) (Xh L0)
 ·exfalso;have h1:=NU hI.1.mkd.good (fr:=s.base) (tp:=s.top) (λo ho=>by have h2:(s.base:Int)<=(o.1:Int)/\(o.1:Int)+o.2<=(s.top:Int):=hI.2 o ho;omega) Xo.1;have h2:c.ot s.base+c.wd-c.ot s.base<sizes L:=Xa;omega
 ·obtain⟨hw,hO,hle,u,hA,Xc,U⟩:=h.opnd hk hv hV.ok Xf rfl hI hU hj;refine⟨y,rfl,N,λw3 e3=>?_⟩;have hz2:=J.size;have Xl:=Xe.od.lt;have t3:AB (λk=>k=s.A.hp) w2 w3:=by rw[e3];exact(AB.refl (λk=>k=s.A.hp) w2).setCell (a:=⟨s.A.hp,11,none⟩) (λ_=>rfl) _
  have hz3:=t3.size;have Xd:∀k,R k->w1.heap.size<=k:=λk hk=>(hR k hk).1;have E:∀k,S' k->(s.X k/\k<w.heap.size)\/w1.heap.size<=k:=λk hk=>Xi k hk
  have Y:∀k,k<w.heap.size->¬s.X k->¬(R k\/AD S' w2 k):=λk hk hn h2=>by
   rcases h2 with h2|h2
   ·have:=Xd k h2;omega
   ·rcases E k h2.1 with h3|h3
    ·exact hn h3.1
    ·omega
  have I:Rec w3 s.A.hp 83 (hpL c s.A (some y) s.cyc s.blk):=by
   rw[e3];exact N.set 11 (pP y)
  have n1:=h.com.n1;have n2:=h.com.n2;have n3:=h.com.n3
  have O:CB w3 (λk=>R k\/AD S' w2 k) s.A c s.base s.top ((s.rs g).map (toV L (c.ot s.base))) (some y) s.cyc s.blk:=
   ⟨I,(h.com.rn.touch J (λhk=>hk.elim (λe=>n3.1 e.symm) hx.2.2.2.1)).touch t3 (λe=>n1.2.2.1 e.symm),Xg.touch t3 (λe=>n1.1 e.symm) (λe=>n1.2.1 e.symm),
    t3.tab (J.tab l5 (λhk=>hk.elim (λe=>n3.2.1 e.symm) hx.2.2.2.2) h.com.tab).lt (λe=>n1.2.2.2 e.symm) (J.tab l5 (λhk=>hk.elim (λe=>n3.2.1 e.symm) hx.2.2.2.2) h.com.tab),n1,n2,n3,Y _ l1 hx.1,Y _ l2 hx.2.1,Y _ l3 hx.2.2.1,Y _ l4 hx.2.2.2.1,Y _ l5 hx.2.2.2.2⟩
  have V:AC w3 (AD S' w2) s.A.q v':=Xm.cut.touch t3 (λk hk _ e=>Y _ l1 hx.1 (.inr (e▸hk)));have M:Cyc w3 R y s.A.q z (AX s.u (C7 c s.base s.top (c.ot s.base)) L):=Xe.touch t3 (λk hk e=>Y _ l1 hx.1 (.inl (e▸hk)));have Xj:HVm c v':=⟨hU.n.trans hv.n,hU.pg.trans hv.pg,hU.rm.trans hv.rm⟩;have Xb:c.ot s.base+c.wd<=v'.n:=by rw[hU.n];exact(h.cf Ω hv).ln
  have hwd:=h.cok.wd;refine⟨λW gW=>?_,λW gW=>?_⟩
  ·have k:AY prog 113 #[pP y] W (iI (((c.ot s.base:Nat):Int)+(sizes L:Nat))):=YCd (M.gr gW);rw[hw,show ((c.ot s.base:Nat):Int)+(g.words:Nat)=((c.ot s.base+g.words:Nat):Int)by omega]at k;exact k
  ·refine(XQQ (b:=c.ot s.base) (t:=c.ot s.base+g.words) (O.gr gW) (V.gr gW) (ζK _ _) Ω Xb Ω (λk hk=>?_)).mono ?_
   ·have:=gW.size;rcases hk with hk|hk
    ·have:=Xl k hk;omega
    ·have:=hk.2;omega
   ·rintro e W' ⟨rfl,rn,hrn,t4,Z⟩;refine⟨rfl,?_⟩;have hgs:=gW.size;have t5:AB (λk=>k=s.A.hp) w2 W':=(t3.trans (gW.touch _)).trans t4;have B:∀k,R k\/AD S' w2 k->k≠s.A.hp:=λk hk e=>Y _ l1 hx.1 (e▸hk);have t6:AB (λk=>k=s.A.hp) w3 W':=(gW.touch _).trans t4
    have hI:HIn W' c g {A:={s.A with rn:=rn},X:=λk=>R k\/AD S' w2 k,base:=c.ot s.base,top:=c.ot s.base+g.words,u:=u,F:=λx=>(toV L (c.ot s.base) (s.F x)).toNat,o:=some y,lf:=(AX s.u (C7 c s.base s.top (c.ot s.base)) L).lf,nb:=(AX s.u (C7 c s.base s.top (c.ot s.base)) L).mv.length,cyc:=s.cyc,blk:=s.blk}:=by
     refine⟨?_,⟨z,AX s.u (C7 c s.base s.top (c.ot s.base)) L,v',R,AD S' w2,⟨M.touch t6 (λk hk=>B k (.inl hk)),V.touch t6 (λk hk _=>B k (.inr hk)),Xj,hO,?_,λ_ h=>h,λk hk hk2=>(hR k hk).2 hk2.1,Z.tab,λhk=>Y _ l5 hx.2.2.2.2 (.inl hk),λhk=>Y _ l5 hx.2.2.2.2 (.inr hk),rfl,rfl,rfl,rfl,hk⟩,rfl,rfl⟩,?_,h.gok,h.cok,?_,?_,h.sl⟩
     ·rw[U]at Z;exact Z
     ·rw[<-hw];exact hA
     ·rw[<-hw];exact Xc
     ·show c.ot s.base<=c.ot s.base+g.words/\c.ot s.base+g.words<=c.ot s.base+c.wd
      omega
     ·rcases h.ot with⟨e,-⟩|⟨e,-⟩
      ·exact .inr ⟨e,by omega⟩
      ·exact .inl e
    refine(UK hI).mono ?_;rintro e w' ⟨rfl,s',h1⟩;refine⟨rfl,s',⟨?_,h1.i,by rw[h1.A],λk hk=>?_,h1.o⟩,?_,?_,by rw[h1.lf,<-hw];exact YP _ _ _⟩
    ·exact((J.mono (λk _ hk=>hk.elim (λe=>.inr (.inr (.inl e))) .inl)).trans' t5 (λk _ e=>.inr (.inl e))).trans' h1.t (λk _ e=>.inr (.inl e))
    ·have hq:∀k,R k\/AD S' w2 k->plus s.S w k:=λk hk=>by
      rcases hk with hk|hk
      ·exact .inr (χ D (Xd k hk))
      ·rcases E k hk.1 with h3|h3
       ·exact .inl (.inl h3.1)
       ·exact .inr (χ D h3)
     rcases hk with hk|hk|hk|hk|hk
     ·exact hq k (h1.X k hk)
     ·rw[h1.A]at hk;exact .inl (.inr (.inl hk))
     ·rw[h1.A]at hk;exact .inl (.inr (.inr (.inl hk)))
     ·rw[h1.A]at hk;exact .inl (.inr (.inr (.inr (.inl hk))))
     ·rw[h1.A]at hk;refine .inr ?_;have:k=rn:=hk;omega
    ·rw[h1.cyc,h1.lf];by_cases h0:(AX s.u (C7 c s.base s.top (c.ot s.base)) L).lf=0
     ·exact(θ ⟨by simp,h0⟩).trans (θ h0).symm
     ·exact(ψ (λhh=>h0 hh.2)).trans (ψ h0).symm
    ·rw[h1.K.top,h1.K.base]
theorem XX(h:HIn w c g s)(hn:s.o=none)(hk:c.kd=1):Calls prog 72 #[pP s.A.hp] w λe w'=>e=.returned (.tuple #[])/\ZT w c g s w':=by
 have N:=ι (VZS h);have hm:=h.mem;rw[hn]at hm;obtain⟨hV,hv,Xt,Xm⟩:=hm;obtain⟨l1,l2,l3,l4,l5⟩:=h.com.lt;have hx:=h.com.x;have E:=ι (λ(W:World) (gg:Gr w W)=>VBz (hV.cut.gr gg) (h.com.rt.gr gg) (gg.tab l5 h.com.tab) (λhk=>hx.2.2.2.2 hk.1) (λhk=>hx.2.1 hk.1) (λhk=>hx.2.2.1 hk.1) (h.cf Ω hv) (λe=>h.com.n3.2.1 e.symm));have D:=(λ(W1 W2:World) (gg:Gr w W1) (e:Ending) (hO:PZ W1 (AD s.X w) s.A.q s.A.r s.A.g s.u (s.rs g) (C7 c s.base s.top (c.ot s.base)) e W2)=>h.opn hn hk gg hO);have HC:=(λ(W:World) (gg:Gr w W)=>(h.com.gr gg).row);have c0:=h.com.row.lt;simp only[hn]at HC;obtain⟨ap,hp⟩:∃ap,ap=s.A.hp:=⟨_,rfl⟩;rw[<-hp]at N D HC c0⊢;obtain⟨d,hd⟩:∃d,d=c.ot s.base:=⟨_,rfl⟩;rw[<-hd]at N D E;have Xa:Hid (Calls prog 93 #[pP ap] w λe w'=>e=.returned (.agg #[iI s.base,iI s.top,iI d,iI ((d+c.wd:Nat):Int),iI c.bk,iI c.st,iI c.ah])/\Gr w w'):=N;have Xd:Hid (∀W,Gr w W->Calls prog 112 #[pP s.A.q,pP s.A.r,.agg #[iI s.base,iI s.top,iI d,iI ((d+c.wd:Nat):Int),iI c.bk,iI c.st,iI c.ah]] W (PZ W (AD s.X w) s.A.q s.A.r s.A.g s.u (s.rs g) (C7 c s.base s.top d))):=E;clear N E;have Xi:=ι (ξ hp l3);clear h hn hk hV hv Xt Xm l1 l2 l3 l4 l5 hx hp hd;go_enter func72,ntmps72;go_upto_region 1 with(go_at_call 93;refine(Xa.o).mono ?_;rintro e w1 ⟨rfl,Xc⟩;have M:=ι Xc;clear Xc);have B:=(Gr.refl w1).alloc (.cells #[.int .i64 s.base,.int .i64 s.top,.int .i64 d,.int .i64 ((d+c.wd:Nat):Int),.int .i64 c.bk,.int .i64 c.st,.int .i64 c.ah] 143);have Xb:=ι (Rec.new w1 143 [iI s.base,iI s.top,iI d,iI ((d+c.wd:Nat):Int),iI c.bk,iI c.st,iI c.ah]);have HGA:=ι B.drew;have I:=ι (M.o.trans B).drew;obtain⟨Sx,Y,HS⟩:=AA.start λW'=>(Rec W' ap 83 (hpL c s.A none s.cyc s.blk)/\Rec W' w1.heap.size 143 [iI s.base,iI s.top,iI d,iI ((d+c.wd:Nat):Int),iI c.bk,iI c.st,iI c.ah])
 have y8:∀p:AA Sx,p.w.cell? ⟨ap,8,none⟩=some (pP s.A.q):=λp=>by have h:=AA.get Y p;exact h.1.cell (j:=8) rfl
 have y9:∀p:AA Sx,p.w.cell? ⟨ap,9,none⟩=some (pP s.A.r):=λp=>by have h:=AA.get Y p;exact h.1.cell (j:=9) rfl
 have Xs:∀p:AA Sx,p.w.cell? ⟨w1.heap.size,0,none⟩=some (iI s.base):=λp=>by have h:=AA.get Y p;exact h.2.cell (j:=0) rfl
 have Xl:∀p:AA Sx,p.w.cell? ⟨w1.heap.size,1,none⟩=some (iI s.top):=λp=>by have h:=AA.get Y p;exact h.2.cell (j:=1) rfl
 have Xo:∀p:AA Sx,p.w.cell? ⟨w1.heap.size,2,none⟩=some (iI d):=λp=>by have h:=AA.get Y p;exact h.2.cell (j:=2) rfl
 have Xu:∀p:AA Sx,p.w.cell? ⟨w1.heap.size,3,none⟩=some (iI ((d+c.wd:Nat):Int)):=λp=>by have h:=AA.get Y p;exact h.2.cell (j:=3) rfl
 have Xr:∀p:AA Sx,p.w.cell? ⟨w1.heap.size,4,none⟩=some (iI c.bk):=λp=>by have h:=AA.get Y p;exact h.2.cell (j:=4) rfl
 have Xp:∀p:AA Sx,p.w.cell? ⟨w1.heap.size,5,none⟩=some (iI c.st):=λp=>by have h:=AA.get Y p;exact h.2.cell (j:=5) rfl
 have Xj:∀p:AA Sx,p.w.cell? ⟨w1.heap.size,6,none⟩=some (iI c.ah):=λp=>by have h:=AA.get Y p;exact h.2.cell (j:=6) rfl
 have Z:=HS.o _ (⟨HC _ I.o,Xb.o.gr (Gr.refl _).drew⟩);have J:Inhabited (AA Sx):=⟨⟨_,Z⟩⟩;clear Y;refine AW Sx 15 [([0,1,2,3,4,5,6,7,8],9)] [10,11,12,13,14] Z ?_;refine AI ?_;go_wp2_with((go_at_call 112;refine(Xd.o _ I.o).mono ?_;rintro e w2 hO;obtain⟨y,rfl,O,U⟩:=D _ _ I.o _ hO;have V:=ι O;have Xk:=ι U;have Xe:=ι ((Xb.o.gr (Gr.refl _).drew).touch hO.1 (λhk=>hk.elim (λe=>by have:=Xi.o.2;have:=M.o.size;omega) (λhk=>by have:=hk.2;have:=M.o.size;omega)));clear O U hO));refine⟨.inr (AA.of (HS.o _ (⟨V.o,Xe.o⟩))),?_⟩;refine BH ?_;clear y8 y9 Xs Xl Xo Xu Xr Xp Xj Z J;clear HS Sx;have Xq:=V.o.cc 11;have zf:=V.o.free 11;have Xn:=V.o.lt;go_upto_region 4 with(fail);clear Xq zf;generalize hw3:w2.setCell ⟨ap,11,none⟩ (.pointer (some ⟨y,0,none⟩))=w3;obtain⟨hT,hL⟩:=Xk.o w3 hw3.symm;have HT:=ι hT;have HL:=ι hL
 have Xg:w3.cell? ⟨w1.heap.size,2,none⟩=some (iI d):=by
  rw[<-hw3];exact(Xe.o.touch ((AB.refl (λk=>k=ap) w2).setCell (a:=⟨ap,11,none⟩) (λ_=>rfl) _) (λe=>by have:=M.o.size;omega)).cell (j:=2) rfl
 have L:=ι Xg;clear hT hL Xg hw3 Xn;obtain⟨Sx,Y,HS⟩:=AA.start λW'=>W'.cell? ⟨w1.heap.size,2,none⟩=some (iI d);have y2:=AA.fact Y λ_ h=>h;have Z:=HS.o (w3.drew) (L.o);have J:Inhabited (AA Sx):=⟨⟨_,Z⟩⟩;clear Y;refine AW Sx 5 [([0,1,2,3],4),([],5)] [] Z ?_;refine AI ?_;go_wp2_with((go_at_call 113;refine(HT.o _ (Gr.refl w3).drew).mono ?_;rintro e w4 ⟨rfl,Xf⟩;have G:=ι ((Gr.refl w3).drew.trans Xf);clear Xf));refine⟨.inr (AA.of (HS.o _ ((G.o.cell (AT L.o) 2).trans L.o))),?_⟩;refine AI ?_;go_wp2_with((go_at_call 95;refine(HL.o _ G.o).mono ?_;rintro e w5 ⟨rfl,he⟩;have HE:=ι he;clear he));refine⟨.inl trivial,?_⟩;refine BH ?_;clear y2 Z J;clear HS Sx;go_wp2_with(go_at_call 43;refine(HE.o).mono ?_;rintro e w6 ⟨rfl,ho⟩;have Xh:=ι ho;clear ho);exact ζz (ζl rfl _ _ _) rfl ⟨rfl,Xh.o⟩
theorem ShA.needP{base top:Nat}(h:ShA base top v){N:Nat}(hN:base+N<=top)(hu:v.pl.used<=v.pl.rm):BA v base ((base+N:Nat):Int)=0:=by
 have hbt:=h.bt;rcases ζE N with rfl|hN0
 ·unfold BA;omega
 obtain⟨p0,Z⟩:∃p0,p0=base/v.pl.pg:=⟨_,rfl⟩;obtain⟨p1,Y⟩:∃p1,p1=(base+N-1)/v.pl.pg:=⟨_,rfl⟩;have hp01:p0<=p1:=by rw[Z,Y];exact ζa Ω
 have hp1l:p1<v.pt.length:=by rw[Y];exact(h.ok.split (a:=base+N-1) Ω).1
 have eA:((base:Int)/(v.pl.pg:Int)).toNat=p0:=by
  omega
 have eB:CV v base ((base+N:Nat):Int)=p1+1-p0:=by
  unfold CV
  grind
 have e0:BS v p0 (p1+1-p0)=[]:=by
  refine List.eq_nil_iff_forall_not_mem.2 λp hp=>?_;obtain⟨⟨h1,h2⟩,h3⟩:=OM.1 hp;refine(h.map (p:=p) Ω).2 ⟨by omega,?_⟩ h3;have h4:=ζi v.pl.pg (show p<=p1 by omega);have h5:=ζj (base+N-1) v.pl.pg
  grind
 unfold BA
 grind
def JQ(w:World)(c:HCf)(g:Gph)(s:HSt)(w':World):Prop:=∃s',BC w c s g s' w'/\s'.lf=0/\s'.top=s'.base+g.words
structure QI(w:World)(c:HCf)(g:Gph)(s:HSt)(A:HAd)(b t:Nat)(v:Vm)(F:Nat->Nat)(S2:Nat->Prop)(w3:World):Prop where
 tc:AB s.S w w3
 com:CB w3 S2 A c b t (g.S.map λx=>(F x:Int)) none s.cyc s.blk
 vm:AC w3 S2 A.q v
 hv:HVm c v
 sh:ShA b t v
 img:Img v g F b t
 sub:∀k,S2 k->s.X k\/w.heap.size<=k
 eA:A.hp=s.A.hp/\A.q=s.A.q/\A.g=s.A.g/\A.r=s.A.r
 rn:A.rn=s.A.rn\/w.heap.size<=A.rn
 bt:b<=t/\t<=b+c.wd
 bs:b=c.pg\/(b=c.pg+c.wd/\c.kd≠3)
theorem QI.fin{t:Nat}{S2:Nat->Prop}(h:QI w c g s A b t v F S2 w3)(h0:HIn w c g s)(ht:t=b+g.words):JQ w c g s (w3.setCell ⟨s.A.hp,12,none⟩ (.int .i64 (wrap64 (s.cyc+1)))):=by
 obtain⟨a1,a2,a3,a4⟩:=h.eA;have tp:AB (λk=>k=s.A.hp) w3 (w3.setCell ⟨s.A.hp,12,none⟩ (.int .i64 (wrap64 (s.cyc+1)))):=(AB.refl (λk=>k=s.A.hp) w3).setCell (a:=⟨s.A.hp,12,none⟩) (λ_=>rfl) _;have hc:=h.com;have Y:AB (λk=>k=A.hp) w3 (w3.setCell ⟨s.A.hp,12,none⟩ (.int .i64 (wrap64 (s.cyc+1)))):=(AB.refl (λk=>k=A.hp) w3).setCell (a:=⟨s.A.hp,12,none⟩) (λ_=>a1.symm) _;refine⟨{A:=A,X:=S2,base:=b,top:=t,u:=v,F:=F,o:=none,lf:=0,nb:=0,cyc:=wrap64 (s.cyc+1),blk:=s.blk},⟨h.tc.trans' tp (λk _ e=>.inr (.inl e)),⟨?_,⟨h.vm.touch Y (λk hk _ e=>hc.x.1 (e▸hk)),h.hv,h.sh,rfl⟩,h.img,h0.gok,h0.cok,h.bt,h.bs,h0.sl⟩,a1,λk hk=>?_,⟨λ_=>rfl,λ_=>rfl⟩⟩,rfl,ht⟩
 ·have Z:=hc.row.set 12 (iI (wrap64 (s.cyc+1)));rw[a1]at Z;refine⟨by rw[a1];exact Z,hc.rn.touch Y (λe=>hc.n1.2.2.1 e.symm),hc.rt.touch Y (λe=>hc.n1.1 e.symm) (λe=>hc.n1.2.1 e.symm),Y.tab hc.tab.lt (λe=>hc.n1.2.2.2 e.symm) hc.tab,hc.n1,hc.n2,hc.n3,hc.x⟩
 ·rcases hk with hk|hk|hk|hk|hk
  ·exact(h.sub k hk).imp .inl id
  ·exact .inl (.inr (.inl (hk.trans a1)))
  ·exact .inl (.inr (.inr (.inl (hk.trans a3))))
  ·exact .inl (.inr (.inr (.inr (.inl (hk.trans a4)))))
  ·rcases h.rn with e|e
   ·exact .inl (.inr (.inr (.inr (.inr (hk.trans e)))))
   ·refine .inr ?_
    simp_all
theorem HIn.ran(h:HIn w c g s)(hn:s.o=none)(hg1:Gr w w1)(hT:AB (λb=>b=s.A.g\/AD s.X w b) w1 w2)(hV:AC w2 (plus (AD s.X w) w1) s.A.q v)(hR:AS w2 s.A.r s.A.g (g.S.map λx=>(F x:Int))):
  AB (λk=>k=s.A.g\/s.X k) w w2/\CB w2 (AD (plus (AD s.X w) w1) w2) s.A c s.base s.top (g.S.map λx=>(F x:Int)) none s.cyc s.blk/\AC w2 (AD (plus (AD s.X w) w1) w2) s.A.q v/\(∀k,AD (plus (AD s.X w) w1) w2 k->(s.X k\/w.heap.size<=k)/\k<w2.heap.size):=by
 obtain⟨l1,l2,l3,l4,l5⟩:=h.com.lt;have hz1:=hg1.size;have hx:=h.com.x;have n1:=h.com.n1;have n2:=h.com.n2;have n3:=h.com.n3;have Z:AB (λk=>k=s.A.g\/s.X k) w w2:=(hg1.touch _).trans (hT.mono (λk _ hk=>hk.imp id (λh=>h.1)))
 have Y:∀k,k<w.heap.size->¬s.X k->¬AD (plus (AD s.X w) w1) w2 k:=λk hk hn h2=>by
  rcases h2.1 with h3|h3
  ·exact hn h3.1
  ·omega
 have J:Rec w2 s.A.hp 83 (hpL c s.A none s.cyc s.blk):=by
  have:=h.com.row;rw[hn]at this;exact this.touch Z (λhk=>hk.elim n1.2.1 hx.1)
 refine⟨Z,⟨J,h.com.rn.touch Z (λhk=>hk.elim (λe=>n3.1 e.symm) hx.2.2.2.1),hR,Z.tab l5 (λhk=>hk.elim (λe=>n3.2.1 e.symm) hx.2.2.2.2) h.com.tab,n1,n2,n3,Y _ l1 hx.1,Y _ l2 hx.2.1,Y _ l3 hx.2.2.1,Y _ l4 hx.2.2.2.1,Y _ l5 hx.2.2.2.2⟩,hV.cut,λk hk=>⟨?_,hk.2⟩⟩
 grind
theorem HIn.cpd(h:HIn w c g s)(hn:s.o=none)(hk:c.kd=2):(∀W,Gr w W->Calls prog 94 #[pP s.A.q,pP s.A.r,cfV (C7 c s.base s.top (c.ot s.base))] W λe w2=>
  e=.returned (.tuple #[iI ((c.ot s.base+g.words:Nat):Int),iI 0])/\Rec w2 s.A.hp 83 (hpL c s.A none s.cyc s.blk)/\AB (λk=>k=s.A.g\/AD s.X w k) W w2 ∧
   ∀W2,Gr w2 W2->Calls prog 95 #[pP s.A.hp,iI (c.ot s.base:Nat),iI ((c.ot s.base+g.words:Nat):Int)] W2 λe w3=>e=.returned (.tuple #[]) ∧
    ∃r,Rec w3 s.A.hp 83 (hpL c {s.A with rn:=r} none s.cyc s.blk)/\JQ w c g s (w3.setCell ⟨s.A.hp,12,none⟩ (.int .i64 (wrap64 (s.cyc+1))))):=λW gW=>by
 have hm:=h.mem;rw[hn]at hm;obtain⟨hV,hv,Z,hlf⟩:=hm;obtain⟨l1,l2,l3,l4,l5⟩:=h.com.lt;have hx:=h.com.x;have E:=h.bt;have hwd:=h.cok.wd;obtain⟨L0,Xg,hin0,hfl0,hle0,hw0,-⟩:=h.rch (n:=s.u.n) (by have:=Z.bt;omega);have Y:=h.cf Ω hv;have Xd:c.ot s.base+c.wd<=s.u.n:=Y.ln;have O:1<=c.ot s.base:=by have:=h.cok.pg1;rcases h.ot with⟨e,-⟩|⟨e,-⟩ <;> omega
 have hot2:c.ot s.base+c.wd<=2147483647:=by
  have:=h.cok.pw;rcases h.ot with⟨e,-⟩|⟨e,-⟩ <;> omega
 have U:∀L,BF s.u (s.rs g) s.u.n L->(∀o∈L,s.base<=o.1/\o.1+o.2<=s.top)/\s.base+sizes L<=s.top/\sizes L=g.words:=λL hM=>by
  have B:=h.img.inn h.gok hM;exact⟨B,NU hM.mkd.good B E.1,h.img.words h.gok hM⟩
 have Xh:PF s.u (s.rs g) (C7 c s.base s.top (c.ot s.base)):=⟨Y,Xg.sound,λL hM=>by
  obtain⟨q1,q2,-⟩:=U L hM;refine⟨q1,?_⟩
  show c.ot s.base+sizes L<=c.ot s.base+c.wd
  omega⟩
 refine(Qj5 (hV.cut.gr gW) (h.com.rt.gr gW) (gW.tab l5 h.com.tab) (λhk=>hx.2.2.2.2 hk.1) (λhk=>hx.2.1 hk.1) (λhk=>hx.2.2.1 hk.1) Xh (λa a1 a2=>Z.ld a1 a2) (λa ha=>?_)).mono ?_
 ·obtain⟨x,Xe,rfl⟩:=ξl.1 ha;refine⟨ψc _,?_⟩
  have h1:g.Ro x:=by
   by_cases h0:x=0
   ·exact .inl h0
   ·exact .inr (Gph.Rd.root Xe h0)
  have:=h.adr h1;omega
 ·rintro e w2 ⟨L,hM,hT,M⟩;obtain⟨q1,q2,hw⟩:=U L hM;have V:=hv.pg
  have hE:BA s.u (c.ot s.base:Nat) ((c.ot s.base+sizes L:Nat):Int)=0:=Z.needC (W:=c.wd) (by rw[V];exact h.cok.dv) E.2 Y.at_ Ω Ω (by
   rw[V,hv.rm];unfold HCf.fr
   rw[ψ Ω,θ hk];exact ϑ _)
  rcases M with⟨Xc,-⟩|⟨-,rfl,v1,v2,k,kq,hD,Xi,Xj⟩
  ·exact absurd hE Xc
  ·obtain⟨k1,k2,k3,k4,k5⟩:=ShA.copied (c:=C7 c s.base s.top (c.ot s.base)) Z Y (by show c.ot s.base+sizes L<=c.ot s.base+c.wd;omega) hE hD;have G:=JW8 hV.ok hM (h.img.full h.gok hM) hD k5;have J:=h.img.moved h.gok G O (by show c.ot s.base+sizes L<=_;omega);have Xb:AS w2 s.A.r s.A.g ((g.S.map λx=>(s.F x:Int)).map (BQ v1 (AR v1 (s.rs g) k) (C7 c s.base s.top (c.ot s.base)).to)):=Xj;rw[h.img.roots G]at Xb;obtain⟨t2,Xa,D,I⟩:=h.ran hn (gW) hT Xi Xb;have Xf:((c.ot s.base+sizes L:Nat):Int)=((c.ot s.base+g.words:Nat):Int):=by rw[hw]
   refine⟨by rw[<-Xf];rfl,Xa.row,hT,λW2 gW2=>?_⟩;refine(XQQ (b:=c.ot s.base) (t:=c.ot s.base+g.words) (Xa.gr gW2) (D.gr gW2) (ζK _ _) Ω (by rw[k2];exact Xd) Ω (λk hk=>κ (I k hk).2 gW2.size)).mono ?_;rintro e w3 ⟨rfl,rn,hrn,t3,N⟩;have hz:=t2.size;have hz2:=gW2.size;rw[hw]at k1 J
   have hP:QI w c g s {s.A with rn:=rn} (c.ot s.base) (c.ot s.base+g.words) _ _ _ w3:=⟨((t2.mono (λk _ hk=>hk.elim (λe=>.inr (.inr (.inl e))) .inl)).trans (gW2.touch _)).trans' t3 (λk _ e=>.inr (.inl e)),N,(D.gr gW2).touch t3 (λk hk _ e=>N.x.1 (e▸hk)),⟨k2.trans hv.n,k3.trans hv.pg,k4.trans hv.rm⟩,k1,J,λk hk=>(I k hk).1,⟨rfl,rfl,rfl,rfl⟩,.inr (by show w.heap.size<=rn;omega),by omega,by
    rcases h.ot with⟨e,-⟩|⟨e,-⟩
    ·exact .inr ⟨e,by omega⟩
    ·exact .inl e⟩
   exact⟨rfl,rn,N.row,hP.fin h rfl⟩
theorem HIn.pkd(h:HIn w c g s)(hn:s.o=none)(hk:c.kd=3):∀W,Gr w W->Calls prog 96 #[pP s.A.q,pP s.A.r,iI s.base,iI s.top,iI c.st] W λe w2=>
  e=.returned (.tuple #[iI ((s.base+g.words:Nat):Int),iI 0])/\Rec w2 s.A.hp 83 (hpL c s.A none s.cyc s.blk) ∧
   ∀W2,Gr w2 W2->Calls prog 99 #[pP s.A.rn,iI ((s.base+g.words:Nat):Int)] W2 λe w3=>e=.returned (iI 0) ∧
    Rec w3 s.A.hp 83 (hpL c s.A none s.cyc s.blk)/\JQ w c g s (w3.setCell ⟨s.A.hp,12,none⟩ (.int .i64 (wrap64 (s.cyc+1)))):=λW gW=>by
 have hm:=h.mem;rw[hn]at hm;obtain⟨hV,hv,Z,hlf⟩:=hm;obtain⟨l1,l2,l3,l4,l5⟩:=h.com.lt;have hx:=h.com.x;have Xb:=h.bt;have hwd:=h.cok.wd;have hst:=h.cok.st;have U:=hv.pg;have hsb:=Z.bt;obtain⟨L0,Xe,hin0,hfl0,hle0,hw0,-⟩:=h.rch (n:=s.u.n) Ω;have hb:s.base=c.pg:=h.bs.elim id (λe=>absurd hk e.2);have hp1:=h.cok.pg1;have hpw:=h.cok.pw;have hnn:s.u.n=c.pg+c.wd:=by rw[hv.n];exact θ hk
 have N:s.u.pl.used<=s.u.pl.rm:=by
  have:=Z.used (W:=c.wd) (by rw[U];exact h.cok.dv) Xb.2;rw[U]at this;rw[hv.rm];unfold HCf.fr
  simp_all
 refine(JZL (hV.cut.gr gW) Ω (h.com.rt.gr gW) (gW.tab l5 h.com.tab) (λhk=>hx.2.2.2.2 hk.1) (λhk=>hx.2.1 hk.1) (λhk=>hx.2.2.1 hk.1) s.base s.top c.st).mono ?_;rintro e w2 ⟨hT,O⟩;rcases O with⟨ha,-⟩|⟨-,(⟨D,-⟩|⟨L,f,t,hI,hf,ht,Xj⟩)⟩
 ·rw[Q8.2 ⟨by omega,by omega,by omega,by omega,by omega⟩]at ha;cases ha
 ·exact absurd (⟨Xe,λo ho=>by grind⟩:E3 s.u (s.rs g) s.base s.top L0) (D L0)
 ·obtain rfl:f=s.base:=Ω
  obtain rfl:t=s.top:=Ω
  have hM:=hI.1;have Xh:=h.img.inn h.gok hM;have M:=NU hM.mkd.good Xh Xb.1;have hw:=h.img.words h.gok hM;have hE:=Z.needP M N;rcases Xj with⟨D,-⟩|⟨-,rfl,v1,v2,j,hD,Xa,Xi⟩
  ·omega
  ·have Xd:∃E,BR s.u v1 E:=⟨_,hD.gr⟩;have Y:=h.img.grown hV.ok Xd Ω;have G:=YxV hV.ok hM hE Ω hD;obtain⟨k1,k2,k3,k4⟩:=Z.packed M hE hD;have J:=Y.moved h.gok G Ω Ω;have B:AS w2 s.A.r s.A.g ((g.S.map λx=>(s.F x:Int)).map (toV L s.base)):=Xi;rw[Y.roots G]at B;rw[hw]at k1 k2 k3 k4 J M Xa;obtain⟨t2,V,Xf,Xc⟩:=h.ran hn gW hT Xa B;refine⟨by rw[hw],V.row,λW2 gW2=>?_⟩;refine(XS (V.gr gW2).rn (t:=s.base+g.words) (ζK _ _) Ω).mono ?_;rintro e w3 ⟨rfl,t3,Xg⟩;have I:=(V.gr gW2).turn t3 Xg;have hP:QI w c g s s.A s.base (s.base+g.words) _ _ _ w3:=⟨((t2.mono (λk _ hk=>hk.elim (λe=>.inr (.inr (.inl e))) .inl)).trans (gW2.touch _)).trans' t3 (λk _ e=>.inr (.inr (.inr (.inr e)))),I,(Xf.gr gW2).touch t3 (λk hk _ e=>I.x.2.2.2.1 (e▸hk)),⟨k2.trans hv.n,k3.trans hv.pg,k4.trans hv.rm⟩,k1,J,λk hk=>(Xc k hk).1,⟨rfl,rfl,rfl,rfl⟩,.inl rfl,by omega,h.bs⟩;exact⟨rfl,I.row,hP.fin h rfl⟩
theorem QPI(h:HIn w c g s)(hn:s.o=none↔s.lf=0)(hk:c.kd=1):Calls prog 52 #[pP s.A.hp] w λe w'=>e=.returned (.tuple #[])/\JQ w c g s w':=by
 have HN:=(GO h);have HF:=(XM h hn);have M:=(λ(W:World) (s1:HSt) (h:HIn W c g s1) (hn:s1.o=none↔s1.lf=0)=>XM h hn);have HO:=(λ(W:World) (s1:HSt) (h:HIn W c g s1) (hn:s1.o=none)=>XX h hn hk);have c0:=h.cc 0;have cl:=h.com.row.lt;obtain⟨ap,hp⟩:∃ap,ap=s.A.hp:=⟨_,rfl⟩;have HP:=ι hp;rw[<-hp]at HN HF c0 cl⊢;rw[hk]at c0;clear h hn hk hp;go_enter func52,ntmps52;go_upto_region 1 with(go_at_call 41;refine AJ (HN) ?_);go_upto_region 7 with(go_at_call 92;refine(HF).mono ?_;rintro e w1 ⟨rfl,s1,h1,h2,h3,h4⟩;have Z:=h1;have U:=(HO _ _ h1.i (h1.o.2 h4));rw[h1.hp,<-HP.o]at U;clear h1 h2 h3);go_upto_region 8 with(go_at_call 72;refine(U).mono ?_;rintro e w2 ⟨rfl,s2,h1,h2,h3,h4⟩;have N:=(Z.trans h1);have V:=h3;have J:=(M _ _ h1.i h1.o);rw[h1.hp,Z.hp,<-HP.o]at J;clear h1 h2 h3);go_wp2_with(go_at_call 92;refine(J).mono ?_;rintro e w3 ⟨rfl,s3,h1,h2,h3,h4⟩;have O:=(N.trans h1);have Y:=(ξ h3 h4);clear h1 h2 h3);refine ζO (ζl rfl _ _ _) rfl ⟨rfl,s3,O,Y.2,?_⟩;rw[Y.1.top,Y.1.base];exact V
theorem ZAF(h:HIn w c g s)(hn:s.o=none)(hk:c.kd=3):Calls prog 52 #[pP s.A.hp] w λe w'=>e=.returned (.tuple #[])/\JQ w c g s w':=by
 have HN:=(GO h);have U:=(h.pkd hn hk);have HB:=(λ(W:World) (gg:Gr w W)=>PA (h.com.gr gg).rn);have HT:=(λ(W:World) (gg:Gr w W)=>U8 (h.com.gr gg).rn);have HC:=(λ(W:World) (gg:Gr w W)=>(h.com.gr gg).row);have c0:=h.cc 0;have cl:=h.com.row.lt;simp only[hn]at HC;obtain⟨ap,hp⟩:∃ap,ap=s.A.hp:=⟨_,rfl⟩;rw[<-hp]at HN U HC c0 cl⊢;rw[hk]at c0;clear h hn hk hp;go_enter func52,ntmps52;go_upto_region 1 with(go_at_call 41;refine AJ (HN) ?_);go_upto_region 2 with(fail);obtain⟨Sx,Y,HS⟩:=AA.start λW'=>Rec W' ap 83 (hpL c s.A none s.cyc s.blk);have y5:∀p:AA Sx,p.w.cell? ⟨ap,5,none⟩=some (iI c.st):=λp=>by have h:=AA.get Y p;exact h.cc 5
 have y8:∀p:AA Sx,p.w.cell? ⟨ap,8,none⟩=some (pP s.A.q):=λp=>by have h:=AA.get Y p;exact h.cc 8
 have y9:∀p:AA Sx,p.w.cell? ⟨ap,9,none⟩=some (pP s.A.r):=λp=>by have h:=AA.get Y p;exact h.cc 9
 have y10:∀p:AA Sx,p.w.cell? ⟨ap,10,none⟩=some (pP s.A.rn):=λp=>by have h:=AA.get Y p;exact h.cc 10
 have J:=HS.o _ (HC _ (Gr.refl w).drew);have inst:Inhabited (AA Sx):=⟨⟨_,J⟩⟩;clear Y;refine AW Sx 29 [([0,1,2,3,4,5,6,7,8,9,10,11,13,14,15,16,18,19,20,21,22],12),([],17),([],23)] [24,25,26,27,28] J ?_;refine AI ?_;go_wp2_with((go_at_call 97;refine AJ (HB _ (Gr.refl w).drew) ?_));refine⟨.inr (AA.of (HS.o _ (HC _ (Gr.refl w).drew))),?_⟩;refine AI ?_;go_wp2_with((go_at_call 98;refine AJ (HT _ (Gr.refl w).drew) ?_));refine⟨.inr (AA.of (HS.o _ (HC _ (Gr.refl w).drew))),?_⟩;refine AI ?_;go_wp2_with((go_at_call 96;refine(U _ (Gr.refl w).drew).mono ?_;rintro e w2 ⟨rfl,hr,Z⟩;have M:=Z));refine⟨.inr (AA.of (HS.o _ (hr))),?_⟩;refine BH ?_;have z10:=hr.cc 10;have zl:=hr.lt;go_upto_region 14 with(go_at_call 99;refine(M _ (Gr.refl _)).mono ?_;rintro e w3 ⟨rfl,hr,Z⟩;have V:=Z);have z12:=hr.cc 12;have zf:=hr.free 12;have zl3:=hr.lt;go_wp2;exact ζz (ζl rfl _ _ _) rfl ⟨rfl,V⟩
theorem J1o(h:HIn w c g s)(hn:s.o=none)(hk:c.kd=2):Calls prog 52 #[pP s.A.hp] w λe w'=>e=.returned (.tuple #[])/\JQ w c g s w':=by
 have HN:=(GO h);have U:=ι (VZS h);have M:=ι (h.cpd hn hk);have HC:=(λ(W:World) (gg:Gr w W)=>(h.com.gr gg).row);have c0:=h.cc 0;have cl:=h.com.row.lt;have l3:=h.com.lt.2.2.1;simp only[hn]at HC;obtain⟨ap,hp⟩:∃ap,ap=s.A.hp:=⟨_,rfl⟩;rw[<-hp]at HN M U HC c0 cl⊢;rw[hk]at c0;obtain⟨d,hd⟩:∃d,d=c.ot s.base:=⟨_,rfl⟩;rw[<-hd]at U M;have O:Hid (Calls prog 93 #[pP ap] w λe w'=>e=.returned (.agg #[iI s.base,iI s.top,iI d,iI ((d+c.wd:Nat):Int),iI c.bk,iI c.st,iI c.ah])/\Gr w w'):=U
 have G:Hid (∀W,Gr w W->Calls prog 94 #[pP s.A.q,pP s.A.r,.agg #[iI s.base,iI s.top,iI d,iI ((d+c.wd:Nat):Int),iI c.bk,iI c.st,iI c.ah]] W λe w2=>
  e=.returned (.tuple #[iI ((d+g.words:Nat):Int),iI 0])/\Rec w2 ap 83 (hpL c s.A none s.cyc s.blk)/\AB (λk=>k=s.A.g\/AD s.X w k) W w2 ∧
   ∀W2,Gr w2 W2->Calls prog 95 #[pP ap,iI d,iI ((d+g.words:Nat):Int)] W2 λe w3=>e=.returned (.tuple #[]) ∧
    ∃r,Rec w3 ap 83 (hpL c {s.A with rn:=r} none s.cyc s.blk)/\JQ w c g s (w3.setCell ⟨ap,12,none⟩ (.int .i64 (wrap64 (s.cyc+1))))):=M
 clear h hn hk hp hd;go_enter func52,ntmps52;go_upto_region 1 with(go_at_call 41;refine AJ (HN) ?_);go_upto_region 11 with(go_at_call 93;refine(O.o).mono ?_;rintro e w1 ⟨rfl,L⟩;have J:=L;clear L);have B:=(Gr.refl w1).alloc (.cells #[.int .i64 s.base,.int .i64 s.top,.int .i64 d,.int .i64 ((d+c.wd:Nat):Int),.int .i64 c.bk,.int .i64 c.st,.int .i64 c.ah] 143);have E:=(Rec.new w1 143 [iI s.base,iI s.top,iI d,iI ((d+c.wd:Nat):Int),iI c.bk,iI c.st,iI c.ah]);have N:=(J.trans B).drew;obtain⟨Sx,Y,HS⟩:=AA.start λW'=>(Rec W' ap 83 (hpL c s.A none s.cyc s.blk)/\Rec W' w1.heap.size 143 [iI s.base,iI s.top,iI d,iI ((d+c.wd:Nat):Int),iI c.bk,iI c.st,iI c.ah])
 have y8:∀p:AA Sx,p.w.cell? ⟨ap,8,none⟩=some (pP s.A.q):=λp=>by have h:=AA.get Y p;exact h.1.cell (j:=8) rfl
 have y9:∀p:AA Sx,p.w.cell? ⟨ap,9,none⟩=some (pP s.A.r):=λp=>by have h:=AA.get Y p;exact h.1.cell (j:=9) rfl
 have Xh:∀p:AA Sx,p.w.cell? ⟨w1.heap.size,0,none⟩=some (iI s.base):=λp=>by have h:=AA.get Y p;exact h.2.cell (j:=0) rfl
 have Xc:∀p:AA Sx,p.w.cell? ⟨w1.heap.size,1,none⟩=some (iI s.top):=λp=>by have h:=AA.get Y p;exact h.2.cell (j:=1) rfl
 have Xd:∀p:AA Sx,p.w.cell? ⟨w1.heap.size,2,none⟩=some (iI d):=λp=>by have h:=AA.get Y p;exact h.2.cell (j:=2) rfl
 have Xi:∀p:AA Sx,p.w.cell? ⟨w1.heap.size,3,none⟩=some (iI ((d+c.wd:Nat):Int)):=λp=>by have h:=AA.get Y p;exact h.2.cell (j:=3) rfl
 have Xg:∀p:AA Sx,p.w.cell? ⟨w1.heap.size,4,none⟩=some (iI c.bk):=λp=>by have h:=AA.get Y p;exact h.2.cell (j:=4) rfl
 have Xf:∀p:AA Sx,p.w.cell? ⟨w1.heap.size,5,none⟩=some (iI c.st):=λp=>by have h:=AA.get Y p;exact h.2.cell (j:=5) rfl
 have Xb:∀p:AA Sx,p.w.cell? ⟨w1.heap.size,6,none⟩=some (iI c.ah):=λp=>by have h:=AA.get Y p;exact h.2.cell (j:=6) rfl
 have V:=HS.o _ (⟨HC _ N,E.gr (Gr.refl _).drew⟩);have I:Inhabited (AA Sx):=⟨⟨_,V⟩⟩;clear Y;refine AW Sx 15 [([0,1,2,3,4,5,6,7,8],9)] [10,11,12,13,14] V ?_;refine AI ?_;go_wp2_with((go_at_call 94;refine(G.o _ N).mono ?_;rintro e w2 ⟨rfl,hr,ht,Z⟩;have Xe:=Z;have D:=((E.gr (Gr.refl _).drew).touch ht (λhk=>hk.elim (λe=>by have:=l3;have:=J.size;omega) (λhk=>by have:=hk.2;have:=J.size;omega)));clear Z ht));refine⟨.inr (AA.of (HS.o _ (⟨hr,D⟩))),?_⟩;refine BH ?_;clear y8 y9 Xh Xc Xd Xi Xg Xf Xb V I;clear HS Sx;have zc2:=D.cc 2;go_upto_region 14 with(go_at_call 95;refine(Xe _ (Gr.refl _)).mono ?_;rintro e w3 ⟨rfl,r,hr,Z⟩;have Xa:=Z;clear Z);have z12:=hr.cc 12;have zf:=hr.free 12;have zl3:=hr.lt;go_wp2;exact ζz (ζl rfl _ _ _) rfl ⟨rfl,Xa⟩
theorem Vn4(h:HIn w c g s)(hn:s.o=none↔s.lf=0):Calls prog 52 #[pP s.A.hp] w λe w'=>e=.returned (.tuple #[])/\JQ w c g s w':=by
 by_cases h1:c.kd=1
 ·grind [QPI]
 ·have ho:s.o=none:=by
   have hm:=h.mem;cases ho:s.o with
   | none=>rfl
   | some y=>
    rw[ho]at hm;obtain⟨z,sl,v,R,Sv,Y,-⟩:=hm;exact absurd Y.kd h1
  by_cases h2:c.kd=2
  ·grind [J1o]
  ·exact ZAF h ho (by have:=h.cok.kd;omega)
theorem HCf.q_in(hbk:BI c.bk=true)(hah:c.ah<=16):1<=c.q/\c.q<=1024/\c.spare<=18*1027:=by
 have hb:=DA hbk;have h1:c.bk/c.pg<=c.bk:=ζ3 _ _;have hq:1<=c.q/\c.q<=1024:=by unfold HCf.q;omega
 refine⟨hq.1,hq.2,?_⟩;exact ψt Ω Ω
theorem HCf.Ok.q(h:c.Ok):1<=c.q/\c.q<=1024/\c.spare<=18*1027:=HCf.q_in h.bk h.ah
theorem Yny(hbk:BI c.bk=true)(hp:1<=c.pg)(hah:c.ah<=16)(w:World):Calls prog 78 #[GX c] w λe w'=>e=.returned (iI c.spare)/\Gr w w':=by
 obtain⟨Z,U,V⟩:=HCf.q_in hbk hah;have hmax:=NN prog;have q1:((c.bk:Int).tdiv (c.pg:Int))=((c.bk/c.pg:Nat):Int):=rfl;have hm:max ((c.bk/c.pg:Nat):Int) 1=(c.q:Int):=by unfold HCf.q;omega
 have Y:((c.ah:Int)+2)*((c.q:Int)+3)=(c.spare:Int):=by exact_mod_cast rfl
 have J:c.bk/c.pg<=c.bk:=ζ3 _ _;generalize c.spare=sp at V Y Y⊢;generalize c.q=qq at Z U hm Y Y;generalize c.bk/c.pg=dd at q1 hm J;unfold GX G8 at *
 go_enter func78,ntmps78;go_upto_region 1 with(fail);go_quiet (fail);go_wp2;go_ret;exact⟨rfl,((Gr.refl w).alloc _).drewN _⟩
theorem GV.gr{base top:Nat}{y:Nat}{z:BZ}{R Sv:Nat->Prop}(h:GV w X A c base top u y z sl v R Sv)(g:Gr w w'):GV w' X A c base top u y z sl v R Sv:=by
 have t:=g.touch (λ_=>False);exact⟨h.cy.touch t (λ_ _ h=>h),h.vm.touch t (λ_ _ _ h=>h),h.hv,h.ok,h.a,h.x,h.d,t.tab h.tab.lt (λh=>h) h.tab,h.t1,h.t2,h.bs,h.lm,h.bk,h.ah,h.kd⟩
def H4(w:World)(c:HCf)(s:HSt)(n:Nat):Prop:=∀y,s.o=some y->∃z sl v R Sv,GV w s.X s.A c s.base s.top s.u y z sl v R Sv/\sl.lf=s.lf/\sl.mv.length=s.nb/\v.pl.used+(n/c.pg+2+c.spare)<=v.pl.rm
def VQ6(w:World)(c:HCf)(g:Gph)(s:HSt)(n:Nat)(w':World):Prop:=∃s',BC w c s g s' w'/\DK s s'/\HKp s s'/\H4 w' c s' n
theorem V0L(h:HIn w c g s)(hn:s.o=none↔s.lf=0)(hn2:n<=256):Calls prog 107 #[pP s.A.hp,iI n] w λe w'=>e=.returned (.tuple #[])/\VQ6 w c g s n w':=by
 have H0:Hid (BC w c s g s w/\DK s s/\HKp s s):=⟨BC.refl h hn,DK.same s,HKp.refl s⟩;have c1:=h.cc 1;have cl:=h.com.row.lt;have O:=h.cok;have Xm:=O.pg1;obtain⟨-,-,Xn⟩:=O.q;have Xb:=(λ(W:World)=>Yny O.bk Xm O.ah W);obtain⟨ap,hp⟩:∃ap,ap=s.A.hp:=⟨_,rfl⟩;have HP:=ι hp;rw[<-hp]at c1 cl⊢;have q1:((n:Int).tdiv (c.pg:Int))=((n/c.pg:Nat):Int):=rfl;have Xo:n/c.pg<=n:=ζ3 _ _;obtain⟨k,hk⟩:∃k,k=n/c.pg:=⟨_,rfl⟩;have HK:=ι hk;rw[<-hk]at q1 Xo;obtain⟨sp,I⟩:∃sp,sp=c.spare:=⟨_,rfl⟩;have Xk:=ι I;rw[<-I]at Xn Xb;clear h hn hp hk O I;unfold GX G8 at Xb;go_enter func107,ntmps107;go_wp2;clear c1
 go_loopw [] (λwr=>∃s',Hid (BC w c s g s' wr/\DK s s'/\HKp s s')) (λwr=>QU wr ap)
 case atStart=>exact⟨s,H0⟩
 case round=>
  obtain⟨s',HR⟩:=hrel;have L:ap=s'.A.hp:=HP.o.trans HR.o.1.hp.symm;have Xg:=ι L;have J:=HR.o.1.i.com.row;rw[<-L]at J;cases ho:s'.o with
  | none=>
   rw[ho]at J;have HC:=(λ(W:World) (gg:Gr wr W)=>J.gr gg);clear J L H0;go_upto_region 1 with(fail);obtain⟨Sx,Y,HS⟩:=AA.start λW'=>Rec W' ap 83 (hpL c s'.A none s'.cyc s'.blk);have G:∀p:AA Sx,p.w.cell? ⟨ap,11,none⟩=some (.pointer none):=λp=>by have h:=AA.get Y p;exact h.cc 11
   have Z:=HS.o _ (HC _ (Gr.refl wr).drew);have U:Inhabited (AA Sx):=⟨⟨_,Z⟩⟩;clear Y;refine AW Sx 30 [([0,1,2,3,4,5,6,7,8,9,11,12,13,14,17,18,19,20,21],10),([],15),([16],22),([23,24,25,26,27],28)] [29] Z ?_;refine AI ?_;go_wp2_with(fail);refine⟨.inr (AA.of (HS.o _ (HC _ (Gr.refl wr).drew))),?_⟩;refine AI ?_;go_wp2_with(fail);refine⟨.inr (AA.of (HS.o _ (HC _ (Gr.refl wr).drew))),?_⟩;refine AI ?_;go_wp2_with(fail);refine⟨.inr (AA.of (HS.o _ (HC _ (Gr.refl wr).drew))),?_⟩;refine AI ?_;go_wp2_with(fail);refine⟨.inr (AA.of (HS.o _ (HC _ (Gr.refl wr).drew))),?_⟩;refine BH ?_;clear G Z U;clear HS Sx;go_wp2;refine ζz (ζl rfl _ _ _) rfl ?_;exact⟨rfl,s',HR.o.1.gr (Gr.refl wr).drew,HR.o.2.1,HR.o.2.2,λy hy=>by rw[ho]at hy;cases hy⟩
  | some y=>
   have hm:=HR.o.1.i.mem;rw[ho]at hm;obtain⟨z,sl,v,R,Sv,M,e1,e2⟩:=hm;have Xe:=(λ(W:World) (gg:Gr wr W)=>JXO (M.vm.gr gg));have Xd:=(λ(W:World) (gg:Gr wr W)=>XOa (M.vm.gr gg));have Xl:v.pl.rm<=4096:=by rw[M.hv.rm];exact HR.o.1.i.cok.fr
   have Xp:=M.a.room M.ok;have hl:s'.lf≠0:=λe=>by rw[HR.o.1.o.2 e]at ho;cases ho
   have Xc:=(λ(W:World) (gg:Gr wr W)=>V2 (HR.o.1.i.gr gg) HR.o.1.o hl);have E:=(ξ M (ξ e1 e2));rw[ho]at J;rw[<-L]at Xc;have HC:=(λ(W:World) (gg:Gr wr W)=>J.gr gg);have Xi:v.pl.used<=v.pl.rm:=Ω
   obtain⟨rm,Xa⟩:∃rm,rm=v.pl.rm:=⟨_,rfl⟩;obtain⟨us,B⟩:∃us,us=v.pl.used:=⟨_,rfl⟩;have Xh:=ι (ξ Xa B);rw[<-Xa]at Xe Xl Xi;rw[<-B]at Xd Xi;clear J L H0 M e1 e2 Xp hl Xa B;by_cases Xf:rm<us+(k+2+sp)
   ·have d0:decide ((rm:Int)-(us:Int)<(k:Int)+2+(sp:Int))=true:=φ Ω;clear Xf;go_upto_region 1 with(fail);obtain⟨Sx,Y,HS⟩:=AA.start λW'=>Rec W' ap 83 (hpL c s'.A (some y) s'.cyc s'.blk);have y0:∀p:AA Sx,p.w.cell? ⟨ap,0,none⟩=some (iI c.kd):=λp=>by have h:=AA.get Y p;exact h.cc 0
    have y1:∀p:AA Sx,p.w.cell? ⟨ap,1,none⟩=some (iI c.pg):=λp=>by have h:=AA.get Y p;exact h.cc 1
    have y2:∀p:AA Sx,p.w.cell? ⟨ap,2,none⟩=some (iI c.bk):=λp=>by have h:=AA.get Y p;exact h.cc 2
    have y3:∀p:AA Sx,p.w.cell? ⟨ap,3,none⟩=some (iI c.wd):=λp=>by have h:=AA.get Y p;exact h.cc 3
    have y4:∀p:AA Sx,p.w.cell? ⟨ap,4,none⟩=some (iI c.sl):=λp=>by have h:=AA.get Y p;exact h.cc 4
    have y5:∀p:AA Sx,p.w.cell? ⟨ap,5,none⟩=some (iI c.st):=λp=>by have h:=AA.get Y p;exact h.cc 5
    have y6:∀p:AA Sx,p.w.cell? ⟨ap,6,none⟩=some (iI c.ah):=λp=>by have h:=AA.get Y p;exact h.cc 6
    have y7:∀p:AA Sx,p.w.cell? ⟨ap,7,none⟩=some (.float .f64 c.tr):=λp=>by have h:=AA.get Y p;exact h.cc 7
    have y8:∀p:AA Sx,p.w.cell? ⟨ap,8,none⟩=some (pP s'.A.q):=λp=>by have h:=AA.get Y p;exact h.cc 8
    have G:∀p:AA Sx,p.w.cell? ⟨ap,11,none⟩=some (pP y):=λp=>by have h:=AA.get Y p;exact h.cc 11
    have Z:=HS.o _ (HC _ (Gr.refl wr).drew);have U:Inhabited (AA Sx):=⟨⟨_,Z⟩⟩;clear Y;refine XO Sx 28 [([0,1,2,3,4,5,6,7,8,9,11,12,13,14,17,18,19,20,21],10),([],15),([16],22),([23,24,25,26,27],28),([],29)] [] Z ?_;refine GZ ?_;go_wp2_with((go_at_call 151;refine AJ (Xe _ (Gr.refl wr).drew) ?_));refine⟨.inr (AA.of (HS.o _ (HC _ (Gr.refl wr).drew))),?_⟩;refine GZ ?_;go_wp2_with((go_at_call 152;refine AJ (Xd _ (Gr.refl wr).drew) ?_));refine⟨.inr (AA.of (HS.o _ (HC _ (Gr.refl wr).drew))),?_⟩;refine GZ ?_;go_wp2_with((go_at_call 78;refine(Xb _).mono ?_;rintro e w1 ⟨rfl,D⟩;have V:=((Gr.refl wr).drew.trans D);clear D));refine⟨.inr (AA.of (HS.o _ (HC _ V))),?_⟩;refine GZ ?_;go_wp2_with((go_at_call 15;refine(Xc _ V).mono ?_;rintro e w2 ⟨rfl,s2,h1,h2,h3,h4⟩;have N:=(ξ h1 (ξ h2 (ξ h3 h4)));clear h1 h2 h3 h4));refine⟨.inl (by first|exact trivial|decide),?_⟩;refine GZ ?_;go_wp2_with(fail);refine⟨.inl (by first|exact trivial|decide),?_⟩;refine Z5 ?_;clear y0 y1 y2 y3 y4 y5 y6 y7 y8 G Z U;clear HS Sx;go_wp2;go_round
    case rel=>exact⟨s2,⟨(HR.o.1.gr V).trans N.1,HR.o.2.1.trans N.2.1,HR.o.2.2.trans N.2.2.1⟩⟩
    case measure=>
     have e1:=N.1.i.left;have e2:=HR.o.1.i.left;rw[N.1.hp,<-Xg.o]at e1;rw[<-Xg.o]at e2;have:=N.2.2.2;omega
   ·have d0:decide ((rm:Int)-(us:Int)<(k:Int)+2+(sp:Int))=false:=ζ Ω;have Xj:=Xf;clear Xf;go_upto_region 1 with(fail);obtain⟨Sx,Y,HS⟩:=AA.start λW'=>Rec W' ap 83 (hpL c s'.A (some y) s'.cyc s'.blk);have y0:∀p:AA Sx,p.w.cell? ⟨ap,0,none⟩=some (iI c.kd):=λp=>by have h:=AA.get Y p;exact h.cc 0
    have y1:∀p:AA Sx,p.w.cell? ⟨ap,1,none⟩=some (iI c.pg):=λp=>by have h:=AA.get Y p;exact h.cc 1
    have y2:∀p:AA Sx,p.w.cell? ⟨ap,2,none⟩=some (iI c.bk):=λp=>by have h:=AA.get Y p;exact h.cc 2
    have y3:∀p:AA Sx,p.w.cell? ⟨ap,3,none⟩=some (iI c.wd):=λp=>by have h:=AA.get Y p;exact h.cc 3
    have y4:∀p:AA Sx,p.w.cell? ⟨ap,4,none⟩=some (iI c.sl):=λp=>by have h:=AA.get Y p;exact h.cc 4
    have y5:∀p:AA Sx,p.w.cell? ⟨ap,5,none⟩=some (iI c.st):=λp=>by have h:=AA.get Y p;exact h.cc 5
    have y6:∀p:AA Sx,p.w.cell? ⟨ap,6,none⟩=some (iI c.ah):=λp=>by have h:=AA.get Y p;exact h.cc 6
    have y7:∀p:AA Sx,p.w.cell? ⟨ap,7,none⟩=some (.float .f64 c.tr):=λp=>by have h:=AA.get Y p;exact h.cc 7
    have y8:∀p:AA Sx,p.w.cell? ⟨ap,8,none⟩=some (pP s'.A.q):=λp=>by have h:=AA.get Y p;exact h.cc 8
    have G:∀p:AA Sx,p.w.cell? ⟨ap,11,none⟩=some (pP y):=λp=>by have h:=AA.get Y p;exact h.cc 11
    have Z:=HS.o _ (HC _ (Gr.refl wr).drew);have U:Inhabited (AA Sx):=⟨⟨_,Z⟩⟩;clear Y;refine XO Sx 28 [([0,1,2,3,4,5,6,7,8,9,11,12,13,14,17,18,19,20,21],10),([],15),([16],22),([23,24,25,26,27],28),([],29)] [] Z ?_;refine GZ ?_;go_wp2_with((go_at_call 151;refine AJ (Xe _ (Gr.refl wr).drew) ?_));refine⟨.inr (AA.of (HS.o _ (HC _ (Gr.refl wr).drew))),?_⟩;refine GZ ?_;go_wp2_with((go_at_call 152;refine AJ (Xd _ (Gr.refl wr).drew) ?_));refine⟨.inr (AA.of (HS.o _ (HC _ (Gr.refl wr).drew))),?_⟩;refine GZ ?_;go_wp2_with((go_at_call 78;refine(Xb _).mono ?_;rintro e w1 ⟨rfl,D⟩;have V:=((Gr.refl wr).drew.trans D);clear D));refine⟨.inr (AA.of (HS.o _ (HC _ V))),?_⟩;refine GZ ?_;go_wp2_with(fail);refine⟨.inl (by first|exact trivial|decide),?_⟩;refine GZ ?_;go_wp2_with(fail);refine⟨.inl (by first|exact trivial|decide),?_⟩;refine Z5 ?_;clear y0 y1 y2 y3 y4 y5 y6 y7 y8 G Z U;clear HS Sx;go_wp2;refine ζz (ζl rfl _ _ _) rfl ?_;refine⟨rfl,s',HR.o.1.gr V,HR.o.2.1,HR.o.2.2,λy' hy=>?_⟩;obtain rfl:y'=y:=by rw[ho]at hy;exact(Option.some.inj hy).symm
    refine⟨z,sl,v,R,Sv,E.1.gr V,E.2.1,E.2.2,?_⟩;rw[<-HK.o,<-Xk.o,<-Xh.o.1,<-Xh.o.2];have:=Xj;omega
section
variable{base top:Nat}{o:Option Nat}{lf nb:Nat}
def MC(w:World)(X:Nat->Prop)(A:HAd)(c:HCf)(base top:Nat)(u:Vm)(n:Nat):Option Nat->Nat->Nat->Prop
 | none,lf,_=>∃v1,AC w X A.q v1/\HVm c u/\ShA base top u/\BR u v1 (BO u top ((top+n:Nat):Int))/\BA u top ((top+n:Nat):Int)=0/\top+n<=u.n/\lf=0
 | some y,lf,nb=>∃z sl v R Sv v1,(Cyc w R y A.q z sl/\AC w Sv A.q v1/\HVm c v/\BL sl v/\HpA top u sl v/\(∀k,R k\/Sv k->X k)/\(∀k,R k->¬Sv k)/\AQ w/\¬R 1/\¬Sv 1 ∧
   sl.cf.to=base/\sl.cf.lm=base+c.wd/\sl.cf.bk=c.bk/\sl.cf.ah=c.ah/\c.kd=1)/\sl.lf=lf/\sl.mv.length=nb/\BR v v1 (BO v top ((top+n:Nat):Int))/\BA v top ((top+n:Nat):Int)=0/\v.pl.used+(n/c.pg+2+c.spare)<=v.pl.rm/\top+n<=base+c.wd
theorem HVm.of(h:HVm c v)(h1:v'.n=v.n)(h2:v'.pl.pg=v.pl.pg)(h3:v'.pl.rm=v.pl.rm):HVm c v':=⟨h1.trans h.n,h2.trans h.pg,h3.trans h.rm⟩
theorem MC.made(h:MC w X A c base top u n o lf nb)(h0:0<top){p:Nat}(hs:p+f+k<=255)(hn:n=1+p+f+k):∃v1 Sv,AC w Sv A.q v1/\(∀k,Sv k->X k)/\EV v1 top ⟨p,f,k⟩=0 ∧
  ∃u',(∀w2,AB Sv w w2->AC w2 (plus Sv w) A.q (mkVm v1 top ⟨p,f,k⟩)->EL w2 (plus X w) A c base (top+n) u' o lf nb) ∧
   (∀a:Nat,a<top->u.ldE a=0->u'.ldE a=0/\u'.ldV a=u.ldV a)/\(∀a:Nat,top<=a->a<top+n->u'.ldE a=0)/\u'.ldV top=C4 p f k/\∀i:Nat,i<p+f+k->u'.ldV ((top+1+i:Nat):Int)=0:=by
 match o,h with
 | none,⟨v1,hV,hv,hsh,hG,hE,hle,e0⟩=>
  obtain⟨m1,m2,m3,m4,m5,m6⟩:=hsh.alloc hs hn h0 hle hE hG;refine⟨v1,X,hV,λ_ h=>h,m1,mkVm v1 top ⟨p,f,k⟩,λw2 t hV2=>⟨hV2,hv.of (m3.sm.n.trans hG.n) (m3.sm.pg.trans hG.pg) (m3.sm.rm.trans hG.rm),m2,e0⟩,λa a1 a2=>⟨?_,m4 a a1⟩,λa a1 a2=>m2.ld (by have:=hsh.bt;omega) a2,m5,m6⟩;rw[m3.sm.ldE,hG.ldE hsh.ok Ω]
  split
  ·rfl
  ·exact a2
 | some y,⟨z,sl,v,R,Sv,v1,⟨hcy,hV,hv,hok,hA,hX,hd,hT,t1,t2,b1,b2,b3,b4,hk⟩,e1,e2,hG,hE,hrm,hfit⟩=>
  have hq:sl.q=c.q:=by
   show max 1 (sl.cf.bk/sl.pg)=max 1 (c.bk/c.pg)
   rw[b3,<-hok.mid.pg,hv.pg]
  have U:sl.pg=c.pg:=by rw[<-hok.mid.pg];exact hv.pg
  obtain⟨m1,m2,u',m3,m4,m5,m6⟩:=hA.alloc hok hs hn (by rw[b2];exact hfit) hE hG (by rw[U,b4,hq];exact hrm);have V:=hok.st;have hln:=V.cf.ln
  have J:(mkVm v1 top ⟨p,f,k⟩).n=v.n/\(mkVm v1 top ⟨p,f,k⟩).pl.pg=v.pl.pg/\(mkVm v1 top ⟨p,f,k⟩).pl.rm=v.pl.rm:=by
   have Y:DR v1 (mkVm v1 top ⟨p,f,k⟩):=(DR.refl hG.ok).mkVm _ _;exact⟨Y.sm.n.trans hG.n,Y.sm.pg.trans hG.pg,Y.sm.rm.trans hG.rm⟩
  refine⟨v1,Sv,hV,λk hk=>hX k (.inr hk),m1,u',λw2 t hV2=>⟨z,sl,mkVm v1 top ⟨p,f,k⟩,R,plus Sv w,⟨hcy.touch t (λk hk Z=>hd k hk Z),hV2,hv.of J.1 J.2.1 J.2.2,m2,m3,λk hk=>?_,λk hk Z=>?_,t.tab hT.lt t2 hT,t1,λhk=>hk.elim t2 (λhk=>by have:=hT.lt;omega),b1,b2,b3,b4,hk⟩,e1,e2⟩,λa a1 a2=>⟨m3.un a Ω,m4 a a1⟩,λa a1 a2=>m3.un a Ω,m5,m6⟩
  ·rcases hk with hk|hk|hk
   ·exact .inl (hX k (.inl hk))
   ·exact .inl (hX k (.inr hk))
   ·exact .inr hk
  ·rcases Z with Z|Z
   ·exact hd k hk Z
   ·have:=hcy.od.lt k hk;omega
theorem MC.gr(h:MC w X A c base top u n o lf nb)(g:Gr w w'):MC w' X A c base top u n o lf nb:=by
 match o,h with
 | none,⟨v1,hV,hr⟩=>exact⟨v1,hV.gr g,hr⟩
 | some y,⟨z,sl,v,R,Sv,v1,⟨hcy,hV,hv,hok,hA,hX,hd,hT,hr⟩,hr2⟩=>exact⟨z,sl,v,R,Sv,v1,⟨hcy.gr g,hV.gr g,hv,hok,hA,hX,hd,g.tab hT.lt hT,hr⟩,hr2⟩
structure HAl(w:World)(c:HCf)(g:Gph)(s:HSt)(n:Nat)(w1:World):Prop where
 t:AB (λk=>k=s.A.rn\/s.X k) w w1
 com:CB w1 (plus s.X w) s.A c s.base (s.top+n) (s.rs g) s.o s.cyc s.blk
 gw:MC w1 (plus s.X w) s.A c s.base s.top s.u n s.o s.lf s.nb
 fit:s.top+n<=s.base+c.wd
theorem HAl.gr(h:HAl w c g s n w1)(gr:Gr w1 w2):HAl w c g s n w2:=⟨h.t.trans (gr.touch _),h.com.gr gr,h.gw.gr gr,h.fit⟩
theorem HIn.bal(h:HIn w c g s)(hr:H4 w c s n)(hn1:1<=n)(hn2:n<=256):Calls prog 108 #[pP s.A.rn,iI n] w λe w1=>
  (s.base+c.wd<s.top+n/\e=.returned (.tuple #[iI 0,iI 21])/\Gr w w1)\/(s.top+n<=s.base+c.wd/\e=.returned (.tuple #[iI s.top,iI 0])/\HAl w c g s n w1):=by
 have hx:=h.com.x;have D:=h.bt;have J:=h.cok;have Xb:=h.com.lt
 have hcn:s.base+c.wd<=c.n:=by
  unfold HCf.n;rcases h.bs with e|⟨e,e3⟩
  ·split <;> omega
  ·rw[ψ e3];omega
 have E:c.wd/c.pg<=c.fr:=by
  unfold HCf.fr
  split
  ·omega
  ·split <;> omega
 have N:∀{S:Nat->Prop} {w1:World},(∀k,S k->s.X k)->AB (λk=>k=s.A.rn\/S k) w w1->E0 w1 s.A.rn s.A.q s.base (s.top+n) (s.base+c.wd)->CB w1 (plus s.X w) s.A c s.base (s.top+n) (s.rs g) s.o s.cyc s.blk:=λ{S w1} hS t U=>by
  obtain⟨l1,l2,l3,l4,l5⟩:=Xb;have k:=h.com;have V:∀k,¬s.X k->¬S k:=λk hk hs=>hk (hS k hs);have Z:∀k,k<w.heap.size->¬s.X k->¬plus s.X w k:=λk hk hn hp=>hp.elim hn (λe=>by omega);exact⟨k.row.touch t (λe=>e.elim k.n1.2.2.1 (V _ hx.1)),U,k.rt.touch t (λe=>e.elim k.n2.2.1 (V _ hx.2.1)) (λe=>e.elim k.n3.1 (V _ hx.2.2.1)),t.tab l5 (λe=>e.elim (λe=>k.n3.2.2 e.symm) (V _ hx.2.2.2.2)) k.tab,k.n1,k.n2,k.n3,Z _ l1 hx.1,Z _ l2 hx.2.1,Z _ l3 hx.2.2.1,Z _ l4 hx.2.2.2.1,Z _ l5 hx.2.2.2.2⟩
 cases ho:s.o with
 | none=>
  have hm:=h.mem;rw[ho]at hm;obtain⟨hV,hv,I,Xa⟩:=hm;have Xe:s.u.n=c.n:=hv.n;refine(Xej h.com.rn hV hx.2.2.2.1 hn1 D.2 Ω (λhle=>I.need (W:=c.wd) hn1 (by rw[hv.pg];exact J.dv) hle Ω (by rw[hv.pg,hv.rm];exact E))).mono ?_;rintro e w1 (⟨h1,rfl,h3⟩|⟨h1,rfl,t,⟨v1,hG,O⟩,U⟩)
  ·exact .inl ⟨h1,rfl,h3⟩
  ·refine .inr ⟨h1,rfl,t,N (λ_ h=>h) t U,?_,h1⟩;rw[ho];exact⟨v1,O,hv,I,hG,I.need (W:=c.wd) hn1 (by rw[hv.pg];exact J.dv) h1 Ω (by rw[hv.pg,hv.rm];exact E),by omega,Xa⟩
 | some y=>
  obtain⟨z,sl,v,R,Sv,Y,e1,e2,G⟩:=hr y ho;have Xe:v.n=c.n:=Y.hv.n
  have hE:s.top+n<=s.base+c.wd->BA v s.top ((s.top+n:Nat):Int)=0:=λhle=>by
   have Xd:=Y.hv.pg;have hp1:=J.pg1
   have hb:CV v s.top ((s.top+n:Nat):Int)<=n/c.pg+2:=by
    unfold CV;rw[show ((s.top+n:Nat):Int)-1=((s.top+n-1:Nat):Int)by omega,Xd,show ((s.top+n-1:Nat):Int)/(c.pg:Int)=(((s.top+n-1)/c.pg:Nat):Int)from rfl,show ((s.top:Nat):Int)/(c.pg:Int)=((s.top/c.pg:Nat):Int)from rfl]
    have h1:(s.top+n-1)/c.pg<=s.top/c.pg+n/c.pg+1:=by
     have q1:=ζu s.top c.pg;have q2:=ξT s.top (show 0<c.pg by omega);have q3:=ζu n c.pg;have q4:=ξT n (show 0<c.pg by omega);refine Nat.le_of_lt_succ ((ζ1 Ω).2 ?_)
     have q5:(s.top/c.pg+n/c.pg+1+1)*c.pg=c.pg*(s.top/c.pg)+c.pg*(n/c.pg)+c.pg+c.pg:=by
      rw[ξf,ξf,ξf,ξA,ζT (s.top/c.pg),ζT (n/c.pg)]
     show s.top+n-1<(s.top/c.pg+n/c.pg+1+1)*c.pg
     generalize c.pg*(s.top/c.pg)=P1 at *
     generalize c.pg*(n/c.pg)=P2 at *
     omega
    generalize (s.top+n-1)/c.pg=P1 at *
    generalize s.top/c.pg=P2 at *
    generalize n/c.pg=P3 at *
    omega
   unfold BA;have:=SD v ((s.top:Int)/(v.pl.pg:Int)).toNat (CV v s.top ((s.top+n:Nat):Int));omega
  refine(Xej h.com.rn Y.vm (λhk=>hx.2.2.2.1 (Y.x _ (.inr hk))) hn1 D.2 Ω hE).mono ?_;rintro e w1 (⟨h1,rfl,h3⟩|⟨h1,rfl,t,⟨v1,hG,O⟩,U⟩)
  ·exact .inl ⟨h1,rfl,h3⟩
  ·have L:∀k,Sv k->s.X k:=λk hk=>Y.x k (.inr hk);have B:=Y.tab.lt;refine .inr ⟨h1,rfl,t.mono (λk _ hk=>hk.imp id (L k)),N L t U,?_,h1⟩;rw[ho];have Xc:∀k,R k->¬(k=s.A.rn\/Sv k):=λk hk e=>e.elim (λe=>hx.2.2.2.1 (by rw[<-e];exact Y.x k (.inl hk))) (Y.d k hk);refine⟨z,sl,v,R,plus Sv w,v1,⟨Y.cy.touch t Xc,O,Y.hv,Y.ok,Y.a,λk hk=>?_,λk hk M=>?_,t.tab B (λhk=>hk.elim (λe=>h.com.n3.2.2 e.symm) Y.t2) Y.tab,Y.t1,λhk=>hk.elim Y.t2 (λhk=>by omega),Y.bs,Y.lm,Y.bk,Y.ah,Y.kd⟩,e1,e2,hG,hE h1,G,h1⟩
   ·rcases hk with hk|hk|hk
    ·exact .inl (Y.x k (.inl hk))
    ·exact .inl (Y.x k (.inr hk))
    ·exact .inr hk
   ·rcases M with M|M
    ·exact Y.d k hk M
    ·have:=Y.cy.od.lt k hk;omega
end
theorem HIn.bal0(h:HIn w c g s)(hr:H4 w c s n)(hn1:1<=n)(hn2:n<=256)(hf:¬s.top+n<=s.base+c.wd):Calls prog 108 #[pP s.A.rn,iI n] w λe w1=>e=.returned (.tuple #[iI 0,iI 21])/\Gr w w1:=
 (h.bal hr hn1 hn2).mono λ_ _ hh=>by
  grind
theorem HIn.bal1(h:HIn w c g s)(hr:H4 w c s n)(hn1:1<=n)(hn2:n<=256)(hf:s.top+n<=s.base+c.wd):Calls prog 108 #[pP s.A.rn,iI n] w λe w1=>e=.returned (.tuple #[iI s.top,iI 0])/\HAl w c g s n w1:=
 (h.bal hr hn1 hn2).mono λ_ _ hh=>by
  grind
theorem H4.none(h:s.o=none):H4 w c s n:=λy hy=>by simp_all
theorem HIn.fits(h:HIn w c g s):s.base+g.words<=s.top:=by
 have hm:=h.rch (n:=s.top) (ϑ _);omega
def LX(w:World)(c:HCf)(g:Gph)(s:HSt)(n:Nat)(e:Ending)(w':World):Prop:=
 (c.wd<g.words+n/\e=.returned (.tuple #[iI 0,iI 21])/\∃s',BC w c s g s' w') ∨
 (g.words+n<=c.wd/\∃s' w1,BC w c s g s' w1/\e=.returned (.tuple #[iI s'.top,iI 0])/\HAl w1 c g s' n w')
theorem LX.ok{s1:HSt}(h:BC w c s g s1 w1)(ha:HAl w1 c g s1 n w'):LX w c g s n (.returned (.tuple #[iI s1.top,iI 0])) w':=.inr ⟨by have:=h.i.fits;have:=ha.fit;omega,s1,w1,h,rfl,ha⟩
theorem BC.rnc{s1:HSt}(h:BC w c s g' s1 w1){ap:Nat}(hp:ap=s.A.hp):w1.cell? ⟨ap,10,none⟩=some (pP s1.A.rn):=by
 have:=h.i.cc 10
 grind [hp]
theorem XLK(h:HIn w c g s)(hn:s.o=none↔s.lf=0)(hn1:1<=n)(hn2:n<=256):Calls prog 68 #[pP s.A.hp,iI n] w (LX w c g s n):=by
 have D:=(V0L h hn hn2);have HN:=ι (ξ hn1 hn2);obtain⟨ap,hp⟩:∃ap,ap=s.A.hp:=⟨_,rfl⟩;have HP:=ι hp;rw[<-hp]at D⊢;have cl:=h.com.row.lt;rw[<-hp]at cl;clear h hn hp hn1 hn2;go_enter func68,ntmps68;go_upto_region 2 with(go_at_call 107;refine(D).mono ?_;rintro e w1 ⟨rfl,s1,h1,h2,h3,h4⟩;have Y:=ι (ξ h1 h4);clear h1 h2 h3 h4);have U:=Y.o.1.rnc HP.o;have yl:=AT U;by_cases hf:s1.top+n<=s1.base+c.wd
 ·have HA:=ι (Y.o.1.i.bal1 Y.o.2 HN.o.1 HN.o.2 hf);clear hf;go_wp2_with(go_at_call 108;refine(HA.o).mono ?_;rintro e w2 ⟨rfl,ha⟩;have M:=ι ha;clear ha);go_ret2;exact LX.ok Y.o.1 M.o
 ·have HA:=ι (Y.o.1.i.bal0 Y.o.2 HN.o.1 HN.o.2 hf);have HF:=ι (λ(W:World) (gg:Gr w1 W)=>XM (Y.o.1.i.gr gg) Y.o.1.o);have V:s1.A.hp=ap:=Y.o.1.hp.trans HP.o.symm;rw[V]at HF;clear hf V;go_upto_region 5 with(go_at_call 108;refine(HA.o).mono ?_;rintro e w2 ⟨rfl,B⟩;have E:=ι B;clear B);clear U yl;go_upto_region 6 with(go_at_call 92;refine(HF.o _ E.o).mono ?_;rintro e w3 ⟨rfl,s2,h1,h2,h3,h4⟩;have Z:=ι (ξ ((Y.o.1.gr E.o).trans h1) h4);clear h1 h2 h3 h4);have U:=Z.o.1.rnc HP.o;have yl:=AT U;have N:=Z.o.1.o.2 Z.o.2;have HO2:=ι N;by_cases hf:s2.top+n<=s2.base+c.wd
  ·have HA:=ι (Z.o.1.i.bal1 (H4.none N) HN.o.1 HN.o.2 hf);clear hf N;go_wp2_with(go_at_call 108;refine(HA.o).mono ?_;rintro e w4 ⟨rfl,ha⟩;have M:=ι ha;clear ha);go_ret2;exact LX.ok Z.o.1 M.o
  ·have HA:=ι (Z.o.1.i.bal0 (H4.none N) HN.o.1 HN.o.2 hf);have HC:=ι (λ(W:World) (gg:Gr w3 W)=>Vn4 (Z.o.1.i.gr gg) Z.o.1.o);have V:s2.A.hp=ap:=Z.o.1.hp.trans HP.o.symm;rw[V]at HC;clear hf V N;go_upto_region 9 with(go_at_call 108;refine(HA.o).mono ?_;rintro e w4 ⟨rfl,L⟩;have I:=ι L;clear L);clear U yl;go_upto_region 10 with(go_at_call 52;refine(HC.o _ I.o).mono ?_;rintro e w5 ⟨rfl,s3,h1,h2,h3⟩;have J:=ι (ξ ((Z.o.1.gr I.o).trans h1) (ξ h2 h3));clear h1 h2 h3);have U:=J.o.1.rnc HP.o;have yl:=AT U;have O:=J.o.1.o.2 J.o.2.1;by_cases hf:s3.top+n<=s3.base+c.wd
   ·have HA:=ι (J.o.1.i.bal1 (H4.none O) HN.o.1 HN.o.2 hf);clear hf O;go_wp2_with(go_at_call 108;refine(HA.o).mono ?_;rintro e w6 ⟨rfl,ha⟩;have M:=ι ha;clear ha);go_ret2;exact LX.ok J.o.1 M.o
   ·have HA:=ι (J.o.1.i.bal0 (H4.none O) HN.o.1 HN.o.2 hf);have HF:=ι hf;clear hf O;go_wp2_with(go_at_call 108;refine(HA.o).mono ?_;rintro e w6 ⟨rfl,G⟩;have Xa:=ι G;clear G);go_ret2;exact .inl ⟨by have:=HF.o;have:=J.o.2.2;omega,rfl,s3,J.o.1.gr Xa.o⟩
theorem ZnB(t:TypeId)(x y:Nat):(∃r,∀w,(binOp .mul t (.float .f64 x) (.float .f64 y)).run prog w=.ok (.float .f64 r) w)\/(∀w,∃r,(binOp .mul t (.float .f64 x) (.float .f64 y)).run prog w=.ok (.float .f64 r) w.drew):=by
 cases h:floatBits .mul .f64 x y with
 | some r=>exact .inl ⟨r,λw=>run_float_arith w .mul t .f64 x y r h⟩
 | none=>
  refine .inr λw=>?_;unfold floatBits at h;have hf:(Question.nanBits FloatKind.f64 x y).forced=false:=rfl;simp[binOp,Op.floatArith,h,choose,Sem.run,hf]
theorem Y88(h:HIn w c g s):Calls prog 71 #[pP s.A.hp] w λe w'=>∃b,e=.returned (.bool b)/\Gr w w':=by
 have HC:=(λ(W:World) (gg:Gr w W)=>(h.com.gr gg).row);have HB:=(λ(W:World) (gg:Gr w W)=>PA (h.com.gr gg).rn);have HT:=(λ(W:World) (gg:Gr w W)=>U8 (h.com.gr gg).rn);have hbt:=h.bt;have hhi:=h.hi;obtain⟨ap,hp⟩:∃ap,ap=s.A.hp:=⟨_,rfl⟩;rw[<-hp]at HC⊢;have I:=underlying3;have O:=underlying31;have hcv:∀(n:Int) (w:World),(convert 3 31 (iI n)).run prog w=.ok (.float .f64 (floatOfInt .f64 n)) w:=λn w=>run_convert_int_float w _ _ _ _ n (by rw[I];rfl) O;clear h hp;go_enter func71,ntmps71;go_upto_region 1 with(fail);obtain⟨Sx,Z,HS⟩:=AA.start λW'=>Rec W' ap 83 (hpL c s.A s.o s.cyc s.blk);have E:∀p:AA Sx,p.w.cell? ⟨ap,10,none⟩=some (pP s.A.rn):=λp=>by have h:=AA.get Z p;exact h.cc 10
 have Y:=HS.o _ (HC _ (Gr.refl w).drew);have V:Inhabited (AA Sx):=⟨⟨_,Y⟩⟩;clear Z;refine AW Sx 13 [([0,1,2,3,5,6,7,8],4),([],9)] [10,11,12] Y ?_;refine AI ?_;go_wp2_with((go_at_call 98;refine AJ (HT _ (Gr.refl w).drew) ?_));refine⟨.inr (AA.of (HS.o _ (HC _ (Gr.refl w).drew))),?_⟩;refine AI ?_;go_wp2_with((go_at_call 97;refine AJ (HB _ (Gr.refl w).drew) ?_));refine⟨.inr (AA.of (HS.o _ (HC _ (Gr.refl w).drew))),?_⟩;refine BH ?_;clear E Y V;generalize floatOfInt .f64 ((s.top:Int)-s.base)=fu at *
 have J:=HC _ (Gr.refl w).drew;have M:=(Gr.refl w).drew;generalize w.drew=w9 at J M⊢;have N:=M;go_upto_region 2 with(fail);obtain⟨r,U⟩|U:=ZnB 31 c.tr (floatOfInt .f64 c.wd)
 ·have y3:=J.cc 3;have y7:=J.cc 7;have yl:=J.lt;go_quiet (fail);go_wp2;go_ret;exact⟨_,rfl,N.drewN _⟩
 ·obtain⟨Sx,Z,HS⟩:=AA.start λW'=>Rec W' ap 83 (hpL c s.A s.o s.cyc s.blk);have y3:∀p:AA Sx,p.w.cell? ⟨ap,3,none⟩=some (iI c.wd):=λp=>by have h:=AA.get Z p;exact h.cc 3
  have y7:∀p:AA Sx,p.w.cell? ⟨ap,7,none⟩=some (.float .f64 c.tr):=λp=>by have h:=AA.get Z p;exact h.cc 7
  obtain⟨r,U⟩:=U w9.drew;have Y:=HS.o _ (J.gr (Gr.refl w9).drew);have V:Inhabited (AA Sx):=⟨⟨_,Y⟩⟩;clear Z;refine AW Sx 15 [([0,1,2,3,4,5,6,7,8,9,10,11],12)] [13,14] Y ?_;refine AI ?_;go_wp2_with(fail);refine⟨.inr (AA.of (HS.o _ (J.gr (Gr.refl w9).drew.drew))),?_⟩;refine BH ?_;go_wp2;go_ret;exact⟨_,rfl,N.drew.drew⟩
theorem BC.cutGr{wA:World}(gr:Gr w wA)(h:BC wA c (s.cut w) g' s' w'):BC w c s g' s' w':=
 ⟨(gr.touch _).trans' (h.t.mono (λk _ hk=>hk.imp (λh=>h.1) id)) (λ_ _ h=>h),h.i,h.hp,λk hk=>by
  rcases h.S k hk with h1|h1
  ·exact .inl (h1.imp (λh=>h.1) id)
  ·exact .inr (χ gr.size h1),h.o⟩
theorem HAl.mkd(h:HIn w1 c g s)(hn:s.o=none↔s.lf=0)(ha:HAl w1 c g s n w'){p:Nat}(hs:p+f+k<=255)(hnn:n=1+p+f+k){a:Int}(hsl:g.sl a=true):∀W,Gr w' W →
  Calls prog 70 #[spV s.A.q,iI s.top,AK ⟨p,f,k⟩] W λe w2=>e=.returned (iI 0)/\Rec w2 s.A.hp 83 (hpL c s.A s.o s.cyc s.blk)/\AB (plus s.X w1) W w2 ∧
   Calls prog 55 #[pP s.A.r,iI a,iI s.top] w2 λe w3=>e=.returned (iI 0)/\∃s4,BC w1 c s (g.add a.toNat p f k) s4 w3/\s4.o=s.o/\s4.A=s.A:=λW gW=>by
 have Xh:=h.bt
 have O:0<s.top:=by
  have:=h.cok.pg1;have:=h.bs;omega
 have Z:=ha.gr gW;obtain⟨v1,Sv,hV,U,Xb,u',M,Xd,V,D,Xg⟩:=Z.gw.made O hs hnn;refine(V9e hV s.top ⟨p,f,k⟩).mono ?_;rintro e w2 ⟨rfl,t2,Xf⟩;have B:=M w2 t2 Xf;have Y:=Z.com.mem (t2.mono (λk _ hk=>U k hk));rw[Xb];refine⟨rfl,Y.row,t2.mono (λk _ hk=>U k hk),?_⟩;obtain⟨i,rfl,Xi,hi2⟩:=ME hsl;refine(VHr Y.rt (i:=i) (by rw[s.len];exact Xi) (a:=(s.top:Int)) (ψc _)).mono ?_;rintro e w3 ⟨rfl,t3,Xe⟩;have E:=XS7 hs;have I:=PU (v:=u') (a:=(s.top:Int)) Ω (V s.top (ϑ _) Ω) (by rw[D];exact E.1);have J:=h.img.add (s:=i) h.gok hs (v':=u') (A:=s.top) (ϑ _) Xh.1 I.1 (by rw[I.2,D];exact E.2) (λm hm=>⟨by exact V _ Ω Ω,Xg m hm⟩) (λb _ b2 b3=>Xd b b2 b3);have N:s.top+1+p+f+k=s.top+n:=Ω
 rw[N]at J
 have Xa:(g.add i p f k).S.map (λx=>((if x=g.L.length+1 then s.top else s.F x:Nat):Int))=(s.rs g).set i (s.top:Int):=by
  unfold HSt.rs Gph.add;rw[ξV];simp only[if_true];congr 1;refine ξI λx hx=>?_;have:=h.gok.st x hx;rw[ψ Ω]
 have Xc:¬plus (plus s.X w1) W s.A.g:=Y.x.2.2.1;refine⟨rfl,{s with X:=plus (plus s.X w1) W,top:=s.top+n,u:=u',F:=λx=>if x=g.L.length+1 then s.top else s.F x},⟨?_,⟨?_,B.touch t3 (λb hb e=>⟨λhx=>Xc (by rw[<-e];exact hx),λe2=>Y.n3.2.1 (by rw[<-e,e2])⟩) (λ_ h=>h),J,h.gok.add hs,h.cok,⟨by show s.base<=s.top+n;omega,ha.fit⟩,h.bs,?_⟩,rfl,λb hb=>?_,hn⟩,rfl,rfl⟩
 ·have ta:AB s.S w1 W:=Z.t.mono (λb _ hb=>hb.elim (λe=>.inr (.inr (.inr (.inr e)))) .inl);refine(ta.trans' (t2.mono (λb _ hb=>U b hb)) (λb hb e=>?_)).trans' t3 (λb hb e=>.inr (.inr (.inl e)));rcases e with e|e
  ·exact .inl e
  ·omega
 ·have:=Y.root t3 Xe
  show CB w3 _ s.A c s.base (s.top+n) ((g.add i p f k).S.map _) s.o s.cyc s.blk
  rw[Xa];exact this
 ·show (g.S.set _ _).length=c.sl
  rw[ω];exact h.sl
 ·have G:=Z.t.size;rcases hb with hb|hb|hb|hb|hb
  ·rcases hb with(hb|hb)|hb
   ·exact .inl (.inl hb)
   ·exact .inr hb
   ·exact .inr (χ G hb)
  ·exact .inl (.inr (.inl hb))
  ·exact .inl (.inr (.inr (.inl hb)))
  ·exact .inl (.inr (.inr (.inr (.inl hb))))
  ·exact .inl (.inr (.inr (.inr (.inr hb))))
def SJ(w:World)(c:HCf)(s:HSt)(g':Gph)(w':World):Prop:=∃s',BC w c s g' s' w'
theorem HIn.getSl(h:HIn w c g s)(a:Int):∃y,Calls prog 66 #[pP s.A.r,iI a] w λe w'=>e=.returned (.tuple #[iI y,iI (if g.sl a then 0 else 17)])/\Gr w w':=by
 cases hs:g.sl a with
 | false=>exact⟨0,VMw h.com.rt (by rw[LD,hs];decide)⟩
 | true=>
  obtain⟨i,rfl,h1,h2⟩:=ME hs;exact⟨_,YU h.com.rt (i:=i) (by rw[s.len];exact h1)⟩
theorem J6F(h:HIn w c g s)(hn:s.o=none↔s.lf=0)(a:Int)(x:Hdr):Calls prog 32 #[pP s.A.hp,iI a,AK x] w λe w'=>e=.returned (iI (g.alE c.wd a x))/\SJ w c s (g.alG c.wd a x) w':=by
 have hc:=h.cut;have Xl:=(Gr.refl w).alloc (.cells #[.int .i64 x.p,.int .i64 x.f,.int .i64 x.k] 72);have HN:=(GO (hc.gr Xl));have H0:Hid (∀W,Gr w W->SJ w c s g W):=⟨λW gg=>⟨s,BC.gr (BC.refl h hn) gg⟩⟩;have G:=(Rec.new w 72 [iI x.p,iI x.f,iI x.k]);have Z:=Xl;have HC:=(λ(W:World) (gg:Gr w W)=>(hc.com.gr gg).row);have Yh:(s.cut w).A=s.A:=rfl;have O:=(λ(W:World) (gg:Gr w W)=>(hc.gr gg).getSl a);have B:=(λ(W:World) (gg:Gr w W) (m:Nat) (h1:1<=m) (h2:m<=256)=>XLK (hc.gr gg) hn h1 h2)
 have Yd:¬(s.cut w).S w.heap.size:=by
  obtain⟨l1,l2,l3,l4,l5⟩:=h.com.lt;rintro(e|e|e|e|e)
  ·exact ζP _ e.2
  ·exact absurd e (by show w.heap.size≠s.A.hp;omega)
  ·exact absurd e (by show w.heap.size≠s.A.g;omega)
  ·exact absurd e (by show w.heap.size≠s.A.r;omega)
  ·exact absurd e (by show w.heap.size≠s.A.rn;omega)
 have Xv:=Yd;have D:=(λ(W:World)=>M8 x W);have Xg:=ι (λ(W:World)=>LH x W);have cl:=h.com.row.lt;obtain⟨ap,hp⟩:∃ap,ap=s.A.hp:=⟨_,rfl⟩;have HP:=ι hp;rw[Yh]at HN HC B O;rw[<-hp]at HN HC B cl⊢;have Xa:Hid (∀{W W':World} {g':Gph} {s':HSt},Gr w W->BC W c (s.cut w) g' s' W'->SJ w c s g' W'):=⟨λgg hr=>⟨_,BC.cutGr gg hr⟩⟩;have z0:=(G).cell (j:=0) rfl;have z1:=(G).cell (j:=1) rfl;have z2:=(G).cell (j:=2) rfl;unfold AK at D Xg⊢;clear h hn hc Xl Yh Yd hp;by_cases J:g.sl a=true
 ·by_cases he:CP x=0
  ·obtain⟨np,nf,nk,rfl,hs⟩:=OA he;obtain⟨n,Xh⟩:∃n,n=1+np+nf+nk:=⟨_,rfl⟩
   have hN:B9 ⟨np,nf,nk⟩=(n:Int):=by
    unfold B9;rw[θ he,Xh]
    show 1+(np:Int)+nf+nk=_
    omega
   have Xf:g.alE c.wd a ⟨np,nf,nk⟩=if (c.wd:Int)<g.words+(n:Int)then 21 else 0:=by unfold Gph.alE;rw[θ J,ψ (λhh=>hh he),hN]
   rw[he]at D;rw[hN]at Xg;have Yr:=ι J;have Xx:=ι (ξ hs Xh);simp only[J,if_true]at O;by_cases Xj:c.wd<g.words+n
   ·have HE:Hid (g.alE c.wd a ⟨np,nf,nk⟩=21/\g.alG c.wd a ⟨np,nf,nk⟩=g):=⟨by
     have e:g.alE c.wd a ⟨np,nf,nk⟩=21:=by rw[Xf,θ Ω]
     exact⟨e,by unfold Gph.alG;rw[e];rfl⟩⟩
    have Xn:=ι (λ(W:World) (gg:Gr w W)=>(B W gg n Ω Ω).mono (R':=λe w'=>e=.returned (.tuple #[iI 0,iI 21])/\∃s',BC W c (s.cut w) g s' w') λe w' hh=>by
     rcases hh with⟨-,h2,h3⟩|⟨h1,-⟩
     ·exact⟨h2,h3⟩
     ·omega)
    clear J he hs Xh hN Xf Xj B;go_enter func32,ntmps32;go_upto_region 3 with(go_at_call 41;refine AJ (HN) ?_);have y9:=(HC _ Z).cell (j:=9) rfl;have yl:=AT y9;obtain⟨y,U⟩:=O _ Z;have HG:=ι U;clear U;go_upto_region 6 with(go_at_call 66;refine(HG.o).mono ?_;rintro e w1 ⟨rfl,Y⟩;have E:=ι (Z.trans Y);have zb:=G.gr Y;have Xo:=ι zb;obtain⟨z0,z1,z2,zl⟩:=zb.k3;clear Y zb);go_upto_region 9 with(go_at_call 67;refine(D _).mono ?_;rintro e w2 ⟨rfl,V⟩;have Xd:=ι (E.o.trans V);have zb:=Xo.o.gr V;clear z0 z1 z2 zl;have Yg:=ι zb;obtain⟨z0,z1,z2,zl⟩:=zb.k3;clear V zb);go_wp2_with(first|(go_at_call 68;refine(Xn.o _ I.o).mono ?_;rintro e w4 ⟨rfl,s',hr⟩;have N:=ι hr;clear hr)|(go_at_call 69;refine(Xg.o _).mono ?_;rintro e w3 ⟨rfl,L⟩;have I:=ι (Xd.o.trans L);clear L));go_ret;exact⟨AM HE.o.1.symm,by rw[HE.o.2];exact Xa.o I.o N.o⟩
   ·have HE:Hid (g.alE c.wd a ⟨np,nf,nk⟩=0/\g.alG c.wd a ⟨np,nf,nk⟩=g.add a.toNat np nf nk):=⟨by
     have e:g.alE c.wd a ⟨np,nf,nk⟩=0:=by rw[Xf,ψ Ω]
     exact⟨e,by unfold Gph.alG;rw[θ e];rfl⟩⟩
    have Xn:=ι (λ(W:World) (gg:Gr w W)=>(B W gg n Ω Ω).mono (R':=λe w'=>∃s' w1,e=.returned (.tuple #[iI s'.top,iI 0])/\BC W c (s.cut w) g s' w1/\HAl w1 c g s' n w') λe w' hh=>by
     rcases hh with⟨h1,-⟩|⟨-,s',w1,h2,h3,h4⟩
     ·omega
     ·exact⟨s',w1,h3,h2,h4⟩)
    clear J he hs Xh hN Xf Xj B;go_enter func32,ntmps32;go_upto_region 3 with(go_at_call 41;refine AJ (HN) ?_);have y9:=(HC _ Z).cell (j:=9) rfl;have yl:=AT y9;obtain⟨y,U⟩:=O _ Z;have HG:=ι U;clear U;go_upto_region 6 with(go_at_call 66;refine(HG.o).mono ?_;rintro e w1 ⟨rfl,Y⟩;have E:=ι (Z.trans Y);have zb:=G.gr Y;have Xo:=ι zb;obtain⟨z0,z1,z2,zl⟩:=zb.k3;clear Y zb);go_upto_region 9 with(go_at_call 67;refine(D _).mono ?_;rintro e w2 ⟨rfl,V⟩;have Xd:=ι (E.o.trans V);have zb:=Xo.o.gr V;clear z0 z1 z2 zl;have Yg:=ι zb;obtain⟨z0,z1,z2,zl⟩:=zb.k3;clear V zb);go_upto_region 12 with(first|(go_at_call 68;refine(Xn.o _ I.o).mono ?_;rintro e w5 ⟨s',w4,rfl,hr,ha⟩;have N:=ι hr;have Xq:=ι ha;clear hr ha)|(go_at_call 69;refine(Xg.o _).mono ?_;rintro e w3 ⟨rfl,L⟩;have I:=ι (Xd.o.trans L);have Yf:=ι (Yg.o.gr L);clear L));clear z0 z1 z2 zl y9 yl
    have Xw:Rec w5 w.heap.size 72 [iI np,iI nf,iI nk]:=by
     have hb3:=Yf.o.lt;have Yp:¬s'.S w.heap.size:=λhk=>(N.o.S _ hk).elim Xv (λe=>by omega);refine(Yf.o.touch N.o.t Xv).touch Xq.o.t (λhk=>Yp ?_);rcases hk with hk|hk
     ·exact .inr (.inr (.inr (.inr hk)))
     ·exact .inl hk
    have Xz:=ι Xw
    have Xk:Rec w5 ap 83 (hpL c s'.A s'.o s'.cyc s'.blk):=by
     have:=Xq.o.com.row;rw[N.o.hp]at this;rw[HP.o];exact this
    have Yi:=ι Xk;have Xe:=HAl.mkd N.o.i N.o.o Xq.o Xx.o.1 Xx.o.2 Yr.o;unfold spV AK at Xe;have Ye:s'.A.hp=ap:=N.o.hp.trans HP.o.symm;rw[Ye]at Xe;have Yl:=ι Xe;clear Xw Xk Xe Ye;obtain⟨Sx,Xc,HS⟩:=AA.start λW'=>(Rec W' ap 83 (hpL c s'.A s'.o s'.cyc s'.blk)/\Rec W' w.heap.size 72 [iI np,iI nf,iI nk])
    have y8:∀p:AA Sx,p.w.cell? ⟨ap,8,none⟩=some (pP s'.A.q):=λp=>by have h:=AA.get Xc p;exact h.1.cell (j:=8) rfl
    have Yq:∀p:AA Sx,p.w.cell? ⟨w.heap.size,0,none⟩=some (iI np):=λp=>by have h:=AA.get Xc p;exact h.2.cell (j:=0) rfl
    have Ym:∀p:AA Sx,p.w.cell? ⟨w.heap.size,1,none⟩=some (iI nf):=λp=>by have h:=AA.get Xc p;exact h.2.cell (j:=1) rfl
    have Yj:∀p:AA Sx,p.w.cell? ⟨w.heap.size,2,none⟩=some (iI nk):=λp=>by have h:=AA.get Xc p;exact h.2.cell (j:=2) rfl
    have Xr:=HS.o _ (⟨Yi.o.gr (Gr.refl w5).drew,Xz.o.gr (Gr.refl w5).drew⟩);have Xu:Inhabited (AA Sx):=⟨⟨_,Xr⟩⟩;clear Xc;refine AW Sx 7 [([0,1,2,3,4,5,6],7)] [] Xr ?_;refine AI ?_;go_wp2_with((go_at_call 70;refine(Yl.o _ (Gr.refl w5).drew).mono ?_;rintro e w6 ⟨rfl,Ya,-,Yc⟩;have Yn:=ι Ya;have Ys:=ι Yc;clear Ya Yc));refine⟨.inl trivial,?_⟩;refine BH ?_;clear y8 Yq Ym Yj Xr Xu;clear HS Sx;have y9:=Yn.o.cc 9;have yl:=AT y9;go_upto_region 14 with(go_at_call 55;refine(Ys.o).mono ?_;rintro e w7 ⟨rfl,s4,h4,-,-⟩;have M:=ι (N.o.trans h4);clear h4);clear y9 yl;have Xm:s4.A.hp=ap:=M.o.hp.trans HP.o.symm;have Xy:=ι Xm;have y0:=M.o.i.cc 0;have Xb:=M.o.i.cc 11;rw[Xm]at y0 Xb;have yl:=AT y0;clear Xm;by_cases hk:c.kd=1
    ·have hd:((c.kd:Int)==1)=true:=by rw[hk];rfl
     cases ho:s4.o with
     | some y'=>
      rw[ho]at Xb;simp only[ξ8]at Xb;clear hk ho;go_wp2;go_ret;exact⟨AM HE.o.1.symm,by rw[HE.o.2];exact Xa.o I.o M.o⟩
     | none=>
      rw[ho]at Xb;simp only[Option.map_none]at Xb;have Xs:=Y88 M.o.i;rw[Xy.o]at Xs;have Yk:=ι Xs;have Xt:=ι (λ(W:World) (gg:Gr w7 W)=>XX (M.o.i.gr gg) ho hk);rw[Xy.o]at Xt;clear hk ho Xs;go_upto_region 15 with(go_at_call 71;refine(Yk.o).mono ?_;rintro e w8 ⟨b,rfl,Yb⟩;have Xp:=ι Yb;clear Yb;cases b)
      ·go_ret;exact⟨AM HE.o.1.symm,by rw[HE.o.2];exact Xa.o I.o (M.o.gr Xp.o)⟩
      ·go_wp2_with(go_at_call 72;refine(Xt.o _ Xp.o).mono ?_;rintro e w9 ⟨rfl,s5,h5,-,-⟩;have Yo:=ι ((M.o.gr Xp.o).trans h5);clear h5);go_ret;exact⟨AM HE.o.1.symm,by rw[HE.o.2];exact Xa.o I.o Yo.o⟩
    ·have hd:((c.kd:Int)==1)=false:=by simp;omega
     clear hk;go_wp2;go_ret;exact⟨AM HE.o.1.symm,by rw[HE.o.2];exact Xa.o I.o M.o⟩
  ·have HE:Hid (g.alE c.wd a x=15/\g.alG c.wd a x=g):=⟨by
    have e:g.alE c.wd a x=15:=by unfold Gph.alE;rw[θ J,θ he]
    exact⟨e,by unfold Gph.alG;rw[e];rfl⟩⟩
   have Xi:CP x=15:=(UZ x).resolve_left he;rw[Xi]at D;simp only[J,if_true]at O;clear J he Xi;go_enter func32,ntmps32;go_upto_region 3 with(go_at_call 41;refine AJ (HN) ?_);have y9:=(HC _ Z).cell (j:=9) rfl;have yl:=AT y9;obtain⟨y,U⟩:=O _ Z;have HG:=ι U;clear U;go_upto_region 6 with(go_at_call 66;refine(HG.o).mono ?_;rintro e w1 ⟨rfl,Y⟩;have E:=ι (Z.trans Y);have zb:=G.gr Y;obtain⟨z0,z1,z2,zl⟩:=zb.k3;clear Y zb);go_wp2_with(go_at_call 67;refine(D _).mono ?_;rintro e w2 ⟨rfl,V⟩;have Xd:=ι (E.o.trans V);clear V);go_ret;exact⟨AM HE.o.1.symm,by rw[HE.o.2];exact H0.o _ Xd.o⟩
 ·have HE:Hid (g.alE c.wd a x=17/\g.alG c.wd a x=g):=⟨by
   have e:g.alE c.wd a x=17:=by unfold Gph.alE;rw[ψ J]
   exact⟨e,by unfold Gph.alG;rw[e];rfl⟩⟩
  simp only[J]at O;clear J;go_enter func32,ntmps32;go_upto_region 3 with(go_at_call 41;refine AJ (HN) ?_);have y9:=(HC _ Z).cell (j:=9) rfl;have yl:=AT y9;obtain⟨y,U⟩:=O _ Z;have HG:=ι U;clear U;go_wp2_with(go_at_call 66;refine(HG.o).mono ?_;rintro e w1 ⟨rfl,Y⟩;have E:=ι (Z.trans Y);clear Y);go_ret;exact⟨AM HE.o.1.symm,by rw[HE.o.2];exact H0.o _ E.o⟩
section
variable{P:Program}{l:List Oper}{Q:Exit->Act->World->Prop}{S:World->Prop}
end
theorem Sp.E.own{z:Sp}{S:Nat->Prop}{wB:World}(hz:z.Ok)(gB:Gr w wB)(h:z.E u S wB w2)(t:AB (λk=>k=x) w2 w')(hx:w.heap.size<=x/\x<wB.heap.size)(hS:¬S x)(hD:¬z.D x):z.W u S w w':=by
 refine⟨((gB.touch S).trans (h.1.mono (λ_ _ h=>h.2))).trans' t (λk hk e=>by omega),hz.fr h.2 t (λk hk e=>?_) (λk hk=>hk.imp id (λhk=>χ gB.size hk))⟩;subst e;exact⟨λhk=>hk.elim hS (λhk=>by omega),hD⟩
theorem HOp.own(gr:Gr w w0)(h:HOp w0 c (s.cut w) g' w3)(t:AB (λk=>k=b) w3 w')(hb:w.heap.size<=b/\b<w0.heap.size)(hl:s.A.hp<w.heap.size/\s.A.r<w.heap.size/\s.A.g<w.heap.size/\s.A.rn<w.heap.size/\1<w.heap.size):HOp w c s g' w':=by
 obtain⟨s',hr,hs⟩:=h
 have Y:¬(s.cut w).S b:=by
  rintro(e|e|e|e|e)
  ·have:=e.2;omega
  ·have:b=s.A.hp:=e;omega
  ·have:b=s.A.g:=e;omega
  ·have:b=s.A.r:=e;omega
  ·have:b=s.A.rn:=e;omega
 have hi:HIn w' c g' s':=hr.i.touch t (λk hk e=>by
  subst e
  exact⟨λhk2=>(hr.S _ hk2).elim Y (λe=>by omega),by omega⟩)
 have hc:=BC.cutGr gr hr;exact⟨s',⟨hc.t.trans' t (λk hk e=>by omega),hi,hc.hp,hc.S,hc.o⟩,⟨hs.lf,hs.cyc⟩⟩
theorem JC(W:World)(b:Nat)(z0 z1 z2:Value):AB (λi=>i=b) W (((W.setCell ⟨b,0,none⟩ z0).setCell ⟨b,1,none⟩ z1).setCell ⟨b,2,none⟩ z2):=
 (((AB.refl (λi=>i=b) W).setCell (a:=⟨b,0,none⟩) (λ_=>rfl) _).setCell (a:=⟨b,1,none⟩) (λ_=>rfl) _).setCell (a:=⟨b,2,none⟩) (λ_=>rfl) _
theorem HIn.shp(h:HIn w c g s){a:Int}(hs:g.sl a=true):s.u.rdE (s.F (g.at a):Nat)=g.shE a/\s.u.rdH (s.F (g.at a):Nat)=g.shH a:=by
 unfold Gph.shH Gph.shE;rw[θ hs];rcases Gph.at_ro hs with h0|hr
 ·rw[h0,h.img.z,θ rfl,ψ (by decide)];exact⟨rfl,rfl⟩
 ·have hp:=h.img.pos hr;have h0:g.at a≠0:=λe=>by rw[e,h.img.z]at hp;omega
  rw[ψ h0,θ rfl];exact⟨h.img.rd _ hr,h.img.hd _ hr⟩
theorem VcO(h:HIn w c g s)(hn:s.o=none↔s.lf=0)(a:Int):Calls prog 61 #[pP s.A.hp,iI a] w λe w'=>e=.returned (.tuple #[AK (g.shH a),iI (g.shE a)])/\HOp w c s g w':=by
 have Xa:=(Gr.refl w).alloc (.cells #[.int .i64 0,.int .i64 0,.int .i64 0] 72);have hc:=h.cut.gr Xa;have Xr:=h.com.lt;have Yc:=Rec.new w 72 [iI 0,iI 0,iI 0];have Xu:(s.cut w).A=s.A:=rfl;have hz:(w.alloc (.cells #[.int .i64 0,.int .i64 0,.int .i64 0] 72)).heap.size=w.heap.size+1:=γ ..;obtain⟨w0,Xf⟩:∃w0,w0=w.alloc (.cells #[.int .i64 0,.int .i64 0,.int .i64 0] 72):=⟨_,rfl⟩;have Xs:Rec w0 w.heap.size 72 [iI 0,iI 0,iI 0]:=by rw[Xf];exact Yc
 clear Yc;rw[<-Xf]at Xa hc hz;obtain⟨F0,F1⟩:=NV hc a;have HC:=hc;have Xj:=Xa;have Xl:=ι Xs;have HN:=ι hn;have O:=ι (ξ Xr hz);have Yd:=ι Xf;have KL:=ι (λ(W:World) (blk:Nat) (p q r:Value)=>SO W blk p q r);rw[Xu]at F0 F1;rw[show (s.cut w).F=s.F from rfl]at F1;cases hsl:g.sl a with
 | false=>
  have HF:=ι (F0 hsl)
  have HE:Hid (g.shE a=17/\g.shH a=⟨0,0,0⟩):=⟨by
   have e:g.shE a=17:=by unfold Gph.shE;rw[hsl];rfl
   exact⟨e,by unfold Gph.shH;rw[e];rfl⟩⟩
  generalize s.A.hp=ap at HF⊢;clear h hc hn hsl F0 F1 Xa Xs Xr hz Xu Xf;go_enter func61,ntmps61;go_upto_region 1 with(fail);rw[<-Yd.o];go_upto_region 3 with(go_at_call 56;refine(HF.o).mono ?_;rintro e w1 ⟨rfl,hg⟩;have HG:=ι hg;have r1:=Xl.o.gr hg;have Ye:=ι r1;have z0:=r1.cc 0;have z1:=r1.cc 1;have z2:=r1.cc 2;have zf:=r1.free;have zl:=r1.lt;clear hg r1);go_wp2;have R3:=Rec.set (Rec.set (Rec.set Ye.o 0 (iI 0)) 1 (iI 0)) 2 (iI 0);refine ζO (v:=.tuple #[AK ⟨0,0,0⟩,iI 17]) ?_ rfl ?_
  ·rw[results_cell_tmp rfl];have hl:=KL.o _ w.heap.size _ _ _ (R3.cc 0) (R3.cc 1) (R3.cc 2);simp[asAddr,Result.andThen,hl,AK]
  ·refine⟨by rw[HE.o.1,HE.o.2],HOp.own Xj (HOp.same HC HN.o HG.o) (JC _ _ _ _ _) ⟨ϑ _,by rw[O.o.2];omega⟩ O.o.1⟩
 | true=>
  have HF:=ι (F1 hsl);have Xz:=Gph.at_ro hsl;have Xi:=ι (λ(W:World) (gg:Gr w0 W)=>LG (hc.cut.gr gg));have I:=ι (λ(W:World) (gg:Gr w0 W)=>M4 (IJ ..) (hc.cut.gr gg).sp (s.F (g.at a):Nat) (hc.cut.rdP Xz));obtain⟨e1,e2⟩:=h.shp hsl;have e3:((s.cut w).cut w0).u=s.u:=rfl;rw[e3,e1,e2]at I;have Xg:=ι (λ(W1 W2:World) (gr:Gr w0 W1) (he:(((s.cut w).cut w0).sp c).W s.u ((s.cut w).cut w0).X W1 W2)=>YKV hc hn gr he h.img h.gok rfl);have Xp:((s.cut w).cut w0).A.hp=s.A.hp:=rfl;have Xn:(s.cut w).A.hp=s.A.hp:=rfl;rw[Xp]at Xi;rw[Xn]at Xg;have Xo:=ι (λ(W WB W2 W3:World) (x:Nat) (gW:Gr w0 W) (gB:Gr W WB) (he:(((s.cut w).cut w0).sp c).E s.u ((s.cut w).cut w0).X WB W2) (t:AB (λk=>k=x) W2 W3) (hx:W.heap.size<=x/\x<WB.heap.size)=>Sp.E.own (IJ ..) gB he t hx (λhk=>by have:=hk.2;have:=gW.size;omega) (λhk=>by have:x=1:=hk;have:=gW.size;omega))
  have Xq:Hid (¬(s.cut w).S w.heap.size):=⟨by
   rintro(e|e|e|e|e)
   ·exact ζP _ e.2
   ·exact absurd e (by show w.heap.size≠s.A.hp;omega)
   ·exact absurd e (by show w.heap.size≠s.A.g;omega)
   ·exact absurd e (by show w.heap.size≠s.A.r;omega)
   ·exact absurd e (by show w.heap.size≠s.A.rn;omega)⟩
  have Xk:Hid (∀x,w0.heap.size<=x->x≠s.A.hp):=⟨λx hx e=>by omega⟩;generalize g.shE a=re at I⊢;generalize g.shH a=hd at I⊢;obtain⟨xp,xf,xk⟩:=hd;generalize (s.F (g.at a):Nat)=ad at HF I;obtain⟨ap,hp⟩:∃ap,ap=s.A.hp:=⟨_,rfl⟩;rw[<-hp]at HF Xi Xg Xk⊢;clear h hc hn hsl F0 F1 Xa Xs Xr hz Xu Xf Xz e1 e2 e3 Xp Xn hp;unfold AK at I;go_enter func61,ntmps61;go_upto_region 1 with(fail);rw[<-Yd.o];go_upto_region 4 with(go_at_call 56;refine(HF.o).mono ?_;rintro e w1 ⟨gb,cp,rfl,Xy,Xw,Xx⟩;have Y:=ι Xy;have V:=ι Xx;have Xv:=ι Xw;clear Xy Xx Xw);obtain⟨Sx,Xm⟩:∃Sx:World->Prop,Sx=λW'=>W'.cell? ⟨gb,0,none⟩=some (iI (ad:Nat)):=⟨_,rfl⟩;have y0:∀p':AA Sx,p'.w.cell? ⟨gb,0,none⟩=some (iI (ad:Nat)):=λp=>AA.get Xm p;have Yb:Sx w1.drew:=by rw[Xm];exact V.o
  have Z:=ι Xm;have inst:Inhabited (AA Sx):=⟨⟨_,Yb⟩⟩;clear Xm;refine YD Sx (.two [0,2,3,4] 1 (.two [] 5 (.one [6,7,8] 9 (.one [] 10 (.fin [11]))) 9 (.one [] 5 (.one [6,7,8] 10 (.fin [11])))) 9 (.one [] 1 (.one [] 5 (.one [6,7,8] 10 (.fin [11]))))) Yb ?_;refine PK ?_;simp only[AF,ν,π]
  repeat(go_big_quiet_step (fail))
  refine ζb ⟨?_,?_⟩
  ·go_wp2_with(go_at_call 58;refine AJ (Xi.o _ Y.o.drew) ?_);refine⟨AA.of (by rw[Z.o];exact V.o),?_⟩;refine PK ?_;simp only[AF,ν,π];refine ζb ⟨?_,?_⟩
   ·go_wp2_with(go_at_call 104;refine(I.o _ Y.o.drew).mono ?_;rintro e w2 ⟨rfl,he⟩;have N:=ι he;clear he);have KC:w2.cell? ⟨gb,0,none⟩=some (iI (ad:Nat)):=(N.o.1.cell (AT V.o) (λhk=>ζP _ (κ hk.2.2 Xv.o)) 0).trans V.o;have Ya:=AT KC;refine⟨AA.of (by rw[Z.o];exact KC),?_⟩;refine G2 ?_;go_wp2;refine⟨AA.of (by rw[Z.o];exact(((Gr.refl w2).alloc _).cell Ya 0).trans KC),?_⟩;refine NG ?_;simp only[AF,ν,π];refine ζb ?_;go_wp2;refine⟨AA.of (by rw[Z.o];exact(((Gr.refl w2).alloc _).cell Ya 0).trans KC),?_⟩;refine LK ?_;have Xd:Hid ((((s.cut w).cut w0).sp c).W s.u ((s.cut w).cut w0).X w1.drew (w2.alloc (.cells #[.int .i64 xp,.int .i64 xf,.int .i64 xk] 72))):=⟨N.o.toW.gr ((Gr.refl w2).alloc _) (IJ ..)⟩;have Xc:Hid (Rec (w2.alloc (.cells #[.int .i64 xp,.int .i64 xf,.int .i64 xk] 72)) w2.heap.size 72 [iI xp,iI xf,iI xk]):=⟨Rec.new w2 _ [iI xp,iI xf,iI xk]⟩;have Hw2.heap.size:Hid (w0.heap.size<=w2.heap.size):=⟨χ Y.o.size N.o.1.size⟩;go_wp2_with(go_at_call 43;refine(Xg.o _ _ Y.o.drew Xd.o).mono ?_;rintro e w3 ⟨rfl,s',hr,hs,-,ht⟩;have L:=ι (ξ hr hs);have rx:=Xc.o.touch ht (Xk.o _ Hw2.heap.size.o);obtain⟨k0,k1,k2,kl⟩:=rx.k3;have r3:=Xl.o.touch hr.t Xq.o;have Xb:=ι r3;have z0:=r3.cc 0;have z1:=r3.cc 1;have z2:=r3.cc 2;have zf:=r3.free;have zl:=r3.lt;clear hr hs ht rx r3);have R3:=Rec.set (Rec.set (Rec.set Xb.o 0 (iI xp)) 1 (iI xf)) 2 (iI xk);refine ζO (v:=.tuple #[AK ⟨xp,xf,xk⟩,iI re]) ?_ rfl ?_
    ·rw[results_cell_tmp rfl];have hl:=KL.o _ w.heap.size _ _ _ (R3.cc 0) (R3.cc 1) (R3.cc 2);simp[asAddr,Result.andThen,hl,AK]
    ·exact⟨rfl,HOp.own Xj ⟨s',L.o.1,L.o.2⟩ (JC _ _ _ _ _) ⟨ϑ _,by rw[O.o.2];omega⟩ O.o.1⟩
   ·go_wp2;have U:=(Gr.refl w1.drew).alloc (.cells #[.int .i64 0,.int .i64 0,.int .i64 0] 72);have Xe:=Rec.new w1.drew 72 [iI 0,iI 0,iI 0];have D:=(U.cell (AT V.o) 0).trans V.o;refine⟨AA.of (by rw[Z.o];exact D),?_⟩;refine NG ?_;simp only[AF,ν,π];refine ζb ?_;obtain⟨WB,J⟩:∃WB,WB=(w1.alloc (.cells #[.int .i64 0,.int .i64 0,.int .i64 0] 72)).drew:=⟨_,rfl⟩;have M:Hid (Gr w1.drew WB):=⟨by rw[J];exact U⟩;have Xh:Hid (Rec WB w1.heap.size 72 [iI 0,iI 0,iI 0]):=⟨by rw[J];exact Xe⟩;have B:Hid (WB.cell? ⟨gb,0,none⟩=some (iI (ad:Nat))):=⟨by rw[J];exact D⟩;rw[<-J];clear J U Xe D;go_wp2_with(go_at_call 104;refine(I.o _ (Y.o.drew.trans M.o)).mono ?_;rintro e w2 ⟨rfl,he⟩;have N:=ι he;have r2:=Xh.o.touch he.1 (λhk=>by have:=hk.2.2;have:=Y.o.size;omega);have Xt:=ι r2;have q0:=r2.cc 0;have q1:=r2.cc 1;have q2:=r2.cc 2;have qf:=r2.free;have ql:=r2.lt;clear he r2);have KC:w2.cell? ⟨gb,0,none⟩=some (iI (ad:Nat)):=(N.o.1.cell (AT B.o) (λhk=>ζP _ (κ hk.2.2 Xv.o)) 0).trans B.o;have G:=ι KC;clear KC;refine⟨AA.of (by rw[Z.o];exact G.o),?_⟩;refine G2 ?_;go_wp2;refine⟨AA.of (by rw[Z.o];exact((JC w2 w1.heap.size (iI xp) (iI xf) (iI xk)).cell (AT G.o) (λe=>by have:=AT V.o;have e:gb=w1.heap.size:=e;omega) 0).trans G.o),?_⟩;refine LK ?_;have Xd:Hid ((((s.cut w).cut w0).sp c).W s.u ((s.cut w).cut w0).X w1.drew (((w2.setCell ⟨w1.heap.size,0,none⟩ (.int .i64 xp)).setCell ⟨w1.heap.size,1,none⟩ (.int .i64 xf)).setCell ⟨w1.heap.size,2,none⟩ (.int .i64 xk))):=⟨Xo.o _ _ _ _ _ Y.o.drew M.o N.o (JC _ _ _ _ _) ⟨ϑ _,Xh.o.lt⟩⟩;have Xc:Hid (Rec (((w2.setCell ⟨w1.heap.size,0,none⟩ (.int .i64 xp)).setCell ⟨w1.heap.size,1,none⟩ (.int .i64 xf)).setCell ⟨w1.heap.size,2,none⟩ (.int .i64 xk)) w1.heap.size 72 [iI xp,iI xf,iI xk]):=⟨((Xt.o.set 0 (iI xp)).set 1 (iI xf)).set 2 (iI xk)⟩;have Hw1.heap.size:Hid (w0.heap.size<=w1.heap.size):=⟨Y.o.size⟩;clear q0 q1 q2 qf ql;go_wp2_with(go_at_call 43;refine(Xg.o _ _ Y.o.drew Xd.o).mono ?_;rintro e w3 ⟨rfl,s',hr,hs,-,ht⟩;have L:=ι (ξ hr hs);have rx:=Xc.o.touch ht (Xk.o _ Hw1.heap.size.o);obtain⟨k0,k1,k2,kl⟩:=rx.k3;have r3:=Xl.o.touch hr.t Xq.o;have Xb:=ι r3;have z0:=r3.cc 0;have z1:=r3.cc 1;have z2:=r3.cc 2;have zf:=r3.free;have zl:=r3.lt;clear hr hs ht rx r3);have R3:=Rec.set (Rec.set (Rec.set Xb.o 0 (iI xp)) 1 (iI xf)) 2 (iI xk);refine ζO (v:=.tuple #[AK ⟨xp,xf,xk⟩,iI re]) ?_ rfl ?_
    ·rw[results_cell_tmp rfl];have hl:=KL.o _ w.heap.size _ _ _ (R3.cc 0) (R3.cc 1) (R3.cc 2);simp[asAddr,Result.andThen,hl,AK]
    ·exact⟨rfl,HOp.own Xj ⟨s',L.o.1,L.o.2⟩ (JC _ _ _ _ _) ⟨ϑ _,by rw[O.o.2];omega⟩ O.o.1⟩
  ·go_wp2;have U:=(Gr.refl w1.drew).alloc (.cells #[.int .i64 0,.int .i64 0,.int .i64 0] 72);have Xe:=Rec.new w1.drew 72 [iI 0,iI 0,iI 0];have D:=(U.cell (AT V.o) 0).trans V.o;refine⟨AA.of (by rw[Z.o];exact D),?_⟩;refine NG ?_;simp only[AF,ν,π];refine ζb ?_;obtain⟨WB,J⟩:∃WB,WB=(w1.alloc (.cells #[.int .i64 0,.int .i64 0,.int .i64 0] 72)).drew:=⟨_,rfl⟩;have M:Hid (Gr w1.drew WB):=⟨by rw[J];exact U⟩;have Xh:Hid (Rec WB w1.heap.size 72 [iI 0,iI 0,iI 0]):=⟨by rw[J];exact Xe⟩;have B:Hid (WB.cell? ⟨gb,0,none⟩=some (iI (ad:Nat))):=⟨by rw[J];exact D⟩;rw[<-J];clear J U Xe D;go_wp2_with(go_at_call 58;refine AJ (Xi.o _ (Y.o.drew.trans M.o)) ?_);refine⟨AA.of (by rw[Z.o];exact B.o),?_⟩;refine NG ?_;simp only[AF,ν,π];refine ζb ?_;go_wp2_with(go_at_call 104;refine(I.o _ (Y.o.drew.trans M.o)).mono ?_;rintro e w2 ⟨rfl,he⟩;have N:=ι he;have r2:=Xh.o.touch he.1 (λhk=>by have:=hk.2.2;have:=Y.o.size;omega);have Xt:=ι r2;have q0:=r2.cc 0;have q1:=r2.cc 1;have q2:=r2.cc 2;have qf:=r2.free;have ql:=r2.lt;clear he r2);have KC:w2.cell? ⟨gb,0,none⟩=some (iI (ad:Nat)):=(N.o.1.cell (AT B.o) (λhk=>ζP _ (κ hk.2.2 Xv.o)) 0).trans B.o;have G:=ι KC;clear KC;refine⟨AA.of (by rw[Z.o];exact G.o),?_⟩;refine G2 ?_;go_wp2;refine⟨AA.of (by rw[Z.o];exact((JC w2 w1.heap.size (iI xp) (iI xf) (iI xk)).cell (AT G.o) (λe=>by have:=AT V.o;have e:gb=w1.heap.size:=e;omega) 0).trans G.o),?_⟩;refine LK ?_;have Xd:Hid ((((s.cut w).cut w0).sp c).W s.u ((s.cut w).cut w0).X w1.drew (((w2.setCell ⟨w1.heap.size,0,none⟩ (.int .i64 xp)).setCell ⟨w1.heap.size,1,none⟩ (.int .i64 xf)).setCell ⟨w1.heap.size,2,none⟩ (.int .i64 xk))):=⟨Xo.o _ _ _ _ _ Y.o.drew M.o N.o (JC _ _ _ _ _) ⟨ϑ _,Xh.o.lt⟩⟩;have Xc:Hid (Rec (((w2.setCell ⟨w1.heap.size,0,none⟩ (.int .i64 xp)).setCell ⟨w1.heap.size,1,none⟩ (.int .i64 xf)).setCell ⟨w1.heap.size,2,none⟩ (.int .i64 xk)) w1.heap.size 72 [iI xp,iI xf,iI xk]):=⟨((Xt.o.set 0 (iI xp)).set 1 (iI xf)).set 2 (iI xk)⟩;have Hw1.heap.size:Hid (w0.heap.size<=w1.heap.size):=⟨Y.o.size⟩;clear q0 q1 q2 qf ql;go_wp2_with(go_at_call 43;refine(Xg.o _ _ Y.o.drew Xd.o).mono ?_;rintro e w3 ⟨rfl,s',hr,hs,-,ht⟩;have L:=ι (ξ hr hs);have rx:=Xc.o.touch ht (Xk.o _ Hw1.heap.size.o);obtain⟨k0,k1,k2,kl⟩:=rx.k3;have r3:=Xl.o.touch hr.t Xq.o;have Xb:=ι r3;have z0:=r3.cc 0;have z1:=r3.cc 1;have z2:=r3.cc 2;have zf:=r3.free;have zl:=r3.lt;clear hr hs ht rx r3);have R3:=Rec.set (Rec.set (Rec.set Xb.o 0 (iI xp)) 1 (iI xf)) 2 (iI xk);refine ζO (v:=.tuple #[AK ⟨xp,xf,xk⟩,iI re]) ?_ rfl ?_
   ·rw[results_cell_tmp rfl];have hl:=KL.o _ w.heap.size _ _ _ (R3.cc 0) (R3.cc 1) (R3.cc 2);simp[asAddr,Result.andThen,hl,AK]
   ·exact⟨rfl,HOp.own Xj ⟨s',L.o.1,L.o.2⟩ (JC _ _ _ _ _) ⟨ϑ _,by rw[O.o.2];omega⟩ O.o.1⟩
theorem YBx(n lo hi:Int)(hn:n<=9223372036854775807)(w:World):cQ 75 #[iI n,iI lo,iI hi] w (.bool (CL n&&decide (lo<=n)&&decide (n<=hi))):=by
 have HP:=(JF n hn w);cases h1:CL n with
 | false=>
  go_enter func75,ntmps75;go_wp2_with(go_at_call 115;refine AJ (HP) ?_);go_ret
  simp_all
 | true=>
  by_cases h2:lo<=n
  ·have d2:decide (lo<=n)=true:=φ h2;go_enter func75,ntmps75;go_wp2_with(go_at_call 115;refine AJ (HP) ?_);go_ret
   simp_all
  ·have d2:decide (lo<=n)=false:=ζ h2;go_enter func75,ntmps75;go_wp2_with(go_at_call 115;refine AJ (HP) ?_);go_ret;exact⟨by rw[d2];rfl,rfl⟩
structure CfI where
 kd:Int
 pg:Int
 bk:Int
 wd:Int
 sl:Int
 st:Int
 ah:Int
 tr:Nat
def CfI.V(c:CfI):Value:=.agg #[iI c.kd,iI c.pg,iI c.bk,iI c.wd,iI c.sl,iI c.st,iI c.ah,.float .f64 c.tr]
def CfI.nat(c:CfI):HCf:=⟨c.kd.toNat,c.pg.toNat,c.bk.toNat,c.wd.toNat,c.sl.toNat,c.st.toNat,c.ah.toNat,c.tr⟩
def CfI.base(c:CfI):Bool:=
 decide (1<=c.kd)&&decide (c.kd<=3)&&DV c.pg 1 256&&DV c.bk 1 1024&&DV c.wd 16 131072&&decide (c.pg<=c.wd) &&
 (decide (1<=c.sl)&&decide (c.sl<=64)&&decide (1<=c.st)&&decide (c.st<=4096)&&decide (0<=c.ah)&&decide (c.ah<=16))
def CfI.may(c:CfI):Bool:=c.base&&decide (c.nat.fr<=4096)
theorem CfI.base_in{c:CfI}(h:c.base=true):(1<=c.kd/\c.kd<=3/\DV c.pg 1 256=true/\DV c.bk 1 1024=true/\DV c.wd 16 131072=true/\c.pg<=c.wd)/\(1<=c.sl/\c.sl<=64/\1<=c.st/\c.st<=4096/\0<=c.ah/\c.ah<=16):=by
 unfold CfI.base at h
 simp_all
theorem CfI.nat_V{c:CfI}(h:c.base=true):c.V=GX c.nat:=by
 obtain⟨⟨h1,h2,h3,h4,h5,h6⟩,h7,h8,h9,h10,h11,h12⟩:=CfI.base_in h;have t3:=IT h3;have t4:=IT h4;obtain⟨kd,pg,bk,wd,sl,st,ah,tr⟩:=c;obtain⟨kd,rfl⟩:∃n:Nat,kd=n:=⟨kd.toNat,by grind⟩;obtain⟨pg,rfl⟩:∃n:Nat,pg=n:=⟨pg.toNat,by grind⟩;obtain⟨bk,rfl⟩:∃n:Nat,bk=n:=⟨bk.toNat,by grind⟩;obtain⟨wd,rfl⟩:∃n:Nat,wd=n:=⟨wd.toNat,by grind⟩;obtain⟨sl,rfl⟩:∃n:Nat,sl=n:=⟨sl.toNat,by grind⟩;obtain⟨st,rfl⟩:∃n:Nat,st=n:=⟨st.toNat,by grind⟩;obtain⟨ah,rfl⟩:∃n:Nat,ah=n:=⟨ah.toNat,by grind⟩;rfl
theorem CfI.may_ok{c:CfI}(h:c.may=true):c.nat.Ok:=by
 unfold CfI.may at h;rw[ζd,ζc]at h;obtain⟨hb,hf⟩:=h;obtain⟨⟨h1,h2,h3,h4,h5,h6⟩,h7,h8,h9,h10,h11,h12⟩:=CfI.base_in hb;have t3:=IT h3;have t4:=IT h4;have t5:=IT h5;have e3:((c.pg.toNat:Nat):Int)=c.pg:=ξJ Ω;have e4:((c.bk.toNat:Nat):Int)=c.bk:=ξJ Ω;have e5:((c.wd.toNat:Nat):Int)=c.wd:=ξJ Ω;refine⟨⟨?_,?_⟩,?_,?_,⟨?_,?_⟩,?_,?_,⟨?_,?_⟩,⟨?_,?_⟩,?_,hf⟩
 ·show 1<=c.kd.toNat;omega
 ·show c.kd.toNat<=3;omega
 ·show DZ (c.pg.toNat:Int)=true
  unfold DZ;rw[e3,<-VH,φ t3.2.1,ξ5];unfold DV;rw[t3.2.2,φ t3.1,φ Ω];rfl
 ·show BI (c.bk.toNat:Int)=true
  rw[e4,<-VH];exact h4
 ·show 16<=c.wd.toNat;omega
 ·show c.wd.toNat<=131072;omega
 ·show c.wd.toNat%c.pg.toNat=0
  exact V2o (by rw[e3];exact t3.2.2) (by rw[e5];exact t5.2.2) Ω Ω Ω
 ·show c.pg.toNat<=c.wd.toNat;omega
 ·show 1<=c.sl.toNat;omega
 ·show c.sl.toNat<=64;omega
 ·show 1<=c.st.toNat;omega
 ·show c.st.toNat<=4096;omega
 ·show c.ah.toNat<=16;omega
theorem QuJ(n lo hi:Int)(hn:n<=9223372036854775807)(w:World):cQ 75 #[iI n,iI lo,iI hi] w (.bool (DV n lo hi)):=YBx n lo hi hn w
theorem ZV(hbk:BI c.bk=true)(hp:1<=c.pg)(hah:c.ah<=16)(hwd:c.wd<=131072)(w:World):Calls prog 38 #[GX c] w λe w'=>e=.returned (iI c.fr)/\Gr w w':=by
 obtain⟨Z,U,V⟩:=HCf.q_in hbk hah;have HS:=(λ(W:World)=>Yny hbk hp hah W);have q1:((c.wd:Int).tdiv (c.pg:Int))=((c.wd/c.pg:Nat):Int):=rfl;have J:c.wd/c.pg<=c.wd:=ζ3 _ _;have HR:=(Rec.new w 40 (G8 c));have hF:c.fr=if c.kd=1 then c.wd/c.pg+c.spare else if c.kd=2 then 2*(c.wd/c.pg)else c.wd/c.pg:=rfl
 have Y:=((Gr.refl w).alloc (.cells (G8 c).toArray 40));generalize c.fr=fr at hF⊢;generalize c.spare=sp at V HS hF;generalize c.q=qq at Z U;generalize c.wd/c.pg=dd at q1 J hF;unfold GX at HS⊢;unfold G8 at *
 have c0:=HR.cc 0;have c1:=HR.cc 1;have c2:=HR.cc 2;have c3:=HR.cc 3;have c4:=HR.cc 4;have c5:=HR.cc 5;have c6:=HR.cc 6;have c7:=HR.cc 7
 have h3:(c.kd=1/\((c.kd:Int)==1)=true/\fr=dd+sp)\/(((c.kd:Int)==1)=false/\((c.kd:Int)==2)=true/\fr=2*dd)\/(((c.kd:Int)==1)=false/\((c.kd:Int)==2)=false/\fr=dd):=by
  grind
 rcases h3 with⟨-,h4,hf⟩|⟨h4,h5,hf⟩|⟨h4,h5,hf⟩
 ·go_enter func38,ntmps38;go_wp2_with(go_at_call 78;refine(HS _).mono ?_;rintro e w1 ⟨rfl,hg⟩;have HG:=hg);go_ret;exact⟨by simp_all,Y.trans HG⟩
 ·go_enter func38,ntmps38;go_wp2;go_ret;exact⟨by rw[hf];exact AM Ω,Y⟩
 ·go_enter func38,ntmps38;go_wp2;go_ret;exact⟨by rw[hf];rfl,Y⟩
theorem XVm{b1 b2 b3 b4 b5 b6 b7 b8 b9 b10 b11 b12:Bool}:b1=false\/(b1=true/\b2=false)\/(b1=true/\b2=true/\b3=false)\/(b1=true/\b2=true/\b3=true/\b4=false)\/(b1=true/\b2=true/\b3=true/\b4=true/\b5=false) ∨
  (b1=true/\b2=true/\b3=true/\b4=true/\b5=true/\b6=false)\/(b1=true/\b2=true/\b3=true/\b4=true/\b5=true/\b6=true/\b7=false)\/(b1=true/\b2=true/\b3=true/\b4=true/\b5=true/\b6=true/\b7=true/\b8=false) ∨
  (b1=true/\b2=true/\b3=true/\b4=true/\b5=true/\b6=true/\b7=true/\b8=true/\b9=false)\/(b1=true/\b2=true/\b3=true/\b4=true/\b5=true/\b6=true/\b7=true/\b8=true/\b9=true/\b10=false) ∨
  (b1=true/\b2=true/\b3=true/\b4=true/\b5=true/\b6=true/\b7=true/\b8=true/\b9=true/\b10=true/\b11=false)\/(b1=true/\b2=true/\b3=true/\b4=true/\b5=true/\b6=true/\b7=true/\b8=true/\b9=true/\b10=true/\b11=true/\b12=false) ∨
  (b1=true/\b2=true/\b3=true/\b4=true/\b5=true/\b6=true/\b7=true/\b8=true/\b9=true/\b10=true/\b11=true/\b12=true):=by
 grind
def CfI.Bd(c:CfI):Prop:=c.pg<=9223372036854775807/\c.bk<=9223372036854775807/\c.wd<=9223372036854775807
theorem VZi(c:CfI)(hb:c.Bd)(w:World):Calls prog 36 #[c.V] w λe w'=>e=.returned (iI (if c.may then 0 else 22))/\Gr w w':=by
 obtain⟨hb1,hb2,hb3⟩:=hb;have HM:Hid (c.may=(c.base&&decide (c.nat.fr<=4096))):=⟨rfl⟩
 have Y:Hid (c.base=(decide (1<=c.kd)&&decide (c.kd<=3)&&DV c.pg 1 256&&DV c.bk 1 1024&&DV c.wd 16 131072&&decide (c.pg<=c.wd) &&
  (decide (1<=c.sl)&&decide (c.sl<=64)&&decide (1<=c.st)&&decide (c.st<=4096)&&decide (0<=c.ah)&&decide (c.ah<=16)))):=⟨rfl⟩
 have Z:Hid (c.base=true->∀W,Calls prog 38 #[c.V] W λe w'=>e=.returned (iI c.nat.fr)/\Gr W w'):=⟨λh W=>by
  obtain⟨⟨h1,h2,h3,h4,h5,h6⟩,h7,h8,h9,h10,h11,h12⟩:=CfI.base_in h;have t3:=IT h3;have t4:=IT h4;have t5:=IT h5;rw[CfI.nat_V h];refine ZV ?_ ?_ ?_ ?_ W
  ·show BI (c.bk.toNat:Int)=true
   rw[show ((c.bk.toNat:Nat):Int)=c.bk from ξJ Ω,<-VH];exact h4
  ·show 1<=c.pg.toNat;omega
  ·show c.ah.toNat<=16;omega
  ·show c.wd.toNat<=131072;omega⟩
 obtain⟨re,J⟩:∃re:Int,re=if c.may then 0 else 22:=⟨_,rfl⟩
 rw[<-J];generalize c.may=my at HM J;generalize c.base=ba at HM Y Z;generalize c.nat.fr=fr at HM Z;unfold CfI.V at Z⊢;have M:=((Gr.refl w).alloc (.cells #[.int .i64 c.kd,.int .i64 c.pg,.int .i64 c.bk,.int .i64 c.wd,.int .i64 c.sl,.int .i64 c.st,.int .i64 c.ah,.float .f64 c.tr] 40));have r:=Rec.new w 40 [iI c.kd,iI c.pg,iI c.bk,iI c.wd,iI c.sl,iI c.st,iI c.ah,.float .f64 c.tr];have c0:=r.cc 0;have c1:=r.cc 1;have c2:=r.cc 2;have c3:=r.cc 3;have c4:=r.cc 4;have c5:=r.cc 5;have c6:=r.cc 6;have c7:=r.cc 7;obtain⟨kd,pg,bk,wd,sl,st,ah,tr⟩:=c;dsimp only at *
 obtain⟨b1,D1⟩:∃b,decide (1<=kd)=b:=⟨_,rfl⟩;obtain⟨b2,D2⟩:∃b,decide (kd<=3)=b:=⟨_,rfl⟩;obtain⟨b3,D3⟩:∃b,DV pg 1 256=b:=⟨_,rfl⟩;obtain⟨b4,D4⟩:∃b,DV bk 1 1024=b:=⟨_,rfl⟩;obtain⟨b5,D5⟩:∃b,DV wd 16 131072=b:=⟨_,rfl⟩;obtain⟨b6,D6⟩:∃b,decide (pg<=wd)=b:=⟨_,rfl⟩;obtain⟨b7,D7⟩:∃b,decide (1<=sl)=b:=⟨_,rfl⟩;obtain⟨b8,D8⟩:∃b,decide (sl<=64)=b:=⟨_,rfl⟩;obtain⟨b9,D9⟩:∃b,decide (1<=st)=b:=⟨_,rfl⟩;obtain⟨L,O⟩:∃b,decide (st<=4096)=b:=⟨_,rfl⟩;obtain⟨D,N⟩:∃b,decide (0<=ah)=b:=⟨_,rfl⟩;obtain⟨I,E⟩:∃b,decide (ah<=16)=b:=⟨_,rfl⟩;rw[D1,D2,D3,D4,D5,D6,D7,D8,D9,O,N,E]at Y;rcases @XVm b1 b2 b3 b4 b5 b6 b7 b8 b9 L D I with rfl|⟨rfl,rfl⟩|⟨rfl,rfl,rfl⟩|⟨rfl,rfl,rfl,rfl⟩|⟨rfl,rfl,rfl,rfl,rfl⟩|⟨rfl,rfl,rfl,rfl,rfl,rfl⟩|⟨rfl,rfl,rfl,rfl,rfl,rfl,rfl⟩|⟨rfl,rfl,rfl,rfl,rfl,rfl,rfl,rfl⟩|⟨rfl,rfl,rfl,rfl,rfl,rfl,rfl,rfl,rfl⟩|⟨rfl,rfl,rfl,rfl,rfl,rfl,rfl,rfl,rfl,rfl⟩|⟨rfl,rfl,rfl,rfl,rfl,rfl,rfl,rfl,rfl,rfl,rfl⟩|⟨rfl,rfl,rfl,rfl,rfl,rfl,rfl,rfl,rfl,rfl,rfl,rfl⟩|⟨rfl,rfl,rfl,rfl,rfl,rfl,rfl,rfl,rfl,rfl,rfl,rfl⟩
 case' inr.inr.inr.inr.inr.inr.inr.inr.inr.inr.inr.inr=>
  have U:ba=true:=by rw[Y.o];rfl
  have HF:=(Z.o U)
  have hx:(decide (4096<(fr:Int))=true/\my=false)\/(decide (4096<(fr:Int))=false/\my=true):=by
   rw[HM.o,U,ξY];by_cases h:fr<=4096
   ·exact .inr ⟨ζ Ω,φ h⟩
   ·exact .inl ⟨φ Ω,ζ h⟩
  obtain⟨d,e⟩|⟨d,e⟩:=hx
 all_goals
  try(have e:my=false:=by rw[HM.o,Y.o];simp)
  try clear HM Y Z
  have HE:Hid (re=if my then 0 else 22):=⟨J⟩;rw[e]at HE;go_enter func36,ntmps36
  go_wp2_with(first
   | (go_at_call 75;refine AJ (QuJ _ _ _ (by assumption) _) ?_)
   | (go_at_call 38;refine(HF _).mono ?_;rintro e w1 ⟨rfl,hg⟩;have HG:=hg))
  go_ret;exact⟨by rw[HE.o];rfl,by first|exact M.trans HG|exact M⟩
open Go.ChangeShapes Go.WideShapes Go.ChangeAt
def G9(c:CfI):List Value:=[iI c.kd,iI c.pg,iI c.bk,iI c.wd,iI c.sl,iI c.st,iI c.ah,.float .f64 c.tr]
theorem VS7:prog.cellsOf 40=8:=by kernel_rfl
theorem Vpv{l:List Value}{v0 v1 v2 v3 v4 v5 v6 v7:Value}(hl:l.length=8)(h0:l[0]?=some v0)(h1:l[1]?=some v1)(h2:l[2]?=some v2)(h3:l[3]?=some v3)(h4:l[4]?=some v4)(h5:l[5]?=some v5)(h6:l[6]?=some v6)(h7:l[7]?=some v7):l=[v0,v1,v2,v3,v4,v5,v6,v7]:=by
 match l,hl with
 | [a0,a1,a2,a3,a4,a5,a6,a7],_=>simp at h0 h1 h2 h3 h4 h5 h6 h7;simp[*]
section
variable{enc:TypeId × Value->H}{base:Nat}{spare:Nat->Bool}{held:Bool}{fuel:Nat}{cs:List Value}{x:DataW H × List MemPlace}
theorem ZAk(h:DataW.trod enc prog w base spare held fuel 40 cs=some x):∃c:CfI,cs=G9 c/\c.Bd:=by
 obtain⟨xs,n,-,-,hl,Y,hf⟩:=DataW.trod_struct underlying40 h;have ex:∀i,i<xs.length->∃y,xs[i]?=some y:=λi hi=>⟨_,η hi⟩
 have Y:xs.length=8:=Y;have g0:DataW.trod enc prog w base spare held n 3 ((cs.drop 0).take (prog.cellsOf 3))=xs[0]?:=hf 0 _ rfl;have g1:DataW.trod enc prog w base spare held n 3 ((cs.drop 1).take (prog.cellsOf 3))=xs[1]?:=hf 1 _ rfl;have g2:DataW.trod enc prog w base spare held n 3 ((cs.drop 2).take (prog.cellsOf 3))=xs[2]?:=hf 2 _ rfl;have g3:DataW.trod enc prog w base spare held n 3 ((cs.drop 3).take (prog.cellsOf 3))=xs[3]?:=hf 3 _ rfl;have g4:DataW.trod enc prog w base spare held n 3 ((cs.drop 4).take (prog.cellsOf 3))=xs[4]?:=hf 4 _ rfl;have g5:DataW.trod enc prog w base spare held n 3 ((cs.drop 5).take (prog.cellsOf 3))=xs[5]?:=hf 5 _ rfl;have g6:DataW.trod enc prog w base spare held n 3 ((cs.drop 6).take (prog.cellsOf 3))=xs[6]?:=hf 6 _ rfl;have g7:DataW.trod enc prog w base spare held n 31 ((cs.drop 7).take (prog.cellsOf 31))=xs[7]?:=hf 7 _ rfl;obtain⟨y0,e0⟩:=ex 0 Ω;obtain⟨y1,e1⟩:=ex 1 Ω;obtain⟨y2,e2⟩:=ex 2 Ω;obtain⟨y3,e3⟩:=ex 3 Ω;obtain⟨y4,e4⟩:=ex 4 Ω;obtain⟨y5,e5⟩:=ex 5 Ω;obtain⟨y6,e6⟩:=ex 6 Ω;obtain⟨y7,e7⟩:=ex 7 Ω;rw[e0]at g0;rw[e1]at g1;rw[e2]at g2;rw[e3]at g3;rw[e4]at g4;rw[e5]at g5;rw[e6]at g6;rw[e7]at g7;obtain⟨a0,c0,-,b0⟩:=DataW.trod_int underlying3 g0;obtain⟨a1,c1,-,b1⟩:=DataW.trod_int underlying3 g1;obtain⟨a2,c2,-,b2⟩:=DataW.trod_int underlying3 g2;obtain⟨a3,c3,-,b3⟩:=DataW.trod_int underlying3 g3;obtain⟨a4,c4,-,b4⟩:=DataW.trod_int underlying3 g4;obtain⟨a5,c5,-,b5⟩:=DataW.trod_int underlying3 g5;obtain⟨a6,c6,-,b6⟩:=DataW.trod_int underlying3 g6;obtain⟨a7,c7,-⟩:=VUD underlying31 g7;simp only[QmK,ZO3]at c0 c1 c2 c3 c4 c5 c6 c7;have Z:=Vpv (hl.trans VS7) (JV c0) (JV c1) (JV c2) (JV c3) (JV c4) (JV c5) (JV c6) (JV c7);exact⟨⟨a0,a1,a2,a3,a4,a5,a6,a7⟩,Z,(bounds_i64 b1).2,(bounds_i64 b2).2,(bounds_i64 b3).2⟩
end
theorem Y87{enc:TypeId×Value->H}{r:Reach}{v:Value}{d:DataW H}
  (hv:Value.okWide prog W r b0 40 v) (h:DataW.Trod enc prog W 0 (λ_=>true) true 40 v d p):∃c:CfI,v=c.V/\c.Bd:=by
 obtain⟨cs,rfl,hsz⟩:=okWide_struct underlying40 hv;obtain⟨fuel,hf⟩:=h;obtain⟨g,h1,h2⟩:=ZAk hf;refine⟨g,?_,h2⟩;have:cs.toList=G9 g:=by simpa[Value.cells]using h1
 rw[show g.V=.agg (G9 g).toArray from rfl,<-this]
def OY(w:World)(A:Option Addr)(l:List Nat):Prop:=∀i (h:i<l.length),l[i]<18446744073709551616/\∃b o,A=some ⟨b,o,none⟩/\b<w.heap.size/\w.cell? ⟨b,o+i,none⟩=some (uU (l[i]:Nat))
theorem OY.gr{A:Option Addr}{l:List Nat}(h:OY w A l)(g:Gr w w'):OY w' A l:=λi hi=>by
 obtain⟨h1,b,o,h2,h3,h4⟩:=h i hi;exact⟨h1,b,o,h2,κ h3 g.size,(g.cell h3 _).trans h4⟩
theorem QXv{enc:TypeId×Value->H}{r:Reach}{v:Value}{d:DataW H}
  (hv:Value.okWide prog W r b0 41 v) (h:DataW.Trod enc prog W 0 (λ_=>true) true 41 v d p):
  ∃(A:Option Addr) (cap:Nat) (l:List Nat),v=.slice A l.length cap/\l.length<=maxLen/\OY W A l:=by
 obtain⟨A,len,cap,rfl⟩:=okWide_slice underlying41 hv;obtain⟨fuel,hf⟩:=h;rcases Go.Deep.open_slice underlying41 hf with⟨Y,_⟩|⟨a,len',cap',m,n,D,Pl,Y,_,hl,hm,J,_,hi⟩
 ·simp[Value.cells]at Y;obtain⟨rfl,rfl,rfl⟩:=Y;exact⟨none,0,[],rfl,ζe _,λi h=>absurd h (by simp)⟩
 ·simp[Value.cells]at Y;obtain⟨rfl,rfl,rfl⟩:=Y;have hle:len<=m:=by rw[J];simpa using hl
  obtain⟨l,Z,hR⟩:=YS (λi (x:Nat)=>x<18446744073709551616/\W.cell? (a.add i)=some (.int .u64 (x:Nat))) len (λi hil=>by
   obtain⟨cs,hc,ht⟩:=hi i Ω;rw[Xg5,ξw]at hc;obtain⟨_,hcl,U⟩:=World.cells?_some hc;obtain⟨k,e0,_,w0⟩:=DataW.trod_int underlying22 ht;subst e0;have hb:=bounds_u64 w0;refine⟨k.toNat,by omega,?_⟩;have:=U 0 (by simp);rw[QFj,ξk]at this;rw[this]
   show some (Value.int .u64 k)=some (Value.int .u64 ((k.toNat:Nat):Int))
   rw[show ((k.toNat:Nat):Int)=k by omega])
  subst Z;refine⟨some a,cap,l,rfl,by omega,λi hil=>?_⟩;obtain⟨h0,h1⟩:=hR i hil
  have hs:a.spot=none:=by
   have h0:=(hR 0 Ω).2;have:=QvD h0;simpa[Addr.add]using this
  obtain⟨b,o,s⟩:=a;simp only at hs;subst hs;have ha:∀k,Addr.add ⟨b,o,none⟩ k=⟨b,o+k,none⟩:=λk=>by unfold Addr.add;split <;> simp_all
  rw[ha]at h1;exact⟨h0,b,o,rfl,VEB h1,h1⟩
def Gph.nil(sl:Nat):Gph:=⟨[],List.replicate sl 0⟩
theorem Gph.nil_rd{sl:Nat}:¬(Gph.nil sl).Rd x:=λh=>h (λ_=>False) (λ_ hr h0=>h0 (ξv hr)) (λ_ h=>h.elim)
theorem Gph.nil_ok(sl:Nat):(Gph.nil sl).Ok:=⟨(λo ho=>by cases ho),(λo ho=>by cases ho),λy hy=>by rw[ξv hy];omega⟩
theorem Q6y(ha:a<n)(h5:n%pg=0)(h6:1<=pg):(Vm.new n pg rm).ldE a≠0:=by
 have hd:n/pg*pg=n:=by grind [ζu,ζT]
 have e1:a/pg<n/pg:=(ζ1 h6).2 Ω;unfold Vm.ldE;rw[θ ⟨ψc _,by exact_mod_cast ha⟩]
 show frE (List.replicate (n/pg) 0) ((a/pg:Nat):Int)≠0
 rw[L4 (by simp_all),NP];decide
theorem ZzW{base:Nat}(h1:EW rm=true)(h2:DZ pg=true)(h3:1<=n)(h4:n<=524288)(h5:n%pg=0)(hb:base%pg=0)(hn:base<=n)(h6:1<=pg):ShA base base (Vm.new n pg rm):=by
 refine⟨AE.new h1 h2 h3 h4 h5,hb,⟨ϑ _,hn⟩,λa ha=>⟨λh=>absurd h (Q6y ha h5 h6),λ⟨k1,k2⟩=>?_⟩⟩;have k2:a/pg*pg<base:=k2;have:=(GK (p:=a/pg) h6 hb).2 (ζa k1);omega
theorem Xei(hc:c.Ok):EW c.fr=true:=by
 have h1:=hc.fr;have h3:=hc.pw;have hp:=hc.pg1;have h4:1<=c.wd/c.pg:=(Nat.one_le_div_iff Ω).2 h3;have h5:1<=c.fr:=by unfold HCf.fr;grind
 unfold EW;simp;omega
theorem RA(hc:c.Ok):c.pg+c.wd<=c.n/\c.n<=524288/\c.n%c.pg=0:=by
 have h2:=hc.wd;have h3:=hc.pw;have h4:=hc.dv;unfold HCf.n
 split
 ·refine⟨ϑ _,by omega,?_⟩
  simp_all
 ·refine⟨by omega,by omega,?_⟩;rw[ξG,Nat.add_mod_left,Nat.add_mod,h4];simp
theorem HIn.new(hc:c.Ok)(hrow:Rec w A.hp 83 (hpL c A none 0 0))(hrn:E0 w A.rn A.q c.pg c.pg (c.pg+c.wd))(hrt:AS w A.r A.g (List.replicate c.sl 0))(hv:AC w X A.q (Vm.new c.n c.pg c.fr))(hT:AQ w)
  (n1:A.hp≠A.r/\A.hp≠A.g/\A.hp≠A.rn/\A.hp≠1) (n2:A.r≠A.rn/\A.r≠1) (n3:A.g≠A.rn/\A.g≠1/\A.rn≠1)
  (hx:¬X A.hp/\¬X A.r/\¬X A.g/\¬X A.rn/\¬X 1):HIn w c (Gph.nil c.sl) ⟨A,X,c.pg,c.pg,Vm.new c.n c.pg c.fr,λ_=>0,none,0,0,0,0⟩:=by
 obtain⟨w1,w2,w3⟩:=RA hc;have hp:=hc.pg1;refine⟨⟨hrow,hrn,?_,hT,n1,⟨λe=>hrt.dif e.symm,n2⟩,n3,hx⟩,⟨hv,⟨rfl,rfl,rfl⟩,ZzW (base:=c.pg) (n:=c.n) (Xei hc) hc.pg Ω w2 w3 (Nat.mod_self _) (show c.pg<=c.n by omega) hp,rfl⟩,⟨rfl,λx hx=>absurd hx Gph.nil_rd,λx hx=>absurd hx Gph.nil_rd,λx hx=>absurd hx Gph.nil_rd,λx hx=>absurd hx Gph.nil_rd,λx hx=>absurd hx Gph.nil_rd,λx y hx=>absurd hx Gph.nil_rd⟩,Gph.nil_ok _,hc,⟨ϑ _,ζK _ _⟩,.inl rfl,ζG⟩
 have:HSt.rs ⟨A,X,c.pg,c.pg,Vm.new c.n c.pg c.fr,λ_=>0,none,0,0,0,0⟩ (Gph.nil c.sl)=List.replicate c.sl 0:=by
  unfold HSt.rs Gph.nil
  simp_all
 simp_all
structure XK(w:World)(c:HCf)(s:HSt)(w':World):Prop where
 gr:Gr w w'
 i:HIn w' c (Gph.nil c.sl) s
 o:s.o=none
 lf:s.lf=0
 S:∀k,s.S k->w.heap.size<=k/\k<w'.heap.size
theorem QR7(h:DZ (n:Int)=true):n<=256:=by
 unfold DZ at h
 grind
theorem YnZ(c:CfI)(hb:c.Bd)(hm:c.may=false)(w:World):Calls prog 14 #[c.V] w λe w'=>e=.returned (.tuple #[.pointer none,iI 22])/\Gr w w':=by
 have HC:=ι (λ(W:World)=>VZi c hb W);rw[hm]at HC;simp only[Bool.false_eq_true,if_false]at HC;unfold CfI.V at HC⊢;have Y:=ι ((Gr.refl w).alloc (.cells #[.int .i64 c.kd,.int .i64 c.pg,.int .i64 c.bk,.int .i64 c.wd,.int .i64 c.sl,.int .i64 c.st,.int .i64 c.ah,.float .f64 c.tr] 40));clear hb hm;go_enter func14,ntmps14;go_wp2_with(go_at_call 36;refine(HC.o _).mono ?_;rintro e w1 ⟨rfl,hg⟩;have HG:=ι hg;clear hg);go_ret2;exact⟨rfl,Y.o.trans HG.o⟩
theorem Xcy(c:CfI)(hb:c.Bd)(hm:c.may=true)(w:World)(hT:AQ w):Calls prog 14 #[c.V] w λe w'=>∃s,e=.returned (.tuple #[pP s.A.hp,iI 0])/\XK w c.nat s w':=by
 have HC:=(λ(W:World)=>VZi c hb W);rw[hm]at HC;simp only[if_true]at HC;have Y:=CfI.may_ok hm;have Xy:c.base=true:=by unfold CfI.may at hm;simp at hm;exact hm.1
 rw[CfI.nat_V Xy]at HC⊢;generalize c.nat=d at Y HC⊢;clear hb hm Xy c;have Yo:=Y;have HT:=hT;obtain⟨p1,p2,p3⟩:=RA Y;have hp:=Y.pg1;have hwd:=Y.wd;have hpw:=Y.pw;have Za:=QR7 Y.pg;have Xr:=(λ(W:World)=>ZV Y.bk hp Y.ah Ω W);have Xc:=(λ(W:World)=>ZEa (Xei Y) Y.pg (show 1<=d.n by omega) p2 p3 hp Za W);have Yv:=(λ(W:World)=>YuH Y.sl.1 Y.sl.2 W)
 have hN:(d.kd=3/\((d.kd:Int) !=3)=false/\(d.n:Int)=(d.pg:Int)+d.wd)\/(d.kd≠3/\((d.kd:Int) !=3)=true/\(d.n:Int)=(d.pg:Int)+d.wd+d.wd):=by
  unfold HCf.n;by_cases h:d.kd=3
  ·exact .inl ⟨h,by rw[h];rfl,by rw[θ h];push_cast;rfl⟩
  ·exact .inr ⟨h,ψj.2 Ω,by rw[ψ h];push_cast;rfl⟩
 have Yn:=(Rec.new w 40 (G8 d));have Ym:=((Gr.refl w).alloc (.cells (G8 d).toArray 40));obtain⟨n,hn⟩:∃n,n=d.n:=⟨_,rfl⟩;obtain⟨fr,Xm⟩:∃fr,fr=d.fr:=⟨_,rfl⟩;rw[<-hn]at hN Xc p1 p2;rw[<-Xm]at Xc Xr;have Xt:=ι (ξ hn Xm);have Yb:=hT.lt;have Yy:=ι Yb;unfold GX at HC Xr⊢;unfold G8 at *
 clear Y hT p3 hn Xm;rcases hN with⟨-,k3,hN⟩|⟨-,k3,hN⟩
 all_goals
  rw[hN]at Xc;clear hN Yb;go_enter func14,ntmps14;go_upto_region 8 with(go_at_call 36;refine(HC _).mono ?_;rintro e w1 ⟨rfl,hg⟩;have Yp:=ι (Ym.trans hg);have r1:=Yn.gr hg;have Yc:=ι r1;obtain⟨c0,c1,c2,c3,c4,c5,c6,c7,cl⟩:=r1.k8;clear r1 hg);have I:=Rec.new w1 83 [iI d.kd,iI d.pg,iI d.bk,iI d.wd,iI d.sl,iI d.st,iI d.ah,.float .f64 d.tr,.pointer none,.pointer none,.pointer none,.pointer none,iI 0,iI 0];have Xa:=(Gr.refl w1).alloc (.cells #[.int .i64 d.kd,.int .i64 d.pg,.int .i64 d.bk,.int .i64 d.wd,.int .i64 d.sl,.int .i64 d.st,.int .i64 d.ah,.float .f64 d.tr,.pointer none,.pointer none,.pointer none,.pointer none,.int .i64 0,.int .i64 0] 83);have Xn:=γ w1 (.cells #[.int .i64 d.kd,.int .i64 d.pg,.int .i64 d.bk,.int .i64 d.wd,.int .i64 d.sl,.int .i64 d.st,.int .i64 d.ah,.float .f64 d.tr,.pointer none,.pointer none,.pointer none,.pointer none,.int .i64 0,.int .i64 0] 83);obtain⟨w2,Xz⟩:∃w2,w2=w1.alloc (.cells #[.int .i64 d.kd,.int .i64 d.pg,.int .i64 d.bk,.int .i64 d.wd,.int .i64 d.sl,.int .i64 d.st,.int .i64 d.ah,.float .f64 d.tr,.pointer none,.pointer none,.pointer none,.pointer none,.int .i64 0,.int .i64 0] 83):=⟨_,rfl⟩;rw[<-Xz]at I Xa Xn⊢;have Ye:=ι I;have Zb:=ι Xa;have Xq:=ι Xn;have M:=ι (Yc.o.gr Xa);obtain⟨hb,Xg⟩:∃hb,hb=w1.heap.size:=⟨_,rfl⟩;rw[<-Xg]at Ye Xq⊢;have Xp:=ι Xg;clear I Xa Xn Xz Xg c0 c1 c2 c3 c4 c5 c6 c7 cl;have J:Hid (¬w.heap.size=hb):=⟨λe=>by have:=Yc.o.lt;rw[<-Xp.o]at this;omega⟩;obtain⟨Sx,Z,HS⟩:=AA.start λW'=>AB (λk=>k=hb) w2 W';have y0:=AA.fact Z λ_ h=>(M.o.touch h J.o).cell (j:=0) rfl;have y1:=AA.fact Z λ_ h=>(M.o.touch h J.o).cell (j:=1) rfl;have y2:=AA.fact Z λ_ h=>(M.o.touch h J.o).cell (j:=2) rfl;have y3:=AA.fact Z λ_ h=>(M.o.touch h J.o).cell (j:=3) rfl;have y4:=AA.fact Z λ_ h=>(M.o.touch h J.o).cell (j:=4) rfl;have y5:=AA.fact Z λ_ h=>(M.o.touch h J.o).cell (j:=5) rfl;have y6:=AA.fact Z λ_ h=>(M.o.touch h J.o).cell (j:=6) rfl;have y7:=AA.fact Z λ_ h=>(M.o.touch h J.o).cell (j:=7) rfl;have N:=HS.o _ ((Gr.refl w2).drew.touch _);have E:Inhabited (AA Sx):=⟨⟨_,N⟩⟩;clear Z;refine AW Sx 13 [([0,1,2,3,4],5),([],6),([7,8,9,10,11],12)] [] N ?_;refine AI ?_;go_wp2_with((go_at_call 38;refine(Xr _).mono ?_;rintro e w3 ⟨rfl,hg⟩;have G:=ι ((Gr.refl w2).drew.trans hg);clear hg));refine⟨.inr (AA.of (HS.o _ (G.o.touch _))),?_⟩;refine AI ?_;go_wp2_with((go_at_call 37;refine(Xc _).mono ?_;rintro e w4 ⟨q,rfl,hg,hv⟩;have Yk:=ι hv;have Xu:=ι hg;have B:=ι (G.o.trans hg);have r4:=Ye.o.gr (G.o.trans hg);have Yj:=ι r4;have z8:=r4.cc 8;have zf:=r4.free;have zl:=r4.lt;clear hg hv r4));refine⟨.inr (AA.of (HS.o _ (B.o.touch _))),?_⟩;refine AI ?_;go_wp2_with(fail);refine⟨.inr (AA.of (HS.o _ ((B.o.touch (λk=>k=hb)).setCell (a:=⟨hb,8,none⟩) (λ_=>rfl) _))),?_⟩;refine BH ?_;clear y0 y1 y2 y3 y4 y5 y6 y7 N E;clear HS Sx;clear z8 zf zl;have Xl:=Yj.o.set 8 (pP q);have Xe:=(AB.refl (λk=>k=hb) w4).setCell (a:=⟨hb,8,none⟩) (λ_=>rfl) (pP q);obtain⟨w5,Xw⟩:∃w5,w5=w4.setCell ⟨hb,8,none⟩ (.pointer (some ⟨q,0,none⟩)):=⟨_,rfl⟩;rw[<-Xw]at Xl Xe⊢;have Yr:=ι Xl;have Xh:=ι Xe;have Xj:=(M.o.gr B.o).touch Xe J.o;have Yl:=ι Xj;have c4:=Xj.cc 4;clear Xl Xe Xw Xj;go_upto_region 10 with(go_at_call 39;refine(Yv _).mono ?_;rintro e w6 ⟨r,g,rfl,hg,hr,Ya,I⟩;have Xx:=ι (ξ hr (ξ Ya I));have O:=ι hg;have r6:=Yr.o.gr hg;have Yw:=ι r6;have z9:=r6.cc 9;have zf:=r6.free;have zl:=r6.lt;clear hg hr Ya I r6);clear z9 zf zl c4;have Xo:=Yw.o.set 9 (pP r);have Xb:=(AB.refl (λk=>k=hb) w6).setCell (a:=⟨hb,9,none⟩) (λ_=>rfl) (pP r);obtain⟨w7,Yf⟩:∃w7,w7=w6.setCell ⟨hb,9,none⟩ (.pointer (some ⟨r,0,none⟩)):=⟨_,rfl⟩;rw[<-Yf]at Xo Xb⊢;have Xd:=ι Xb;have Xs:Hid (Rec w7 hb 83 [iI d.kd,iI d.pg,iI d.bk,iI d.wd,iI d.sl,iI d.st,iI d.ah,.float .f64 d.tr,pP q,pP r,.pointer none,.pointer none,iI 0,iI 0]):=⟨Xo⟩;have Yg:=ι ((Yl.o.gr O.o).touch Xb J.o);clear Xo Xb Yf;have Xi:Hid (hb<w3.heap.size):=⟨by have:=G.o.size;rw[Xq.o]at this;rw[Xp.o]at this⊢;omega⟩
  have Yh:Hid (AC w7 (AD (λk=>w3.heap.size<=k) w4) q (Vm.new n d.pg fr)):=⟨by
   have h1:=Yk.o.cut.touch Xh.o (λk hk _ e=>by have:=hk.1;have:=Xi.o;omega)
   exact(h1.gr O.o).touch Xd.o (λk hk _ e=>by have:=hk.1;have:=Xi.o;omega)⟩
  have Yx:Hid (∀W,Gr w7 W->Calls prog 40 #[pP q,iI d.pg,iI ((d.pg:Int)+d.wd)] W λe w'=>∃rn,e=.returned (.tuple #[pP rn,iI 0])/\Gr W w'/\W.heap.size<=rn/\E0 w' rn q d.pg d.pg (d.pg+d.wd)):=⟨λW gg=>by
   have:=YN8 (base:=d.pg) (lim:=d.pg+d.wd) (Yh.o.gr gg) (show n≠0 by omega) Ω (show d.pg+d.wd<=n from p1);rw[show (((d.pg+d.wd:Nat):Int))=(d.pg:Int)+d.wd by push_cast;rfl]at this
   exact this⟩
  obtain⟨Sx,Z,HS⟩:=AA.start λW'=>(∃v:Value,Rec W' hb 83 [iI d.kd,iI d.pg,iI d.bk,iI d.wd,iI d.sl,iI d.st,iI d.ah,.float .f64 d.tr,pP q,pP r,v,.pointer none,iI 0,iI 0])/\AB (λk=>k=hb) w7 W';have y8:=AA.fact Z λ_ h=>by obtain⟨⟨v,h⟩,-⟩:=h;exact h.cc 8
  have y1:=AA.fact Z λ_ h=>(Yg.o.touch h.2 J.o).cell (j:=1) rfl;have y3:=AA.fact Z λ_ h=>(Yg.o.touch h.2 J.o).cell (j:=3) rfl;have N:=HS.o _ (⟨⟨_,Xs.o.gr (Gr.refl w7).drew⟩,(Gr.refl w7).drew.touch _⟩);have E:Inhabited (AA Sx):=⟨⟨_,N⟩⟩;clear Z;refine AW Sx 19 [([0,1,2,3,4,5,6,7,8,9,10,11],12),([13,14,15,16,17],18)] [] N ?_;refine AI ?_;go_wp2_with((go_at_call 40;refine(Yx.o _ (Gr.refl w7).drew).mono ?_;rintro e w8 ⟨rn,rfl,hg,L,Yd⟩;have U:=ι ((Gr.refl w7).drew.trans hg);have Yu:=ι (ξ L Yd);have r8:=Xs.o.gr ((Gr.refl w7).drew.trans hg);have Xk:=ι r8;have Yt:=r8.cc 10;have zf:=r8.free;have zl:=r8.lt;clear hg L Yd r8));refine⟨.inr (AA.of (HS.o _ (⟨⟨_,Xk.o⟩,U.o.touch _⟩))),?_⟩;refine AI ?_;go_wp2_with(fail);refine⟨.inr (AA.of (HS.o _ (⟨⟨_,Xk.o.set 10 (pP rn)⟩,(U.o.touch (λk=>k=hb)).setCell (a:=⟨hb,10,none⟩) (λ_=>rfl) _⟩))),?_⟩;refine BH ?_;clear y8 y1 y3 N E;clear HS Sx;clear Yt zf zl;go_wp2;go_ret2;have Ys:=Xk.o.set 10 (pP rn);have D:=(AB.refl (λk=>k=hb) w8).setCell (a:=⟨hb,10,none⟩) (λ_=>rfl) (pP rn);have Xf:=Yp.o;have z1:=Xf.size;have z2:=Xq.o;have z34:=Xu.o.size;have z3:=G.o.size;have hh:=Xp.o;have zt5:=Xh.o.size;have z56:=O.o.size;have zt7:=Xd.o.size;have z78:=U.o.size;obtain⟨Xv,l1,l2⟩:=Xx.o;obtain⟨Yz,L⟩:=Yu.o;have l3:w7.heap.size<=rn:=Yz;have lr:=Xv.lt;have Yq:=Yy.o;have lb:=Xi.o
  have Yi:Gr w (w8.setCell ⟨hb,10,none⟩ (.pointer (some ⟨rn,0,none⟩))):=by
   have t1:AB (λk=>k=hb) w2 _:=(((B.o.touch (λk=>k=hb)).trans Xh.o).trans (O.o.touch _)).trans ((Xd.o.trans (U.o.touch _)).trans D);have t2:AB (λk=>k=hb) w _:=((Xf.trans Zb.o).touch (λk=>k=hb)).trans t1;exact(t2.mono (T:=λ_=>False) (λk hk e=>by omega)).gr
  have hsz:w8.heap.size<=(w8.setCell ⟨hb,10,none⟩ (.pointer (some ⟨rn,0,none⟩))).heap.size:=D.size
  have hI:=HIn.new (w:=w8.setCell ⟨hb,10,none⟩ (.pointer (some ⟨rn,0,none⟩))) Yo (A:=⟨hb,q,r,g,rn⟩) (X:=AD (λk=>w3.heap.size<=k) w4) Ys (L.touch D (λe=>by omega)) (((Xv.touch Xd.o (λe=>by omega) (λe=>by omega)).gr U.o).touch D (λe=>by omega) (λe=>by omega))
   (by have:=((Yh.o.gr U.o).touch D (λk hk _ e=>by have:=hk.1;omega));rw[Xt.o.1,Xt.o.2]at this;exact this) (Yi.tab Yq HT)
   ⟨show hb≠r by omega,show hb≠g by omega,show hb≠rn by omega,show hb≠_ by omega⟩ ⟨show r≠rn by omega,show r≠_ by omega⟩ ⟨show g≠rn by omega,show g≠_ by omega,show rn≠_ by omega⟩
   ⟨λe=>by have:w3.heap.size<=hb:=e.1;omega,λe=>by have:r<w4.heap.size:=e.2;omega,λe=>by have:g<w4.heap.size:=e.2;omega,λe=>by have:rn<w4.heap.size:=e.2;omega,λe=>by have:w3.heap.size<=1:=e.1;omega⟩
  refine⟨_,rfl,Yi,hI,rfl,rfl,λk hk=>?_⟩;rcases hk with hk|hk|hk|hk|hk
  ·have h1:w3.heap.size<=k:=hk.1;have h2:k<w4.heap.size:=hk.2;omega
  ·have hk:k=hb:=hk;omega
  ·have hk:k=g:=hk;omega
  ·have hk:k=r:=hk;omega
  ·have hk:k=rn:=hk;have:=L.lt;omega
structure HLv(w0:World)(K:Nat->Prop)(c:HCf)(hb:Nat)(g:Gph)(w:World):Prop where
 gr:Gr w0 w
 ex:∃s:HSt,s.A.hp=hb/\HIn w c g s/\(s.o=none↔s.lf=0)/\∀k,s.S k->w0.heap.size<=k/\¬K k
 kl:∀k,K k->k<w.heap.size
def hlT(w0:World)(K:Nat->Prop)(k:Nat):Prop:=w0.heap.size<=k/\¬K k
section
variable{K K':Nat->Prop}{hb:Nat}
theorem HSt.cut_S(h:HIn w c g s):∀k,(s.cut w).S k->s.S k/\k<w.heap.size:=λk hk=>by
 obtain⟨l1,l2,l3,l4,l5⟩:=h.com.lt;rcases hk with hk|hk|hk|hk|hk
 ·exact⟨.inl hk.1,hk.2⟩
 ·exact⟨.inr (.inl hk),by rw[hk];exact l1⟩
 ·exact⟨.inr (.inr (.inl hk)),by rw[hk];exact l3⟩
 ·exact⟨.inr (.inr (.inr (.inl hk))),by rw[hk];exact l2⟩
 ·exact⟨.inr (.inr (.inr (.inr hk))),by rw[hk];exact l4⟩
theorem HLv.own(h:HLv w0 K c hb g w)(gr:Gr w w')(hK:∀k,K' k->K k\/(w.heap.size<=k/\k<w'.heap.size)):HLv w0 K' c hb g w':=by
 obtain⟨h1,⟨s,e1,e2,e3,e4⟩,h3⟩:=h;refine⟨h1.trans gr,⟨s.cut w,e1,e2.cut.gr gr,e3,λk hk=>?_⟩,λk hk=>?_⟩
 ·obtain⟨k1,k2⟩:=HSt.cut_S e2 k hk
  grind
 ·rcases hK k hk with h4|h4
  ·exact κ (h3 k h4) gr.size
  ·exact h4.2
theorem HLv.get(h:HLv w0 K c hb g w)(gr:Gr w w'):HLv w0 K c hb g w':=h.own gr (λ_ h=>.inl h)
theorem HLv.touch(h:HLv w0 K c hb g w)(t:AB (λk=>K k/\w0.heap.size<=k) w w')(ht:1<w0.heap.size):HLv w0 K c hb g w':=by
 obtain⟨h1,⟨s,e1,e2,e3,e4⟩,h3⟩:=h;refine⟨?_,⟨s,e1,e2.touch t (λk _ hk=>⟨λhs=>(e4 k hs).2 hk.1,λe=>by have:=hk.2;omega⟩),e3,e4⟩,λk hk=>κ (h3 k hk) t.size⟩;exact((h1.touch (λk=>K k/\w0.heap.size<=k)).trans t |>.mono (T:=λ_=>False) (λk hk e=>by have:=e.2;omega)).gr
theorem HLv.res(h1:Gr w0 w)(h3:∀k,K k->k<w.heap.size)(e1:s.A.hp=hb)(e4:∀k,s.S k->w0.heap.size<=k/\¬K k)(r:BC w c s g' s' w'):AB (hlT w0 K) w w'/\HLv w0 K c hb g' w':=by
 have t:AB (hlT w0 K) w w':=r.t.mono (λk _ hk=>e4 k hk);refine⟨t,?_,⟨s',by rw[r.hp];exact e1,r.i,r.o,λk hk=>?_⟩,λk hk=>κ (h3 k hk) t.size⟩
 ·exact((h1.touch (hlT w0 K)).trans t |>.mono (T:=λ_=>False) (λk hk e=>by have:=e.1;omega)).gr
 ·rcases r.S k hk with hk|hk
  ·exact e4 k hk
  ·exact⟨by have:=h1.size;omega,λh=>by grind⟩
theorem HLv.new(r:XK w0 c s w'):HLv w0 (λ_=>False) c s.A.hp (Gph.nil c.sl) w':=
 ⟨r.gr,⟨s,rfl,r.i,⟨λ_=>r.lf,λ_=>r.o⟩,λk hk=>⟨(r.S k hk).1,id⟩⟩,λ_ h=>h.elim⟩
theorem HLv.alloc(h:HLv w0 K c hb g w)(a:Int)(x:Hdr):Calls prog 32 #[pP hb,iI a,AK x] w λe w'=>e=.returned (iI (g.alE c.wd a x))/\AB (hlT w0 K) w w'/\HLv w0 K c hb (g.alG c.wd a x) w':=by
 obtain⟨h1,⟨s,rfl,e2,e3,e4⟩,h3⟩:=h;refine(J6F e2 e3 a x).mono ?_;rintro e w' ⟨rfl,s',r⟩;exact⟨rfl,HLv.res h1 h3 rfl e4 r⟩
end
theorem HIn.memWords(h:HIn w c g s):cQ 47 #[pP s.A.q] w (iI c.n):=by
 have hm:=h.mem;cases ho:s.o with
 | none=>
  rw[ho]at hm;have:=IX hm.1;rw[hm.2.1.n]at this;exact this
 | some y=>
  rw[ho]at hm;obtain⟨z,sl,v,R,Sv,Y,e1,e2⟩:=hm;have:=IX Y.vm;rw[Y.hv.n]at this;exact this
theorem HpA.pk{top:Nat}(h:HpA top u sl v)(h1:sl.cf.to<=a)(h2:a<top)(hu:u.ldE a=0):sl.pkV v a=u.ldV a/\sl.pkE v a=u.ldE a:=by
 unfold Sl.pkV Sl.pkE;rw[hu];rcases υ a (sl.cf.to+sizes sl.L)with h3|h3
 ·obtain⟨i,rfl⟩:∃i,a=sl.cf.to+i:=⟨a-sl.cf.to,by omega⟩;rw[E8.2 ⟨by omega,by omega⟩,θ rfl,θ rfl,show (((sl.cf.to+i:Nat):Int)-(sl.cf.to:Int)).toNat=i by omega];exact⟨(h.c i Ω).symm,rfl⟩
 ·rw[UC Ω];obtain⟨x1,x2⟩:=h.x a h3 h2;exact⟨x2,x1⟩
def spL(c:HCf)(g:Gph)(s:HSt):Sp:=
 ⟨101,.agg #[pP s.A.hp],263,λa=>∃n:Nat,a=n/\s.base<=n/\n<s.top,False,λk=>s.S k\/k=1,
  λu _ w=>u=s.u/\HIn w c g s/\∀k,s.S k->k<w.heap.size⟩
theorem ZKh(h:HIn w c g s)(h1:s.base<=a)(h2:a<s.top):Calls prog 263 #[.agg #[pP s.A.hp],iI a] w λe w'=>e=.returned (.tuple #[uU (s.u.ldV a:Nat),iI (s.u.ldE a)])/\Gr w w':=by
 have U:=(Gr.refl w).alloc (.cells #[.pointer (some ⟨s.A.hp,0,none⟩)] 101);have V:=ι U;have J:=h.cc 11;have c8:=h.cc 8;have cl:=h.com.row.lt;have hm:=h.mem;have I:=h.hi;have O:=h.bt;cases ho:s.o with
 | none=>
  rw[ho]at hm J;simp only[Option.map_none]at J;have HL:=ι (JE (hm.1.gr U) (a:Int));generalize s.A.hp=ap at V HL J c8 cl⊢;generalize s.u.ldV a=v at HL⊢;generalize s.u.ldE a=e at HL⊢;clear h hm ho h1 h2 U I O;go_enter func263,ntmps263;go_wp2_with(go_at_call 190;refine(HL.o).mono ?_;rintro e w1 ⟨rfl,hg⟩;have HG:=ι hg;clear hg);go_ret2;exact⟨rfl,V.o.trans HG.o⟩
 | some y=>
  rw[ho]at hm J;simp only[ξ8]at J;obtain⟨z,sl,v,R,Sv,Z,e1,e2⟩:=hm;have Y:=Z.gr U;have M:=Z.bs;have N:=Z.ok.st;have L:=N.cf.ln;have E:=Z.a.lm;obtain⟨p1,p2⟩:=Z.a.pk (a:=a) (by rw[M];exact h1) h2 (Z.a.un a Ω);obtain⟨HP⟩:Hid _:=ι (XMX Y.cy Y.ok Y.tab Y.vm (a:Int) Ω);rw[p1,p2]at HP;have HL:=ι HP;generalize s.A.hp=ap at V HL J c8 cl⊢;generalize s.u.ldV a=vv at HL⊢;generalize s.u.ldE a=e at HL⊢;clear h ho h1 h2 U I O Z Y M N L E p1 p2 HP e1 e2;go_enter func263,ntmps263;go_wp2_with(go_at_call 265;refine(HL.o).mono ?_;rintro e w1 ⟨rfl,hg⟩;have HG:=ι hg;clear hg);go_ret2;exact⟨rfl,V.o.trans HG.o⟩
theorem JVB(n:Nat)(v:Value)(w:World):(nilAhead (n+1) 101 (.agg #[v]) "Load").run prog w=.ok (some false) w:=by kernel_rfl
theorem Zd6(n:Nat)(v:Value)(w:World):(method (n+1) 101 (.agg #[v]) "Load").run prog w=.ok (263,.agg #[v]) w:=by kernel_rfl
theorem ZQv(c:HCf)(g:Gph)(s:HSt):(spL c g s).Ok:=by
 refine⟨λn w=>JVB n _ w,λn w=>Zd6 n _ w,λargs w=>by kernel_rfl,λw=>by kernel_rfl,λh=>?_,λ{u S S' T' w w'} h t hT hs=>?_,λ{u S w} h k hk=>?_,λ{u S w} h=>h,λ{u S w} h a ha=>?_⟩
 ·obtain⟨rfl,h,-⟩:=h;exact h.mem.ok
 ·obtain⟨e,h,h2⟩:=h;exact⟨e,h.touch t (λk hk ht=>⟨λhs=>(hT k hk ht).2 (.inl hs),λe=>(hT k hk ht).2 (.inr e)⟩),λk hk=>κ (h2 k hk) t.size⟩
 ·obtain⟨e,h,h2⟩:=h;rcases hk with hk|rfl
  ·exact h2 k hk
  ·exact h.com.tab.lt
 ·obtain⟨rfl,h,h2⟩:=h;obtain⟨n,rfl,h3,h4⟩:=ha;refine(ZKh h h3 h4).mono ?_;rintro e w' ⟨rfl,g⟩;exact⟨rfl,g.touch _,rfl,h.gr g,λk hk=>κ (h2 k hk) g.size⟩
theorem HIn.lk(h:HIn w c g s)(S:Nat->Prop):(spL c g (s.cut w)).I s.u S w:=by
 obtain⟨l1,l2,l3,l4,l5⟩:=h.com.lt;refine⟨rfl,h.cut,λk hk=>?_⟩;rcases hk with hk|hk|hk|hk|hk
 ·exact hk.2
 ·rw[hk];exact l1
 ·rw[hk];exact l3
 ·rw[hk];exact l2
 ·rw[hk];exact l4
theorem HIn.soundN(h:HIn w c g s)(hn:s.top<=n):CC s.u (s.rs g) n:=by
 have hS:=h.img.sound h.gok;exact⟨hS.rd,hS.pt,λa ha=>by have:=hS.rm a ha;omega,hS.dj⟩
theorem HIn.mrun(h:HIn w c g s)(gr:Gr w W){p1 b1 p2 b2 g1 cp:Nat}(hE:Ext W m p1 b1 p2 b2 c.n [])(hm:w.heap.size<=m/\w.heap.size<=p1/\w.heap.size<=b1/\w.heap.size<=p2/\w.heap.size<=b2)(ho:W.ownsRow 0 3 1 (.slice (some ⟨g1,0,none⟩) (s.rs g).length cp) (s.rs g).length (zs (s.rs g)))(hg1:¬AN m b1 b2 g1):
  Calls prog 48 #[.iface 101 (.agg #[pP s.A.hp]),.slice (some ⟨g1,0,none⟩) (s.rs g).length cp,pP m,iI c.st] W λe w'=>
   (∃r vi:Int,e=.returned (.tuple #[.agg #[iI (g.all.length:Nat),iI (g.words:Nat),iI r,iI vi],iI 0]))/\AB (AN m b1 b2) W w':=by
 have hst:=h.cok.st
 have hn:s.top<=c.n:=by
  have h1:=(RA h.cok).1;have h2:=h.bt;have h3:=h.cok.kd;unfold HCf.n;rcases h.bs with e|⟨e,e2⟩
  ·split <;> omega
  ·rw[ψ e2];omega
 have hS:=h.soundN hn;obtain⟨L0,hM0,-,-,-,hz0,hl0⟩:=h.rch hn
 have Z:(s.rs g).length<=maxLen:=by
  have:=h.sl;have:=h.cok.sl;unfold maxLen;unfold HSt.rs;rw[ξZ];omega
 have M:=HSt.cut_S h;have Y:=h.com.lt.2.2.2.2;have hI:=h.lk (λ_=>False);obtain⟨hI1,U,V⟩:=hI;have J:(spL c g (s.cut w)).I s.u (λ_=>False) W:=⟨rfl,U.gr gr,λk hk=>κ (V k hk) gr.size⟩;refine(Xbg (z:=spL c g (s.cut w)) (SV:=λ_=>False) (v:=s.u) (rs:=s.rs g) (room:=c.st) ⟨ZQv ..,id⟩ (.inl hS) (λa ha=>?_) (λi hi=>?_) J hE (gr.tab Y h.com.tab) (λi hi=>?_) Z (λ_ h=>h.elim) id id id (λe=>?_)).mono ?_
 ·obtain⟨x,hx,rfl⟩:=h.img.rch h.gok ha;exact⟨λh0=>h.rdP (.inr hx) h0,λi h0=>h.fdP (.inr hx) i (by decide) h0⟩
 ·have N:i<w.heap.size:=by
   rcases hi with hi|hi
   ·exact(M i hi).2
   ·rw[hi];exact Y
  exact⟨κ N gr.size,λe=>by rcases e with e|e|e <;> omega⟩
 ·exact⟨g1,0,rfl,(BB ho rfl).2,hg1,by rw[ξz];exact BP ho (LS hi)⟩
 ·rcases e with e|e|e <;> omega
 ·rintro e w' (⟨h1,-⟩|⟨-,-,ht,-,(⟨L,r,vi,rfl,-,hM,-⟩|⟨rfl,-,hs⟩)⟩)
  ·omega
  ·have e1:=h.img.words h.gok hM;have e2:=h.img.count h.gok hM;rw[e1,e2];exact⟨⟨r,vi,rfl⟩,ht.mono (λk _ hk=>hk.elim id (λe=>e.elim))⟩
  ·exact absurd hS hs
end Go.Proofs.YtggjoonlcjjgkaaGreatDoor
