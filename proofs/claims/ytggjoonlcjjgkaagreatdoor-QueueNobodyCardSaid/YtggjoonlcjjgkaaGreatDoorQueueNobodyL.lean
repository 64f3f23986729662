/- Part 12 of what QueueNobody leans on: my own lemmas, merged by shake.py. -/
import Derived.Test.YtggjoonlcjjgkaaGreatDoorQueueNobodyK
import Derived.Laws.FloatArith
namespace Go.Proofs.YtggjoonlcjjgkaaGreatDoor
open _root_.Go.Proofs.Tryz
set_option maxHeartbeats 6400000
set_option maxRecDepth 100000
open Go.RowKit Go.Shelf Word
variable{g g':Gph}{A:HAd}{c:HCf}{s s':HSt}{a:Int}{L:List Ob}{b f hb k n p pg rm x:Nat}{F:Nat->Nat}{K X:Nat->Prop}{u v v':Vm}{w w' w0 w1 w2 w3:World}
theorem VsG{B m:Nat}(hB:1<=B)(h:n<=m)(hm:m%B=0):upN n B<=m:=by
 have e:m=m/B*B:=by grind [ζv,ζT]
 have h1:(n+B-1)/B<m/B+1:=by
  rw[ζZ Ω,ξf,ξx,<-e];omega
 have h2:=ζj B (Nat.le_of_lt_succ h1)
 show (n+B-1)/B*B<=m
 omega
theorem NE{fr tp:Nat}(hg:AO n L)(h:∀o∈L,fr<=o.1/\o.1+o.2<=tp)(h2:fr<=tp):fr+sizes L<=tp:=by
 rcases ζB L.length with h0|h0
 ·have:L=[]:=ζw h0;subst this
  assumption
 ·have hj:L.length-1<L.length:=Ω
  have h1:=QW hg (λo ho=>(h o ho).1) hj;have h3:=h _ (π hj);have h4:=E0 (L:=L) (j:=L.length-1) hj
  grind
theorem HCf.Ok.pg1(h:c.Ok):1<=c.pg:=by
 have h1:=h.pg;unfold DY at h1;rw[ζe]at h1;have:=DA h1.1;omega
theorem HIn.cf(h:HIn w c g s)(hk:c.kd≠3)(hv:HVm c v):GW v.pl.pg v.n (C7 c s.base s.top (c.ot s.base)):=by
 have k:=h.cok;have Z:=h.ot;have U:=h.bt;have hn:v.n=c.pg+c.wd+c.wd:=by rw[hv.n];exact ϑ hk
 have Y:=hv.pg;have J:=k.pg1;have d0:c.pg%c.pg=0:=Nat.mod_self _;have d1:(c.pg+c.wd)%c.pg=0:=by rw[Nat.add_mod,d0,k.dv];simp
 have d2:(c.pg+c.wd+c.wd)%c.pg=0:=by rw[Nat.add_mod,d1,k.dv];simp
 rw[Y,hn];unfold C7;refine⟨k.bk,k.st,k.ah,?_,U.1,?_,?_,ζL _ _,?_,?_,?_,?_,?_⟩ <;> dsimp only
 ·omega
 ·omega
 ·omega
 ·omega
 ·grind
 ·grind
 ·grind
 ·rcases Z with⟨e,e2⟩|⟨e,e2⟩
  ·have:=VsG (n:=s.top) (m:=c.pg+c.wd) J Ω d1;omega
  ·omega
theorem HIn.rch(h:HIn w c g s)(hn:s.top<=n):∃L,BD s.u (s.rs g) n L/\(∀o∈L,s.base<=o.1/\o.1+o.2<=s.top)/\FJ s.u L/\s.base+sizes L<=s.top/\sizes L=g.words/\L.length=g.all.length:=by
 obtain⟨L,hM⟩:=h.img.marks h.gok hn;have Y:=h.img.inn h.gok hM;exact⟨L,hM,Y,h.img.full h.gok hM,NE hM.mkd.good Y h.bt.1,h.img.words h.gok hM,h.img.count h.gok hM⟩
theorem HIn.opnd(h:HIn w c g s)(hk:c.kd=1)(hv:HVm c v)(hok:AF v)(hsh:ShA s.base s.top v)(hu:v=s.u)(hI:EX v (s.rs g) s.base s.top L){j:Nat}
  (hU:EN (AX v (C7 c s.base s.top (c.ot s.base)) L) v v' (s.base/v.pl.pg) j) (hj:s.top<=(s.base/v.pl.pg+j)*v.pl.pg):
  sizes L=g.words/\BL (AX v (C7 c s.base s.top (c.ot s.base)) L) v'/\c.ot s.base+sizes L<=c.ot s.base+c.wd/\∃u,HpA (c.ot s.base+sizes L) u (AX v (C7 c s.base s.top (c.ot s.base)) L) v' ∧
   Img u g (λx=>(toV L (c.ot s.base) (s.F x)).toNat) (c.ot s.base) (c.ot s.base+sizes L)/\(s.rs g).map (toV L (c.ot s.base))=g.S.map (λx=>(((toV L (c.ot s.base) (s.F x)).toNat:Nat):Int)):=by
 have M:=h.cf Ω hv;have hM:BD v (s.rs g) v.n L:=hI.1;have E:∀o∈L,s.base<=o.1/\o.1+o.2<=s.top:=λo ho=>by have:=hI.2 o ho;omega
 have Y:Img v g s.F s.base s.top:=by rw[hu];exact h.img
 have Z:=Y.full h.gok hM;have hle:=NE hM.mkd.good E h.bt.1;have I:=h.bt
 have J:sizes L<=(C7 c s.base s.top (c.ot s.base)).lm-(C7 c s.base s.top (c.ot s.base)).to:=by
  show sizes L<=c.ot s.base+c.wd-c.ot s.base
  omega
 have N:=hv.pg;have hus:=hsh.used (W:=c.wd) (by rw[N];exact h.cok.dv) I.2
 have O:v.pl.used+(c.ah+2)*(max 1 (c.bk/v.pl.pg)+3)<=v.pl.rm:=by
  have e:v.pl.rm=c.wd/c.pg+(c.ah+2)*(max 1 (c.bk/c.pg)+3):=by
   rw[hv.rm];unfold HCf.fr;rw[μ hk];rfl
  simp_all
 obtain⟨hO,u,hA⟩:=Jap hok M hI J Z hU hj (λp hp hne=>(hsh.map hp).1 hne) O
 ·have U:=XUb (v:=v) (gv:=u) (c:=C7 c s.base s.top (c.ot s.base)) hM hok.n2 (λi hi=>⟨hA.un _ (by have h1:c.ot s.base+c.wd<=v.n:=M.ln;show c.ot s.base+i<v.n;omega),hA.c i hi⟩);have V:1<=c.ot s.base:=by have:=h.cok.pg1;rcases h.ot with⟨e,-⟩|⟨e,-⟩ <;> omega
  refine⟨Y.words h.gok hM,hO,by omega,u,hA,Y.moved h.gok U V ?_,Y.roots U⟩;have:=h.cok.wd;have:=h.cok.pw;rcases h.ot with⟨e,-⟩|⟨e,-⟩ <;> omega
def Y6(w:World)(c:HCf)(g:Gph)(s:HSt)(w':World):Prop:=∃s',BA w c s g s' w'/\s'.cyc=(if s'.lf=0 then wrap64 (s.cyc+1)else s.cyc)/\s'.top=s'.base+g.words/\s'.lf=nbl g.words c.bk
theorem HIn.opn(h:HIn w c g s)(hn:s.o=none)(hk:c.kd=1)(hg1:Gr w w1){e:Ending}(hO:PJ w1 (AE s.X w) s.A.q s.A.r s.A.g s.u (s.rs g) (C7 c s.base s.top (c.ot s.base)) e w2):
  ∃y,e=.returned (.tuple #[pP y,iI 0])/\Rec w2 s.A.hp 83 (hpL c s.A none s.cyc s.blk) ∧
   (∀w3,w3=w2.setCell ⟨s.A.hp,11,none⟩ (.pointer (some ⟨y,0,none⟩)) →
    (∀W,Gr w3 W->Calls prog 113 #[pP y] W λe W'=>e=.returned (iI ((c.ot s.base+g.words:Nat):Int))/\Gr W W') ∧
    (∀W,Gr w3 W->Calls prog 95 #[pP s.A.hp,iI (c.ot s.base:Nat),iI ((c.ot s.base+g.words:Nat):Int)] W λe W'=>e=.returned (.tuple #[]) ∧
     Calls prog 43 #[pP s.A.hp] W' λe w'=>e=.returned (.tuple #[])/\Y6 w c g s w')):=by
 have hm:=h.mem;rw[hn]at hm;obtain⟨hV,hv,Xd,hlf⟩:=hm;obtain⟨hT,hO⟩:=hO;have Xm:=h.rch (n:=s.u.n) (by have:=Xd.bt;omega);obtain⟨L0,Xj,Xb,-,hle0,hw0,-⟩:=Xm;have Xo:=h.bt;obtain⟨l1,l2,l3,l4,l5⟩:=h.com.lt;have B:=hg1.size;have hS:∀k,k<w1.heap.size->(k=s.A.g\/AE s.X w k)->k=s.A.g\/s.X k:=λk _ hk=>hk.imp id (λh=>h.1);have J:AB (λk=>k=s.A.g\/s.X k) w w2:=(hg1.touch _).trans (hT.mono hS);have hx:=h.com.x
 have N:Rec w2 s.A.hp 83 (hpL c s.A none s.cyc s.blk):=by
  have:=h.com.row;rw[hn]at this;exact this.touch J (λhk=>hk.elim h.com.n1.2.1 hx.1)
 rcases hO with⟨Xh,-⟩|⟨L,hI,⟨Xf,-⟩|⟨hfit,y,z,R,S',v',j,rfl,Xa,Xi,Xg,hR,hU,hj,-,Xn⟩⟩
 ·exact absurd (⟨Xj,λo ho=>by have:=Xb o ho;show (s.base:Int)<=_/\_<=(s.top:Int);omega⟩:EX s.u (s.rs g) s.base s.top L0) (Xh L0)
 ·exfalso;have h1:=NE hI.1.mkd.good (fr:=s.base) (tp:=s.top) (λo ho=>by have h2:(s.base:Int)<=(o.1:Int)/\(o.1:Int)+o.2<=(s.top:Int):=hI.2 o ho;omega) Xo.1;have h2:c.ot s.base+c.wd-c.ot s.base<sizes L:=Xf;omega
 ·obtain⟨hw,hO,hle,u,hA,Xe,U⟩:=h.opnd hk hv hV.ok Xd rfl hI hU hj;refine⟨y,rfl,N,λw3 e3=>?_⟩;have hz2:=J.size;have Xk:=Xa.od.lt;have t3:AB (λk=>k=s.A.hp) w2 w3:=by rw[e3];exact(AB.refl (λk=>k=s.A.hp) w2).setCell (a:=⟨s.A.hp,11,none⟩) (λ_=>rfl) _
  have hz3:=t3.size;have E:∀k,R k->w1.heap.size<=k:=λk hk=>(hR k hk).1;have D:∀k,S' k->(s.X k/\k<w.heap.size)\/w1.heap.size<=k:=λk hk=>Xg k hk
  have Y:∀k,k<w.heap.size->¬s.X k->¬(R k\/AE S' w2 k):=λk hk hn h2=>by
   rcases h2 with h2|h2
   ·have:=E k h2;omega
   ·rcases D k h2.1 with h3|h3
    ·exact hn h3.1
    ·omega
  have O:Rec w3 s.A.hp 83 (hpL c s.A (some y) s.cyc s.blk):=by
   rw[e3];exact N.set 11 (pP y)
  have n1:=h.com.n1;have n2:=h.com.n2;have n3:=h.com.n3
  have I:CB w3 (λk=>R k\/AE S' w2 k) s.A c s.base s.top ((s.rs g).map (toV L (c.ot s.base))) (some y) s.cyc s.blk:=
   ⟨O,(h.com.rn.touch J (λhk=>hk.elim (λe=>n3.1 e.symm) hx.2.2.2.1)).touch t3 (λe=>n1.2.2.1 e.symm),Xn.touch t3 (λe=>n1.1 e.symm) (λe=>n1.2.1 e.symm),
    t3.tab (J.tab l5 (λhk=>hk.elim (λe=>n3.2.1 e.symm) hx.2.2.2.2) h.com.tab).lt (λe=>n1.2.2.2 e.symm) (J.tab l5 (λhk=>hk.elim (λe=>n3.2.1 e.symm) hx.2.2.2.2) h.com.tab),n1,n2,n3,Y _ l1 hx.1,Y _ l2 hx.2.1,Y _ l3 hx.2.2.1,Y _ l4 hx.2.2.2.1,Y _ l5 hx.2.2.2.2⟩
  have M:AD w3 (AE S' w2) s.A.q v':=Xi.cut.touch t3 (λk hk _ e=>Y _ l1 hx.1 (.inr (e▸hk)));have V:Cyc w3 R y s.A.q z (AX s.u (C7 c s.base s.top (c.ot s.base)) L):=Xa.touch t3 (λk hk e=>Y _ l1 hx.1 (.inl (e▸hk)));have Xl:HVm c v':=⟨hU.n.trans hv.n,hU.pg.trans hv.pg,hU.rm.trans hv.rm⟩;have G:c.ot s.base+c.wd<=v'.n:=by rw[hU.n];exact(h.cf Ω hv).ln
  have hwd:=h.cok.wd;refine⟨λW gW=>?_,λW gW=>?_⟩
  ·have k:A2 prog 113 #[pP y] W (iI (((c.ot s.base:Nat):Int)+(sizes L:Nat))):=YCd (V.gr gW);rw[hw,show ((c.ot s.base:Nat):Int)+(g.words:Nat)=((c.ot s.base+g.words:Nat):Int)by omega]at k;exact k
  ·refine(XQQ (b:=c.ot s.base) (t:=c.ot s.base+g.words) (I.gr gW) (M.gr gW) (ζL _ _) Ω G Ω (λk hk=>?_)).mono ?_
   ·have:=gW.size;rcases hk with hk|hk
    ·have:=Xk k hk;omega
    ·have:=hk.2;omega
   ·rintro e W' ⟨rfl,rn,hrn,t4,Z⟩;refine⟨rfl,?_⟩;have hgs:=gW.size;have t5:AB (λk=>k=s.A.hp) w2 W':=(t3.trans (gW.touch _)).trans t4;have Xc:∀k,R k\/AE S' w2 k->k≠s.A.hp:=λk hk e=>Y _ l1 hx.1 (e▸hk);have t6:AB (λk=>k=s.A.hp) w3 W':=(gW.touch _).trans t4
    have hI:HIn W' c g {A:={s.A with rn:=rn},X:=λk=>R k\/AE S' w2 k,base:=c.ot s.base,top:=c.ot s.base+g.words,u:=u,F:=λx=>(toV L (c.ot s.base) (s.F x)).toNat,o:=some y,lf:=(AX s.u (C7 c s.base s.top (c.ot s.base)) L).lf,nb:=(AX s.u (C7 c s.base s.top (c.ot s.base)) L).mv.length,cyc:=s.cyc,blk:=s.blk}:=by
     refine⟨?_,⟨z,AX s.u (C7 c s.base s.top (c.ot s.base)) L,v',R,AE S' w2,⟨V.touch t6 (λk hk=>Xc k (.inl hk)),M.touch t6 (λk hk _=>Xc k (.inr hk)),Xl,hO,?_,λ_ h=>h,λk hk hk2=>(hR k hk).2 hk2.1,Z.tab,λhk=>Y _ l5 hx.2.2.2.2 (.inl hk),λhk=>Y _ l5 hx.2.2.2.2 (.inr hk),rfl,rfl,rfl,rfl,hk⟩,rfl,rfl⟩,?_,h.gok,h.cok,?_,?_,h.sl⟩
     ·rw[U]at Z;exact Z
     ·rw[<-hw];exact hA
     ·rw[<-hw];exact Xe
     ·show c.ot s.base<=c.ot s.base+g.words/\c.ot s.base+g.words<=c.ot s.base+c.wd
      omega
     ·rcases h.ot with⟨e,-⟩|⟨e,-⟩
      ·exact .inr ⟨e,by omega⟩
      ·exact .inl e
    refine(TT hI).mono ?_;rintro e w' ⟨rfl,s',h1⟩;refine⟨rfl,s',⟨?_,h1.i,by rw[h1.A],λk hk=>?_,h1.o⟩,?_,?_,by rw[h1.lf,<-hw];exact X5 _ _ _⟩
    ·exact((J.mono (λk _ hk=>hk.elim (λe=>.inr (.inr (.inl e))) .inl)).trans' t5 (λk _ e=>.inr (.inl e))).trans' h1.t (λk _ e=>.inr (.inl e))
    ·have hq:∀k,R k\/AE S' w2 k->plus s.S w k:=λk hk=>by
      rcases hk with hk|hk
      ·exact .inr (γ B (E k hk))
      ·rcases D k hk.1 with h3|h3
       ·exact .inl (.inl h3.1)
       ·exact .inr (γ B h3)
     rcases hk with hk|hk|hk|hk|hk
     ·exact hq k (h1.X k hk)
     ·rw[h1.A]at hk;exact .inl (.inr (.inl hk))
     ·rw[h1.A]at hk;exact .inl (.inr (.inr (.inl hk)))
     ·rw[h1.A]at hk;exact .inl (.inr (.inr (.inr (.inl hk))))
     ·rw[h1.A]at hk;refine .inr ?_;have:k=rn:=hk;omega
    ·rw[h1.cyc,h1.lf];by_cases h0:(AX s.u (C7 c s.base s.top (c.ot s.base)) L).lf=0
     ·exact(μ ⟨by simp,h0⟩).trans (μ h0).symm
     ·exact(ϑ (λhh=>h0 hh.2)).trans (ϑ h0).symm
    ·rw[h1.K.top,h1.K.base]
theorem XD(h:HIn w c g s)(hn:s.o=none)(hk:c.kd=1):Calls prog 72 #[pP s.A.hp] w λe w'=>e=.returned (.tuple #[])/\Y6 w c g s w':=by
 have M:=ι (VZS h);have hm:=h.mem;rw[hn]at hm;obtain⟨hV,hv,Xs,Xn⟩:=hm;obtain⟨l1,l2,l3,l4,l5⟩:=h.com.lt;have hx:=h.com.x;have I:=ι (λ(W:World) (gg:Gr w W)=>VBz (hV.cut.gr gg) (h.com.rt.gr gg) (gg.tab l5 h.com.tab) (λhk=>hx.2.2.2.2 hk.1) (λhk=>hx.2.1 hk.1) (λhk=>hx.2.2.1 hk.1) (h.cf Ω hv) (λe=>h.com.n3.2.1 e.symm));have L:=(λ(W1 W2:World) (gg:Gr w W1) (e:Ending) (hO:PJ W1 (AE s.X w) s.A.q s.A.r s.A.g s.u (s.rs g) (C7 c s.base s.top (c.ot s.base)) e W2)=>h.opn hn hk gg hO);have HC:=(λ(W:World) (gg:Gr w W)=>(h.com.gr gg).row);have c0:=h.com.row.lt;simp only[hn]at HC;obtain⟨ap,hp⟩:∃ap,ap=s.A.hp:=⟨_,rfl⟩;rw[<-hp]at M L HC c0⊢;obtain⟨d,hd⟩:∃d,d=c.ot s.base:=⟨_,rfl⟩;rw[<-hd]at M L I;have G:Hid (Calls prog 93 #[pP ap] w λe w'=>e=.returned (.agg #[iI s.base,iI s.top,iI d,iI ((d+c.wd:Nat):Int),iI c.bk,iI c.st,iI c.ah])/\Gr w w'):=M;have Xf:Hid (∀W,Gr w W->Calls prog 112 #[pP s.A.q,pP s.A.r,.agg #[iI s.base,iI s.top,iI d,iI ((d+c.wd:Nat):Int),iI c.bk,iI c.st,iI c.ah]] W (PJ W (AE s.X w) s.A.q s.A.r s.A.g s.u (s.rs g) (C7 c s.base s.top d))):=I;clear M I;have Xo:=ι (θ hp l3);clear h hn hk hV hv Xs Xn l1 l2 l3 l4 l5 hx hp hd;go_enter func72,ntmps72;go_upto_region 1 with(go_at_call 93;refine(G.o).mono ?_;rintro e w1 ⟨rfl,Xc⟩;have V:=ι Xc;clear Xc);have Xd:=(Gr.refl w1).alloc (.cells #[.int .i64 s.base,.int .i64 s.top,.int .i64 d,.int .i64 ((d+c.wd:Nat):Int),.int .i64 c.bk,.int .i64 c.st,.int .i64 c.ah] 143);have Xb:=ι (Rec.new w1 143 [iI s.base,iI s.top,iI d,iI ((d+c.wd:Nat):Int),iI c.bk,iI c.st,iI c.ah]);have HGA:=ι Xd.drew;have E:=ι (V.o.trans Xd).drew;obtain⟨Sx,Y,HS⟩:=AA.start λW'=>(Rec W' ap 83 (hpL c s.A none s.cyc s.blk)/\Rec W' w1.heap.size 143 [iI s.base,iI s.top,iI d,iI ((d+c.wd:Nat):Int),iI c.bk,iI c.st,iI c.ah])
 have y8:∀p:AA Sx,p.w.cell? ⟨ap,8,none⟩=some (pP s.A.q):=λp=>by have h:=AA.get Y p;exact h.1.cell (j:=8) rfl
 have y9:∀p:AA Sx,p.w.cell? ⟨ap,9,none⟩=some (pP s.A.r):=λp=>by have h:=AA.get Y p;exact h.1.cell (j:=9) rfl
 have Xt:∀p:AA Sx,p.w.cell? ⟨w1.heap.size,0,none⟩=some (iI s.base):=λp=>by have h:=AA.get Y p;exact h.2.cell (j:=0) rfl
 have Xq:∀p:AA Sx,p.w.cell? ⟨w1.heap.size,1,none⟩=some (iI s.top):=λp=>by have h:=AA.get Y p;exact h.2.cell (j:=1) rfl
 have Xm:∀p:AA Sx,p.w.cell? ⟨w1.heap.size,2,none⟩=some (iI d):=λp=>by have h:=AA.get Y p;exact h.2.cell (j:=2) rfl
 have Xk:∀p:AA Sx,p.w.cell? ⟨w1.heap.size,3,none⟩=some (iI ((d+c.wd:Nat):Int)):=λp=>by have h:=AA.get Y p;exact h.2.cell (j:=3) rfl
 have Xr:∀p:AA Sx,p.w.cell? ⟨w1.heap.size,4,none⟩=some (iI c.bk):=λp=>by have h:=AA.get Y p;exact h.2.cell (j:=4) rfl
 have Xp:∀p:AA Sx,p.w.cell? ⟨w1.heap.size,5,none⟩=some (iI c.st):=λp=>by have h:=AA.get Y p;exact h.2.cell (j:=5) rfl
 have Xl:∀p:AA Sx,p.w.cell? ⟨w1.heap.size,6,none⟩=some (iI c.ah):=λp=>by have h:=AA.get Y p;exact h.2.cell (j:=6) rfl
 have Z:=HS.o _ (⟨HC _ E.o,Xb.o.gr (Gr.refl _).drew⟩);have J:Inhabited (AA Sx):=⟨⟨_,Z⟩⟩;clear Y;refine AW Sx 15 [([0,1,2,3,4,5,6,7,8],9)] [10,11,12,13,14] (by kernel_rfl) (by kernel_rfl) Z ?_;refine AH ?_
 try simp only[AC,ζ,ξ]
 repeat(go_big_quiet_step (fail))
 refine ψ ?_;go_wp2_with((go_at_call 112;refine(Xf.o _ E.o).mono ?_;rintro e w2 hO;obtain⟨y,rfl,O,U⟩:=L _ _ E.o _ hO;have N:=ι O;have Xj:=ι U;have Xa:=ι ((Xb.o.gr (Gr.refl _).drew).touch hO.1 (λhk=>hk.elim (λe=>by have:=Xo.o.2;have:=V.o.size;omega) (λhk=>by have:=hk.2;have:=V.o.size;omega)));clear O U hO));refine⟨.inr (AA.of (HS.o _ (⟨N.o,Xa.o⟩))),?_⟩;refine BO ?_
 try simp only[AC,ζ,ξ]
 repeat(go_big_quiet_step (fail))
 refine ψ ?_;refine ζb ?_;clear y8 y9 Xt Xq Xm Xk Xr Xp Xl Z J;clear HS Sx;have Xh:=N.o.cc 11;have zf:=N.o.free 11;have Xi:=N.o.lt;go_upto_region 4 with(fail);clear Xh zf;generalize hw3:w2.setCell ⟨ap,11,none⟩ (.pointer (some ⟨y,0,none⟩))=w3;obtain⟨hT,hL⟩:=Xj.o w3 hw3.symm;have HT:=ι hT;have HL:=ι hL
 have Xe:w3.cell? ⟨w1.heap.size,2,none⟩=some (iI d):=by
  rw[<-hw3];exact(Xa.o.touch ((AB.refl (λk=>k=ap) w2).setCell (a:=⟨ap,11,none⟩) (λ_=>rfl) _) (λe=>by have:=V.o.size;omega)).cell (j:=2) rfl
 have D:=ι Xe;clear hT hL Xe hw3 Xi;obtain⟨Sx,Y,HS⟩:=AA.start λW'=>W'.cell? ⟨w1.heap.size,2,none⟩=some (iI d);have y2:=AA.fact Y λ_ h=>h;have Z:=HS.o (w3.drew) (D.o);have J:Inhabited (AA Sx):=⟨⟨_,Z⟩⟩;clear Y;refine AW Sx 5 [([0,1,2,3],4),([],5)] [] (by kernel_rfl) (by kernel_rfl) Z ?_;refine AH ?_
 try simp only[AC,ζ,ξ]
 repeat(go_big_quiet_step (fail))
 refine ψ ?_;go_wp2_with((go_at_call 113;refine(HT.o _ (Gr.refl w3).drew).mono ?_;rintro e w4 ⟨rfl,B⟩;have Xg:=ι ((Gr.refl w3).drew.trans B);clear B));refine⟨.inr (AA.of (HS.o _ ((Xg.o.cell (AT D.o) 2).trans D.o))),?_⟩;refine AH ?_
 try simp only[AC,ζ,ξ]
 repeat(go_big_quiet_step (fail))
 refine ψ ?_;go_wp2_with((go_at_call 95;refine(HL.o _ Xg.o).mono ?_;rintro e w5 ⟨rfl,he⟩;have HE:=ι he;clear he));refine⟨.inl trivial,?_⟩;refine CV ?_;clear y2 Z J;clear HS Sx;go_wp2_with(go_at_call 43;refine(HE.o).mono ?_;rintro e w6 ⟨rfl,ho⟩;have Xu:=ι ho;clear ho);exact ζy (ζl rfl _ _ _) rfl ⟨rfl,Xu.o⟩
theorem ShA.needP{base top:Nat}(h:ShA base top v){N:Nat}(hN:base+N<=top)(hu:v.pl.used<=v.pl.rm):A8 v base ((base+N:Nat):Int)=0:=by
 have hbt:=h.bt;rcases ζB N with rfl|hN0
 ·unfold A8;omega
 obtain⟨p0,Z⟩:∃p0,p0=base/v.pl.pg:=⟨_,rfl⟩;obtain⟨p1,Y⟩:∃p1,p1=(base+N-1)/v.pl.pg:=⟨_,rfl⟩;have hp01:p0<=p1:=by rw[Z,Y];exact ζc Ω
 have hp1l:p1<v.pt.length:=by rw[Y];exact(h.ok.split (a:=base+N-1) Ω).1
 have eA:((base:Int)/(v.pl.pg:Int)).toNat=p0:=by
  omega
 have eB:CT v base ((base+N:Nat):Int)=p1+1-p0:=by
  unfold CT
  grind
 have e0:BR v p0 (p1+1-p0)=[]:=by
  refine List.eq_nil_iff_forall_not_mem.2 λp hp=>?_;obtain⟨⟨h1,h2⟩,h3⟩:=N6.1 hp;refine(h.map (p:=p) Ω).2 ⟨by omega,?_⟩ h3;have h4:=ζj v.pl.pg (show p<=p1 by omega);have h5:=ζk (base+N-1) v.pl.pg
  grind
 unfold A8
 grind
def JK(w:World)(c:HCf)(g:Gph)(s:HSt)(w':World):Prop:=∃s',BA w c s g s' w'/\s'.lf=0/\s'.top=s'.base+g.words
structure PZ(w:World)(c:HCf)(g:Gph)(s:HSt)(A:HAd)(b t:Nat)(v:Vm)(F:Nat->Nat)(S2:Nat->Prop)(w3:World):Prop where
 tc:AB s.S w w3
 com:CB w3 S2 A c b t (g.S.map λx=>(F x:Int)) none s.cyc s.blk
 vm:AD w3 S2 A.q v
 hv:HVm c v
 sh:ShA b t v
 img:Img v g F b t
 sub:∀k,S2 k->s.X k\/w.heap.size<=k
 eA:A.hp=s.A.hp/\A.q=s.A.q/\A.g=s.A.g/\A.r=s.A.r
 rn:A.rn=s.A.rn\/w.heap.size<=A.rn
 bt:b<=t/\t<=b+c.wd
 bs:b=c.pg\/(b=c.pg+c.wd/\c.kd≠3)
theorem PZ.fin{t:Nat}{S2:Nat->Prop}(h:PZ w c g s A b t v F S2 w3)(h0:HIn w c g s)(ht:t=b+g.words):JK w c g s (w3.setCell ⟨s.A.hp,12,none⟩ (.int .i64 (wrap64 (s.cyc+1)))):=by
 obtain⟨a1,a2,a3,a4⟩:=h.eA;have tp:AB (λk=>k=s.A.hp) w3 (w3.setCell ⟨s.A.hp,12,none⟩ (.int .i64 (wrap64 (s.cyc+1)))):=(AB.refl (λk=>k=s.A.hp) w3).setCell (a:=⟨s.A.hp,12,none⟩) (λ_=>rfl) _;have hc:=h.com;have Y:AB (λk=>k=A.hp) w3 (w3.setCell ⟨s.A.hp,12,none⟩ (.int .i64 (wrap64 (s.cyc+1)))):=(AB.refl (λk=>k=A.hp) w3).setCell (a:=⟨s.A.hp,12,none⟩) (λ_=>a1.symm) _;refine⟨{A:=A,X:=S2,base:=b,top:=t,u:=v,F:=F,o:=none,lf:=0,nb:=0,cyc:=wrap64 (s.cyc+1),blk:=s.blk},⟨h.tc.trans' tp (λk _ e=>.inr (.inl e)),⟨?_,⟨h.vm.touch Y (λk hk _ e=>hc.x.1 (e▸hk)),h.hv,h.sh,rfl⟩,h.img,h0.gok,h0.cok,h.bt,h.bs,h0.sl⟩,a1,λk hk=>?_,⟨λ_=>rfl,λ_=>rfl⟩⟩,rfl,ht⟩
 ·have Z:=hc.row.set 12 (iI (wrap64 (s.cyc+1)));rw[a1]at Z;refine⟨by rw[a1];exact Z,hc.rn.touch Y (λe=>hc.n1.2.2.1 e.symm),hc.rt.touch Y (λe=>hc.n1.1 e.symm) (λe=>hc.n1.2.1 e.symm),Y.tab hc.tab.lt (λe=>hc.n1.2.2.2 e.symm) hc.tab,hc.n1,hc.n2,hc.n3,hc.x⟩
 ·rcases hk with hk|hk|hk|hk|hk
  ·exact(h.sub k hk).imp .inl id
  ·exact .inl (.inr (.inl (hk.trans a1)))
  ·exact .inl (.inr (.inr (.inl (hk.trans a3))))
  ·exact .inl (.inr (.inr (.inr (.inl (hk.trans a4)))))
  ·rcases h.rn with e|e
   ·exact .inl (.inr (.inr (.inr (.inr (hk.trans e)))))
   ·refine .inr ?_
    simp_all
theorem HIn.ran(h:HIn w c g s)(hn:s.o=none)(hg1:Gr w w1)(hT:AB (λb=>b=s.A.g\/AE s.X w b) w1 w2)(hV:AD w2 (plus (AE s.X w) w1) s.A.q v)(hR:AR w2 s.A.r s.A.g (g.S.map λx=>(F x:Int))):
  AB (λk=>k=s.A.g\/s.X k) w w2/\CB w2 (AE (plus (AE s.X w) w1) w2) s.A c s.base s.top (g.S.map λx=>(F x:Int)) none s.cyc s.blk/\AD w2 (AE (plus (AE s.X w) w1) w2) s.A.q v/\(∀k,AE (plus (AE s.X w) w1) w2 k->(s.X k\/w.heap.size<=k)/\k<w2.heap.size):=by
 obtain⟨l1,l2,l3,l4,l5⟩:=h.com.lt;have hz1:=hg1.size;have hx:=h.com.x;have n1:=h.com.n1;have n2:=h.com.n2;have n3:=h.com.n3;have Z:AB (λk=>k=s.A.g\/s.X k) w w2:=(hg1.touch _).trans (hT.mono (λk _ hk=>hk.imp id (λh=>h.1)))
 have Y:∀k,k<w.heap.size->¬s.X k->¬AE (plus (AE s.X w) w1) w2 k:=λk hk hn h2=>by
  rcases h2.1 with h3|h3
  ·exact hn h3.1
  ·omega
 have J:Rec w2 s.A.hp 83 (hpL c s.A none s.cyc s.blk):=by
  have:=h.com.row;rw[hn]at this;exact this.touch Z (λhk=>hk.elim n1.2.1 hx.1)
 refine⟨Z,⟨J,h.com.rn.touch Z (λhk=>hk.elim (λe=>n3.1 e.symm) hx.2.2.2.1),hR,Z.tab l5 (λhk=>hk.elim (λe=>n3.2.1 e.symm) hx.2.2.2.2) h.com.tab,n1,n2,n3,Y _ l1 hx.1,Y _ l2 hx.2.1,Y _ l3 hx.2.2.1,Y _ l4 hx.2.2.2.1,Y _ l5 hx.2.2.2.2⟩,hV.cut,λk hk=>⟨?_,hk.2⟩⟩
 grind
theorem HIn.cpd(h:HIn w c g s)(hn:s.o=none)(hk:c.kd=2):(∀W,Gr w W->Calls prog 94 #[pP s.A.q,pP s.A.r,cfV (C7 c s.base s.top (c.ot s.base))] W λe w2=>
  e=.returned (.tuple #[iI ((c.ot s.base+g.words:Nat):Int),iI 0])/\Rec w2 s.A.hp 83 (hpL c s.A none s.cyc s.blk)/\AB (λk=>k=s.A.g\/AE s.X w k) W w2 ∧
   ∀W2,Gr w2 W2->Calls prog 95 #[pP s.A.hp,iI (c.ot s.base:Nat),iI ((c.ot s.base+g.words:Nat):Int)] W2 λe w3=>e=.returned (.tuple #[]) ∧
    ∃r,Rec w3 s.A.hp 83 (hpL c {s.A with rn:=r} none s.cyc s.blk)/\JK w c g s (w3.setCell ⟨s.A.hp,12,none⟩ (.int .i64 (wrap64 (s.cyc+1))))):=λW gW=>by
 have hm:=h.mem;rw[hn]at hm;obtain⟨hV,hv,Z,hlf⟩:=hm;obtain⟨l1,l2,l3,l4,l5⟩:=h.com.lt;have hx:=h.com.x;have Xa:=h.bt;have hwd:=h.cok.wd;obtain⟨L0,Xj,hin0,hfl0,hle0,hw0,-⟩:=h.rch (n:=s.u.n) (by have:=Z.bt;omega);have Y:=h.cf Ω hv;have Xc:c.ot s.base+c.wd<=s.u.n:=Y.ln;have B:1<=c.ot s.base:=by have:=h.cok.pg1;rcases h.ot with⟨e,-⟩|⟨e,-⟩ <;> omega
 have hot2:c.ot s.base+c.wd<=2147483647:=by
  have:=h.cok.pw;rcases h.ot with⟨e,-⟩|⟨e,-⟩ <;> omega
 have J:∀L,BD s.u (s.rs g) s.u.n L->(∀o∈L,s.base<=o.1/\o.1+o.2<=s.top)/\s.base+sizes L<=s.top/\sizes L=g.words:=λL hM=>by
  have E:=h.img.inn h.gok hM;exact⟨E,NE hM.mkd.good E Xa.1,h.img.words h.gok hM⟩
 have Xe:OZ s.u (s.rs g) (C7 c s.base s.top (c.ot s.base)):=⟨Y,Xj.sound,λL hM=>by
  obtain⟨q1,q2,-⟩:=J L hM;refine⟨q1,?_⟩
  show c.ot s.base+sizes L<=c.ot s.base+c.wd
  omega⟩
 refine(Qj5 (hV.cut.gr gW) (h.com.rt.gr gW) (gW.tab l5 h.com.tab) (λhk=>hx.2.2.2.2 hk.1) (λhk=>hx.2.1 hk.1) (λhk=>hx.2.2.1 hk.1) Xe (λa a1 a2=>Z.ld a1 a2) (λa ha=>?_)).mono ?_
 ·obtain⟨x,Xg,rfl⟩:=ξt.1 ha;refine⟨ξ8 _,?_⟩
  have h1:g.Ro x:=by
   by_cases h0:x=0
   ·exact .inl h0
   ·exact .inr (Gph.Rd.root Xg h0)
  have:=h.adr h1;omega
 ·rintro e w2 ⟨L,hM,hT,N⟩;obtain⟨q1,q2,hw⟩:=J L hM;have V:=hv.pg
  have hE:A8 s.u (c.ot s.base:Nat) ((c.ot s.base+sizes L:Nat):Int)=0:=Z.needC (W:=c.wd) (by rw[V];exact h.cok.dv) Xa.2 Y.at_ Ω Ω (by
   rw[V,hv.rm];unfold HCf.fr
   rw[ϑ Ω,μ hk];exact ν _)
  rcases N with⟨Xd,-⟩|⟨-,rfl,v1,v2,k,kq,hD,Xf,Xh⟩
  ·exact absurd hE Xd
  ·obtain⟨k1,k2,k3,k4,k5⟩:=ShA.copied (c:=C7 c s.base s.top (c.ot s.base)) Z Y (by show c.ot s.base+sizes L<=c.ot s.base+c.wd;omega) hE hD;have I:=JW8 hV.ok hM (h.img.full h.gok hM) hD k5;have U:=h.img.moved h.gok I B (by show c.ot s.base+sizes L<=_;omega);have D:AR w2 s.A.r s.A.g ((g.S.map λx=>(s.F x:Int)).map (BP v1 (AQ v1 (s.rs g) k) (C7 c s.base s.top (c.ot s.base)).to)):=Xh;rw[h.img.roots I]at D;obtain⟨t2,O,Xb,G⟩:=h.ran hn (gW) hT Xf D;have Xi:((c.ot s.base+sizes L:Nat):Int)=((c.ot s.base+g.words:Nat):Int):=by rw[hw]
   refine⟨by rw[<-Xi];rfl,O.row,hT,λW2 gW2=>?_⟩;refine(XQQ (b:=c.ot s.base) (t:=c.ot s.base+g.words) (O.gr gW2) (Xb.gr gW2) (ζL _ _) Ω (by rw[k2];exact Xc) Ω (λk hk=>υ (G k hk).2 gW2.size)).mono ?_;rintro e w3 ⟨rfl,rn,hrn,t3,M⟩;have hz:=t2.size;have hz2:=gW2.size;rw[hw]at k1 U
   have hP:PZ w c g s {s.A with rn:=rn} (c.ot s.base) (c.ot s.base+g.words) _ _ _ w3:=⟨((t2.mono (λk _ hk=>hk.elim (λe=>.inr (.inr (.inl e))) .inl)).trans (gW2.touch _)).trans' t3 (λk _ e=>.inr (.inl e)),M,(Xb.gr gW2).touch t3 (λk hk _ e=>M.x.1 (e▸hk)),⟨k2.trans hv.n,k3.trans hv.pg,k4.trans hv.rm⟩,k1,U,λk hk=>(G k hk).1,⟨rfl,rfl,rfl,rfl⟩,.inr (by show w.heap.size<=rn;omega),by omega,by
    rcases h.ot with⟨e,-⟩|⟨e,-⟩
    ·exact .inr ⟨e,by omega⟩
    ·exact .inl e⟩
   exact⟨rfl,rn,M.row,hP.fin h rfl⟩
theorem HIn.pkd(h:HIn w c g s)(hn:s.o=none)(hk:c.kd=3):∀W,Gr w W->Calls prog 96 #[pP s.A.q,pP s.A.r,iI s.base,iI s.top,iI c.st] W λe w2=>
  e=.returned (.tuple #[iI ((s.base+g.words:Nat):Int),iI 0])/\Rec w2 s.A.hp 83 (hpL c s.A none s.cyc s.blk) ∧
   ∀W2,Gr w2 W2->Calls prog 99 #[pP s.A.rn,iI ((s.base+g.words:Nat):Int)] W2 λe w3=>e=.returned (iI 0) ∧
    Rec w3 s.A.hp 83 (hpL c s.A none s.cyc s.blk)/\JK w c g s (w3.setCell ⟨s.A.hp,12,none⟩ (.int .i64 (wrap64 (s.cyc+1)))):=λW gW=>by
 have hm:=h.mem;rw[hn]at hm;obtain⟨hV,hv,Z,hlf⟩:=hm;obtain⟨l1,l2,l3,l4,l5⟩:=h.com.lt;have hx:=h.com.x;have Xb:=h.bt;have hwd:=h.cok.wd;have hst:=h.cok.st;have U:=hv.pg;have hsb:=Z.bt;obtain⟨L0,Xi,hin0,hfl0,hle0,hw0,-⟩:=h.rch (n:=s.u.n) Ω;have hb:s.base=c.pg:=h.bs.elim id (λe=>absurd hk e.2);have hp1:=h.cok.pg1;have hpw:=h.cok.pw;have hnn:s.u.n=c.pg+c.wd:=by rw[hv.n];exact μ hk
 have M:s.u.pl.used<=s.u.pl.rm:=by
  have:=Z.used (W:=c.wd) (by rw[U];exact h.cok.dv) Xb.2;rw[U]at this;rw[hv.rm];unfold HCf.fr
  simp_all
 refine(JZL (hV.cut.gr gW) Ω (h.com.rt.gr gW) (gW.tab l5 h.com.tab) (λhk=>hx.2.2.2.2 hk.1) (λhk=>hx.2.1 hk.1) (λhk=>hx.2.2.1 hk.1) s.base s.top c.st).mono ?_;rintro e w2 ⟨hT,O⟩;rcases O with⟨ha,-⟩|⟨-,(⟨D,-⟩|⟨L,f,t,hI,hf,ht,Xc⟩)⟩
 ·rw[QR.2 ⟨by omega,by omega,by omega,by omega,by omega⟩]at ha;cases ha
 ·exact absurd (⟨Xi,λo ho=>by grind⟩:EX s.u (s.rs g) s.base s.top L0) (D L0)
 ·obtain rfl:f=s.base:=Ω
  obtain rfl:t=s.top:=Ω
  have hM:=hI.1;have Xd:=h.img.inn h.gok hM;have V:=NE hM.mkd.good Xd Xb.1;have hw:=h.img.words h.gok hM;have hE:=Z.needP V M;rcases Xc with⟨D,-⟩|⟨-,rfl,v1,v2,j,hD,B,Xf⟩
  ·omega
  ·have Xe:∃E,BQ s.u v1 E:=⟨_,hD.gr⟩;have Y:=h.img.grown hV.ok Xe Ω;have G:=YxV hV.ok hM hE Ω hD;obtain⟨k1,k2,k3,k4⟩:=Z.packed V hE hD;have J:=Y.moved h.gok G Ω Ω;have Xa:AR w2 s.A.r s.A.g ((g.S.map λx=>(s.F x:Int)).map (toV L s.base)):=Xf;rw[Y.roots G]at Xa;rw[hw]at k1 k2 k3 k4 J V B;obtain⟨t2,I,Xj,Xh⟩:=h.ran hn gW hT B Xa;refine⟨by rw[hw],I.row,λW2 gW2=>?_⟩;refine(W8 (I.gr gW2).rn (t:=s.base+g.words) (ζL _ _) Ω).mono ?_;rintro e w3 ⟨rfl,t3,Xg⟩;have N:=(I.gr gW2).turn t3 Xg;have hP:PZ w c g s s.A s.base (s.base+g.words) _ _ _ w3:=⟨((t2.mono (λk _ hk=>hk.elim (λe=>.inr (.inr (.inl e))) .inl)).trans (gW2.touch _)).trans' t3 (λk _ e=>.inr (.inr (.inr (.inr e)))),N,(Xj.gr gW2).touch t3 (λk hk _ e=>N.x.2.2.2.1 (e▸hk)),⟨k2.trans hv.n,k3.trans hv.pg,k4.trans hv.rm⟩,k1,J,λk hk=>(Xh k hk).1,⟨rfl,rfl,rfl,rfl⟩,.inl rfl,by omega,h.bs⟩;exact⟨rfl,N.row,hP.fin h rfl⟩
theorem QPI(h:HIn w c g s)(hn:s.o=none↔s.lf=0)(hk:c.kd=1):Calls prog 52 #[pP s.A.hp] w λe w'=>e=.returned (.tuple #[])/\JK w c g s w':=by
 have HN:=(G4 h);have HF:=(WV h hn);have V:=(λ(W:World) (s1:HSt) (h:HIn W c g s1) (hn:s1.o=none↔s1.lf=0)=>WV h hn);have HO:=(λ(W:World) (s1:HSt) (h:HIn W c g s1) (hn:s1.o=none)=>XD h hn hk);have c0:=h.cc 0;have cl:=h.com.row.lt;obtain⟨ap,hp⟩:∃ap,ap=s.A.hp:=⟨_,rfl⟩;have HP:=ι hp;rw[<-hp]at HN HF c0 cl⊢;rw[hk]at c0;clear h hn hk hp;go_enter func52,ntmps52;go_upto_region 1 with(go_at_call 41;refine AM (HN) ?_);go_upto_region 7 with(go_at_call 92;refine(HF).mono ?_;rintro e w1 ⟨rfl,s1,h1,h2,h3,h4⟩;have U:=h1;have J:=(HO _ _ h1.i (h1.o.2 h4));rw[h1.hp,<-HP.o]at J;clear h1 h2 h3);go_upto_region 8 with(go_at_call 72;refine(J).mono ?_;rintro e w2 ⟨rfl,s2,h1,h2,h3,h4⟩;have N:=(U.trans h1);have M:=h3;have Z:=(V _ _ h1.i h1.o);rw[h1.hp,U.hp,<-HP.o]at Z;clear h1 h2 h3);go_wp2_with(go_at_call 92;refine(Z).mono ?_;rintro e w3 ⟨rfl,s3,h1,h2,h3,h4⟩;have O:=(N.trans h1);have Y:=(θ h3 h4);clear h1 h2 h3);refine ζK (ζl rfl _ _ _) rfl ⟨rfl,s3,O,Y.2,?_⟩;rw[Y.1.top,Y.1.base];exact M
theorem ZAF(h:HIn w c g s)(hn:s.o=none)(hk:c.kd=3):Calls prog 52 #[pP s.A.hp] w λe w'=>e=.returned (.tuple #[])/\JK w c g s w':=by
 have HN:=(G4 h);have U:=(h.pkd hn hk);have HB:=(λ(W:World) (gg:Gr w W)=>OU (h.com.gr gg).rn);have HT:=(λ(W:World) (gg:Gr w W)=>UH (h.com.gr gg).rn);have HC:=(λ(W:World) (gg:Gr w W)=>(h.com.gr gg).row);have c0:=h.cc 0;have cl:=h.com.row.lt;simp only[hn]at HC;obtain⟨ap,hp⟩:∃ap,ap=s.A.hp:=⟨_,rfl⟩;rw[<-hp]at HN U HC c0 cl⊢;rw[hk]at c0;clear h hn hk hp;go_enter func52,ntmps52;go_upto_region 1 with(go_at_call 41;refine AM (HN) ?_);go_upto_region 2 with(fail);obtain⟨Sx,Y,HS⟩:=AA.start λW'=>Rec W' ap 83 (hpL c s.A none s.cyc s.blk);have y5:∀p:AA Sx,p.w.cell? ⟨ap,5,none⟩=some (iI c.st):=λp=>by have h:=AA.get Y p;exact h.cc 5
 have y8:∀p:AA Sx,p.w.cell? ⟨ap,8,none⟩=some (pP s.A.q):=λp=>by have h:=AA.get Y p;exact h.cc 8
 have y9:∀p:AA Sx,p.w.cell? ⟨ap,9,none⟩=some (pP s.A.r):=λp=>by have h:=AA.get Y p;exact h.cc 9
 have y10:∀p:AA Sx,p.w.cell? ⟨ap,10,none⟩=some (pP s.A.rn):=λp=>by have h:=AA.get Y p;exact h.cc 10
 have J:=HS.o _ (HC _ (Gr.refl w).drew);have inst:Inhabited (AA Sx):=⟨⟨_,J⟩⟩;clear Y;refine AW Sx 29 [([0,1,2,3,4,5,6,7,8,9,10,11,13,14,15,16,18,19,20,21,22],12),([],17),([],23)] [24,25,26,27,28] (by kernel_rfl) (by kernel_rfl) J ?_;refine AH ?_
 try simp only[AC,ζ,ξ]
 repeat(go_big_quiet_step (fail))
 refine ψ ?_;go_wp2_with((go_at_call 97;refine AM (HB _ (Gr.refl w).drew) ?_));refine⟨.inr (AA.of (HS.o _ (HC _ (Gr.refl w).drew))),?_⟩;refine AH ?_
 try simp only[AC,ζ,ξ]
 repeat(go_big_quiet_step (fail))
 refine ψ ?_;go_wp2_with((go_at_call 98;refine AM (HT _ (Gr.refl w).drew) ?_));refine⟨.inr (AA.of (HS.o _ (HC _ (Gr.refl w).drew))),?_⟩;refine AH ?_
 try simp only[AC,ζ,ξ]
 repeat(go_big_quiet_step (fail))
 refine ψ ?_;go_wp2_with((go_at_call 96;refine(U _ (Gr.refl w).drew).mono ?_;rintro e w2 ⟨rfl,hr,Z⟩;have V:=Z));refine⟨.inr (AA.of (HS.o _ (hr))),?_⟩;refine BO ?_
 try simp only[AC,ζ,ξ]
 repeat(go_big_quiet_step (fail))
 refine ψ ?_;refine ζb ?_;have z10:=hr.cc 10;have zl:=hr.lt;go_upto_region 14 with(go_at_call 99;refine(V _ (Gr.refl _)).mono ?_;rintro e w3 ⟨rfl,hr,Z⟩;have M:=Z);have z12:=hr.cc 12;have zf:=hr.free 12;have zl3:=hr.lt;go_wp2;exact ζy (ζl rfl _ _ _) rfl ⟨rfl,M⟩
theorem J1o(h:HIn w c g s)(hn:s.o=none)(hk:c.kd=2):Calls prog 52 #[pP s.A.hp] w λe w'=>e=.returned (.tuple #[])/\JK w c g s w':=by
 have HN:=(G4 h);have M:=ι (VZS h);have J:=ι (h.cpd hn hk);have HC:=(λ(W:World) (gg:Gr w W)=>(h.com.gr gg).row);have c0:=h.cc 0;have cl:=h.com.row.lt;have l3:=h.com.lt.2.2.1;simp only[hn]at HC;obtain⟨ap,hp⟩:∃ap,ap=s.A.hp:=⟨_,rfl⟩;rw[<-hp]at HN J M HC c0 cl⊢;rw[hk]at c0;obtain⟨d,hd⟩:∃d,d=c.ot s.base:=⟨_,rfl⟩;rw[<-hd]at M J;have N:Hid (Calls prog 93 #[pP ap] w λe w'=>e=.returned (.agg #[iI s.base,iI s.top,iI d,iI ((d+c.wd:Nat):Int),iI c.bk,iI c.st,iI c.ah])/\Gr w w'):=M
 have D:Hid (∀W,Gr w W->Calls prog 94 #[pP s.A.q,pP s.A.r,.agg #[iI s.base,iI s.top,iI d,iI ((d+c.wd:Nat):Int),iI c.bk,iI c.st,iI c.ah]] W λe w2=>
  e=.returned (.tuple #[iI ((d+g.words:Nat):Int),iI 0])/\Rec w2 ap 83 (hpL c s.A none s.cyc s.blk)/\AB (λk=>k=s.A.g\/AE s.X w k) W w2 ∧
   ∀W2,Gr w2 W2->Calls prog 95 #[pP ap,iI d,iI ((d+g.words:Nat):Int)] W2 λe w3=>e=.returned (.tuple #[]) ∧
    ∃r,Rec w3 ap 83 (hpL c {s.A with rn:=r} none s.cyc s.blk)/\JK w c g s (w3.setCell ⟨ap,12,none⟩ (.int .i64 (wrap64 (s.cyc+1))))):=J
 clear h hn hk hp hd;go_enter func52,ntmps52;go_upto_region 1 with(go_at_call 41;refine AM (HN) ?_);go_upto_region 11 with(go_at_call 93;refine(N.o).mono ?_;rintro e w1 ⟨rfl,G⟩;have U:=G;clear G);have Xf:=(Gr.refl w1).alloc (.cells #[.int .i64 s.base,.int .i64 s.top,.int .i64 d,.int .i64 ((d+c.wd:Nat):Int),.int .i64 c.bk,.int .i64 c.st,.int .i64 c.ah] 143);have L:=(Rec.new w1 143 [iI s.base,iI s.top,iI d,iI ((d+c.wd:Nat):Int),iI c.bk,iI c.st,iI c.ah]);have I:=(U.trans Xf).drew;obtain⟨Sx,Y,HS⟩:=AA.start λW'=>(Rec W' ap 83 (hpL c s.A none s.cyc s.blk)/\Rec W' w1.heap.size 143 [iI s.base,iI s.top,iI d,iI ((d+c.wd:Nat):Int),iI c.bk,iI c.st,iI c.ah])
 have y8:∀p:AA Sx,p.w.cell? ⟨ap,8,none⟩=some (pP s.A.q):=λp=>by have h:=AA.get Y p;exact h.1.cell (j:=8) rfl
 have y9:∀p:AA Sx,p.w.cell? ⟨ap,9,none⟩=some (pP s.A.r):=λp=>by have h:=AA.get Y p;exact h.1.cell (j:=9) rfl
 have Xi:∀p:AA Sx,p.w.cell? ⟨w1.heap.size,0,none⟩=some (iI s.base):=λp=>by have h:=AA.get Y p;exact h.2.cell (j:=0) rfl
 have Xe:∀p:AA Sx,p.w.cell? ⟨w1.heap.size,1,none⟩=some (iI s.top):=λp=>by have h:=AA.get Y p;exact h.2.cell (j:=1) rfl
 have Xc:∀p:AA Sx,p.w.cell? ⟨w1.heap.size,2,none⟩=some (iI d):=λp=>by have h:=AA.get Y p;exact h.2.cell (j:=2) rfl
 have Xa:∀p:AA Sx,p.w.cell? ⟨w1.heap.size,3,none⟩=some (iI ((d+c.wd:Nat):Int)):=λp=>by have h:=AA.get Y p;exact h.2.cell (j:=3) rfl
 have Xh:∀p:AA Sx,p.w.cell? ⟨w1.heap.size,4,none⟩=some (iI c.bk):=λp=>by have h:=AA.get Y p;exact h.2.cell (j:=4) rfl
 have Xd:∀p:AA Sx,p.w.cell? ⟨w1.heap.size,5,none⟩=some (iI c.st):=λp=>by have h:=AA.get Y p;exact h.2.cell (j:=5) rfl
 have Xb:∀p:AA Sx,p.w.cell? ⟨w1.heap.size,6,none⟩=some (iI c.ah):=λp=>by have h:=AA.get Y p;exact h.2.cell (j:=6) rfl
 have V:=HS.o _ (⟨HC _ I,L.gr (Gr.refl _).drew⟩);have E:Inhabited (AA Sx):=⟨⟨_,V⟩⟩;clear Y;refine AW Sx 15 [([0,1,2,3,4,5,6,7,8],9)] [10,11,12,13,14] (by kernel_rfl) (by kernel_rfl) V ?_;refine AH ?_
 try simp only[AC,ζ,ξ]
 repeat(go_big_quiet_step (fail))
 refine ψ ?_;go_wp2_with((go_at_call 94;refine(D.o _ I).mono ?_;rintro e w2 ⟨rfl,hr,ht,Z⟩;have Xg:=Z;have O:=((L.gr (Gr.refl _).drew).touch ht (λhk=>hk.elim (λe=>by have:=l3;have:=U.size;omega) (λhk=>by have:=hk.2;have:=U.size;omega)));clear Z ht));refine⟨.inr (AA.of (HS.o _ (⟨hr,O⟩))),?_⟩;refine BO ?_
 try simp only[AC,ζ,ξ]
 repeat(go_big_quiet_step (fail))
 refine ψ ?_;refine ζb ?_;clear y8 y9 Xi Xe Xc Xa Xh Xd Xb V E;clear HS Sx;have zc2:=O.cc 2;go_upto_region 14 with(go_at_call 95;refine(Xg _ (Gr.refl _)).mono ?_;rintro e w3 ⟨rfl,r,hr,Z⟩;have B:=Z;clear Z);have z12:=hr.cc 12;have zf:=hr.free 12;have zl3:=hr.lt;go_wp2;exact ζy (ζl rfl _ _ _) rfl ⟨rfl,B⟩
theorem Vn4(h:HIn w c g s)(hn:s.o=none↔s.lf=0):Calls prog 52 #[pP s.A.hp] w λe w'=>e=.returned (.tuple #[])/\JK w c g s w':=by
 by_cases h1:c.kd=1
 ·grind [QPI]
 ·have ho:s.o=none:=by
   have hm:=h.mem;cases ho:s.o with
   | none=>rfl
   | some y=>
    rw[ho]at hm;obtain⟨z,sl,v,R,Sv,Y,-⟩:=hm;exact absurd Y.kd h1
  by_cases h2:c.kd=2
  ·grind [J1o]
  ·exact ZAF h ho (by have:=h.cok.kd;omega)
theorem HCf.q_in(hbk:BG c.bk=true)(hah:c.ah<=16):1<=c.q/\c.q<=1024/\c.spare<=18*1027:=by
 have hb:=DA hbk;have h1:c.bk/c.pg<=c.bk:=ζ1 _ _;have hq:1<=c.q/\c.q<=1024:=by unfold HCf.q;omega
 refine⟨hq.1,hq.2,?_⟩;exact ψq Ω Ω
theorem HCf.Ok.q(h:c.Ok):1<=c.q/\c.q<=1024/\c.spare<=18*1027:=HCf.q_in h.bk h.ah
theorem Yny(hbk:BG c.bk=true)(hp:1<=c.pg)(hah:c.ah<=16)(w:World):Calls prog 78 #[GS c] w λe w'=>e=.returned (iI c.spare)/\Gr w w':=by
 obtain⟨Z,U,V⟩:=HCf.q_in hbk hah;have hmax:=M9 prog;have q1:((c.bk:Int).tdiv (c.pg:Int))=((c.bk/c.pg:Nat):Int):=rfl;have hm:max ((c.bk/c.pg:Nat):Int) 1=(c.q:Int):=by unfold HCf.q;omega
 have Y:((c.ah:Int)+2)*((c.q:Int)+3)=(c.spare:Int):=by exact_mod_cast rfl
 have J:c.bk/c.pg<=c.bk:=ζ1 _ _;generalize c.spare=sp at V Y Y⊢;generalize c.q=qq at Z U hm Y Y;generalize c.bk/c.pg=dd at q1 hm J;unfold GS G0 at *
 go_enter func78,ntmps78;go_upto_region 1 with(fail);go_quiet (fail);go_wp2;go_ret;exact⟨rfl,((Gr.refl w).alloc _).drewN _⟩
theorem GQ.gr{base top:Nat}{y:Nat}{z:BZ}{sl:Sl}{R Sv:Nat->Prop}(h:GQ w X A c base top u y z sl v R Sv)(g:Gr w w'):GQ w' X A c base top u y z sl v R Sv:=by
 have t:=g.touch (λ_=>False);exact⟨h.cy.touch t (λ_ _ h=>h),h.vm.touch t (λ_ _ _ h=>h),h.hv,h.ok,h.a,h.x,h.d,t.tab h.tab.lt (λh=>h) h.tab,h.t1,h.t2,h.bs,h.lm,h.bk,h.ah,h.kd⟩
def G3(w:World)(c:HCf)(s:HSt)(n:Nat):Prop:=∀y,s.o=some y->∃z sl v R Sv,GQ w s.X s.A c s.base s.top s.u y z sl v R Sv/\sl.lf=s.lf/\sl.mv.length=s.nb/\v.pl.used+(n/c.pg+2+c.spare)<=v.pl.rm
def VQ6(w:World)(c:HCf)(g:Gph)(s:HSt)(n:Nat)(w':World):Prop:=∃s',BA w c s g s' w'/\DK s s'/\HKp s s'/\G3 w' c s' n
theorem V0L(h:HIn w c g s)(hn:s.o=none↔s.lf=0)(hn2:n<=256):Calls prog 107 #[pP s.A.hp,iI n] w λe w'=>e=.returned (.tuple #[])/\VQ6 w c g s n w':=by
 have H0:Hid (BA w c s g s w/\DK s s/\HKp s s):=⟨BA.refl h hn,DK.same s,HKp.refl s⟩;have c1:=h.cc 1;have cl:=h.com.row.lt;have I:=h.cok;have Xp:=I.pg1;obtain⟨-,-,Xl⟩:=I.q;have Xb:=(λ(W:World)=>Yny I.bk Xp I.ah W);obtain⟨ap,hp⟩:∃ap,ap=s.A.hp:=⟨_,rfl⟩;have HP:=ι hp;rw[<-hp]at c1 cl⊢;have q1:((n:Int).tdiv (c.pg:Int))=((n/c.pg:Nat):Int):=rfl;have Xo:n/c.pg<=n:=ζ1 _ _;obtain⟨k,hk⟩:∃k,k=n/c.pg:=⟨_,rfl⟩;have HK:=ι hk;rw[<-hk]at q1 Xo;obtain⟨sp,E⟩:∃sp,sp=c.spare:=⟨_,rfl⟩;have Xm:=ι E;rw[<-E]at Xl Xb;clear h hn hp hk I E;unfold GS G0 at Xb;go_enter func107,ntmps107;go_wp2;clear c1
 go_loopw [] (λwr=>∃s',Hid (BA w c s g s' wr/\DK s s'/\HKp s s')) (λwr=>QF wr ap)
 case atStart=>exact⟨s,H0⟩
 case round=>
  obtain⟨s',HR⟩:=hrel;have D:ap=s'.A.hp:=HP.o.trans HR.o.1.hp.symm;have Xi:=ι D;have Z:=HR.o.1.i.com.row;rw[<-D]at Z;cases ho:s'.o with
  | none=>
   rw[ho]at Z;have HC:=(λ(W:World) (gg:Gr wr W)=>Z.gr gg);clear Z D H0;go_upto_region 1 with(fail);obtain⟨Sx,Y,HS⟩:=AA.start λW'=>Rec W' ap 83 (hpL c s'.A none s'.cyc s'.blk);have Xa:∀p:AA Sx,p.w.cell? ⟨ap,11,none⟩=some (.pointer none):=λp=>by have h:=AA.get Y p;exact h.cc 11
   have J:=HS.o _ (HC _ (Gr.refl wr).drew);have U:Inhabited (AA Sx):=⟨⟨_,J⟩⟩;clear Y;refine AW Sx 30 [([0,1,2,3,4,5,6,7,8,9,11,12,13,14,17,18,19,20,21],10),([],15),([16],22),([23,24,25,26,27],28)] [29] (by kernel_rfl) (by kernel_rfl) J ?_;refine AH ?_
   try simp only[AC,ζ,ξ]
   repeat(go_big_quiet_step (fail))
   refine ψ ?_;go_wp2_with(fail);refine⟨.inr (AA.of (HS.o _ (HC _ (Gr.refl wr).drew))),?_⟩;refine AH ?_
   try simp only[AC,ζ,ξ]
   repeat(go_big_quiet_step (fail))
   refine ψ ?_;go_wp2_with(fail);refine⟨.inr (AA.of (HS.o _ (HC _ (Gr.refl wr).drew))),?_⟩;refine AH ?_
   try simp only[AC,ζ,ξ]
   repeat(go_big_quiet_step (fail))
   refine ψ ?_;go_wp2_with(fail);refine⟨.inr (AA.of (HS.o _ (HC _ (Gr.refl wr).drew))),?_⟩;refine AH ?_
   try simp only[AC,ζ,ξ]
   repeat(go_big_quiet_step (fail))
   refine ψ ?_;go_wp2_with(fail);refine⟨.inr (AA.of (HS.o _ (HC _ (Gr.refl wr).drew))),?_⟩;refine BO ?_
   try simp only[AC,ζ,ξ]
   repeat(go_big_quiet_step (fail))
   refine ψ ?_;refine ζb ?_;clear Xa J U;clear HS Sx;go_wp2;refine ζy (ζl rfl _ _ _) rfl ?_;exact⟨rfl,s',HR.o.1.gr (Gr.refl wr).drew,HR.o.2.1,HR.o.2.2,λy hy=>by rw[ho]at hy;cases hy⟩
  | some y=>
   have hm:=HR.o.1.i.mem;rw[ho]at hm;obtain⟨z,sl,v,R,Sv,M,e1,e2⟩:=hm;have Xf:=(λ(W:World) (gg:Gr wr W)=>JXO (M.vm.gr gg));have Xe:=(λ(W:World) (gg:Gr wr W)=>XOa (M.vm.gr gg));have Xj:v.pl.rm<=4096:=by rw[M.hv.rm];exact HR.o.1.i.cok.fr
   have Xk:=M.a.room M.ok;have hl:s'.lf≠0:=λe=>by rw[HR.o.1.o.2 e]at ho;cases ho
   have Xc:=(λ(W:World) (gg:Gr wr W)=>YFI (HR.o.1.i.gr gg) HR.o.1.o hl);have G:=(θ M (θ e1 e2));rw[ho]at Z;rw[<-D]at Xc;have HC:=(λ(W:World) (gg:Gr wr W)=>Z.gr gg);have Xh:v.pl.used<=v.pl.rm:=Ω
   obtain⟨rm,O⟩:∃rm,rm=v.pl.rm:=⟨_,rfl⟩;obtain⟨us,L⟩:∃us,us=v.pl.used:=⟨_,rfl⟩;have Xg:=ι (θ O L);rw[<-O]at Xf Xj Xh;rw[<-L]at Xe Xh;clear Z D H0 M e1 e2 Xk hl O L;by_cases Xd:rm<us+(k+2+sp)
   ·have d0:decide ((rm:Int)-(us:Int)<(k:Int)+2+(sp:Int))=true:=κ Ω;clear Xd;go_upto_region 1 with(fail);obtain⟨Sx,Y,HS⟩:=AA.start λW'=>Rec W' ap 83 (hpL c s'.A (some y) s'.cyc s'.blk);have y0:∀p:AA Sx,p.w.cell? ⟨ap,0,none⟩=some (iI c.kd):=λp=>by have h:=AA.get Y p;exact h.cc 0
    have y1:∀p:AA Sx,p.w.cell? ⟨ap,1,none⟩=some (iI c.pg):=λp=>by have h:=AA.get Y p;exact h.cc 1
    have y2:∀p:AA Sx,p.w.cell? ⟨ap,2,none⟩=some (iI c.bk):=λp=>by have h:=AA.get Y p;exact h.cc 2
    have y3:∀p:AA Sx,p.w.cell? ⟨ap,3,none⟩=some (iI c.wd):=λp=>by have h:=AA.get Y p;exact h.cc 3
    have y4:∀p:AA Sx,p.w.cell? ⟨ap,4,none⟩=some (iI c.sl):=λp=>by have h:=AA.get Y p;exact h.cc 4
    have y5:∀p:AA Sx,p.w.cell? ⟨ap,5,none⟩=some (iI c.st):=λp=>by have h:=AA.get Y p;exact h.cc 5
    have y6:∀p:AA Sx,p.w.cell? ⟨ap,6,none⟩=some (iI c.ah):=λp=>by have h:=AA.get Y p;exact h.cc 6
    have y7:∀p:AA Sx,p.w.cell? ⟨ap,7,none⟩=some (.float .f64 c.tr):=λp=>by have h:=AA.get Y p;exact h.cc 7
    have y8:∀p:AA Sx,p.w.cell? ⟨ap,8,none⟩=some (pP s'.A.q):=λp=>by have h:=AA.get Y p;exact h.cc 8
    have Xa:∀p:AA Sx,p.w.cell? ⟨ap,11,none⟩=some (pP y):=λp=>by have h:=AA.get Y p;exact h.cc 11
    have J:=HS.o _ (HC _ (Gr.refl wr).drew);have U:Inhabited (AA Sx):=⟨⟨_,J⟩⟩;clear Y;refine X8 Sx 28 [([0,1,2,3,4,5,6,7,8,9,11,12,13,14,17,18,19,20,21],10),([],15),([16],22),([23,24,25,26,27],28),([],29)] [] (by kernel_rfl) (by kernel_rfl) J ?_;refine G5 ?_
    try simp only[AC,ζ,ξ]
    repeat(go_big_quiet_step (fail))
    refine ψ ?_;go_wp2_with((go_at_call 151;refine AM (Xf _ (Gr.refl wr).drew) ?_));refine⟨.inr (AA.of (HS.o _ (HC _ (Gr.refl wr).drew))),?_⟩;refine G5 ?_
    try simp only[AC,ζ,ξ]
    repeat(go_big_quiet_step (fail))
    refine ψ ?_;go_wp2_with((go_at_call 152;refine AM (Xe _ (Gr.refl wr).drew) ?_));refine⟨.inr (AA.of (HS.o _ (HC _ (Gr.refl wr).drew))),?_⟩;refine G5 ?_
    try simp only[AC,ζ,ξ]
    repeat(go_big_quiet_step (fail))
    refine ψ ?_;go_wp2_with((go_at_call 78;refine(Xb _).mono ?_;rintro e w1 ⟨rfl,B⟩;have V:=((Gr.refl wr).drew.trans B);clear B));refine⟨.inr (AA.of (HS.o _ (HC _ V))),?_⟩;refine G5 ?_
    try simp only[AC,ζ,ξ]
    repeat(go_big_quiet_step (fail))
    refine ψ ?_;go_wp2_with((go_at_call 15;refine(Xc _ V).mono ?_;rintro e w2 ⟨rfl,s2,h1,h2,h3,h4⟩;have N:=(θ h1 (θ h2 (θ h3 h4)));clear h1 h2 h3 h4));refine⟨.inl (by first|exact trivial|decide),?_⟩;refine G5 ?_
    try simp only[AC,ζ,ξ]
    repeat(go_big_quiet_step (fail))
    refine ψ ?_;go_wp2_with(fail);refine⟨.inl (by first|exact trivial|decide),?_⟩;refine YqX ?_;refine ZG ?_;clear y0 y1 y2 y3 y4 y5 y6 y7 y8 Xa J U;clear HS Sx;go_wp2;go_round
    case rel=>exact⟨s2,⟨(HR.o.1.gr V).trans N.1,HR.o.2.1.trans N.2.1,HR.o.2.2.trans N.2.2.1⟩⟩
    case measure=>
     have e1:=N.1.i.left;have e2:=HR.o.1.i.left;rw[N.1.hp,<-Xi.o]at e1;rw[<-Xi.o]at e2;have:=N.2.2.2;omega
   ·have d0:decide ((rm:Int)-(us:Int)<(k:Int)+2+(sp:Int))=false:=φ Ω;have Xn:=Xd;clear Xd;go_upto_region 1 with(fail);obtain⟨Sx,Y,HS⟩:=AA.start λW'=>Rec W' ap 83 (hpL c s'.A (some y) s'.cyc s'.blk);have y0:∀p:AA Sx,p.w.cell? ⟨ap,0,none⟩=some (iI c.kd):=λp=>by have h:=AA.get Y p;exact h.cc 0
    have y1:∀p:AA Sx,p.w.cell? ⟨ap,1,none⟩=some (iI c.pg):=λp=>by have h:=AA.get Y p;exact h.cc 1
    have y2:∀p:AA Sx,p.w.cell? ⟨ap,2,none⟩=some (iI c.bk):=λp=>by have h:=AA.get Y p;exact h.cc 2
    have y3:∀p:AA Sx,p.w.cell? ⟨ap,3,none⟩=some (iI c.wd):=λp=>by have h:=AA.get Y p;exact h.cc 3
    have y4:∀p:AA Sx,p.w.cell? ⟨ap,4,none⟩=some (iI c.sl):=λp=>by have h:=AA.get Y p;exact h.cc 4
    have y5:∀p:AA Sx,p.w.cell? ⟨ap,5,none⟩=some (iI c.st):=λp=>by have h:=AA.get Y p;exact h.cc 5
    have y6:∀p:AA Sx,p.w.cell? ⟨ap,6,none⟩=some (iI c.ah):=λp=>by have h:=AA.get Y p;exact h.cc 6
    have y7:∀p:AA Sx,p.w.cell? ⟨ap,7,none⟩=some (.float .f64 c.tr):=λp=>by have h:=AA.get Y p;exact h.cc 7
    have y8:∀p:AA Sx,p.w.cell? ⟨ap,8,none⟩=some (pP s'.A.q):=λp=>by have h:=AA.get Y p;exact h.cc 8
    have Xa:∀p:AA Sx,p.w.cell? ⟨ap,11,none⟩=some (pP y):=λp=>by have h:=AA.get Y p;exact h.cc 11
    have J:=HS.o _ (HC _ (Gr.refl wr).drew);have U:Inhabited (AA Sx):=⟨⟨_,J⟩⟩;clear Y;refine X8 Sx 28 [([0,1,2,3,4,5,6,7,8,9,11,12,13,14,17,18,19,20,21],10),([],15),([16],22),([23,24,25,26,27],28),([],29)] [] (by kernel_rfl) (by kernel_rfl) J ?_;refine G5 ?_
    try simp only[AC,ζ,ξ]
    repeat(go_big_quiet_step (fail))
    refine ψ ?_;go_wp2_with((go_at_call 151;refine AM (Xf _ (Gr.refl wr).drew) ?_));refine⟨.inr (AA.of (HS.o _ (HC _ (Gr.refl wr).drew))),?_⟩;refine G5 ?_
    try simp only[AC,ζ,ξ]
    repeat(go_big_quiet_step (fail))
    refine ψ ?_;go_wp2_with((go_at_call 152;refine AM (Xe _ (Gr.refl wr).drew) ?_));refine⟨.inr (AA.of (HS.o _ (HC _ (Gr.refl wr).drew))),?_⟩;refine G5 ?_
    try simp only[AC,ζ,ξ]
    repeat(go_big_quiet_step (fail))
    refine ψ ?_;go_wp2_with((go_at_call 78;refine(Xb _).mono ?_;rintro e w1 ⟨rfl,B⟩;have V:=((Gr.refl wr).drew.trans B);clear B));refine⟨.inr (AA.of (HS.o _ (HC _ V))),?_⟩;refine G5 ?_
    try simp only[AC,ζ,ξ]
    repeat(go_big_quiet_step (fail))
    refine ψ ?_;go_wp2_with(fail);refine⟨.inl (by first|exact trivial|decide),?_⟩;refine G5 ?_
    try simp only[AC,ζ,ξ]
    repeat(go_big_quiet_step (fail))
    refine ψ ?_;go_wp2_with(fail);refine⟨.inl (by first|exact trivial|decide),?_⟩;refine YqX ?_;refine ZG ?_;clear y0 y1 y2 y3 y4 y5 y6 y7 y8 Xa J U;clear HS Sx;go_wp2;refine ζy (ζl rfl _ _ _) rfl ?_;refine⟨rfl,s',HR.o.1.gr V,HR.o.2.1,HR.o.2.2,λy' hy=>?_⟩;obtain rfl:y'=y:=by rw[ho]at hy;exact(Option.some.inj hy).symm
    refine⟨z,sl,v,R,Sv,G.1.gr V,G.2.1,G.2.2,?_⟩;rw[<-HK.o,<-Xm.o,<-Xg.o.1,<-Xg.o.2];have:=Xn;omega
section
variable{base top:Nat}{o:Option Nat}{lf nb:Nat}
def LY(w:World)(X:Nat->Prop)(A:HAd)(c:HCf)(base top:Nat)(u:Vm)(n:Nat):Option Nat->Nat->Nat->Prop
 | none,lf,_=>∃v1,AD w X A.q v1/\HVm c u/\ShA base top u/\BQ u v1 (BN u top ((top+n:Nat):Int))/\A8 u top ((top+n:Nat):Int)=0/\top+n<=u.n/\lf=0
 | some y,lf,nb=>∃z sl v R Sv v1,(Cyc w R y A.q z sl/\AD w Sv A.q v1/\HVm c v/\BL sl v/\HpA top u sl v/\(∀k,R k\/Sv k->X k)/\(∀k,R k->¬Sv k)/\AP w/\¬R 1/\¬Sv 1 ∧
   sl.cf.to=base/\sl.cf.lm=base+c.wd/\sl.cf.bk=c.bk/\sl.cf.ah=c.ah/\c.kd=1)/\sl.lf=lf/\sl.mv.length=nb/\BQ v v1 (BN v top ((top+n:Nat):Int))/\A8 v top ((top+n:Nat):Int)=0/\v.pl.used+(n/c.pg+2+c.spare)<=v.pl.rm/\top+n<=base+c.wd
theorem HVm.of(h:HVm c v)(h1:v'.n=v.n)(h2:v'.pl.pg=v.pl.pg)(h3:v'.pl.rm=v.pl.rm):HVm c v':=⟨h1.trans h.n,h2.trans h.pg,h3.trans h.rm⟩
theorem LY.made(h:LY w X A c base top u n o lf nb)(h0:0<top)(hs:p+f+k<=255)(hn:n=1+p+f+k):∃v1 Sv,AD w Sv A.q v1/\(∀k,Sv k->X k)/\ER v1 top ⟨p,f,k⟩=0 ∧
  ∃u',(∀w2,AB Sv w w2->AD w2 (plus Sv w) A.q (mkVm v1 top ⟨p,f,k⟩)->EJ w2 (plus X w) A c base (top+n) u' o lf nb) ∧
   (∀a:Nat,a<top->u.ldE a=0->u'.ldE a=0/\u'.ldV a=u.ldV a)/\(∀a:Nat,top<=a->a<top+n->u'.ldE a=0)/\u'.ldV top=C4 p f k/\∀i:Nat,i<p+f+k->u'.ldV ((top+1+i:Nat):Int)=0:=by
 match o,h with
 | none,⟨v1,hV,hv,hsh,hG,hE,hle,e0⟩=>
  obtain⟨m1,m2,m3,m4,m5,m6⟩:=hsh.alloc hs hn h0 hle hE hG;refine⟨v1,X,hV,λ_ h=>h,m1,mkVm v1 top ⟨p,f,k⟩,λw2 t hV2=>⟨hV2,hv.of (m3.sm.n.trans hG.n) (m3.sm.pg.trans hG.pg) (m3.sm.rm.trans hG.rm),m2,e0⟩,λa a1 a2=>⟨?_,m4 a a1⟩,λa a1 a2=>m2.ld (by have:=hsh.bt;omega) a2,m5,m6⟩;rw[m3.sm.ldE,hG.ldE hsh.ok Ω]
  split
  ·rfl
  ·exact a2
 | some y,⟨z,sl,v,R,Sv,v1,⟨hcy,hV,hv,hok,hA,hX,hd,hT,t1,t2,b1,b2,b3,b4,hk⟩,e1,e2,hG,hE,hrm,hfit⟩=>
  have hq:sl.q=c.q:=by
   show max 1 (sl.cf.bk/sl.pg)=max 1 (c.bk/c.pg)
   rw[b3,<-hok.mid.pg,hv.pg]
  have V:sl.pg=c.pg:=by rw[<-hok.mid.pg];exact hv.pg
  obtain⟨m1,m2,u',m3,m4,m5,m6⟩:=hA.alloc hok hs hn (by rw[b2];exact hfit) hE hG (by rw[V,b4,hq];exact hrm);have U:=hok.st;have hln:=U.cf.ln
  have J:(mkVm v1 top ⟨p,f,k⟩).n=v.n/\(mkVm v1 top ⟨p,f,k⟩).pl.pg=v.pl.pg/\(mkVm v1 top ⟨p,f,k⟩).pl.rm=v.pl.rm:=by
   have Y:DR v1 (mkVm v1 top ⟨p,f,k⟩):=(DR.refl hG.ok).mkVm _ _;exact⟨Y.sm.n.trans hG.n,Y.sm.pg.trans hG.pg,Y.sm.rm.trans hG.rm⟩
  refine⟨v1,Sv,hV,λk hk=>hX k (.inr hk),m1,u',λw2 t hV2=>⟨z,sl,mkVm v1 top ⟨p,f,k⟩,R,plus Sv w,⟨hcy.touch t (λk hk Z=>hd k hk Z),hV2,hv.of J.1 J.2.1 J.2.2,m2,m3,λk hk=>?_,λk hk Z=>?_,t.tab hT.lt t2 hT,t1,λhk=>hk.elim t2 (λhk=>by have:=hT.lt;omega),b1,b2,b3,b4,hk⟩,e1,e2⟩,λa a1 a2=>⟨m3.un a Ω,m4 a a1⟩,λa a1 a2=>m3.un a Ω,m5,m6⟩
  ·rcases hk with hk|hk|hk
   ·exact .inl (hX k (.inl hk))
   ·exact .inl (hX k (.inr hk))
   ·exact .inr hk
  ·rcases Z with Z|Z
   ·exact hd k hk Z
   ·have:=hcy.od.lt k hk;omega
theorem LY.gr(h:LY w X A c base top u n o lf nb)(g:Gr w w'):LY w' X A c base top u n o lf nb:=by
 match o,h with
 | none,⟨v1,hV,hr⟩=>exact⟨v1,hV.gr g,hr⟩
 | some y,⟨z,sl,v,R,Sv,v1,⟨hcy,hV,hv,hok,hA,hX,hd,hT,hr⟩,hr2⟩=>exact⟨z,sl,v,R,Sv,v1,⟨hcy.gr g,hV.gr g,hv,hok,hA,hX,hd,g.tab hT.lt hT,hr⟩,hr2⟩
structure HAl(w:World)(c:HCf)(g:Gph)(s:HSt)(n:Nat)(w1:World):Prop where
 t:AB (λk=>k=s.A.rn\/s.X k) w w1
 com:CB w1 (plus s.X w) s.A c s.base (s.top+n) (s.rs g) s.o s.cyc s.blk
 gw:LY w1 (plus s.X w) s.A c s.base s.top s.u n s.o s.lf s.nb
 fit:s.top+n<=s.base+c.wd
theorem HAl.gr(h:HAl w c g s n w1)(gr:Gr w1 w2):HAl w c g s n w2:=⟨h.t.trans (gr.touch _),h.com.gr gr,h.gw.gr gr,h.fit⟩
theorem HIn.bal(h:HIn w c g s)(hr:G3 w c s n)(hn1:1<=n)(hn2:n<=256):Calls prog 108 #[pP s.A.rn,iI n] w λe w1=>
  (s.base+c.wd<s.top+n/\e=.returned (.tuple #[iI 0,iI 21])/\Gr w w1)\/(s.top+n<=s.base+c.wd/\e=.returned (.tuple #[iI s.top,iI 0])/\HAl w c g s n w1):=by
 have hx:=h.com.x;have D:=h.bt;have U:=h.cok;have Xe:=h.com.lt
 have hcn:s.base+c.wd<=c.n:=by
  unfold HCf.n;rcases h.bs with e|⟨e,e3⟩
  ·split <;> omega
  ·rw[ϑ e3];omega
 have L:c.wd/c.pg<=c.fr:=by
  unfold HCf.fr
  split
  ·omega
  ·split <;> omega
 have N:∀{S:Nat->Prop} {w1:World},(∀k,S k->s.X k)->AB (λk=>k=s.A.rn\/S k) w w1->EW w1 s.A.rn s.A.q s.base (s.top+n) (s.base+c.wd)->CB w1 (plus s.X w) s.A c s.base (s.top+n) (s.rs g) s.o s.cyc s.blk:=λ{S w1} hS t J=>by
  obtain⟨l1,l2,l3,l4,l5⟩:=Xe;have k:=h.com;have M:∀k,¬s.X k->¬S k:=λk hk hs=>hk (hS k hs);have Z:∀k,k<w.heap.size->¬s.X k->¬plus s.X w k:=λk hk hn hp=>hp.elim hn (λe=>by omega);exact⟨k.row.touch t (λe=>e.elim k.n1.2.2.1 (M _ hx.1)),J,k.rt.touch t (λe=>e.elim k.n2.2.1 (M _ hx.2.1)) (λe=>e.elim k.n3.1 (M _ hx.2.2.1)),t.tab l5 (λe=>e.elim (λe=>k.n3.2.2 e.symm) (M _ hx.2.2.2.2)) k.tab,k.n1,k.n2,k.n3,Z _ l1 hx.1,Z _ l2 hx.2.1,Z _ l3 hx.2.2.1,Z _ l4 hx.2.2.2.1,Z _ l5 hx.2.2.2.2⟩
 cases ho:s.o with
 | none=>
  have hm:=h.mem;rw[ho]at hm;obtain⟨hV,hv,I,Xc⟩:=hm;have B:s.u.n=c.n:=hv.n;refine(Xej h.com.rn hV hx.2.2.2.1 hn1 D.2 Ω (λhle=>I.need (W:=c.wd) hn1 (by rw[hv.pg];exact U.dv) hle Ω (by rw[hv.pg,hv.rm];exact L))).mono ?_;rintro e w1 (⟨h1,rfl,h3⟩|⟨h1,rfl,t,⟨v1,hG,O⟩,J⟩)
  ·exact .inl ⟨h1,rfl,h3⟩
  ·refine .inr ⟨h1,rfl,t,N (λ_ h=>h) t J,?_,h1⟩;rw[ho];exact⟨v1,O,hv,I,hG,I.need (W:=c.wd) hn1 (by rw[hv.pg];exact U.dv) h1 Ω (by rw[hv.pg,hv.rm];exact L),by omega,Xc⟩
 | some y=>
  obtain⟨z,sl,v,R,Sv,Y,e1,e2,Xb⟩:=hr y ho;have B:v.n=c.n:=Y.hv.n
  have hE:s.top+n<=s.base+c.wd->A8 v s.top ((s.top+n:Nat):Int)=0:=λhle=>by
   have Xd:=Y.hv.pg;have hp1:=U.pg1
   have hb:CT v s.top ((s.top+n:Nat):Int)<=n/c.pg+2:=by
    unfold CT;rw[show ((s.top+n:Nat):Int)-1=((s.top+n-1:Nat):Int)by omega,Xd,show ((s.top+n-1:Nat):Int)/(c.pg:Int)=(((s.top+n-1)/c.pg:Nat):Int)from rfl,show ((s.top:Nat):Int)/(c.pg:Int)=((s.top/c.pg:Nat):Int)from rfl]
    have h1:(s.top+n-1)/c.pg<=s.top/c.pg+n/c.pg+1:=by
     have q1:=ζv s.top c.pg;have q2:=ξR s.top (show 0<c.pg by omega);have q3:=ζv n c.pg;have q4:=ξR n (show 0<c.pg by omega);refine Nat.le_of_lt_succ ((ζZ Ω).2 ?_)
     have q5:(s.top/c.pg+n/c.pg+1+1)*c.pg=c.pg*(s.top/c.pg)+c.pg*(n/c.pg)+c.pg+c.pg:=by
      rw[ξf,ξf,ξf,ξx,ζT (s.top/c.pg),ζT (n/c.pg)]
     show s.top+n-1<(s.top/c.pg+n/c.pg+1+1)*c.pg
     generalize c.pg*(s.top/c.pg)=P1 at *
     generalize c.pg*(n/c.pg)=P2 at *
     omega
    generalize (s.top+n-1)/c.pg=P1 at *
    generalize s.top/c.pg=P2 at *
    generalize n/c.pg=P3 at *
    omega
   unfold A8;have:=RF v ((s.top:Int)/(v.pl.pg:Int)).toNat (CT v s.top ((s.top+n:Nat):Int));omega
  refine(Xej h.com.rn Y.vm (λhk=>hx.2.2.2.1 (Y.x _ (.inr hk))) hn1 D.2 Ω hE).mono ?_;rintro e w1 (⟨h1,rfl,h3⟩|⟨h1,rfl,t,⟨v1,hG,O⟩,J⟩)
  ·exact .inl ⟨h1,rfl,h3⟩
  ·have E:∀k,Sv k->s.X k:=λk hk=>Y.x k (.inr hk);have G:=Y.tab.lt;refine .inr ⟨h1,rfl,t.mono (λk _ hk=>hk.imp id (E k)),N E t J,?_,h1⟩;rw[ho];have Xa:∀k,R k->¬(k=s.A.rn\/Sv k):=λk hk e=>e.elim (λe=>hx.2.2.2.1 (by rw[<-e];exact Y.x k (.inl hk))) (Y.d k hk);refine⟨z,sl,v,R,plus Sv w,v1,⟨Y.cy.touch t Xa,O,Y.hv,Y.ok,Y.a,λk hk=>?_,λk hk V=>?_,t.tab G (λhk=>hk.elim (λe=>h.com.n3.2.2 e.symm) Y.t2) Y.tab,Y.t1,λhk=>hk.elim Y.t2 (λhk=>by omega),Y.bs,Y.lm,Y.bk,Y.ah,Y.kd⟩,e1,e2,hG,hE h1,Xb,h1⟩
   ·rcases hk with hk|hk|hk
    ·exact .inl (Y.x k (.inl hk))
    ·exact .inl (Y.x k (.inr hk))
    ·exact .inr hk
   ·rcases V with V|V
    ·exact Y.d k hk V
    ·have:=Y.cy.od.lt k hk;omega
end
theorem HIn.bal0(h:HIn w c g s)(hr:G3 w c s n)(hn1:1<=n)(hn2:n<=256)(hf:¬s.top+n<=s.base+c.wd):Calls prog 108 #[pP s.A.rn,iI n] w λe w1=>e=.returned (.tuple #[iI 0,iI 21])/\Gr w w1:=
 (h.bal hr hn1 hn2).mono λ_ _ hh=>by
  grind
theorem HIn.bal1(h:HIn w c g s)(hr:G3 w c s n)(hn1:1<=n)(hn2:n<=256)(hf:s.top+n<=s.base+c.wd):Calls prog 108 #[pP s.A.rn,iI n] w λe w1=>e=.returned (.tuple #[iI s.top,iI 0])/\HAl w c g s n w1:=
 (h.bal hr hn1 hn2).mono λ_ _ hh=>by
  grind
theorem G3.none(h:s.o=none):G3 w c s n:=λy hy=>by simp_all
theorem HIn.fits(h:HIn w c g s):s.base+g.words<=s.top:=by
 have hm:=h.rch (n:=s.top) (ν _);omega
def LI(w:World)(c:HCf)(g:Gph)(s:HSt)(n:Nat)(e:Ending)(w':World):Prop:=
 (c.wd<g.words+n/\e=.returned (.tuple #[iI 0,iI 21])/\∃s',BA w c s g s' w') ∨
 (g.words+n<=c.wd/\∃s' w1,BA w c s g s' w1/\e=.returned (.tuple #[iI s'.top,iI 0])/\HAl w1 c g s' n w')
theorem LI.ok{s1:HSt}(h:BA w c s g s1 w1)(ha:HAl w1 c g s1 n w'):LI w c g s n (.returned (.tuple #[iI s1.top,iI 0])) w':=.inr ⟨by have:=h.i.fits;have:=ha.fit;omega,s1,w1,h,rfl,ha⟩
theorem BA.rnc{s1:HSt}(h:BA w c s g' s1 w1){ap:Nat}(hp:ap=s.A.hp):w1.cell? ⟨ap,10,none⟩=some (pP s1.A.rn):=by
 have:=h.i.cc 10
 grind [hp]
theorem XLK(h:HIn w c g s)(hn:s.o=none↔s.lf=0)(hn1:1<=n)(hn2:n<=256):Calls prog 68 #[pP s.A.hp,iI n] w (LI w c g s n):=by
 have B:=(V0L h hn hn2);have HN:=ι (θ hn1 hn2);obtain⟨ap,hp⟩:∃ap,ap=s.A.hp:=⟨_,rfl⟩;have HP:=ι hp;rw[<-hp]at B⊢;have cl:=h.com.row.lt;rw[<-hp]at cl;clear h hn hp hn1 hn2;go_enter func68,ntmps68;go_upto_region 2 with(go_at_call 107;refine(B).mono ?_;rintro e w1 ⟨rfl,s1,h1,h2,h3,h4⟩;have Z:=ι (θ h1 h4);clear h1 h2 h3 h4);have U:=Z.o.1.rnc HP.o;have yl:=AT U;by_cases hf:s1.top+n<=s1.base+c.wd
 ·have HA:=ι (Z.o.1.i.bal1 Z.o.2 HN.o.1 HN.o.2 hf);clear hf;go_wp2_with(go_at_call 108;refine(HA.o).mono ?_;rintro e w2 ⟨rfl,ha⟩;have V:=ι ha;clear ha);go_ret2;exact LI.ok Z.o.1 V.o
 ·have HA:=ι (Z.o.1.i.bal0 Z.o.2 HN.o.1 HN.o.2 hf);have HF:=ι (λ(W:World) (gg:Gr w1 W)=>WV (Z.o.1.i.gr gg) Z.o.1.o);have M:s1.A.hp=ap:=Z.o.1.hp.trans HP.o.symm;rw[M]at HF;clear hf M;go_upto_region 5 with(go_at_call 108;refine(HA.o).mono ?_;rintro e w2 ⟨rfl,G⟩;have E:=ι G;clear G);clear U yl;go_upto_region 6 with(go_at_call 92;refine(HF.o _ E.o).mono ?_;rintro e w3 ⟨rfl,s2,h1,h2,h3,h4⟩;have Y:=ι (θ ((Z.o.1.gr E.o).trans h1) h4);clear h1 h2 h3 h4);have U:=Y.o.1.rnc HP.o;have yl:=AT U;have N:=Y.o.1.o.2 Y.o.2;have HO2:=ι N;by_cases hf:s2.top+n<=s2.base+c.wd
  ·have HA:=ι (Y.o.1.i.bal1 (G3.none N) HN.o.1 HN.o.2 hf);clear hf N;go_wp2_with(go_at_call 108;refine(HA.o).mono ?_;rintro e w4 ⟨rfl,ha⟩;have V:=ι ha;clear ha);go_ret2;exact LI.ok Y.o.1 V.o
  ·have HA:=ι (Y.o.1.i.bal0 (G3.none N) HN.o.1 HN.o.2 hf);have HC:=ι (λ(W:World) (gg:Gr w3 W)=>Vn4 (Y.o.1.i.gr gg) Y.o.1.o);have M:s2.A.hp=ap:=Y.o.1.hp.trans HP.o.symm;rw[M]at HC;clear hf M N;go_upto_region 9 with(go_at_call 108;refine(HA.o).mono ?_;rintro e w4 ⟨rfl,L⟩;have D:=ι L;clear L);clear U yl;go_upto_region 10 with(go_at_call 52;refine(HC.o _ D.o).mono ?_;rintro e w5 ⟨rfl,s3,h1,h2,h3⟩;have J:=ι (θ ((Y.o.1.gr D.o).trans h1) (θ h2 h3));clear h1 h2 h3);have U:=J.o.1.rnc HP.o;have yl:=AT U;have O:=J.o.1.o.2 J.o.2.1;by_cases hf:s3.top+n<=s3.base+c.wd
   ·have HA:=ι (J.o.1.i.bal1 (G3.none O) HN.o.1 HN.o.2 hf);clear hf O;go_wp2_with(go_at_call 108;refine(HA.o).mono ?_;rintro e w6 ⟨rfl,ha⟩;have V:=ι ha;clear ha);go_ret2;exact LI.ok J.o.1 V.o
   ·have HA:=ι (J.o.1.i.bal0 (G3.none O) HN.o.1 HN.o.2 hf);have HF:=ι hf;clear hf O;go_wp2_with(go_at_call 108;refine(HA.o).mono ?_;rintro e w6 ⟨rfl,I⟩;have Xa:=ι I;clear I);go_ret2;exact .inl ⟨by have:=HF.o;have:=J.o.2.2;omega,rfl,s3,J.o.1.gr Xa.o⟩
theorem ZnB(t:TypeId)(x y:Nat):(∃r,∀w,(binOp .mul t (.float .f64 x) (.float .f64 y)).run prog w=.ok (.float .f64 r) w)\/(∀w,∃r,(binOp .mul t (.float .f64 x) (.float .f64 y)).run prog w=.ok (.float .f64 r) w.drew):=by
 cases h:floatBits .mul .f64 x y with
 | some r=>exact .inl ⟨r,λw=>run_float_arith w .mul t .f64 x y r h⟩
 | none=>
  refine .inr λw=>?_;unfold floatBits at h;have hf:(Question.nanBits FloatKind.f64 x y).forced=false:=rfl;simp[binOp,Op.floatArith,h,choose,Sem.run,hf]
theorem Y88(h:HIn w c g s):Calls prog 71 #[pP s.A.hp] w λe w'=>∃b,e=.returned (.bool b)/\Gr w w':=by
 have HC:=(λ(W:World) (gg:Gr w W)=>(h.com.gr gg).row);have HB:=(λ(W:World) (gg:Gr w W)=>OU (h.com.gr gg).rn);have HT:=(λ(W:World) (gg:Gr w W)=>UH (h.com.gr gg).rn);have hbt:=h.bt;have hhi:=h.hi;obtain⟨ap,hp⟩:∃ap,ap=s.A.hp:=⟨_,rfl⟩;rw[<-hp]at HC⊢;have I:=underlying3;have M:=underlying31;have hcv:∀(n:Int) (w:World),(convert 3 31 (iI n)).run prog w=.ok (.float .f64 (floatOfInt .f64 n)) w:=λn w=>run_convert_int_float w _ _ _ _ n (by rw[I];rfl) M;clear h hp;go_enter func71,ntmps71;go_upto_region 1 with(fail);obtain⟨Sx,Z,HS⟩:=AA.start λW'=>Rec W' ap 83 (hpL c s.A s.o s.cyc s.blk);have E:∀p:AA Sx,p.w.cell? ⟨ap,10,none⟩=some (pP s.A.rn):=λp=>by have h:=AA.get Z p;exact h.cc 10
 have Y:=HS.o _ (HC _ (Gr.refl w).drew);have V:Inhabited (AA Sx):=⟨⟨_,Y⟩⟩;clear Z;refine AW Sx 13 [([0,1,2,3,5,6,7,8],4),([],9)] [10,11,12] (by kernel_rfl) (by kernel_rfl) Y ?_;refine AH ?_
 try simp only[AC,ζ,ξ]
 repeat(go_big_quiet_step (fail))
 refine ψ ?_;go_wp2_with((go_at_call 98;refine AM (HT _ (Gr.refl w).drew) ?_));refine⟨.inr (AA.of (HS.o _ (HC _ (Gr.refl w).drew))),?_⟩;refine AH ?_
 try simp only[AC,ζ,ξ]
 repeat(go_big_quiet_step (fail))
 refine ψ ?_;go_wp2_with((go_at_call 97;refine AM (HB _ (Gr.refl w).drew) ?_));refine⟨.inr (AA.of (HS.o _ (HC _ (Gr.refl w).drew))),?_⟩;refine BO ?_
 try simp only[AC,ζ,ξ]
 repeat(go_big_quiet_step (fail))
 refine ψ ?_;refine ζb ?_;clear E Y V;generalize floatOfInt .f64 ((s.top:Int)-s.base)=fu at *
 have J:=HC _ (Gr.refl w).drew;have O:=(Gr.refl w).drew;generalize w.drew=w9 at J O⊢;have N:=O;go_upto_region 2 with(fail);obtain⟨r,U⟩|U:=ZnB 31 c.tr (floatOfInt .f64 c.wd)
 ·have y3:=J.cc 3;have y7:=J.cc 7;have yl:=J.lt;go_quiet (fail);go_wp2;go_ret;exact⟨_,rfl,N.drewN _⟩
 ·obtain⟨Sx,Z,HS⟩:=AA.start λW'=>Rec W' ap 83 (hpL c s.A s.o s.cyc s.blk);have y3:∀p:AA Sx,p.w.cell? ⟨ap,3,none⟩=some (iI c.wd):=λp=>by have h:=AA.get Z p;exact h.cc 3
  have y7:∀p:AA Sx,p.w.cell? ⟨ap,7,none⟩=some (.float .f64 c.tr):=λp=>by have h:=AA.get Z p;exact h.cc 7
  obtain⟨r,U⟩:=U w9.drew;have Y:=HS.o _ (J.gr (Gr.refl w9).drew);have V:Inhabited (AA Sx):=⟨⟨_,Y⟩⟩;clear Z;refine AW Sx 15 [([0,1,2,3,4,5,6,7,8,9,10,11],12)] [13,14] (by kernel_rfl) (by kernel_rfl) Y ?_;refine AH ?_
  try simp only[AC,ζ,ξ]
  repeat(go_big_quiet_step (fail))
  refine ψ ?_;go_wp2_with(fail);refine⟨.inr (AA.of (HS.o _ (J.gr (Gr.refl w9).drew.drew))),?_⟩;refine BO ?_
  try simp only[AC,ζ,ξ]
  repeat(go_big_quiet_step (fail))
  refine ψ ?_;refine ζb ?_;go_wp2;go_ret;exact⟨_,rfl,N.drew.drew⟩
theorem BA.cutGr{wA:World}(gr:Gr w wA)(h:BA wA c (s.cut w) g' s' w'):BA w c s g' s' w':=
 ⟨(gr.touch _).trans' (h.t.mono (λk _ hk=>hk.imp (λh=>h.1) id)) (λ_ _ h=>h),h.i,h.hp,λk hk=>by
  rcases h.S k hk with h1|h1
  ·exact .inl (h1.imp (λh=>h.1) id)
  ·exact .inr (γ gr.size h1),h.o⟩
theorem HAl.mkd(h:HIn w1 c g s)(hn:s.o=none↔s.lf=0)(ha:HAl w1 c g s n w')(hs:p+f+k<=255)(hnn:n=1+p+f+k)(hsl:g.sl a=true):∀W,Gr w' W →
  Calls prog 70 #[spV s.A.q,iI s.top,AJ ⟨p,f,k⟩] W λe w2=>e=.returned (iI 0)/\Rec w2 s.A.hp 83 (hpL c s.A s.o s.cyc s.blk)/\AB (plus s.X w1) W w2 ∧
   Calls prog 55 #[pP s.A.r,iI a,iI s.top] w2 λe w3=>e=.returned (iI 0)/\∃s4,BA w1 c s (g.add a.toNat p f k) s4 w3/\s4.o=s.o/\s4.A=s.A:=λW gW=>by
 have Xi:=h.bt
 have N:0<s.top:=by
  have:=h.cok.pg1;have:=h.bs;omega
 have Z:=ha.gr gW;obtain⟨v1,Sv,hV,U,Xb,u',O,G,D,V,Xh⟩:=Z.gw.made N hs hnn;refine(V9e hV s.top ⟨p,f,k⟩).mono ?_;rintro e w2 ⟨rfl,t2,Xe⟩;have Xa:=O w2 t2 Xe;have Y:=Z.com.mem (t2.mono (λk _ hk=>U k hk));rw[Xb];refine⟨rfl,Y.row,t2.mono (λk _ hk=>U k hk),?_⟩;obtain⟨i,rfl,Xd,hi2⟩:=L1 hsl;refine(Z0 Y.rt (i:=i) (by rw[s.len];exact Xd) (a:=(s.top:Int)) (ξ8 _)).mono ?_;rintro e w3 ⟨rfl,t3,Xg⟩;have M:=XS7 hs;have I:=PD (v:=u') (a:=(s.top:Int)) Ω (D s.top (ν _) Ω) (by rw[V];exact M.1);have J:=h.img.add (s:=i) h.gok hs (v':=u') (A:=s.top) (ν _) Xi.1 I.1 (by rw[I.2,V];exact M.2) (λm hm=>⟨by exact D _ Ω Ω,Xh m hm⟩) (λb _ b2 b3=>G b b2 b3);have E:s.top+1+p+f+k=s.top+n:=Ω
 rw[E]at J
 have Xf:(g.add i p f k).S.map (λx=>((if x=g.L.length+1 then s.top else s.F x:Nat):Int))=(s.rs g).set i (s.top:Int):=by
  unfold HSt.rs Gph.add;rw[ξT];simp only[if_true];congr 1;refine ξG λx hx=>?_;have:=h.gok.st x hx;rw[ϑ Ω]
 have Xc:¬plus (plus s.X w1) W s.A.g:=Y.x.2.2.1;refine⟨rfl,{s with X:=plus (plus s.X w1) W,top:=s.top+n,u:=u',F:=λx=>if x=g.L.length+1 then s.top else s.F x},⟨?_,⟨?_,Xa.touch t3 (λb hb e=>⟨λhx=>Xc (by rw[<-e];exact hx),λe2=>Y.n3.2.1 (by rw[<-e,e2])⟩) (λ_ h=>h),J,h.gok.add hs,h.cok,⟨by show s.base<=s.top+n;omega,ha.fit⟩,h.bs,?_⟩,rfl,λb hb=>?_,hn⟩,rfl,rfl⟩
 ·have ta:AB s.S w1 W:=Z.t.mono (λb _ hb=>hb.elim (λe=>.inr (.inr (.inr (.inr e)))) .inl);refine(ta.trans' (t2.mono (λb _ hb=>U b hb)) (λb hb e=>?_)).trans' t3 (λb hb e=>.inr (.inr (.inl e)));rcases e with e|e
  ·exact .inl e
  ·omega
 ·have:=Y.root t3 Xg
  show CB w3 _ s.A c s.base (s.top+n) ((g.add i p f k).S.map _) s.o s.cyc s.blk
  rw[Xf];exact this
 ·show (g.S.set _ _).length=c.sl
  rw[η];exact h.sl
 ·have B:=Z.t.size;rcases hb with hb|hb|hb|hb|hb
  ·rcases hb with(hb|hb)|hb
   ·exact .inl (.inl hb)
   ·exact .inr hb
   ·exact .inr (γ B hb)
  ·exact .inl (.inr (.inl hb))
  ·exact .inl (.inr (.inr (.inl hb)))
  ·exact .inl (.inr (.inr (.inr (.inl hb))))
  ·exact .inl (.inr (.inr (.inr (.inr hb))))
def RM(w:World)(c:HCf)(s:HSt)(g':Gph)(w':World):Prop:=∃s',BA w c s g' s' w'
theorem HIn.getSl(h:HIn w c g s)(a:Int):∃y,Calls prog 66 #[pP s.A.r,iI a] w λe w'=>e=.returned (.tuple #[iI y,iI (if g.sl a then 0 else 17)])/\Gr w w':=by
 cases hs:g.sl a with
 | false=>exact⟨0,Z3 h.com.rt (by rw[KR,hs];decide)⟩
 | true=>
  obtain⟨i,rfl,h1,h2⟩:=L1 hs;exact⟨_,YA h.com.rt (i:=i) (by rw[s.len];exact h1)⟩
theorem J6F(h:HIn w c g s)(hn:s.o=none↔s.lf=0)(a:Int)(x:Hdr):Calls prog 32 #[pP s.A.hp,iI a,AJ x] w λe w'=>e=.returned (iI (g.alE c.wd a x))/\RM w c s (g.alG c.wd a x) w':=by
 have hc:=h.cut;have Xr:=(Gr.refl w).alloc (.cells #[.int .i64 x.p,.int .i64 x.f,.int .i64 x.k] 72);have HN:=(G4 (hc.gr Xr));have H0:Hid (∀W,Gr w W->RM w c s g W):=⟨λW gg=>⟨s,BA.gr (BA.refl h hn) gg⟩⟩;have B:=(Rec.new w 72 [iI x.p,iI x.f,iI x.k]);have Z:=Xr;have HC:=(λ(W:World) (gg:Gr w W)=>(hc.com.gr gg).row);have Yc:(s.cut w).A=s.A:=rfl;have I:=(λ(W:World) (gg:Gr w W)=>(hc.gr gg).getSl a);have G:=(λ(W:World) (gg:Gr w W) (m:Nat) (h1:1<=m) (h2:m<=256)=>XLK (hc.gr gg) hn h1 h2)
 have Xw:¬(s.cut w).S w.heap.size:=by
  obtain⟨l1,l2,l3,l4,l5⟩:=h.com.lt;rintro(e|e|e|e|e)
  ·exact ζP _ e.2
  ·exact absurd e (by show w.heap.size≠s.A.hp;omega)
  ·exact absurd e (by show w.heap.size≠s.A.g;omega)
  ·exact absurd e (by show w.heap.size≠s.A.r;omega)
  ·exact absurd e (by show w.heap.size≠s.A.rn;omega)
 have Yh:=Xw;have L:=(λ(W:World)=>MV x W);have Xe:=ι (λ(W:World)=>KW x W);have cl:=h.com.row.lt;obtain⟨ap,hp⟩:∃ap,ap=s.A.hp:=⟨_,rfl⟩;have HP:=ι hp;rw[Yc]at HN HC G I;rw[<-hp]at HN HC G cl⊢;have Xa:Hid (∀{W W':World} {g':Gph} {s':HSt},Gr w W->BA W c (s.cut w) g' s' W'->RM w c s g' W'):=⟨λgg hr=>⟨_,BA.cutGr gg hr⟩⟩;have z0:=(B).cell (j:=0) rfl;have z1:=(B).cell (j:=1) rfl;have z2:=(B).cell (j:=2) rfl;unfold AJ at L Xe⊢;clear h hn hc Xr Yc Xw hp;by_cases U:g.sl a=true
 ·by_cases he:CN x=0
  ·obtain⟨np,nf,nk,rfl,hs⟩:=NS he;obtain⟨n,Xh⟩:∃n,n=1+np+nf+nk:=⟨_,rfl⟩
   have hN:B9 ⟨np,nf,nk⟩=(n:Int):=by
    unfold B9;rw[μ he,Xh]
    show 1+(np:Int)+nf+nk=_
    omega
   have Xf:g.alE c.wd a ⟨np,nf,nk⟩=if (c.wd:Int)<g.words+(n:Int)then 21 else 0:=by unfold Gph.alE;rw[μ U,ϑ (λhh=>hh he),hN]
   rw[he]at L;rw[hN]at Xe;have Yj:=ι U;have Xx:=ι (θ hs Xh);simp only[U,if_true]at I;by_cases Xk:c.wd<g.words+n
   ·have HE:Hid (g.alE c.wd a ⟨np,nf,nk⟩=21/\g.alG c.wd a ⟨np,nf,nk⟩=g):=⟨by
     have e:g.alE c.wd a ⟨np,nf,nk⟩=21:=by rw[Xf,μ Ω]
     exact⟨e,by unfold Gph.alG;rw[e];rfl⟩⟩
    have Xs:=ι (λ(W:World) (gg:Gr w W)=>(G W gg n Ω Ω).mono (R':=λe w'=>e=.returned (.tuple #[iI 0,iI 21])/\∃s',BA W c (s.cut w) g s' w') λe w' hh=>by
     rcases hh with⟨-,h2,h3⟩|⟨h1,-⟩
     ·exact⟨h2,h3⟩
     ·omega)
    clear U he hs Xh hN Xf Xk G;go_enter func32,ntmps32;go_upto_region 3 with(go_at_call 41;refine AM (HN) ?_);have y9:=(HC _ Z).cell (j:=9) rfl;have yl:=AT y9;obtain⟨y,J⟩:=I _ Z;have HG:=ι J;clear J;go_upto_region 6 with(go_at_call 66;refine(HG.o).mono ?_;rintro e w1 ⟨rfl,Y⟩;have E:=ι (Z.trans Y);have zb:=B.gr Y;have Xp:=ι zb;obtain⟨z0,z1,z2,zl⟩:=zb.k3;clear Y zb);go_upto_region 9 with(go_at_call 67;refine(L _).mono ?_;rintro e w2 ⟨rfl,V⟩;have Xc:=ι (E.o.trans V);have zb:=Xp.o.gr V;clear z0 z1 z2 zl;have Yd:=ι zb;obtain⟨z0,z1,z2,zl⟩:=zb.k3;clear V zb);go_wp2_with(first|(go_at_call 68;refine(Xs.o _ O.o).mono ?_;rintro e w4 ⟨rfl,s',hr⟩;have N:=ι hr;clear hr)|(go_at_call 69;refine(Xe.o _).mono ?_;rintro e w3 ⟨rfl,D⟩;have O:=ι (Xc.o.trans D);clear D));go_ret;exact⟨AL HE.o.1.symm,by rw[HE.o.2];exact Xa.o O.o N.o⟩
   ·have HE:Hid (g.alE c.wd a ⟨np,nf,nk⟩=0/\g.alG c.wd a ⟨np,nf,nk⟩=g.add a.toNat np nf nk):=⟨by
     have e:g.alE c.wd a ⟨np,nf,nk⟩=0:=by rw[Xf,ϑ Ω]
     exact⟨e,by unfold Gph.alG;rw[μ e];rfl⟩⟩
    have Xs:=ι (λ(W:World) (gg:Gr w W)=>(G W gg n Ω Ω).mono (R':=λe w'=>∃s' w1,e=.returned (.tuple #[iI s'.top,iI 0])/\BA W c (s.cut w) g s' w1/\HAl w1 c g s' n w') λe w' hh=>by
     rcases hh with⟨h1,-⟩|⟨-,s',w1,h2,h3,h4⟩
     ·omega
     ·exact⟨s',w1,h3,h2,h4⟩)
    clear U he hs Xh hN Xf Xk G;go_enter func32,ntmps32;go_upto_region 3 with(go_at_call 41;refine AM (HN) ?_);have y9:=(HC _ Z).cell (j:=9) rfl;have yl:=AT y9;obtain⟨y,J⟩:=I _ Z;have HG:=ι J;clear J;go_upto_region 6 with(go_at_call 66;refine(HG.o).mono ?_;rintro e w1 ⟨rfl,Y⟩;have E:=ι (Z.trans Y);have zb:=B.gr Y;have Xp:=ι zb;obtain⟨z0,z1,z2,zl⟩:=zb.k3;clear Y zb);go_upto_region 9 with(go_at_call 67;refine(L _).mono ?_;rintro e w2 ⟨rfl,V⟩;have Xc:=ι (E.o.trans V);have zb:=Xp.o.gr V;clear z0 z1 z2 zl;have Yd:=ι zb;obtain⟨z0,z1,z2,zl⟩:=zb.k3;clear V zb);go_upto_region 12 with(first|(go_at_call 68;refine(Xs.o _ O.o).mono ?_;rintro e w5 ⟨s',w4,rfl,hr,ha⟩;have N:=ι hr;have Xl:=ι ha;clear hr ha)|(go_at_call 69;refine(Xe.o _).mono ?_;rintro e w3 ⟨rfl,D⟩;have O:=ι (Xc.o.trans D);have Xz:=ι (Yd.o.gr D);clear D));clear z0 z1 z2 zl y9 yl
    have Yg:Rec w5 w.heap.size 72 [iI np,iI nf,iI nk]:=by
     have hb3:=Xz.o.lt;have Yk:¬s'.S w.heap.size:=λhk=>(N.o.S _ hk).elim Yh (λe=>by omega);refine(Xz.o.touch N.o.t Yh).touch Xl.o.t (λhk=>Yk ?_);rcases hk with hk|hk
     ·exact .inr (.inr (.inr (.inr hk)))
     ·exact .inl hk
    have Yb:=ι Yg
    have Xj:Rec w5 ap 83 (hpL c s'.A s'.o s'.cyc s'.blk):=by
     have:=Xl.o.com.row;rw[N.o.hp]at this;rw[HP.o];exact this
    have Yf:=ι Xj;have Xg:=HAl.mkd N.o.i N.o.o Xl.o Xx.o.1 Xx.o.2 Yj.o;unfold spV AJ at Xg;have Xu:s'.A.hp=ap:=N.o.hp.trans HP.o.symm;rw[Xu]at Xg;have Yn:=ι Xg;clear Yg Xj Xg Xu;obtain⟨Sx,Xb,HS⟩:=AA.start λW'=>(Rec W' ap 83 (hpL c s'.A s'.o s'.cyc s'.blk)/\Rec W' w.heap.size 72 [iI np,iI nf,iI nk])
    have y8:∀p:AA Sx,p.w.cell? ⟨ap,8,none⟩=some (pP s'.A.q):=λp=>by have h:=AA.get Xb p;exact h.1.cell (j:=8) rfl
    have Ys:∀p:AA Sx,p.w.cell? ⟨w.heap.size,0,none⟩=some (iI np):=λp=>by have h:=AA.get Xb p;exact h.2.cell (j:=0) rfl
    have Ym:∀p:AA Sx,p.w.cell? ⟨w.heap.size,1,none⟩=some (iI nf):=λp=>by have h:=AA.get Xb p;exact h.2.cell (j:=1) rfl
    have Yq:∀p:AA Sx,p.w.cell? ⟨w.heap.size,2,none⟩=some (iI nk):=λp=>by have h:=AA.get Xb p;exact h.2.cell (j:=2) rfl
    have Xq:=HS.o _ (⟨Yf.o.gr (Gr.refl w5).drew,Yb.o.gr (Gr.refl w5).drew⟩);have Ya:Inhabited (AA Sx):=⟨⟨_,Xq⟩⟩;clear Xb;refine AW Sx 7 [([0,1,2,3,4,5,6],7)] [] (by kernel_rfl) (by kernel_rfl) Xq ?_;refine AH ?_
    try simp only[AC,ζ,ξ]
    repeat(go_big_quiet_step (fail))
    refine ψ ?_;go_wp2_with((go_at_call 70;refine(Yn.o _ (Gr.refl w5).drew).mono ?_;rintro e w6 ⟨rfl,Yi,-,Xt⟩;have Yo:=ι Yi;have Yl:=ι Xt;clear Yi Xt));refine⟨.inl trivial,?_⟩;refine CV ?_;clear y8 Ys Ym Yq Xq Ya;clear HS Sx;have y9:=Yo.o.cc 9;have yl:=AT y9;go_upto_region 14 with(go_at_call 55;refine(Yl.o).mono ?_;rintro e w7 ⟨rfl,s4,h4,-,-⟩;have M:=ι (N.o.trans h4);clear h4);clear y9 yl;have Xn:s4.A.hp=ap:=M.o.hp.trans HP.o.symm;have Ye:=ι Xn;have y0:=M.o.i.cc 0;have Xd:=M.o.i.cc 11;rw[Xn]at y0 Xd;have yl:=AT y0;clear Xn;by_cases hk:c.kd=1
    ·have hd:((c.kd:Int)==1)=true:=by rw[hk];rfl
     cases ho:s4.o with
     | some y'=>
      rw[ho]at Xd;simp only[ψk]at Xd;clear hk ho;go_wp2;go_ret;exact⟨AL HE.o.1.symm,by rw[HE.o.2];exact Xa.o O.o M.o⟩
     | none=>
      rw[ho]at Xd;simp only[Option.map_none]at Xd;have Xm:=Y88 M.o.i;rw[Ye.o]at Xm;have Yp:=ι Xm;have Xv:=ι (λ(W:World) (gg:Gr w7 W)=>XD (M.o.i.gr gg) ho hk);rw[Ye.o]at Xv;clear hk ho Xm;go_upto_region 15 with(go_at_call 71;refine(Yp.o).mono ?_;rintro e w8 ⟨b,rfl,Xy⟩;have Xo:=ι Xy;clear Xy;cases b)
      ·go_ret;exact⟨AL HE.o.1.symm,by rw[HE.o.2];exact Xa.o O.o (M.o.gr Xo.o)⟩
      ·go_wp2_with(go_at_call 72;refine(Xv.o _ Xo.o).mono ?_;rintro e w9 ⟨rfl,s5,h5,-,-⟩;have Yr:=ι ((M.o.gr Xo.o).trans h5);clear h5);go_ret;exact⟨AL HE.o.1.symm,by rw[HE.o.2];exact Xa.o O.o Yr.o⟩
    ·have hd:((c.kd:Int)==1)=false:=by simp;omega
     clear hk;go_wp2;go_ret;exact⟨AL HE.o.1.symm,by rw[HE.o.2];exact Xa.o O.o M.o⟩
  ·have HE:Hid (g.alE c.wd a x=15/\g.alG c.wd a x=g):=⟨by
    have e:g.alE c.wd a x=15:=by unfold Gph.alE;rw[μ U,μ he]
    exact⟨e,by unfold Gph.alG;rw[e];rfl⟩⟩
   have Xi:CN x=15:=(UF x).resolve_left he;rw[Xi]at L;simp only[U,if_true]at I;clear U he Xi;go_enter func32,ntmps32;go_upto_region 3 with(go_at_call 41;refine AM (HN) ?_);have y9:=(HC _ Z).cell (j:=9) rfl;have yl:=AT y9;obtain⟨y,J⟩:=I _ Z;have HG:=ι J;clear J;go_upto_region 6 with(go_at_call 66;refine(HG.o).mono ?_;rintro e w1 ⟨rfl,Y⟩;have E:=ι (Z.trans Y);have zb:=B.gr Y;obtain⟨z0,z1,z2,zl⟩:=zb.k3;clear Y zb);go_wp2_with(go_at_call 67;refine(L _).mono ?_;rintro e w2 ⟨rfl,V⟩;have Xc:=ι (E.o.trans V);clear V);go_ret;exact⟨AL HE.o.1.symm,by rw[HE.o.2];exact H0.o _ Xc.o⟩
 ·have HE:Hid (g.alE c.wd a x=17/\g.alG c.wd a x=g):=⟨by
   have e:g.alE c.wd a x=17:=by unfold Gph.alE;rw[ϑ U]
   exact⟨e,by unfold Gph.alG;rw[e];rfl⟩⟩
  simp only[U]at I;clear U;go_enter func32,ntmps32;go_upto_region 3 with(go_at_call 41;refine AM (HN) ?_);have y9:=(HC _ Z).cell (j:=9) rfl;have yl:=AT y9;obtain⟨y,J⟩:=I _ Z;have HG:=ι J;clear J;go_wp2_with(go_at_call 66;refine(HG.o).mono ?_;rintro e w1 ⟨rfl,Y⟩;have E:=ι (Z.trans Y);clear Y);go_ret;exact⟨AL HE.o.1.symm,by rw[HE.o.2];exact H0.o _ E.o⟩
section
variable{P:Program}{l:List Oper}{Q:Exit->Act->World->Prop}{S:World->Prop}
end
theorem Sp.E.own{z:Sp}{S:Nat->Prop}{wB:World}(hz:z.Ok)(gB:Gr w wB)(h:z.E u S wB w2)(t:AB (λk=>k=x) w2 w')(hx:w.heap.size<=x/\x<wB.heap.size)(hS:¬S x)(hD:¬z.D x):z.W u S w w':=by
 refine⟨((gB.touch S).trans (h.1.mono (λ_ _ h=>h.2))).trans' t (λk hk e=>by omega),hz.fr h.2 t (λk hk e=>?_) (λk hk=>hk.imp id (λhk=>γ gB.size hk))⟩;subst e;exact⟨λhk=>hk.elim hS (λhk=>by omega),hD⟩
theorem HOp.own(gr:Gr w w0)(h:HOp w0 c (s.cut w) g' w3)(t:AB (λk=>k=b) w3 w')(hb:w.heap.size<=b/\b<w0.heap.size)(hl:s.A.hp<w.heap.size/\s.A.r<w.heap.size/\s.A.g<w.heap.size/\s.A.rn<w.heap.size/\1<w.heap.size):HOp w c s g' w':=by
 obtain⟨s',hr,hs⟩:=h
 have Y:¬(s.cut w).S b:=by
  rintro(e|e|e|e|e)
  ·have:=e.2;omega
  ·have:b=s.A.hp:=e;omega
  ·have:b=s.A.g:=e;omega
  ·have:b=s.A.r:=e;omega
  ·have:b=s.A.rn:=e;omega
 have hi:HIn w' c g' s':=hr.i.touch t (λk hk e=>by
  subst e
  exact⟨λhk2=>(hr.S _ hk2).elim Y (λe=>by omega),by omega⟩)
 have hc:=BA.cutGr gr hr;exact⟨s',⟨hc.t.trans' t (λk hk e=>by omega),hi,hc.hp,hc.S,hc.o⟩,⟨hs.lf,hs.cyc⟩⟩
theorem I6(W:World)(b:Nat)(z0 z1 z2:Value):AB (λi=>i=b) W (((W.setCell ⟨b,0,none⟩ z0).setCell ⟨b,1,none⟩ z1).setCell ⟨b,2,none⟩ z2):=
 (((AB.refl (λi=>i=b) W).setCell (a:=⟨b,0,none⟩) (λ_=>rfl) _).setCell (a:=⟨b,1,none⟩) (λ_=>rfl) _).setCell (a:=⟨b,2,none⟩) (λ_=>rfl) _
theorem HIn.shp(h:HIn w c g s)(hs:g.sl a=true):s.u.rdE (s.F (g.at a):Nat)=g.shE a/\s.u.rdH (s.F (g.at a):Nat)=g.shH a:=by
 unfold Gph.shH Gph.shE;rw[μ hs];rcases Gph.at_ro hs with h0|hr
 ·rw[h0,h.img.z,μ rfl,ϑ (by decide)];exact⟨rfl,rfl⟩
 ·have hp:=h.img.pos hr;have h0:g.at a≠0:=λe=>by rw[e,h.img.z]at hp;omega
  rw[ϑ h0,μ rfl];exact⟨h.img.rd _ hr,h.img.hd _ hr⟩
theorem VcO(h:HIn w c g s)(hn:s.o=none↔s.lf=0)(a:Int):Calls prog 61 #[pP s.A.hp,iI a] w λe w'=>e=.returned (.tuple #[AJ (g.shH a),iI (g.shE a)])/\HOp w c s g w':=by
 have Xd:=(Gr.refl w).alloc (.cells #[.int .i64 0,.int .i64 0,.int .i64 0] 72);have hc:=h.cut.gr Xd;have Xv:=h.com.lt;have Xw:=Rec.new w 72 [iI 0,iI 0,iI 0];have Xs:(s.cut w).A=s.A:=rfl;have hz:(w.alloc (.cells #[.int .i64 0,.int .i64 0,.int .i64 0] 72)).heap.size=w.heap.size+1:=β ..;obtain⟨w0,Xh⟩:∃w0,w0=w.alloc (.cells #[.int .i64 0,.int .i64 0,.int .i64 0] 72):=⟨_,rfl⟩;have Xr:Rec w0 w.heap.size 72 [iI 0,iI 0,iI 0]:=by rw[Xh];exact Xw
 clear Xw;rw[<-Xh]at Xd hc hz;obtain⟨F0,F1⟩:=NG hc a;have HC:=hc;have Xm:=Xd;have Xl:=ι Xr;have HN:=ι hn;have L:=ι (θ Xv hz);have Xz:=ι Xh;have KL:=ι (λ(W:World) (blk:Nat) (p q r:Value)=>RV W blk p q r);rw[Xs]at F0 F1;rw[show (s.cut w).F=s.F from rfl]at F1;cases hsl:g.sl a with
 | false=>
  have HF:=ι (F0 hsl)
  have HE:Hid (g.shE a=17/\g.shH a=⟨0,0,0⟩):=⟨by
   have e:g.shE a=17:=by unfold Gph.shE;rw[hsl];rfl
   exact⟨e,by unfold Gph.shH;rw[e];rfl⟩⟩
  generalize s.A.hp=ap at HF⊢;clear h hc hn hsl F0 F1 Xd Xr Xv hz Xs Xh;go_enter func61,ntmps61;go_upto_region 1 with(fail);rw[<-Xz.o];go_upto_region 3 with(go_at_call 56;refine(HF.o).mono ?_;rintro e w1 ⟨rfl,hg⟩;have HG:=ι hg;have r1:=Xl.o.gr hg;have Ye:=ι r1;have z0:=r1.cc 0;have z1:=r1.cc 1;have z2:=r1.cc 2;have zf:=r1.free;have zl:=r1.lt;clear hg r1);go_wp2;have R3:=Rec.set (Rec.set (Rec.set Ye.o 0 (iI 0)) 1 (iI 0)) 2 (iI 0);refine ζK (v:=.tuple #[AJ ⟨0,0,0⟩,iI 17]) ?_ rfl ?_
  ·rw[results_cell_tmp rfl];have hl:=KL.o _ w.heap.size _ _ _ (R3.cc 0) (R3.cc 1) (R3.cc 2);simp[asAddr,Result.andThen,hl,AJ]
  ·refine⟨by rw[HE.o.1,HE.o.2],HOp.own Xm (HOp.same HC HN.o HG.o) (I6 _ _ _ _ _) ⟨ν _,by rw[L.o.2];omega⟩ L.o.1⟩
 | true=>
  have HF:=ι (F1 hsl);have Xx:=Gph.at_ro hsl;have Xi:=ι (λ(W:World) (gg:Gr w0 W)=>KV (hc.cut.gr gg));have I:=ι (λ(W:World) (gg:Gr w0 W)=>MQ (ID ..) (hc.cut.gr gg).sp (s.F (g.at a):Nat) (hc.cut.rdP Xx));obtain⟨e1,e2⟩:=h.shp hsl;have e3:((s.cut w).cut w0).u=s.u:=rfl;rw[e3,e1,e2]at I;have Xf:=ι (λ(W1 W2:World) (gr:Gr w0 W1) (he:(((s.cut w).cut w0).sp c).W s.u ((s.cut w).cut w0).X W1 W2)=>YKV hc hn gr he h.img h.gok rfl);have Xo:((s.cut w).cut w0).A.hp=s.A.hp:=rfl;have Xn:(s.cut w).A.hp=s.A.hp:=rfl;rw[Xo]at Xi;rw[Xn]at Xf;have Xp:=ι (λ(W WB W2 W3:World) (x:Nat) (gW:Gr w0 W) (gB:Gr W WB) (he:(((s.cut w).cut w0).sp c).E s.u ((s.cut w).cut w0).X WB W2) (t:AB (λk=>k=x) W2 W3) (hx:W.heap.size<=x/\x<WB.heap.size)=>Sp.E.own (ID ..) gB he t hx (λhk=>by have:=hk.2;have:=gW.size;omega) (λhk=>by have:x=1:=hk;have:=gW.size;omega))
  have Xu:Hid (¬(s.cut w).S w.heap.size):=⟨by
   rintro(e|e|e|e|e)
   ·exact ζP _ e.2
   ·exact absurd e (by show w.heap.size≠s.A.hp;omega)
   ·exact absurd e (by show w.heap.size≠s.A.g;omega)
   ·exact absurd e (by show w.heap.size≠s.A.r;omega)
   ·exact absurd e (by show w.heap.size≠s.A.rn;omega)⟩
  have Xj:Hid (∀x,w0.heap.size<=x->x≠s.A.hp):=⟨λx hx e=>by omega⟩;generalize g.shE a=re at I⊢;generalize g.shH a=hd at I⊢;obtain⟨xp,xf,xk⟩:=hd;generalize (s.F (g.at a):Nat)=ad at HF I;obtain⟨ap,hp⟩:∃ap,ap=s.A.hp:=⟨_,rfl⟩;rw[<-hp]at HF Xi Xf Xj⊢;clear h hc hn hsl F0 F1 Xd Xr Xv hz Xs Xh Xx e1 e2 e3 Xo Xn hp;unfold AJ at I;go_enter func61,ntmps61;go_upto_region 1 with(fail);rw[<-Xz.o];go_upto_region 4 with(go_at_call 56;refine(HF.o).mono ?_;rintro e w1 ⟨gb,cp,rfl,Yc,Xy,Yd⟩;have Y:=ι Yc;have V:=ι Yd;have Xt:=ι Xy;clear Yc Yd Xy);obtain⟨Sx,Xk⟩:∃Sx:World->Prop,Sx=λW'=>W'.cell? ⟨gb,0,none⟩=some (iI (ad:Nat)):=⟨_,rfl⟩;have y0:∀p':AA Sx,p'.w.cell? ⟨gb,0,none⟩=some (iI (ad:Nat)):=λp=>AA.get Xk p;have Yb:Sx w1.drew:=by rw[Xk];exact V.o
  have Z:=ι Xk;have inst:Inhabited (AA Sx):=⟨⟨_,Yb⟩⟩;clear Xk;refine JzF Sx (.two [0,2,3,4] 1 (.two [] 5 (.one [6,7,8] 9 (.one [] 10 (.fin [11]))) 9 (.one [] 5 (.one [6,7,8] 10 (.fin [11])))) 9 (.one [] 1 (.one [] 5 (.one [6,7,8] 10 (.fin [11]))))) (by kernel_rfl) (by kernel_rfl) Yb ?_;refine XY ?_;simp only[AC,ζ,ξ]
  repeat(go_big_quiet_step (fail))
  refine ψ ⟨?_,?_⟩
  ·go_wp2_with(go_at_call 58;refine AM (Xi.o _ Y.o.drew) ?_);refine⟨AA.of (by rw[Z.o];exact V.o),?_⟩;refine XY ?_;simp only[AC,ζ,ξ];refine ψ ⟨?_,?_⟩
   ·go_wp2_with(go_at_call 104;refine(I.o _ Y.o.drew).mono ?_;rintro e w2 ⟨rfl,he⟩;have N:=ι he;clear he);have KC:w2.cell? ⟨gb,0,none⟩=some (iI (ad:Nat)):=(N.o.1.cell (AT V.o) (λhk=>ζP _ (υ hk.2.2 Xt.o)) 0).trans V.o;have Ya:=AT KC;refine⟨AA.of (by rw[Z.o];exact KC),?_⟩;refine J0 ?_;simp only[AC,ζ,ξ]
    repeat(go_big_quiet_step (fail))
    refine ψ ?_;go_wp2;refine⟨AA.of (by rw[Z.o];exact(((Gr.refl w2).alloc _).cell Ya 0).trans KC),?_⟩;refine J0 ?_;simp only[AC,ζ,ξ];refine ψ ?_;go_wp2;refine⟨AA.of (by rw[Z.o];exact(((Gr.refl w2).alloc _).cell Ya 0).trans KC),?_⟩;refine UN ?_;simp only[AC,ζ,ξ]
    repeat(go_big_quiet_step (fail))
    refine ψ ?_;refine ζb ?_;have Xb:Hid ((((s.cut w).cut w0).sp c).W s.u ((s.cut w).cut w0).X w1.drew (w2.alloc (.cells #[.int .i64 xp,.int .i64 xf,.int .i64 xk] 72))):=⟨N.o.toW.gr ((Gr.refl w2).alloc _) (ID ..)⟩;have Xg:Hid (Rec (w2.alloc (.cells #[.int .i64 xp,.int .i64 xf,.int .i64 xk] 72)) w2.heap.size 72 [iI xp,iI xf,iI xk]):=⟨Rec.new w2 _ [iI xp,iI xf,iI xk]⟩;have Hw2.heap.size:Hid (w0.heap.size<=w2.heap.size):=⟨γ Y.o.size N.o.1.size⟩;go_wp2_with(go_at_call 43;refine(Xf.o _ _ Y.o.drew Xb.o).mono ?_;rintro e w3 ⟨rfl,s',hr,hs,-,ht⟩;have O:=ι (θ hr hs);have rx:=Xg.o.touch ht (Xj.o _ Hw2.heap.size.o);obtain⟨k0,k1,k2,kl⟩:=rx.k3;have r3:=Xl.o.touch hr.t Xu.o;have Xa:=ι r3;have z0:=r3.cc 0;have z1:=r3.cc 1;have z2:=r3.cc 2;have zf:=r3.free;have zl:=r3.lt;clear hr hs ht rx r3);have R3:=Rec.set (Rec.set (Rec.set Xa.o 0 (iI xp)) 1 (iI xf)) 2 (iI xk);refine ζK (v:=.tuple #[AJ ⟨xp,xf,xk⟩,iI re]) ?_ rfl ?_
    ·rw[results_cell_tmp rfl];have hl:=KL.o _ w.heap.size _ _ _ (R3.cc 0) (R3.cc 1) (R3.cc 2);simp[asAddr,Result.andThen,hl,AJ]
    ·exact⟨rfl,HOp.own Xm ⟨s',O.o.1,O.o.2⟩ (I6 _ _ _ _ _) ⟨ν _,by rw[L.o.2];omega⟩ L.o.1⟩
   ·go_wp2;have U:=(Gr.refl w1.drew).alloc (.cells #[.int .i64 0,.int .i64 0,.int .i64 0] 72);have Xe:=Rec.new w1.drew 72 [iI 0,iI 0,iI 0];have D:=(U.cell (AT V.o) 0).trans V.o;refine⟨AA.of (by rw[Z.o];exact D),?_⟩;refine J0 ?_;simp only[AC,ζ,ξ];refine ψ ?_;obtain⟨WB,J⟩:∃WB,WB=(w1.alloc (.cells #[.int .i64 0,.int .i64 0,.int .i64 0] 72)).drew:=⟨_,rfl⟩;have M:Hid (Gr w1.drew WB):=⟨by rw[J];exact U⟩;have Xc:Hid (Rec WB w1.heap.size 72 [iI 0,iI 0,iI 0]):=⟨by rw[J];exact Xe⟩;have B:Hid (WB.cell? ⟨gb,0,none⟩=some (iI (ad:Nat))):=⟨by rw[J];exact D⟩;rw[<-J];clear J U Xe D;go_wp2_with(go_at_call 104;refine(I.o _ (Y.o.drew.trans M.o)).mono ?_;rintro e w2 ⟨rfl,he⟩;have N:=ι he;have r2:=Xc.o.touch he.1 (λhk=>by have:=hk.2.2;have:=Y.o.size;omega);have Xq:=ι r2;have q0:=r2.cc 0;have q1:=r2.cc 1;have q2:=r2.cc 2;have qf:=r2.free;have ql:=r2.lt;clear he r2);have KC:w2.cell? ⟨gb,0,none⟩=some (iI (ad:Nat)):=(N.o.1.cell (AT B.o) (λhk=>ζP _ (υ hk.2.2 Xt.o)) 0).trans B.o;have G:=ι KC;clear KC;refine⟨AA.of (by rw[Z.o];exact G.o),?_⟩;refine J0 ?_;simp only[AC,ζ,ξ]
    repeat(go_big_quiet_step (fail))
    refine ψ ?_;go_wp2;refine⟨AA.of (by rw[Z.o];exact((I6 w2 w1.heap.size (iI xp) (iI xf) (iI xk)).cell (AT G.o) (λe=>by have:=AT V.o;have e:gb=w1.heap.size:=e;omega) 0).trans G.o),?_⟩;refine UN ?_;simp only[AC,ζ,ξ]
    repeat(go_big_quiet_step (fail))
    refine ψ ?_;refine ζb ?_;have Xb:Hid ((((s.cut w).cut w0).sp c).W s.u ((s.cut w).cut w0).X w1.drew (((w2.setCell ⟨w1.heap.size,0,none⟩ (.int .i64 xp)).setCell ⟨w1.heap.size,1,none⟩ (.int .i64 xf)).setCell ⟨w1.heap.size,2,none⟩ (.int .i64 xk))):=⟨Xp.o _ _ _ _ _ Y.o.drew M.o N.o (I6 _ _ _ _ _) ⟨ν _,Xc.o.lt⟩⟩;have Xg:Hid (Rec (((w2.setCell ⟨w1.heap.size,0,none⟩ (.int .i64 xp)).setCell ⟨w1.heap.size,1,none⟩ (.int .i64 xf)).setCell ⟨w1.heap.size,2,none⟩ (.int .i64 xk)) w1.heap.size 72 [iI xp,iI xf,iI xk]):=⟨((Xq.o.set 0 (iI xp)).set 1 (iI xf)).set 2 (iI xk)⟩;have Hw1.heap.size:Hid (w0.heap.size<=w1.heap.size):=⟨Y.o.size⟩;clear q0 q1 q2 qf ql;go_wp2_with(go_at_call 43;refine(Xf.o _ _ Y.o.drew Xb.o).mono ?_;rintro e w3 ⟨rfl,s',hr,hs,-,ht⟩;have O:=ι (θ hr hs);have rx:=Xg.o.touch ht (Xj.o _ Hw1.heap.size.o);obtain⟨k0,k1,k2,kl⟩:=rx.k3;have r3:=Xl.o.touch hr.t Xu.o;have Xa:=ι r3;have z0:=r3.cc 0;have z1:=r3.cc 1;have z2:=r3.cc 2;have zf:=r3.free;have zl:=r3.lt;clear hr hs ht rx r3);have R3:=Rec.set (Rec.set (Rec.set Xa.o 0 (iI xp)) 1 (iI xf)) 2 (iI xk);refine ζK (v:=.tuple #[AJ ⟨xp,xf,xk⟩,iI re]) ?_ rfl ?_
    ·rw[results_cell_tmp rfl];have hl:=KL.o _ w.heap.size _ _ _ (R3.cc 0) (R3.cc 1) (R3.cc 2);simp[asAddr,Result.andThen,hl,AJ]
    ·exact⟨rfl,HOp.own Xm ⟨s',O.o.1,O.o.2⟩ (I6 _ _ _ _ _) ⟨ν _,by rw[L.o.2];omega⟩ L.o.1⟩
  ·go_wp2;have U:=(Gr.refl w1.drew).alloc (.cells #[.int .i64 0,.int .i64 0,.int .i64 0] 72);have Xe:=Rec.new w1.drew 72 [iI 0,iI 0,iI 0];have D:=(U.cell (AT V.o) 0).trans V.o;refine⟨AA.of (by rw[Z.o];exact D),?_⟩;refine J0 ?_;simp only[AC,ζ,ξ];refine ψ ?_;obtain⟨WB,J⟩:∃WB,WB=(w1.alloc (.cells #[.int .i64 0,.int .i64 0,.int .i64 0] 72)).drew:=⟨_,rfl⟩;have M:Hid (Gr w1.drew WB):=⟨by rw[J];exact U⟩;have Xc:Hid (Rec WB w1.heap.size 72 [iI 0,iI 0,iI 0]):=⟨by rw[J];exact Xe⟩;have B:Hid (WB.cell? ⟨gb,0,none⟩=some (iI (ad:Nat))):=⟨by rw[J];exact D⟩;rw[<-J];clear J U Xe D;go_wp2_with(go_at_call 58;refine AM (Xi.o _ (Y.o.drew.trans M.o)) ?_);refine⟨AA.of (by rw[Z.o];exact B.o),?_⟩;refine J0 ?_;simp only[AC,ζ,ξ];refine ψ ?_;go_wp2_with(go_at_call 104;refine(I.o _ (Y.o.drew.trans M.o)).mono ?_;rintro e w2 ⟨rfl,he⟩;have N:=ι he;have r2:=Xc.o.touch he.1 (λhk=>by have:=hk.2.2;have:=Y.o.size;omega);have Xq:=ι r2;have q0:=r2.cc 0;have q1:=r2.cc 1;have q2:=r2.cc 2;have qf:=r2.free;have ql:=r2.lt;clear he r2);have KC:w2.cell? ⟨gb,0,none⟩=some (iI (ad:Nat)):=(N.o.1.cell (AT B.o) (λhk=>ζP _ (υ hk.2.2 Xt.o)) 0).trans B.o;have G:=ι KC;clear KC;refine⟨AA.of (by rw[Z.o];exact G.o),?_⟩;refine J0 ?_;simp only[AC,ζ,ξ]
   repeat(go_big_quiet_step (fail))
   refine ψ ?_;go_wp2;refine⟨AA.of (by rw[Z.o];exact((I6 w2 w1.heap.size (iI xp) (iI xf) (iI xk)).cell (AT G.o) (λe=>by have:=AT V.o;have e:gb=w1.heap.size:=e;omega) 0).trans G.o),?_⟩;refine UN ?_;simp only[AC,ζ,ξ]
   repeat(go_big_quiet_step (fail))
   refine ψ ?_;refine ζb ?_;have Xb:Hid ((((s.cut w).cut w0).sp c).W s.u ((s.cut w).cut w0).X w1.drew (((w2.setCell ⟨w1.heap.size,0,none⟩ (.int .i64 xp)).setCell ⟨w1.heap.size,1,none⟩ (.int .i64 xf)).setCell ⟨w1.heap.size,2,none⟩ (.int .i64 xk))):=⟨Xp.o _ _ _ _ _ Y.o.drew M.o N.o (I6 _ _ _ _ _) ⟨ν _,Xc.o.lt⟩⟩;have Xg:Hid (Rec (((w2.setCell ⟨w1.heap.size,0,none⟩ (.int .i64 xp)).setCell ⟨w1.heap.size,1,none⟩ (.int .i64 xf)).setCell ⟨w1.heap.size,2,none⟩ (.int .i64 xk)) w1.heap.size 72 [iI xp,iI xf,iI xk]):=⟨((Xq.o.set 0 (iI xp)).set 1 (iI xf)).set 2 (iI xk)⟩;have Hw1.heap.size:Hid (w0.heap.size<=w1.heap.size):=⟨Y.o.size⟩;clear q0 q1 q2 qf ql;go_wp2_with(go_at_call 43;refine(Xf.o _ _ Y.o.drew Xb.o).mono ?_;rintro e w3 ⟨rfl,s',hr,hs,-,ht⟩;have O:=ι (θ hr hs);have rx:=Xg.o.touch ht (Xj.o _ Hw1.heap.size.o);obtain⟨k0,k1,k2,kl⟩:=rx.k3;have r3:=Xl.o.touch hr.t Xu.o;have Xa:=ι r3;have z0:=r3.cc 0;have z1:=r3.cc 1;have z2:=r3.cc 2;have zf:=r3.free;have zl:=r3.lt;clear hr hs ht rx r3);have R3:=Rec.set (Rec.set (Rec.set Xa.o 0 (iI xp)) 1 (iI xf)) 2 (iI xk);refine ζK (v:=.tuple #[AJ ⟨xp,xf,xk⟩,iI re]) ?_ rfl ?_
   ·rw[results_cell_tmp rfl];have hl:=KL.o _ w.heap.size _ _ _ (R3.cc 0) (R3.cc 1) (R3.cc 2);simp[asAddr,Result.andThen,hl,AJ]
   ·exact⟨rfl,HOp.own Xm ⟨s',O.o.1,O.o.2⟩ (I6 _ _ _ _ _) ⟨ν _,by rw[L.o.2];omega⟩ L.o.1⟩
theorem YBx(n lo hi:Int)(hn:n<=9223372036854775807)(w:World):cQ 75 #[iI n,iI lo,iI hi] w (.bool (CK n&&decide (lo<=n)&&decide (n<=hi))):=by
 have HP:=(I8 n hn w);cases h1:CK n with
 | false=>
  go_enter func75,ntmps75;go_wp2_with(go_at_call 115;refine AM (HP) ?_);go_ret
  simp_all
 | true=>
  by_cases h2:lo<=n
  ·have d2:decide (lo<=n)=true:=κ h2;go_enter func75,ntmps75;go_wp2_with(go_at_call 115;refine AM (HP) ?_);go_ret
   simp_all
  ·have d2:decide (lo<=n)=false:=φ h2;go_enter func75,ntmps75;go_wp2_with(go_at_call 115;refine AM (HP) ?_);go_ret;exact⟨by rw[d2];rfl,rfl⟩
structure CfI where
 kd:Int
 pg:Int
 bk:Int
 wd:Int
 sl:Int
 st:Int
 ah:Int
 tr:Nat
def CfI.V(c:CfI):Value:=.agg #[iI c.kd,iI c.pg,iI c.bk,iI c.wd,iI c.sl,iI c.st,iI c.ah,.float .f64 c.tr]
def CfI.nat(c:CfI):HCf:=⟨c.kd.toNat,c.pg.toNat,c.bk.toNat,c.wd.toNat,c.sl.toNat,c.st.toNat,c.ah.toNat,c.tr⟩
def CfI.base(c:CfI):Bool:=
 decide (1<=c.kd)&&decide (c.kd<=3)&&DV c.pg 1 256&&DV c.bk 1 1024&&DV c.wd 16 131072&&decide (c.pg<=c.wd) &&
 (decide (1<=c.sl)&&decide (c.sl<=64)&&decide (1<=c.st)&&decide (c.st<=4096)&&decide (0<=c.ah)&&decide (c.ah<=16))
def CfI.may(c:CfI):Bool:=c.base&&decide (c.nat.fr<=4096)
theorem CfI.base_in{c:CfI}(h:c.base=true):(1<=c.kd/\c.kd<=3/\DV c.pg 1 256=true/\DV c.bk 1 1024=true/\DV c.wd 16 131072=true/\c.pg<=c.wd)/\(1<=c.sl/\c.sl<=64/\1<=c.st/\c.st<=4096/\0<=c.ah/\c.ah<=16):=by
 unfold CfI.base at h
 simp_all
theorem CfI.nat_V{c:CfI}(h:c.base=true):c.V=GS c.nat:=by
 obtain⟨⟨h1,h2,h3,h4,h5,h6⟩,h7,h8,h9,h10,h11,h12⟩:=CfI.base_in h;have t3:=JA h3;have t4:=JA h4;obtain⟨kd,pg,bk,wd,sl,st,ah,tr⟩:=c;obtain⟨kd,rfl⟩:∃n:Nat,kd=n:=⟨kd.toNat,by grind⟩;obtain⟨pg,rfl⟩:∃n:Nat,pg=n:=⟨pg.toNat,by grind⟩;obtain⟨bk,rfl⟩:∃n:Nat,bk=n:=⟨bk.toNat,by grind⟩;obtain⟨wd,rfl⟩:∃n:Nat,wd=n:=⟨wd.toNat,by grind⟩;obtain⟨sl,rfl⟩:∃n:Nat,sl=n:=⟨sl.toNat,by grind⟩;obtain⟨st,rfl⟩:∃n:Nat,st=n:=⟨st.toNat,by grind⟩;obtain⟨ah,rfl⟩:∃n:Nat,ah=n:=⟨ah.toNat,by grind⟩;rfl
theorem CfI.may_ok{c:CfI}(h:c.may=true):c.nat.Ok:=by
 unfold CfI.may at h;rw[ζe,ζd]at h;obtain⟨hb,hf⟩:=h;obtain⟨⟨h1,h2,h3,h4,h5,h6⟩,h7,h8,h9,h10,h11,h12⟩:=CfI.base_in hb;have t3:=JA h3;have t4:=JA h4;have t5:=JA h5;have e3:((c.pg.toNat:Nat):Int)=c.pg:=ξU Ω;have e4:((c.bk.toNat:Nat):Int)=c.bk:=ξU Ω;have e5:((c.wd.toNat:Nat):Int)=c.wd:=ξU Ω;refine⟨⟨?_,?_⟩,?_,?_,⟨?_,?_⟩,?_,?_,⟨?_,?_⟩,⟨?_,?_⟩,?_,hf⟩
 ·show 1<=c.kd.toNat;omega
 ·show c.kd.toNat<=3;omega
 ·show DY (c.pg.toNat:Int)=true
  unfold DY;rw[e3,<-UQ,κ t3.2.1,ξ2];unfold DV;rw[t3.2.2,κ t3.1,κ Ω];rfl
 ·show BG (c.bk.toNat:Int)=true
  rw[e4,<-UQ];exact h4
 ·show 16<=c.wd.toNat;omega
 ·show c.wd.toNat<=131072;omega
 ·show c.wd.toNat%c.pg.toNat=0
  exact V2o (by rw[e3];exact t3.2.2) (by rw[e5];exact t5.2.2) Ω Ω Ω
 ·show c.pg.toNat<=c.wd.toNat;omega
 ·show 1<=c.sl.toNat;omega
 ·show c.sl.toNat<=64;omega
 ·show 1<=c.st.toNat;omega
 ·show c.st.toNat<=4096;omega
 ·show c.ah.toNat<=16;omega
theorem QuJ(n lo hi:Int)(hn:n<=9223372036854775807)(w:World):cQ 75 #[iI n,iI lo,iI hi] w (.bool (DV n lo hi)):=YBx n lo hi hn w
theorem Y8(hbk:BG c.bk=true)(hp:1<=c.pg)(hah:c.ah<=16)(hwd:c.wd<=131072)(w:World):Calls prog 38 #[GS c] w λe w'=>e=.returned (iI c.fr)/\Gr w w':=by
 obtain⟨J,Z,V⟩:=HCf.q_in hbk hah;have HS:=(λ(W:World)=>Yny hbk hp hah W);have q1:((c.wd:Int).tdiv (c.pg:Int))=((c.wd/c.pg:Nat):Int):=rfl;have U:c.wd/c.pg<=c.wd:=ζ1 _ _;have HR:=(Rec.new w 40 (G0 c));have hF:c.fr=if c.kd=1 then c.wd/c.pg+c.spare else if c.kd=2 then 2*(c.wd/c.pg)else c.wd/c.pg:=rfl
 have Y:=((Gr.refl w).alloc (.cells (G0 c).toArray 40));generalize c.fr=fr at hF⊢;generalize c.spare=sp at V HS hF;generalize c.q=qq at J Z;generalize c.wd/c.pg=dd at q1 U hF;unfold GS at HS⊢;unfold G0 at *
 have c0:=HR.cc 0;have c1:=HR.cc 1;have c2:=HR.cc 2;have c3:=HR.cc 3;have c4:=HR.cc 4;have c5:=HR.cc 5;have c6:=HR.cc 6;have c7:=HR.cc 7
 have h3:(c.kd=1/\((c.kd:Int)==1)=true/\fr=dd+sp)\/(((c.kd:Int)==1)=false/\((c.kd:Int)==2)=true/\fr=2*dd)\/(((c.kd:Int)==1)=false/\((c.kd:Int)==2)=false/\fr=dd):=by
  grind
 rcases h3 with⟨-,h4,hf⟩|⟨h4,h5,hf⟩|⟨h4,h5,hf⟩
 ·go_enter func38,ntmps38;go_wp2_with(go_at_call 78;refine(HS _).mono ?_;rintro e w1 ⟨rfl,hg⟩;have HG:=hg);go_ret;exact⟨by simp_all,Y.trans HG⟩
 ·go_enter func38,ntmps38;go_wp2;go_ret;exact⟨by rw[hf];exact AL Ω,Y⟩
 ·go_enter func38,ntmps38;go_wp2;go_ret;exact⟨by rw[hf];rfl,Y⟩
theorem XVm{b1 b2 b3 b4 b5 b6 b7 b8 b9 b10 b11 b12:Bool}:b1=false\/(b1=true/\b2=false)\/(b1=true/\b2=true/\b3=false)\/(b1=true/\b2=true/\b3=true/\b4=false)\/(b1=true/\b2=true/\b3=true/\b4=true/\b5=false) ∨
  (b1=true/\b2=true/\b3=true/\b4=true/\b5=true/\b6=false)\/(b1=true/\b2=true/\b3=true/\b4=true/\b5=true/\b6=true/\b7=false)\/(b1=true/\b2=true/\b3=true/\b4=true/\b5=true/\b6=true/\b7=true/\b8=false) ∨
  (b1=true/\b2=true/\b3=true/\b4=true/\b5=true/\b6=true/\b7=true/\b8=true/\b9=false)\/(b1=true/\b2=true/\b3=true/\b4=true/\b5=true/\b6=true/\b7=true/\b8=true/\b9=true/\b10=false) ∨
  (b1=true/\b2=true/\b3=true/\b4=true/\b5=true/\b6=true/\b7=true/\b8=true/\b9=true/\b10=true/\b11=false)\/(b1=true/\b2=true/\b3=true/\b4=true/\b5=true/\b6=true/\b7=true/\b8=true/\b9=true/\b10=true/\b11=true/\b12=false) ∨
  (b1=true/\b2=true/\b3=true/\b4=true/\b5=true/\b6=true/\b7=true/\b8=true/\b9=true/\b10=true/\b11=true/\b12=true):=by
 grind
def CfI.Bd(c:CfI):Prop:=c.pg<=9223372036854775807/\c.bk<=9223372036854775807/\c.wd<=9223372036854775807
theorem VZi(c:CfI)(hb:c.Bd)(w:World):Calls prog 36 #[c.V] w λe w'=>e=.returned (iI (if c.may then 0 else 22))/\Gr w w':=by
 obtain⟨hb1,hb2,hb3⟩:=hb;have HM:Hid (c.may=(c.base&&decide (c.nat.fr<=4096))):=⟨rfl⟩
 have Z:Hid (c.base=(decide (1<=c.kd)&&decide (c.kd<=3)&&DV c.pg 1 256&&DV c.bk 1 1024&&DV c.wd 16 131072&&decide (c.pg<=c.wd) &&
  (decide (1<=c.sl)&&decide (c.sl<=64)&&decide (1<=c.st)&&decide (c.st<=4096)&&decide (0<=c.ah)&&decide (c.ah<=16)))):=⟨rfl⟩
 have Y:Hid (c.base=true->∀W,Calls prog 38 #[c.V] W λe w'=>e=.returned (iI c.nat.fr)/\Gr W w'):=⟨λh W=>by
  obtain⟨⟨h1,h2,h3,h4,h5,h6⟩,h7,h8,h9,h10,h11,h12⟩:=CfI.base_in h;have t3:=JA h3;have t4:=JA h4;have t5:=JA h5;rw[CfI.nat_V h];refine Y8 ?_ ?_ ?_ ?_ W
  ·show BG (c.bk.toNat:Int)=true
   rw[show ((c.bk.toNat:Nat):Int)=c.bk from ξU Ω,<-UQ];exact h4
  ·show 1<=c.pg.toNat;omega
  ·show c.ah.toNat<=16;omega
  ·show c.wd.toNat<=131072;omega⟩
 obtain⟨re,J⟩:∃re:Int,re=if c.may then 0 else 22:=⟨_,rfl⟩
 rw[<-J];generalize c.may=my at HM J;generalize c.base=ba at HM Z Y;generalize c.nat.fr=fr at HM Y;unfold CfI.V at Y⊢;have M:=((Gr.refl w).alloc (.cells #[.int .i64 c.kd,.int .i64 c.pg,.int .i64 c.bk,.int .i64 c.wd,.int .i64 c.sl,.int .i64 c.st,.int .i64 c.ah,.float .f64 c.tr] 40));have r:=Rec.new w 40 [iI c.kd,iI c.pg,iI c.bk,iI c.wd,iI c.sl,iI c.st,iI c.ah,.float .f64 c.tr];have c0:=r.cc 0;have c1:=r.cc 1;have c2:=r.cc 2;have c3:=r.cc 3;have c4:=r.cc 4;have c5:=r.cc 5;have c6:=r.cc 6;have c7:=r.cc 7;obtain⟨kd,pg,bk,wd,sl,st,ah,tr⟩:=c;dsimp only at *
 obtain⟨b1,D1⟩:∃b,decide (1<=kd)=b:=⟨_,rfl⟩;obtain⟨b2,D2⟩:∃b,decide (kd<=3)=b:=⟨_,rfl⟩;obtain⟨b3,D3⟩:∃b,DV pg 1 256=b:=⟨_,rfl⟩;obtain⟨b4,D4⟩:∃b,DV bk 1 1024=b:=⟨_,rfl⟩;obtain⟨b5,D5⟩:∃b,DV wd 16 131072=b:=⟨_,rfl⟩;obtain⟨b6,D6⟩:∃b,decide (pg<=wd)=b:=⟨_,rfl⟩;obtain⟨b7,D7⟩:∃b,decide (1<=sl)=b:=⟨_,rfl⟩;obtain⟨b8,D8⟩:∃b,decide (sl<=64)=b:=⟨_,rfl⟩;obtain⟨b9,D9⟩:∃b,decide (1<=st)=b:=⟨_,rfl⟩;obtain⟨N,L⟩:∃b,decide (st<=4096)=b:=⟨_,rfl⟩;obtain⟨O,E⟩:∃b,decide (0<=ah)=b:=⟨_,rfl⟩;obtain⟨I,D⟩:∃b,decide (ah<=16)=b:=⟨_,rfl⟩;rw[D1,D2,D3,D4,D5,D6,D7,D8,D9,L,E,D]at Z;rcases @XVm b1 b2 b3 b4 b5 b6 b7 b8 b9 N O I with rfl|⟨rfl,rfl⟩|⟨rfl,rfl,rfl⟩|⟨rfl,rfl,rfl,rfl⟩|⟨rfl,rfl,rfl,rfl,rfl⟩|⟨rfl,rfl,rfl,rfl,rfl,rfl⟩|⟨rfl,rfl,rfl,rfl,rfl,rfl,rfl⟩|⟨rfl,rfl,rfl,rfl,rfl,rfl,rfl,rfl⟩|⟨rfl,rfl,rfl,rfl,rfl,rfl,rfl,rfl,rfl⟩|⟨rfl,rfl,rfl,rfl,rfl,rfl,rfl,rfl,rfl,rfl⟩|⟨rfl,rfl,rfl,rfl,rfl,rfl,rfl,rfl,rfl,rfl,rfl⟩|⟨rfl,rfl,rfl,rfl,rfl,rfl,rfl,rfl,rfl,rfl,rfl,rfl⟩|⟨rfl,rfl,rfl,rfl,rfl,rfl,rfl,rfl,rfl,rfl,rfl,rfl⟩
 case' inr.inr.inr.inr.inr.inr.inr.inr.inr.inr.inr.inr=>
  have U:ba=true:=by rw[Z.o];rfl
  have HF:=(Y.o U)
  have hx:(decide (4096<(fr:Int))=true/\my=false)\/(decide (4096<(fr:Int))=false/\my=true):=by
   rw[HM.o,U,ξW];by_cases h:fr<=4096
   ·exact .inr ⟨φ Ω,κ h⟩
   ·exact .inl ⟨κ Ω,φ h⟩
  obtain⟨d,e⟩|⟨d,e⟩:=hx
 all_goals
  try(have e:my=false:=by rw[HM.o,Z.o];simp)
  try clear HM Z Y
  have HE:Hid (re=if my then 0 else 22):=⟨J⟩;rw[e]at HE;go_enter func36,ntmps36
  go_wp2_with(first
   | (go_at_call 75;refine AM (QuJ _ _ _ (by assumption) _) ?_)
   | (go_at_call 38;refine(HF _).mono ?_;rintro e w1 ⟨rfl,hg⟩;have HG:=hg))
  go_ret;exact⟨by rw[HE.o];rfl,by first|exact M.trans HG|exact M⟩
def Gph.nil(sl:Nat):Gph:=⟨[],List.replicate sl 0⟩
theorem Gph.nil_rd{sl:Nat}:¬(Gph.nil sl).Rd x:=λh=>h (λ_=>False) (λ_ hr h0=>h0 (ξu hr)) (λ_ h=>h.elim)
theorem Gph.nil_ok(sl:Nat):(Gph.nil sl).Ok:=⟨(λo ho=>by cases ho),(λo ho=>by cases ho),λy hy=>by rw[ξu hy];omega⟩
theorem Q6y{a:Nat}(ha:a<n)(h5:n%pg=0)(h6:1<=pg):(Vm.new n pg rm).ldE a≠0:=by
 have hd:n/pg*pg=n:=by grind [ζv,ζT]
 have e1:a/pg<n/pg:=(ζZ h6).2 Ω;unfold Vm.ldE;rw[μ ⟨ξ8 _,by exact_mod_cast ha⟩]
 show frE (List.replicate (n/pg) 0) ((a/pg:Nat):Int)≠0
 rw[LP (by simp_all),NA];decide
theorem ZzW{base:Nat}(h1:ES rm=true)(h2:DY pg=true)(h3:1<=n)(h4:n<=524288)(h5:n%pg=0)(hb:base%pg=0)(hn:base<=n)(h6:1<=pg):ShA base base (Vm.new n pg rm):=by
 refine⟨AF.new h1 h2 h3 h4 h5,hb,⟨ν _,hn⟩,λa ha=>⟨λh=>absurd h (Q6y ha h5 h6),λ⟨k1,k2⟩=>?_⟩⟩;have k2:a/pg*pg<base:=k2;have:=(GF (p:=a/pg) h6 hb).2 (ζc k1);omega
theorem Xei(hc:c.Ok):ES c.fr=true:=by
 have h1:=hc.fr;have h3:=hc.pw;have hp:=hc.pg1;have h4:1<=c.wd/c.pg:=(Nat.one_le_div_iff Ω).2 h3;have h5:1<=c.fr:=by unfold HCf.fr;grind
 unfold ES;simp;omega
theorem YRa(hc:c.Ok):c.pg+c.wd<=c.n/\c.n<=524288/\c.n%c.pg=0:=by
 have h2:=hc.wd;have h3:=hc.pw;have h4:=hc.dv;unfold HCf.n
 split
 ·refine⟨ν _,by omega,?_⟩
  simp_all
 ·refine⟨by omega,by omega,?_⟩;rw[ξO,Nat.add_mod_left,Nat.add_mod,h4];simp
theorem HIn.new(hc:c.Ok)(hrow:Rec w A.hp 83 (hpL c A none 0 0))(hrn:EW w A.rn A.q c.pg c.pg (c.pg+c.wd))(hrt:AR w A.r A.g (List.replicate c.sl 0))(hv:AD w X A.q (Vm.new c.n c.pg c.fr))(hT:AP w)
  (n1:A.hp≠A.r/\A.hp≠A.g/\A.hp≠A.rn/\A.hp≠1) (n2:A.r≠A.rn/\A.r≠1) (n3:A.g≠A.rn/\A.g≠1/\A.rn≠1)
  (hx:¬X A.hp/\¬X A.r/\¬X A.g/\¬X A.rn/\¬X 1):HIn w c (Gph.nil c.sl) ⟨A,X,c.pg,c.pg,Vm.new c.n c.pg c.fr,λ_=>0,none,0,0,0,0⟩:=by
 obtain⟨w1,w2,w3⟩:=YRa hc;have hp:=hc.pg1;refine⟨⟨hrow,hrn,?_,hT,n1,⟨λe=>hrt.dif e.symm,n2⟩,n3,hx⟩,⟨hv,⟨rfl,rfl,rfl⟩,ZzW (base:=c.pg) (n:=c.n) (Xei hc) hc.pg Ω w2 w3 (Nat.mod_self _) (show c.pg<=c.n by omega) hp,rfl⟩,⟨rfl,λx hx=>absurd hx Gph.nil_rd,λx hx=>absurd hx Gph.nil_rd,λx hx=>absurd hx Gph.nil_rd,λx hx=>absurd hx Gph.nil_rd,λx hx=>absurd hx Gph.nil_rd,λx y hx=>absurd hx Gph.nil_rd⟩,Gph.nil_ok _,hc,⟨ν _,ζL _ _⟩,.inl rfl,ζE⟩
 have:HSt.rs ⟨A,X,c.pg,c.pg,Vm.new c.n c.pg c.fr,λ_=>0,none,0,0,0,0⟩ (Gph.nil c.sl)=List.replicate c.sl 0:=by
  unfold HSt.rs Gph.nil
  simp_all
 simp_all
structure Zqv(w:World)(c:HCf)(s:HSt)(w':World):Prop where
 gr:Gr w w'
 i:HIn w' c (Gph.nil c.sl) s
 o:s.o=none
 lf:s.lf=0
 S:∀k,s.S k->w.heap.size<=k/\k<w'.heap.size
theorem QR7(h:DY (n:Int)=true):n<=256:=by
 unfold DY at h
 grind
theorem Xcy(c:CfI)(hb:c.Bd)(hm:c.may=true)(w:World)(hT:AP w):Calls prog 14 #[c.V] w λe w'=>∃s,e=.returned (.tuple #[pP s.A.hp,iI 0])/\Zqv w c.nat s w':=by
 have HC:=(λ(W:World)=>VZi c hb W);rw[hm]at HC;simp only[if_true]at HC;have Y:=CfI.may_ok hm;have Yf:c.base=true:=by unfold CfI.may at hm;simp at hm;exact hm.1
 rw[CfI.nat_V Yf]at HC⊢;generalize c.nat=d at Y HC⊢;clear hb hm Yf c;have Ys:=Y;have HT:=hT;obtain⟨p1,p2,p3⟩:=YRa Y;have hp:=Y.pg1;have hwd:=Y.wd;have hpw:=Y.pw;have Yq:=QR7 Y.pg;have Xg:=(λ(W:World)=>Y8 Y.bk hp Y.ah Ω W);have Xa:=(λ(W:World)=>ZEa (Xei Y) Y.pg (show 1<=d.n by omega) p2 p3 hp Yq W);have Yn:=(λ(W:World)=>YuH Y.sl.1 Y.sl.2 W)
 have hN:(d.kd=3/\((d.kd:Int) !=3)=false/\(d.n:Int)=(d.pg:Int)+d.wd)\/(d.kd≠3/\((d.kd:Int) !=3)=true/\(d.n:Int)=(d.pg:Int)+d.wd+d.wd):=by
  unfold HCf.n;by_cases h:d.kd=3
  ·exact .inl ⟨h,by rw[h];rfl,by rw[μ h];push_cast;rfl⟩
  ·exact .inr ⟨h,ψg.2 Ω,by rw[ϑ h];push_cast;rfl⟩
 have Yt:=(Rec.new w 40 (G0 d));have Zb:=((Gr.refl w).alloc (.cells (G0 d).toArray 40));obtain⟨n,hn⟩:∃n,n=d.n:=⟨_,rfl⟩;obtain⟨fr,Xr⟩:∃fr,fr=d.fr:=⟨_,rfl⟩;rw[<-hn]at hN Xa p1 p2;rw[<-Xr]at Xa Xg;have Xx:=ι (θ hn Xr);have Xv:=hT.lt;have Yj:=ι Xv;unfold GS at HC Xg⊢;unfold G0 at *
 clear Y hT p3 hn Xr;rcases hN with⟨-,k3,hN⟩|⟨-,k3,hN⟩
 all_goals
  rw[hN]at Xa;clear hN Xv;go_enter func14,ntmps14;go_upto_region 8 with(go_at_call 36;refine(HC _).mono ?_;rintro e w1 ⟨rfl,hg⟩;have Yl:=ι (Zb.trans hg);have r1:=Yt.gr hg;have Yd:=ι r1;obtain⟨c0,c1,c2,c3,c4,c5,c6,c7,cl⟩:=r1.k8;clear r1 hg);have I:=Rec.new w1 83 [iI d.kd,iI d.pg,iI d.bk,iI d.wd,iI d.sl,iI d.st,iI d.ah,.float .f64 d.tr,.pointer none,.pointer none,.pointer none,.pointer none,iI 0,iI 0];have Xc:=(Gr.refl w1).alloc (.cells #[.int .i64 d.kd,.int .i64 d.pg,.int .i64 d.bk,.int .i64 d.wd,.int .i64 d.sl,.int .i64 d.st,.int .i64 d.ah,.float .f64 d.tr,.pointer none,.pointer none,.pointer none,.pointer none,.int .i64 0,.int .i64 0] 83);have Xq:=β w1 (.cells #[.int .i64 d.kd,.int .i64 d.pg,.int .i64 d.bk,.int .i64 d.wd,.int .i64 d.sl,.int .i64 d.st,.int .i64 d.ah,.float .f64 d.tr,.pointer none,.pointer none,.pointer none,.pointer none,.int .i64 0,.int .i64 0] 83);obtain⟨w2,Yg⟩:∃w2,w2=w1.alloc (.cells #[.int .i64 d.kd,.int .i64 d.pg,.int .i64 d.bk,.int .i64 d.wd,.int .i64 d.sl,.int .i64 d.st,.int .i64 d.ah,.float .f64 d.tr,.pointer none,.pointer none,.pointer none,.pointer none,.int .i64 0,.int .i64 0] 83):=⟨_,rfl⟩;rw[<-Yg]at I Xc Xq⊢;have Xy:=ι I;have Yz:=ι Xc;have Xl:=ι Xq;have M:=ι (Yd.o.gr Xc);obtain⟨hb,Xj⟩:∃hb,hb=w1.heap.size:=⟨_,rfl⟩;rw[<-Xj]at Xy Xl⊢;have Xk:=ι Xj;clear I Xc Xq Yg Xj c0 c1 c2 c3 c4 c5 c6 c7 cl;have J:Hid (¬w.heap.size=hb):=⟨λe=>by have:=Yd.o.lt;rw[<-Xk.o]at this;omega⟩;obtain⟨Sx,Z,HS⟩:=AA.start λW'=>AB (λk=>k=hb) w2 W';have y0:=AA.fact Z λ_ h=>(M.o.touch h J.o).cell (j:=0) rfl;have y1:=AA.fact Z λ_ h=>(M.o.touch h J.o).cell (j:=1) rfl;have y2:=AA.fact Z λ_ h=>(M.o.touch h J.o).cell (j:=2) rfl;have y3:=AA.fact Z λ_ h=>(M.o.touch h J.o).cell (j:=3) rfl;have y4:=AA.fact Z λ_ h=>(M.o.touch h J.o).cell (j:=4) rfl;have y5:=AA.fact Z λ_ h=>(M.o.touch h J.o).cell (j:=5) rfl;have y6:=AA.fact Z λ_ h=>(M.o.touch h J.o).cell (j:=6) rfl;have y7:=AA.fact Z λ_ h=>(M.o.touch h J.o).cell (j:=7) rfl;have N:=HS.o _ ((Gr.refl w2).drew.touch _);have D:Inhabited (AA Sx):=⟨⟨_,N⟩⟩;clear Z;refine AW Sx 13 [([0,1,2,3,4],5),([],6),([7,8,9,10,11],12)] [] (by kernel_rfl) (by kernel_rfl) N ?_;refine AH ?_
  try simp only[AC,ζ,ξ]
  repeat(go_big_quiet_step (fail))
  refine ψ ?_;go_wp2_with((go_at_call 38;refine(Xg _).mono ?_;rintro e w3 ⟨rfl,hg⟩;have L:=ι ((Gr.refl w2).drew.trans hg);clear hg));refine⟨.inr (AA.of (HS.o _ (L.o.touch _))),?_⟩;refine AH ?_
  try simp only[AC,ζ,ξ]
  repeat(go_big_quiet_step (fail))
  refine ψ ?_;go_wp2_with((go_at_call 37;refine(Xa _).mono ?_;rintro e w4 ⟨q,rfl,hg,hv⟩;have Ym:=ι hv;have Xz:=ι hg;have Xe:=ι (L.o.trans hg);have r4:=Xy.o.gr (L.o.trans hg);have Yx:=ι r4;have z8:=r4.cc 8;have zf:=r4.free;have zl:=r4.lt;clear hg hv r4));refine⟨.inr (AA.of (HS.o _ (Xe.o.touch _))),?_⟩;refine AH ?_
  try simp only[AC,ζ,ξ]
  repeat(go_big_quiet_step (fail))
  refine ψ ?_;go_wp2_with(fail);refine⟨.inr (AA.of (HS.o _ ((Xe.o.touch (λk=>k=hb)).setCell (a:=⟨hb,8,none⟩) (λ_=>rfl) _))),?_⟩;refine CV ?_;clear y0 y1 y2 y3 y4 y5 y6 y7 N D;clear HS Sx;clear z8 zf zl;have Xh:=Yx.o.set 8 (pP q);have B:=(AB.refl (λk=>k=hb) w4).setCell (a:=⟨hb,8,none⟩) (λ_=>rfl) (pP q);obtain⟨w5,Yc⟩:∃w5,w5=w4.setCell ⟨hb,8,none⟩ (.pointer (some ⟨q,0,none⟩)):=⟨_,rfl⟩;rw[<-Yc]at Xh B⊢;have Yp:=ι Xh;have Xm:=ι B;have Xi:=(M.o.gr Xe.o).touch B J.o;have Yk:=ι Xi;have c4:=Xi.cc 4;clear Xh B Yc Xi;go_upto_region 10 with(go_at_call 39;refine(Yn _).mono ?_;rintro e w6 ⟨r,g,rfl,hg,hr,Ya,I⟩;have Xw:=ι (θ hr (θ Ya I));have O:=ι hg;have r6:=Yp.o.gr hg;have Yw:=ι r6;have z9:=r6.cc 9;have zf:=r6.free;have zl:=r6.lt;clear hg hr Ya I r6);clear z9 zf zl c4;have Xp:=Yw.o.set 9 (pP r);have Xd:=(AB.refl (λk=>k=hb) w6).setCell (a:=⟨hb,9,none⟩) (λ_=>rfl) (pP r);obtain⟨w7,Xu⟩:∃w7,w7=w6.setCell ⟨hb,9,none⟩ (.pointer (some ⟨r,0,none⟩)):=⟨_,rfl⟩;rw[<-Xu]at Xp Xd⊢;have Xb:=ι Xd;have Xs:Hid (Rec w7 hb 83 [iI d.kd,iI d.pg,iI d.bk,iI d.wd,iI d.sl,iI d.st,iI d.ah,.float .f64 d.tr,pP q,pP r,.pointer none,.pointer none,iI 0,iI 0]):=⟨Xp⟩;have Yb:=ι ((Yk.o.gr O.o).touch Xd J.o);clear Xp Xd Xu;have Xo:Hid (hb<w3.heap.size):=⟨by have:=L.o.size;rw[Xl.o]at this;rw[Xk.o]at this⊢;omega⟩
  have Yi:Hid (AD w7 (AE (λk=>w3.heap.size<=k) w4) q (Vm.new n d.pg fr)):=⟨by
   have h1:=Ym.o.cut.touch Xm.o (λk hk _ e=>by have:=hk.1;have:=Xo.o;omega)
   exact(h1.gr O.o).touch Xb.o (λk hk _ e=>by have:=hk.1;have:=Xo.o;omega)⟩
  have Yy:Hid (∀W,Gr w7 W->Calls prog 40 #[pP q,iI d.pg,iI ((d.pg:Int)+d.wd)] W λe w'=>∃rn,e=.returned (.tuple #[pP rn,iI 0])/\Gr W w'/\W.heap.size<=rn/\EW w' rn q d.pg d.pg (d.pg+d.wd)):=⟨λW gg=>by
   have:=YN8 (base:=d.pg) (lim:=d.pg+d.wd) (Yi.o.gr gg) (show n≠0 by omega) Ω (show d.pg+d.wd<=n from p1);rw[show (((d.pg+d.wd:Nat):Int))=(d.pg:Int)+d.wd by push_cast;rfl]at this
   exact this⟩
  obtain⟨Sx,Z,HS⟩:=AA.start λW'=>(∃v:Value,Rec W' hb 83 [iI d.kd,iI d.pg,iI d.bk,iI d.wd,iI d.sl,iI d.st,iI d.ah,.float .f64 d.tr,pP q,pP r,v,.pointer none,iI 0,iI 0])/\AB (λk=>k=hb) w7 W';have y8:=AA.fact Z λ_ h=>by obtain⟨⟨v,h⟩,-⟩:=h;exact h.cc 8
  have y1:=AA.fact Z λ_ h=>(Yb.o.touch h.2 J.o).cell (j:=1) rfl;have y3:=AA.fact Z λ_ h=>(Yb.o.touch h.2 J.o).cell (j:=3) rfl;have N:=HS.o _ (⟨⟨_,Xs.o.gr (Gr.refl w7).drew⟩,(Gr.refl w7).drew.touch _⟩);have D:Inhabited (AA Sx):=⟨⟨_,N⟩⟩;clear Z;refine AW Sx 19 [([0,1,2,3,4,5,6,7,8,9,10,11],12),([13,14,15,16,17],18)] [] (by kernel_rfl) (by kernel_rfl) N ?_;refine AH ?_
  try simp only[AC,ζ,ξ]
  repeat(go_big_quiet_step (fail))
  refine ψ ?_;go_wp2_with((go_at_call 40;refine(Yy.o _ (Gr.refl w7).drew).mono ?_;rintro e w8 ⟨rn,rfl,hg,G,Xt⟩;have U:=ι ((Gr.refl w7).drew.trans hg);have Yv:=ι (θ G Xt);have r8:=Xs.o.gr ((Gr.refl w7).drew.trans hg);have Xn:=ι r8;have Yo:=r8.cc 10;have zf:=r8.free;have zl:=r8.lt;clear hg G Xt r8));refine⟨.inr (AA.of (HS.o _ (⟨⟨_,Xn.o⟩,U.o.touch _⟩))),?_⟩;refine AH ?_
  try simp only[AC,ζ,ξ]
  repeat(go_big_quiet_step (fail))
  refine ψ ?_;go_wp2_with(fail);refine⟨.inr (AA.of (HS.o _ (⟨⟨_,Xn.o.set 10 (pP rn)⟩,(U.o.touch (λk=>k=hb)).setCell (a:=⟨hb,10,none⟩) (λ_=>rfl) _⟩))),?_⟩;refine CV ?_;clear y8 y1 y3 N D;clear HS Sx;clear Yo zf zl;go_wp2;go_ret2;have Yu:=Xn.o.set 10 (pP rn);have E:=(AB.refl (λk=>k=hb) w8).setCell (a:=⟨hb,10,none⟩) (λ_=>rfl) (pP rn);have Xf:=Yl.o;have z1:=Xf.size;have z2:=Xl.o;have z34:=Xz.o.size;have z3:=L.o.size;have hh:=Xk.o;have zt5:=Xm.o.size;have z56:=O.o.size;have zt7:=Xb.o.size;have z78:=U.o.size;obtain⟨Yh,l1,l2⟩:=Xw.o;obtain⟨Za,G⟩:=Yv.o;have l3:w7.heap.size<=rn:=Za;have lr:=Yh.lt;have Yr:=Yj.o;have lb:=Xo.o
  have Ye:Gr w (w8.setCell ⟨hb,10,none⟩ (.pointer (some ⟨rn,0,none⟩))):=by
   have t1:AB (λk=>k=hb) w2 _:=(((Xe.o.touch (λk=>k=hb)).trans Xm.o).trans (O.o.touch _)).trans ((Xb.o.trans (U.o.touch _)).trans E);have t2:AB (λk=>k=hb) w _:=((Xf.trans Yz.o).touch (λk=>k=hb)).trans t1;exact(t2.mono (T:=λ_=>False) (λk hk e=>by omega)).gr
  have hsz:w8.heap.size<=(w8.setCell ⟨hb,10,none⟩ (.pointer (some ⟨rn,0,none⟩))).heap.size:=E.size
  have hI:=HIn.new (w:=w8.setCell ⟨hb,10,none⟩ (.pointer (some ⟨rn,0,none⟩))) Ys (A:=⟨hb,q,r,g,rn⟩) (X:=AE (λk=>w3.heap.size<=k) w4) Yu (G.touch E (λe=>by omega)) (((Yh.touch Xb.o (λe=>by omega) (λe=>by omega)).gr U.o).touch E (λe=>by omega) (λe=>by omega))
   (by have:=((Yi.o.gr U.o).touch E (λk hk _ e=>by have:=hk.1;omega));rw[Xx.o.1,Xx.o.2]at this;exact this) (Ye.tab Yr HT)
   ⟨show hb≠r by omega,show hb≠g by omega,show hb≠rn by omega,show hb≠_ by omega⟩ ⟨show r≠rn by omega,show r≠_ by omega⟩ ⟨show g≠rn by omega,show g≠_ by omega,show rn≠_ by omega⟩
   ⟨λe=>by have:w3.heap.size<=hb:=e.1;omega,λe=>by have:r<w4.heap.size:=e.2;omega,λe=>by have:g<w4.heap.size:=e.2;omega,λe=>by have:rn<w4.heap.size:=e.2;omega,λe=>by have:w3.heap.size<=1:=e.1;omega⟩
  refine⟨_,rfl,Ye,hI,rfl,rfl,λk hk=>?_⟩;rcases hk with hk|hk|hk|hk|hk
  ·have h1:w3.heap.size<=k:=hk.1;have h2:k<w4.heap.size:=hk.2;omega
  ·have hk:k=hb:=hk;omega
  ·have hk:k=g:=hk;omega
  ·have hk:k=r:=hk;omega
  ·have hk:k=rn:=hk;have:=G.lt;omega
structure HLv(w0:World)(K:Nat->Prop)(c:HCf)(hb:Nat)(g:Gph)(w:World):Prop where
 gr:Gr w0 w
 ex:∃s:HSt,s.A.hp=hb/\HIn w c g s/\(s.o=none↔s.lf=0)/\∀k,s.S k->w0.heap.size<=k/\¬K k
 kl:∀k,K k->k<w.heap.size
def hlT(w0:World)(K:Nat->Prop)(k:Nat):Prop:=w0.heap.size<=k/\¬K k
section
variable{K':Nat->Prop}
theorem HSt.cut_S(h:HIn w c g s):∀k,(s.cut w).S k->s.S k/\k<w.heap.size:=λk hk=>by
 obtain⟨l1,l2,l3,l4,l5⟩:=h.com.lt;rcases hk with hk|hk|hk|hk|hk
 ·exact⟨.inl hk.1,hk.2⟩
 ·exact⟨.inr (.inl hk),by rw[hk];exact l1⟩
 ·exact⟨.inr (.inr (.inl hk)),by rw[hk];exact l3⟩
 ·exact⟨.inr (.inr (.inr (.inl hk))),by rw[hk];exact l2⟩
 ·exact⟨.inr (.inr (.inr (.inr hk))),by rw[hk];exact l4⟩
theorem HLv.own(h:HLv w0 K c hb g w)(gr:Gr w w')(hK:∀k,K' k->K k\/(w.heap.size<=k/\k<w'.heap.size)):HLv w0 K' c hb g w':=by
 obtain⟨h1,⟨s,e1,e2,e3,e4⟩,h3⟩:=h;refine⟨h1.trans gr,⟨s.cut w,e1,e2.cut.gr gr,e3,λk hk=>?_⟩,λk hk=>?_⟩
 ·obtain⟨k1,k2⟩:=HSt.cut_S e2 k hk
  grind
 ·rcases hK k hk with h4|h4
  ·exact υ (h3 k h4) gr.size
  ·exact h4.2
theorem HLv.get(h:HLv w0 K c hb g w)(gr:Gr w w'):HLv w0 K c hb g w':=h.own gr (λ_ h=>.inl h)
theorem HLv.touch(h:HLv w0 K c hb g w)(t:AB (λk=>K k/\w0.heap.size<=k) w w')(ht:1<w0.heap.size):HLv w0 K c hb g w':=by
 obtain⟨h1,⟨s,e1,e2,e3,e4⟩,h3⟩:=h;refine⟨?_,⟨s,e1,e2.touch t (λk _ hk=>⟨λhs=>(e4 k hs).2 hk.1,λe=>by have:=hk.2;omega⟩),e3,e4⟩,λk hk=>υ (h3 k hk) t.size⟩;exact((h1.touch (λk=>K k/\w0.heap.size<=k)).trans t |>.mono (T:=λ_=>False) (λk hk e=>by have:=e.2;omega)).gr
theorem HLv.res(h1:Gr w0 w)(h3:∀k,K k->k<w.heap.size)(e1:s.A.hp=hb)(e4:∀k,s.S k->w0.heap.size<=k/\¬K k)(r:BA w c s g' s' w'):AB (hlT w0 K) w w'/\HLv w0 K c hb g' w':=by
 have t:AB (hlT w0 K) w w':=r.t.mono (λk _ hk=>e4 k hk);refine⟨t,?_,⟨s',by rw[r.hp];exact e1,r.i,r.o,λk hk=>?_⟩,λk hk=>υ (h3 k hk) t.size⟩
 ·exact((h1.touch (hlT w0 K)).trans t |>.mono (T:=λ_=>False) (λk hk e=>by have:=e.1;omega)).gr
 ·rcases r.S k hk with hk|hk
  ·exact e4 k hk
  ·exact⟨by have:=h1.size;omega,λh=>by grind⟩
theorem HLv.new(r:Zqv w0 c s w'):HLv w0 (λ_=>False) c s.A.hp (Gph.nil c.sl) w':=
 ⟨r.gr,⟨s,rfl,r.i,⟨λ_=>r.lf,λ_=>r.o⟩,λk hk=>⟨(r.S k hk).1,id⟩⟩,λ_ h=>h.elim⟩
theorem HLv.alloc(h:HLv w0 K c hb g w)(a:Int)(x:Hdr):Calls prog 32 #[pP hb,iI a,AJ x] w λe w'=>e=.returned (iI (g.alE c.wd a x))/\AB (hlT w0 K) w w'/\HLv w0 K c hb (g.alG c.wd a x) w':=by
 obtain⟨h1,⟨s,rfl,e2,e3,e4⟩,h3⟩:=h;refine(J6F e2 e3 a x).mono ?_;rintro e w' ⟨rfl,s',r⟩;exact⟨rfl,HLv.res h1 h3 rfl e4 r⟩
end
def HLo(w0:World)(K:Nat->Prop)(c:HCf)(hb:Nat)(w:World)(v:Value)(g':Gph)(e:Ending)(w':World):Prop:=e=.returned v/\AB (hlT w0 K) w w'/\HLv w0 K c hb g' w'
section
variable{v:Value}{f:FuncId}{args:Array Value}
theorem HLv.of_op(h:HLv w0 K c hb g w)(hc:∀s:HSt,s.A.hp=hb->HIn w c g s->(s.o=none↔s.lf=0)->Calls prog f args w λe w'=>e=.returned v/\HOp w c s g' w'):Calls prog f args w (HLo w0 K c hb w v g'):=by
 obtain⟨h1,⟨s,e1,e2,e3,e4⟩,h3⟩:=h;refine(hc s e1 e2 e3).mono ?_;rintro e w' ⟨rfl,s',r,-⟩;exact⟨rfl,HLv.res h1 h3 e1 e4 r⟩
theorem HLv.getW(h:HLv w0 K c hb g w)(a i:Int):Calls prog 65 #[pP hb,iI a,iI i] w (HLo w0 K c hb w (.tuple #[uU (g.fdV a i 3:Nat),iI (g.fdE a i 3)]) g):=h.of_op (λ_ e1 e2 e3=>e1▸J4u e2 e3 a i)
theorem HLv.getF(h:HLv w0 K c hb g w)(a i:Int):Calls prog 64 #[pP hb,iI a,iI i] w (HLo w0 K c hb w (.tuple #[.float .f64 (g.fdV a i 2),iI (g.fdE a i 2)]) g):=h.of_op (λ_ e1 e2 e3=>e1▸QNL e2 e3 a i)
theorem HLv.setW(h:HLv w0 K c hb g w)(a i:Int)(hx:x<18446744073709551616):Calls prog 34 #[pP hb,iI a,iI i,uU x] w (HLo w0 K c hb w (iI (g.fdE a i 3)) (g.wrG a i 3 x)):=h.of_op (λ_ e1 e2 e3=>e1▸Vld e2 e3 a i hx)
theorem HLv.setF(h:HLv w0 K c hb g w)(a i:Int)(hx:x<18446744073709551616):Calls prog 33 #[pP hb,iI a,iI i,.float .f64 x] w (HLo w0 K c hb w (iI (g.fdE a i 2)) (g.wrG a i 2 x)):=h.of_op (λ_ e1 e2 e3=>e1▸Xe2 e2 e3 a i hx)
theorem HLv.load(h:HLv w0 K c hb g w)(a b i:Int):Calls prog 25 #[pP hb,iI a,iI b,iI i] w (HLo w0 K c hb w (iI (g.loE a b i)) (g.loG a b i)):=h.of_op (λ_ e1 e2 e3=>e1▸V9V e2 e3 a b i)
theorem HLv.stor(h:HLv w0 K c hb g w)(a i b:Int):Calls prog 59 #[pP hb,iI a,iI i,iI b] w (HLo w0 K c hb w (iI (g.stE a i b)) (g.stG a i b)):=h.of_op (λ_ e1 e2 e3=>e1▸QmE e2 e3 a i b)
theorem HLv.copy(h:HLv w0 K c hb g w)(a b:Int):Calls prog 60 #[pP hb,iI a,iI b] w (HLo w0 K c hb w (iI (g.two a b 0)) (g.cpG a b)):=h.of_op (λ_ e1 e2 e3=>e1▸Xxc e2 e3 a b)
theorem HLv.clr(h:HLv w0 K c hb g w)(a:Int):Calls prog 23 #[pP hb,iI a] w (HLo w0 K c hb w (iI (g.slE a)) (g.clG a)):=h.of_op (λ_ e1 e2 e3=>e1▸JfK e2 e3 a)
theorem HLv.shap(h:HLv w0 K c hb g w)(a:Int):Calls prog 61 #[pP hb,iI a] w (HLo w0 K c hb w (.tuple #[AJ (g.shH a),iI (g.shE a)]) g):=h.of_op (λ_ e1 e2 e3=>e1▸VcO e2 e3 a)
theorem HLv.allo(h:HLv w0 K c hb g w)(a:Int)(x:Hdr):Calls prog 32 #[pP hb,iI a,AJ x] w (HLo w0 K c hb w (iI (g.alE c.wd a x)) (g.alG c.wd a x)):=h.alloc a x
end
theorem HIn.fd_lt(h:HIn w c g s)(a i kd:Int)(hk:kd=2\/kd=3):g.fdV a i kd<18446744073709551616:=by
 unfold Gph.fdV
 split
 ·rename_i he;unfold Gph.fdE at he
  split at he
  ·rename_i h1
   split at he
   ·exact absurd he (by decide)
   ·rename_i h2
    split at he
    ·exact absurd he (by decide)
    ·rename_i h3
     split at he
     ·rename_i h4;have hr:g.Rd (g.at a):=(Gph.at_ro h1).resolve_left h2;have hb:=h.gok.rd hr;obtain⟨hl,hs⟩:=h.gok.len _ (Gph.ob_mem hb.1 hb.2);have hN:B9 (g.ob (g.at a)).hdr=1+((g.ob (g.at a)).p:Int)+(g.ob (g.at a)).f+(g.ob (g.at a)).k:=μ (EE hs);rw[<-h4]at hk;unfold BJ at hk;rw[hN]at hk
      split at hk
      ·rename_i h5
       split at hk
       ·omega
       ·rename_i h6;have h6:¬i<((g.ob (g.at a)).p:Int):=h6;have hw:=h.img.wd _ hr i.toNat Ω Ω;have h9:=h.mem.ok.ldV_lt ((s.F (g.at a)+1+i.toNat:Nat):Int);rw[hw.2]at h9;exact h9
      ·omega
     ·exact absurd he (by decide)
  ·exact absurd he (by decide)
 ·decide
theorem HLv.fd_lt(h:HLv w0 K c hb g w)(a i kd:Int)(hk:kd=2\/kd=3):g.fdV a i kd<18446744073709551616:=by
 obtain⟨h1,⟨s,e1,e2,e3,e4⟩,h3⟩:=h;exact e2.fd_lt a i kd hk
end Go.Proofs.YtggjoonlcjjgkaaGreatDoor
