/- Lemmas. -/
import Derived.Test.YtcihfnpokdbfpaaGreatDoorTwoK
import Derived.Laws.FloatArith
namespace Go.Proofs.YtcihfnpokdbfpaaGreatDoor
open _root_.Go.Proofs.Tryz
set_option maxHeartbeats 6400000
set_option maxRecDepth 100000
open Go.RowKit Go.Shelf Word
variable{g g':Gph}{A:HAd}{c:HCf}{s s':HSt}{a:Int}{p:List MemPlace}{L:List Ob}{b b0 f k n pg rm top x:Nat}{F:Nat->Nat}{X:Nat->Prop}{H:Type}{u v v':Vm}{W w w' w0 w1 w2 w3:World}
theorem VsG{B m:Nat}(hB:1<=B)(h:n<=m)(hm:m%B=0):upN n B<=m:=by
 have e:m=m/B*B:=by grind [ζo,ζA]
 have h1:(n+B-1)/B<m/B+1:=by
  rw[ζC Ω,ζP,ξl,<-e];omega
 have h2:=ζj B (Nat.le_of_lt_succ h1)
 show (n+B-1)/B*B<=m
 omega
theorem N0{fr tp:Nat}(hg:AS n L)(h:∀o∈L,fr<=o.1/\o.1+o.2<=tp)(h2:fr<=tp):fr+AC L<=tp:=by
 rcases ζF L.length with h0|h0
 ·have:L=[]:=ζy h0;subst this
  assumption
 ·have hj:L.length-1<L.length:=Ω
  have h1:=UJ hg (λo ho=>(h o ho).1) hj;have h3:=h _ (χ hj);have h4:=F4 (L:=L) (j:=L.length-1) hj
  grind
theorem HCf.Ok.pg1(h:c.Ok):1<=c.pg:=by
 have h1:=h.pg;unfold EX at h1;rw[ζd]at h1;have:=DR h1.1;omega
theorem HIn.cf(h:HIn w c g s)(hk:c.kd≠3)(hv:HVm c v):IY v.pl.pg v.n (DJ c s.base s.top (c.ot s.base)):=by
 have k:=h.cok;have U:=h.ot;have Y:=h.bt;have hn:v.n=c.pg+c.wd+c.wd:=by rw[hv.n];exact ψ hk
 have Z:=hv.pg;have J:=k.pg1;have d0:c.pg%c.pg=0:=Nat.mod_self _;have d1:(c.pg+c.wd)%c.pg=0:=by rw[Nat.add_mod,d0,k.dv];simp
 have d2:(c.pg+c.wd+c.wd)%c.pg=0:=by rw[Nat.add_mod,d1,k.dv];simp
 rw[Z,hn];unfold DJ;refine⟨k.bk,k.st,k.ah,?_,Y.1,?_,?_,ζT _ _,?_,?_,?_,?_,?_⟩ <;> dsimp only
 ·omega
 ·omega
 ·omega
 ·omega
 ·grind
 ·grind
 ·grind
 ·rcases U with⟨e,e2⟩|⟨e,e2⟩
  ·have:=VsG (n:=s.top) (m:=c.pg+c.wd) J Ω d1;omega
  ·omega
theorem HIn.rch(h:HIn w c g s)(hn:s.top<=n):∃L,BO s.u (s.rs g) n L/\(∀o∈L,s.base<=o.1/\o.1+o.2<=s.top)/\GI s.u L/\s.base+AC L<=s.top/\AC L=g.words/\L.length=g.all.length:=by
 obtain⟨L,hM⟩:=h.img.marks h.gok hn;have Y:=h.img.inn h.gok hM;exact⟨L,hM,Y,h.img.full h.gok hM,N0 hM.mkd.good Y h.bt.1,h.img.words h.gok hM,h.img.count h.gok hM⟩
theorem HIn.opnd(h:HIn w c g s)(hk:c.kd=1)(hv:HVm c v)(hok:AH v)(hsh:ShA s.base s.top v)(hu:v=s.u)(hI:FI v (s.rs g) s.base s.top L){j:Nat}
  (hU:FN (A8 v (DJ c s.base s.top (c.ot s.base)) L) v v' (s.base/v.pl.pg) j) (hj:s.top<=(s.base/v.pl.pg+j)*v.pl.pg):
  AC L=g.words/\BV (A8 v (DJ c s.base s.top (c.ot s.base)) L) v'/\c.ot s.base+AC L<=c.ot s.base+c.wd/\∃u,HpA (c.ot s.base+AC L) u (A8 v (DJ c s.base s.top (c.ot s.base)) L) v' ∧
   Img u g (λx=>(toV L (c.ot s.base) (s.F x)).toNat) (c.ot s.base) (c.ot s.base+AC L)/\(s.rs g).map (toV L (c.ot s.base))=g.S.map (λx=>(((toV L (c.ot s.base) (s.F x)).toNat:Nat):Int)):=by
 have V:=h.cf Ω hv;have hM:BO v (s.rs g) v.n L:=hI.1;have O:∀o∈L,s.base<=o.1/\o.1+o.2<=s.top:=λo ho=>by have:=hI.2 o ho;omega
 have Y:Img v g s.F s.base s.top:=by rw[hu];exact h.img
 have Z:=Y.full h.gok hM;have hle:=N0 hM.mkd.good O h.bt.1;have I:=h.bt
 have U:AC L<=(DJ c s.base s.top (c.ot s.base)).lm-(DJ c s.base s.top (c.ot s.base)).to:=by
  show AC L<=c.ot s.base+c.wd-c.ot s.base
  omega
 have M:=hv.pg;have hus:=hsh.used (W:=c.wd) (by rw[M];exact h.cok.dv) I.2
 have E:v.pl.used+(c.ah+2)*(max 1 (c.bk/v.pl.pg)+3)<=v.pl.rm:=by
  have e:v.pl.rm=c.wd/c.pg+(c.ah+2)*(max 1 (c.bk/c.pg)+3):=by
   rw[hv.rm];unfold HCf.fr;rw[θ hk];rfl
  simp_all
 obtain⟨hO,u,hA⟩:=Jap hok V hI U Z hU hj (λp hp hne=>(hsh.map hp).1 hne) E
 ·have J:=XUb (v:=v) (gv:=u) (c:=DJ c s.base s.top (c.ot s.base)) hM hok.n2 (λi hi=>⟨hA.un _ (by have h1:c.ot s.base+c.wd<=v.n:=V.ln;show c.ot s.base+i<v.n;omega),hA.c i hi⟩);have N:1<=c.ot s.base:=by have:=h.cok.pg1;rcases h.ot with⟨e,-⟩|⟨e,-⟩ <;> omega
  refine⟨Y.words h.gok hM,hO,by omega,u,hA,Y.moved h.gok J N ?_,Y.roots J⟩;have:=h.cok.wd;have:=h.cok.pw;rcases h.ot with⟨e,-⟩|⟨e,-⟩ <;> omega
def WI(w:World)(c:HCf)(g:Gph)(s:HSt)(w':World):Prop:=∃s',BK w c s g s' w'/\s'.cyc=(if s'.lf=0 then wrap64 (s.cyc+1)else s.cyc)/\s'.top=s'.base+g.words/\s'.lf=nbl g.words c.bk
theorem HIn.opn(h:HIn w c g s)(hn:s.o=none)(hk:c.kd=1)(hg1:Gr w w1){e:Ending}(hO:SL w1 (AD s.X w) s.A.q s.A.r s.A.g s.u (s.rs g) (DJ c s.base s.top (c.ot s.base)) e w2):
  ∃y,e=.returned (.tuple #[pP y,iI 0])/\Rec w2 s.A.hp 104 (hpL c s.A none s.cyc s.blk) ∧
   (∀w3,w3=w2.setCell ⟨s.A.hp,11,none⟩ (.pointer (some ⟨y,0,none⟩)) →
    (∀W,Gr w3 W->Calls prog 122 #[pP y] W λe W'=>e=.returned (iI ((c.ot s.base+g.words:Nat):Int))/\Gr W W') ∧
    (∀W,Gr w3 W->Calls prog 56 #[pP s.A.hp,iI (c.ot s.base:Nat),iI ((c.ot s.base+g.words:Nat):Int)] W λe W'=>e=.returned (.tuple #[]) ∧
     Calls prog 62 #[pP s.A.hp] W' λe w'=>e=.returned (.tuple #[])/\WI w c g s w')):=by
 have hm:=h.mem;rw[hn]at hm;obtain⟨hV,hv,Xc,hlf⟩:=hm;obtain⟨hT,hO⟩:=hO;have Xj:=h.rch (n:=s.u.n) (by have:=Xc.bt;omega);obtain⟨L0,hL0,hin0,-,hle0,hw0,-⟩:=Xj;have hbt:=h.bt;obtain⟨l1,l2,l3,l4,l5⟩:=h.com.lt;have G:=hg1.size;have hS:∀k,k<w1.heap.size->(k=s.A.g\/AD s.X w k)->k=s.A.g\/s.X k:=λk _ hk=>hk.imp id (λh=>h.1);have J:AB (λk=>k=s.A.g\/s.X k) w w2:=(hg1.touch _).trans (hT.mono hS);have hx:=h.com.x
 have M:Rec w2 s.A.hp 104 (hpL c s.A none s.cyc s.blk):=by
  have:=h.com.row;rw[hn]at this;exact this.touch J (λhk=>hk.elim h.com.n1.2.1 hx.1)
 obtain⟨L,hI,hfit,y,z,R,S',v',j,rfl,D,Xh,Xi,hR,hU,hj,-,Xk⟩:=hO
 ·obtain⟨hw,hO,hle,u,hA,E,U⟩:=h.opnd hk hv hV.ok Xc rfl hI hU hj;refine⟨y,rfl,M,λw3 e3=>?_⟩;have hz2:=J.size;have Xf:=D.od.lt;have t3:AB (λk=>k=s.A.hp) w2 w3:=by rw[e3];exact(AB.refl (λk=>k=s.A.hp) w2).setCell (a:=⟨s.A.hp,11,none⟩) (λ_=>rfl) _
  have hz3:=t3.size;have Xb:∀k,R k->w1.heap.size<=k:=λk hk=>(hR k hk).1;have Xe:∀k,S' k->(s.X k/\k<w.heap.size)\/w1.heap.size<=k:=λk hk=>Xi k hk
  have Y:∀k,k<w.heap.size->¬s.X k->¬(R k\/AD S' w2 k):=λk hk hn h2=>by
   rcases h2 with h2|h2
   ·have:=Xb k h2;omega
   ·rcases Xe k h2.1 with h3|h3
    ·exact hn h3.1
    ·omega
  have O:Rec w3 s.A.hp 104 (hpL c s.A (some y) s.cyc s.blk):=by
   rw[e3];exact M.set 11 (pP y)
  have n1:=h.com.n1;have n2:=h.com.n2;have n3:=h.com.n3
  have I:CM w3 (λk=>R k\/AD S' w2 k) s.A c s.base s.top ((s.rs g).map (toV L (c.ot s.base))) (some y) s.cyc s.blk:=
   ⟨O,(h.com.rn.touch J (λhk=>hk.elim (λe=>n3.1 e.symm) hx.2.2.2.1)).touch t3 (λe=>n1.2.2.1 e.symm),Xk.touch t3 (λe=>n1.1 e.symm) (λe=>n1.2.1 e.symm),
    t3.tab (J.tab l5 (λhk=>hk.elim (λe=>n3.2.1 e.symm) hx.2.2.2.2) h.com.tab).lt (λe=>n1.2.2.2 e.symm) (J.tab l5 (λhk=>hk.elim (λe=>n3.2.1 e.symm) hx.2.2.2.2) h.com.tab),n1,n2,n3,Y _ l1 hx.1,Y _ l2 hx.2.1,Y _ l3 hx.2.2.1,Y _ l4 hx.2.2.2.1,Y _ l5 hx.2.2.2.2⟩
  have V:AE w3 (AD S' w2) s.A.q v':=Xh.cut.touch t3 (λk hk _ e=>Y _ l1 hx.1 (.inr (e▸hk)));have N:Cyc w3 R y s.A.q z (A8 s.u (DJ c s.base s.top (c.ot s.base)) L):=D.touch t3 (λk hk e=>Y _ l1 hx.1 (.inl (e▸hk)));have Xg:HVm c v':=⟨hU.n.trans hv.n,hU.pg.trans hv.pg,hU.rm.trans hv.rm⟩;have Xd:c.ot s.base+c.wd<=v'.n:=by rw[hU.n];exact(h.cf Ω hv).ln
  have hwd:=h.cok.wd;refine⟨λW gW=>?_,λW gW=>?_⟩
  ·have k:BB prog 122 #[pP y] W (iI (((c.ot s.base:Nat):Int)+(AC L:Nat))):=YCd (N.gr gW);rw[hw,show ((c.ot s.base:Nat):Int)+(g.words:Nat)=((c.ot s.base+g.words:Nat):Int)by omega]at k;exact k
  ·refine(XQQ (b:=c.ot s.base) (t:=c.ot s.base+g.words) (I.gr gW) (V.gr gW) (ζT _ _) Ω Xd Ω (λk hk=>?_)).mono ?_
   ·have:=gW.size;rcases hk with hk|hk
    ·have:=Xf k hk;omega
    ·have:=hk.2;omega
   ·rintro e W' ⟨rfl,rn,hrn,t4,Z⟩;refine⟨rfl,?_⟩;have hgs:=gW.size;have t5:AB (λk=>k=s.A.hp) w2 W':=(t3.trans (gW.touch _)).trans t4;have Xa:∀k,R k\/AD S' w2 k->k≠s.A.hp:=λk hk e=>Y _ l1 hx.1 (e▸hk);have t6:AB (λk=>k=s.A.hp) w3 W':=(gW.touch _).trans t4
    have hI:HIn W' c g {A:={s.A with rn:=rn},X:=λk=>R k\/AD S' w2 k,base:=c.ot s.base,top:=c.ot s.base+g.words,u:=u,F:=λx=>(toV L (c.ot s.base) (s.F x)).toNat,o:=some y,lf:=(A8 s.u (DJ c s.base s.top (c.ot s.base)) L).lf,nb:=(A8 s.u (DJ c s.base s.top (c.ot s.base)) L).mv.length,cyc:=s.cyc,blk:=s.blk}:=by
     refine⟨?_,⟨z,A8 s.u (DJ c s.base s.top (c.ot s.base)) L,v',R,AD S' w2,⟨N.touch t6 (λk hk=>Xa k (.inl hk)),V.touch t6 (λk hk _=>Xa k (.inr hk)),Xg,hO,?_,λ_ h=>h,λk hk hk2=>(hR k hk).2 hk2.1,Z.tab,λhk=>Y _ l5 hx.2.2.2.2 (.inl hk),λhk=>Y _ l5 hx.2.2.2.2 (.inr hk),rfl,rfl,rfl,rfl,hk⟩,rfl,rfl⟩,?_,h.gok,h.cok,?_,?_,h.sl⟩
     ·rw[U]at Z;exact Z
     ·rw[<-hw];exact hA
     ·rw[<-hw];exact E
     ·show c.ot s.base<=c.ot s.base+g.words/\c.ot s.base+g.words<=c.ot s.base+c.wd
      omega
     ·rcases h.ot with⟨e,-⟩|⟨e,-⟩
      ·exact .inr ⟨e,by omega⟩
      ·exact .inl e
    refine(XH hI).mono ?_;rintro e w' ⟨rfl,s',h1⟩;refine⟨rfl,s',⟨?_,h1.i,by rw[h1.A],λk hk=>?_,h1.o⟩,?_,?_,by rw[h1.lf,<-hw];exact JnF _ _ _⟩
    ·exact((J.mono (λk _ hk=>hk.elim (λe=>.inr (.inr (.inl e))) .inl)).trans' t5 (λk _ e=>.inr (.inl e))).trans' h1.t (λk _ e=>.inr (.inl e))
    ·have hq:∀k,R k\/AD S' w2 k->plus s.S w k:=λk hk=>by
      rcases hk with hk|hk
      ·exact .inr (ω G (Xb k hk))
      ·rcases Xe k hk.1 with h3|h3
       ·exact .inl (.inl h3.1)
       ·exact .inr (ω G h3)
     rcases hk with hk|hk|hk|hk|hk
     ·exact hq k (h1.X k hk)
     ·rw[h1.A]at hk;exact .inl (.inr (.inl hk))
     ·rw[h1.A]at hk;exact .inl (.inr (.inr (.inl hk)))
     ·rw[h1.A]at hk;exact .inl (.inr (.inr (.inr (.inl hk))))
     ·rw[h1.A]at hk;refine .inr ?_;have:k=rn:=hk;omega
    ·rw[h1.cyc,h1.lf];by_cases h0:(A8 s.u (DJ c s.base s.top (c.ot s.base)) L).lf=0
     ·exact(θ ⟨by simp,h0⟩).trans (θ h0).symm
     ·exact(ψ (λhh=>h0 hh.2)).trans (ψ h0).symm
    ·rw[h1.K.top,h1.K.base]
theorem VF(h:HIn w c g s)(hn:s.o=none)(hk:c.kd=1):Calls prog 53 #[pP s.A.hp] w λe w'=>e=.returned (.tuple #[])/\WI w c g s w':=by
 have M:=ι (VZS h);have hm:=h.mem;rw[hn]at hm;obtain⟨hV,hv,Xh,Xq⟩:=hm;obtain⟨l1,l2,l3,l4,l5⟩:=h.com.lt;have hx:=h.com.x;obtain⟨L0,Xy,Xa,-,-,-,-⟩:=h.rch (n:=s.u.n) (by have:=Xh.bt;omega)
 have E:=ι (λ(W:World) (gg:Gr w W)=>VBz (hV.cut.gr gg) (h.com.rt.gr gg) (gg.tab l5 h.com.tab) (λhk=>hx.2.2.2.2 hk.1) (λhk=>hx.2.1 hk.1) (λhk=>hx.2.2.1 hk.1) (h.cf Ω hv) (λe=>h.com.n3.2.1 e.symm) ⟨L0,Xy,λo ho=>by have:=Xa o ho;show (s.base:Int)<=_/\_<=(s.top:Int);omega⟩ (λL hI=>by
  have h1:=N0 hI.1.mkd.good (fr:=s.base) (tp:=s.top) (λo ho=>by have h2:(s.base:Int)<=(o.1:Int)/\(o.1:Int)+o.2<=(s.top:Int):=hI.2 o ho;omega) h.bt.1;have h2:=h.bt
  show AC L<=c.ot s.base+c.wd-c.ot s.base
  omega))
 have I:=(λ(W1 W2:World) (gg:Gr w W1) (e:Ending) (hO:SL W1 (AD s.X w) s.A.q s.A.r s.A.g s.u (s.rs g) (DJ c s.base s.top (c.ot s.base)) e W2)=>h.opn hn hk gg hO);have HC:=(λ(W:World) (gg:Gr w W)=>(h.com.gr gg).row);have c0:=h.com.row.lt;simp only[hn]at HC;obtain⟨ap,hp⟩:=ε s.A.hp;rw[<-hp]at M I HC c0⊢;obtain⟨d,hd⟩:=ε (c.ot s.base);rw[<-hd]at M I E;have Xc:Hid (Calls prog 54 #[pP ap] w λe w'=>e=.returned (.agg #[iI s.base,iI s.top,iI d,iI ((d+c.wd:Nat):Int),iI c.bk,iI c.st,iI c.ah])/\Gr w w'):=M;have Xf:Hid (∀W,Gr w W->Calls prog 121 #[pP s.A.q,pP s.A.r,.agg #[iI s.base,iI s.top,iI d,iI ((d+c.wd:Nat):Int),iI c.bk,iI c.st,iI c.ah]] W (SL W (AD s.X w) s.A.q s.A.r s.A.g s.u (s.rs g) (DJ c s.base s.top d))):=E;clear M E;have Xs:=ι (ξ hp l3);clear h hn hk hV hv Xh Xq l1 l2 l3 l4 l5 hx hp hd;go_in;go_upto_region 1 with(go_at_call 54;refine Qb (Xc.o) λw1 N=>?_);have Xe:=(Gr.refl w1).alloc (.cells #[.int .i64 s.base,.int .i64 s.top,.int .i64 d,.int .i64 ((d+c.wd:Nat):Int),.int .i64 c.bk,.int .i64 c.st,.int .i64 c.ah] 113);have Xk:=ι (Rec.new w1 113 [iI s.base,iI s.top,iI d,iI ((d+c.wd:Nat):Int),iI c.bk,iI c.st,iI c.ah]);have HGA:=ι Xe.drew;have G:=ι (N.o.trans Xe).drew;obtain⟨Sx,Y,HS⟩:=AA.start λW'=>(Rec W' ap 104 (hpL c s.A none s.cyc s.blk)/\Rec W' w1.heap.size 113 [iI s.base,iI s.top,iI d,iI ((d+c.wd:Nat):Int),iI c.bk,iI c.st,iI c.ah])
 have y8:∀p:AA Sx,p.w.cell? ⟨ap,8,none⟩=some (pP s.A.q):=λp=>by have h:=AA.get Y p;exact h.1.cell (j:=8) rfl
 have y9:∀p:AA Sx,p.w.cell? ⟨ap,9,none⟩=some (pP s.A.r):=λp=>by have h:=AA.get Y p;exact h.1.cell (j:=9) rfl
 have Xu:∀p:AA Sx,p.w.cell? ⟨w1.heap.size,0,none⟩=some (iI s.base):=λp=>by have h:=AA.get Y p;exact h.2.cell (j:=0) rfl
 have Xm:∀p:AA Sx,p.w.cell? ⟨w1.heap.size,1,none⟩=some (iI s.top):=λp=>by have h:=AA.get Y p;exact h.2.cell (j:=1) rfl
 have Xr:∀p:AA Sx,p.w.cell? ⟨w1.heap.size,2,none⟩=some (iI d):=λp=>by have h:=AA.get Y p;exact h.2.cell (j:=2) rfl
 have Xn:∀p:AA Sx,p.w.cell? ⟨w1.heap.size,3,none⟩=some (iI ((d+c.wd:Nat):Int)):=λp=>by have h:=AA.get Y p;exact h.2.cell (j:=3) rfl
 have Xo:∀p:AA Sx,p.w.cell? ⟨w1.heap.size,4,none⟩=some (iI c.bk):=λp=>by have h:=AA.get Y p;exact h.2.cell (j:=4) rfl
 have Xp:∀p:AA Sx,p.w.cell? ⟨w1.heap.size,5,none⟩=some (iI c.st):=λp=>by have h:=AA.get Y p;exact h.2.cell (j:=5) rfl
 have Xl:∀p:AA Sx,p.w.cell? ⟨w1.heap.size,6,none⟩=some (iI c.ah):=λp=>by have h:=AA.get Y p;exact h.2.cell (j:=6) rfl
 have Z:=HS.o _ (⟨HC _ G.o,Xk.o.gr (Gr.refl _).drew⟩);have J:Inhabited (AA Sx):=⟨⟨_,Z⟩⟩;clear Y;refine BI Sx 15 [([0,1,2,3,4,5,6,7,8],9)] [10,11,12,13,14] Z ?_;refine AL ?_;go_wp2_with((go_at_call 121;refine(Xf.o _ G.o).mono ?_;rintro e w2 hO;obtain⟨y,rfl,O,U⟩:=I _ _ G.o _ hO;have V:=ι O;have Xt:=ι U;have Xg:=ι ((Xk.o.gr (Gr.refl _).drew).touch hO.1 (λhk=>hk.elim (λe=>by have:=Xs.o.2;have:=N.o.size;omega) (λhk=>by have:=hk.2;have:=N.o.size;omega)));clear O U hO));refine⟨.inr (AA.of (HS.o _ (⟨V.o,Xg.o⟩))),?_⟩;refine CU ?_;clear y8 y9 Xu Xm Xr Xn Xo Xp Xl Z J;clear HS Sx;have Xw:=V.o.cc 11;have zf:=V.o.free 11;have Xx:=V.o.lt;go_upto_region 4 with(fail);clear Xw zf;generalize hw3:w2.setCell ⟨ap,11,none⟩ (.pointer (some ⟨y,0,none⟩))=w3;obtain⟨hT,hL⟩:=Xt.o w3 hw3.symm;have HT:=ι hT;have HL:=ι hL
 have Xi:w3.cell? ⟨w1.heap.size,2,none⟩=some (iI d):=by
  rw[<-hw3];exact(Xg.o.touch ((AB.refl (λk=>k=ap) w2).setCell (a:=⟨ap,11,none⟩) (λ_=>rfl) _) (λe=>by have:=N.o.size;omega)).cell (j:=2) rfl
 have D:=ι Xi;clear hT hL Xi hw3 Xx;obtain⟨Sx,Y,HS⟩:=AA.start λW'=>W'.cell? ⟨w1.heap.size,2,none⟩=some (iI d);have y2:=AA.fact Y λ_ h=>h;have Z:=HS.o (w3.drew) (D.o);have J:Inhabited (AA Sx):=⟨⟨_,Z⟩⟩;clear Y;refine BI Sx 5 [([0,1,2,3],4),([],5)] [] Z ?_;refine AL ?_;go_wp2_with((go_at_call 122;refine Qa (HT.o _ (Gr.refl w3).drew) λw4 Xb=>?_;have Xj:=ι ((Gr.refl w3).drew.trans Xb);clear Xb));refine⟨.inr (AA.of (HS.o _ ((Xj.o.cell (A6 D.o) 2).trans D.o))),?_⟩;refine AL ?_;go_wp2_with((go_at_call 56;refine Qb (HL.o _ Xj.o) λw5 HE=>?_));refine⟨.inl trivial,?_⟩;refine CU ?_;clear y2 Z J;clear HS Sx;go_wp2_with(go_at_call 62;refine Qb (HE.o) λw6 Xv=>?_);exact ζk (ζh rfl _ _ _) rfl ⟨rfl,Xv.o⟩
theorem ShA.needP{base:Nat}(h:ShA base top v){N:Nat}(hN:base+N<=top)(hu:v.pl.used<=v.pl.rm):BN v base ((base+N:Nat):Int)=0:=by
 have hbt:=h.bt;rcases ζF N with rfl|hN0
 ·unfold BN;omega
 obtain⟨p0,Z⟩:=ε (base/v.pl.pg);obtain⟨p1,Y⟩:=ε ((base+N-1)/v.pl.pg);have hp01:p0<=p1:=by rw[Z,Y];exact ζc Ω
 have hp1l:p1<v.pt.length:=by rw[Y];exact(h.ok.split (a:=base+N-1) Ω).1
 have eA:((base:Int)/(v.pl.pg:Int)).toNat=p0:=by
  omega
 have eB:C5 v base ((base+N:Nat):Int)=p1+1-p0:=by
  unfold C5
  grind
 have e0:CB v p0 (p1+1-p0)=[]:=by
  refine List.eq_nil_iff_forall_not_mem.2 λp hp=>?_;obtain⟨⟨h1,h2⟩,h3⟩:=QO.1 hp;refine(h.map (p:=p) Ω).2 ⟨by omega,?_⟩ h3;have h4:=ζj v.pl.pg (show p<=p1 by omega);have h5:=ζn (base+N-1) v.pl.pg
  grind
 unfold BN
 grind
def J5(w:World)(c:HCf)(g:Gph)(s:HSt)(w':World):Prop:=∃s',BK w c s g s' w'/\s'.lf=0/\s'.top=s'.base+g.words
structure TC(w:World)(c:HCf)(g:Gph)(s:HSt)(A:HAd)(b t:Nat)(v:Vm)(F:Nat->Nat)(S2:Nat->Prop)(w3:World):Prop where
 tc:AB s.S w w3
 com:CM w3 S2 A c b t (g.S.map λx=>(F x:Int)) none s.cyc s.blk
 vm:AE w3 S2 A.q v
 hv:HVm c v
 sh:ShA b t v
 img:Img v g F b t
 sub:∀k,S2 k->s.X k\/w.heap.size<=k
 eA:A.hp=s.A.hp/\A.q=s.A.q/\A.g=s.A.g/\A.r=s.A.r
 rn:A.rn=s.A.rn\/w.heap.size<=A.rn
 bt:b<=t/\t<=b+c.wd
 bs:b=c.pg\/(b=c.pg+c.wd/\c.kd≠3)
theorem TC.fin{t:Nat}{S2:Nat->Prop}(h:TC w c g s A b t v F S2 w3)(h0:HIn w c g s)(ht:t=b+g.words):J5 w c g s (w3.setCell ⟨s.A.hp,12,none⟩ (.int .i64 (wrap64 (s.cyc+1)))):=by
 obtain⟨a1,a2,a3,a4⟩:=h.eA;have tp:AB (λk=>k=s.A.hp) w3 (w3.setCell ⟨s.A.hp,12,none⟩ (.int .i64 (wrap64 (s.cyc+1)))):=(AB.refl (λk=>k=s.A.hp) w3).setCell (a:=⟨s.A.hp,12,none⟩) (λ_=>rfl) _;have hc:=h.com;have Y:AB (λk=>k=A.hp) w3 (w3.setCell ⟨s.A.hp,12,none⟩ (.int .i64 (wrap64 (s.cyc+1)))):=(AB.refl (λk=>k=A.hp) w3).setCell (a:=⟨s.A.hp,12,none⟩) (λ_=>a1.symm) _;refine⟨{A:=A,X:=S2,base:=b,top:=t,u:=v,F:=F,o:=none,lf:=0,nb:=0,cyc:=wrap64 (s.cyc+1),blk:=s.blk},⟨h.tc.trans' tp (λk _ e=>.inr (.inl e)),⟨?_,⟨h.vm.touch Y (λk hk _ e=>hc.x.1 (e▸hk)),h.hv,h.sh,rfl⟩,h.img,h0.gok,h0.cok,h.bt,h.bs,h0.sl⟩,a1,λk hk=>?_,⟨λ_=>rfl,λ_=>rfl⟩⟩,rfl,ht⟩
 ·have Z:=hc.row.set 12 (iI (wrap64 (s.cyc+1)));rw[a1]at Z;refine⟨by rw[a1];exact Z,hc.rn.touch Y (λe=>hc.n1.2.2.1 e.symm),hc.rt.touch Y (λe=>hc.n1.1 e.symm) (λe=>hc.n1.2.1 e.symm),Y.tab hc.tab.lt (λe=>hc.n1.2.2.2 e.symm) hc.tab,hc.n1,hc.n2,hc.n3,hc.x⟩
 ·rcases hk with hk|hk|hk|hk|hk
  ·exact(h.sub k hk).imp .inl id
  ·exact .inl (.inr (.inl (hk.trans a1)))
  ·exact .inl (.inr (.inr (.inl (hk.trans a3))))
  ·exact .inl (.inr (.inr (.inr (.inl (hk.trans a4)))))
  ·rcases h.rn with e|e
   ·exact .inl (.inr (.inr (.inr (.inr (hk.trans e)))))
   ·refine .inr ?_
    simp_all
theorem HIn.ran(h:HIn w c g s)(hn:s.o=none)(hg1:Gr w w1)(hT:AB (λb=>b=s.A.g\/AD s.X w b) w1 w2)(hV:AE w2 (plus (AD s.X w) w1) s.A.q v)(hR:A7 w2 s.A.r s.A.g (g.S.map λx=>(F x:Int))):
  AB (λk=>k=s.A.g\/s.X k) w w2/\CM w2 (AD (plus (AD s.X w) w1) w2) s.A c s.base s.top (g.S.map λx=>(F x:Int)) none s.cyc s.blk/\AE w2 (AD (plus (AD s.X w) w1) w2) s.A.q v/\(∀k,AD (plus (AD s.X w) w1) w2 k->(s.X k\/w.heap.size<=k)/\k<w2.heap.size):=by
 obtain⟨l1,l2,l3,l4,l5⟩:=h.com.lt;have hz1:=hg1.size;have hx:=h.com.x;have n1:=h.com.n1;have n2:=h.com.n2;have n3:=h.com.n3;have Z:AB (λk=>k=s.A.g\/s.X k) w w2:=(hg1.touch _).trans (hT.mono (λk _ hk=>hk.imp id (λh=>h.1)))
 have Y:∀k,k<w.heap.size->¬s.X k->¬AD (plus (AD s.X w) w1) w2 k:=λk hk hn h2=>by
  rcases h2.1 with h3|h3
  ·exact hn h3.1
  ·omega
 have J:Rec w2 s.A.hp 104 (hpL c s.A none s.cyc s.blk):=by
  have:=h.com.row;rw[hn]at this;exact this.touch Z (λhk=>hk.elim n1.2.1 hx.1)
 refine⟨Z,⟨J,h.com.rn.touch Z (λhk=>hk.elim (λe=>n3.1 e.symm) hx.2.2.2.1),hR,Z.tab l5 (λhk=>hk.elim (λe=>n3.2.1 e.symm) hx.2.2.2.2) h.com.tab,n1,n2,n3,Y _ l1 hx.1,Y _ l2 hx.2.1,Y _ l3 hx.2.2.1,Y _ l4 hx.2.2.2.1,Y _ l5 hx.2.2.2.2⟩,hV.cut,λk hk=>⟨?_,hk.2⟩⟩
 grind
theorem HIn.cpd(h:HIn w c g s)(hn:s.o=none)(hk:c.kd=2):(∀W,Gr w W->Calls prog 55 #[pP s.A.q,pP s.A.r,cfV (DJ c s.base s.top (c.ot s.base))] W λe w2=>
  e=.returned (.tuple #[iI ((c.ot s.base+g.words:Nat):Int),iI 0])/\Rec w2 s.A.hp 104 (hpL c s.A none s.cyc s.blk)/\AB (λk=>k=s.A.g\/AD s.X w k) W w2 ∧
   ∀W2,Gr w2 W2->Calls prog 56 #[pP s.A.hp,iI (c.ot s.base:Nat),iI ((c.ot s.base+g.words:Nat):Int)] W2 λe w3=>e=.returned (.tuple #[]) ∧
    ∃r,Rec w3 s.A.hp 104 (hpL c {s.A with rn:=r} none s.cyc s.blk)/\J5 w c g s (w3.setCell ⟨s.A.hp,12,none⟩ (.int .i64 (wrap64 (s.cyc+1))))):=λW gW=>by
 have hm:=h.mem;rw[hn]at hm;obtain⟨hV,hv,Y,hlf⟩:=hm;obtain⟨l1,l2,l3,l4,l5⟩:=h.com.lt;have hx:=h.com.x;have D:=h.bt;have hwd:=h.cok.wd;obtain⟨L0,Xk,hin0,hfl0,hle0,hw0,-⟩:=h.rch (n:=s.u.n) (by have:=Y.bt;omega);have Z:=h.cf Ω hv;have Xh:c.ot s.base+c.wd<=s.u.n:=Z.ln;have Xc:1<=c.ot s.base:=by have:=h.cok.pg1;rcases h.ot with⟨e,-⟩|⟨e,-⟩ <;> omega
 have hot2:c.ot s.base+c.wd<=2147483647:=by
  have:=h.cok.pw;rcases h.ot with⟨e,-⟩|⟨e,-⟩ <;> omega
 have V:∀L,BO s.u (s.rs g) s.u.n L->(∀o∈L,s.base<=o.1/\o.1+o.2<=s.top)/\s.base+AC L<=s.top/\AC L=g.words:=λL hM=>by
  have G:=h.img.inn h.gok hM;exact⟨G,N0 hM.mkd.good G D.1,h.img.words h.gok hM⟩
 have Xf:RL s.u (s.rs g) (DJ c s.base s.top (c.ot s.base)):=⟨Z,Xk.sound,λL hM=>by
  obtain⟨q1,q2,-⟩:=V L hM;refine⟨q1,?_⟩
  show c.ot s.base+AC L<=c.ot s.base+c.wd
  omega⟩
 refine(Qj5 (hV.cut.gr gW) (h.com.rt.gr gW) (gW.tab l5 h.com.tab) (λhk=>hx.2.2.2.2 hk.1) (λhk=>hx.2.1 hk.1) (λhk=>hx.2.2.1 hk.1) Xf (λa a1 a2=>Y.ld a1 a2) (λa ha=>?_)).mono ?_
 ·obtain⟨x,Xg,rfl⟩:=ξw.1 ha;refine⟨ψB _,?_⟩
  have h1:g.Ro x:=by
   by_cases h0:x=0
   ·exact .inl h0
   ·exact .inr (Gph.Rd.root Xg h0)
  have:=h.adr h1;omega
 ·rintro e w2 ⟨L,hM,hT,M⟩;obtain⟨q1,q2,hw⟩:=V L hM;have U:=hv.pg
  have hE:BN s.u (c.ot s.base:Nat) ((c.ot s.base+AC L:Nat):Int)=0:=Y.needC (W:=c.wd) (by rw[U];exact h.cok.dv) D.2 Z.at_ Ω Ω (by
   rw[U,hv.rm];unfold HCf.fr
   rw[ψ Ω,θ hk];exact μ _)
  rcases M with⟨Xd,-⟩|⟨-,rfl,v1,v2,k,kq,hD,Xi,Xj⟩
  ·exact absurd hE Xd
  ·obtain⟨k1,k2,k3,k4,k5⟩:=ShA.copied (c:=DJ c s.base s.top (c.ot s.base)) Y Z (by show c.ot s.base+AC L<=c.ot s.base+c.wd;omega) hE hD;have O:=JW8 hV.ok hM (h.img.full h.gok hM) hD k5;have J:=h.img.moved h.gok O Xc (by show c.ot s.base+AC L<=_;omega);have I:A7 w2 s.A.r s.A.g ((g.S.map λx=>(s.F x:Int)).map (B7 v1 (AV v1 (s.rs g) k) (DJ c s.base s.top (c.ot s.base)).to)):=Xj;rw[h.img.roots O]at I;obtain⟨t2,Xa,E,Xb⟩:=h.ran hn (gW) hT Xi I;have Xe:((c.ot s.base+AC L:Nat):Int)=((c.ot s.base+g.words:Nat):Int):=by rw[hw]
   refine⟨by rw[<-Xe];rfl,Xa.row,hT,λW2 gW2=>?_⟩;refine Qa (XQQ (b:=c.ot s.base) (t:=c.ot s.base+g.words) (Xa.gr gW2) (E.gr gW2) (ζT _ _) Ω (by rw[k2];exact Xh) Ω (λk hk=>ϑ (Xb k hk).2 gW2.size)) λw3⟨rn,hrn,t3,N⟩=>?_;have hz:=t2.size;have hz2:=gW2.size;rw[hw]at k1 J
   have hP:TC w c g s {s.A with rn:=rn} (c.ot s.base) (c.ot s.base+g.words) _ _ _ w3:=⟨((t2.mono (λk _ hk=>hk.elim (λe=>.inr (.inr (.inl e))) .inl)).trans (gW2.touch _)).trans' t3 (λk _ e=>.inr (.inl e)),N,(E.gr gW2).touch t3 (λk hk _ e=>N.x.1 (e▸hk)),⟨k2.trans hv.n,k3.trans hv.pg,k4.trans hv.rm⟩,k1,J,λk hk=>(Xb k hk).1,⟨rfl,rfl,rfl,rfl⟩,.inr (by show w.heap.size<=rn;omega),by omega,by
    rcases h.ot with⟨e,-⟩|⟨e,-⟩
    ·exact .inr ⟨e,by omega⟩
    ·exact .inl e⟩
   exact⟨rfl,rn,N.row,hP.fin h rfl⟩
theorem HIn.pkd(h:HIn w c g s)(hn:s.o=none)(hk:c.kd=3):∀W,Gr w W->Calls prog 57 #[pP s.A.q,pP s.A.r,iI s.base,iI s.top,iI c.st] W λe w2=>
  e=.returned (.tuple #[iI ((s.base+g.words:Nat):Int),iI 0])/\Rec w2 s.A.hp 104 (hpL c s.A none s.cyc s.blk) ∧
   ∀W2,Gr w2 W2->Calls prog 60 #[pP s.A.rn,iI ((s.base+g.words:Nat):Int)] W2 λe w3=>e=.returned (iI 0) ∧
    Rec w3 s.A.hp 104 (hpL c s.A none s.cyc s.blk)/\J5 w c g s (w3.setCell ⟨s.A.hp,12,none⟩ (.int .i64 (wrap64 (s.cyc+1)))):=λW gW=>by
 have hm:=h.mem;rw[hn]at hm;obtain⟨hV,hv,Z,hlf⟩:=hm;obtain⟨l1,l2,l3,l4,l5⟩:=h.com.lt;have hx:=h.com.x;have O:=h.bt;have hwd:=h.cok.wd;have hst:=h.cok.st;have M:=hv.pg;have hsb:=Z.bt;obtain⟨L0,Xh,hin0,hfl0,hle0,hw0,-⟩:=h.rch (n:=s.u.n) Ω;have hb:s.base=c.pg:=h.bs.elim id (λe=>absurd hk e.2);have hp1:=h.cok.pg1;have hpw:=h.cok.pw;have hnn:s.u.n=c.pg+c.wd:=by rw[hv.n];exact θ hk
 have J:s.u.pl.used<=s.u.pl.rm:=by
  have:=Z.used (W:=c.wd) (by rw[M];exact h.cok.dv) O.2;rw[M]at this;rw[hv.rm];unfold HCf.fr
  simp_all
 refine(JZL (hV.cut.gr gW) Ω (h.com.rt.gr gW) (gW.tab l5 h.com.tab) (λhk=>hx.2.2.2.2 hk.1) (λhk=>hx.2.1 hk.1) (λhk=>hx.2.2.1 hk.1) s.base s.top c.st (UB.2 ⟨by omega,by omega,by omega,by omega,by omega⟩) ⟨L0,Xh,λo ho=>by grind⟩ (λL f hI hf=>by
  obtain rfl:f=s.base:=Ω
  have hM:=hI.1;have U:=N0 hM.mkd.good (h.img.inn h.gok hM) O.1
  exact Z.needP U J)).mono ?_
 rintro e w2 ⟨hT,L,f,t,hI,hf,ht,rfl,v1,v2,j,hD,Xa,Xg⟩;obtain rfl:f=s.base:=Ω
 obtain rfl:t=s.top:=Ω
 have hM:=hI.1;have Xd:=h.img.inn h.gok hM;have U:=N0 hM.mkd.good Xd O.1;have hw:=h.img.words h.gok hM;have hE:=Z.needP U J;have Xc:∃E,B8 s.u v1 E:=⟨_,hD.gr⟩;have Y:=h.img.grown hV.ok Xc Ω;have D:=YxV hV.ok hM hE Ω hD;obtain⟨k1,k2,k3,k4⟩:=Z.packed U hE hD;have V:=Y.moved h.gok D Ω Ω;have G:A7 w2 s.A.r s.A.g ((g.S.map λx=>(s.F x:Int)).map (toV L s.base)):=Xg;rw[Y.roots D]at G;rw[hw]at k1 k2 k3 k4 V U Xa;obtain⟨t2,N,Xb,Xe⟩:=h.ran hn gW hT Xa G;refine⟨by rw[hw],N.row,λW2 gW2=>?_⟩;refine Qa (JDi (N.gr gW2).rn (t:=s.base+g.words) (ζT _ _) Ω) λw3⟨t3,Xf⟩=>?_;have I:=(N.gr gW2).turn t3 Xf;have hP:TC w c g s s.A s.base (s.base+g.words) _ _ _ w3:=⟨((t2.mono (λk _ hk=>hk.elim (λe=>.inr (.inr (.inl e))) .inl)).trans (gW2.touch _)).trans' t3 (λk _ e=>.inr (.inr (.inr (.inr e)))),I,(Xb.gr gW2).touch t3 (λk hk _ e=>I.x.2.2.2.1 (e▸hk)),⟨k2.trans hv.n,k3.trans hv.pg,k4.trans hv.rm⟩,k1,V,λk hk=>(Xe k hk).1,⟨rfl,rfl,rfl,rfl⟩,.inl rfl,by omega,h.bs⟩;exact⟨rfl,I.row,hP.fin h rfl⟩
theorem QPI(h:HIn w c g s)(hn:s.o=none↔s.lf=0)(hk:c.kd=1):Calls prog 13 #[pP s.A.hp] w λe w'=>e=.returned (.tuple #[])/\J5 w c g s w':=by
 have HN:=(FU h);have HF:=(Z4 h hn);have M:=(λ(W:World) (s1:HSt) (h:HIn W c g s1) (hn:s1.o=none↔s1.lf=0)=>Z4 h hn);have HO:=(λ(W:World) (s1:HSt) (h:HIn W c g s1) (hn:s1.o=none)=>VF h hn hk);have c0:=h.cc 0;have cl:=h.com.row.lt;obtain⟨ap,hp⟩:=ε s.A.hp;have HP:=ι hp;rw[<-hp]at HN HF c0 cl⊢;rw[hk]at c0;clear h hn hk hp;go_in;go_upto_region 1 with(go_at_call 51;refine AJ (HN) ?_);go_upto_region 7 with(go_at_call 52;refine Qa (HF) λw1⟨s1,h1,h2,h3,h4⟩=>?_;have Z:=h1;have U:=(HO _ _ h1.i (h1.o.2 h4));rw[h1.hp,<-HP.o]at U;clear h1 h2 h3);go_upto_region 8 with(go_at_call 53;refine Qa (U) λw2⟨s2,h1,h2,h3,h4⟩=>?_;have N:=(Z.trans h1);have O:=h3;have J:=(M _ _ h1.i h1.o);rw[h1.hp,Z.hp,<-HP.o]at J;clear h1 h2 h3);go_wp2_with(go_at_call 52;refine Qa (J) λw3⟨s3,h1,h2,h3,h4⟩=>?_;have V:=(N.trans h1);have Y:=(ξ h3 h4);clear h1 h2 h3);refine ζH (ζh rfl _ _ _) rfl ⟨rfl,s3,V,Y.2,?_⟩;rw[Y.1.top,Y.1.base];exact O
theorem ZAF(h:HIn w c g s)(hn:s.o=none)(hk:c.kd=3):Calls prog 13 #[pP s.A.hp] w λe w'=>e=.returned (.tuple #[])/\J5 w c g s w':=by
 have HN:=(FU h);have U:=(h.pkd hn hk);have HB:=(λ(W:World) (gg:Gr w W)=>RF (h.com.gr gg).rn);have HT:=(λ(W:World) (gg:Gr w W)=>XX (h.com.gr gg).rn);have HC:=(λ(W:World) (gg:Gr w W)=>(h.com.gr gg).row);have c0:=h.cc 0;have cl:=h.com.row.lt;simp only[hn]at HC;obtain⟨ap,hp⟩:=ε s.A.hp;rw[<-hp]at HN U HC c0 cl⊢;rw[hk]at c0;clear h hn hk hp;go_in;go_upto_region 1 with(go_at_call 51;refine AJ (HN) ?_);go_upto_region 2 with(fail);obtain⟨Sx,Y,HS⟩:=AA.start λW'=>Rec W' ap 104 (hpL c s.A none s.cyc s.blk);have y5:∀p:AA Sx,p.w.cell? ⟨ap,5,none⟩=some (iI c.st):=λp=>by have h:=AA.get Y p;exact h.cc 5
 have y8:∀p:AA Sx,p.w.cell? ⟨ap,8,none⟩=some (pP s.A.q):=λp=>by have h:=AA.get Y p;exact h.cc 8
 have y9:∀p:AA Sx,p.w.cell? ⟨ap,9,none⟩=some (pP s.A.r):=λp=>by have h:=AA.get Y p;exact h.cc 9
 have y10:∀p:AA Sx,p.w.cell? ⟨ap,10,none⟩=some (pP s.A.rn):=λp=>by have h:=AA.get Y p;exact h.cc 10
 have J:=HS.o _ (HC _ (Gr.refl w).drew);have inst:Inhabited (AA Sx):=⟨⟨_,J⟩⟩;clear Y;refine BI Sx 29 [([0,1,2,3,4,5,6,7,8,9,10,11,13,14,15,16,18,19,20,21,22],12),([],17),([],23)] [24,25,26,27,28] J ?_;refine AL ?_;go_wp2_with((go_at_call 58;refine AJ (HB _ (Gr.refl w).drew) ?_));refine⟨.inr (AA.of (HS.o _ (HC _ (Gr.refl w).drew))),?_⟩;refine AL ?_;go_wp2_with((go_at_call 59;refine AJ (HT _ (Gr.refl w).drew) ?_));refine⟨.inr (AA.of (HS.o _ (HC _ (Gr.refl w).drew))),?_⟩;refine AL ?_;go_wp2_with((go_at_call 57;refine Qa (U _ (Gr.refl w).drew) λw2⟨hr,Z⟩=>?_;have V:=Z));refine⟨.inr (AA.of (HS.o _ (hr))),?_⟩;refine CU ?_;have z10:=hr.cc 10;have zl:=hr.lt;go_upto_region 14 with(go_at_call 60;refine Qa (V _ (Gr.refl _)) λw3⟨hr,Z⟩=>?_;have M:=Z);have z12:=hr.cc 12;have zf:=hr.free 12;have zl3:=hr.lt;go_wp2;exact ζk (ζh rfl _ _ _) rfl ⟨rfl,M⟩
theorem J1o(h:HIn w c g s)(hn:s.o=none)(hk:c.kd=2):Calls prog 13 #[pP s.A.hp] w λe w'=>e=.returned (.tuple #[])/\J5 w c g s w':=by
 have HN:=(FU h);have V:=ι (VZS h);have U:=ι (h.cpd hn hk);have HC:=(λ(W:World) (gg:Gr w W)=>(h.com.gr gg).row);have c0:=h.cc 0;have cl:=h.com.row.lt;have l3:=h.com.lt.2.2.1;simp only[hn]at HC;obtain⟨ap,hp⟩:=ε s.A.hp;rw[<-hp]at HN U V HC c0 cl⊢;rw[hk]at c0;obtain⟨d,hd⟩:=ε (c.ot s.base);rw[<-hd]at V U;have O:Hid (Calls prog 54 #[pP ap] w λe w'=>e=.returned (.agg #[iI s.base,iI s.top,iI d,iI ((d+c.wd:Nat):Int),iI c.bk,iI c.st,iI c.ah])/\Gr w w'):=V
 have L:Hid (∀W,Gr w W->Calls prog 55 #[pP s.A.q,pP s.A.r,.agg #[iI s.base,iI s.top,iI d,iI ((d+c.wd:Nat):Int),iI c.bk,iI c.st,iI c.ah]] W λe w2=>
  e=.returned (.tuple #[iI ((d+g.words:Nat):Int),iI 0])/\Rec w2 ap 104 (hpL c s.A none s.cyc s.blk)/\AB (λk=>k=s.A.g\/AD s.X w k) W w2 ∧
   ∀W2,Gr w2 W2->Calls prog 56 #[pP ap,iI d,iI ((d+g.words:Nat):Int)] W2 λe w3=>e=.returned (.tuple #[]) ∧
    ∃r,Rec w3 ap 104 (hpL c {s.A with rn:=r} none s.cyc s.blk)/\J5 w c g s (w3.setCell ⟨ap,12,none⟩ (.int .i64 (wrap64 (s.cyc+1))))):=U
 clear h hn hk hp hd;go_in;go_upto_region 1 with(go_at_call 51;refine AJ (HN) ?_);go_upto_region 11 with(go_at_call 54;refine Qa (O.o) λw1 M=>?_);have Xi:=(Gr.refl w1).alloc (.cells #[.int .i64 s.base,.int .i64 s.top,.int .i64 d,.int .i64 ((d+c.wd:Nat):Int),.int .i64 c.bk,.int .i64 c.st,.int .i64 c.ah] 113);have G:=(Rec.new w1 113 [iI s.base,iI s.top,iI d,iI ((d+c.wd:Nat):Int),iI c.bk,iI c.st,iI c.ah]);have D:=(M.trans Xi).drew;obtain⟨Sx,Y,HS⟩:=AA.start λW'=>(Rec W' ap 104 (hpL c s.A none s.cyc s.blk)/\Rec W' w1.heap.size 113 [iI s.base,iI s.top,iI d,iI ((d+c.wd:Nat):Int),iI c.bk,iI c.st,iI c.ah])
 have y8:∀p:AA Sx,p.w.cell? ⟨ap,8,none⟩=some (pP s.A.q):=λp=>by have h:=AA.get Y p;exact h.1.cell (j:=8) rfl
 have y9:∀p:AA Sx,p.w.cell? ⟨ap,9,none⟩=some (pP s.A.r):=λp=>by have h:=AA.get Y p;exact h.1.cell (j:=9) rfl
 have Xj:∀p:AA Sx,p.w.cell? ⟨w1.heap.size,0,none⟩=some (iI s.base):=λp=>by have h:=AA.get Y p;exact h.2.cell (j:=0) rfl
 have Xb:∀p:AA Sx,p.w.cell? ⟨w1.heap.size,1,none⟩=some (iI s.top):=λp=>by have h:=AA.get Y p;exact h.2.cell (j:=1) rfl
 have Xg:∀p:AA Sx,p.w.cell? ⟨w1.heap.size,2,none⟩=some (iI d):=λp=>by have h:=AA.get Y p;exact h.2.cell (j:=2) rfl
 have Xc:∀p:AA Sx,p.w.cell? ⟨w1.heap.size,3,none⟩=some (iI ((d+c.wd:Nat):Int)):=λp=>by have h:=AA.get Y p;exact h.2.cell (j:=3) rfl
 have Xe:∀p:AA Sx,p.w.cell? ⟨w1.heap.size,4,none⟩=some (iI c.bk):=λp=>by have h:=AA.get Y p;exact h.2.cell (j:=4) rfl
 have Xf:∀p:AA Sx,p.w.cell? ⟨w1.heap.size,5,none⟩=some (iI c.st):=λp=>by have h:=AA.get Y p;exact h.2.cell (j:=5) rfl
 have Xa:∀p:AA Sx,p.w.cell? ⟨w1.heap.size,6,none⟩=some (iI c.ah):=λp=>by have h:=AA.get Y p;exact h.2.cell (j:=6) rfl
 have J:=HS.o _ (⟨HC _ D,G.gr (Gr.refl _).drew⟩);have N:Inhabited (AA Sx):=⟨⟨_,J⟩⟩;clear Y;refine BI Sx 15 [([0,1,2,3,4,5,6,7,8],9)] [10,11,12,13,14] J ?_;refine AL ?_;go_wp2_with((go_at_call 55;refine Qa (L.o _ D) λw2⟨hr,ht,Z⟩=>?_;have Xd:=Z;have E:=((G.gr (Gr.refl _).drew).touch ht (λhk=>hk.elim (λe=>by have:=l3;have:=M.size;omega) (λhk=>by have:=hk.2;have:=M.size;omega)));clear Z ht));refine⟨.inr (AA.of (HS.o _ (⟨hr,E⟩))),?_⟩;refine CU ?_;clear y8 y9 Xj Xb Xg Xc Xe Xf Xa J N;clear HS Sx;have zc2:=E.cc 2;go_upto_region 14 with(go_at_call 56;refine Qa (Xd _ (Gr.refl _)) λw3⟨r,hr,Z⟩=>?_;have Xh:=Z;clear Z);have z12:=hr.cc 12;have zf:=hr.free 12;have zl3:=hr.lt;go_wp2;exact ζk (ζh rfl _ _ _) rfl ⟨rfl,Xh⟩
theorem XZ(h:HIn w c g s)(hn:s.o=none↔s.lf=0):Calls prog 13 #[pP s.A.hp] w λe w'=>e=.returned (.tuple #[])/\J5 w c g s w':=by
 by_cases h1:c.kd=1
 ·grind [QPI]
 ·have ho:s.o=none:=by
   have hm:=h.mem;cases ho:s.o with
   | none=>rfl
   | some y=>
    rw[ho]at hm;obtain⟨z,sl,v,R,Sv,Y,-⟩:=hm;exact absurd Y.kd h1
  by_cases h2:c.kd=2
  ·grind [J1o]
  ·exact ZAF h ho (by have:=h.cok.kd;omega)
theorem HCf.q_in(hbk:BQ c.bk=true)(hah:c.ah<=16):1<=c.q/\c.q<=1024/\c.spare<=18*1027:=by
 have hb:=DR hbk;have h1:c.bk/c.pg<=c.bk:=ζV _ _;have hq:1<=c.q/\c.q<=1024:=by unfold HCf.q;omega
 refine⟨hq.1,hq.2,?_⟩;exact ψT Ω Ω
theorem HCf.Ok.q(h:c.Ok):1<=c.q/\c.q<=1024/\c.spare<=18*1027:=HCf.q_in h.bk h.ah
theorem Yny(hbk:BQ c.bk=true)(hp:1<=c.pg)(hah:c.ah<=16)(w:World):Calls prog 120 #[LS c] w λe w'=>e=.returned (iI c.spare)/\Gr w w':=by
 obtain⟨Z,U,J⟩:=HCf.q_in hbk hah;have hmax:=NW prog;have q1:((c.bk:Int).tdiv (c.pg:Int))=((c.bk/c.pg:Nat):Int):=rfl;have hm:max ((c.bk/c.pg:Nat):Int) 1=(c.q:Int):=by unfold HCf.q;omega
 have Y:((c.ah:Int)+2)*((c.q:Int)+3)=(c.spare:Int):=by exact_mod_cast rfl
 have V:c.bk/c.pg<=c.bk:=ζV _ _;generalize c.spare=sp at J Y Y⊢;generalize c.q=qq at Z U hm Y Y;generalize c.bk/c.pg=dd at q1 hm V;unfold LS JW at *
 go_in;go_upto_region 1 with(fail);go_quiet (fail);go_wp2;go_ret;exact⟨rfl,((Gr.refl w).alloc _).drewN _⟩
theorem IP.gr{base:Nat}{y:Nat}{z:CH}{sl:Sl}{R Sv:Nat->Prop}(h:IP w X A c base top u y z sl v R Sv)(g:Gr w w'):IP w' X A c base top u y z sl v R Sv:=by
 have t:=g.touch (λ_=>False);exact⟨h.cy.touch t (λ_ _ h=>h),h.vm.touch t (λ_ _ _ h=>h),h.hv,h.ok,h.a,h.x,h.d,t.tab h.tab.lt (λh=>h) h.tab,h.t1,h.t2,h.bs,h.lm,h.bk,h.ah,h.kd⟩
def I5(w:World)(c:HCf)(s:HSt)(n:Nat):Prop:=∀y,s.o=some y->∃z sl v R Sv,IP w s.X s.A c s.base s.top s.u y z sl v R Sv/\sl.lf=s.lf/\sl.mv.length=s.nb/\v.pl.used+(n/c.pg+2+c.spare)<=v.pl.rm
def VQ6(w:World)(c:HCf)(g:Gph)(s:HSt)(n:Nat)(w':World):Prop:=∃s',BK w c s g s' w'/\DI s s'/\HKp s s'/\I5 w' c s' n
theorem V0L(h:HIn w c g s)(hn:s.o=none↔s.lf=0)(hn2:n<=256):Calls prog 161 #[pP s.A.hp,iI n] w λe w'=>e=.returned (.tuple #[])/\VQ6 w c g s n w':=by
 have H0:Hid (BK w c s g s w/\DI s s/\HKp s s):=⟨BK.refl h hn,DI.same s,HKp.refl s⟩;have c1:=h.cc 1;have cl:=h.com.row.lt;have G:=h.cok;have Xk:=G.pg1;obtain⟨-,-,Xp⟩:=G.q;have Xc:=(λ(W:World)=>Yny G.bk Xk G.ah W);obtain⟨ap,hp⟩:=ε s.A.hp;have HP:=ι hp;rw[<-hp]at c1 cl⊢;have q1:((n:Int).tdiv (c.pg:Int))=((n/c.pg:Nat):Int):=rfl;have Xo:n/c.pg<=n:=ζV _ _;obtain⟨k,hk⟩:=ε (n/c.pg);have HK:=ι hk;rw[<-hk]at q1 Xo;obtain⟨sp,L⟩:=ε c.spare;have Xn:=ι L;rw[<-L]at Xp Xc;clear h hn hp hk G L;unfold LS JW at Xc;go_in;go_wp2;clear c1
 go_loopw [] (λwr=>∃s',Hid (BK w c s g s' wr/\DI s s'/\HKp s s')) (λwr=>TP wr ap)
 case atStart=>exact⟨s,H0⟩
 case round=>
  obtain⟨s',HR⟩:=hrel;have D:ap=s'.A.hp:=HP.o.trans HR.o.1.hp.symm;have Xj:=ι D;have J:=HR.o.1.i.com.row;rw[<-D]at J;cases ho:s'.o with
  | none=>
   rw[ho]at J;have HC:=(λ(W:World) (gg:Gr wr W)=>J.gr gg);clear J D H0;go_upto_region 1 with(fail);obtain⟨Sx,Y,HS⟩:=AA.start λW'=>Rec W' ap 104 (hpL c s'.A none s'.cyc s'.blk);have Xa:∀p:AA Sx,p.w.cell? ⟨ap,11,none⟩=some (.pointer none):=λp=>by have h:=AA.get Y p;exact h.cc 11
   have Z:=HS.o _ (HC _ (Gr.refl wr).drew);have U:Inhabited (AA Sx):=⟨⟨_,Z⟩⟩;clear Y;refine BI Sx 30 [([0,1,2,3,4,5,6,7,8,9,11,12,13,14,17,18,19,20,21],10),([],15),([16],22),([23,24,25,26,27],28)] [29] Z ?_;refine AL ?_;go_wp2_with(fail);refine⟨.inr (AA.of (HS.o _ (HC _ (Gr.refl wr).drew))),?_⟩;refine AL ?_;go_wp2_with(fail);refine⟨.inr (AA.of (HS.o _ (HC _ (Gr.refl wr).drew))),?_⟩;refine AL ?_;go_wp2_with(fail);refine⟨.inr (AA.of (HS.o _ (HC _ (Gr.refl wr).drew))),?_⟩;refine AL ?_;go_wp2_with(fail);refine⟨.inr (AA.of (HS.o _ (HC _ (Gr.refl wr).drew))),?_⟩;refine CU ?_;clear Xa Z U;clear HS Sx;go_wp2;refine ζk (ζh rfl _ _ _) rfl ?_;exact⟨rfl,s',HR.o.1.gr (Gr.refl wr).drew,HR.o.2.1,HR.o.2.2,λy hy=>by rw[ho]at hy;cases hy⟩
  | some y=>
   have hm:=HR.o.1.i.mem;rw[ho]at hm;obtain⟨z,sl,v,R,Sv,V,e1,e2⟩:=hm;have Xg:=(λ(W:World) (gg:Gr wr W)=>JXO (V.vm.gr gg));have Xf:=(λ(W:World) (gg:Gr wr W)=>XOa (V.vm.gr gg));have Xq:v.pl.rm<=4096:=by rw[V.hv.rm];exact HR.o.1.i.cok.fr
   have Xm:=V.a.room V.ok;have hl:s'.lf≠0:=λe=>by rw[HR.o.1.o.2 e]at ho;cases ho
   have Xd:=(λ(W:World) (gg:Gr wr W)=>YY (HR.o.1.i.gr gg) HR.o.1.o hl);have E:=(ξ V (ξ e1 e2));rw[ho]at J;rw[<-D]at Xd;have HC:=(λ(W:World) (gg:Gr wr W)=>J.gr gg);have Xh:v.pl.used<=v.pl.rm:=Ω
   obtain⟨rm,Xb⟩:=ε v.pl.rm;obtain⟨us,O⟩:=ε v.pl.used;have Xi:=ι (ξ Xb O);rw[<-Xb]at Xg Xq Xh;rw[<-O]at Xf Xh;clear J D H0 V e1 e2 Xm hl Xb O;by_cases Xe:rm<us+(k+2+sp)
   ·have d0:decide ((rm:Int)-(us:Int)<(k:Int)+2+(sp:Int))=true:=φ Ω;clear Xe;go_upto_region 1 with(fail);obtain⟨Sx,Y,HS⟩:=AA.start λW'=>Rec W' ap 104 (hpL c s'.A (some y) s'.cyc s'.blk);have y0:∀p:AA Sx,p.w.cell? ⟨ap,0,none⟩=some (iI c.kd):=λp=>by have h:=AA.get Y p;exact h.cc 0
    have y1:∀p:AA Sx,p.w.cell? ⟨ap,1,none⟩=some (iI c.pg):=λp=>by have h:=AA.get Y p;exact h.cc 1
    have y2:∀p:AA Sx,p.w.cell? ⟨ap,2,none⟩=some (iI c.bk):=λp=>by have h:=AA.get Y p;exact h.cc 2
    have y3:∀p:AA Sx,p.w.cell? ⟨ap,3,none⟩=some (iI c.wd):=λp=>by have h:=AA.get Y p;exact h.cc 3
    have y4:∀p:AA Sx,p.w.cell? ⟨ap,4,none⟩=some (iI c.sl):=λp=>by have h:=AA.get Y p;exact h.cc 4
    have y5:∀p:AA Sx,p.w.cell? ⟨ap,5,none⟩=some (iI c.st):=λp=>by have h:=AA.get Y p;exact h.cc 5
    have y6:∀p:AA Sx,p.w.cell? ⟨ap,6,none⟩=some (iI c.ah):=λp=>by have h:=AA.get Y p;exact h.cc 6
    have y7:∀p:AA Sx,p.w.cell? ⟨ap,7,none⟩=some (.float .f64 c.tr):=λp=>by have h:=AA.get Y p;exact h.cc 7
    have y8:∀p:AA Sx,p.w.cell? ⟨ap,8,none⟩=some (pP s'.A.q):=λp=>by have h:=AA.get Y p;exact h.cc 8
    have Xa:∀p:AA Sx,p.w.cell? ⟨ap,11,none⟩=some (pP y):=λp=>by have h:=AA.get Y p;exact h.cc 11
    have Z:=HS.o _ (HC _ (Gr.refl wr).drew);have U:Inhabited (AA Sx):=⟨⟨_,Z⟩⟩;clear Y;refine Z7 Sx 28 [([0,1,2,3,4,5,6,7,8,9,11,12,13,14,17,18,19,20,21],10),([],15),([16],22),([23,24,25,26,27],28),([],29)] [] Z ?_;refine IW ?_;go_wp2_with((go_at_call 226;refine AJ (Xg _ (Gr.refl wr).drew) ?_));refine⟨.inr (AA.of (HS.o _ (HC _ (Gr.refl wr).drew))),?_⟩;refine IW ?_;go_wp2_with((go_at_call 73;refine AJ (Xf _ (Gr.refl wr).drew) ?_));refine⟨.inr (AA.of (HS.o _ (HC _ (Gr.refl wr).drew))),?_⟩;refine IW ?_;go_wp2_with((go_at_call 120;refine Qa (Xc _) λw1 I=>?_;have M:=((Gr.refl wr).drew.trans I);clear I));refine⟨.inr (AA.of (HS.o _ (HC _ M))),?_⟩;refine IW ?_;go_wp2_with((go_at_call 15;refine Qa (Xd _ M) λw2⟨s2,h1,h2,h3,h4⟩=>?_;have N:=(ξ h1 (ξ h2 (ξ h3 h4)));clear h1 h2 h3 h4));refine⟨.inl (by first|exact trivial|decide),?_⟩;refine IW ?_;go_wp2_with(fail);refine⟨.inl (by first|exact trivial|decide),?_⟩;refine Z5 ?_;clear y0 y1 y2 y3 y4 y5 y6 y7 y8 Xa Z U;clear HS Sx;go_wp2;go_round
    case rel=>exact⟨s2,⟨(HR.o.1.gr M).trans N.1,HR.o.2.1.trans N.2.1,HR.o.2.2.trans N.2.2.1⟩⟩
    case measure=>
     have e1:=N.1.i.left;have e2:=HR.o.1.i.left;rw[N.1.hp,<-Xj.o]at e1;rw[<-Xj.o]at e2;have:=N.2.2.2;omega
   ·have d0:decide ((rm:Int)-(us:Int)<(k:Int)+2+(sp:Int))=false:=ζ Ω;have Xl:=Xe;clear Xe;go_upto_region 1 with(fail);obtain⟨Sx,Y,HS⟩:=AA.start λW'=>Rec W' ap 104 (hpL c s'.A (some y) s'.cyc s'.blk);have y0:∀p:AA Sx,p.w.cell? ⟨ap,0,none⟩=some (iI c.kd):=λp=>by have h:=AA.get Y p;exact h.cc 0
    have y1:∀p:AA Sx,p.w.cell? ⟨ap,1,none⟩=some (iI c.pg):=λp=>by have h:=AA.get Y p;exact h.cc 1
    have y2:∀p:AA Sx,p.w.cell? ⟨ap,2,none⟩=some (iI c.bk):=λp=>by have h:=AA.get Y p;exact h.cc 2
    have y3:∀p:AA Sx,p.w.cell? ⟨ap,3,none⟩=some (iI c.wd):=λp=>by have h:=AA.get Y p;exact h.cc 3
    have y4:∀p:AA Sx,p.w.cell? ⟨ap,4,none⟩=some (iI c.sl):=λp=>by have h:=AA.get Y p;exact h.cc 4
    have y5:∀p:AA Sx,p.w.cell? ⟨ap,5,none⟩=some (iI c.st):=λp=>by have h:=AA.get Y p;exact h.cc 5
    have y6:∀p:AA Sx,p.w.cell? ⟨ap,6,none⟩=some (iI c.ah):=λp=>by have h:=AA.get Y p;exact h.cc 6
    have y7:∀p:AA Sx,p.w.cell? ⟨ap,7,none⟩=some (.float .f64 c.tr):=λp=>by have h:=AA.get Y p;exact h.cc 7
    have y8:∀p:AA Sx,p.w.cell? ⟨ap,8,none⟩=some (pP s'.A.q):=λp=>by have h:=AA.get Y p;exact h.cc 8
    have Xa:∀p:AA Sx,p.w.cell? ⟨ap,11,none⟩=some (pP y):=λp=>by have h:=AA.get Y p;exact h.cc 11
    have Z:=HS.o _ (HC _ (Gr.refl wr).drew);have U:Inhabited (AA Sx):=⟨⟨_,Z⟩⟩;clear Y;refine Z7 Sx 28 [([0,1,2,3,4,5,6,7,8,9,11,12,13,14,17,18,19,20,21],10),([],15),([16],22),([23,24,25,26,27],28),([],29)] [] Z ?_;refine IW ?_;go_wp2_with((go_at_call 226;refine AJ (Xg _ (Gr.refl wr).drew) ?_));refine⟨.inr (AA.of (HS.o _ (HC _ (Gr.refl wr).drew))),?_⟩;refine IW ?_;go_wp2_with((go_at_call 73;refine AJ (Xf _ (Gr.refl wr).drew) ?_));refine⟨.inr (AA.of (HS.o _ (HC _ (Gr.refl wr).drew))),?_⟩;refine IW ?_;go_wp2_with((go_at_call 120;refine Qa (Xc _) λw1 I=>?_;have M:=((Gr.refl wr).drew.trans I);clear I));refine⟨.inr (AA.of (HS.o _ (HC _ M))),?_⟩;refine IW ?_;go_wp2_with(fail);refine⟨.inl (by first|exact trivial|decide),?_⟩;refine IW ?_;go_wp2_with(fail);refine⟨.inl (by first|exact trivial|decide),?_⟩;refine Z5 ?_;clear y0 y1 y2 y3 y4 y5 y6 y7 y8 Xa Z U;clear HS Sx;go_wp2;refine ζk (ζh rfl _ _ _) rfl ?_;refine⟨rfl,s',HR.o.1.gr M,HR.o.2.1,HR.o.2.2,λy' hy=>?_⟩;obtain rfl:y'=y:=by rw[ho]at hy;exact(Option.some.inj hy).symm
    refine⟨z,sl,v,R,Sv,E.1.gr M,E.2.1,E.2.2,?_⟩;rw[<-HK.o,<-Xn.o,<-Xi.o.1,<-Xi.o.2];have:=Xl;omega
section
variable{base:Nat}{o:Option Nat}{lf nb:Nat}
def N9(w:World)(X:Nat->Prop)(A:HAd)(c:HCf)(base top:Nat)(u:Vm)(n:Nat):Option Nat->Nat->Nat->Prop
 | none,lf,_=>∃v1,AE w X A.q v1/\HVm c u/\ShA base top u/\B8 u v1 (CA u top ((top+n:Nat):Int))/\BN u top ((top+n:Nat):Int)=0/\top+n<=u.n/\lf=0
 | some y,lf,nb=>∃z sl v R Sv v1,(Cyc w R y A.q z sl/\AE w Sv A.q v1/\HVm c v/\BV sl v/\HpA top u sl v/\(∀k,R k\/Sv k->X k)/\(∀k,R k->¬Sv k)/\AQ w/\¬R 1/\¬Sv 1 ∧
   sl.cf.to=base/\sl.cf.lm=base+c.wd/\sl.cf.bk=c.bk/\sl.cf.ah=c.ah/\c.kd=1)/\sl.lf=lf/\sl.mv.length=nb/\B8 v v1 (CA v top ((top+n:Nat):Int))/\BN v top ((top+n:Nat):Int)=0/\v.pl.used+(n/c.pg+2+c.spare)<=v.pl.rm/\top+n<=base+c.wd
theorem HVm.of(h:HVm c v)(h1:v'.n=v.n)(h2:v'.pl.pg=v.pl.pg)(h3:v'.pl.rm=v.pl.rm):HVm c v':=⟨h1.trans h.n,h2.trans h.pg,h3.trans h.rm⟩
theorem N9.made(h:N9 w X A c base top u n o lf nb)(h0:0<top){p:Nat}(hs:p+f+k<=255)(hn:n=1+p+f+k):∃v1 Sv,AE w Sv A.q v1/\(∀k,Sv k->X k)/\IL v1 top ⟨p,f,k⟩=0 ∧
  ∃u',(∀w2,AB Sv w w2->AE w2 (plus Sv w) A.q (mkVm v1 top ⟨p,f,k⟩)->FJ w2 (plus X w) A c base (top+n) u' o lf nb) ∧
   (∀a:Nat,a<top->u.ldE a=0->u'.ldE a=0/\u'.ldV a=u.ldV a)/\(∀a:Nat,top<=a->a<top+n->u'.ldE a=0)/\u'.ldV top=C8 p f k/\∀i:Nat,i<p+f+k->u'.ldV ((top+1+i:Nat):Int)=0:=by
 match o,h with
 | none,⟨v1,hV,hv,hsh,hG,hE,hle,e0⟩=>
  obtain⟨m1,m2,m3,m4,m5,m6⟩:=hsh.alloc hs hn h0 hle hE hG;refine⟨v1,X,hV,λ_ h=>h,m1,mkVm v1 top ⟨p,f,k⟩,λw2 t hV2=>⟨hV2,hv.of (m3.sm.n.trans hG.n) (m3.sm.pg.trans hG.pg) (m3.sm.rm.trans hG.rm),m2,e0⟩,λa a1 a2=>⟨?_,m4 a a1⟩,λa a1 a2=>m2.ld (by have:=hsh.bt;omega) a2,m5,m6⟩;rw[m3.sm.ldE,hG.ldE hsh.ok Ω]
  split
  ·rfl
  ·exact a2
 | some y,⟨z,sl,v,R,Sv,v1,⟨hcy,hV,hv,hok,hA,hX,hd,hT,t1,t2,b1,b2,b3,b4,hk⟩,e1,e2,hG,hE,hrm,hfit⟩=>
  have hq:sl.q=c.q:=by
   show max 1 (sl.cf.bk/sl.pg)=max 1 (c.bk/c.pg)
   rw[b3,<-hok.mid.pg,hv.pg]
  have V:sl.pg=c.pg:=by rw[<-hok.mid.pg];exact hv.pg
  obtain⟨m1,m2,u',m3,m4,m5,m6⟩:=hA.alloc hok hs hn (by rw[b2];exact hfit) hE hG (by rw[V,b4,hq];exact hrm);have U:=hok.st;have hln:=U.cf.ln
  have J:(mkVm v1 top ⟨p,f,k⟩).n=v.n/\(mkVm v1 top ⟨p,f,k⟩).pl.pg=v.pl.pg/\(mkVm v1 top ⟨p,f,k⟩).pl.rm=v.pl.rm:=by
   have Y:DH v1 (mkVm v1 top ⟨p,f,k⟩):=(DH.refl hG.ok).mkVm _ _;exact⟨Y.sm.n.trans hG.n,Y.sm.pg.trans hG.pg,Y.sm.rm.trans hG.rm⟩
  refine⟨v1,Sv,hV,λk hk=>hX k (.inr hk),m1,u',λw2 t hV2=>⟨z,sl,mkVm v1 top ⟨p,f,k⟩,R,plus Sv w,⟨hcy.touch t (λk hk Z=>hd k hk Z),hV2,hv.of J.1 J.2.1 J.2.2,m2,m3,λk hk=>?_,λk hk Z=>?_,t.tab hT.lt t2 hT,t1,λhk=>hk.elim t2 (λhk=>by have:=hT.lt;omega),b1,b2,b3,b4,hk⟩,e1,e2⟩,λa a1 a2=>⟨m3.un a Ω,m4 a a1⟩,λa a1 a2=>m3.un a Ω,m5,m6⟩
  ·rcases hk with hk|hk|hk
   ·exact .inl (hX k (.inl hk))
   ·exact .inl (hX k (.inr hk))
   ·exact .inr hk
  ·rcases Z with Z|Z
   ·exact hd k hk Z
   ·have:=hcy.od.lt k hk;omega
theorem N9.gr(h:N9 w X A c base top u n o lf nb)(g:Gr w w'):N9 w' X A c base top u n o lf nb:=by
 match o,h with
 | none,⟨v1,hV,hr⟩=>exact⟨v1,hV.gr g,hr⟩
 | some y,⟨z,sl,v,R,Sv,v1,⟨hcy,hV,hv,hok,hA,hX,hd,hT,hr⟩,hr2⟩=>exact⟨z,sl,v,R,Sv,v1,⟨hcy.gr g,hV.gr g,hv,hok,hA,hX,hd,g.tab hT.lt hT,hr⟩,hr2⟩
structure HAl(w:World)(c:HCf)(g:Gph)(s:HSt)(n:Nat)(w1:World):Prop where
 t:AB (λk=>k=s.A.rn\/s.X k) w w1
 com:CM w1 (plus s.X w) s.A c s.base (s.top+n) (s.rs g) s.o s.cyc s.blk
 gw:N9 w1 (plus s.X w) s.A c s.base s.top s.u n s.o s.lf s.nb
 fit:s.top+n<=s.base+c.wd
theorem HAl.gr(h:HAl w c g s n w1)(gr:Gr w1 w2):HAl w c g s n w2:=⟨h.t.trans (gr.touch _),h.com.gr gr,h.gw.gr gr,h.fit⟩
theorem HIn.bal(h:HIn w c g s)(hr:I5 w c s n)(hn1:1<=n)(hn2:n<=256):Calls prog 162 #[pP s.A.rn,iI n] w λe w1=>
  (s.base+c.wd<s.top+n/\e=.returned (.tuple #[iI 0,iI 21])/\Gr w w1)\/(s.top+n<=s.base+c.wd/\e=.returned (.tuple #[iI s.top,iI 0])/\HAl w c g s n w1):=by
 have hx:=h.com.x;have L:=h.bt;have J:=h.cok;have G:=h.com.lt
 have hcn:s.base+c.wd<=c.n:=by
  unfold HCf.n;rcases h.bs with e|⟨e,e3⟩
  ·split <;> omega
  ·rw[ψ e3];omega
 have E:c.wd/c.pg<=c.fr:=by
  unfold HCf.fr
  split
  ·omega
  ·split <;> omega
 have N:∀{S:Nat->Prop} {w1:World},(∀k,S k->s.X k)->AB (λk=>k=s.A.rn\/S k) w w1->FZ w1 s.A.rn s.A.q s.base (s.top+n) (s.base+c.wd)->CM w1 (plus s.X w) s.A c s.base (s.top+n) (s.rs g) s.o s.cyc s.blk:=λ{S w1} hS t Z=>by
  obtain⟨l1,l2,l3,l4,l5⟩:=G;have k:=h.com;have M:∀k,¬s.X k->¬S k:=λk hk hs=>hk (hS k hs);have U:∀k,k<w.heap.size->¬s.X k->¬plus s.X w k:=λk hk hn hp=>hp.elim hn (λe=>by omega);exact⟨k.row.touch t (λe=>e.elim k.n1.2.2.1 (M _ hx.1)),Z,k.rt.touch t (λe=>e.elim k.n2.2.1 (M _ hx.2.1)) (λe=>e.elim k.n3.1 (M _ hx.2.2.1)),t.tab l5 (λe=>e.elim (λe=>k.n3.2.2 e.symm) (M _ hx.2.2.2.2)) k.tab,k.n1,k.n2,k.n3,U _ l1 hx.1,U _ l2 hx.2.1,U _ l3 hx.2.2.1,U _ l4 hx.2.2.2.1,U _ l5 hx.2.2.2.2⟩
 cases ho:s.o with
 | none=>
  have hm:=h.mem;rw[ho]at hm;obtain⟨hV,hv,I,Xd⟩:=hm;have Xe:s.u.n=c.n:=hv.n;refine(Xej h.com.rn hV hx.2.2.2.1 hn1 L.2 Ω (λhle=>I.need (W:=c.wd) hn1 (by rw[hv.pg];exact J.dv) hle Ω (by rw[hv.pg,hv.rm];exact E))).mono ?_;rintro e w1 (⟨h1,rfl,h3⟩|⟨h1,rfl,t,⟨v1,hG,O⟩,Z⟩)
  ·exact .inl ⟨h1,rfl,h3⟩
  ·refine .inr ⟨h1,rfl,t,N (λ_ h=>h) t Z,?_,h1⟩;rw[ho];exact⟨v1,O,hv,I,hG,I.need (W:=c.wd) hn1 (by rw[hv.pg];exact J.dv) h1 Ω (by rw[hv.pg,hv.rm];exact E),by omega,Xd⟩
 | some y=>
  obtain⟨z,sl,v,R,Sv,Y,e1,e2,Xf⟩:=hr y ho;have Xe:v.n=c.n:=Y.hv.n
  have hE:s.top+n<=s.base+c.wd->BN v s.top ((s.top+n:Nat):Int)=0:=λhle=>by
   have Xb:=Y.hv.pg;have hp1:=J.pg1
   have hb:C5 v s.top ((s.top+n:Nat):Int)<=n/c.pg+2:=by
    unfold C5;rw[show ((s.top+n:Nat):Int)-1=((s.top+n-1:Nat):Int)by omega,Xb,show ((s.top+n-1:Nat):Int)/(c.pg:Int)=(((s.top+n-1)/c.pg:Nat):Int)from rfl,show ((s.top:Nat):Int)/(c.pg:Int)=((s.top/c.pg:Nat):Int)from rfl]
    have h1:(s.top+n-1)/c.pg<=s.top/c.pg+n/c.pg+1:=by
     have q1:=ζo s.top c.pg;have q2:=ζN s.top (show 0<c.pg by omega);have q3:=ζo n c.pg;have q4:=ζN n (show 0<c.pg by omega);refine Nat.le_of_lt_succ ((ζC Ω).2 ?_)
     have q5:(s.top/c.pg+n/c.pg+1+1)*c.pg=c.pg*(s.top/c.pg)+c.pg*(n/c.pg)+c.pg+c.pg:=by
      rw[ζP,ζP,ζP,ξl,ζA (s.top/c.pg),ζA (n/c.pg)]
     show s.top+n-1<(s.top/c.pg+n/c.pg+1+1)*c.pg
     generalize c.pg*(s.top/c.pg)=P1 at *
     generalize c.pg*(n/c.pg)=P2 at *
     omega
    generalize (s.top+n-1)/c.pg=P1 at *
    generalize s.top/c.pg=P2 at *
    generalize n/c.pg=P3 at *
    omega
   unfold BN;have:=U7 v ((s.top:Int)/(v.pl.pg:Int)).toNat (C5 v s.top ((s.top+n:Nat):Int));omega
  refine(Xej h.com.rn Y.vm (λhk=>hx.2.2.2.1 (Y.x _ (.inr hk))) hn1 L.2 Ω hE).mono ?_;rintro e w1 (⟨h1,rfl,h3⟩|⟨h1,rfl,t,⟨v1,hG,O⟩,Z⟩)
  ·exact .inl ⟨h1,rfl,h3⟩
  ·have D:∀k,Sv k->s.X k:=λk hk=>Y.x k (.inr hk);have Xa:=Y.tab.lt;refine .inr ⟨h1,rfl,t.mono (λk _ hk=>hk.imp id (D k)),N D t Z,?_,h1⟩;rw[ho];have Xc:∀k,R k->¬(k=s.A.rn\/Sv k):=λk hk e=>e.elim (λe=>hx.2.2.2.1 (by rw[<-e];exact Y.x k (.inl hk))) (Y.d k hk);refine⟨z,sl,v,R,plus Sv w,v1,⟨Y.cy.touch t Xc,O,Y.hv,Y.ok,Y.a,λk hk=>?_,λk hk V=>?_,t.tab Xa (λhk=>hk.elim (λe=>h.com.n3.2.2 e.symm) Y.t2) Y.tab,Y.t1,λhk=>hk.elim Y.t2 (λhk=>by omega),Y.bs,Y.lm,Y.bk,Y.ah,Y.kd⟩,e1,e2,hG,hE h1,Xf,h1⟩
   ·rcases hk with hk|hk|hk
    ·exact .inl (Y.x k (.inl hk))
    ·exact .inl (Y.x k (.inr hk))
    ·exact .inr hk
   ·rcases V with V|V
    ·exact Y.d k hk V
    ·have:=Y.cy.od.lt k hk;omega
end
theorem HIn.bal0(h:HIn w c g s)(hr:I5 w c s n)(hn1:1<=n)(hn2:n<=256)(hf:¬s.top+n<=s.base+c.wd):Calls prog 162 #[pP s.A.rn,iI n] w λe w1=>e=.returned (.tuple #[iI 0,iI 21])/\Gr w w1:=
 (h.bal hr hn1 hn2).mono λ_ _ hh=>by
  grind
theorem HIn.bal1(h:HIn w c g s)(hr:I5 w c s n)(hn1:1<=n)(hn2:n<=256)(hf:s.top+n<=s.base+c.wd):Calls prog 162 #[pP s.A.rn,iI n] w λe w1=>e=.returned (.tuple #[iI s.top,iI 0])/\HAl w c g s n w1:=
 (h.bal hr hn1 hn2).mono λ_ _ hh=>by
  grind
theorem I5.none(h:s.o=none):I5 w c s n:=λy hy=>by simp_all
theorem HIn.fits(h:HIn w c g s):s.base+g.words<=s.top:=by
 have hm:=h.rch (n:=s.top) (μ _);omega
def NN(w:World)(c:HCf)(g:Gph)(s:HSt)(n:Nat)(e:Ending)(w':World):Prop:=
 (c.wd<g.words+n/\e=.returned (.tuple #[iI 0,iI 21])/\∃s',BK w c s g s' w') ∨
 (g.words+n<=c.wd/\∃s' w1,BK w c s g s' w1/\e=.returned (.tuple #[iI s'.top,iI 0])/\HAl w1 c g s' n w')
theorem NN.ok{s1:HSt}(h:BK w c s g s1 w1)(ha:HAl w1 c g s1 n w'):NN w c g s n (.returned (.tuple #[iI s1.top,iI 0])) w':=.inr ⟨by have:=h.i.fits;have:=ha.fit;omega,s1,w1,h,rfl,ha⟩
theorem BK.rnc{s1:HSt}(h:BK w c s g' s1 w1){ap:Nat}(hp:ap=s.A.hp):w1.cell? ⟨ap,10,none⟩=some (pP s1.A.rn):=by
 have:=h.i.cc 10
 grind [hp]
theorem XLK(h:HIn w c g s)(hn:s.o=none↔s.lf=0)(hn1:1<=n)(hn2:n<=256):Calls prog 80 #[pP s.A.hp,iI n] w (NN w c g s n):=by
 have Xa:=(V0L h hn hn2);have HN:=ι (ξ hn1 hn2);obtain⟨ap,hp⟩:=ε s.A.hp;have HP:=ι hp;rw[<-hp]at Xa⊢;have cl:=h.com.row.lt;rw[<-hp]at cl;clear h hn hp hn1 hn2;go_in;go_upto_region 2 with(go_at_call 161;refine Qa (Xa) λw1⟨s1,h1,h2,h3,h4⟩=>?_;have Y:=ι (ξ h1 h4);clear h1 h2 h3 h4);have U:=Y.o.1.rnc HP.o;have yl:=A6 U;by_cases hf:s1.top+n<=s1.base+c.wd
 ·have HA:=ι (Y.o.1.i.bal1 Y.o.2 HN.o.1 HN.o.2 hf);clear hf;go_wp2_with(go_at_call 162;refine Qb (HA.o) λw2 N=>?_);go_ret2;exact NN.ok Y.o.1 N.o
 ·have HA:=ι (Y.o.1.i.bal0 Y.o.2 HN.o.1 HN.o.2 hf);have HF:=ι (λ(W:World) (gg:Gr w1 W)=>Z4 (Y.o.1.i.gr gg) Y.o.1.o);have V:s1.A.hp=ap:=Y.o.1.hp.trans HP.o.symm;rw[V]at HF;clear hf V;go_upto_region 5 with(go_at_call 162;refine Qb (HA.o) λw2 E=>?_);clear U yl;go_upto_region 6 with(go_at_call 52;refine Qa (HF.o _ E.o) λw3⟨s2,h1,h2,h3,h4⟩=>?_;have Z:=ι (ξ ((Y.o.1.gr E.o).trans h1) h4);clear h1 h2 h3 h4);have U:=Z.o.1.rnc HP.o;have yl:=A6 U;have M:=Z.o.1.o.2 Z.o.2;have HO2:=ι M;by_cases hf:s2.top+n<=s2.base+c.wd
  ·have HA:=ι (Z.o.1.i.bal1 (I5.none M) HN.o.1 HN.o.2 hf);clear hf M;go_wp2_with(go_at_call 162;refine Qb (HA.o) λw4 N=>?_);go_ret2;exact NN.ok Z.o.1 N.o
  ·have HA:=ι (Z.o.1.i.bal0 (I5.none M) HN.o.1 HN.o.2 hf);have HC:=ι (λ(W:World) (gg:Gr w3 W)=>XZ (Z.o.1.i.gr gg) Z.o.1.o);have V:s2.A.hp=ap:=Z.o.1.hp.trans HP.o.symm;rw[V]at HC;clear hf V M;go_upto_region 9 with(go_at_call 162;refine Qb (HA.o) λw4 L=>?_);clear U yl;go_upto_region 10 with(go_at_call 13;refine Qa (HC.o _ L.o) λw5⟨s3,h1,h2,h3⟩=>?_;have J:=ι (ξ ((Z.o.1.gr L.o).trans h1) (ξ h2 h3));clear h1 h2 h3);have U:=J.o.1.rnc HP.o;have yl:=A6 U;have O:=J.o.1.o.2 J.o.2.1;by_cases hf:s3.top+n<=s3.base+c.wd
   ·have HA:=ι (J.o.1.i.bal1 (I5.none O) HN.o.1 HN.o.2 hf);clear hf O;go_wp2_with(go_at_call 162;refine Qb (HA.o) λw6 N=>?_);go_ret2;exact NN.ok J.o.1 N.o
   ·have HA:=ι (J.o.1.i.bal0 (I5.none O) HN.o.1 HN.o.2 hf);have HF:=ι hf;clear hf O;go_wp2_with(go_at_call 162;refine Qb (HA.o) λw6 Xb=>?_);go_ret2;exact .inl ⟨by have:=HF.o;have:=J.o.2.2;omega,rfl,s3,J.o.1.gr Xb.o⟩
theorem ZnB(t:TypeId)(x y:Nat):(∃r,∀w,(binOp .mul t (.float .f64 x) (.float .f64 y)).run prog w=.ok (.float .f64 r) w)\/(∀w,∃r,(binOp .mul t (.float .f64 x) (.float .f64 y)).run prog w=.ok (.float .f64 r) w.drew):=by
 cases h:floatBits .mul .f64 x y with
 | some r=>exact .inl ⟨r,λw=>run_float_arith w .mul t .f64 x y r h⟩
 | none=>
  refine .inr λw=>?_;unfold floatBits at h;have hf:(Question.nanBits FloatKind.f64 x y).forced=false:=rfl;simp[binOp,Op.floatArith,h,choose,Sem.run,hf]
theorem Y88(h:HIn w c g s):Calls prog 84 #[pP s.A.hp] w λe w'=>∃b,e=.returned (.bool b)/\Gr w w':=by
 have HC:=(λ(W:World) (gg:Gr w W)=>(h.com.gr gg).row);have HB:=(λ(W:World) (gg:Gr w W)=>RF (h.com.gr gg).rn);have HT:=(λ(W:World) (gg:Gr w W)=>XX (h.com.gr gg).rn);have hbt:=h.bt;have hhi:=h.hi;obtain⟨ap,hp⟩:=ε s.A.hp;rw[<-hp]at HC⊢;have E:=underlying3;have N:=underlying22;have hcv:∀(n:Int) (w:World),(convert 3 22 (iI n)).run prog w=.ok (.float .f64 (floatOfInt .f64 n)) w:=λn w=>run_convert_int_float w _ _ _ _ n (by rw[E];rfl) N;clear h hp;go_in;go_upto_region 1 with(fail);obtain⟨Sx,J,HS⟩:=AA.start λW'=>Rec W' ap 104 (hpL c s.A s.o s.cyc s.blk);have I:∀p:AA Sx,p.w.cell? ⟨ap,10,none⟩=some (pP s.A.rn):=λp=>by have h:=AA.get J p;exact h.cc 10
 have Y:=HS.o _ (HC _ (Gr.refl w).drew);have V:Inhabited (AA Sx):=⟨⟨_,Y⟩⟩;clear J;refine BI Sx 13 [([0,1,2,3,5,6,7,8],4),([],9)] [10,11,12] Y ?_;refine AL ?_;go_wp2_with((go_at_call 59;refine AJ (HT _ (Gr.refl w).drew) ?_));refine⟨.inr (AA.of (HS.o _ (HC _ (Gr.refl w).drew))),?_⟩;refine AL ?_;go_wp2_with((go_at_call 58;refine AJ (HB _ (Gr.refl w).drew) ?_));refine⟨.inr (AA.of (HS.o _ (HC _ (Gr.refl w).drew))),?_⟩;refine CU ?_;clear I Y V;generalize floatOfInt .f64 ((s.top:Int)-s.base)=fu at *
 have Z:=HC _ (Gr.refl w).drew;have O:=(Gr.refl w).drew;generalize w.drew=w9 at Z O⊢;have M:=O;go_upto_region 2 with(fail);obtain⟨r,U⟩|U:=ZnB 22 c.tr (floatOfInt .f64 c.wd)
 ·have y3:=Z.cc 3;have y7:=Z.cc 7;have yl:=Z.lt;go_quiet (fail);go_wp2;go_ret;exact⟨_,rfl,M.drewN _⟩
 ·obtain⟨Sx,J,HS⟩:=AA.start λW'=>Rec W' ap 104 (hpL c s.A s.o s.cyc s.blk);have y3:∀p:AA Sx,p.w.cell? ⟨ap,3,none⟩=some (iI c.wd):=λp=>by have h:=AA.get J p;exact h.cc 3
  have y7:∀p:AA Sx,p.w.cell? ⟨ap,7,none⟩=some (.float .f64 c.tr):=λp=>by have h:=AA.get J p;exact h.cc 7
  obtain⟨r,U⟩:=U w9.drew;have Y:=HS.o _ (Z.gr (Gr.refl w9).drew);have V:Inhabited (AA Sx):=⟨⟨_,Y⟩⟩;clear J;refine BI Sx 15 [([0,1,2,3,4,5,6,7,8,9,10,11],12)] [13,14] Y ?_;refine AL ?_;go_wp2_with(fail);refine⟨.inr (AA.of (HS.o _ (Z.gr (Gr.refl w9).drew.drew))),?_⟩;refine CU ?_;go_wp2;go_ret;exact⟨_,rfl,M.drew.drew⟩
theorem BK.cutGr{wA:World}(gr:Gr w wA)(h:BK wA c (s.cut w) g' s' w'):BK w c s g' s' w':=
 ⟨(gr.touch _).trans' (h.t.mono (λk _ hk=>hk.imp (λh=>h.1) id)) (λ_ _ h=>h),h.i,h.hp,λk hk=>by
  rcases h.S k hk with h1|h1
  ·exact .inl (h1.imp (λh=>h.1) id)
  ·exact .inr (ω gr.size h1),h.o⟩
theorem HAl.mkd(h:HIn w1 c g s)(hn:s.o=none↔s.lf=0)(ha:HAl w1 c g s n w'){p:Nat}(hs:p+f+k<=255)(hnn:n=1+p+f+k)(hsl:g.sl a=true):∀W,Gr w' W →
  Calls prog 82 #[spV s.A.q,iI s.top,AO ⟨p,f,k⟩] W λe w2=>e=.returned (iI 0)/\Rec w2 s.A.hp 104 (hpL c s.A s.o s.cyc s.blk)/\AB (plus s.X w1) W w2 ∧
   Calls prog 83 #[pP s.A.r,iI a,iI s.top] w2 λe w3=>e=.returned (iI 0)/\∃s4,BK w1 c s (g.add a.toNat p f k) s4 w3/\s4.o=s.o/\s4.A=s.A:=λW gW=>by
 have Xe:=h.bt
 have I:0<s.top:=by
  have:=h.cok.pg1;have:=h.bs;omega
 have Z:=ha.gr gW;obtain⟨v1,Sv,hV,U,Xg,u',E,Xa,N,M,Xd⟩:=Z.gw.made I hs hnn;refine Qa (Xr0 (a:=s.top) hV Ω hs Xg) λw2⟨t2,Xi⟩=>?_;have Xf:=E w2 t2 Xi;have Y:=Z.com.mem (t2.mono (λk _ hk=>U k hk));refine⟨rfl,Y.row,t2.mono (λk _ hk=>U k hk),?_⟩;obtain⟨i,rfl,G,hi2⟩:=OB hsl;refine Qa (VHr Y.rt (i:=i) (by rw[s.len];exact G) (a:=(s.top:Int)) (ψB _)) λw3⟨t3,Xh⟩=>?_;have V:=XS7 hs;have D:=SE (v:=u') (a:=(s.top:Int)) Ω (N s.top (μ _) Ω) (by rw[M];exact V.1);have J:=h.img.add (s:=i) h.gok hs (v':=u') (A:=s.top) (μ _) Xe.1 D.1 (by rw[D.2,M];exact V.2) (λm hm=>⟨by exact N _ Ω Ω,Xd m hm⟩) (λb _ b2 b3=>Xa b b2 b3);have O:s.top+1+p+f+k=s.top+n:=Ω
 rw[O]at J
 have Xc:(g.add i p f k).S.map (λx=>((if x=g.L.length+1 then s.top else s.F x:Nat):Int))=(s.rs g).set i (s.top:Int):=by
  unfold HSt.rs Gph.add;rw[ξX];simp only[if_true];congr 1;refine ξ1 λx hx=>?_;have:=h.gok.st x hx;rw[ψ Ω]
 have Xb:¬plus (plus s.X w1) W s.A.g:=Y.x.2.2.1;refine⟨rfl,{s with X:=plus (plus s.X w1) W,top:=s.top+n,u:=u',F:=λx=>if x=g.L.length+1 then s.top else s.F x},⟨?_,⟨?_,Xf.touch t3 (λb hb e=>⟨λhx=>Xb (by rw[<-e];exact hx),λe2=>Y.n3.2.1 (by rw[<-e,e2])⟩) (λ_ h=>h),J,h.gok.add hs,h.cok,⟨by show s.base<=s.top+n;omega,ha.fit⟩,h.bs,?_⟩,rfl,λb hb=>?_,hn⟩,rfl,rfl⟩
 ·have ta:AB s.S w1 W:=Z.t.mono (λb _ hb=>hb.elim (λe=>.inr (.inr (.inr (.inr e)))) .inl);refine(ta.trans' (t2.mono (λb _ hb=>U b hb)) (λb hb e=>?_)).trans' t3 (λb hb e=>.inr (.inr (.inl e)));rcases e with e|e
  ·exact .inl e
  ·omega
 ·have:=Y.root t3 Xh
  show CM w3 _ s.A c s.base (s.top+n) ((g.add i p f k).S.map _) s.o s.cyc s.blk
  rw[Xc];exact this
 ·show (g.S.set _ _).length=c.sl
  rw[ζa];exact h.sl
 ·have Xj:=Z.t.size;rcases hb with hb|hb|hb|hb|hb
  ·rcases hb with(hb|hb)|hb
   ·exact .inl (.inl hb)
   ·exact .inr hb
   ·exact .inr (ω Xj hb)
  ·exact .inl (.inr (.inl hb))
  ·exact .inl (.inr (.inr (.inl hb)))
  ·exact .inl (.inr (.inr (.inr (.inl hb))))
  ·exact .inl (.inr (.inr (.inr (.inr hb))))
def VC(w:World)(c:HCf)(s:HSt)(g':Gph)(w':World):Prop:=∃s',BK w c s g' s' w'
theorem HIn.getSl(h:HIn w c g s)(a:Int):∃y,Calls prog 78 #[pP s.A.r,iI a] w λe w'=>e=.returned (.tuple #[iI y,iI (if g.sl a then 0 else 17)])/\Gr w w':=by
 cases hs:g.sl a with
 | false=>exact⟨0,VMw h.com.rt (by rw[MW,hs];decide)⟩
 | true=>
  obtain⟨i,rfl,h1,h2⟩:=OB hs;exact⟨_,Jwg h.com.rt (i:=i) (by rw[s.len];exact h1)⟩
theorem J6F(h:HIn w c g s)(hn:s.o=none↔s.lf=0)(a:Int)(x:Hdr):Calls prog 22 #[pP s.A.hp,iI a,AO x] w λe w'=>e=.returned (iI (g.alE c.wd a x))/\VC w c s (g.alG c.wd a x) w':=by
 have hc:=h.cut;have Xq:=(Gr.refl w).alloc (.cells #[.int .i64 x.p,.int .i64 x.f,.int .i64 x.k] 34);have HN:=(FU (hc.gr Xq));have H0:Hid (∀W,Gr w W->VC w c s g W):=⟨λW gg=>⟨s,BK.gr (BK.refl h hn) gg⟩⟩;have Xa:=(Rec.new w 34 [iI x.p,iI x.f,iI x.k]);have Z:=Xq;have HC:=(λ(W:World) (gg:Gr w W)=>(hc.com.gr gg).row);have Ya:(s.cut w).A=s.A:=rfl;have O:=(λ(W:World) (gg:Gr w W)=>(hc.gr gg).getSl a);have G:=(λ(W:World) (gg:Gr w W) (m:Nat) (h1:1<=m) (h2:m<=256)=>XLK (hc.gr gg) hn h1 h2)
 have Yd:¬(s.cut w).S w.heap.size:=by
  obtain⟨l1,l2,l3,l4,l5⟩:=h.com.lt;rintro(e|e|e|e|e)
  ·exact ξb _ e.2
  ·exact absurd e (by show w.heap.size≠s.A.hp;omega)
  ·exact absurd e (by show w.heap.size≠s.A.g;omega)
  ·exact absurd e (by show w.heap.size≠s.A.r;omega)
  ·exact absurd e (by show w.heap.size≠s.A.rn;omega)
 have Xv:=Yd;have D:=(λ(W:World)=>PA x W);have Xg:=ι (λ(W:World)=>LH x W);have cl:=h.com.row.lt;obtain⟨ap,hp⟩:=ε s.A.hp;have HP:=ι hp;rw[Ya]at HN HC G O;rw[<-hp]at HN HC G cl⊢;have Xd:Hid (∀{W W':World} {g':Gph} {s':HSt},Gr w W->BK W c (s.cut w) g' s' W'->VC w c s g' W'):=⟨λgg hr=>⟨_,BK.cutGr gg hr⟩⟩;have z0:=(Xa).cell (j:=0) rfl;have z1:=(Xa).cell (j:=1) rfl;have z2:=(Xa).cell (j:=2) rfl;unfold AO at D Xg⊢;clear h hn hc Xq Ya Yd hp;by_cases U:g.sl a=true
 ·by_cases he:DA x=0
  ·obtain⟨np,nf,nk,rfl,hs⟩:=TQ he;obtain⟨n,Xi⟩:=ε (1+np+nf+nk)
   have hN:CD ⟨np,nf,nk⟩=(n:Int):=by
    unfold CD;rw[θ he,Xi]
    show 1+(np:Int)+nf+nk=_
    omega
   have Xf:g.alE c.wd a ⟨np,nf,nk⟩=if (c.wd:Int)<g.words+(n:Int)then 21 else 0:=by unfold Gph.alE;rw[θ U,ψ (λhh=>hh he),hN]
   rw[he]at D;rw[hN]at Xg;have Yl:=ι U;have Yh:=ι (ξ hs Xi);simp only[U,if_true]at O;by_cases Xk:c.wd<g.words+n
   ·have HE:Hid (g.alE c.wd a ⟨np,nf,nk⟩=21/\g.alG c.wd a ⟨np,nf,nk⟩=g):=⟨by
     have e:g.alE c.wd a ⟨np,nf,nk⟩=21:=by rw[Xf,θ Ω]
     exact⟨e,by unfold Gph.alG;rw[e];rfl⟩⟩
    have Xn:=ι (λ(W:World) (gg:Gr w W)=>(G W gg n Ω Ω).mono (R':=λe w'=>e=.returned (.tuple #[iI 0,iI 21])/\∃s',BK W c (s.cut w) g s' w') λe w' hh=>by
     rcases hh with⟨-,h2,h3⟩|⟨h1,-⟩
     ·exact⟨h2,h3⟩
     ·omega)
    clear U he hs Xi hN Xf Xk G;go_in;go_upto_region 3 with(go_at_call 51;refine AJ (HN) ?_);have y9:=(HC _ Z).cell (j:=9) rfl;have yl:=A6 y9;obtain⟨y,J⟩:=O _ Z;have HG:=ι J;clear J;go_upto_region 6 with(go_at_call 78;refine Qa (HG.o) λw1 Y=>?_;have E:=ι (Z.trans Y);have zb:=Xa.gr Y;have Xr:=ι zb;obtain⟨z0,z1,z2,zl⟩:=zb.k3;clear Y zb);go_upto_region 9 with(go_at_call 79;refine Qa (D _) λw2 V=>?_;have Xb:=ι (E.o.trans V);have zb:=Xr.o.gr V;clear z0 z1 z2 zl;have Yf:=ι zb;obtain⟨z0,z1,z2,zl⟩:=zb.k3;clear V zb);go_wp2_with(first|(go_at_call 80;refine Qa (Xn.o _ I.o) λw4⟨s',hr⟩=>?_;have N:=ι hr;clear hr)|(go_at_call 81;refine Qa (Xg.o _) λw3 L=>?_;have I:=ι (Xb.o.trans L);clear L));go_ret;exact⟨AU HE.o.1.symm,by rw[HE.o.2];exact Xd.o I.o N.o⟩
   ·have HE:Hid (g.alE c.wd a ⟨np,nf,nk⟩=0/\g.alG c.wd a ⟨np,nf,nk⟩=g.add a.toNat np nf nk):=⟨by
     have e:g.alE c.wd a ⟨np,nf,nk⟩=0:=by rw[Xf,ψ Ω]
     exact⟨e,by unfold Gph.alG;rw[θ e];rfl⟩⟩
    have Xn:=ι (λ(W:World) (gg:Gr w W)=>(G W gg n Ω Ω).mono (R':=λe w'=>∃s' w1,e=.returned (.tuple #[iI s'.top,iI 0])/\BK W c (s.cut w) g s' w1/\HAl w1 c g s' n w') λe w' hh=>by
     rcases hh with⟨h1,-⟩|⟨-,s',w1,h2,h3,h4⟩
     ·omega
     ·exact⟨s',w1,h3,h2,h4⟩)
    clear U he hs Xi hN Xf Xk G;go_in;go_upto_region 3 with(go_at_call 51;refine AJ (HN) ?_);have y9:=(HC _ Z).cell (j:=9) rfl;have yl:=A6 y9;obtain⟨y,J⟩:=O _ Z;have HG:=ι J;clear J;go_upto_region 6 with(go_at_call 78;refine Qa (HG.o) λw1 Y=>?_;have E:=ι (Z.trans Y);have zb:=Xa.gr Y;have Xr:=ι zb;obtain⟨z0,z1,z2,zl⟩:=zb.k3;clear Y zb);go_upto_region 9 with(go_at_call 79;refine Qa (D _) λw2 V=>?_;have Xb:=ι (E.o.trans V);have zb:=Xr.o.gr V;clear z0 z1 z2 zl;have Yf:=ι zb;obtain⟨z0,z1,z2,zl⟩:=zb.k3;clear V zb);go_upto_region 12 with(first|(go_at_call 80;refine(Xn.o _ I.o).mono ?_;rintro e w5 ⟨s',w4,rfl,hr,ha⟩;have N:=ι hr;have Xo:=ι ha;clear hr ha)|(go_at_call 81;refine Qa (Xg.o _) λw3 L=>?_;have I:=ι (Xb.o.trans L);have Xy:=ι (Yf.o.gr L);clear L));clear z0 z1 z2 zl y9 yl
    have Xz:Rec w5 w.heap.size 34 [iI np,iI nf,iI nk]:=by
     have hb3:=Xy.o.lt;have Yp:¬s'.S w.heap.size:=λhk=>(N.o.S _ hk).elim Xv (λe=>by omega);refine(Xy.o.touch N.o.t Xv).touch Xo.o.t (λhk=>Yp ?_);rcases hk with hk|hk
     ·exact .inr (.inr (.inr (.inr hk)))
     ·exact .inl hk
    have Xu:=ι Xz
    have Xl:Rec w5 ap 104 (hpL c s'.A s'.o s'.cyc s'.blk):=by
     have:=Xo.o.com.row;rw[N.o.hp]at this;rw[HP.o];exact this
    have Yb:=ι Xl;have Xh:=HAl.mkd N.o.i N.o.o Xo.o Yh.o.1 Yh.o.2 Yl.o;unfold spV AO at Xh;have Ye:s'.A.hp=ap:=N.o.hp.trans HP.o.symm;rw[Ye]at Xh;have Ym:=ι Xh;clear Xz Xl Xh Ye;obtain⟨Sx,Xc,HS⟩:=AA.start λW'=>(Rec W' ap 104 (hpL c s'.A s'.o s'.cyc s'.blk)/\Rec W' w.heap.size 34 [iI np,iI nf,iI nk])
    have y8:∀p:AA Sx,p.w.cell? ⟨ap,8,none⟩=some (pP s'.A.q):=λp=>by have h:=AA.get Xc p;exact h.1.cell (j:=8) rfl
    have Yq:∀p:AA Sx,p.w.cell? ⟨w.heap.size,0,none⟩=some (iI np):=λp=>by have h:=AA.get Xc p;exact h.2.cell (j:=0) rfl
    have Ys:∀p:AA Sx,p.w.cell? ⟨w.heap.size,1,none⟩=some (iI nf):=λp=>by have h:=AA.get Xc p;exact h.2.cell (j:=1) rfl
    have Yr:∀p:AA Sx,p.w.cell? ⟨w.heap.size,2,none⟩=some (iI nk):=λp=>by have h:=AA.get Xc p;exact h.2.cell (j:=2) rfl
    have Xp:=HS.o _ (⟨Yb.o.gr (Gr.refl w5).drew,Xu.o.gr (Gr.refl w5).drew⟩);have Xw:Inhabited (AA Sx):=⟨⟨_,Xp⟩⟩;clear Xc;refine BI Sx 7 [([0,1,2,3,4,5,6],7)] [] Xp ?_;refine AL ?_;go_wp2_with((go_at_call 82;refine(Ym.o _ (Gr.refl w5).drew).mono ?_;rintro e w6 ⟨rfl,Yc,-,Xx⟩;have Yo:=ι Yc;have Yt:=ι Xx;clear Yc Xx));refine⟨.inl trivial,?_⟩;refine CU ?_;clear y8 Yq Ys Yr Xp Xw;clear HS Sx;have y9:=Yo.o.cc 9;have yl:=A6 y9;go_upto_region 14 with(go_at_call 83;refine(Yt.o).mono ?_;rintro e w7 ⟨rfl,s4,h4,-,-⟩;have M:=ι (N.o.trans h4);clear h4);clear y9 yl;have Xs:s4.A.hp=ap:=M.o.hp.trans HP.o.symm;have Yi:=ι Xs;have y0:=M.o.i.cc 0;have Xe:=M.o.i.cc 11;rw[Xs]at y0 Xe;have yl:=A6 y0;clear Xs;by_cases hk:c.kd=1
    ·have hd:((c.kd:Int)==1)=true:=by rw[hk];rfl
     cases ho:s4.o with
     | some y'=>
      rw[ho]at Xe;simp only[ψh]at Xe;clear hk ho;go_wp2;go_ret;exact⟨AU HE.o.1.symm,by rw[HE.o.2];exact Xd.o I.o M.o⟩
     | none=>
      rw[ho]at Xe;simp only[ψy]at Xe;have Xt:=Y88 M.o.i;rw[Yi.o]at Xt;have Yn:=ι Xt;have Yg:=ι (λ(W:World) (gg:Gr w7 W)=>VF (M.o.i.gr gg) ho hk);rw[Yi.o]at Yg;clear hk ho Xt;go_upto_region 15 with(go_at_call 84;refine(Yn.o).mono ?_;rintro e w8 ⟨b,rfl,Yj⟩;have Xm:=ι Yj;clear Yj;cases b)
      ·go_ret;exact⟨AU HE.o.1.symm,by rw[HE.o.2];exact Xd.o I.o (M.o.gr Xm.o)⟩
      ·go_wp2_with(go_at_call 53;refine(Yg.o _ Xm.o).mono ?_;rintro e w9 ⟨rfl,s5,h5,-,-⟩;have Yk:=ι ((M.o.gr Xm.o).trans h5);clear h5);go_ret;exact⟨AU HE.o.1.symm,by rw[HE.o.2];exact Xd.o I.o Yk.o⟩
    ·have hd:((c.kd:Int)==1)=false:=by simp;omega
     clear hk;go_wp2;go_ret;exact⟨AU HE.o.1.symm,by rw[HE.o.2];exact Xd.o I.o M.o⟩
  ·have HE:Hid (g.alE c.wd a x=15/\g.alG c.wd a x=g):=⟨by
    have e:g.alE c.wd a x=15:=by unfold Gph.alE;rw[θ U,θ he]
    exact⟨e,by unfold Gph.alG;rw[e];rfl⟩⟩
   have Xj:DA x=15:=(Vhh x).resolve_left he;rw[Xj]at D;simp only[U,if_true]at O;clear U he Xj;go_in;go_upto_region 3 with(go_at_call 51;refine AJ (HN) ?_);have y9:=(HC _ Z).cell (j:=9) rfl;have yl:=A6 y9;obtain⟨y,J⟩:=O _ Z;have HG:=ι J;clear J;go_upto_region 6 with(go_at_call 78;refine Qa (HG.o) λw1 Y=>?_;have E:=ι (Z.trans Y);have zb:=Xa.gr Y;obtain⟨z0,z1,z2,zl⟩:=zb.k3;clear Y zb);go_wp2_with(go_at_call 79;refine Qa (D _) λw2 V=>?_;have Xb:=ι (E.o.trans V);clear V);go_ret;exact⟨AU HE.o.1.symm,by rw[HE.o.2];exact H0.o _ Xb.o⟩
 ·have HE:Hid (g.alE c.wd a x=17/\g.alG c.wd a x=g):=⟨by
   have e:g.alE c.wd a x=17:=by unfold Gph.alE;rw[ψ U]
   exact⟨e,by unfold Gph.alG;rw[e];rfl⟩⟩
  simp only[U]at O;clear U;go_in;go_upto_region 3 with(go_at_call 51;refine AJ (HN) ?_);have y9:=(HC _ Z).cell (j:=9) rfl;have yl:=A6 y9;obtain⟨y,J⟩:=O _ Z;have HG:=ι J;clear J;go_wp2_with(go_at_call 78;refine Qa (HG.o) λw1 Y=>?_;have E:=ι (Z.trans Y);clear Y);go_ret;exact⟨AU HE.o.1.symm,by rw[HE.o.2];exact H0.o _ E.o⟩
theorem JxG(h:HIn w c g s)(hn:s.o≠none):cQ 14 #[pP s.A.hp] w (.tuple #[]):=by
 have HN:=ι (FU h);have Y:=h.cc 11;have cl:=h.com.row.lt;generalize s.A.hp=ap at HN Y cl⊢;cases ho:s.o with
 | none=>exact absurd ho hn
 | some y=>
  rw[ho]at Y;simp only[ψh]at Y;clear h hn ho;go_enter func14,ntmps14;go_wp2_with(go_at_call 51;refine AJ (HN.o) ?_);exact ζk (ζh rfl _ _ _) rfl ⟨rfl,rfl⟩
theorem YE8(h:HIn w c g s)(hn:s.o=none)(hk:c.kd=1):Calls prog 14 #[pP s.A.hp] w λe w'=>e=.returned (.tuple #[])/\WI w c g s w':=by
 have HN:=ι (FU h);have HO:=ι (VF h hn hk);have Y:=h.cc 11;have c0:=h.cc 0;have cl:=h.com.row.lt;rw[hn]at Y;rw[hk]at c0;simp only[ψy]at Y;generalize s.A.hp=ap at HN HO Y c0 cl⊢;clear h hn hk;go_in;go_wp2_with(first|(go_at_call 51;refine AJ (HN.o) ?_)|(go_at_call 53;refine Qb (HO.o) λw2 Z=>?_));exact ζk (ζh rfl _ _ _) rfl ⟨rfl,Z.o⟩
theorem Yyb(h:HIn w c g s)(hn:s.o=none↔s.lf=0)(ho:s.o=none)(hk:c.kd≠1):Calls prog 14 #[pP s.A.hp] w λe w'=>e=.returned (.tuple #[])/\J5 w c g s w':=by
 have HN:=ι (FU h);have HO:=ι (XZ h hn);have Y:=h.cc 11;have c0:=h.cc 0;have cl:=h.com.row.lt;have hd:((c.kd:Int)==1)=false:=by simp;omega
 rw[ho]at Y;simp only[ψy]at Y;generalize s.A.hp=ap at HN HO Y c0 cl⊢;clear h hn hk ho;go_in;go_wp2_with(first|(go_at_call 51;refine AJ (HN.o) ?_)|(go_at_call 13;refine Qb (HO.o) λw2 Z=>?_));exact ζk (ζh rfl _ _ _) rfl ⟨rfl,Z.o⟩
section
variable{P:Program}{l:List Oper}{Q:Exit->Act->World->Prop}{S:World->Prop}
end
theorem Sp.E.own{z:Sp}{S:Nat->Prop}{wB:World}(hz:z.Ok)(gB:Gr w wB)(h:z.E u S wB w2)(t:AB (λk=>k=x) w2 w')(hx:w.heap.size<=x/\x<wB.heap.size)(hS:¬S x)(hD:¬z.D x):z.W u S w w':=by
 refine⟨((gB.touch S).trans (h.1.mono (λ_ _ h=>h.2))).trans' t (λk hk e=>by omega),hz.fr h.2 t (λk hk e=>?_) (λk hk=>hk.imp id (λhk=>ω gB.size hk))⟩;subst e;exact⟨λhk=>hk.elim hS (λhk=>by omega),hD⟩
theorem HOp.own(gr:Gr w w0)(h:HOp w0 c (s.cut w) g' w3)(t:AB (λk=>k=b) w3 w')(hb:w.heap.size<=b/\b<w0.heap.size)(hl:s.A.hp<w.heap.size/\s.A.r<w.heap.size/\s.A.g<w.heap.size/\s.A.rn<w.heap.size/\1<w.heap.size):HOp w c s g' w':=by
 obtain⟨s',hr,hs⟩:=h
 have Y:¬(s.cut w).S b:=by
  rintro(e|e|e|e|e)
  ·have:=e.2;omega
  ·have:b=s.A.hp:=e;omega
  ·have:b=s.A.g:=e;omega
  ·have:b=s.A.r:=e;omega
  ·have:b=s.A.rn:=e;omega
 have hi:HIn w' c g' s':=hr.i.touch t (λk hk e=>by
  subst e
  exact⟨λhk2=>(hr.S _ hk2).elim Y (λe=>by omega),by omega⟩)
 have hc:=BK.cutGr gr hr;exact⟨s',⟨hc.t.trans' t (λk hk e=>by omega),hi,hc.hp,hc.S,hc.o⟩,⟨hs.lf,hs.cyc⟩⟩
theorem KV(W:World)(b:Nat)(z0 z1 z2:Value):AB (λi=>i=b) W (((W.setCell ⟨b,0,none⟩ z0).setCell ⟨b,1,none⟩ z1).setCell ⟨b,2,none⟩ z2):=
 (((AB.refl (λi=>i=b) W).setCell (a:=⟨b,0,none⟩) (λ_=>rfl) _).setCell (a:=⟨b,1,none⟩) (λ_=>rfl) _).setCell (a:=⟨b,2,none⟩) (λ_=>rfl) _
theorem HIn.shp(h:HIn w c g s)(hs:g.sl a=true):s.u.rdE (s.F (g.at a):Nat)=g.shE a/\s.u.rdH (s.F (g.at a):Nat)=g.shH a:=by
 unfold Gph.shH Gph.shE;rw[θ hs];rcases Gph.at_ro hs with h0|hr
 ·rw[h0,h.img.z,θ rfl,ψ (by decide)];exact⟨rfl,rfl⟩
 ·have hp:=h.img.pos hr;have h0:g.at a≠0:=λe=>by rw[e,h.img.z]at hp;omega
  rw[ψ h0,θ rfl];exact⟨h.img.rd _ hr,h.img.hd _ hr⟩
theorem VcO(h:HIn w c g s)(hn:s.o=none↔s.lf=0)(a:Int):Calls prog 28 #[pP s.A.hp,iI a] w λe w'=>e=.returned (.tuple #[AO (g.shH a),iI (g.shE a)])/\HOp w c s g w':=by
 have Xg:=(Gr.refl w).alloc (.cells #[.int .i64 0,.int .i64 0,.int .i64 0] 34);have hc:=h.cut.gr Xg;have Xr:=h.com.lt;have Ya:=Rec.new w 34 [iI 0,iI 0,iI 0];have Xt:(s.cut w).A=s.A:=rfl;have hz:(w.alloc (.cells #[.int .i64 0,.int .i64 0,.int .i64 0] 34)).heap.size=w.heap.size+1:=π ..;obtain⟨w0,Xi⟩:=ε (w.alloc (.cells #[.int .i64 0,.int .i64 0,.int .i64 0] 34));have Xv:Rec w0 w.heap.size 34 [iI 0,iI 0,iI 0]:=by rw[Xi];exact Ya
 clear Ya;rw[<-Xi]at Xg hc hz;obtain⟨F0,F1⟩:=PX hc a;have HC:=hc;have Xn:=Xg;have Xj:=ι Xv;have HN:=ι hn;have O:=ι (ξ Xr hz);have Xy:=ι Xi;have KL:=ι (λ(W:World) (blk:Nat) (p q r:Value)=>VI W blk p q r);rw[Xt]at F0 F1;rw[show (s.cut w).F=s.F from rfl]at F1;cases hsl:g.sl a with
 | false=>
  have HF:=ι (F0 hsl)
  have HE:Hid (g.shE a=17/\g.shH a=⟨0,0,0⟩):=⟨by
   have e:g.shE a=17:=by unfold Gph.shE;rw[hsl];rfl
   exact⟨e,by unfold Gph.shH;rw[e];rfl⟩⟩
  generalize s.A.hp=ap at HF⊢;clear h hc hn hsl F0 F1 Xg Xv Xr hz Xt Xi;go_in;go_upto_region 1 with(fail);rw[<-Xy.o];go_upto_region 3 with(go_at_call 94;refine Qa (HF.o) λw1 hg=>?_;have HG:=ι hg;have r1:=Xj.o.gr hg;have Yf:=ι r1;have z0:=r1.cc 0;have z1:=r1.cc 1;have z2:=r1.cc 2;have zf:=r1.free;have zl:=r1.lt;clear hg r1);go_wp2;have R3:=Rec.set (Rec.set (Rec.set Yf.o 0 (iI 0)) 1 (iI 0)) 2 (iI 0);refine ζH (v:=.tuple #[AO ⟨0,0,0⟩,iI 17]) ?_ rfl ?_
  ·rw[results_cell_tmp rfl];have hl:=KL.o _ w.heap.size _ _ _ (R3.cc 0) (R3.cc 1) (R3.cc 2);simp[asAddr,Result.andThen,hl,AO]
  ·refine⟨by rw[HE.o.1,HE.o.2],HOp.own Xn (HOp.same HC HN.o HG.o) (KV _ _ _ _ _) ⟨μ _,by rw[O.o.2];omega⟩ O.o.1⟩
 | true=>
  have HF:=ι (F1 hsl);have Xx:=Gph.at_ro hsl;have Xl:=ι (λ(W:World) (gg:Gr w0 W)=>M5 (hc.cut.gr gg));have I:=ι (λ(W:World) (gg:Gr w0 W)=>NZ (JL ..) (hc.cut.gr gg).sp (s.F (g.at a):Nat) (hc.cut.rdP Xx));obtain⟨e1,e2⟩:=h.shp hsl;have e3:((s.cut w).cut w0).u=s.u:=rfl;rw[e3,e1,e2]at I;have Xh:=ι (λ(W1 W2:World) (gr:Gr w0 W1) (he:(((s.cut w).cut w0).sp c).W s.u ((s.cut w).cut w0).X W1 W2)=>YKV hc hn gr he h.img h.gok rfl);have Xp:((s.cut w).cut w0).A.hp=s.A.hp:=rfl;have Xq:(s.cut w).A.hp=s.A.hp:=rfl;rw[Xp]at Xl;rw[Xq]at Xh;have Xo:=ι (λ(W WB W2 W3:World) (x:Nat) (gW:Gr w0 W) (gB:Gr W WB) (he:(((s.cut w).cut w0).sp c).E s.u ((s.cut w).cut w0).X WB W2) (t:AB (λk=>k=x) W2 W3) (hx:W.heap.size<=x/\x<WB.heap.size)=>Sp.E.own (JL ..) gB he t hx (λhk=>by have:=hk.2;have:=gW.size;omega) (λhk=>by have:x=1:=hk;have:=gW.size;omega))
  have Xs:Hid (¬(s.cut w).S w.heap.size):=⟨by
   rintro(e|e|e|e|e)
   ·exact ξb _ e.2
   ·exact absurd e (by show w.heap.size≠s.A.hp;omega)
   ·exact absurd e (by show w.heap.size≠s.A.g;omega)
   ·exact absurd e (by show w.heap.size≠s.A.r;omega)
   ·exact absurd e (by show w.heap.size≠s.A.rn;omega)⟩
  have Xm:Hid (∀x,w0.heap.size<=x->x≠s.A.hp):=⟨λx hx e=>by omega⟩;generalize g.shE a=re at I⊢;generalize g.shH a=hd at I⊢;obtain⟨xp,xf,xk⟩:=hd;generalize (s.F (g.at a):Nat)=ad at HF I;obtain⟨ap,hp⟩:=ε s.A.hp;rw[<-hp]at HF Xl Xh Xm⊢;clear h hc hn hsl F0 F1 Xg Xv Xr hz Xt Xi Xx e1 e2 e3 Xp Xq hp;unfold AO at I;go_in;go_upto_region 1 with(fail);rw[<-Xy.o];go_upto_region 4 with(go_at_call 94;refine(HF.o).mono ?_;rintro e w1 ⟨gb,cp,rfl,Yb,Yc,Ye⟩;have Y:=ι Yb;have V:=ι Ye;have Xw:=ι Yc;clear Yb Ye Yc);obtain⟨Sx,Xk⟩:=ε (λW'=>W'.cell? ⟨gb,0,none⟩=some (iI (ad:Nat)):World->Prop);have y0:∀p':AA Sx,p'.w.cell? ⟨gb,0,none⟩=some (iI (ad:Nat)):=λp=>AA.get Xk p;have Xz:Sx w1.drew:=by rw[Xk];exact V.o
  have Z:=ι Xk;have inst:Inhabited (AA Sx):=⟨⟨_,Xz⟩⟩;clear Xk;refine JVh Sx (.two [0,2,3,4] 1 (.two [] 5 (.one [6,7,8] 9 (.one [] 10 (.fin [11]))) 9 (.one [] 5 (.one [6,7,8] 10 (.fin [11])))) 9 (.one [] 1 (.one [] 5 (.one [6,7,8] 10 (.fin [11]))))) Xz ?_;refine RV ?_;simp only[AF,υ,ν]
  repeat(go_big_quiet_step (fail))
  refine ζb ⟨?_,?_⟩
  ·go_wp2_with(go_at_call 96;refine AJ (Xl.o _ Y.o.drew) ?_);refine⟨AA.of (by rw[Z.o];exact V.o),?_⟩;refine RV ?_;simp only[AF,υ,ν];refine ζb ⟨?_,?_⟩
   ·go_wp2_with(go_at_call 95;refine Qb (I.o _ Y.o.drew) λw2 N=>?_);have KC:w2.cell? ⟨gb,0,none⟩=some (iI (ad:Nat)):=(N.o.1.cell (A6 V.o) (λhk=>ξb _ (ϑ hk.2.2 Xw.o)) 0).trans V.o;have Yd:=A6 KC;refine⟨AA.of (by rw[Z.o];exact KC),?_⟩;refine JE ?_;go_wp2;refine⟨AA.of (by rw[Z.o];exact(((Gr.refl w2).alloc _).cell Yd 0).trans KC),?_⟩;refine PJ ?_;simp only[AF,υ,ν];refine ζb ?_;go_wp2;refine⟨AA.of (by rw[Z.o];exact(((Gr.refl w2).alloc _).cell Yd 0).trans KC),?_⟩;refine ON ?_;have Xf:Hid ((((s.cut w).cut w0).sp c).W s.u ((s.cut w).cut w0).X w1.drew (w2.alloc (.cells #[.int .i64 xp,.int .i64 xf,.int .i64 xk] 34))):=⟨N.o.toW.gr ((Gr.refl w2).alloc _) (JL ..)⟩;have Xc:Hid (Rec (w2.alloc (.cells #[.int .i64 xp,.int .i64 xf,.int .i64 xk] 34)) w2.heap.size 34 [iI xp,iI xf,iI xk]):=⟨Rec.new w2 _ [iI xp,iI xf,iI xk]⟩;have Hw2.heap.size:Hid (w0.heap.size<=w2.heap.size):=⟨ω Y.o.size N.o.1.size⟩;go_wp2_with(go_at_call 62;refine(Xh.o _ _ Y.o.drew Xf.o).mono ?_;rintro e w3 ⟨rfl,s',hr,hs,-,ht⟩;have L:=ι (ξ hr hs);have rx:=Xc.o.touch ht (Xm.o _ Hw2.heap.size.o);obtain⟨k0,k1,k2,kl⟩:=rx.k3;have r3:=Xj.o.touch hr.t Xs.o;have Xd:=ι r3;have z0:=r3.cc 0;have z1:=r3.cc 1;have z2:=r3.cc 2;have zf:=r3.free;have zl:=r3.lt;clear hr hs ht rx r3);have R3:=Rec.set (Rec.set (Rec.set Xd.o 0 (iI xp)) 1 (iI xf)) 2 (iI xk);refine ζH (v:=.tuple #[AO ⟨xp,xf,xk⟩,iI re]) ?_ rfl ?_
    ·rw[results_cell_tmp rfl];have hl:=KL.o _ w.heap.size _ _ _ (R3.cc 0) (R3.cc 1) (R3.cc 2);simp[asAddr,Result.andThen,hl,AO]
    ·exact⟨rfl,HOp.own Xn ⟨s',L.o.1,L.o.2⟩ (KV _ _ _ _ _) ⟨μ _,by rw[O.o.2];omega⟩ O.o.1⟩
   ·go_wp2;have U:=(Gr.refl w1.drew).alloc (.cells #[.int .i64 0,.int .i64 0,.int .i64 0] 34);have Xb:=Rec.new w1.drew 34 [iI 0,iI 0,iI 0];have G:=(U.cell (A6 V.o) 0).trans V.o;refine⟨AA.of (by rw[Z.o];exact G),?_⟩;refine PJ ?_;simp only[AF,υ,ν];refine ζb ?_;obtain⟨WB,J⟩:=ε ((w1.alloc (.cells #[.int .i64 0,.int .i64 0,.int .i64 0] 34)).drew);have M:Hid (Gr w1.drew WB):=⟨by rw[J];exact U⟩;have Xe:Hid (Rec WB w1.heap.size 34 [iI 0,iI 0,iI 0]):=⟨by rw[J];exact Xb⟩;have Xa:Hid (WB.cell? ⟨gb,0,none⟩=some (iI (ad:Nat))):=⟨by rw[J];exact G⟩;rw[<-J];clear J U Xb G;go_wp2_with(go_at_call 95;refine Qa (I.o _ (Y.o.drew.trans M.o)) λw2 he=>?_;have N:=ι he;have r2:=Xe.o.touch he.1 (λhk=>by have:=hk.2.2;have:=Y.o.size;omega);have Xu:=ι r2;have q0:=r2.cc 0;have q1:=r2.cc 1;have q2:=r2.cc 2;have qf:=r2.free;have ql:=r2.lt;clear he r2);have KC:w2.cell? ⟨gb,0,none⟩=some (iI (ad:Nat)):=(N.o.1.cell (A6 Xa.o) (λhk=>ξb _ (ϑ hk.2.2 Xw.o)) 0).trans Xa.o;have D:=ι KC;clear KC;refine⟨AA.of (by rw[Z.o];exact D.o),?_⟩;refine JE ?_;go_wp2;refine⟨AA.of (by rw[Z.o];exact((KV w2 w1.heap.size (iI xp) (iI xf) (iI xk)).cell (A6 D.o) (λe=>by have:=A6 V.o;have e:gb=w1.heap.size:=e;omega) 0).trans D.o),?_⟩;refine ON ?_;have Xf:Hid ((((s.cut w).cut w0).sp c).W s.u ((s.cut w).cut w0).X w1.drew (((w2.setCell ⟨w1.heap.size,0,none⟩ (.int .i64 xp)).setCell ⟨w1.heap.size,1,none⟩ (.int .i64 xf)).setCell ⟨w1.heap.size,2,none⟩ (.int .i64 xk))):=⟨Xo.o _ _ _ _ _ Y.o.drew M.o N.o (KV _ _ _ _ _) ⟨μ _,Xe.o.lt⟩⟩;have Xc:Hid (Rec (((w2.setCell ⟨w1.heap.size,0,none⟩ (.int .i64 xp)).setCell ⟨w1.heap.size,1,none⟩ (.int .i64 xf)).setCell ⟨w1.heap.size,2,none⟩ (.int .i64 xk)) w1.heap.size 34 [iI xp,iI xf,iI xk]):=⟨((Xu.o.set 0 (iI xp)).set 1 (iI xf)).set 2 (iI xk)⟩;have Hw1.heap.size:Hid (w0.heap.size<=w1.heap.size):=⟨Y.o.size⟩;clear q0 q1 q2 qf ql;go_wp2_with(go_at_call 62;refine(Xh.o _ _ Y.o.drew Xf.o).mono ?_;rintro e w3 ⟨rfl,s',hr,hs,-,ht⟩;have L:=ι (ξ hr hs);have rx:=Xc.o.touch ht (Xm.o _ Hw1.heap.size.o);obtain⟨k0,k1,k2,kl⟩:=rx.k3;have r3:=Xj.o.touch hr.t Xs.o;have Xd:=ι r3;have z0:=r3.cc 0;have z1:=r3.cc 1;have z2:=r3.cc 2;have zf:=r3.free;have zl:=r3.lt;clear hr hs ht rx r3);have R3:=Rec.set (Rec.set (Rec.set Xd.o 0 (iI xp)) 1 (iI xf)) 2 (iI xk);refine ζH (v:=.tuple #[AO ⟨xp,xf,xk⟩,iI re]) ?_ rfl ?_
    ·rw[results_cell_tmp rfl];have hl:=KL.o _ w.heap.size _ _ _ (R3.cc 0) (R3.cc 1) (R3.cc 2);simp[asAddr,Result.andThen,hl,AO]
    ·exact⟨rfl,HOp.own Xn ⟨s',L.o.1,L.o.2⟩ (KV _ _ _ _ _) ⟨μ _,by rw[O.o.2];omega⟩ O.o.1⟩
  ·go_wp2;have U:=(Gr.refl w1.drew).alloc (.cells #[.int .i64 0,.int .i64 0,.int .i64 0] 34);have Xb:=Rec.new w1.drew 34 [iI 0,iI 0,iI 0];have G:=(U.cell (A6 V.o) 0).trans V.o;refine⟨AA.of (by rw[Z.o];exact G),?_⟩;refine PJ ?_;simp only[AF,υ,ν];refine ζb ?_;obtain⟨WB,J⟩:=ε ((w1.alloc (.cells #[.int .i64 0,.int .i64 0,.int .i64 0] 34)).drew);have M:Hid (Gr w1.drew WB):=⟨by rw[J];exact U⟩;have Xe:Hid (Rec WB w1.heap.size 34 [iI 0,iI 0,iI 0]):=⟨by rw[J];exact Xb⟩;have Xa:Hid (WB.cell? ⟨gb,0,none⟩=some (iI (ad:Nat))):=⟨by rw[J];exact G⟩;rw[<-J];clear J U Xb G;go_wp2_with(go_at_call 96;refine AJ (Xl.o _ (Y.o.drew.trans M.o)) ?_);refine⟨AA.of (by rw[Z.o];exact Xa.o),?_⟩;refine PJ ?_;simp only[AF,υ,ν];refine ζb ?_;go_wp2_with(go_at_call 95;refine Qa (I.o _ (Y.o.drew.trans M.o)) λw2 he=>?_;have N:=ι he;have r2:=Xe.o.touch he.1 (λhk=>by have:=hk.2.2;have:=Y.o.size;omega);have Xu:=ι r2;have q0:=r2.cc 0;have q1:=r2.cc 1;have q2:=r2.cc 2;have qf:=r2.free;have ql:=r2.lt;clear he r2);have KC:w2.cell? ⟨gb,0,none⟩=some (iI (ad:Nat)):=(N.o.1.cell (A6 Xa.o) (λhk=>ξb _ (ϑ hk.2.2 Xw.o)) 0).trans Xa.o;have D:=ι KC;clear KC;refine⟨AA.of (by rw[Z.o];exact D.o),?_⟩;refine JE ?_;go_wp2;refine⟨AA.of (by rw[Z.o];exact((KV w2 w1.heap.size (iI xp) (iI xf) (iI xk)).cell (A6 D.o) (λe=>by have:=A6 V.o;have e:gb=w1.heap.size:=e;omega) 0).trans D.o),?_⟩;refine ON ?_;have Xf:Hid ((((s.cut w).cut w0).sp c).W s.u ((s.cut w).cut w0).X w1.drew (((w2.setCell ⟨w1.heap.size,0,none⟩ (.int .i64 xp)).setCell ⟨w1.heap.size,1,none⟩ (.int .i64 xf)).setCell ⟨w1.heap.size,2,none⟩ (.int .i64 xk))):=⟨Xo.o _ _ _ _ _ Y.o.drew M.o N.o (KV _ _ _ _ _) ⟨μ _,Xe.o.lt⟩⟩;have Xc:Hid (Rec (((w2.setCell ⟨w1.heap.size,0,none⟩ (.int .i64 xp)).setCell ⟨w1.heap.size,1,none⟩ (.int .i64 xf)).setCell ⟨w1.heap.size,2,none⟩ (.int .i64 xk)) w1.heap.size 34 [iI xp,iI xf,iI xk]):=⟨((Xu.o.set 0 (iI xp)).set 1 (iI xf)).set 2 (iI xk)⟩;have Hw1.heap.size:Hid (w0.heap.size<=w1.heap.size):=⟨Y.o.size⟩;clear q0 q1 q2 qf ql;go_wp2_with(go_at_call 62;refine(Xh.o _ _ Y.o.drew Xf.o).mono ?_;rintro e w3 ⟨rfl,s',hr,hs,-,ht⟩;have L:=ι (ξ hr hs);have rx:=Xc.o.touch ht (Xm.o _ Hw1.heap.size.o);obtain⟨k0,k1,k2,kl⟩:=rx.k3;have r3:=Xj.o.touch hr.t Xs.o;have Xd:=ι r3;have z0:=r3.cc 0;have z1:=r3.cc 1;have z2:=r3.cc 2;have zf:=r3.free;have zl:=r3.lt;clear hr hs ht rx r3);have R3:=Rec.set (Rec.set (Rec.set Xd.o 0 (iI xp)) 1 (iI xf)) 2 (iI xk);refine ζH (v:=.tuple #[AO ⟨xp,xf,xk⟩,iI re]) ?_ rfl ?_
   ·rw[results_cell_tmp rfl];have hl:=KL.o _ w.heap.size _ _ _ (R3.cc 0) (R3.cc 1) (R3.cc 2);simp[asAddr,Result.andThen,hl,AO]
   ·exact⟨rfl,HOp.own Xn ⟨s',L.o.1,L.o.2⟩ (KV _ _ _ _ _) ⟨μ _,by rw[O.o.2];omega⟩ O.o.1⟩
theorem YBx(n lo hi:Int)(hn:n<=9223372036854775807)(w:World):cQ 117 #[iI n,iI lo,iI hi] w (.bool (C0 n&&decide (lo<=n)&&decide (n<=hi))):=by
 have HP:=(KY n hn w);cases h1:C0 n with
 | false=>
  go_enter func117,ntmps117;go_wp2_with(go_at_call 182;refine AJ (HP) ?_);go_ret
  simp_all
 | true=>
  by_cases h2:lo<=n
  ·have d2:decide (lo<=n)=true:=φ h2;go_enter func117,ntmps117;go_wp2_with(go_at_call 182;refine AJ (HP) ?_);go_ret
   simp_all
  ·have d2:decide (lo<=n)=false:=ζ h2;go_enter func117,ntmps117;go_wp2_with(go_at_call 182;refine AJ (HP) ?_);go_ret;exact⟨by rw[d2];rfl,rfl⟩
structure CfI where
 kd:Int
 pg:Int
 bk:Int
 wd:Int
 sl:Int
 st:Int
 ah:Int
 tr:Nat
def CfI.V(c:CfI):Value:=.agg #[iI c.kd,iI c.pg,iI c.bk,iI c.wd,iI c.sl,iI c.st,iI c.ah,.float .f64 c.tr]
def CfI.nat(c:CfI):HCf:=⟨c.kd.toNat,c.pg.toNat,c.bk.toNat,c.wd.toNat,c.sl.toNat,c.st.toNat,c.ah.toNat,c.tr⟩
def CfI.base(c:CfI):Bool:=
 decide (1<=c.kd)&&decide (c.kd<=3)&&ER c.pg 1 256&&ER c.bk 1 1024&&ER c.wd 16 131072&&decide (c.pg<=c.wd) &&
 (decide (1<=c.sl)&&decide (c.sl<=64)&&decide (1<=c.st)&&decide (c.st<=4096)&&decide (0<=c.ah)&&decide (c.ah<=16))
def CfI.may(c:CfI):Bool:=c.base&&decide (c.nat.fr<=4096)
theorem CfI.base_in{c:CfI}(h:c.base=true):(1<=c.kd/\c.kd<=3/\ER c.pg 1 256=true/\ER c.bk 1 1024=true/\ER c.wd 16 131072=true/\c.pg<=c.wd)/\(1<=c.sl/\c.sl<=64/\1<=c.st/\c.st<=4096/\0<=c.ah/\c.ah<=16):=by
 unfold CfI.base at h
 simp_all
theorem CfI.nat_V{c:CfI}(h:c.base=true):c.V=LS c.nat:=by
 obtain⟨⟨h1,h2,h3,h4,h5,h6⟩,h7,h8,h9,h10,h11,h12⟩:=CfI.base_in h;have t3:=IT h3;have t4:=IT h4;obtain⟨kd,pg,bk,wd,sl,st,ah,tr⟩:=c;obtain⟨kd,rfl⟩:∃n:Nat,kd=n:=⟨kd.toNat,by grind⟩;obtain⟨pg,rfl⟩:∃n:Nat,pg=n:=⟨pg.toNat,by grind⟩;obtain⟨bk,rfl⟩:∃n:Nat,bk=n:=⟨bk.toNat,by grind⟩;obtain⟨wd,rfl⟩:∃n:Nat,wd=n:=⟨wd.toNat,by grind⟩;obtain⟨sl,rfl⟩:∃n:Nat,sl=n:=⟨sl.toNat,by grind⟩;obtain⟨st,rfl⟩:∃n:Nat,st=n:=⟨st.toNat,by grind⟩;obtain⟨ah,rfl⟩:∃n:Nat,ah=n:=⟨ah.toNat,by grind⟩;rfl
theorem CfI.may_ok{c:CfI}(h:c.may=true):c.nat.Ok:=by
 unfold CfI.may at h;rw[ζd,ζg]at h;obtain⟨hb,hf⟩:=h;obtain⟨⟨h1,h2,h3,h4,h5,h6⟩,h7,h8,h9,h10,h11,h12⟩:=CfI.base_in hb;have t3:=IT h3;have t4:=IT h4;have t5:=IT h5;have e3:((c.pg.toNat:Nat):Int)=c.pg:=ξ2 Ω;have e4:((c.bk.toNat:Nat):Int)=c.bk:=ξ2 Ω;have e5:((c.wd.toNat:Nat):Int)=c.wd:=ξ2 Ω;refine⟨⟨?_,?_⟩,?_,?_,⟨?_,?_⟩,?_,?_,⟨?_,?_⟩,⟨?_,?_⟩,?_,hf⟩
 ·show 1<=c.kd.toNat;omega
 ·show c.kd.toNat<=3;omega
 ·show EX (c.pg.toNat:Int)=true
  unfold EX;rw[e3,<-X6,φ t3.2.1,ψw];unfold ER;rw[t3.2.2,φ t3.1,φ Ω];rfl
 ·show BQ (c.bk.toNat:Int)=true
  rw[e4,<-X6];exact h4
 ·show 16<=c.wd.toNat;omega
 ·show c.wd.toNat<=131072;omega
 ·show c.wd.toNat%c.pg.toNat=0
  exact V2o (by rw[e3];exact t3.2.2) (by rw[e5];exact t5.2.2) Ω Ω Ω
 ·show c.pg.toNat<=c.wd.toNat;omega
 ·show 1<=c.sl.toNat;omega
 ·show c.sl.toNat<=64;omega
 ·show 1<=c.st.toNat;omega
 ·show c.st.toNat<=4096;omega
 ·show c.ah.toNat<=16;omega
theorem QuJ(n lo hi:Int)(hn:n<=9223372036854775807)(w:World):cQ 117 #[iI n,iI lo,iI hi] w (.bool (ER n lo hi)):=YBx n lo hi hn w
theorem Qa3(hbk:BQ c.bk=true)(hp:1<=c.pg)(hah:c.ah<=16)(hwd:c.wd<=131072)(w:World):Calls prog 48 #[LS c] w λe w'=>e=.returned (iI c.fr)/\Gr w w':=by
 obtain⟨Z,U,J⟩:=HCf.q_in hbk hah;have HS:=(λ(W:World)=>Yny hbk hp hah W);have q1:((c.wd:Int).tdiv (c.pg:Int))=((c.wd/c.pg:Nat):Int):=rfl;have V:c.wd/c.pg<=c.wd:=ζV _ _;have HR:=(Rec.new w 24 (JW c));have hF:c.fr=if c.kd=1 then c.wd/c.pg+c.spare else if c.kd=2 then 2*(c.wd/c.pg)else c.wd/c.pg:=rfl
 have Y:=((Gr.refl w).alloc (.cells (JW c).toArray 24));generalize c.fr=fr at hF⊢;generalize c.spare=sp at J HS hF;generalize c.q=qq at Z U;generalize c.wd/c.pg=dd at q1 V hF;unfold LS at HS⊢;unfold JW at *
 have c0:=HR.cc 0;have c1:=HR.cc 1;have c2:=HR.cc 2;have c3:=HR.cc 3;have c4:=HR.cc 4;have c5:=HR.cc 5;have c6:=HR.cc 6;have c7:=HR.cc 7
 have h3:(c.kd=1/\((c.kd:Int)==1)=true/\fr=dd+sp)\/(((c.kd:Int)==1)=false/\((c.kd:Int)==2)=true/\fr=2*dd)\/(((c.kd:Int)==1)=false/\((c.kd:Int)==2)=false/\fr=dd):=by
  grind
 rcases h3 with⟨-,h4,hf⟩|⟨h4,h5,hf⟩|⟨h4,h5,hf⟩
 ·go_in;go_wp2_with(go_at_call 120;refine Qa (HS _) λw1 HG=>?_);go_ret;exact⟨by simp_all,Y.trans HG⟩
 ·go_in;go_wp2;go_ret;exact⟨by rw[hf];exact AU Ω,Y⟩
 ·go_in;go_wp2;go_ret;exact⟨by rw[hf];rfl,Y⟩
theorem XVm{b1 b2 b3 b4 b5 b6 b7 b8 b9 b10 b11 b12:Bool}:b1=false\/(b1=true/\b2=false)\/(b1=true/\b2=true/\b3=false)\/(b1=true/\b2=true/\b3=true/\b4=false)\/(b1=true/\b2=true/\b3=true/\b4=true/\b5=false) ∨
  (b1=true/\b2=true/\b3=true/\b4=true/\b5=true/\b6=false)\/(b1=true/\b2=true/\b3=true/\b4=true/\b5=true/\b6=true/\b7=false)\/(b1=true/\b2=true/\b3=true/\b4=true/\b5=true/\b6=true/\b7=true/\b8=false) ∨
  (b1=true/\b2=true/\b3=true/\b4=true/\b5=true/\b6=true/\b7=true/\b8=true/\b9=false)\/(b1=true/\b2=true/\b3=true/\b4=true/\b5=true/\b6=true/\b7=true/\b8=true/\b9=true/\b10=false) ∨
  (b1=true/\b2=true/\b3=true/\b4=true/\b5=true/\b6=true/\b7=true/\b8=true/\b9=true/\b10=true/\b11=false)\/(b1=true/\b2=true/\b3=true/\b4=true/\b5=true/\b6=true/\b7=true/\b8=true/\b9=true/\b10=true/\b11=true/\b12=false) ∨
  (b1=true/\b2=true/\b3=true/\b4=true/\b5=true/\b6=true/\b7=true/\b8=true/\b9=true/\b10=true/\b11=true/\b12=true):=by
 grind
def CfI.Bd(c:CfI):Prop:=c.pg<=9223372036854775807/\c.bk<=9223372036854775807/\c.wd<=9223372036854775807
theorem VZi(c:CfI)(hb:c.Bd)(w:World):Calls prog 46 #[c.V] w λe w'=>e=.returned (iI (if c.may then 0 else 22))/\Gr w w':=by
 obtain⟨hb1,hb2,hb3⟩:=hb;have HM:Hid (c.may=(c.base&&decide (c.nat.fr<=4096))):=⟨rfl⟩
 have Z:Hid (c.base=(decide (1<=c.kd)&&decide (c.kd<=3)&&ER c.pg 1 256&&ER c.bk 1 1024&&ER c.wd 16 131072&&decide (c.pg<=c.wd) &&
  (decide (1<=c.sl)&&decide (c.sl<=64)&&decide (1<=c.st)&&decide (c.st<=4096)&&decide (0<=c.ah)&&decide (c.ah<=16)))):=⟨rfl⟩
 have Y:Hid (c.base=true->∀W,Calls prog 48 #[c.V] W λe w'=>e=.returned (iI c.nat.fr)/\Gr W w'):=⟨λh W=>by
  obtain⟨⟨h1,h2,h3,h4,h5,h6⟩,h7,h8,h9,h10,h11,h12⟩:=CfI.base_in h;have t3:=IT h3;have t4:=IT h4;have t5:=IT h5;rw[CfI.nat_V h];refine Qa3 ?_ ?_ ?_ ?_ W
  ·show BQ (c.bk.toNat:Int)=true
   rw[show ((c.bk.toNat:Nat):Int)=c.bk from ξ2 Ω,<-X6];exact h4
  ·show 1<=c.pg.toNat;omega
  ·show c.ah.toNat<=16;omega
  ·show c.wd.toNat<=131072;omega⟩
 obtain⟨re,J⟩:=ε (if c.may then 0 else 22:Int)
 rw[<-J];generalize c.may=my at HM J;generalize c.base=ba at HM Z Y;generalize c.nat.fr=fr at HM Y;unfold CfI.V at Y⊢;have M:=((Gr.refl w).alloc (.cells #[.int .i64 c.kd,.int .i64 c.pg,.int .i64 c.bk,.int .i64 c.wd,.int .i64 c.sl,.int .i64 c.st,.int .i64 c.ah,.float .f64 c.tr] 24));have r:=Rec.new w 24 [iI c.kd,iI c.pg,iI c.bk,iI c.wd,iI c.sl,iI c.st,iI c.ah,.float .f64 c.tr];have c0:=r.cc 0;have c1:=r.cc 1;have c2:=r.cc 2;have c3:=r.cc 3;have c4:=r.cc 4;have c5:=r.cc 5;have c6:=r.cc 6;have c7:=r.cc 7;obtain⟨kd,pg,bk,wd,sl,st,ah,tr⟩:=c;dsimp only at *
 obtain⟨b1,D1⟩:∃b,decide (1<=kd)=b:=⟨_,rfl⟩;obtain⟨b2,D2⟩:∃b,decide (kd<=3)=b:=⟨_,rfl⟩;obtain⟨b3,D3⟩:∃b,ER pg 1 256=b:=⟨_,rfl⟩;obtain⟨b4,D4⟩:∃b,ER bk 1 1024=b:=⟨_,rfl⟩;obtain⟨b5,D5⟩:∃b,ER wd 16 131072=b:=⟨_,rfl⟩;obtain⟨b6,D6⟩:∃b,decide (pg<=wd)=b:=⟨_,rfl⟩;obtain⟨b7,D7⟩:∃b,decide (1<=sl)=b:=⟨_,rfl⟩;obtain⟨b8,D8⟩:∃b,decide (sl<=64)=b:=⟨_,rfl⟩;obtain⟨b9,D9⟩:∃b,decide (1<=st)=b:=⟨_,rfl⟩;obtain⟨D,N⟩:∃b,decide (st<=4096)=b:=⟨_,rfl⟩;obtain⟨E,L⟩:∃b,decide (0<=ah)=b:=⟨_,rfl⟩;obtain⟨I,O⟩:∃b,decide (ah<=16)=b:=⟨_,rfl⟩;rw[D1,D2,D3,D4,D5,D6,D7,D8,D9,N,L,O]at Z;rcases @XVm b1 b2 b3 b4 b5 b6 b7 b8 b9 D E I with rfl|⟨rfl,rfl⟩|⟨rfl,rfl,rfl⟩|⟨rfl,rfl,rfl,rfl⟩|⟨rfl,rfl,rfl,rfl,rfl⟩|⟨rfl,rfl,rfl,rfl,rfl,rfl⟩|⟨rfl,rfl,rfl,rfl,rfl,rfl,rfl⟩|⟨rfl,rfl,rfl,rfl,rfl,rfl,rfl,rfl⟩|⟨rfl,rfl,rfl,rfl,rfl,rfl,rfl,rfl,rfl⟩|⟨rfl,rfl,rfl,rfl,rfl,rfl,rfl,rfl,rfl,rfl⟩|⟨rfl,rfl,rfl,rfl,rfl,rfl,rfl,rfl,rfl,rfl,rfl⟩|⟨rfl,rfl,rfl,rfl,rfl,rfl,rfl,rfl,rfl,rfl,rfl,rfl⟩|⟨rfl,rfl,rfl,rfl,rfl,rfl,rfl,rfl,rfl,rfl,rfl,rfl⟩
 case' inr.inr.inr.inr.inr.inr.inr.inr.inr.inr.inr.inr=>
  have U:ba=true:=by rw[Z.o];rfl
  have HF:=(Y.o U)
  have hx:(decide (4096<(fr:Int))=true/\my=false)\/(decide (4096<(fr:Int))=false/\my=true):=by
   rw[HM.o,U,ψg];by_cases h:fr<=4096
   ·exact .inr ⟨ζ Ω,φ h⟩
   ·exact .inl ⟨φ Ω,ζ h⟩
  obtain⟨d,e⟩|⟨d,e⟩:=hx
 all_goals
  try(have e:my=false:=by rw[HM.o,Z.o];simp)
  try clear HM Z Y
  have HE:Hid (re=if my then 0 else 22):=⟨J⟩;rw[e]at HE;go_in
  go_wp2_with(first|(go_at_call 117;refine AJ (QuJ _ _ _ (by assumption) _) ?_)|(go_at_call 48;refine Qa (HF _) λw1 HG=>?_))
  go_ret;exact⟨by rw[HE.o];rfl,by first|exact M.trans HG|exact M⟩
open Go.ChangeShapes Go.WideShapes Go.ChangeAt
def CY(c:CfI):List Value:=[iI c.kd,iI c.pg,iI c.bk,iI c.wd,iI c.sl,iI c.st,iI c.ah,.float .f64 c.tr]
theorem VS7:prog.cellsOf 24=8:=by kernel_rfl
theorem Vpv{l:List Value}{v0 v1 v2 v3 v4 v5 v6 v7:Value}(hl:l.length=8)(h0:l[0]?=some v0)(h1:l[1]?=some v1)(h2:l[2]?=some v2)(h3:l[3]?=some v3)(h4:l[4]?=some v4)(h5:l[5]?=some v5)(h6:l[6]?=some v6)(h7:l[7]?=some v7):l=[v0,v1,v2,v3,v4,v5,v6,v7]:=by
 match l,hl with
 | [a0,a1,a2,a3,a4,a5,a6,a7],_=>simp at h0 h1 h2 h3 h4 h5 h6 h7;simp[*]
section
variable{enc:TypeId × Value->H}{base:Nat}{spare:Nat->Bool}{held:Bool}{fuel:Nat}{cs:List Value}{x:DataW H × List MemPlace}
theorem ZAk(h:DataW.trod enc prog w base spare held fuel 24 cs=some x):∃c:CfI,cs=CY c/\c.Bd:=by
 obtain⟨xs,n,-,-,hl,Y,hf⟩:=DataW.trod_struct underlying24 h;have ex:∀i,i<xs.length->∃y,xs[i]?=some y:=λi hi=>⟨_,τ hi⟩
 have Y:xs.length=8:=Y;have g0:DataW.trod enc prog w base spare held n 3 ((cs.drop 0).take (prog.cellsOf 3))=xs[0]?:=hf 0 _ rfl;have g1:DataW.trod enc prog w base spare held n 3 ((cs.drop 1).take (prog.cellsOf 3))=xs[1]?:=hf 1 _ rfl;have g2:DataW.trod enc prog w base spare held n 3 ((cs.drop 2).take (prog.cellsOf 3))=xs[2]?:=hf 2 _ rfl;have g3:DataW.trod enc prog w base spare held n 3 ((cs.drop 3).take (prog.cellsOf 3))=xs[3]?:=hf 3 _ rfl;have g4:DataW.trod enc prog w base spare held n 3 ((cs.drop 4).take (prog.cellsOf 3))=xs[4]?:=hf 4 _ rfl;have g5:DataW.trod enc prog w base spare held n 3 ((cs.drop 5).take (prog.cellsOf 3))=xs[5]?:=hf 5 _ rfl;have g6:DataW.trod enc prog w base spare held n 3 ((cs.drop 6).take (prog.cellsOf 3))=xs[6]?:=hf 6 _ rfl;have g7:DataW.trod enc prog w base spare held n 22 ((cs.drop 7).take (prog.cellsOf 22))=xs[7]?:=hf 7 _ rfl;obtain⟨y0,e0⟩:=ex 0 Ω;obtain⟨y1,e1⟩:=ex 1 Ω;obtain⟨y2,e2⟩:=ex 2 Ω;obtain⟨y3,e3⟩:=ex 3 Ω;obtain⟨y4,e4⟩:=ex 4 Ω;obtain⟨y5,e5⟩:=ex 5 Ω;obtain⟨y6,e6⟩:=ex 6 Ω;obtain⟨y7,e7⟩:=ex 7 Ω;rw[e0]at g0;rw[e1]at g1;rw[e2]at g2;rw[e3]at g3;rw[e4]at g4;rw[e5]at g5;rw[e6]at g6;rw[e7]at g7;obtain⟨a0,c0,-,b0⟩:=DataW.trod_int underlying3 g0;obtain⟨a1,c1,-,b1⟩:=DataW.trod_int underlying3 g1;obtain⟨a2,c2,-,b2⟩:=DataW.trod_int underlying3 g2;obtain⟨a3,c3,-,b3⟩:=DataW.trod_int underlying3 g3;obtain⟨a4,c4,-,b4⟩:=DataW.trod_int underlying3 g4;obtain⟨a5,c5,-,b5⟩:=DataW.trod_int underlying3 g5;obtain⟨a6,c6,-,b6⟩:=DataW.trod_int underlying3 g6;obtain⟨a7,c7,-⟩:=VUD underlying22 g7;simp only[QmK,ZO3]at c0 c1 c2 c3 c4 c5 c6 c7;have Z:=Vpv (hl.trans VS7) (E9 c0) (E9 c1) (E9 c2) (E9 c3) (E9 c4) (E9 c5) (E9 c6) (E9 c7);exact⟨⟨a0,a1,a2,a3,a4,a5,a6,a7⟩,Z,(bounds_i64 b1).2,(bounds_i64 b2).2,(bounds_i64 b3).2⟩
end
theorem YW{enc:TypeId×Value->H}{r:Reach}{v:Value}{d:DataW H}
  (hv:Value.okWide prog W r b0 24 v) (h:DataW.Trod enc prog W 0 (λ_=>true) true 24 v d p):∃c:CfI,v=c.V/\c.Bd:=by
 obtain⟨cs,rfl,hsz⟩:=okWide_struct underlying24 hv;obtain⟨fuel,hf⟩:=h;obtain⟨g,h1,h2⟩:=ZAk hf;refine⟨g,?_,h2⟩;have:cs.toList=CY g:=by simpa[Value.cells]using h1
 rw[show g.V=.agg (CY g).toArray from rfl,<-this]
def KB(w:World)(A:Option Addr)(l:List GOp):Prop:=
 ∀i (h:i<l.length),l[i].Bd/\∃b o:Nat,A=some ⟨b,o,none⟩/\b<w.heap.size ∧
  w.cell? ⟨b,o+i*9,none⟩=some (iI l[i].kd) ∧
  w.cell? ⟨b,o+i*9+1,none⟩=some (iI l[i].a) ∧
  w.cell? ⟨b,o+i*9+2,none⟩=some (iI l[i].b) ∧
  w.cell? ⟨b,o+i*9+3,none⟩=some (iI l[i].i) ∧
  w.cell? ⟨b,o+i*9+4,none⟩=some (iI l[i].h.p) ∧
  w.cell? ⟨b,o+i*9+5,none⟩=some (iI l[i].h.f) ∧
  w.cell? ⟨b,o+i*9+6,none⟩=some (iI l[i].h.k) ∧
  w.cell? ⟨b,o+i*9+7,none⟩=some (uU (l[i].wd:Nat)) ∧
  w.cell? ⟨b,o+i*9+8,none⟩=some (.float .f64 l[i].fl)
theorem KB.gr{A:Option Addr}{l:List GOp}(h:KB w A l)(g:Gr w w'):KB w' A l:=λi hi=>by
 obtain⟨h1,b,o,h2,h3,c0,c1,c2,c3,c4,c5,c6,c7,c8⟩:=h i hi;exact⟨h1,b,o,h2,ϑ h3 g.size,(g.cell h3 _).trans c0,(g.cell h3 _).trans c1,(g.cell h3 _).trans c2,(g.cell h3 _).trans c3,(g.cell h3 _).trans c4,(g.cell h3 _).trans c5,(g.cell h3 _).trans c6,(g.cell h3 _).trans c7,(g.cell h3 _).trans c8⟩
theorem Vlo{enc:TypeId×Value->H}{r:Reach}{v:Value}{d:DataW H}
  (hv:Value.okWide prog W r b0 25 v) (h:DataW.Trod enc prog W 0 (λ_=>true) true 25 v d p):
  ∃(A:Option Addr) (cap:Nat) (l:List GOp),v=.slice A l.length cap/\l.length<=maxLen/\KB W A l:=by
 obtain⟨A,len,cap,rfl⟩:=okWide_slice underlying25 hv;obtain⟨fuel,hf⟩:=h;rcases Go.Deep.open_slice underlying25 hf with⟨Y,_⟩|⟨a,len',cap',m,n,D,Pl,Y,_,hl,hm,U,_,hi⟩
 ·simp[Value.cells]at Y;obtain⟨rfl,rfl,rfl⟩:=Y;exact⟨none,0,[],rfl,ζe _,λi h=>absurd h (by simp)⟩
 ·simp[Value.cells]at Y;obtain⟨rfl,rfl,rfl⟩:=Y;have hle:len<=m:=by rw[U];simpa using hl
  obtain⟨l,Z,hR⟩:=V0 (λi (x:GOp)=>x.Bd/\∀j u,(opL x)[j]?=some u->W.cell? (a.add (i*9+j))=some u) len (λi hil=>by
   obtain⟨cs,hc,ht⟩:=hi i Ω;rw[Vuv]at hc;obtain⟨_,hcl,V⟩:=World.cells?_some hc;obtain⟨g,rfl,hg⟩:=X9C ht;refine⟨g,hg,λj u hj=>?_⟩;have J:j<9:=(List.getElem?_eq_some_iff.1 hj).1;have:=V j (by simpa[opL]using J);rw[QFj]at this;rw[this]
   exact hj)
  subst Z;refine⟨some a,cap,l,rfl,by omega,λi hil=>?_⟩;obtain⟨h1,hg⟩:=hR i hil
  have hs:a.spot=none:=by
   have h0:=(hR 0 Ω).2 0 _ rfl;have:=QvD h0;simpa[Addr.add]using this
  obtain⟨b,o,s⟩:=a;simp only at hs;subst hs;have ha:∀k,Addr.add ⟨b,o,none⟩ k=⟨b,o+k,none⟩:=λk=>by unfold Addr.add;split <;> simp_all
  have c0:=hg 0 _ rfl;have c1:=hg 1 _ rfl;have c2:=hg 2 _ rfl;have c3:=hg 3 _ rfl;have c4:=hg 4 _ rfl;have c5:=hg 5 _ rfl;have c6:=hg 6 _ rfl;have c7:=hg 7 _ rfl;have c8:=hg 8 _ rfl;simp only[ha,<-ξv,ζ7]at c0 c1 c2 c3 c4 c5 c6 c7 c8;exact⟨h1,b,o,rfl,VEB c0,c0,c1,c2,c3,c4,c5,c6,c7,c8⟩
def Gph.nil(sl:Nat):Gph:=⟨[],List.replicate sl 0⟩
theorem Gph.nil_rd{sl:Nat}:¬(Gph.nil sl).Rd x:=λh=>h (λ_=>False) (λ_ hr h0=>h0 (ξg hr)) (λ_ h=>h.elim)
theorem Gph.nil_ok(sl:Nat):(Gph.nil sl).Ok:=⟨(λo ho=>by cases ho),(λo ho=>by cases ho),λy hy=>by rw[ξg hy];omega⟩
theorem Q6y{a:Nat}(ha:a<n)(h5:n%pg=0)(h6:1<=pg):(Vm.new n pg rm).ldE a≠0:=by
 have hd:n/pg*pg=n:=by grind [ζo,ζA]
 have e1:a/pg<n/pg:=(ζC h6).2 Ω;unfold Vm.ldE;rw[θ ⟨ψB _,by exact_mod_cast ha⟩]
 show frE (List.replicate (n/pg) 0) ((a/pg:Nat):Int)≠0
 rw[NX (by simp_all),PQ];decide
theorem ZzW{base:Nat}(h1:FV rm=true)(h2:EX pg=true)(h3:1<=n)(h4:n<=524288)(h5:n%pg=0)(hb:base%pg=0)(hn:base<=n)(h6:1<=pg):ShA base base (Vm.new n pg rm):=by
 refine⟨AH.new h1 h2 h3 h4 h5,hb,⟨μ _,hn⟩,λa ha=>⟨λh=>absurd h (Q6y ha h5 h6),λ⟨k1,k2⟩=>?_⟩⟩;have k2:a/pg*pg<base:=k2;have:=(ID (p:=a/pg) h6 hb).2 (ζc k1);omega
theorem Xei(hc:c.Ok):FV c.fr=true:=by
 have h1:=hc.fr;have h3:=hc.pw;have hp:=hc.pg1;have h4:1<=c.wd/c.pg:=(Nat.one_le_div_iff Ω).2 h3;have h5:1<=c.fr:=by unfold HCf.fr;grind
 unfold FV;simp;omega
theorem UD(hc:c.Ok):c.pg+c.wd<=c.n/\c.n<=524288/\c.n%c.pg=0:=by
 have h2:=hc.wd;have h3:=hc.pw;have h4:=hc.dv;unfold HCf.n
 split
 ·refine⟨μ _,by omega,?_⟩
  simp_all
 ·refine⟨by omega,by omega,?_⟩;rw[ξv,Nat.add_mod_left,Nat.add_mod,h4];simp
theorem HIn.new(hc:c.Ok)(hrow:Rec w A.hp 104 (hpL c A none 0 0))(hrn:FZ w A.rn A.q c.pg c.pg (c.pg+c.wd))(hrt:A7 w A.r A.g (List.replicate c.sl 0))(hv:AE w X A.q (Vm.new c.n c.pg c.fr))(hT:AQ w)
  (n1:A.hp≠A.r/\A.hp≠A.g/\A.hp≠A.rn/\A.hp≠1) (n2:A.r≠A.rn/\A.r≠1) (n3:A.g≠A.rn/\A.g≠1/\A.rn≠1)
  (hx:¬X A.hp/\¬X A.r/\¬X A.g/\¬X A.rn/\¬X 1):HIn w c (Gph.nil c.sl) ⟨A,X,c.pg,c.pg,Vm.new c.n c.pg c.fr,λ_=>0,none,0,0,0,0⟩:=by
 obtain⟨w1,w2,w3⟩:=UD hc;have hp:=hc.pg1;refine⟨⟨hrow,hrn,?_,hT,n1,⟨λe=>hrt.dif e.symm,n2⟩,n3,hx⟩,⟨hv,⟨rfl,rfl,rfl⟩,ZzW (base:=c.pg) (n:=c.n) (Xei hc) hc.pg Ω w2 w3 (Nat.mod_self _) (show c.pg<=c.n by omega) hp,rfl⟩,⟨rfl,λx hx=>absurd hx Gph.nil_rd,λx hx=>absurd hx Gph.nil_rd,λx hx=>absurd hx Gph.nil_rd,λx hx=>absurd hx Gph.nil_rd,λx hx=>absurd hx Gph.nil_rd,λx y hx=>absurd hx Gph.nil_rd⟩,Gph.nil_ok _,hc,⟨μ _,ζT _ _⟩,.inl rfl,ζU⟩
 have:HSt.rs ⟨A,X,c.pg,c.pg,Vm.new c.n c.pg c.fr,λ_=>0,none,0,0,0,0⟩ (Gph.nil c.sl)=List.replicate c.sl 0:=by
  unfold HSt.rs Gph.nil
  simp_all
 simp_all
structure OX(w:World)(c:HCf)(s:HSt)(w':World):Prop where
 gr:Gr w w'
 i:HIn w' c (Gph.nil c.sl) s
 o:s.o=none
 lf:s.lf=0
 S:∀k,s.S k->w.heap.size<=k/\k<w'.heap.size
theorem QR7(h:EX (n:Int)=true):n<=256:=by
 unfold EX at h
 grind
theorem ZD(c:CfI)(hb:c.Bd)(hm:c.may=false)(w:World):Calls prog 12 #[c.V] w λe w'=>e=.returned (.tuple #[.pointer none,iI 22])/\Gr w w':=by
 have HC:=ι (λ(W:World)=>VZi c hb W);rw[hm]at HC;simp only[Bool.false_eq_true,if_false]at HC;unfold CfI.V at HC⊢;have Y:=ι ((Gr.refl w).alloc (.cells #[.int .i64 c.kd,.int .i64 c.pg,.int .i64 c.bk,.int .i64 c.wd,.int .i64 c.sl,.int .i64 c.st,.int .i64 c.ah,.float .f64 c.tr] 24));clear hb hm;go_in;go_wp2_with(go_at_call 46;refine Qb (HC.o _) λw1 HG=>?_);go_ret2;exact⟨rfl,Y.o.trans HG.o⟩
theorem TS(c:CfI)(hb:c.Bd)(hm:c.may=true)(w:World)(hT:AQ w):Calls prog 12 #[c.V] w λe w'=>∃s,e=.returned (.tuple #[pP s.A.hp,iI 0])/\OX w c.nat s w':=by
 have HC:=(λ(W:World)=>VZi c hb W);rw[hm]at HC;simp only[if_true]at HC;have Z:=CfI.may_ok hm;have Xw:c.base=true:=by unfold CfI.may at hm;simp at hm;exact hm.1
 rw[CfI.nat_V Xw]at HC⊢;generalize c.nat=d at Z HC⊢;clear hb hm Xw c;have Yl:=Z;have HT:=hT;obtain⟨p1,p2,p3⟩:=UD Z;have hp:=Z.pg1;have hwd:=Z.wd;have hpw:=Z.pw;have Yn:=QR7 Z.pg;have Xj:=(λ(W:World)=>Qa3 Z.bk hp Z.ah Ω W);have Xe:=(λ(W:World)=>ZEa (Xei Z) Z.pg (show 1<=d.n by omega) p2 p3 hp Yn W);have Ym:=(λ(W:World)=>YuH Z.sl.1 Z.sl.2 W)
 have hN:(d.kd=3/\((d.kd:Int) !=3)=false/\(d.n:Int)=(d.pg:Int)+d.wd)\/(d.kd≠3/\((d.kd:Int) !=3)=true/\(d.n:Int)=(d.pg:Int)+d.wd+d.wd):=by
  unfold HCf.n;by_cases h:d.kd=3
  ·exact .inl ⟨h,by rw[h];rfl,by rw[θ h];push_cast;rfl⟩
  ·exact .inr ⟨h,bne_iff_ne.2 Ω,by rw[ψ h];push_cast;rfl⟩
 have Yz:=(Rec.new w 24 (JW d));have Zb:=((Gr.refl w).alloc (.cells (JW d).toArray 24));obtain⟨n,hn⟩:=ε d.n;obtain⟨fr,Xi⟩:=ε d.fr;rw[<-hn]at hN Xe p1 p2;rw[<-Xi]at Xe Xj;have Ye:=ι (ξ hn Xi);have Xu:=hT.lt;have Zc:=ι Xu;unfold LS at HC Xj⊢;unfold JW at *
 clear Z hT p3 hn Xi;rcases hN with⟨-,k3,hN⟩|⟨-,k3,hN⟩
 all_goals
  rw[hN]at Xe;clear hN Xu;go_in;go_upto_region 8 with(go_at_call 46;refine Qa (HC _) λw1 hg=>?_;have Za:=ι (Zb.trans hg);have r1:=Yz.gr hg;have Yg:=ι r1;obtain⟨c0,c1,c2,c3,c4,c5,c6,c7,cl⟩:=r1.k8;clear r1 hg);have I:=Rec.new w1 104 [iI d.kd,iI d.pg,iI d.bk,iI d.wd,iI d.sl,iI d.st,iI d.ah,.float .f64 d.tr,.pointer none,.pointer none,.pointer none,.pointer none,iI 0,iI 0];have Xc:=(Gr.refl w1).alloc (.cells #[.int .i64 d.kd,.int .i64 d.pg,.int .i64 d.bk,.int .i64 d.wd,.int .i64 d.sl,.int .i64 d.st,.int .i64 d.ah,.float .f64 d.tr,.pointer none,.pointer none,.pointer none,.pointer none,.int .i64 0,.int .i64 0] 104);have Xm:=π w1 (.cells #[.int .i64 d.kd,.int .i64 d.pg,.int .i64 d.bk,.int .i64 d.wd,.int .i64 d.sl,.int .i64 d.st,.int .i64 d.ah,.float .f64 d.tr,.pointer none,.pointer none,.pointer none,.pointer none,.int .i64 0,.int .i64 0] 104);obtain⟨w2,Xv⟩:=ε (w1.alloc (.cells #[.int .i64 d.kd,.int .i64 d.pg,.int .i64 d.bk,.int .i64 d.wd,.int .i64 d.sl,.int .i64 d.st,.int .i64 d.ah,.float .f64 d.tr,.pointer none,.pointer none,.pointer none,.pointer none,.int .i64 0,.int .i64 0] 104));rw[<-Xv]at I Xc Xm⊢;have Xx:=ι I;have Yq:=ι Xc;have Xk:=ι Xm;have M:=ι (Yg.o.gr Xc);obtain⟨hb,Xq⟩:=ε w1.heap.size;rw[<-Xq]at Xx Xk⊢;have Xn:=ι Xq;clear I Xc Xm Xv Xq c0 c1 c2 c3 c4 c5 c6 c7 cl;have J:Hid (¬w.heap.size=hb):=⟨λe=>by have:=Yg.o.lt;rw[<-Xn.o]at this;omega⟩;obtain⟨Sx,Y,HS⟩:=AA.start λW'=>AB (λk=>k=hb) w2 W';have y0:=AA.fact Y λ_ h=>(M.o.touch h J.o).cell (j:=0) rfl;have y1:=AA.fact Y λ_ h=>(M.o.touch h J.o).cell (j:=1) rfl;have y2:=AA.fact Y λ_ h=>(M.o.touch h J.o).cell (j:=2) rfl;have y3:=AA.fact Y λ_ h=>(M.o.touch h J.o).cell (j:=3) rfl;have y4:=AA.fact Y λ_ h=>(M.o.touch h J.o).cell (j:=4) rfl;have y5:=AA.fact Y λ_ h=>(M.o.touch h J.o).cell (j:=5) rfl;have y6:=AA.fact Y λ_ h=>(M.o.touch h J.o).cell (j:=6) rfl;have y7:=AA.fact Y λ_ h=>(M.o.touch h J.o).cell (j:=7) rfl;have N:=HS.o _ ((Gr.refl w2).drew.touch _);have D:Inhabited (AA Sx):=⟨⟨_,N⟩⟩;clear Y;refine BI Sx 13 [([0,1,2,3,4],5),([],6),([7,8,9,10,11],12)] [] N ?_;refine AL ?_;go_wp2_with((go_at_call 48;refine Qa (Xj _) λw3 hg=>?_;have G:=ι ((Gr.refl w2).drew.trans hg);clear hg));refine⟨.inr (AA.of (HS.o _ (G.o.touch _))),?_⟩;refine AL ?_;go_wp2_with((go_at_call 47;refine(Xe _).mono ?_;rintro e w4 ⟨q,rfl,hg,hv⟩;have Yw:=ι hv;have Ya:=ι hg;have Xf:=ι (G.o.trans hg);have r4:=Xx.o.gr (G.o.trans hg);have Yx:=ι r4;have z8:=r4.cc 8;have zf:=r4.free;have zl:=r4.lt;clear hg hv r4));refine⟨.inr (AA.of (HS.o _ (Xf.o.touch _))),?_⟩;refine AL ?_;go_wp2_with(fail);refine⟨.inr (AA.of (HS.o _ ((Xf.o.touch (λk=>k=hb)).setCell (a:=⟨hb,8,none⟩) (λ_=>rfl) _))),?_⟩;refine CU ?_;clear y0 y1 y2 y3 y4 y5 y6 y7 N D;clear HS Sx;clear z8 zf zl;have Xh:=Yx.o.set 8 (pP q);have Xb:=(AB.refl (λk=>k=hb) w4).setCell (a:=⟨hb,8,none⟩) (λ_=>rfl) (pP q);obtain⟨w5,Yj⟩:=ε (w4.setCell ⟨hb,8,none⟩ (.pointer (some ⟨q,0,none⟩)));rw[<-Yj]at Xh Xb⊢;have Yr:=ι Xh;have Xp:=ι Xb;have Xl:=(M.o.gr Xf.o).touch Xb J.o;have Yp:=ι Xl;have c4:=Xl.cc 4;clear Xh Xb Yj Xl;go_upto_region 10 with(go_at_call 49;refine(Ym _).mono ?_;rintro e w6 ⟨r,g,rfl,hg,hr,Yh,I⟩;have Xz:=ι (ξ hr (ξ Yh I));have O:=ι hg;have r6:=Yr.o.gr hg;have Ys:=ι r6;have z9:=r6.cc 9;have zf:=r6.free;have zl:=r6.lt;clear hg hr Yh I r6);clear z9 zf zl c4;have Xr:=Ys.o.set 9 (pP r);have Xa:=(AB.refl (λk=>k=hb) w6).setCell (a:=⟨hb,9,none⟩) (λ_=>rfl) (pP r);obtain⟨w7,Yc⟩:=ε (w6.setCell ⟨hb,9,none⟩ (.pointer (some ⟨r,0,none⟩)));rw[<-Yc]at Xr Xa⊢;have Xd:=ι Xa;have Xy:Hid (Rec w7 hb 104 [iI d.kd,iI d.pg,iI d.bk,iI d.wd,iI d.sl,iI d.st,iI d.ah,.float .f64 d.tr,pP q,pP r,.pointer none,.pointer none,iI 0,iI 0]):=⟨Xr⟩;have Yb:=ι ((Yp.o.gr O.o).touch Xa J.o);clear Xr Xa Yc;have Xo:Hid (hb<w3.heap.size):=⟨by have:=G.o.size;rw[Xk.o]at this;rw[Xn.o]at this⊢;omega⟩
  have Xt:Hid (AE w7 (AD (λk=>w3.heap.size<=k) w4) q (Vm.new n d.pg fr)):=⟨by
   have h1:=Yw.o.cut.touch Xp.o (λk hk _ e=>by have:=hk.1;have:=Xo.o;omega)
   exact(h1.gr O.o).touch Xd.o (λk hk _ e=>by have:=hk.1;have:=Xo.o;omega)⟩
  have Yt:Hid (∀W,Gr w7 W->Calls prog 50 #[pP q,iI d.pg,iI ((d.pg:Int)+d.wd)] W λe w'=>∃rn,e=.returned (.tuple #[pP rn,iI 0])/\Gr W w'/\W.heap.size<=rn/\FZ w' rn q d.pg d.pg (d.pg+d.wd)):=⟨λW gg=>by
   have:=YN8 (base:=d.pg) (lim:=d.pg+d.wd) (Xt.o.gr gg) (show n≠0 by omega) Ω (show d.pg+d.wd<=n from p1);rw[show (((d.pg+d.wd:Nat):Int))=(d.pg:Int)+d.wd by push_cast;rfl]at this
   exact this⟩
  obtain⟨Sx,Y,HS⟩:=AA.start λW'=>(∃v:Value,Rec W' hb 104 [iI d.kd,iI d.pg,iI d.bk,iI d.wd,iI d.sl,iI d.st,iI d.ah,.float .f64 d.tr,pP q,pP r,v,.pointer none,iI 0,iI 0])/\AB (λk=>k=hb) w7 W';have y8:=AA.fact Y λ_ h=>by obtain⟨⟨v,h⟩,-⟩:=h;exact h.cc 8
  have y1:=AA.fact Y λ_ h=>(Yb.o.touch h.2 J.o).cell (j:=1) rfl;have y3:=AA.fact Y λ_ h=>(Yb.o.touch h.2 J.o).cell (j:=3) rfl;have N:=HS.o _ (⟨⟨_,Xy.o.gr (Gr.refl w7).drew⟩,(Gr.refl w7).drew.touch _⟩);have D:Inhabited (AA Sx):=⟨⟨_,N⟩⟩;clear Y;refine BI Sx 19 [([0,1,2,3,4,5,6,7,8,9,10,11],12),([13,14,15,16,17],18)] [] N ?_;refine AL ?_;go_wp2_with((go_at_call 50;refine(Yt.o _ (Gr.refl w7).drew).mono ?_;rintro e w8 ⟨rn,rfl,hg,L,Yd⟩;have U:=ι ((Gr.refl w7).drew.trans hg);have Yo:=ι (ξ L Yd);have r8:=Xy.o.gr ((Gr.refl w7).drew.trans hg);have Xs:=ι r8;have Yk:=r8.cc 10;have zf:=r8.free;have zl:=r8.lt;clear hg L Yd r8));refine⟨.inr (AA.of (HS.o _ (⟨⟨_,Xs.o⟩,U.o.touch _⟩))),?_⟩;refine AL ?_;go_wp2_with(fail);refine⟨.inr (AA.of (HS.o _ (⟨⟨_,Xs.o.set 10 (pP rn)⟩,(U.o.touch (λk=>k=hb)).setCell (a:=⟨hb,10,none⟩) (λ_=>rfl) _⟩))),?_⟩;refine CU ?_;clear y8 y1 y3 N D;clear HS Sx;clear Yk zf zl;go_wp2;go_ret2;have Yy:=Xs.o.set 10 (pP rn);have E:=(AB.refl (λk=>k=hb) w8).setCell (a:=⟨hb,10,none⟩) (λ_=>rfl) (pP rn);have Xg:=Za.o;have z1:=Xg.size;have z2:=Xk.o;have z34:=Ya.o.size;have z3:=G.o.size;have hh:=Xn.o;have zt5:=Xp.o.size;have z56:=O.o.size;have zt7:=Xd.o.size;have z78:=U.o.size;obtain⟨Yi,l1,l2⟩:=Xz.o;obtain⟨Yv,L⟩:=Yo.o;have l3:w7.heap.size<=rn:=Yv;have lr:=Yi.lt;have Yu:=Zc.o;have lb:=Xo.o
  have Yf:Gr w (w8.setCell ⟨hb,10,none⟩ (.pointer (some ⟨rn,0,none⟩))):=by
   have t1:AB (λk=>k=hb) w2 _:=(((Xf.o.touch (λk=>k=hb)).trans Xp.o).trans (O.o.touch _)).trans ((Xd.o.trans (U.o.touch _)).trans E);have t2:AB (λk=>k=hb) w _:=((Xg.trans Yq.o).touch (λk=>k=hb)).trans t1;exact(t2.mono (T:=λ_=>False) (λk hk e=>by omega)).gr
  have hsz:w8.heap.size<=(w8.setCell ⟨hb,10,none⟩ (.pointer (some ⟨rn,0,none⟩))).heap.size:=E.size
  have hI:=HIn.new (w:=w8.setCell ⟨hb,10,none⟩ (.pointer (some ⟨rn,0,none⟩))) Yl (A:=⟨hb,q,r,g,rn⟩) (X:=AD (λk=>w3.heap.size<=k) w4) Yy (L.touch E (λe=>by omega)) (((Yi.touch Xd.o (λe=>by omega) (λe=>by omega)).gr U.o).touch E (λe=>by omega) (λe=>by omega))
   (by have:=((Xt.o.gr U.o).touch E (λk hk _ e=>by have:=hk.1;omega));rw[Ye.o.1,Ye.o.2]at this;exact this) (Yf.tab Yu HT)
   ⟨show hb≠r by omega,show hb≠g by omega,show hb≠rn by omega,show hb≠_ by omega⟩ ⟨show r≠rn by omega,show r≠_ by omega⟩ ⟨show g≠rn by omega,show g≠_ by omega,show rn≠_ by omega⟩
   ⟨λe=>by have:w3.heap.size<=hb:=e.1;omega,λe=>by have:r<w4.heap.size:=e.2;omega,λe=>by have:g<w4.heap.size:=e.2;omega,λe=>by have:rn<w4.heap.size:=e.2;omega,λe=>by have:w3.heap.size<=1:=e.1;omega⟩
  refine⟨_,rfl,Yf,hI,rfl,rfl,λk hk=>?_⟩;rcases hk with hk|hk|hk|hk|hk
  ·have h1:w3.heap.size<=k:=hk.1;have h2:k<w4.heap.size:=hk.2;omega
  ·have hk:k=hb:=hk;omega
  ·have hk:k=g:=hk;omega
  ·have hk:k=r:=hk;omega
  ·have hk:k=rn:=hk;have:=L.lt;omega
def HGh(gh:Option (Nat×Int))(s:HSt):Prop:=∀m a,gh=some (m,a)->s.lf<=m/\(if s.lf=0 then s.cyc else wrap64 (s.cyc+1))=a
theorem HGh.no(s:HSt):HGh none s:=λ_ _ e=>by cases e
theorem HGh.stp{gh:Option (Nat×Int)}(h:HGh gh s)(k:DI s s'):HGh gh s':=λm a e=>by
 obtain⟨h1,h2⟩:=h m a e;have k1:=k.lf;refine⟨by omega,?_⟩;rw[k.cyc]
 grind
structure HLv(gh:Option (Nat×Int))(w0:World)(K:Nat->Prop)(c:HCf)(hb:Nat)(g:Gph)(w:World):Prop where
 gr:Gr w0 w
 ex:∃s:HSt,s.A.hp=hb/\HIn w c g s/\(s.o=none↔s.lf=0)/\(∀k,s.S k->w0.heap.size<=k/\¬K k)/\HGh gh s
 kl:∀k,K k->k<w.heap.size
def hlT(w0:World)(K:Nat->Prop)(k:Nat):Prop:=w0.heap.size<=k/\¬K k
section
variable{gh:Option (Nat × Int)}{K K':Nat->Prop}{hb:Nat}
theorem HSt.cut_S(h:HIn w c g s):∀k,(s.cut w).S k->s.S k/\k<w.heap.size:=λk hk=>by
 obtain⟨l1,l2,l3,l4,l5⟩:=h.com.lt;rcases hk with hk|hk|hk|hk|hk
 ·exact⟨.inl hk.1,hk.2⟩
 ·exact⟨.inr (.inl hk),by rw[hk];exact l1⟩
 ·exact⟨.inr (.inr (.inl hk)),by rw[hk];exact l3⟩
 ·exact⟨.inr (.inr (.inr (.inl hk))),by rw[hk];exact l2⟩
 ·exact⟨.inr (.inr (.inr (.inr hk))),by rw[hk];exact l4⟩
theorem HLv.own(h:HLv gh w0 K c hb g w)(gr:Gr w w')(hK:∀k,K' k->K k\/(w.heap.size<=k/\k<w'.heap.size)):HLv gh w0 K' c hb g w':=by
 obtain⟨h1,⟨s,e1,e2,e3,e4,e5⟩,h3⟩:=h;refine⟨h1.trans gr,⟨s.cut w,e1,e2.cut.gr gr,e3,λk hk=>?_,e5⟩,λk hk=>?_⟩
 ·obtain⟨k1,k2⟩:=HSt.cut_S e2 k hk
  grind
 ·rcases hK k hk with h4|h4
  ·exact ϑ (h3 k h4) gr.size
  ·exact h4.2
theorem HLv.get(h:HLv gh w0 K c hb g w)(gr:Gr w w'):HLv gh w0 K c hb g w':=h.own gr (λ_ h=>.inl h)
theorem HLv.touch(h:HLv gh w0 K c hb g w)(t:AB (λk=>K k/\w0.heap.size<=k) w w')(ht:1<w0.heap.size):HLv gh w0 K c hb g w':=by
 obtain⟨h1,⟨s,e1,e2,e3,e4,e5⟩,h3⟩:=h;refine⟨?_,⟨s,e1,e2.touch t (λk _ hk=>⟨λhs=>(e4 k hs).2 hk.1,λe=>by have:=hk.2;omega⟩),e3,e4,e5⟩,λk hk=>ϑ (h3 k hk) t.size⟩;exact((h1.touch (λk=>K k/\w0.heap.size<=k)).trans t |>.mono (T:=λ_=>False) (λk hk e=>by have:=e.2;omega)).gr
theorem HLv.res(h1:Gr w0 w)(h3:∀k,K k->k<w.heap.size)(e1:s.A.hp=hb)(e4:∀k,s.S k->w0.heap.size<=k/\¬K k)(r:BK w c s g' s' w')(e5:HGh gh s'):AB (hlT w0 K) w w'/\HLv gh w0 K c hb g' w':=by
 have t:AB (hlT w0 K) w w':=r.t.mono (λk _ hk=>e4 k hk);refine⟨t,?_,⟨s',by rw[r.hp];exact e1,r.i,r.o,λk hk=>?_,e5⟩,λk hk=>ϑ (h3 k hk) t.size⟩
 ·exact((h1.touch (hlT w0 K)).trans t |>.mono (T:=λ_=>False) (λk hk e=>by have:=e.1;omega)).gr
 ·rcases r.S k hk with hk|hk
  ·exact e4 k hk
  ·exact⟨by have:=h1.size;omega,λh=>by grind⟩
theorem HLv.new(r:OX w0 c s w'):HLv none w0 (λ_=>False) c s.A.hp (Gph.nil c.sl) w':=
 ⟨r.gr,⟨s,rfl,r.i,⟨λ_=>r.lf,λ_=>r.o⟩,λk hk=>⟨(r.S k hk).1,id⟩,HGh.no s⟩,λ_ h=>h.elim⟩
theorem HLv.no(h:HLv gh w0 K c hb g w):HLv none w0 K c hb g w:=by
 obtain⟨h1,⟨s,e1,e2,e3,e4,e5⟩,h3⟩:=h;exact⟨h1,⟨s,e1,e2,e3,e4,HGh.no s⟩,h3⟩
theorem HLv.alloc(h:HLv gh w0 K c hb g w)(a:Int)(x:Hdr):Calls prog 22 #[pP hb,iI a,AO x] w λe w'=>e=.returned (iI (g.alE c.wd a x))/\AB (hlT w0 K) w w'/\HLv none w0 K c hb (g.alG c.wd a x) w':=by
 obtain⟨h1,⟨s,rfl,e2,e3,e4,e5⟩,h3⟩:=h;refine Qa (J6F e2 e3 a x) λw'⟨s',r⟩=>?_;exact⟨rfl,HLv.res h1 h3 rfl e4 r (HGh.no _)⟩
theorem HLv.clear(h:HLv gh w0 K c hb g w)(a:Int):Calls prog 45 #[pP hb,iI a] w λe w'=>e=.returned (iI (g.slE a))/\AB (hlT w0 K) w w'/\HLv gh w0 K c hb (g.clG a) w':=by
 obtain⟨h1,⟨s,rfl,e2,e3,e4,e5⟩,h3⟩:=h;refine Qa (JfK e2 e3 a) λw'⟨s',r,st⟩=>?_;exact⟨rfl,HLv.res h1 h3 rfl e4 r (e5.stp st)⟩
end
theorem XZg{a c:Nat}(hs:a+b+c<=255)(w:World):Calls prog 215 #[AO ⟨a,b,c⟩,iI 2] w λe w'=>e=.returned (iI (a:Int))/\Gr w w':=by
 have HC:=ι (λW=>PA ⟨a,b,c⟩ W);have HE:=ι (DM hs);unfold AO at HC⊢;go_in;go_wp2_with(go_at_call 79;refine Qa (HC.o _) λw1 Y=>?_;rw[HE.o];have hl:=(Gr.refl w).alloc (.cells #[.int .i64 a,.int .i64 b,.int .i64 c] 34);have k0:=(Y.cell (b:=w.heap.size) (by simp) 0).trans (ζw _ _ _ 0 rfl);have k1:=(Y.cell (b:=w.heap.size) (by simp) 1).trans (ζw _ _ _ 1 rfl);have k2:=(Y.cell (b:=w.heap.size) (by simp) 2).trans (ζw _ _ _ 2 rfl);have Z:=ι (hl.trans Y);clear Y hl);go_ret;exact⟨rfl,Z.o⟩
section
variable{B T:Nat->Prop}
def D0(w:World)(c:HCf)(s:HSt)(g':Gph)(B:Nat->Prop)(w':World):Prop:=
 ∃s',BK w c s g' s' w'/\DI s s'/\∀k,B k->¬s'.S k/\k<w'.heap.size/\w.heap.size<=k
theorem HOp.beside(h:HOp w c s g' w'):D0 w c s g' (λ_=>False) w':=by
 obtain⟨s',hr,hs⟩:=h;exact⟨s',hr,hs,λ_ e=>e.elim⟩
theorem D0.fin(h:D0 w c s g' B w'):HOp w c s g' w':=by
 obtain⟨s',hr,hs,-⟩:=h;exact⟨s',hr,hs⟩
theorem D0.alloc(h:D0 w c s g' B w')(gr:Gr w' w2):D0 w c s g' (λk=>B k\/(w'.heap.size<=k/\k<w2.heap.size)) w2:=by
 obtain⟨s',hr,hs,hb⟩:=h;obtain⟨l1,l2,l3,l4,l5⟩:=hr.i.com.lt;refine⟨s'.cut w',⟨hr.t.trans (gr.touch _),hr.i.cut.gr gr,hr.hp,λk hk=>hr.S k (hk.imp (λe=>e.1) id),hr.o⟩,⟨hs.lf,hs.cyc⟩,λk hk=>?_⟩;rcases hk with hk|hk
 ·exact⟨λe=>(hb k hk).1 (e.imp (λe=>e.1) id),ϑ (hb k hk).2.1 gr.size,(hb k hk).2.2⟩
 ·refine⟨?_,hk.2,ω hr.t.size hk.1⟩;rintro(e|e|e|e|e)
  ·have:=e.2;omega
  ·have:k=s'.A.hp:=e;omega
  ·have:k=s'.A.g:=e;omega
  ·have:k=s'.A.r:=e;omega
  ·have:k=s'.A.rn:=e;omega
theorem D0.mono{B':Nat->Prop}(h:D0 w c s g' B w')(hB:∀k,B' k->B k):D0 w c s g' B' w':=by
 obtain⟨s',hr,hs,hb⟩:=h;exact⟨s',hr,hs,λk hk=>hb k (hB k hk)⟩
theorem D0.own(h:D0 w c s g' B w')(hl:1<w.heap.size)(t:AB T w' w2)(hT:∀k,T k->B k):D0 w c s g' B w2:=by
 obtain⟨s',hr,hs,hb⟩:=h;refine⟨s',⟨hr.t.trans' t (λk hk e=>by have:=(hb k (hT k e)).2.2;omega),hr.i.touch t (λk hk e=>⟨(hb k (hT k e)).1,by have:=(hb k (hT k e)).2.2;omega⟩),hr.hp,hr.S,hr.o⟩,hs,λk hk=>⟨(hb k hk).1,ϑ (hb k hk).2.1 t.size,(hb k hk).2.2⟩⟩
theorem D0.op(h:D0 w c s g' B w'):∃s',HIn w' c g' s'/\(s'.o=none↔s'.lf=0)/\s'.A.hp=s.A.hp/\∀g2 w2,HOp w' c s' g2 w2->D0 w c s g2 B w2/\∃T,AB T w' w2/\∀k,B k->¬T k:=by
 obtain⟨s',hr,hs,hb⟩:=h;refine⟨s',hr.i,hr.o,hr.hp,λg2 w2 ho=>?_⟩;obtain⟨s2,Y,Z⟩:=ho;refine⟨⟨s2,hr.trans Y,hs.trans Z,λk hk=>⟨λe=>?_,ϑ (hb k hk).2.1 Y.t.size,(hb k hk).2.2⟩⟩,s'.S,Y.t,λk hk=>(hb k hk).1⟩;rcases Y.S k e with e|e
 ·exact(hb k hk).1 e
 ·have:=(hb k hk).2.1;omega
end
theorem Gph.shE_in(he:g.shE a=0):g.sl a=true/\g.at a≠0/\g.shH a=(g.ob (g.at a)).hdr:=by
 have h0:=he;unfold Gph.shE at he
 split at he
 ·rename_i h1
  split at he
  ·exact absurd he (by decide)
  ·rename_i h2;exact⟨h1,h2,by unfold Gph.shH;rw[θ h0]⟩
 ·exact absurd he (by decide)
theorem HIn.fls(h:HIn w c g s)(he:g.shE a=0):∃p f k:Nat,g.shH a=⟨p,f,k⟩/\p+f+k<=255/\∃l:List Nat,l.length=f/\g.smV a=LZ l ∧
  ∀i,i<f->∃b,b<18446744073709551616/\g.fdE a ((p+i:Nat):Int) 2=0/\g.fdV a ((p+i:Nat):Int) 2=b/\l.take (i+1)=l.take i++[b]:=by
 obtain⟨h1,h2,h3⟩:=Gph.shE_in he;have hr:g.Rd (g.at a):=(Gph.at_ro h1).resolve_left h2;have hb:=h.gok.rd hr;obtain⟨hl,hs⟩:=h.gok.len _ (Gph.ob_mem hb.1 hb.2);refine⟨_,_,_,h3,hs,(g.ob (g.at a)).fls,?_,by unfold Gph.smV;rw[θ he],λi hi=>?_⟩
 ·unfold GOb.fls;rw[ξc,ψt];omega
 ·have hw:=h.img.wd _ hr ((g.ob (g.at a)).p+i) Ω Ω
  have hk:BS (g.ob (g.at a)).hdr (((g.ob (g.at a)).p+i:Nat):Int)=2:=by
   have hN:CD (g.ob (g.at a)).hdr=1+((g.ob (g.at a)).p:Int)+(g.ob (g.at a)).f+(g.ob (g.at a)).k:=θ (DM hs);unfold BS;rw[hN]
   show (if 0<=(((g.ob (g.at a)).p+i:Nat):Int)/\(((g.ob (g.at a)).p+i:Nat):Int)<_ then (if (((g.ob (g.at a)).p+i:Nat):Int)<((g.ob (g.at a)).p:Int)then (1:Int)else if (((g.ob (g.at a)).p+i:Nat):Int)<((g.ob (g.at a)).p:Int)+((g.ob (g.at a)).f:Int)then 2 else 3)else 0)=2
   rw[θ Ω,ψ Ω,θ Ω]
  have hE:g.fdE a (((g.ob (g.at a)).p+i:Nat):Int) 2=0:=by
   unfold Gph.fdE;rw[θ h1,ψ h2,hk];rfl
  refine⟨(g.ob (g.at a)).w.getD ((g.ob (g.at a)).p+i) 0,?_,hE,?_,?_⟩
  ·have h9:=h.mem.ok.ldV_lt ((s.F (g.at a)+1+((g.ob (g.at a)).p+i):Nat):Int);rw[hw.2]at h9;exact h9
  ·unfold Gph.fdV;rw[θ hE];rfl
  ·unfold GOb.fls;rw[ξn,ξn,ξ8 Ω,ξ8 Ω,List.take_add_one];rw[ξS,κ,τ Ω];rfl
end Go.Proofs.YtcihfnpokdbfpaaGreatDoor
