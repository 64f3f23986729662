/- Part 7 of what Trees leans on: my own lemmas, merged by shake.py. -/
import Derived.Test.YtbdimhlaaoadgaaGreatDoorTreesF
import Derived.Maps.OwnIn
import Derived.Deep.MidRow
namespace Go.Proofs.YtbdimhlaaoadgaaGreatDoor
open _root_.Go.Proofs.Tryz
set_option maxHeartbeats 1600000
set_option maxRecDepth 100000
open Go.RowKit Word
variable{I:(Nat->Bool)->Act->World->Prop}{listed:Array Bool}{ops:Array Oper}{held:Bool}{Q:Exit->Act->World->Prop}{g g':Gph}{e kd:Int}{M M':List (Nat × Nat)}{ds:List (Nat×List Nat)}{M0 M1 N:List (Nat×Nat)}{l rs:List Int}{J fin:List Nat}{L:List Ob}{rest:List Oper}{cs xs:List Value}{C a b base f fuel hi i id j k lo m n nF o p r s u v x y z:Nat}{spare:Nat->Bool}{F:Nat->Nat}{P:Program}{md:Region.Mode}{H α:Type}{v':Vm}{w:World}{S:World->Prop}
open Classical in
theorem DP.ex{v:Vm}(hS:DP v rs n):∃L,BM v rs n L:=by
 have V:∀a,Rch v rs a->∃j:Nat,j<n/\(j:Int)=a:=λa ha=>by
  have h1:=hS.rm a ha;have h2:=DC (hS.rd a ha);exact⟨a.toNat,by omega,by omega⟩
 obtain⟨M,hM⟩:∃M,M=((List.range n).filter (λj=>decide (Rch v rs ((j:Nat):Int)))).map (λj=>(j,(v.osz ((j:Nat):Int)).toNat)):=⟨_,rfl⟩
 have X:∀o∈M,∃j:Nat,j<n/\Rch v rs (j:Int)/\o=(j,(v.osz ((j:Nat):Int)).toNat):=λo ho=>by
  rw[hM]at ho;obtain⟨j,hj,rfl⟩:=ζK.1 ho;obtain⟨h1,h2⟩:=ψg.1 hj;exact⟨j,ξo.1 h1,of_decide_eq_true h2,rfl⟩
 have U:∀a,Rch v rs a->Hs M a:=λa ha=>by
  obtain⟨j,hj,rfl⟩:=V a ha;exact⟨(j,(v.osz ((j:Nat):Int)).toNat),by rw[hM];exact ζK.2 ⟨j,ψg.2 ⟨ξo.2 hj,θ ha⟩,rfl⟩,rfl⟩
 refine⟨M,⟨⟨⟨?_,λo ho=>?_⟩,λo ho=>?_⟩,U,λo ho=>?_⟩⟩
 ·rw[hM,ψn];refine ξ1 ?_ (List.Pairwise.filter _ List.pairwise_lt_range);intro i j hi hj hij;have J:=of_decide_eq_true (ψg.1 hi).2;have Z:=of_decide_eq_true (ψg.1 hj).2;have h1:=DC (hS.rd _ J);have h2:=DC (hS.rd _ Z);rcases hS.dj _ _ J Z with e|e|e
  ·omega
  ·omega
  ·omega
 ·obtain⟨j,hj,hr,rfl⟩:=X o ho;have h1:=hS.rm _ hr;have h2:=DC (hS.rd _ hr);omega
 ·obtain⟨j,hj,hr,rfl⟩:=X o ho;have h2:=DC (hS.rd _ hr);exact⟨hr,hS.rd _ hr,by dsimp only;omega⟩
 ·obtain⟨j,hj,hr,rfl⟩:=X o ho;intro i hi;have Y:=hS.pt _ hr i hi;exact⟨Y,λh0=>U _ (hr.step ⟨hS.rd _ hr,i,hi,Y,h0,rfl⟩)⟩
section
variable{v:Vm}
theorem Img.marks(h:Img v g F lo hi)(ho:g.Ok)(hn:hi<=n):∃L,BM v (g.S.map λx=>(F x:Int)) n L:=by
 have hS:=h.sound ho;exact DP.ex ⟨hS.rd,hS.pt,λa ha=>by have:=hS.rm a ha;omega,hS.dj⟩
theorem Img.full(h:Img v g F lo hi)(ho:g.Ok)(hM:BM v (g.S.map λx=>(F x:Int)) n L):FR v L:=λo hoL m hm=>by
 obtain⟨h1,h2,h3⟩:=hM.mkd.ats o hoL;obtain⟨x,hx,e⟩:=h.rch ho h1;rw[e,h.osz ho hx]at h3;have h3:o.2=(g.ob x).size:=Ω
 rw[e];rcases ζJ m with rfl|hp
 ·have:=(SB (h.rd x hx)).2.1
  assumption
 ·obtain⟨i,rfl⟩:∃i,m=1+i:=⟨m-1,by omega⟩;have hi:i<(g.ob x).p+(g.ob x).f+(g.ob x).k:=by rw[h3]at hm;unfold GOb.size at hm;omega
  rcases υ i (g.ob x).p with X|X
  ·have:=(NW (h.pt x hx i X).1).2.2.1
   grind
  ·have:=(h.wd x hx i X hi).1
   grind
theorem Img.inn(h:Img v g F lo hi)(ho:g.Ok)(hM:BM v (g.S.map λx=>(F x:Int)) n L):∀o∈L,lo<=o.1/\o.1+o.2<=hi:=λo hoL=>by
 obtain⟨h1,h2,h3⟩:=hM.mkd.ats o hoL;obtain⟨x,hx,e⟩:=h.rch ho h1;rw[e,h.osz ho hx]at h3;have:=h.lo x hx;omega
def Gph.words(g:Gph):Nat:=(g.all.map λx=>(g.ob x).size).sum
theorem Img.sum(h:Img v g F lo hi)(ho:g.Ok):∀l:List Nat,(∀x∈l,g.Rd x)->AJ v (l.map λx=>(F x:Int))=((l.map λx=>(g.ob x).size).sum:Nat)
 | [],_=>rfl
 | x :: l,hl=>by
  have h1:=h.sum ho l (λy hy=>hl y (τ _ hy));simp only[ζ6,AJ,List.sum_cons];rw[h1,h.osz ho (hl x ζa)];omega
theorem Img.words(h:Img v g F lo hi)(ho:g.Ok)(hM:BM v (g.S.map λx=>(F x:Int)) n L):sizes L=g.words:=by
 have hz:∀o∈L,(o.2:Int)=v.osz o.1:=λo hoL=>(hM.mkd.ats o hoL).2.2;have X:∀x∈g.all,g.Rd x:=λx hx=>ho.mem_all.1 hx;have hsum:=h.sum ho g.all X
 have Z:(g.all.map λx=>(F x:Int)).Nodup:=by
  have h1:=(YE g.pts g.L.length g.S).1;rw[List.Nodup,ψn];refine ξ1 ?_ h1;intro a b ha hb Y e;exact Y (h.inj (X a ha) (X b hb) Ω)
 have h1:AJ v (g.all.map λx=>(F x:Int))<=sizes L:=XaN hz Z (λa ha=>by
  obtain⟨x,hx,rfl⟩:=ζK.1 ha
  exact hM.all _ (h.rch_of (X x hx)))
 have h2:(sizes L:Int)<=AJ v (g.all.map λx=>(F x:Int)):=VJ9 hz (hM.mkd.good.pw.imp_of_mem (λ{a b} ha hb Y=>by have:=(hM.mkd.good.sz a ha).1;omega)) (λo hoL=>by
  obtain⟨x,hx,e⟩:=h.rch ho (hM.mkd.ats o hoL).1
  exact ζK.2 ⟨x,ho.mem_all.2 hx,e.symm⟩)
 unfold Gph.words;omega
end
def GOb.put(o:GOb)(i y:Nat):GOb:=⟨o.p,o.f,o.k,o.w.set i y⟩
def Gph.put(g:Gph)(x i y:Nat):Gph:=⟨g.L.set (x-1) ((g.ob x).put i y),g.S⟩
section
variable{v:Vm}
theorem Gph.put_ob(h1:1<=x)(h2:x<=g.L.length)(z:Nat):(g.put x i y).ob z=if z=x then (g.ob x).put i y else g.ob z:=by
 by_cases e:z=x
 ·subst e;rw[φ rfl]
  show (if z=0 then _ else (g.L.set (z-1) ((g.ob z).put i y)).getD (z-1) ⟨0,0,0,[]⟩)=_
  grind
 ·rw[ξ e]
  show (if z=0 then _ else (g.L.set (x-1) ((g.ob x).put i y)).getD (z-1) ⟨0,0,0,[]⟩)=if z=0 then _ else g.L.getD (z-1) ⟨0,0,0,[]⟩
  grind
theorem Gph.put_rd(h1:1<=x)(h2:x<=g.L.length)(hy:i<(g.ob x).p->y=0\/g.Rd y)(h:(g.put x i y).Rd z):g.Rd z:=by
 refine Gph.Rd.of (g:=g) (g':=g.put x i y) (λr hr h0=>Gph.Rd.root hr h0) (λa ha b hb h0=>?_) h;unfold Gph.pts at hb;rw[Gph.put_ob h1 h2]at hb;by_cases e:a=x
 ·subst e;rw[φ rfl]at hb;have hb:b∈((g.ob a).w.set i y).take (g.ob a).p:=hb;rcases υ i (g.ob a).p with hi|hi
  ·rw[List.take_set]at hb;rcases ζV hb with h3|h3
   ·exact ha.step h3 h0
   simp_all
  ·rw[List.take_set_of_le hi]at hb;exact ha.step hb h0
 ·rw[ξ e]at hb;exact ha.step hb h0
theorem Gph.Ok.put(h:g.Ok)(h1:1<=x)(h2:x<=g.L.length)(hy:i<(g.ob x).p->y<=g.L.length):(g.put x i y).Ok:=by
 have hx:=Gph.ob_mem h1 h2;have hl:(g.put x i y).L.length=g.L.length:=ζb;refine⟨λo ho=>?_,λo ho z hz=>?_,λz hz=>by rw[hl];exact h.st z hz⟩
 ·rcases ζV ho with h3|h3
  ·exact h.len o h3
  ·rw[h3];have:=h.len _ hx;exact⟨by show ((g.ob x).w.set i y).length=_;rw[ζb];exact this.1,this.2⟩
 ·rw[hl];rcases ζV ho with h3|h3
  ·exact h.pt o h3 z hz
  ·rw[h3]at hz;have hz:z∈((g.ob x).w.set i y).take (g.ob x).p:=hz;rcases υ i (g.ob x).p with hi|hi
   ·rw[List.take_set]at hz;rcases ζV hz with h4|h4
    ·exact h.pt _ hx z h4
    omega
   ·rw[List.take_set_of_le hi]at hz;exact h.pt _ hx z hz
theorem QZI(l:List Nat)(i j y:Nat)(hi:i<l.length):(l.set i y).getD j 0=if j=i then y else l.getD j 0:=by
 grind
theorem Img.put{top:Nat}(h:Img v g F lo top)(ho:g.Ok)(hx:g.Rd x)(hi:i<(g.ob x).p+(g.ob x).f+(g.ob x).k)(hy:i<(g.ob x).p->y=0\/g.Rd y)(ht:top<=2147483647)
  (hE:∀a:Nat,lo<=a->a<top->v.ldE a=0->v'.ldE a=0/\v'.ldV a=if a=F x+1+i then (if i<(g.ob x).p then F y else y)else v.ldV a):Img v' (g.put x i y) F lo top:=by
 obtain⟨x1,x2⟩:=ho.rd hx;have hr:∀z,(g.put x i y).Rd z->g.Rd z:=λz hz=>Gph.put_rd x1 x2 hy hz;have J:=λz=>Gph.put_ob (i:=i) (y:=y) x1 x2 z
 have X:∀z,((g.put x i y).ob z).p=(g.ob z).p/\((g.put x i y).ob z).f=(g.ob z).f/\((g.put x i y).ob z).k=(g.ob z).k/\((g.put x i y).ob z).size=(g.ob z).size/\((g.put x i y).ob z).hdr=(g.ob z).hdr:=λz=>by
  rw[J]
  split
  ·rename_i e;subst e;exact⟨rfl,rfl,rfl,rfl,rfl⟩
  ·exact⟨rfl,rfl,rfl,rfl,rfl⟩
 have hlen:=(ho.len _ (Gph.ob_mem x1 x2)).1
 have hw:∀z,g.Rd z->∀j,((g.put x i y).ob z).w.getD j 0=if z=x/\j=i then y else (g.ob z).w.getD j 0:=λz _ j=>by
  rw[J];by_cases e:z=x
  ·subst e;rw[φ rfl]
   show ((g.ob z).w.set i y).getD j 0=_
   rw[QZI _ _ _ _ Ω];by_cases e2:j=i
   ·rw[φ e2,φ ⟨rfl,e2⟩]
   ·rw[ξ e2,ξ (λhh=>e2 hh.2)]
  ·rw[ξ e,ξ (λhh=>e hh.1)]
 have Y:∀z,g.Rd z->∀m,m<(g.ob z).size->lo<=F z+m/\F z+m<top:=λz hz m hm=>by
  have:=h.lo z hz;omega
 have Z:∀z,g.Rd z->∀m,m<(g.ob z).size->(F z+m=F x+1+i↔z=x/\m=1+i):=λz hz m hm=>by
  have hsx:(g.ob x).size=1+(g.ob x).p+(g.ob x).f+(g.ob x).k:=rfl;constructor
  ·intro e;rcases h.dj z x hz hx with e2|e2|e2
   ·subst e2;exact⟨rfl,by omega⟩
   ·omega
   ·omega
  ·rintro⟨rfl,rfl⟩;omega
 have hs:∀z,g.Rd z->v'.rdE (F z)=0/\v'.rdH (F z)=v.rdH (F z):=λz hz=>by
  obtain⟨a1,a2,a3,a4⟩:=SB (h.rd z hz);have U:0<(g.ob z).size:=by unfold GOb.size;omega
  obtain⟨b1,b2⟩:=Y z hz 0 U;obtain⟨e1,e2⟩:=hE (F z) Ω Ω a2;rw[ξ (λe=>by have:=(Z z hz 0 U).1 Ω;omega)]at e2;have:=QM (v:=v') a1 e1 (by rw[e2];exact a3);rw[e2]at this;exact⟨this.1,this.2.trans a4.symm⟩
 have hF:∀b,b=0\/g.Rd b->F b<=2147483647:=λb hb=>by
  rcases hb with rfl|hb
  ·rw[h.z];omega
  ·have:=h.lo b hb;omega
 refine⟨h.z,λz hz=>(hs z (hr z hz)).1,λz hz=>by rw[(X z).2.2.2.2];exact(hs z (hr z hz)).2.trans (h.hd z (hr z hz)),λz hz j hj=>?_,λz hz j h1 h2=>?_,λz hz=>by rw[(X z).2.2.2.1];exact h.lo z (hr z hz),λz z' hz hz'=>by rw[(X z).2.2.2.1,(X z').2.2.2.1];exact h.dj z z' (hr z hz) (hr z' hz')⟩
 ·rw[(X z).1]at hj;have hq:=hr z hz;obtain⟨p1,p2⟩:=h.pt z hq j hj;obtain⟨q1,q2,q3,q4,q5⟩:=NW p1;have hm:1+j<(g.ob z).size:=by unfold GOb.size;omega
  obtain⟨b1,b2⟩:=Y z hq (1+j) hm;have e:(F z:Int)+1+(j:Int)=((F z+(1+j):Nat):Int):=Ω
  rw[e]at q3 q4 q5;obtain⟨e1,e2⟩:=hE _ b1 b2 q3;rw[hw z hq];by_cases hc:z=x/\j=i
  ·obtain⟨rfl,rfl⟩:=hc;rw[φ Ω,φ hj]at e2;have:=OR (v:=v') (a:=(F z:Int)) (i:=j) (hs z hq).1 (by rw[(hs z hq).2];exact q2) (by rw[e];exact e1) (by rw[e,e2];exact hF _ (hy hj));rw[φ ⟨rfl,rfl⟩];exact⟨this.1,by rw[this.2,e,e2]⟩
  ·rw[ξ (λhh=>by have:=(Z z hq (1+j) hm).1 hh;exact hc ⟨this.1,by omega⟩)]at e2;have:=OR (v:=v') (a:=(F z:Int)) (i:=j) (hs z hq).1 (by rw[(hs z hq).2];exact q2) (by rw[e];exact e1) (by rw[e,e2];exact q4);rw[ξ hc];exact⟨this.1,by rw[this.2,e,e2,<-q5];exact p2⟩
 ·rw[(X z).1]at h1;rw[(X z).1,(X z).2.1,(X z).2.2.1]at h2;have hq:=hr z hz;obtain⟨w1,w2⟩:=h.wd z hq j h1 h2;have hm:1+j<(g.ob z).size:=by unfold GOb.size;omega
  obtain⟨b1,b2⟩:=Y z hq (1+j) hm;rw[show F z+1+j=F z+(1+j)by omega]at w1 w2⊢;obtain⟨e1,e2⟩:=hE _ b1 b2 w1;refine⟨e1,?_⟩;rw[hw z hq,e2];by_cases hc:z=x/\j=i
  ·obtain⟨rfl,rfl⟩:=hc;rw[φ Ω,ξ Ω,φ ⟨rfl,rfl⟩]
  ·rw[ξ (λhh=>by have:=(Z z hq (1+j) hm).1 hh;exact hc ⟨this.1,by omega⟩),ξ hc];exact w2
end
def GOb.new(p f k:Nat):GOb:=⟨p,f,k,List.replicate (p+f+k) 0⟩
def Gph.add(g:Gph)(s p f k:Nat):Gph:=⟨g.L++[GOb.new p f k],g.S.set s (g.L.length+1)⟩
section
variable{v:Vm}
theorem Gph.add_ob(z:Nat)(hz:z<=g.L.length):(g.add s p f k).ob z=g.ob z:=by
 show (if z=0 then _ else (g.L++[GOb.new p f k]).getD (z-1) ⟨0,0,0,[]⟩)=if z=0 then _ else g.L.getD (z-1) ⟨0,0,0,[]⟩
 grind
theorem Gph.add_new:(g.add s p f k).ob (g.L.length+1)=GOb.new p f k:=by
 show (if g.L.length+1=0 then _ else (g.L++[GOb.new p f k]).getD (g.L.length+1-1) ⟨0,0,0,[]⟩)=_
 simp_all
theorem XYc(j:Nat):(GOb.new p f k).w.getD j 0=0:=by
 show (List.replicate (p+f+k) 0).getD j 0=0
 grind
theorem Gph.add_pts(h:b∈(g.add s p f k).pts (g.L.length+1)):b=0:=by
 unfold Gph.pts at h;rw[Gph.add_new]at h;exact(List.mem_replicate.1 (ψc h)).2
theorem Gph.add_rd(ho:g.Ok)(h:(g.add s p f k).Rd z):g.Rd z\/z=g.L.length+1:=by
 refine h (λz=>g.Rd z\/z=g.L.length+1) (λr hr h0=>?_) (λa ha b hb h0=>?_)
 ·rcases ζV hr with h1|h1
  ·exact .inl (Gph.Rd.root h1 h0)
  omega
 ·rcases ha with ha|rfl
  ·unfold Gph.pts at hb;rw[Gph.add_ob a (ho.rd ha).2]at hb;exact .inl (ha.step hb h0)
  ·exact absurd (Gph.add_pts hb) h0
theorem Gph.Ok.add(h:g.Ok)(hs:p+f+k<=255):(g.add s p f k).Ok:=by
 have hl:(g.add s p f k).L.length=g.L.length+1:=by show (g.L++[GOb.new p f k]).length=_;simp_all
 refine⟨λo ho=>?_,λo ho z hz=>?_,λz hz=>?_⟩
 ·rcases ζe.1 ho with h1|h1
  ·exact h.len o h1
  ·rw[ζO.1 h1];exact⟨ζT,hs⟩
 ·rcases ζe.1 ho with h1|h1
  ·have:=h.pt o h1 z hz;omega
  ·rw[ζO.1 h1]at hz;have:z=0:=(List.mem_replicate.1 (ψc hz)).2;omega
 ·rcases ζV hz with h1|h1
  ·have:=h.st z h1;omega
  ·omega
theorem Img.add(h:Img v g F lo hi)(ho:g.Ok)(hs:p+f+k<=255){A:Nat}(hA:hi<=A)(hlo:lo<=A)(hr:v'.rdE A=0)(hh:v'.rdH A=(GOb.new p f k).hdr)(hz:∀m:Nat,m<p+f+k->v'.ldE (A+1+m:Nat)=0/\v'.ldV (A+1+m:Nat)=0)
  (he:∀a:Nat,lo<=a->a<hi->v.ldE a=0->v'.ldE a=0/\v'.ldV a=v.ldV a):Img v' (g.add s p f k) (λx=>if x=g.L.length+1 then A else F x) lo (A+1+p+f+k):=by
 have hm:=h.mem he;have X:∀z,g.Rd z->z<=g.L.length/\¬z=g.L.length+1:=λz hz=>by have:=ho.rd hz;omega
 have O:(GOb.new p f k).size=1+p+f+k:=rfl;have Z:(GOb.new p f k).p=p:=rfl;have J:(GOb.new p f k).f=f:=rfl;have U:(GOb.new p f k).k=k:=rfl;refine⟨?_,λz hz'=>?_,λz hz'=>?_,λz hz' i hi'=>?_,λz hz' i a1 a2=>?_,λz hz'=>?_,λz z' hz1 hz2=>?_⟩
 ·show (if 0=g.L.length+1 then A else F 0)=0
  rw[ξ Ω];exact h.z
 ·show v'.rdE ((if z=g.L.length+1 then A else F z:Nat):Int)=0
  rcases Gph.add_rd ho hz' with hq|rfl
  ·rw[ξ (X z hq).2];exact hm.rd z hq
  ·rw[φ rfl];exact hr
 ·show v'.rdH ((if z=g.L.length+1 then A else F z:Nat):Int)=_
  rcases Gph.add_rd ho hz' with hq|rfl
  ·rw[ξ (X z hq).2,Gph.add_ob z (X z hq).1];exact hm.hd z hq
  ·rw[φ rfl,Gph.add_new];exact hh
 ·show v'.ptE ((if z=g.L.length+1 then A else F z:Nat):Int) i=0/\v'.ptV ((if z=g.L.length+1 then A else F z:Nat):Int) i=(if ((g.add s p f k).ob z).w.getD i 0=g.L.length+1 then A else F (((g.add s p f k).ob z).w.getD i 0))
  rcases Gph.add_rd ho hz' with hq|rfl
  ·rw[Gph.add_ob z (X z hq).1]at hi'⊢;have hy:=ho.pts_le (P9 ho hq hi');rw[ξ (X z hq).2,ξ Ω];exact hm.pt z hq i hi'
  ·rw[Gph.add_new]at hi'⊢;rw[Z]at hi';rw[φ rfl,XYc,ξ Ω,h.z];obtain⟨b1,b2⟩:=hz i Ω;have e:(A:Int)+1+(i:Int)=((A+1+i:Nat):Int):=Ω
   have V:BO (v'.rdH (A:Int)) (i:Int)=1:=by
    rw[hh];unfold BO CF C1 GOb.hdr inS;rw[Z,J,U]
    have e1:(decide (0<=(p:Int)/\(p:Int)<256)&&decide (0<=(f:Int)/\(f:Int)<256)&&decide (0<=(k:Int)/\(k:Int)<256)&&decide ((p:Int)+(f:Int)+(k:Int)<256))=true:=by
     simp only[ζh,ζg];omega
    simp only[e1,if_true];rw[φ Ω,φ Ω]
   have:=OR (v:=v') (a:=(A:Int)) (i:=i) hr V (by exact b1) (by rw[e,b2];omega);exact⟨this.1,by rw[this.2,e,b2]⟩
 ·rcases Gph.add_rd ho hz' with hq|rfl
  ·rw[Gph.add_ob z (X z hq).1]at a1 a2⊢;rw[ξ (X z hq).2];exact hm.wd z hq i a1 a2
  ·rw[Gph.add_new]at a1 a2⊢;rw[φ rfl,XYc];exact hz i a2
 ·rcases Gph.add_rd ho hz' with hq|rfl
  ·rw[ξ (X z hq).2,Gph.add_ob z (X z hq).1];have:=h.lo z hq;omega
  ·rw[φ rfl,Gph.add_new,O];omega
 ·rcases Gph.add_rd ho hz1 with hq|rfl
  ·rcases Gph.add_rd ho hz2 with Y|rfl
   ·rw[ξ (X z hq).2,ξ (X z' Y).2,Gph.add_ob z (X z hq).1,Gph.add_ob z' (X z' Y).1];exact h.dj z z' hq Y
   ·rw[ξ (X z hq).2,φ rfl,Gph.add_ob z (X z hq).1];have:=h.lo z hq;exact .inr (.inl Ω)
  ·rcases Gph.add_rd ho hz2 with Y|rfl
   ·rw[φ rfl,ξ (X z' Y).2,Gph.add_ob z' (X z' Y).1];have:=h.lo z' Y;exact .inr (.inr Ω)
   ·exact .inl rfl
end
section
variable{v:Vm}
theorem Img.nodup(h:Img v g F lo hi)(ho:g.Ok):(g.all.map λx=>(F x:Int)).Nodup:=by
 have h1:=(YE g.pts g.L.length g.S).1;rw[List.Nodup,ψn];refine ξ1 ?_ h1;intro a b ha hb X e;exact X (h.inj (ho.mem_all.1 ha) (ho.mem_all.1 hb) Ω)
theorem Img.count(h:Img v g F lo hi)(ho:g.Ok)(hM:BM v (g.S.map λx=>(F x:Int)) n L):L.length=g.all.length:=by
 have hd:(L.map λo=>(o.1:Int)).Nodup:=by
  rw[List.Nodup,ψn];refine ξ1 ?_ hM.mkd.good.pw;intro a b ha hb hab e;have:=(hM.mkd.good.sz a ha).1;omega
 have h1:=hd.length_le_of_subset (l₂:=g.all.map λx=>(F x:Int)) (λa ha=>by
  obtain⟨o,X,rfl⟩:=ζK.1 ha;obtain⟨x,hx,e⟩:=h.rch ho (hM.mkd.ats o X).1
  exact ζK.2 ⟨x,ho.mem_all.2 hx,e.symm⟩)
 have h2:=(h.nodup ho).length_le_of_subset (l₂:=L.map λo=>(o.1:Int)) (λa ha=>by
  obtain⟨x,hx,rfl⟩:=ζK.1 ha;obtain⟨o,X,e⟩:=hM.all _ (h.rch_of (ho.mem_all.1 hx))
  grind)
 grind
end
def lv(B:Nat):List Nat->Nat
 | []=>0
 | x :: xs=>x+B*lv B xs
def Gph.sl(g:Gph)(a:Int):Bool:=decide (0<=a)&&decide (a<g.S.length)
def Gph.at(g:Gph)(a:Int):Nat:=g.S.getD a.toNat 0
def Gph.fdE(g:Gph)(a i kd:Int):Int:=
 if g.sl a then (if g.at a=0 then 18 else if BO (g.ob (g.at a)).hdr i=0 then 19 else if BO (g.ob (g.at a)).hdr i=kd then 0 else 20)else 17
def Gph.fdV(g:Gph)(a i kd:Int):Nat:=if g.fdE a i kd=0 then (g.ob (g.at a)).w.getD i.toNat 0 else 0
def Gph.setSl(g:Gph)(a:Int)(y:Nat):Gph:=⟨g.L,g.S.set a.toNat y⟩
def Gph.setFd(g:Gph)(a i:Int)(y:Nat):Gph:=g.put (g.at a) i.toNat y
def Gph.alE(C:Nat)(g:Gph)(a:Int)(h:Hdr):Int:=if g.sl a then (if C1 h≠0 then 15 else if (C:Int)<g.words+CF h then 21 else 0)else 17
def Gph.alG(C:Nat)(g:Gph)(a:Int)(h:Hdr):Gph:=if g.alE C a h=0 then g.add a.toNat h.p.toNat h.f.toNat h.k.toNat else g
def Gph.two(g:Gph)(a b:Int)(e:Int):Int:=if g.sl a&&g.sl b then e else 17
def Gph.loE(g:Gph)(a b i:Int):Int:=g.two a b (g.fdE b i 1)
def Gph.loG(g:Gph)(a b i:Int):Gph:=if g.loE a b i=0 then g.setSl a (g.fdV b i 1)else g
def Gph.stE(g:Gph)(a i b:Int):Int:=g.two a b (g.fdE a i 1)
def Gph.stG(g:Gph)(a i b:Int):Gph:=if g.stE a i b=0 then g.setFd a i (g.at b)else g
def Gph.wrG(g:Gph)(a i kd:Int)(y:Nat):Gph:=if g.fdE a i kd=0 then g.setFd a i y else g
def Gph.cpG(g:Gph)(a b:Int):Gph:=if g.sl a&&g.sl b then g.setSl a (g.at b)else g
def Gph.clG(g:Gph)(a:Int):Gph:=if g.sl a then g.setSl a 0 else g
def Gph.slE(g:Gph)(a:Int):Int:=if g.sl a then 0 else 17
def Gph.shE(g:Gph)(a:Int):Int:=if g.sl a then (if g.at a=0 then 18 else 0)else 17
def Gph.shH(g:Gph)(a:Int):Hdr:=if g.shE a=0 then (g.ob (g.at a)).hdr else ⟨0,0,0⟩
section
variable{g:Nat}
theorem VMw(h:AW w r g rs){i:Int}(hi:slE rs i≠0):Calls prog 75 #[pP r,iI i] w λe w'=>e=.returned (.tuple #[iI 0,iI 17])/\Gr w w':=by
 have HC:=(RI (h.gr ((Gr.refl w).alloc (.cells #[.int .i64 i] 3))) (b:=w.heap.size) (i:=i) ((Rec.new w 3 [iI i]).cell (j:=0) rfl));rw[show slE rs i=17 by unfold slE at hi⊢;omega]at HC;go_enter func75,ntmps75;go_wp2_with(go_at_call 134;refine HC.mono ?_;rintro e w1 ⟨rfl,rfl⟩);go_ret2;exact⟨rfl,(Gr.refl w).alloc _⟩
theorem QST(h:AW w r g rs){i:Int}(hi:slE rs i≠0)(a:Int):Calls prog 80 #[pP r,iI i,iI a] w λe w'=>e=.returned (iI 17)/\Gr w w':=by
 have HC:=(RI (h.gr ((Gr.refl w).alloc (.cells #[.int .i64 i] 3))) (b:=w.heap.size) (i:=i) ((Rec.new w 3 [iI i]).cell (j:=0) rfl));rw[show slE rs i=17 by unfold slE at hi⊢;omega]at HC;go_enter func80,ntmps80;go_wp2_with(go_at_call 134;refine HC.mono ?_;rintro e w1 ⟨rfl,rfl⟩);go_ret;exact⟨rfl,(Gr.refl w).alloc _⟩
theorem ZP2(h:AW w r g rs){i k:Int}(c0:w.cell? ⟨b,0,none⟩=some (iI i))(c1:w.cell? ⟨b,1,none⟩=some (iI k)):cQ 134 #[pP r,.slice (some ⟨b,0,none⟩) 2 2] w (iI (if slE rs i=0 then slE rs k else 17)):=by
 have cr:=h.rcd.cc 0;have Y:=h.le;have hbl:=AV c0;obtain⟨n,hn⟩:∃n,n=rs.length:=⟨_,rfl⟩
 have X:∀j:Int,(slE rs j=0/\decide (j<0)=false/\decide ((n:Int)<=j)=false)\/(slE rs j=17/\(decide (j<0)=true\/(decide (j<0)=false/\decide ((n:Int)<=j)=true))):=λj=>by
  unfold slE
  grind
 rw[<-hn]at cr Y;have HI:=ι (X i);have HK:=ι (X k);generalize slE rs i=x at HI⊢;generalize slE rs k=y at HK⊢;clear X hn;rcases HI.o with⟨rfl,d0,d1⟩|⟨rfl,d⟩
 ·rw[φ rfl];go_enter func134,ntmps134;go_wp2
  go_loopw [11] (λs11 wr=>∃j:Nat,j<=2/\wr=w/\s11=iI j/\Hid (j=2->y=0)) (λs11 _=>2-(intOf s11).toNat)
  case atStart=>grind
  case round=>
   obtain⟨j,hj,rfl,rfl,HY⟩:=hrel;rcases(by omega:j=0\/j=1\/j=2)with rfl|rfl|rfl
   ·go_wp2;go_round
    case rel=>exact⟨1,by omega,trivial,by go_num,⟨λh=>by omega⟩⟩
    case measure=>simp[intOf]
   ·rcases HK.o with⟨rfl,q0,q1⟩|⟨rfl,q|⟨q,q2⟩⟩
    ·go_wp2;go_round
     case rel=>exact⟨2,by omega,trivial,by go_num,⟨λ_=>trivial⟩⟩
     case measure=>simp[intOf]
    ·go_wp2;go_ret
     simp_all
    ·go_wp2;go_ret
     simp_all
   ·have hy:=HY.o rfl;subst hy;go_wp2;go_ret
    simp_all
 ·rw[ξ (by decide)];rcases d with d0|⟨d0,d1⟩
  all_goals
   go_enter func134,ntmps134;go_wp2
   go_loopw [11] (λs11 wr=>wr=w/\s11=iI 0) (λ_ _=>0)
   case atStart=>simp_all
   case round=>
    obtain⟨rfl,rfl⟩:=hrel;go_wp2;go_ret
    simp_all
def PH(rs:List Int)(i k:Int):List Int:=if slE rs i=0/\slE rs k=0 then rs.set i.toNat (rs.getD k.toNat 0)else rs
theorem Jv2(h:AW w r g rs)(i k:Int):Calls prog 115 #[pP r,iI i,iI k] w λe w'=>e=.returned (iI (if slE rs i=0 then slE rs k else 17))/\AB (λb=>b=g) w w'/\AW w' r g (PH rs i k):=by
 have hg:=(Gr.refl w).alloc (.cells #[.int .i64 i,.int .i64 k] 3);have HC:=(ZP2 (h.gr hg) (b:=w.heap.size) (i:=i) (k:=k) ((Rec.new w 3 [iI i,iI k]).cell (j:=0) rfl) ((Rec.new w 3 [iI i,iI k]).cell (j:=1) rfl));have h':=h.gr hg;have A:=h'.le;have I:∀j,slE rs j=0\/slE rs j=17:=λj=>by unfold slE;omega
 by_cases X:slE rs i=0/\slE rs k=0
 ·have Z:∀j,slE rs j=0->0<=j/\j<rs.length:=λj hj=>by
   unfold slE at hj;omega
  obtain⟨i',rfl⟩:∃i':Nat,i=i':=⟨i.toNat,by grind⟩;obtain⟨k',rfl⟩:∃k':Nat,k=k':=⟨k.toNat,by grind⟩;have hi:=(Z _ X.1).2;have hk:=(Z _ X.2).2;have J:i' < rs.length:=Ω
  have L:k' < rs.length:=Ω
  have HX:Hid (PH rs i' k'=rs.set i' rs[k']):=⟨by unfold PH;simp_all⟩;have V:=(λ(W:World) (gg:Gr w W)=>(h.gr gg).cell L);have G:=((h.gr hg).cell J);have E:=(λ(W:World) (gg:Gr w W)=>FF (h.gr gg).row i');rw[φ X.1,X.2]at HC⊢;obtain⟨x,hx⟩:∃x,x=rs[k']:=⟨_,rfl⟩;rw[<-hx]at V HX;obtain⟨n,hn⟩:∃n,n=rs.length:=⟨_,rfl⟩;have O:=(λ(W:World) (gg:Gr w W)=>(h.gr gg).rcd.cell (j:=0) rfl);rw[<-hn]at O A hi hk J L;have HI0:=J;clear h' hx hn X I Z;go_enter func115,ntmps115;go_upto_region 3 with(go_at_call 134;refine HC.mono ?_;rintro e w1 ⟨rfl,rfl⟩);have z0:=E _ hg;generalize rs[i']=xo at G;obtain⟨Sx,Y,HS⟩:=AA.start λW'=>Gr w W';have y0:=AA.fact Y λ_ h=>O _ h;have y1:=AA.fact Y λ_ h=>V _ h;have y2:∀p:AA Sx,p.w.frozen? ⟨g,i',none⟩=false:=λp=>by have h:=AA.get Y p;exact E _ h
  have U:=HS.o _ (hg.drew);have inst:Inhabited (AA Sx):=⟨⟨_,U⟩⟩;clear Y;refine AI Sx 13 [([0,1,2,3,4,5,6,7,8,9,10,11,12],13)] [] U ?_;refine AE ?_;go_wp2;refine⟨.inl trivial,?_⟩;refine ET ?_;refine ζd ?_;refine ζI ?_;go_wp2;go_ret;exact⟨rfl,AB.setCell (S:=λb=>b=g) (hg.drew.touch _) (a:=⟨g,i',none⟩) (λ_=>rfl) _,by rw[HX.o];exact(h.gr hg.drew).set i' x⟩
 ·have HX:Hid (PH rs i k=rs):=⟨ξ X⟩
  have he:(if slE rs i=0 then slE rs k else 17)=17:=by
   grind
  rw[he]at HC⊢;go_enter func115,ntmps115;go_wp2_with(go_at_call 134;refine HC.mono ?_;rintro e w1 ⟨rfl,rfl⟩);go_ret;exact⟨rfl,hg.touch _,by rw[HX.o];exact h'⟩
end
theorem VBi(b:Nat)(w:World):(callFunc 53 #[uU b]).run prog w=.ok (.value (.float .f64 b)) w:=by kernel_rfl
theorem ZI9(b:Nat)(w:World):(callFunc 59 #[.float .f64 b]).run prog w=.ok (.value (uU b)) w:=by kernel_rfl
theorem PW(b:Nat)(w:World):cQ 15 #[uU b] w (.float .f64 b):=by
 have h1:=VBi b;go_enter func15,ntmps15;go_wp2;go_ret
 simp_all
theorem YC(b:Nat)(w:World):cQ 17 #[.float .f64 b] w (uU b):=by
 have h1:=ZI9 b;go_enter func17,ntmps17;go_wp2;go_ret
 simp_all
structure Sp.Wr(z:Sp)(FS:FuncId):Prop where
 ns:∀n w,(nilAhead (n+1) z.T z.rv "Store").run prog w=.ok (some false) w
 ms:∀n w,(method (n+1) z.T z.rv "Store").run prog w=.ok (FS,z.rv) w
 cs:∀args w,(callFunc FS args).run prog w=.ok (.enter FS args) w
 st:∀{u S w},z.I u S w->∀(a:Int) (x:Nat),z.P a->x<18446744073709551616->Calls prog FS #[z.rv,iI a,uU x] w (λe w'=>e=.returned (iI (u.ldE a))/\AB S w w'/\z.I (u.st a x) (plus S w) w')
def Sp.W(z:Sp)(u:Vm)(S:Nat->Prop)(w w':World):Prop:=AB S w w'/\z.I u (plus S w) w'
def Vm.seV(v:Vm)(a i kd:Int)(x:Nat):Vm:=if v.plE a i kd=0 then v.st (a+1+i) x else v
section
variable{z:Sp}{FS:FuncId}{v:Vm}{S:Nat->Prop}{w1 w':World}
theorem Sp.E.toW(h:z.E v S w w'):z.W v S w w':=⟨h.1.mono (λ_ _ h=>h.2),h.2⟩
theorem Sp.E.transW(h:z.E v S w w1)(k:z.W v' (plus S w) w1 w')(hS:z.Ok):z.W v' S w w':=by
 have hz:=h.1.size;refine⟨(h.1.mono (λ_ _ h=>h.2)).trans' k.1 (λi hi hh=>hh.elim id (λh=>by omega)),hS.mono k.2 (λi hi=>?_)⟩;rcases hi with h1|h1
 ·exact h1
 ·exact .inr Ω
theorem Sp.W.gr(h:z.W v S w w1)(g:Gr w1 w')(hS:z.Ok):z.W v S w w':=⟨h.1.trans (g.touch _),hS.gr h.2 g⟩
theorem QV8(hS:z.Ok)(hI:z.I v S w)(a i:Int)(hP:0<a->z.P a)(hQ:v.plE a i 3=0->z.P (a+1+i)):Calls prog 167 #[z.v,iI a,iI i] w λe w'=>e=.returned (.tuple #[uU (v.gtV a i 3:Nat),iI (v.gtE a i 3)])/\z.E v S w w':=by
 have HG:=(XM hS hI a i 3 (by decide) hP hQ);go_enter func167,ntmps167;go_wp2_with(go_at_call 168;refine(HG).mono ?_;rintro e w1 ⟨rfl,X⟩;have HG1:=X);go_ret2
 simp_all
theorem QUr(hS:z.Ok)(hI:z.I v S w)(a i:Int)(hP:0<a->z.P a)(hQ:v.plE a i 2=0->z.P (a+1+i)):Calls prog 118 #[z.v,iI a,iI i] w λe w'=>e=.returned (.tuple #[.float .f64 (v.gtV a i 2),iI (v.gtE a i 2)])/\z.E v S w w':=by
 have HG:=(XM hS hI a i 2 (by decide) hP hQ);generalize v.gtV a i 2=x at HG⊢;go_enter func118,ntmps118
 go_wp2_with(first
  | (go_at_call 168;refine(HG).mono ?_;rintro e w1 ⟨rfl,X⟩;have HG1:=X)
  | (go_at_call 15;refine AK (PW x _) ?_))
 go_ret2
 simp_all
theorem QnX(hS:z.Ok)(hW:z.Wr FS)(hI:z.I v S w)(a i kd:Int)(hk:kd≠0)(hP:0<a->z.P a)(hQ:v.plE a i kd=0->z.P (a+1+i))(hx:x<18446744073709551616):Calls prog 166 #[z.v,iI a,iI i,iI kd,uU x] w λe w'=>e=.returned (iI (v.gtE a i kd))/\z.W (v.seV a i kd x) S w w':=by
 have X:=(P0 hS hI a i kd hk hP);have n1:=hW.ns;have n2:=hW.ms;have n3:=hW.cs;have HW:=hW;have HX:=hx;unfold Sp.v at X⊢;by_cases hE:v.plE a i kd=0
 ·have HE:Hid (v.gtE a i kd=v.ldE (a+1+i)/\v.seV a i kd x=v.st (a+1+i) x):=⟨⟨ξ (λh=>h hE),φ hE⟩⟩;have HA:Hid (v.plA a i kd=a+1+i):=⟨φ hE⟩;rw[hE,HA.o]at X;have U:=(hQ hE);generalize a+1+i=J at HE X U;go_enter func166,ntmps166
  go_wp2_with(first
   | (go_at_call 196;refine(X).mono ?_;rintro e w1 ⟨rfl,Z⟩;have Y:=Z)
   | (refine(HW.st Y.2 J x U HX).mono ?_;rintro e w2 ⟨rfl,O⟩;have V:Hid (z.W (v.st J x) (plus S w) w1 w2):=⟨O⟩))
  go_ret;exact⟨AS HE.o.1.symm,by rw[HE.o.2];exact Y.transW V.o hS⟩
 ·have HE:Hid (v.gtE a i kd=v.plE a i kd/\v.seV a i kd x=v):=⟨⟨φ hE,ξ hE⟩⟩;obtain⟨y,hy⟩:∃y,y=v.plE a i kd:=⟨_,rfl⟩;have d2:(y==0)=false:=by rw[hy];simpa using hE
  rw[<-hy]at HE X;clear hE hy hI hP hQ hW hx;go_enter func166,ntmps166;go_wp2_with(go_at_call 196;refine(X).mono ?_;rintro e w1 ⟨rfl,Z⟩;have Y:=Z);go_ret;exact⟨AS HE.o.1.symm,by rw[HE.o.2];exact Y.toW⟩
theorem XXd(hS:z.Ok)(hW:z.Wr FS)(hI:z.I v S w)(a i:Int)(hP:0<a->z.P a)(hQ:v.plE a i 3=0->z.P (a+1+i))(hx:x<18446744073709551616):Calls prog 114 #[z.v,iI a,iI i,uU x] w λe w'=>e=.returned (iI (v.gtE a i 3))/\z.W (v.seV a i 3 x) S w w':=by
 have HG:=(QnX hS hW hI a i 3 (by decide) hP hQ hx);go_enter func114,ntmps114;go_wp2_with(go_at_call 166;refine(HG).mono ?_;rintro e w1 ⟨rfl,X⟩;have HG1:=X);go_ret
 simp_all
theorem Ycv(hS:z.Ok)(hW:z.Wr FS)(hI:z.I v S w)(a i:Int)(hP:0<a->z.P a)(hQ:v.plE a i 2=0->z.P (a+1+i))(hx:x<18446744073709551616):Calls prog 113 #[z.v,iI a,iI i,.float .f64 x] w λe w'=>e=.returned (iI (v.gtE a i 2))/\z.W (v.seV a i 2 x) S w w':=by
 have HG:=(QnX hS hW hI a i 2 (by decide) hP hQ hx);go_enter func113,ntmps113
 go_wp2_with(first
  | (go_at_call 17;refine AK (YC x _) ?_)
  | (go_at_call 166;refine(HG).mono ?_;rintro e w1 ⟨rfl,X⟩;have HG1:=X))
 go_ret
 simp_all
theorem Xz9(hS:z.Ok)(hW:z.Wr FS)(hI:z.I v S w)(a i:Int)(hP:0<a->z.P a)(hQ:v.plE a i 1=0->z.P (a+1+i))(hx:x<=2147483647):Calls prog 142 #[z.v,iI a,iI i,iI x] w λe w'=>e=.returned (iI (v.gtE a i 1))/\z.W (v.seV a i 1 x) S w w':=by
 have X:=(P0 hS hI a i 1 (by decide) hP);have n1:=hW.ns;have n2:=hW.ms;have n3:=hW.cs;have HW:=hW;have HX:Hid (x<18446744073709551616):=⟨by omega⟩;have e1:decide ((x:Int)<0)=false:=ζ Ω;have e2:decide (2147483647<(x:Int))=false:=ζ Ω;have e3:IntKind.u64.wrap (x:Int)=(x:Int):=by rw[ξy];omega
 unfold Sp.v at X⊢;by_cases hE:v.plE a i 1=0
 ·have HE:Hid (v.gtE a i 1=v.ldE (a+1+i)/\v.seV a i 1 x=v.st (a+1+i) x):=⟨⟨ξ (λh=>h hE),φ hE⟩⟩;have HA:Hid (v.plA a i 1=a+1+i):=⟨φ hE⟩;rw[hE,HA.o]at X;have U:=(hQ hE);generalize a+1+i=J at HE X U;go_enter func142,ntmps142
  go_wp2_with(first
   | (go_at_call 196;refine(X).mono ?_;rintro e w1 ⟨rfl,Y⟩;have Z:=Y)
   | (refine(HW.st Z.2 J x U HX.o).mono ?_;rintro e w2 ⟨rfl,O⟩;have V:Hid (z.W (v.st J x) (plus S w) w1 w2):=⟨O⟩))
  go_ret;exact⟨AS HE.o.1.symm,by rw[HE.o.2];exact Z.transW V.o hS⟩
 ·have HE:Hid (v.gtE a i 1=v.plE a i 1/\v.seV a i 1 x=v):=⟨⟨φ hE,ξ hE⟩⟩;obtain⟨y,hy⟩:∃y,y=v.plE a i 1:=⟨_,rfl⟩;have d2:(y==0)=false:=by rw[hy];simpa using hE
  rw[<-hy]at HE X;clear hE hy hI hP hQ hW hx;go_enter func142,ntmps142;go_wp2_with(go_at_call 196;refine(X).mono ?_;rintro e w1 ⟨rfl,Y⟩;have Z:=Y;clear Y);go_ret;exact⟨AS HE.o.1.symm,by rw[HE.o.2];exact Z.toW⟩
end
def Gph.Ro(g:Gph)(x:Nat):Prop:=x=0\/g.Rd x
theorem Gph.at_ro{i:Int}(h:g.sl i=true):g.Ro (g.at i):=by
 unfold Gph.sl at h;rw[ζh,ζg,ζg]at h;by_cases h0:g.at i=0
 ·exact .inl h0
 ·refine .inr (Gph.Rd.root ?_ h0);unfold Gph.at
  simp_all
def Gph.erE(g:Gph)(x:Nat)(i kd:Int):Int:=if x=0 then 18 else if BO (g.ob x).hdr i=0 then 19 else if BO (g.ob x).hdr i=kd then 0 else 20
theorem Gph.fdE_er{a:Int}(h:g.sl a=true)(i kd:Int):g.fdE a i kd=g.erE (g.at a) i kd:=by unfold Gph.fdE Gph.erE;rw[φ h]
section
variable{v:Vm}
theorem Z3T(ho:g.Ok)(hx:g.Rd x){i:Int}(hk:kd≠0)(h:BO (g.ob x).hdr i=kd):∃n:Nat,i=n/\n<(g.ob x).p+(g.ob x).f+(g.ob x).k/\(kd=1↔n<(g.ob x).p):=by
 obtain⟨h1,h2⟩:=ho.rd hx;have hl:=(ho.len _ (Gph.ob_mem h1 h2)).2;have hN:CF (g.ob x).hdr=1+((g.ob x).p:Int)+(g.ob x).f+(g.ob x).k:=φ (EG hl);unfold BO at h
 split at h
 ·rename_i hin;refine⟨i.toNat,by omega,by omega,?_⟩;have hp:(g.ob x).hdr.p=((g.ob x).p:Int):=rfl;omega
 omega
theorem Img.plE(h:Img v g F lo hi)(hx:g.Ro x)(i:Int)(hk:kd≠0):v.plE (F x) i kd=g.erE x i kd:=by
 unfold Vm.plE Gph.erE;rcases hx with rfl|hx
 ·rw[h.z,φ rfl];have:v.rdE ((0:Nat):Int)=18:=by unfold Vm.rdE;omega
  assumption
 ·have hp:=h.pos hx;have h0:x≠0:=λe=>by rw[e,h.z]at hp;omega
  rw[h.rd x hx,ξ (λhh=>hh rfl),h.hd x hx,ξ h0];omega
theorem Img.inP(h:Img v g F lo hi)(ho:g.Ok)(hx:g.Ro x){i:Int}(hk:kd≠0)(he:g.erE x i kd=0):g.Rd x/\∃n:Nat,i=n/\n<(g.ob x).p+(g.ob x).f+(g.ob x).k/\(kd=1↔n<(g.ob x).p)/\(F x:Int)+1+i=((F x+1+n:Nat):Int)/\lo<=F x+1+n/\F x+1+n<hi:=by
 unfold Gph.erE at he;have h0:x≠0:=λe=>by omega
 rw[ξ h0]at he;have hr:=hx.resolve_left h0
 have e:BO (g.ob x).hdr i=kd:=by
  omega
 obtain⟨n,rfl,h1,h2⟩:=Z3T ho hr hk e;have:=h.lo x hr;have hz:(g.ob x).size=1+(g.ob x).p+(g.ob x).f+(g.ob x).k:=rfl
 grind
theorem Img.gtE(h:Img v g F lo hi)(ho:g.Ok)(hx:g.Ro x)(i:Int)(hk:kd≠0):v.gtE (F x) i kd=g.erE x i kd:=by
 unfold Vm.gtE;rw[h.plE hx i hk];by_cases he:g.erE x i kd=0
 ·rw[ξ (λhh=>hh he),he];obtain⟨hr,n,rfl,h1,h2,h3,-,-⟩:=h.inP ho hx hk he;rcases υ n (g.ob x).p with h4|h4
  ·have:=(NW (h.pt x hr n h4).1).2.2.1;exact this
  ·exact(h.wd x hr n h4 h1).1
 omega
theorem Img.gtV(h:Img v g F lo hi)(ho:g.Ok)(hx:g.Ro x)(i:Int)(hk:kd≠0)(hk1:kd≠1):v.gtV (F x) i kd=if g.erE x i kd=0 then (g.ob x).w.getD i.toNat 0 else 0:=by
 unfold Vm.gtV;rw[h.plE hx i hk];by_cases he:g.erE x i kd=0
 ·rw[ξ (λhh=>hh he),φ he];obtain⟨hr,n,rfl,h1,h2,h3,-,-⟩:=h.inP ho hx hk he;exact(h.wd x hr n (ξW λh4=>hk1 (h2.2 h4)) h1).2
 simp_all
theorem Img.ptE(h:Img v g F lo hi)(ho:g.Ok)(hx:g.Ro x)(i:Int):v.ptE (F x) i=g.erE x i 1/\(g.erE x i 1=0->v.ptV (F x) i=F ((g.ob x).w.getD i.toNat 0)/\g.Ro ((g.ob x).w.getD i.toNat 0)):=by
 by_cases he:g.erE x i 1=0
 ·obtain⟨hr,n,rfl,h1,h2,h3,-,-⟩:=h.inP ho hx (by decide) he;have h4:=h2.1 rfl;obtain⟨p1,p2⟩:=h.pt x hr n h4;refine⟨p1.trans he.symm,λ_=>⟨p2,?_⟩⟩;by_cases h0:(g.ob x).w.getD n 0=0
  ·exact .inl h0
  ·exact .inr (hr.step (P9 ho hr h4) h0)
 ·refine⟨?_,λhh=>absurd hh he⟩;unfold Vm.ptE;rw[h.gtE ho hx i (by decide),φ he]
theorem Img.seV(h:Img v g F lo hi)(hv:AF v)(ho:g.Ok)(hx:g.Ro x)(i:Int)(hk:kd≠0)(y:Nat)(hy:kd=1->g.Ro y)(hhi:hi<=2147483647):g.erE x i kd=0->Img (v.seV (F x) i kd (if kd=1 then F y else y)) (g.put x i.toNat y) F lo hi:=λhe=>by
 obtain⟨hr,n,rfl,h1,h2,h3,h4,h5⟩:=h.inP ho hx hk he;have X:v.plE (F x) n kd=0:=(h.plE hx n hk).trans he;unfold Vm.seV;rw[φ X,h3,χ]
 have hl:v.ldE ((F x+1+n:Nat):Int)=0:=by
  have:=h.gtE ho hx n hk;unfold Vm.gtE at this
  simp_all
 refine h.put ho hr h1 (λhn=>hy (h2.2 hn)) hhi λa a1 a2 a3=>?_;rw[F2,hv.st_ldV _ hl]
 grind
end
theorem Y7w{F:Fence}(w:World){o:Oper}{a:Act}
  (hg:o.guard=none) (m x v:Operand) (t:TypeId) (hop:o.op=Op.mapUpdate t m x v)
  (k e:TypeId) (K:Maps.Keyed P k) (ht:P.underlying t=some (.map k e)) (hk:P.underlying k=some (.int .i64)) (b n:Nat) (f:Int->Option Value)
  (hm:a.eval m=.map (some b)) (hown:BH P k w b n f) (hn:n<maxLen) (key:Int) (val:Value) (hx:a.eval x=.int .i64 key) (hv:a.eval v=val) (hw:(Lit.int .i64 key).wf=true)
  (hK:∀w',BH P k w' b (n+1) (λy=>if y=key then some val else f y)->AB (λi=>i=b) w w'->wpListIn F nF P ops Q rest (a.put o.dst undef) w'):
  wpListIn F nF P ops Q (o :: rest) a w:=by
 obtain⟨w',X,h1,h2⟩:=hown.put K ht hk hn key val hw;refine wpListIn_plain hg λK' hK'=>?_;refine⟨by simp[Oper.about,hop],?_⟩;rw[Oper.semAt_plain F _ _ (by simp_all)];simp[execOp,hop,hm,hx,hv,X,Result.andThen];exact hK' _ _ (hK w' h1 h2)
theorem V63{F:Fence}(w:World){o:Oper}{a:Act}
  (hg:o.guard=none) (l c:Operand) (t:TypeId) (hop:o.op=Op.makeSlice t l c)
  (base:Nat) (e:TypeId) (i:TypeInfo) (z:Value) (size:Nat) (h1:P.underlying t=some (.slice e)) (h2:P.info? e=some i) (h3:i.zero=some z) (h4:i.size=size)
  (kl kc:IntKind) (n:Nat) (hl:a.eval l=.int kl n) (hc:a.eval c=.int kc n) (b1:n*size<=16777216) (b2:i.bytes*n<=281474976710656) (b3:n<=maxLen) (b4:base<=w.heap.size)
  (hK:∀w',w'.ownsRow base e size (.slice (some ⟨w.heap.size,0,none⟩) n n) n (madeCells z.cells (n*size)).toList->w.grownBy w' none->wpListIn F nF P ops Q rest (a.put o.dst (.slice (some ⟨w.heap.size,0,none⟩) n n)) w'):
  wpListIn F nF P ops Q (o :: rest) a w:=by
 obtain⟨w',X,r1,r2⟩:=run_makeSlice_full (P:=P) w base t e i z size h1 h2 h3 h4 kl kc n b1 b2 b3 b4;refine wpListIn_plain hg λK' hK'=>?_;refine⟨by simp[Oper.about,hop],?_⟩;rw[Oper.semAt_plain F _ _ (by simp_all)];simp[execOp,hop,hl,hc,X,Result.andThen];exact hK' _ _ (hK w' r1 r2)
theorem Ya9{F:Fence}(w:World){o:Oper}{a:Act}
  (hg:o.guard=none) (t:TypeId) (hop:o.op=Op.makeMap t none) (hK:wpListIn F nF P ops Q rest (a.put o.dst (.map (some w.heap.size))) (w.alloc (.map #[] 0))):wpListIn F nF P ops Q (o :: rest) a w:=by
 have X:(Instr.makeMap t none).run P w=.ok (.map (some w.heap.size)) (w.alloc (.map #[] 0)):=rfl;refine wpListIn_plain hg λK' hK'=>?_;refine⟨by simp[Oper.about,hop],?_⟩;rw[Oper.semAt_plain F _ _ (by simp_all)];simp[execOp,hop,X,Result.andThen];exact hK' _ _ hK
theorem J0U(z:Value)(n:Nat):(madeCells #[z] n).toList=List.replicate n z:=by
 unfold madeCells;apply ξs
 ·simp
 grind
def T7(md:Region.Mode)(ops:Array Oper)(ds:List (Nat×List Nat)):Bool:=ds.all λd=>match ops[d.1]? with
 | some o=>d.2.all λi=>o.after.any λe=>Region.binds md e&&e.on==i
 | none=>false
def SQ(md:Region.Mode)(ops:Array Oper):Bool:=(List.range ops.size).all λj=>match ops[j]? with
 | some o=>o.after.all λe=>!Region.binds md e||decide (e.on<j)
 | none=>true
def XEe(l0:Array Bool)(ds:List (Nat×List Nat))(n:Nat):Bool:=(List.range n).all λk=>l0.getD k false||ds.any λd=>d.1==k
def upD(D:Nat->Bool)(k:Nat):Nat->Bool:=λj=>if j=k then true else D j
theorem XRT{f g:Nat->Bool}(h:∀j,g j=true->f j=true)(hi:i<n)(h1:f i=true)(h2:g i=false):cnt g n+1<=cnt f n:=by
 have key:∀m,cnt g m+(if i<m then 1 else 0)<=cnt f m:=λm=>by
  induction m with
  | zero=>simp[LP]
  | succ m ih=>
   rw[CS,CS];by_cases e:i=m
   ·simp_all
   ·have h4:(g m).toNat<=(f m).toNat:=by cases hg:g m <;> cases hf:f m <;> simp_all
    grind
 grind
section
variable{F:Fence}{l:List Oper}
def NH(F:Fence)(n:Nat)(P:Program)(l:List Oper)(S:World->Prop)(Q:Exit->Act->World->Prop)(I:(Nat->Bool)->Act->World->Prop):List (Nat×List Nat)->Prop
 | []=>True
 | d :: r=>(∀(D:Nat->Bool) (a:Act) (w:World),I D a w->S w->D d.1=false->(∀i∈d.2,D i=true)->wpListIn F n P l.toArray (Exit.then (λa2 w2=>S w2/\I (upD D d.1) a2 w2) Q) (AG l [d.1]) a w)/\NH F n P l S Q I r
theorem J0P(h:NH F n P l S Q I ds){d:Nat×List Nat}(hd:d∈ds):
  ∀(D:Nat->Bool) (a:Act) (w:World),I D a w->S w->D d.1=false->(∀i∈d.2,D i=true)->wpListIn F n P l.toArray (Exit.then (λa2 w2=>S w2/\I (upD D d.1) a2 w2) Q) (AG l [d.1]) a w:=by
 induction ds with
 | nil=>cases hd
 | cons e r ih=>
  rcases ζi.1 hd with rfl|hd
  ·exact h.1
  ·exact ih h.2 hd
theorem YEX(hlow:SQ md l.toArray=true)(hr:Region.ready md l.toArray listed=[])(hs:listed.size=l.toArray.size):∀j,j<l.toArray.size->listed.getD j false=true:=by
 intro j
 induction j using Nat.strongRecOn with
 | ind j ih=>
  intro hj;cases hb:listed.getD j false with
  | true=>rfl
  | false=>
   exfalso;have X:l.toArray[j]?=some l.toArray[j]:=Array.getElem?_eq_getElem hj;have hl:=ξb.1 hlow j (ξo.2 hj);rw[X]at hl;have hl:(l.toArray[j].after.all λe=>!Region.binds md e||decide (e.on<j))=true:=hl
   have hm:j∈Region.ready md l.toArray listed:=by
    refine mem_ready.2 ⟨?_,_,X,λe he hbe=>?_⟩
    ·grind
    ·have h1:=Array.all_eq_true_iff_forall_mem.1 hl e he
     grind
   simp_all
theorem QN(hi:i<listed.size):(λj=>(listed.setIfInBounds i true).getD j false)=upD (λj=>listed.getD j false) i:=by
 funext j
 unfold upD;simp only[ψk,Array.getElem?_setIfInBounds]
 grind
theorem QPK(hlow:SQ md l.toArray=true)(hwt:T7 md l.toArray ds=true)(hst:NH F n P l S Q I ds)
  (hfin:∀(D:Nat->Bool) (a:Act) (w:World),I D a w->S w->(∀j,j<l.toArray.size->D j=true)->Q .normal a w):
  ∀(f:Nat) (listed:Array Bool) (a:Act) (w:World),B9 md l.toArray listed->listed.size=l.toArray.size->cnt (λj=>!listed.getD j false) l.toArray.size<=f →
   (∀k,k<l.toArray.size->listed.getD k false=false->∃d∈ds,d.1=k)->S w->I (λj=>listed.getD j false) a w->GR F n P md l.toArray Q S z f listed a w:=by
 intro f
 induction f with
 | zero=>
  intro listed a w hc hs hf X hS hI
  have Y:∀j,j<l.toArray.size->listed.getD j false=true:=λj hj=>by
   grind [VP]
  refine⟨?_,hfin _ a w hI hS Y⟩;cases hr:Region.ready md l.toArray listed with
  | nil=>rfl
  | cons i r=>
   exfalso;have hi:i∈Region.ready md l.toArray listed:=by rw[hr];exact ζa ..
   obtain⟨h1,o,ho,-⟩:=mem_ready.1 hi
   grind
 | succ f ih=>
  intro listed a w hc hs hf X hS hI;refine⟨λhr=>hfin _ a w hI hS (YEX hlow hr hs),λi hi=>?_⟩;obtain⟨h1,o,ho,Y⟩:=mem_ready.1 hi;have U:i<l.toArray.size:=(ζs.1 ho).1
  have J:listed.getD i false=false:=by
   rw[ψk,Array.getElem?_eq_getElem Ω]at h1⊢;exact h1
  obtain⟨d,hd,rfl⟩:=X i U J;have hw:=ξb.1 hwt d hd;rw[ho]at hw;have hw:(d.2.all λi=>o.after.any λe=>Region.binds md e&&e.on==i)=true:=hw
  have V:∀i∈d.2,listed.getD i false=true:=λi hi=>by
   have h2:=ξb.1 hw i hi;obtain⟨e,he,h3⟩:=Array.any_eq_true'.1 h2;obtain⟨h4,h5⟩:=ζY.1 h3;have h5:e.on=i:=by simpa using h5
   rw[<-h5];exact Y e he h4
  have Z:=J0P hst hd _ a w hI hS J V;rw[E3 ho]at Z;refine PM ho (λa2 w2 h2=>⟨.inr h2.1,ih _ a2 w2 (hc.set hi) (by rw[Array.size_setIfInBounds];exact hs) ?_ ?_ h2.1 ?_⟩) Z
  ·have hd':=XRT (f:=λj=>!listed.getD j false) (g:=λj=>!(listed.setIfInBounds d.1 true).getD j false) (n:=l.toArray.size) (i:=d.1) (λj hj=>by
    have e:=congrFun (QN (listed:=listed) (i:=d.1) Ω) j;rw[e]at hj;unfold upD at hj
    split at hj
    ·simp at hj
    ·exact hj) U (by rw[J];rfl) (by
    have e:=congrFun (QN (listed:=listed) (i:=d.1) Ω) d.1;rw[e];unfold upD
    rw[φ rfl];rfl)
   omega
  ·intro k hk hl;have e:=congrFun (QN (listed:=listed) (i:=d.1) Ω) k;rw[e]at hl;unfold upD at hl
   split at hl
   ·cases hl
   ·exact X k hk hl
  grind [QN]
theorem JSy{a:Act}(S:World->Prop)(qs:List Nat)(l0:Array Bool)(ds:List (Nat×List Nat))(I:(Nat->Bool)->Act->World->Prop)(hF:∀f,F.fn f)(hm:P.follows .mixedOrders=true)
  (hB:(GB l.toArray&&Region.noSelect l.toArray&&SQ .any l.toArray&&T7 .any l.toArray ds&&XEe l0 ds l.toArray.size&&decide (GI .any l.toArray qs (Array.replicate l.toArray.size false)=some l0)&&decide (l0.size=l.toArray.size)&&decide (qs.length+cnt (λj=>!l0.getD j false) l.toArray.size=l.toArray.size))=true) (hS:S w.drew)
  (h:wpQuiet P l.toArray (λw'=>∃p:AA S,w'=p.w) (λa'=>I (λj=>l0.getD j false) a' w.drew) (AG l qs) a)
  (hst:NH F n P l (λw'=>∃p:AA S,w'=p.w) (NoPanic Q) I ds)
  (hfin:∀(D:Nat->Bool) (a:Act) (w:World),I D a w->(∃p:AA S,w=p.w)->(∀j,j<l.toArray.size->D j=true)->NoPanic Q .normal a w):(Code.region id l.toArray true).wpIn F n P Q a w:=by
 simp only[ζh,ζg]at hB;obtain⟨⟨⟨⟨⟨⟨⟨V,Z⟩,X⟩,O⟩,Y⟩,U⟩,E⟩,J⟩:=hB;refine wpIn_mono (wpIn_region_any hm ?_) NoPanic.imp;have hz:C5 .any l.toArray l.toArray.size=true:=by unfold C5;simp
 have:=PJ (F:=F) (n:=n) (P:=P) (Q:=NoPanic Q) (S:=λw'=>∃p:AA S,w'=p.w) (md:=.any) (f:=cnt (λj=>!l0.getD j false) l.toArray.size) (K:=λa'=>I (λj=>l0.getD j false) a' w.drew) hF V Z (λc a b w h=>h) hz (AA.of hS)
  (λa hc hI=>QPK X O hst hfin _ l0 a w.drew hc E (ϑ _) (λk hk hl=>by
   have:=ξb.1 Y k (ξo.2 hk)
   simp_all) (AA.of hS) hI) qs _ a U (B9.none .any l.toArray) h
 rw[J]at this;exact PY _ _ _ _ this
theorem VMF{a:Act}(S:World->Prop)(qs:List Nat)(l0:Array Bool)(ds:List (Nat×List Nat))(I:Act->(Nat->Bool)->Act->World->Prop)(hF:∀f,F.fn f)(hm:P.follows .mixedOrders=true)
  (hB:(GB l.toArray&&Region.noSelect l.toArray&&SQ .any l.toArray&&T7 .any l.toArray ds&&XEe l0 ds l.toArray.size&&decide (GI .any l.toArray qs (Array.replicate l.toArray.size false)=some l0)&&decide (l0.size=l.toArray.size)&&decide (qs.length+cnt (λj=>!l0.getD j false) l.toArray.size=l.toArray.size))=true) (hS:S w.drew)
  (h:wpQuiet P l.toArray (λw'=>∃p:AA S,w'=p.w) (λa'=>I a (λj=>l0.getD j false) a' w.drew) (AG l qs) a)
  (hst:NH F n P l (λw'=>∃p:AA S,w'=p.w) (NoPanic Q) (I a) ds)
  (hfin:∀(D:Nat->Bool) (a':Act) (w:World),I a D a' w->(∃p:AA S,w=p.w)->(∀j,j<l.toArray.size->D j=true)->NoPanic Q .normal a' w):(Code.region id l.toArray true).wpIn F n P Q a w:=
 JSy S qs l0 ds (I a) hF hm hB hS h hst hfin
end
def KW(P:Program)(md:Region.Mode)(ops:Array Oper)(Q:Exit->Act->World->Prop)(S:World->Prop)(z:Nat):Nat->Array Bool->Act->World->Prop
 | 0,listed,a,w=>Region.ready md ops listed=[]/\Q .normal a w
 | f+1,listed,a,w=>
  (Region.ready md ops listed=[]->Q .normal a w) ∧
  ∀i∈Region.ready md ops listed,wpOp P ops Q i (λa' w'=>(z<=i\/S w')/\KW P md ops Q S z f (listed.setIfInBounds i true) a' w') a w
theorem ZmF{z:Nat}:∀(f:Nat) (listed:Array Bool) (a:Act) (w:World),KW P md ops Q S z f listed a w->wpAny P md ops Q f listed a w
 | 0,_,_,_,h=>h
 | f+1,_,_,_,h=>⟨h.1,λi hi=>wpOp_mono (λa' w' h'=>ZmF f _ a' w' h'.2) (h.2 i hi)⟩
def K8(md:Region.Mode)(ops:Array Oper)(z:Nat):Bool:=(List.range ops.size).all λk=>decide (k<z)||(List.range z).all λi=>anc md ops ops.size k i
theorem JAl(hz:K8 md ops z=true)(h:B9 md ops listed)(hr:k∈Region.ready md ops listed)(hk:z<=k)(hi:i<z):listed.getD i false=true:=by
 obtain⟨_,oz,hoz,hall⟩:=mem_ready.1 hr;simp only[K8,ζ9,ζg,ξb,ξo]at hz
 grind [T0]
theorem YjG{oi:Oper}{v:Value}(hi:ops[i]?=some oi)(hiz:i<z)(hsel:∀(j:Nat) (o:Oper) cs b,ops[j]?=some o->o.op≠.select cs b)
  (hQ:∀c a w,Q (.panic c) (a.put oi.dst v) w->Q (.panic c) a w) (hz:K8 md ops z=true):
  ∀(f:Nat) (listed:Array Bool) (a:Act) (w:World),B9 md ops listed →
   (∀j oj,ops[j]?=some oj->j≠i->listed.getD j true=false->(∀e∈oj.after,Region.binds md e=true->e.on≠i)->oi.apart ops oj=true) →
   i∈Region.ready md ops listed->YieldsIf P ops S oi v a->S w →
   KW P md ops Q S z f (listed.setIfInBounds i true) (a.put oi.dst v) w->KW P md ops Q S z (f+1) listed a w:=by
 intro f
 induction f with
 | zero=>
  intro listed a w _ _ hr hy hS H;refine⟨λh=>(by simp_all),λj hj=>?_⟩;by_cases X:j=i
  ·subst X;exact hy.wpOp hi hS ⟨.inr hS,H⟩
  ·have:=ready_mono hj X;rw[H.1]at this;cases this
 | succ f ih=>
  intro listed a w L Y hr hy hS H;refine⟨λh=>(by simp_all),λj hj=>?_⟩;by_cases X:j=i
  ·subst X;exact hy.wpOp hi hS ⟨.inr hS,H⟩
  ·have h1:=H.2 j (ready_mono hj X);obtain⟨U,oj,V,I⟩:=mem_ready.1 hj;have Z:=(mem_ready.1 hr).1;have G:¬z<=j:=λe=>MO Z (JAl hz L hj e hiz);have O:∀e∈oj.after,Region.binds md e=true->e.on≠i:=λe he hb heq=>MO Z (heq▸I e he hb);have h2:=wpOp_putIf V (Y j oj V X U O) (λcs b=>hsel i oi cs b hi) (λcs b=>hsel j oj cs b V) hQ hy h1
   have J:∀k ok,ops[k]?=some ok->k≠i->(listed.setIfInBounds j true).getD k true=false →
     (∀e∈ok.after,Region.binds md e=true->e.on≠i)->oi.apart ops ok=true:=λk ok hk hki Z hno=>by
    refine Y k ok hk hki ?_ hno;by_cases E:j=k
    ·subst E;exact U
    ·rw[getD_set_ne true E]at Z;exact Z
   refine wpOp_mono (λa' w' h3=>?_) h2;obtain⟨h3,h4,h5⟩:=h3;have A:S w':=h4.resolve_left G;refine⟨h4,ih (listed.setIfInBounds j true) a' w' (L.set hj) J (ready_mono hr (Ne.symm X)) h3 A ?_⟩
   grind [ψq]
def IJ(md:Region.Mode)(ops:Array Oper)(z:Nat):List (Bool×Nat)->Array Bool->Bool
 | [],listed=>(Region.ready md ops listed).isEmpty
 | (true,k) :: r,listed=>decide (Region.ready md ops listed=[k])&&(decide (k<z)||r.all λx=>x.1)&&IJ md ops z r (listed.setIfInBounds k true)
 | (false,k) :: r,listed=>(Region.ready md ops listed).contains k&&Region.free md ops listed k&&((ops[k]?).any JQ)&&decide (k<z)&&IJ md ops z r (listed.setIfInBounds k true)
def LT(P:Program)(l:List Oper)(S:World->Prop)(z:Nat)(Q:Exit->Act->World->Prop):List (List Nat×Nat)->List Nat->Act->World->Prop
 | [],fin,a,w=>wpQuiet P l.toArray S (λa'=>Q .normal a' w) (AG l fin) a
 | (qs,k) :: r,fin,a,w=>wpQuiet P l.toArray S (λa'=>wpList P l.toArray (Exit.then (λa2 w2=>(z<=k\/S w2)/\LT P l S z Q r fin a2 w2) Q) (AG l [k]) a' w) (AG l qs) a
section
variable{l:List Oper}
theorem XV(hsel:Region.noSelect l.toArray=true)(hQ:∀c a b w,Q (.panic c) b w->Q (.panic c) a w)(hz:K8 md l.toArray z=true){w:World}{K:Act->Prop}{R:List (Bool×Nat)}{f:Nat}
  (hK:∀listed a,IJ md l.toArray z R listed=true->B9 md l.toArray listed->K a->KW P md l.toArray Q S z f listed a w):
  ∀(qs:List Nat) (listed:Array Bool) (a:Act),(S w\/qs=[])->IJ md l.toArray z (qs.map (λk=>(false,k))++R) listed=true->B9 md l.toArray listed->wpQuiet P l.toArray S K (AG l qs) a →
   KW P md l.toArray Q S z (qs.length+f) listed a w
 | [],listed,a,_,hB,hc,h=>by simpa using hK listed a hB hc h
 | k :: qs,listed,a,hS,hB,hc,h=>by
  have hS:S w:=hS.resolve_right (by simp);simp only[ζ6,ζC,IJ,ζh]at hB;obtain⟨⟨⟨⟨hr,hf⟩,hq⟩,hkz⟩,Z⟩:=hB;cases ho:l.toArray[k]? with
  | none=>simp_all
  | some o=>
   rw[ho]at hq;have X:k∈Region.ready md l.toArray listed:=by simp_all
   rw[E3 ho]at h;simp only[wpQuiet]at h
   have hy:∃v,YieldsIf P l.toArray S o v a/\wpQuiet P l.toArray S K (AG l qs) (a.put o.dst v):=by
    split at h
    ·rename_i hw;obtain⟨v,h1,h2⟩:=h
     grind [OO]
    ·rename_i hw;exact⟨undef,.inr ⟨by simp_all,rfl⟩,h⟩
   obtain⟨v,hy,J⟩:=hy;have Y:(k :: qs).length+f=(qs.length+f)+1:=by simp;omega
   rw[Y];exact YjG ho (by simp_all) (Region.noSelect_spec hsel) (λc a w h=>hQ c a _ w h) hz _ listed a w hc (Region.free_spec ho hf) X hy hS (XV hsel hQ hz hK qs _ _ (.inl hS) Z (hc.set X) J)
theorem ZHG(hsel:Region.noSelect l.toArray=true)(hQ:∀c a b w,Q (.panic c) b w->Q (.panic c) a w)(hz:K8 md l.toArray z=true):
  ∀(segs:List (List Nat×Nat)) (fin:List Nat) (listed:Array Bool) (a:Act) (w:World),IJ md l.toArray z (BC segs fin) listed=true->B9 md l.toArray listed->(S w\/((BC segs fin).all λx=>x.1)=true)->LT P l S z Q segs fin a w →
   KW P md l.toArray Q S z (BC segs fin).length listed a w
 | [],fin,listed,a,w,hB,hc,hS,h=>by
  have hS':S w\/fin=[]:=hS.imp id λh=>by
   cases fin with
   | nil=>rfl
   | cons x y=>simp[BC]at h
  have:=XV (R:=[]) (f:=0) (K:=λa'=>Q .normal a' w) hsel hQ hz (λlisted a hB _ h=>⟨by simpa[IJ]using hB,h⟩) fin listed a hS' (by simpa[BC]using hB) hc h;simpa[BC]using this
 | (qs,k) :: r,fin,listed,a,w,hB,hc,hS,h=>by
  have hS':S w\/qs=[]:=hS.imp id λh=>by
   cases qs with
   | nil=>rfl
   | cons x y=>simp[BC]at h
  have Y:(BC ((qs,k) :: r) fin).length=qs.length+((BC r fin).length+1):=by simp[BC]
  rw[Y];refine XV hsel hQ hz (λlisted a hB hc h=>?_) qs listed a hS' (by assumption) hc h;simp only[IJ,ζh,ζg,ζ9]at hB;obtain⟨⟨hr,hkz⟩,Z⟩:=hB;have X:k∈Region.ready md l.toArray listed:=by rw[hr];simp
  refine⟨λh0=>(by simp_all),λi hi=>?_⟩;rw[hr]at hi;obtain rfl:i=k:=by simp_all
  obtain⟨_,o,ho,_⟩:=mem_ready.1 X;rw[E3 ho]at h;refine OI ho (λa2 w2 h2=>⟨h2.1,ZHG hsel hQ hz r fin _ a2 w2 Z (hc.set X) ?_ h2.2⟩) h
  grind
theorem Xw6{qs:List Nat}{r:List (List Nat×Nat)}{a:Act}
  (h:wpQuiet P l.toArray S (λa'=>wpList P l.toArray (Exit.then (λa2 w2=>(z<=k\/S w2)/\LT P l S z Q r fin a2 w2) Q) (AG l [k]) a' w) (AG l qs) a):LT P l S z Q ((qs,k) :: r) fin a w:=h
theorem YqX{a:Act}(h:wpQuiet P l.toArray S (λa'=>Q .normal a' w) (AG l fin) a):LT P l S z Q [] fin a w:=h
theorem YvE{a:Act}(S:World->Prop)(z:Nat)(segs:List (List Nat×Nat))(fin:List Nat)(hm:P.follows .mixedOrders=true)
  (hB:(Region.noSelect l.toArray&&K8 .any l.toArray z&&IJ .any l.toArray z (BC segs fin) (Array.replicate l.toArray.size false)&&(BC segs fin).length==l.toArray.size)=true) (hS:S w.drew)
  (h:LT P l (λw'=>∃p:AA S,w'=p.w) z (NoPanic Q) segs fin a w.drew):(Code.region id l.toArray true).wp P Q a w:=by
 simp only[ζh,ξa]at hB;obtain⟨⟨⟨X,hz⟩,hB⟩,Y⟩:=hB;refine wp_region_noPanic (wp_region_any hm ?_);have:=ZHG (P:=P) (Q:=NoPanic Q) (md:=.any) X (λc a b w h=>h) hz segs fin _ a w.drew hB (B9.none .any l.toArray) (.inl (AA.of hS)) h;rw[Y]at this;exact ZmF _ _ _ _ this
theorem YO{a:Act}(S:World->Prop)(z:Nat)(segs:List (List Nat×Nat))(fin:List Nat)(hS:S w.drew)(h:LT P l (λw'=>∃p:AA S,w'=p.w) z (NoPanic Q) segs fin a w.drew)(hm:P.follows .mixedOrders=true:=by kernel_rfl)(hB:(Region.noSelect l.toArray&&K8 .any l.toArray z&&IJ .any l.toArray z (BC segs fin) (Array.replicate l.toArray.size false)&&(BC segs fin).length==l.toArray.size)=true:=by kernel_rfl) :(Code.region id l.toArray true).wp P Q a w := YvE S z segs fin hm hB hS h
end
theorem Vie(h1:1<=n):n &&& (n-1)=0↔∃k,n=2 ^ k:=by
 constructor
 ·induction n using Nat.strongRecOn with
  | _ n ih=>
   intro h0;by_cases hn:n=1
   ·exact⟨0,hn⟩
   ·have e1:(n &&& (n-1)) >>> 1=n >>> 1 &&& (n-1) >>> 1:=Nat.shiftRight_and_distrib ..;simp only[Nat.shiftRight_succ,Nat.shiftRight_zero]at e1;rcases Nat.mod_two_eq_zero_or_one n with h|h
    ·rw[show (n-1)/2=n/2-1 by omega]at e1;obtain⟨k,hk⟩:=ih (n/2) Ω Ω Ω;exact⟨k+1,by omega⟩
    grind
 simp_all
theorem QdJ(ha:a<9223372036854775808)(hb:b<9223372036854775808):bits .and .i64 (a:Int) (b:Int)=((a &&& b:Nat):Int):=by
 have h1:(BitVec.ofInt 64 (a:Int)).toNat=a:=by
  grind
 have h2:(BitVec.ofInt 64 (b:Int)).toNat=b:=by
  grind
 show IntKind.i64.wrap ((BitVec.ofInt 64 (a:Int) &&& BitVec.ofInt 64 (b:Int)).toNat:Int)=_
 rw[BitVec.toNat_and,h1,h2];have:a &&& b<=a:=ψw;exact ζw _ Ω
theorem XyG(h:n<9223372036854775808):CR (n:Int)=true↔∃k,n=2 ^ k:=by
 unfold CR;by_cases h0:n=0
 ·grind
 ·rw[θ Ω,ξ2,show ((n:Int)-1)=((n-1:Nat):Int)by omega,QdJ h Ω,<-Vie Ω];simp
def EC(n lo hi:Int):Bool:=CR n&&decide (lo<=n)&&decide (n<=hi)
theorem IR{n lo hi:Int}(h:EC n lo hi=true):lo<=n/\n<=hi/\CR n=true:=by
 unfold EC at h
 simp_all
theorem WE(n:Int):EC n 1 1024=BL n:=by
 rw[MU];unfold EC;cases h:CR n with
 | false=>rfl
 | true=>
  have:0<n:=by
   unfold CR at h
   simp_all
  grind
theorem V2o(ha:CR (a:Int)=true)(hb:CR (b:Int)=true)(ha2:a<9223372036854775808)(hb2:b<9223372036854775808)(h:a<=b):b%a=0:=by
 grind [XyG,Nat.pow_le_pow_iff_right,Nat.mod_eq_zero_of_dvd,Nat.pow_dvd_pow]
theorem RW(l:List Nat)(i j y:Nat):(l.set i y).getD j 0=if j=i/\i<l.length then y else l.getD j 0:=by
 rw[ω,ω,ψo];by_cases e:i=j
 ·subst e;by_cases h:i<l.length
  ·rw[φ rfl,φ h,φ ⟨rfl,h⟩];rfl
  ·rw[φ rfl,ξ h,ξ (λhh=>h hh.2),ζN Ω]
 ·rw[ξ e,ξ (λhh=>e hh.1.symm)]
theorem ZaP{W:World}{T:TypeId}(h:Rec W b T xs):∀(n i:Nat) (acc:Array Value),i+n=xs.length->(loadCellsFrom ⟨b,0,none⟩ i n acc).run prog W=.ok (acc++(xs.drop i).toArray) W:=by
 intro n
 induction n with
 | zero=>
  intro i acc hi;rw[List.drop_eq_nil_of_le Ω];simp[loadCellsFrom,go_sem]
 | succ n ih=>
  intro i acc hi;have hc:=h.cell (j:=i) (u:=xs[i]' Ω) (η _);unfold loadCellsFrom;simp only[Sem.run_bind];rw[show (load (Addr.add ⟨b,0,none⟩ i)).run prog W=.ok (xs[i]' Ω) W by simp[go_sem,hc]];simp only[Result.andThen];rw[ih (i+1) _ Ω,ξK (show i<xs.length by omega)];simp
theorem SA{W:World}{T:TypeId}(h:Rec W b T xs)(hA:(isAgg T).run prog W=.ok true W)(hS:(sizeOf T).run prog W=.ok xs.length W):(loadVar T ⟨b,0,none⟩).run prog W=.ok (.agg xs.toArray) W:=by
 have:=ZaP h xs.length 0 #[] Ω;simp[loadVar,Sem.run_bind,hA,hS,Result.andThen,loadCells,this,go_sem]
theorem Qwi(a:Addr)(k:FloatKind)(b:Nat)(w:World):(store a (.float k b)).run prog w=stored prog w a (.float k b) .plain:=run_store _ _ _ _ _ rfl
section
variable{i:Int}{o:GOb}
theorem Gph.sl_lt(h:s<g.S.length):g.sl (s:Int)=true:=by
 unfold Gph.sl
 simp_all
theorem Gph.fd_ob(hs:s<g.S.length)(hy:g.S.getD s 0=y)(h0:y≠0)(ho:g.ob y=o)(hij:i=(j:Int))(hk:BO o.hdr i=kd)(hk0:kd≠0):g.fdE s i kd=0/\g.fdV s i kd=o.w.getD j 0:=by
 have X:g.at (s:Int)=y:=hy
 have e:g.fdE s i kd=0:=by
  unfold Gph.fdE;rw[g.sl_lt hs,φ rfl,X,ξ h0,ho,hk,ξ hk0,φ rfl]
 refine⟨e,?_⟩;unfold Gph.fdV
 simp_all
theorem Gph.two_ok(ha:a<g.S.length)(hb:b<g.S.length)(e:Int):g.two a b e=e:=by
 unfold Gph.two;rw[g.sl_lt ha,g.sl_lt hb];rfl
theorem Gph.loG_ob(ha:a<g.S.length)(hb:b<g.S.length)(hy:g.S.getD b 0=y)(h0:y≠0)(ho:g.ob y=o)(hij:i=(j:Int))(hk:BO o.hdr i=1):g.loE a b i=0/\g.loG a b i=⟨g.L,g.S.set a (o.w.getD j 0)⟩:=by
 obtain⟨h1,h2⟩:=g.fd_ob hb hy h0 ho hij hk (by decide);have e:g.loE a b i=0:=by unfold Gph.loE;rw[g.two_ok ha hb,h1]
 refine⟨e,?_⟩;unfold Gph.loG;rw[φ e,h2];rfl
theorem Gph.stG_ob(ha:a<g.S.length)(hb:b<g.S.length)(hy:g.S.getD a 0=y)(h0:y≠0)(ho:g.ob y=o)(hij:i=(j:Int))(hk:BO o.hdr i=1):g.stE a i b=0/\g.stG a i b=g.put y j (g.S.getD b 0):=by
 obtain⟨h1,-⟩:=g.fd_ob ha hy h0 ho hij hk (by decide);have e:g.stE a i b=0:=by unfold Gph.stE;rw[g.two_ok ha hb,h1]
 refine⟨e,?_⟩;unfold Gph.stG Gph.setFd;rw[φ e,show g.at (a:Int)=y from hy,hij];rfl
theorem Gph.wrG_ob(hs:s<g.S.length)(hy:g.S.getD s 0=y)(h0:y≠0)(ho:g.ob y=o)(hij:i=(j:Int))(hk:BO o.hdr i=kd)(hk0:kd≠0)(v:Nat):g.wrG s i kd v=g.put y j v:=by
 unfold Gph.wrG Gph.setFd;rw[φ (g.fd_ob hs hy h0 ho hij hk hk0).1,show g.at (s:Int)=y from hy,hij];rfl
theorem Gph.cpG_ok(ha:a<g.S.length)(hb:b<g.S.length):g.cpG a b=⟨g.L,g.S.set a (g.S.getD b 0)⟩:=by
 unfold Gph.cpG;rw[g.sl_lt ha,g.sl_lt hb];rfl
theorem Gph.clG_ok(ha:a<g.S.length):g.clG a=⟨g.L,g.S.set a 0⟩:=by
 unfold Gph.clG;rw[g.sl_lt ha];rfl
theorem Gph.shE_ok(hs:s<g.S.length):g.shE s=if g.S.getD s 0=0 then 18 else 0:=by
 unfold Gph.shE;rw[g.sl_lt hs];rfl
theorem Vn2{l:List Nat}{i:Nat}(h:i≠j):(l.set i v).getD j 0=l.getD j 0:=by
 simp_all
theorem JhX{l:List Nat}{i:Nat}(h:i<l.length):(l.set i v).getD i 0=v:=by
 simp_all
theorem Gph.all_of(hk:g.Ok){T:List Nat}(hn:T.Nodup)(h1:∀r∈g.S,r≠0->r∈T)(h2:∀x∈T,∀z∈g.pts x,z≠0->z∈T)(h3:∀x∈T,g.Rd x):g.all.length=T.length/\g.words=(T.map λx=>(g.ob x).size).sum:=by
 have hm:∀x,x∈g.all↔x∈T:=λx=>by
  rw[hk.mem_all];exact⟨λhx=>hx (λx=>x∈T) h1 h2,h3 x⟩
 have X:g.all.Nodup:=(YE g.pts g.L.length g.S).1;have hp:g.all.Perm T:=(List.perm_ext_iff_of_nodup X hn).2 hm;exact⟨hp.length_eq,(hp.map _).sum_nat⟩
end
inductive BT where
 | nil:BT
 | node:Nat->Nat->Nat->BT->BT->BT
variable{D R T c d:BT}
namespace BT
def top:BT->Nat
 | nil=>0
 | node x _ _ _ _=>x
def ids:BT->List Nat
 | nil=>[]
 | node x _ _ a b=>x :: (a.ids++b.ids)
def its:BT->List (Nat×Nat)
 | nil=>[]
 | node _ f w a b=>(f,w) :: (a.its++b.its)
end BT
def btO(a b f w:Nat):GOb:=⟨2,1,1,[a,b,f,w]⟩
theorem TG(a b f w:Nat):BO (btO a b f w).hdr 0=1/\BO (btO a b f w).hdr 1=1/\BO (btO a b f w).hdr 2=2/\BO (btO a b f w).hdr 3=3:=by
 rw[show (btO a b f w).hdr=(⟨2,1,1⟩:Hdr)from rfl];exact⟨by decide,by decide,by decide,by decide⟩
def Gph.sv(g:Gph)(j:Nat):Nat:=g.S.getD j 0
structure Bd(g:Gph)(x a b f w:Nat):Prop where
 h1:1<=x
 h2:x<=g.L.length
 ob:g.ob x=btO a b f w
def Rep(g:Gph):BT->Prop
 | .nil=>True
 | .node x f w a b=>Bd g x a.top b.top f w/\Rep g a/\Rep g b
structure Has(g:Gph)(j:Nat)(T:BT):Prop where
 lt:j<g.S.length
 sv:g.sv j=T.top
 rep:Rep g T
section
variable{w d q:Nat}
theorem Rep.mem:∀{T:BT},Rep g T->∀x∈T.ids,1<=x/\x<=g.L.length
 | .nil,_,_,hx=>by cases hx
 | .node z f w a b,⟨h1,h2,h3⟩,x,hx=>by
  rcases ζi.1 hx with rfl|hx
  ·exact⟨h1.h1,h1.h2⟩
  ·rcases ζe.1 hx with hx|hx
   ·exact h2.mem x hx
   ·exact h3.mem x hx
theorem Rep.of(hl:g.L.length<=g'.L.length):∀{T:BT},Rep g T->(∀x∈T.ids,g'.ob x=g.ob x)->Rep g' T
 | .nil,_,_=>trivial
 | .node z _ _ _ _,⟨h1,h2,h3⟩,h=>⟨⟨h1.h1,β h1.h2 hl,(h z (ζa ..)).trans h1.ob⟩,h2.of hl (λx hx=>h x (τ _ (ζk _ hx))),h3.of hl (λx hx=>h x (τ _ (ζt _ hx)))⟩
theorem BT.len_its:∀T:BT,T.its.length=T.ids.length
 | .nil=>rfl
 | .node _ _ _ a b=>by simp[BT.its,BT.ids,a.len_its,b.len_its]
theorem Has.of(h:Has g j T)(hl:g.L.length<=g'.L.length)(hs:g'.S.length=g.S.length)(e:g'.sv j=g.sv j)(ho:∀x∈T.ids,g'.ob x=g.ob x):Has g' j T:=⟨by rw[hs];exact h.lt,e.trans h.sv,h.rep.of hl ho⟩
theorem OS{L:List GOb}(h:d<g.S.length):(⟨L,g.S.set d v⟩:Gph).sv j=if j=d then v else g.sv j:=by
 show (g.S.set d v).getD j 0=_
 by_cases e:j=d
 ·subst e;rw[φ rfl,JhX h]
 ·rw[ξ e,Vn2 (λh=>e h.symm)];rfl
theorem KN(h:d<g.S.length):(g.clG d).L=g.L/\(g.clG d).S.length=g.S.length/\∀j,(g.clG d).sv j=if j=d then 0 else g.sv j:=by
 rw[g.clG_ok h];exact⟨rfl,ζb ..,λj=>OS h⟩
theorem IF(h:d<g.S.length)(h2:s<g.S.length):(g.cpG d s).L=g.L/\(g.cpG d s).S.length=g.S.length/\∀j,(g.cpG d s).sv j=if j=d then g.sv s else g.sv j:=by
 rw[g.cpG_ok h h2];exact⟨rfl,ζb ..,λj=>OS h⟩
theorem GN(h:s<g.S.length):g.shE s=if g.sv s=0 then 18 else 0:=g.shE_ok h
theorem Bd.nz(h:Bd g x a b f w):x≠0:=by have:=h.h1;omega
theorem FW(hd:d<g.S.length)(hs:s<g.S.length)(hx:g.sv s=x)(h:Bd g x a b f w):((g.loG d s 0).L=g.L/\(g.loG d s 0).S.length=g.S.length/\∀j,(g.loG d s 0).sv j=if j=d then a else g.sv j)/\(g.loG d s 1).L=g.L/\(g.loG d s 1).S.length=g.S.length/\∀j,(g.loG d s 1).sv j=if j=d then b else g.sv j:=by
 have k:=TG a b f w;rw[(g.loG_ob hd hs hx h.nz h.ob (j:=0) (i:=0) rfl k.1).2,(g.loG_ob hd hs hx h.nz h.ob (j:=1) (i:=1) rfl k.2.1).2];exact⟨⟨rfl,ζb ..,λj=>OS hd⟩,rfl,ζb ..,λj=>OS hd⟩
theorem XA(hd:d<g.S.length)(hs:s<g.S.length)(hx:g.sv s=x)(h:Bd g x a b f w):((∀z,(g.stG s 0 d).ob z=if z=x then btO (g.sv d) b f w else g.ob z)/\(g.stG s 0 d).L.length=g.L.length/\(g.stG s 0 d).S=g.S)/\(∀z,(g.stG s 1 d).ob z=if z=x then btO a (g.sv d) f w else g.ob z)/\(g.stG s 1 d).L.length=g.L.length/\(g.stG s 1 d).S=g.S:=by
 have k:=TG a b f w;rw[(g.stG_ob hs hd hx h.nz h.ob (j:=0) (i:=0) rfl k.1).2,(g.stG_ob hs hd hx h.nz h.ob (j:=1) (i:=1) rfl k.2.1).2];refine⟨⟨λz=>?_,ζb ..,rfl⟩,λz=>?_,ζb ..,rfl⟩
 ·rw[Gph.put_ob h.h1 h.h2,h.ob];rfl
 ·rw[Gph.put_ob h.h1 h.h2,h.ob];rfl
theorem J6(hs:s<g.S.length)(hx:g.sv s=x)(h:Bd g x a b f w):g.fdE s 2 2=0/\g.fdV s 2 2=f/\g.fdE s 3 3=0/\g.fdV s 3 3=w:=by
 have k:=TG a b f w;have h2:=g.fd_ob hs hx h.nz h.ob (j:=2) (i:=2) rfl k.2.2.1 (by decide);have h3:=g.fd_ob hs hx h.nz h.ob (j:=3) (i:=3) rfl k.2.2.2 (by decide);exact⟨h2.1,h2.2,h3.1,h3.2⟩
theorem NY(hs:s<g.S.length)(hx:g.sv s=x)(h:Bd g x a b f w)(v:Nat):((∀z,(g.wrG s 2 2 v).ob z=if z=x then btO a b v w else g.ob z)/\(g.wrG s 2 2 v).L.length=g.L.length/\(g.wrG s 2 2 v).S=g.S)/\(∀z,(g.wrG s 3 3 v).ob z=if z=x then btO a b f v else g.ob z)/\(g.wrG s 3 3 v).L.length=g.L.length/\(g.wrG s 3 3 v).S=g.S:=by
 have k:=TG a b f w;rw[g.wrG_ob hs hx h.nz h.ob (j:=2) (i:=2) rfl k.2.2.1 (by decide) v,g.wrG_ob hs hx h.nz h.ob (j:=3) (i:=3) rfl k.2.2.2 (by decide) v];refine⟨⟨λz=>?_,ζb ..,rfl⟩,λz=>?_,ζb ..,rfl⟩
 ·rw[Gph.put_ob h.h1 h.h2,h.ob];rfl
 ·rw[Gph.put_ob h.h1 h.h2,h.ob];rfl
theorem C0(h:g'.L=g.L)(z:Nat):g'.ob z=g.ob z:=by unfold Gph.ob;rw[h]
theorem Bd.of(h:Bd g x a b f w)(hl:g.L.length<=g'.L.length)(e:g'.ob x=g.ob x):Bd g' x a b f w:=⟨h.h1,β h.h2 hl,e.trans h.ob⟩
end
structure GFr(g g':Gph)(I J:List Nat):Prop where
 l:g'.L.length=g.L.length
 s:g'.S.length=g.S.length
 ob:∀z,¬z∈I->g'.ob z=g.ob z
 sv:∀j,¬j∈J->g'.sv j=g.sv j
theorem GFr.has{I:List Nat}(a:GFr g g' I J)(h:Has g j T)(hj:¬j∈J)(hI:∀z∈T.ids,¬z∈I):Has g' j T:=h.of (ψj a.l.symm) a.s (a.sv j hj) (λz hz=>a.ob z (hI z hz))
section
variable{t:Nat}
end
namespace BT
def Bs:BT->Prop
 | nil=>True
 | node _ _ w a b=>(∀p∈a.its,p.2<w)/\(∀p∈b.its,w<p.2)/\a.Bs/\b.Bs
def sub(k:Nat):BT->BT
 | nil=>nil
 | node x f w a b=>if w=k then node x f w a b else if k<w then a.sub k else b.sub k
def par(k:Nat):BT->Nat->Nat
 | nil,p=>p
 | node x _ w a b,p=>if w=k then p else if k<w then a.par k x else b.par k x
def oth(k:Nat):BT->List (Nat×Nat)
 | nil=>[]
 | node _ f w a b=>if w=k then []else if k<w then (f,w) :: (a.oth k++b.its)else (f,w) :: (a.its++b.oth k)
def oid(k:Nat):BT->List Nat
 | nil=>[]
 | node x _ w a b=>if w=k then []else if k<w then x :: (a.oid k++b.ids)else x :: (a.ids++b.oid k)
def rep(k:Nat):BT->BT->BT
 | nil,N=>N
 | node x f w a b,N=>if w=k then N else if k<w then node x f w (a.rep k N) b else node x f w a (b.rep k N)
def okk(k v:Nat):BT->Prop
 | nil=>True
 | node _ _ w a b=>if w=k then True else if k<w then v<w/\a.okk k v else w<v/\b.okk k v
theorem SH[BEq α][LawfulBEq α]{x:α}{A S O B:List α}(h:A.Perm (S++O)):(x :: (A++B)).Perm (S++(x :: (O++B))):=
 ξ0.2 λz=>by
  have:=h.count_eq z;simp only[ξ7,ψh]at this⊢;omega
theorem SC[BEq α][LawfulBEq α]{x:α}{A S O B:List α}(h:A.Perm (S++O)):(x :: (B++A)).Perm (S++(x :: (B++O))):=
 ξ0.2 λz=>by
  have:=h.count_eq z;simp only[ξ7,ψh]at this⊢;omega
theorem its_sub(k:Nat):∀T:BT,T.its.Perm ((T.sub k).its++T.oth k)/\T.ids.Perm ((T.sub k).ids++T.oid k)
 | nil=>⟨List.Perm.refl _,List.Perm.refl _⟩
 | node x f w a b=>by
  obtain⟨a1,a2⟩:=its_sub k a;obtain⟨b1,b2⟩:=its_sub k b;unfold sub oth oid;by_cases h1:w=k
  ·simp[h1]
  ·rw[ξ h1,ξ h1,ξ h1];by_cases h2:k<w
   ·rw[φ h2,φ h2,φ h2];exact⟨SH a1,SH a2⟩
   ·rw[ξ h2,ξ h2,ξ h2];exact⟨SC b1,SC b2⟩
theorem its_rep(k:Nat)(N:BT):∀T:BT,(T.rep k N).its.Perm (N.its++T.oth k)/\(T.rep k N).ids.Perm (N.ids++T.oid k)
 | nil=>by simp[rep,oth,oid]
 | node x f w a b=>by
  obtain⟨a1,a2⟩:=its_rep k N a;obtain⟨b1,b2⟩:=its_rep k N b;unfold rep oth oid;by_cases h1:w=k
  ·simp[h1]
  ·rw[ξ h1,ξ h1,ξ h1];by_cases h2:k<w
   ·rw[φ h2,φ h2,φ h2];exact⟨SH a1,SH a2⟩
   ·rw[ξ h2,ξ h2,ξ h2];exact⟨SC b1,SC b2⟩
theorem bs_sub(k:Nat):∀{T:BT},T.Bs->(T.sub k).Bs
 | nil,_=>trivial
 | node x f w a b,⟨h1,h2,h3,h4⟩=>by
  unfold sub
  split
  ·exact⟨h1,h2,h3,h4⟩
  ·split
   ·exact bs_sub k h3
   ·exact bs_sub k h4
theorem okk_self(k:Nat):∀{T:BT},T.okk k k
 | nil=>trivial
 | node x f w a b=>by
  unfold okk
  split
  ·trivial
  ·split
   ·exact⟨by assumption,okk_self k⟩
   ·exact⟨by omega,okk_self k⟩
theorem UX(k:Nat)(T:BT):∀p∈(T.sub k).its,p∈T.its:=λ_ hp=>(its_sub k T).1.mem_iff.2 (ζk _ hp)
theorem okk_sub(k:Nat):∀{T:BT},T.Bs->∀p∈(T.sub k).its,T.okk k p.2
 | nil,_,_,_=>trivial
 | node x f w a b,⟨h1,h2,h3,h4⟩,p,hp=>by
  unfold sub at hp;unfold okk
  split
  ·trivial
  ·rename_i e;rw[ξ e]at hp
   split
   ·rename_i e2;rw[φ e2]at hp;exact⟨h1 p (UX k a p hp),okk_sub k h3 p hp⟩
   ·rename_i e2;rw[ξ e2]at hp;exact⟨h2 p (UX k b p hp),okk_sub k h4 p hp⟩
theorem QlH(k:Nat)(T:BT):∀p∈T.oth k,p∈T.its:=λ_ hp=>(its_sub k T).1.mem_iff.2 (ζt _ hp)
theorem bs_rep(k:Nat)(N:BT)(hN:N.Bs):∀{T:BT},T.Bs->(∀p∈N.its,T.okk k p.2)->(T.rep k N).Bs
 | nil,_,_=>hN
 | node x f w a b,⟨h1,h2,h3,h4⟩,h=>by
  unfold rep;unfold okk at h
  split
  ·exact hN
  ·rename_i e;simp only[ξ e]at h
   split
   ·rename_i e2;simp only[φ e2]at h;refine⟨λp hp=>?_,h2,bs_rep k N hN h3 (λp hp=>(h p hp).2),h4⟩;rcases ζe.1 ((its_rep k N a).1.mem_iff.1 hp)with hp|hp
    ·exact(h p hp).1
    ·exact h1 p (QlH k a p hp)
   ·rename_i e2;simp only[ξ e2]at h;refine⟨h1,λp hp=>?_,h3,bs_rep k N hN h4 (λp hp=>(h p hp).2)⟩;rcases ζe.1 ((its_rep k N b).1.mem_iff.1 hp)with hp|hp
    ·exact(h p hp).1
    ·exact h2 p (QlH k b p hp)
theorem TX(k:Nat):∀{T:BT},T.Bs->∀p∈T.oth k,p.2≠k
 | nil,_,_,hp=>by cases hp
 | node x f w a b,⟨h1,h2,h3,h4⟩,p,hp=>by
  unfold oth at hp
  split at hp
  ·cases hp
  ·rename_i e
   split at hp
   ·rename_i e2;rcases ζi.1 hp with rfl|hp
    ·exact e
    ·rcases ζe.1 hp with hp|hp
     ·exact TX k h3 p hp
     ·have:=h2 p hp;omega
   ·rename_i e2;rcases ζi.1 hp with rfl|hp
    ·exact e
    ·rcases ζe.1 hp with hp|hp
     ·have:=h1 p hp;omega
     ·exact TX k h4 p hp
theorem sub_key(k:Nat):∀{T:BT} {x f w:Nat} {a b:BT},T.sub k=node x f w a b->w=k
 | nil,_,_,_,_,_,h=>by cases h
 | node x f w a b,_,_,_,_,_,h=>by
  unfold sub at h
  split at h
  ·rename_i e;injection h with _ _ h;exact h▸e
  ·split at h
   ·exact sub_key k h
   ·exact sub_key k h
theorem par_mem(k:Nat):∀(T:BT) (p:Nat),T.par k p=p\/T.par k p∈T.ids
 | nil,_=>.inl rfl
 | node x f w a b,p=>by
  unfold par
  split
  ·exact .inl rfl
  ·split
   ·rcases par_mem k a x with h|h
    ·exact .inr (by rw[h];simp[ids])
    ·exact .inr (by simp[ids,h])
   ·rcases par_mem k b x with h|h
    ·exact .inr (by rw[h];simp[ids])
    ·exact .inr (by simp[ids,h])
end BT
theorem Rep.hang{k:Nat}{N:BT}(hl:g.L.length<=g'.L.length)(hN:Rep g' N):∀{T:BT} {p:Nat},Rep g T->T.ids.Nodup->(∀x f w a b,T=.node x f w a b->w≠k)->T≠.nil →
  (∀z∈T.ids,z≠T.par k p->g'.ob z=g.ob z)->(∀xa xb xf xw,Bd g (T.par k p) xa xb xf xw->Bd g' (T.par k p) (if k<xw then N.top else xa) (if k<xw then xb else N.top) xf xw)->Rep g' (T.rep k N)/\(T.rep k N).top=T.top
 | .nil,_,_,_,_,h,_,_=>absurd rfl h
 | .node x f w a b,p,⟨h1,h2,h3⟩,nd,hk,_,hz,hp=>by
  have hw:w≠k:=hk _ _ _ _ _ rfl;simp only[BT.ids,ζB,ζe,not_or]at nd;obtain⟨⟨n1,n2⟩,n3⟩:=nd;have n4:=ζE.1 n3;unfold BT.rep;unfold BT.par at hz hp;rw[ξ hw]at hz hp⊢;by_cases X:k<w
  ·rw[φ X]at hz hp⊢;by_cases ha:a=.nil\/∃y f' a' b',a=.node y f' k a' b'
   ·have e1:a.par k x=x:=by
     rcases ha with rfl|⟨y,f',a',b',rfl⟩
     ·rfl
     ·unfold BT.par;rw[φ rfl]
    have e2:a.rep k N=N:=by
     rcases ha with rfl|⟨y,f',a',b',rfl⟩
     ·rfl
     ·unfold BT.rep;rw[φ rfl]
    rw[e1]at hz hp;rw[e2];have:=hp _ _ _ _ h1;rw[φ X,φ X]at this;exact⟨⟨this,hN,h3.of hl (λz hz'=>hz z (by simp[BT.ids,hz']) (λe=>n2 (e▸hz')))⟩,rfl⟩
   ·have Z:a≠.nil:=λe=>ha (.inl e);have Y:∀y f' w' a' b',a=.node y f' w' a' b'->w'≠k:=λy f' w' a' b' e e'=>ha (.inr ⟨y,f',a',b',e'▸e⟩)
    have hm:a.par k x∈a.ids:=by
     cases a with
     | nil=>exact absurd rfl Z
     | node y f' w' a' b'=>
      have h':=Y _ _ _ _ _ rfl;unfold BT.par;rw[ξ h']
      split
      ·rcases BT.par_mem k a' y with h|h
       ·rw[h];simp[BT.ids]
       ·simp[BT.ids,h]
      ·rcases BT.par_mem k b' y with h|h
       ·rw[h];simp[BT.ids]
       ·simp[BT.ids,h]
    obtain⟨r1,r2⟩:=Rep.hang hl hN (p:=x) h2 n4.1 Y Z (λz hz' h=>hz z (by simp[BT.ids,hz']) h) hp;refine⟨⟨?_,r1,h3.of hl (λz hz'=>hz z (by simp[BT.ids,hz']) (λe=>n4.2.2 _ hm z hz' e.symm))⟩,rfl⟩;rw[r2];exact h1.of hl (hz x (by simp[BT.ids]) (λe=>n1 (e▸hm)))
  ·rw[ξ X]at hz hp⊢;by_cases ha:b=.nil\/∃y f' a' b',b=.node y f' k a' b'
   ·have e1:b.par k x=x:=by
     rcases ha with rfl|⟨y,f',a',b',rfl⟩
     ·rfl
     ·unfold BT.par;rw[φ rfl]
    have e2:b.rep k N=N:=by
     rcases ha with rfl|⟨y,f',a',b',rfl⟩
     ·rfl
     ·unfold BT.rep;rw[φ rfl]
    rw[e1]at hz hp;rw[e2];have:=hp _ _ _ _ h1;rw[ξ X,ξ X]at this;exact⟨⟨this,h2.of hl (λz hz'=>hz z (by simp[BT.ids,hz']) (λe=>n1 (e▸hz'))),hN⟩,rfl⟩
   ·have Z:b≠.nil:=λe=>ha (.inl e);have Y:∀y f' w' a' b',b=.node y f' w' a' b'->w'≠k:=λy f' w' a' b' e e'=>ha (.inr ⟨y,f',a',b',e'▸e⟩)
    have hm:b.par k x∈b.ids:=by
     cases b with
     | nil=>exact absurd rfl Z
     | node y f' w' a' b'=>
      have h':=Y _ _ _ _ _ rfl;unfold BT.par;rw[ξ h']
      split
      ·rcases BT.par_mem k a' y with h|h
       ·rw[h];simp[BT.ids]
       ·simp[BT.ids,h]
      ·rcases BT.par_mem k b' y with h|h
       ·rw[h];simp[BT.ids]
       ·simp[BT.ids,h]
    obtain⟨r1,r2⟩:=Rep.hang hl hN (p:=x) h3 n4.2.1 Y Z (λz hz' h=>hz z (by simp[BT.ids,hz']) h) hp;refine⟨⟨?_,h2.of hl (λz hz'=>hz z (by simp[BT.ids,hz']) (λe=>n4.2.2 z hz' _ hm e)),r1⟩,rfl⟩;rw[r2];exact h1.of hl (hz x (by simp[BT.ids]) (λe=>n2 (e▸hm)))
def GC(g:Gph)(s:Nat):Nat:=g.fdV s 3 3
def I7(g:Gph)(s k:Nat):Int:=if k<GC g s then 0 else 1
def JH(r u k n:Nat)(g:Gph):Gph:=if g.shE u=0 then g.stG u (I7 g u k) n else g.cpG r n
namespace BT
def mn:BT->Nat×Nat×Nat
 | nil=>(0,0,0)
 | node x f w nil _=>(x,f,w)
 | node _ _ _ (node y f w a b) _=>(node y f w a b).mn
def mu:BT->Nat->Nat
 | nil,p=>p
 | node _ _ _ nil _,p=>p
 | node x _ _ (node y f w a b) _,_=>(node y f w a b).mu x
def dm:BT->BT
 | nil=>nil
 | node _ _ _ nil b=>b
 | node x f w (node y f' w' a' b') b=>node x f w (node y f' w' a' b').dm b
theorem dm_its:∀{T:BT},T≠nil->T.its.Perm ((T.mn.2.1,T.mn.2.2) :: T.dm.its)/\T.ids.Perm (T.mn.1 :: T.dm.ids)
 | nil,h=>absurd rfl h
 | node x f w nil b,_=>by simp[mn,dm,its,ids]
 | node x f w (node y f' w' a' b') b,_=>by
  obtain⟨h1,h2⟩:=dm_its (T:=node y f' w' a' b') (λe=>by cases e);constructor
  ·exact ξ0.2 λz=>by
    have:=h1.count_eq z;simp only[mn,dm,its,ξ7,ψh]at this⊢;omega
  ·exact ξ0.2 λz=>by
    have:=h2.count_eq z;simp only[mn,dm,ids,ξ7,ψh]at this⊢;omega
theorem dm_sub(h:T≠nil):∀p∈T.dm.its,p∈T.its:=λ_ hp=>(dm_its h).1.mem_iff.2 (τ _ hp)
theorem mn_mem(h:T≠nil):(T.mn.2.1,T.mn.2.2)∈T.its:=(dm_its h).1.mem_iff.2 (ζa ..)
theorem mn_lt:∀{T:BT},T≠nil->T.Bs->T.dm.Bs/\∀p∈T.dm.its,T.mn.2.2<p.2
 | nil,h,_=>absurd rfl h
 | node x f w nil b,_,⟨_,h2,_,h4⟩=>⟨h4,h2⟩
 | node x f w (node y f' w' a' b') b,_,⟨h1,h2,h3,h4⟩=>by
  have hn:node y f' w' a' b'≠nil:=λe=>by cases e
  obtain⟨q1,q2⟩:=mn_lt hn h3;have q3:=h1 _ (mn_mem hn);refine⟨⟨λp hp=>h1 p (dm_sub hn p hp),h2,q1,h4⟩,λp hp=>?_⟩
  show (node y f' w' a' b').mn.2.2<p.2
  rcases ζi.1 hp with rfl|hp
  ·exact q3
  ·rcases ζe.1 hp with hp|hp
   ·exact q2 p hp
   ·exact Nat.lt_trans q3 (h2 p hp)
theorem mu_mem:∀(T:BT) (p:Nat),T.mu p=p\/(T.mu p∈T.ids/\T.mu p≠T.mn.1)\/¬T.ids.Nodup
 | nil,_=>.inl rfl
 | node x f w nil b,_=>.inl rfl
 | node x f w (node y f' w' a' b') b,p=>by
  by_cases hn:(node x f w (node y f' w' a' b') b).ids.Nodup
  ·right;left;have n1:=hn;simp only[ids,ζB]at n1;have hm:(node y f' w' a' b').mn.1∈(node y f' w' a' b').ids:=(dm_its (T:=node y f' w' a' b') (λe=>by cases e)).2.mem_iff.2 (ζa ..);have X:(node y f' w' a' b').mn.1≠x:=λe=>n1.1 (ζk _ (e▸hm))
   show (node y f' w' a' b').mu x∈_/\(node y f' w' a' b').mu x≠(node y f' w' a' b').mn.1
   rcases mu_mem (node y f' w' a' b') x with h|h|h
   ·rw[h];exact⟨by simp[ids],λe=>X e.symm⟩
   ·exact⟨τ _ (ζk _ h.1),h.2⟩
   ·exact absurd (ζE.1 n1.2).1 h
  ·exact .inr (.inr hn)
def nx(k:Nat):BT->BT->BT
 | nil,o=>o
 | node x f w a b,o=>if w<k then b.nx k o else a.nx k (node x f w a b)
end BT
theorem Rep.at{k:Nat}{N:BT}(hl:g.L.length<=g'.L.length)(hN:Rep g' N):∀{T:BT},Rep g T->N.top=(T.sub k).top->(∀z∈T.oid k,g'.ob z=g.ob z)->Rep g' (T.rep k N)/\(T.rep k N).top=T.top
 | .nil,_,e,_=>⟨hN,e⟩
 | .node x f w a b,⟨h1,h2,h3⟩,e,h=>by
  unfold BT.rep;unfold BT.sub at e;unfold BT.oid at h;by_cases hw:w=k
  ·rw[φ hw]at e⊢;exact⟨hN,e⟩
  ·rw[ξ hw]at e h⊢;by_cases hlt:k<w
   ·rw[φ hlt]at e h⊢;obtain⟨r1,r2⟩:=Rep.at hl hN h2 e (λz hz=>h z (τ _ (ζk _ hz)));refine⟨⟨?_,r1,h3.of hl (λz hz=>h z (τ _ (ζt _ hz)))⟩,rfl⟩;rw[r2];exact h1.of hl (h x (ζa ..))
   ·rw[ξ hlt]at e h⊢;obtain⟨r1,r2⟩:=Rep.at hl hN h3 e (λz hz=>h z (τ _ (ζt _ hz)));refine⟨⟨?_,h2.of hl (λz hz=>h z (τ _ (ζk _ hz))),r1⟩,rfl⟩;rw[r2];exact h1.of hl (h x (ζa ..))
theorem Rep.sub{k:Nat}:∀{T:BT},Rep g T->Rep g (T.sub k)
 | .nil,_=>trivial
 | .node x f w a b,⟨h1,h2,h3⟩=>by
  unfold BT.sub
  split
  ·exact⟨h1,h2,h3⟩
  ·split
   ·exact Rep.sub h2
   ·exact Rep.sub h3
theorem Rep.dm(hl:g.L.length<=g'.L.length):∀{T:BT} {p:Nat} {mb:Nat},Rep g T->T≠.nil->T.ids.Nodup->Bd g T.mn.1 0 mb T.mn.2.1 T.mn.2.2->(∀z∈T.ids,z≠T.mu p->z≠T.mn.1->g'.ob z=g.ob z) →
  (T.mu p∈T.ids->∀xa xb xf xw,Bd g (T.mu p) xa xb xf xw->Bd g' (T.mu p) mb xb xf xw)->¬p∈T.ids->Rep g' T.dm/\(T.mu p=p->T.dm.top=mb)/\(T.mu p≠p->T.dm.top=T.top)
 | .nil,_,_,_,h,_,_,_,_,_=>absurd rfl h
 | .node x f w .nil b,p,mb,⟨h1,_,h3⟩,_,nd,hm,hz,hp,hpn=>by
  have e:b.top=mb:=by
   have q1:=h1.ob;have q2:g.ob x=btO 0 mb f w:=hm.ob;rw[q1]at q2;injection q2 with _ _ _ q2;injection q2 with _ q2;injection q2
  simp only[BT.ids,ζU,ζB]at nd;refine⟨h3.of hl (λz hz'=>hz z (by simp[BT.ids,hz']) (λe=>hpn (by rw[show (BT.node x f w .nil b).mu p=p from rfl]at e;rw[<-e];simp[BT.ids,hz'])) (λe=>nd.1 (by rw[show (BT.node x f w .nil b).mn.1=x from rfl]at e;rw[<-e];exact hz'))),λ_=>e,λh=>absurd rfl h⟩
 | .node x f w (.node y f' w' a' b') b,p,mb,⟨h1,h2,h3⟩,_,nd,hm,hz,hp,hpn=>by
  have hn:BT.node y f' w' a' b'≠.nil:=λe=>by cases e
  have nd0:=nd;have n1:=nd;rw[show (BT.node x f w (.node y f' w' a' b') b).ids=x :: ((BT.node y f' w' a' b').ids++b.ids)from rfl]at n1;obtain⟨n2,n3⟩:=ζB.1 n1;have n4:=ζE.1 n3;have J:¬x∈(BT.node y f' w' a' b').ids:=λh=>n2 (ζk _ h);have U:(BT.node x f w (.node y f' w' a' b') b).mn=(BT.node y f' w' a' b').mn:=rfl;have X:(BT.node x f w (.node y f' w' a' b') b).mu p=(BT.node y f' w' a' b').mu x:=rfl;have V:(BT.node x f w (.node y f' w' a' b') b).dm=.node x f w (BT.node y f' w' a' b').dm b:=rfl;rw[U]at hm hz;rw[X]at hz hp;have Z:(BT.node y f' w' a' b').mn.1∈(BT.node y f' w' a' b').ids:=(BT.dm_its hn).2.mem_iff.2 (ζa ..);have sub:∀z∈(BT.node y f' w' a' b').ids,z∈(BT.node x f w (.node y f' w' a' b') b).ids:=λz h=>τ _ (ζk _ h);obtain⟨r1,r2,r3⟩:=Rep.dm hl (p:=x) h2 hn n4.1 hm (λz hz'=>hz z (sub z hz')) (λh=>hp (sub _ h)) J;rw[X,V];have Y:=BT.mu_mem (BT.node y f' w' a' b') x
  have hb:∀z∈b.ids,g'.ob z=g.ob z:=λz hz'=>hz z (τ _ (ζt _ hz')) (λe=>by
   rcases Y with h|h|h
   ·exact n2 (by rw[<-h,<-e];exact ζt _ hz')
   ·exact n4.2.2 _ h.1 z hz' e.symm
   ·exact h n4.1) (λe=>n4.2.2 _ Z z hz' e.symm)
  have hx:Bd g' x (BT.node y f' w' a' b').dm.top b.top f w:=by
   by_cases hmx:(BT.node y f' w' a' b').mu x=x
   ·rw[r2 hmx];have:=hp (by rw[hmx];exact ζa ..);rw[hmx]at this;exact this _ _ _ _ h1
   ·rw[r3 hmx];exact h1.of hl (hz x (ζa ..) (λe=>hmx e.symm) (λe=>J (by rw[e];exact Z)))
  refine⟨⟨hx,r1,h3.of hl hb⟩,λh=>?_,λ_=>rfl⟩;rcases Y with h'|h'|h'
  ·exact absurd (by rw[<-h,h'];exact ζa ..) hpn
  ·exact absurd (by rw[<-h];exact sub _ h'.1) hpn
  ·exact absurd n4.1 h'
namespace BT
theorem par_oid(k:Nat):∀(T:BT) (p:Nat),T.par k p=p\/T.par k p∈T.oid k
 | nil,_=>.inl rfl
 | node x f w a b,p=>by
  unfold par oid
  split
  ·exact .inl rfl
  ·split
   ·rcases par_oid k a x with h|h
    ·exact .inr (by rw[h];simp)
    ·exact .inr (by simp[h])
   ·rcases par_oid k b x with h|h
    ·exact .inr (by rw[h];simp)
    ·exact .inr (by simp[h])
theorem par_root:∀{T:BT},(∀x∈T.ids,x≠0)->T.par k 0=0->T.sub k=T/\T.oth k=[]/\∀N:BT,T.rep k N=N
 | nil,_,_=>⟨rfl,rfl,λ_=>rfl⟩
 | node x f w a b,h,e=>by
  unfold par at e;unfold sub oth;by_cases hw:w=k
  ·rw[φ hw,φ hw];exact⟨rfl,rfl,λN=>by unfold rep;rw[φ hw]⟩
  ·rw[ξ hw]at e;have hx:x≠0:=h x (by simp[ids])
   have ha:a.par k x≠0:=by
    rcases par_mem k a x with q|q
    ·rw[q];exact hx
    ·exact h _ (by simp[ids,q])
   have hb:b.par k x≠0:=by
    rcases par_mem k b x with q|q
    ·rw[q];exact hx
    ·exact h _ (by simp[ids,q])
   split at e
   ·exact absurd e ha
   ·exact absurd e hb
theorem oid_ids(k:Nat)(T:BT):∀x∈T.oid k,x∈T.ids:=λ_ hx=>(its_sub k T).2.mem_iff.2 (ζt _ hx)
theorem sub_ids(k:Nat)(T:BT):∀x∈(T.sub k).ids,x∈T.ids:=λ_ hx=>(its_sub k T).2.mem_iff.2 (ζk _ hx)
end BT
structure T5(g:Gph)(r a u n o:Nat):Prop where
 nd:[r,a,u,n,o].Nodup
 lt:∀j∈[r,a,u,n,o],j<g.S.length
 al:∀j,¬j∈[r,a,u,n,o]->g.sv j=0
structure TwG(g:Gph)(r a u n o:Nat)(R:BT):Prop where
 q:T5 g r a u n o
 hs:Has g r R
 nd:R.ids.Nodup
 bs:R.Bs
section
variable{N:BT}
theorem Rep.bd:∀{T:BT},Rep g T->∀x∈T.ids,∃c d f w,Bd g x c d f w
 | .nil,_,_,hx=>by cases hx
 | .node y f w c d,⟨h1,h2,h3⟩,x,hx=>by
  rcases ζi.1 hx with rfl|hx
  ·exact⟨_,_,_,_,h1⟩
  ·rcases ζe.1 hx with hx|hx
   ·exact h2.bd x hx
   ·exact h3.bd x hx
theorem T5.next{I:List Nat}(h:T5 g r a u n o)(f:GFr g g' I J)(hJ:∀j∈J,j∈[r,a,u,n,o]):T5 g' r a u n o:=
 ⟨h.nd,λj hj=>by rw[f.s];exact h.lt j hj,λj hj=>(f.sv j (λe=>hj (hJ j e))).trans (h.al j hj)⟩
theorem XIv(h:TwG g r a u n o R)(hu:g.sv u=R.par k 0)(hm:m<g.S.length)(hN:Rep g N)(em:g.sv m=N.top)(hd:∀z∈N.ids,¬z∈R.oid k):
  Has (JH r u k m g) r (R.rep k N)/\GFr g (JH r u k m g) (R.oid k) [r]:=by
 have Y:=h.q.lt u (by simp);have hn:=h.q.nd;simp at hn;unfold JH;rw[GN Y,hu];have U:∀x∈R.ids,x≠0:=λx hx=>by have:=(h.hs.rep.mem x hx).1;omega
 by_cases h0:R.par k 0=0
 ·rw[h0,φ rfl,ξ (by decide)];obtain⟨e1,e2,e3⟩:=BT.par_root U h0;rw[e3 N];obtain⟨l1,s1,v1⟩:=IF h.hs.lt hm;generalize g.cpG r m=g1 at l1 s1 v1;exact⟨⟨by rw[s1];exact h.hs.lt,by rw[v1,φ rfl];exact em,hN.of (by rw[l1];exact ϑ _) (λz _=>C0 l1 z)⟩,by rw[l1],s1,λz _=>C0 l1 z,λj hj=>by rw[v1,ξ (by simpa using hj)]⟩
 ·rw[ξ h0,φ rfl];have hp:R.par k 0∈R.oid k:=(BT.par_oid k R 0).resolve_left h0;obtain⟨c,d,f,w,b0⟩:=h.hs.rep.bd _ (BT.oid_ids k R _ hp);have J:GC g u=w:=(J6 Y hu b0).2.2.2;obtain⟨⟨o1,l1,s1⟩,o2,l2,s2⟩:=XA (d:=m) (s:=u) hm Y hu b0;rw[em]at o1 o2;have hR:R≠.nil:=λe=>by rw[e]at hp;cases hp
  have V:∀x f w a b,R=.node x f w a b->w≠k:=λx f w a b e e'=>h0 (by rw[e];unfold BT.par;rw[φ e'])
  have Z:∀g1:Gph,(∀z,g1.ob z=if z=R.par k 0 then btO (if k<w then N.top else c) (if k<w then d else N.top) f w else g.ob z)->g1.L.length=g.L.length->g1.S=g.S->Has g1 r (R.rep k N)/\GFr g g1 (R.oid k) [r]:=λg1 o1 l1 s1=>by
   have hl:g.L.length<=g1.L.length:=by rw[l1];exact ϑ _
   obtain⟨q1,q2⟩:=Rep.hang (g':=g1) (N:=N) (k:=k) hl (hN.of hl (λz hz=>by rw[o1,ξ (λe=>hd z hz (by rw[e];exact hp))])) (p:=0) h.hs.rep h.nd V hR (λz _ hz=>by rw[o1,ξ hz]) (λxa xb xf xw b1=>by
    have e:=b0.ob.symm.trans b1.ob;injection e with _ _ _ e;injection e with e1 e;injection e with e2 e;injection e with e3 e;injection e with e4;subst e1 e2 e3 e4
    exact⟨b1.h1,by rw[l1];exact b1.h2,by rw[o1,φ rfl]⟩)
   exact⟨⟨by rw[s1];exact h.hs.lt,by rw[q2,<-h.hs.sv];unfold Gph.sv;rw[s1],q1⟩,l1,by rw[s1],λz hz=>by rw[o1,ξ (λe=>hz (by rw[e];exact hp))],λj _=>by unfold Gph.sv;rw[s1]⟩
  unfold I7;rw[J];by_cases X:k<w
  ·rw[φ X];exact Z _ (λz=>by rw[o1,φ X,φ X]) l1 s1
  ·rw[ξ X];exact Z _ (λz=>by rw[o2,ξ X,ξ X]) l2 s2
def GE(a u n o:Nat)(g:Gph):Gph:=(((g.clG a).clG u).clG n).clG o
theorem VhX(h:T5 g r a u n o):(GE a u n o g).L=g.L/\GFr g (GE a u n o g) [] [a,u,n,o]/\∀j∈[a,u,n,o],(GE a u n o g).sv j=0:=by
 have la:=h.lt a (by simp);have lu:=h.lt u (by simp);have ln:=h.lt n (by simp);have lo:=h.lt o (by simp);unfold GE;obtain⟨l1,s1,v1⟩:=KN la;generalize g.clG a=g1 at l1 s1 v1;obtain⟨l2,s2,v2⟩:=KN (g:=g1) (d:=u) (by rw[s1];exact lu);generalize g1.clG u=g2 at l2 s2 v2;obtain⟨l3,s3,v3⟩:=KN (g:=g2) (d:=n) (by rw[s2,s1];exact ln);generalize g2.clG n=g3 at l3 s3 v3;obtain⟨l4,s4,v4⟩:=KN (g:=g3) (d:=o) (by rw[s3,s2,s1];exact lo);generalize g3.clG o=g4 at l4 s4 v4;have e:∀j,g4.sv j=if j∈[a,u,n,o]then 0 else g.sv j:=λj=>by rw[v4,v3,v2,v1];simp;grind
 have hL:g4.L=g.L:=by rw[l4,l3,l2,l1]
 exact⟨hL,⟨by rw[hL],by rw[s4,s3,s2,s1],λz _=>C0 hL z,λj hj=>by rw[e,ξ hj]⟩,λj hj=>by rw[e,φ hj]⟩
structure TsG(g:Gph)(r a u n o:Nat)(R:BT):Prop where
 t:TwG g r a u n o R
 z:∀j,j≠r->g.sv j=0
theorem TwG.done(h:TwG g r a u n o R):TsG (GE a u n o g) r a u n o R:=by
 obtain⟨-,f,z⟩:=VhX h.q;have hn:=h.q.nd;simp at hn;refine⟨⟨h.q.next f (λj hj=>τ _ hj),f.has h.hs (by simp;exact hn.1) (λ_ _ h=>by cases h),h.nd,h.bs⟩,λj hj=>?_⟩;by_cases hm:j∈[a,u,n,o]
 ·exact z j hm
 ·rw[f.sv j hm];exact h.q.al j (λe=>(ζi.1 e).elim hj hm)
theorem TwG.slot(h:TwG g r a u n o R)(hL:g'.L=g.L)(hS:g'.S.length=g.S.length)(hj:j∈[a,u,n,o])(hv:∀i,i≠j->g'.sv i=g.sv i):TwG g' r a u n o R:=by
 have hn:=h.q.nd;simp at hn;have f:GFr g g' [] [j]:=⟨by rw[hL],hS,λz _=>C0 hL z,λi hi=>hv i (by simpa using hi)⟩;exact⟨h.q.next f (λi hi=>by rw[ζO.1 hi];exact τ _ hj),f.has h.hs (by simp;intro e;subst e;simp at hj;grind) (λ_ _ h=>by cases h),h.nd,h.bs⟩
theorem TwG.rep{I:List Nat}(h:TwG g r a u n o R)(f:GFr g g' I J)(hJ:∀j∈J,j∈[r,a,u,n,o])(hs:Has g' r (R.rep k N))(nN:N.ids.Nodup)(hd:∀z∈N.ids,¬z∈R.oid k)(bN:N.Bs)(hk:∀p∈N.its,R.okk k p.2):TwG g' r a u n o (R.rep k N):=
 ⟨h.q.next f hJ,hs,(BT.its_rep k N R).2.nodup_iff.2 (ζE.2 ⟨nN,(ζE.1 ((BT.its_sub k R).2.nodup_iff.1 h.nd)).2.1,λx hx _ hy e=>hd x hx (e▸hy)⟩),BT.bs_rep k N bN h.bs hk⟩
end
theorem BT.sub_node(k x f w:Nat)(a b:BT):(BT.node x f w a b).sub k=if w=k then .node x f w a b else if k<w then a.sub k else b.sub k:=rfl
theorem BT.par_node(k x f w:Nat)(a b:BT)(p:Nat):(BT.node x f w a b).par k p=if w=k then p else if k<w then a.par k x else b.par k x:=rfl
section
variable{N:BT}
structure TfG(g:Gph)(r a u n o k:Nat)(R T:BT)(p:Nat):Prop where
 w:TwG g r a u n o R
 ha:g.sv a=T.top
 hu:g.sv u=p
 rp:Rep g T
 es:T.sub k=R.sub k
 ep:T.par k p=R.par k 0
theorem TfG.start(h:TsG g r a u n o R)(k:Nat):TfG ((g.clG u).cpG a r) r a u n o k R R 0:=by
 have hn:=h.t.q.nd;simp at hn;obtain⟨⟨ra,ru,rn,ro⟩,⟨au,an,ao⟩,⟨un,uo⟩,no⟩:=hn;have la:=h.t.q.lt a (by simp);have lu:=h.t.q.lt u (by simp);obtain⟨l1,s1,v1⟩:=KN lu;generalize g.clG u=g1 at l1 s1 v1;have w1:=h.t.slot l1 s1 (j:=u) (by simp) (λi hi=>by rw[v1,ξ hi]);obtain⟨l2,s2,v2⟩:=IF (g:=g1) (d:=a) (s:=r) (by rw[s1];exact la) (by rw[s1];exact h.t.hs.lt);generalize g1.cpG a r=g2 at l2 s2 v2;exact⟨w1.slot l2 s2 (j:=a) (by simp) (λi hi=>by rw[v2,ξ hi]),by rw[v2,φ rfl];exact w1.hs.sv,by rw[v2,ξ (λe=>au e.symm),v1,φ rfl],h.t.hs.rep.of (by rw[l2,l1];exact ϑ _) (λz _=>C0 (l2.trans l1) z),rfl,rfl⟩
theorem TfG.step(h:TfG g r a u n o k R (.node x f v c d) p)(hk:v≠k):GC (g.cpG u a) a=v/\∃T,T.ids.length<(BT.node x f v c d).ids.length/\TfG ((g.cpG u a).loG a a (I7 (g.cpG u a) a k)) r a u n o k R T x:=by
 have hn:=h.w.q.nd;simp at hn;obtain⟨⟨ra,ru,rn,ro⟩,⟨au,an,ao⟩,⟨un,uo⟩,no⟩:=hn;have la:=h.w.q.lt a (by simp);have lu:=h.w.q.lt u (by simp);obtain⟨b0,rc,rd⟩:=h.rp;have es:=h.es;have ep:=h.ep;rw[BT.sub_node,ξ hk]at es;rw[BT.par_node,ξ hk]at ep;obtain⟨l1,s1,v1⟩:=IF lu la;generalize g.cpG u a=g1 at l1 s1 v1;have w1:=h.w.slot l1 s1 (j:=u) (by simp) (λi hi=>by rw[v1,ξ hi]);have ea:g1.sv a=x:=by rw[v1,ξ au];exact h.ha
 have b1:=b0.of (g':=g1) (by rw[l1];exact ϑ _) (C0 l1 x);have X:GC g1 a=v:=(J6 (by rw[s1];exact la) ea b1).2.2.2;refine⟨X,?_⟩;obtain⟨⟨l2,s2,v2⟩,l3,s3,v3⟩:=FW (d:=a) (s:=a) (by rw[s1];exact la) (by rw[s1];exact la) ea b1;unfold I7;rw[X];by_cases Y:k<v
 ·rw[φ Y]at es ep⊢;generalize g1.loG a a 0=g2 at l2 s2 v2;exact⟨c,by simp[BT.ids];omega,w1.slot l2 s2 (j:=a) (by simp) (λi hi=>by rw[v2,ξ hi]),by rw[v2,φ rfl],by rw[v2,ξ (λe=>au e.symm),v1,φ rfl];exact h.ha,rc.of (by rw[l2,l1];exact ϑ _) (λz _=>C0 (l2.trans l1) z),es,ep⟩
 ·rw[ξ Y]at es ep⊢;generalize g1.loG a a 1=g2 at l3 s3 v3;exact⟨d,by simp[BT.ids];omega,w1.slot l3 s3 (j:=a) (by simp) (λi hi=>by rw[v3,ξ hi]),by rw[v3,φ rfl],by rw[v3,ξ (λe=>au e.symm),v1,φ rfl];exact h.ha,rd.of (by rw[l3,l1];exact ϑ _) (λz _=>C0 (l3.trans l1) z),es,ep⟩
theorem TfG.found(h:TfG g r a u n o k R T p)(he:T=.nil\/∃x f c d,T=.node x f k c d):T=R.sub k/\p=R.par k 0:=by
 have es:=h.es;have ep:=h.ep;rcases he with rfl|⟨x,f,c,d,rfl⟩
 ·exact⟨es,ep⟩
 ·rw[BT.sub_node,φ rfl]at es;rw[BT.par_node,φ rfl]at ep;exact⟨es,ep⟩
theorem TwG.over(h:TwG g r a u n o R)(ha:g.sv a=x)(e:R.sub k=.node x f k c d)(v:Nat):TwG (g.wrG a 2 2 v) r a u n o (R.rep k (.node x v k c d)):=by
 have la:=h.q.lt a (by simp);have rs:=h.hs.rep.sub (k:=k);rw[e]at rs;obtain⟨b0,rc,rd⟩:=rs;obtain⟨⟨o1,l1,s1⟩,-⟩:=NY la ha b0 v;generalize g.wrG a 2 2 v=g1 at o1 l1 s1;have hl:g.L.length<=g1.L.length:=by rw[l1];exact ϑ _
 have nd:=(ζE.1 ((BT.its_sub k R).2.nodup_iff.1 h.nd));have nN:=nd.1;rw[e]at nN;have n1:=ζB.1 nN;have hx:∀z∈R.oid k,z≠x:=λz hz e'=>nd.2.2 x (by rw[e];exact ζa ..) z hz e'.symm;have hc:∀z,z≠x->g1.ob z=g.ob z:=λz hz=>by rw[o1,ξ hz]
 have hN:Rep g1 (.node x v k c d):=⟨⟨b0.h1,by rw[l1];exact b0.h2,by rw[o1,φ rfl]⟩,rc.of hl (λz hz=>hc z (λe'=>n1.1 (ζk _ (e'▸hz)))),rd.of hl (λz hz=>hc z (λe'=>n1.1 (ζt _ (e'▸hz))))⟩;obtain⟨q1,q2⟩:=Rep.at (k:=k) hl hN h.hs.rep (by rw[e];rfl) (λz hz=>hc z (hx z hz));have bs:=BT.bs_sub k h.bs;rw[e]at bs;have X:∀j,g1.sv j=g.sv j:=λj=>by unfold Gph.sv;rw[s1]
 refine h.rep (I:=[x]) (J:=[]) ⟨l1,by rw[s1],λz hz=>hc z (by simpa using hz),λj _=>X j⟩ (λ_ h=>by cases h) ⟨by rw[s1];exact h.hs.lt,by rw[q2,X];exact h.hs.sv,q1⟩ nN (λz hz hz'=>?_) bs (λp hp=>?_)
 ·exact nd.2.2 z (by rw[e];exact hz) z hz' rfl
 ·rcases ζi.1 hp with rfl|hp
  ·exact BT.okk_self k
  ·exact BT.okk_sub k h.bs p (by rw[e];exact τ _ hp)
theorem TwG.pull{N:BT}(h:TwG g r a u n o R)(hu:g.sv u=R.par k 0)(e:R.sub k=.node x f k c d)(hN:(d=.nil/\N=c)\/(c=.nil/\N=d))(hm:m<g.S.length)(em:g.sv m=N.top):TwG (JH r u k m g) r a u n o (R.rep k N)/\(R.rep k N).its.Perm ((c.its++d.its)++R.oth k):=by
 have rs:=h.hs.rep.sub (k:=k);have nd:=(ζE.1 ((BT.its_sub k R).2.nodup_iff.1 h.nd));have nN:=nd.1;have bs:=BT.bs_sub k h.bs;rw[e]at rs nN bs;obtain⟨b0,rc,rd⟩:=rs;have n1:=ζE.1 (ζB.1 nN).2
 have X:∀z∈N.ids,z∈(R.sub k).ids:=λz hz=>by
  rw[e];rcases hN with⟨-,rfl⟩|⟨-,rfl⟩
  ·exact τ _ (ζk _ hz)
  ·exact τ _ (ζt _ hz)
 have rN:Rep g N:=by rcases hN with⟨-,rfl⟩|⟨-,rfl⟩ <;> assumption
 have bN:N.Bs:=by
  rcases hN with⟨-,rfl⟩|⟨-,rfl⟩
  ·exact bs.2.2.1
  ·exact bs.2.2.2
 have hd:∀z∈N.ids,¬z∈R.oid k:=λz hz hz'=>nd.2.2 z (X z hz) z hz' rfl;obtain⟨q1,q2⟩:=XIv h hu hm rN em hd;refine⟨h.rep q2 (by simp) q1 (by rcases hN with⟨-,rfl⟩|⟨-,rfl⟩;exact n1.1;exact n1.2.1) hd bN (λp hp=>BT.okk_sub k h.bs p ?_),(BT.its_rep k N R).1.trans ?_⟩
 ·rw[e];rcases hN with⟨-,rfl⟩|⟨-,rfl⟩
  ·exact τ _ (ζk _ hp)
  ·exact τ _ (ζt _ hp)
 ·rcases hN with⟨rfl,rfl⟩|⟨rfl,rfl⟩
  ·simp[BT.its]
  ·simp[BT.its]
theorem TwG.swap{mb:Nat}(h:TwG g r a u n o R)(ha:g.sv a=x)(e:R.sub k=.node x f k c d)(hd0:d≠.nil)(ho:g.sv o=d.mu x)(hnv:g.sv n=mb)(hm:Bd g d.mn.1 0 mb d.mn.2.1 d.mn.2.2):
  TwG (((g.stG o (if g.sv o=g.sv a then 1 else 0) n).wrG a 3 3 d.mn.2.2).wrG a 2 2 d.mn.2.1) r a u n o (R.rep k (.node x d.mn.2.1 d.mn.2.2 c d.dm))/\(R.rep k (.node x d.mn.2.1 d.mn.2.2 c d.dm)).its.Perm ((c.its++d.its)++R.oth k):=by
 have la:=h.q.lt a (by simp);have lo:=h.q.lt o (by simp);have ln:=h.q.lt n (by simp);have rs:=h.hs.rep.sub (k:=k);have nd:=(ζE.1 ((BT.its_sub k R).2.nodup_iff.1 h.nd));have nN:=nd.1;have bs:=BT.bs_sub k h.bs;rw[e]at rs nN bs;obtain⟨b0,rc,rd⟩:=rs;obtain⟨nx,n2⟩:=ζB.1 nN;have n1:=ζE.1 n2;have Xa:∀z∈c.ids,z≠x:=λz hz e'=>nx (ζk _ (e'▸hz));have X:∀z∈d.ids,z≠x:=λz hz e'=>nx (ζt _ (e'▸hz));have Xf:=BT.mu_mem d x;have Y:d.mu x=x\/(d.mu x∈d.ids/\d.mu x≠d.mn.1):=Xf.imp id (λh=>h.resolve_right (λh=>h n1.2.1));have hmm:d.mn.1∈d.ids:=(BT.dm_its hd0).2.mem_iff.2 (ζa ..)
 -- the object above the least one
 obtain⟨g1,G1⟩:∃g1,g1=g.stG o (if g.sv o=g.sv a then 1 else 0) n:=⟨_,rfl⟩;rw[<-G1]
 have Xe:(∀z,z≠d.mu x->g1.ob z=g.ob z)/\g1.L.length=g.L.length/\g1.S=g.S/\((d.mu x=x->g1.ob x=btO c.top mb f k)/\(d.mu x≠x->∀xa xb xf xw,Bd g (d.mu x) xa xb xf xw->Bd g1 (d.mu x) mb xb xf xw)):=by
  rcases Y with hx|⟨hx,hx'⟩
  ·rw[ho,ha,hx,φ rfl]at G1;obtain⟨-,o2,l2,s2⟩:=XA ln lo (by rw[ho,hx]) b0;rw[hnv]at o2;rw[G1];exact⟨λz hz=>by rw[o2,ξ (by rw[<-hx];exact hz)],l2,s2,λ_=>by rw[o2,φ rfl],λh=>absurd hx h⟩
  ·have Xc:d.mu x≠x:=X _ hx;rw[ho,ha,ξ Xc]at G1;obtain⟨c',d',f',w',b1⟩:=rd.bd _ hx;obtain⟨⟨o2,l2,s2⟩,-⟩:=XA ln lo ho b1;rw[hnv]at o2;rw[G1];refine⟨λz hz=>by rw[o2,ξ hz],l2,s2,λh=>absurd h Xc,λ_ xa xb xf xw b2=>?_⟩;have e:=b1.ob.symm.trans b2.ob;injection e with _ _ _ e;injection e with e1 e;injection e with e2 e;injection e with e3 e;injection e with e4;subst e1 e2 e3 e4;exact⟨b2.h1,by rw[l2];exact b2.h2,by rw[o2,φ rfl]⟩
 obtain⟨k1,k2,k3,k4,k5⟩:=Xe;have U:g.L.length<=g1.L.length:=by rw[k2];exact ϑ _
 obtain⟨r1,r2,r3⟩:=Rep.dm (g':=g1) (p:=x) (mb:=mb) U rd hd0 n1.2.1 hm (λz hz h1 h2=>k1 z h1) (λhin=>k5 (X _ hin)) (λh=>X x h rfl)
 have bx:Bd g1 x c.top d.dm.top f k:=by
  by_cases hx:d.mu x=x
  ·rw[r2 hx];exact⟨b0.h1,by rw[k2];exact b0.h2,k4 hx⟩
  ·rw[r3 hx];exact b0.of U (k1 x (λe=>hx e.symm))
 have O:g1.sv a=x:=by unfold Gph.sv;rw[k3];exact ha
 have Xb:a<g1.S.length:=by rw[k3];exact la
 obtain⟨-,o2,l2,s2⟩:=NY Xb O bx d.mn.2.2;generalize g1.wrG a 3 3 d.mn.2.2=g2 at o2 l2 s2;have Xi:Bd g2 x c.top d.dm.top f d.mn.2.2:=⟨bx.h1,by rw[l2];exact bx.h2,by rw[o2,φ rfl]⟩;obtain⟨⟨o3,l3,s3⟩,-⟩:=NY (g:=g2) (s:=a) (by rw[s2];exact Xb) (by unfold Gph.sv;rw[s2];exact O) Xi d.mn.2.1;generalize g2.wrG a 2 2 d.mn.2.1=g3 at o3 l3 s3;have hl:g.L.length<=g3.L.length:=by rw[l3,l2];exact U
 have V:∀z,z≠x->g3.ob z=g1.ob z:=λz hz=>by rw[o3,ξ hz,o2,ξ hz]
 have Z:∀z∈d.dm.ids,z∈d.ids:=λz hz=>(BT.dm_its hd0).2.mem_iff.2 (τ _ hz)
 have hmx:∀z,z∈c.ids\/z∈R.oid k->z≠d.mu x/\z≠x:=λz hz=>by
  have A:z≠x:=by
   rcases hz with hz|hz
   ·exact Xa z hz
   ·exact λe'=>nd.2.2 x (by rw[e];exact ζa ..) z hz e'.symm
  refine⟨λe'=>?_,A⟩;rcases Y with h'|h'
  ·exact A (e'.trans h')
  ·rcases hz with hz|hz
   ·exact n1.2.2 z hz _ h'.1 e'
   ·exact nd.2.2 _ (by rw[e];exact τ _ (ζt _ h'.1)) z hz e'.symm
 have B:∀z,z∈c.ids\/z∈R.oid k->g3.ob z=g.ob z:=λz hz=>by rw[V z (hmx z hz).2,k1 z (hmx z hz).1]
 have hN:Rep g3 (.node x d.mn.2.1 d.mn.2.2 c d.dm):=⟨⟨b0.h1,by rw[l3,l2,k2];exact b0.h2,by rw[o3,φ rfl]⟩,rc.of hl (λz hz=>B z (.inl hz)),r1.of (by rw[l3,l2];exact ϑ _) (λz hz=>V z (X z (Z z hz)))⟩;obtain⟨q1,q2⟩:=Rep.at (k:=k) hl hN h.hs.rep (by rw[e];rfl) (λz hz=>B z (.inr hz));have G:∀j,g3.sv j=g.sv j:=λj=>by unfold Gph.sv;rw[s3,s2,k3]
 have Xh:(d.mn.1 :: d.dm.ids).Nodup:=(BT.dm_its hd0).2.nodup_iff.1 n1.2.1;obtain⟨Xd,Xg⟩:=BT.mn_lt hd0 bs.2.2.2;have E:=BT.mn_mem hd0;refine⟨h.rep (I:=x :: d.ids) (J:=[]) ⟨by rw[l3,l2,k2],by rw[s3,s2,k3],λz hz=>?_,λj _=>G j⟩ (λ_ h=>by cases h) ⟨by rw[s3,s2,k3];exact h.hs.lt,by rw[q2,G];exact h.hs.sv,q1⟩ ?_ (λz hz hz'=>?_) ⟨λp hp=>Nat.lt_trans (bs.1 p hp) (bs.2.1 _ E),Xg,bs.2.2.1,Xd⟩ (λp hp=>?_),(BT.its_rep k _ R).1.trans ?_⟩
 ·have h1:z≠x:=λe=>hz (by simp[e]);rw[V z h1,k1 z (λe'=>Y.elim (λh'=>h1 (e'.trans h')) (λh'=>hz (by rw[e'];exact τ _ h'.1)))]
 ·refine ζB.2 ⟨λhm'=>(ζe.1 hm').elim (λh'=>Xa x h' rfl) (λh'=>X x (Z x h') rfl),ζE.2 ⟨n1.1,(ζB.1 Xh).2,λy hy z hz e'=>n1.2.2 y hy z (Z z hz) e'⟩⟩
 ·refine nd.2.2 z ?_ z hz' rfl;rw[e];rcases ζi.1 hz with rfl|hz
  ·exact ζa ..
  ·exact τ _ ((ζe.1 hz).elim (λh=>ζk _ h) (λh=>ζt _ (Z z h)))
 ·refine BT.okk_sub k h.bs p ?_;rw[e];refine τ _ ?_;rcases ζi.1 hp with rfl|hp
  ·exact ζt _ E
  ·exact(ζe.1 hp).elim (λh=>ζk _ h) (λh=>ζt _ (BT.dm_sub hd0 p h))
 ·refine List.Perm.append_right _ ?_;refine ξ0.2 λz=>?_;have:=(BT.dm_its hd0).1.count_eq z;simp only[BT.its,ξ7,ψh]at this⊢;omega
end
section
variable{t d:Nat}
theorem Rep.sizes:∀{T:BT},Rep g T->(T.ids.map λx=>(g.ob x).size).sum=5*T.ids.length
 | .nil,_=>rfl
 | .node x f w a b,⟨h1,h2,h3⟩=>by
  simp only[BT.ids,ζ6,ζ1,List.sum_cons,List.sum_append,h2.sizes,h3.sizes,h1.ob,ζu,ζr]
  show 1+2+1+1+_=_
  omega
theorem Rep.rd:∀{T:BT},Rep g T->(T.top≠0->g.Rd T.top)->∀x∈T.ids,g.Rd x
 | .nil,_,_,_,hx=>by cases hx
 | .node y f w a b,⟨h1,h2,h3⟩,hy,x,hx=>by
  have hr:g.Rd y:=hy h1.nz;have hp:g.pts y=[a.top,b.top]:=by unfold Gph.pts;rw[h1.ob];rfl
  rcases ζi.1 hx with rfl|hx
  ·exact hr
  ·rcases ζe.1 hx with hx|hx
   ·exact h2.rd (λh0=>hr.step (by rw[hp];simp) h0) x hx
   ·exact h3.rd (λh0=>hr.step (by rw[hp];simp) h0) x hx
theorem BT.top_mem:∀{T:BT},T.top≠0->T.top∈T.ids
 | .nil,h=>absurd rfl h
 | .node _ _ _ _ _,_=>ζa ..
theorem Rep.shut:∀{T:BT},Rep g T->∀x∈T.ids,∀z∈g.pts x,z≠0->z∈T.ids
 | .nil,_,_,hx=>by cases hx
 | .node y f w a b,⟨h1,h2,h3⟩,x,hx=>by
  intro z hz h0;have hp:g.pts y=[a.top,b.top]:=by unfold Gph.pts;rw[h1.ob];rfl
  rcases ζi.1 hx with rfl|hx
  ·rw[hp]at hz;simp only[ζi,ξq,or_false]at hz;rcases hz with rfl|rfl
   ·exact τ _ (ζk _ (BT.top_mem h0))
   ·exact τ _ (ζt _ (BT.top_mem h0))
  ·rcases ζe.1 hx with hx|hx
   ·exact τ _ (ζk _ (h2.shut x hx z hz h0))
   ·exact τ _ (ζt _ (h3.shut x hx z hz h0))
theorem Has.live(h:Has g r R)(hk:g.Ok)(nd:R.ids.Nodup)(z:∀j,j≠r->g.sv j=0):g.all.length=R.ids.length/\g.words=5*R.ids.length:=by
 have h1:∀x∈g.S,x≠0->x∈R.ids:=λx hx h0=>by
  obtain⟨j,hj,e⟩:=ψd.1 hx;have e2:g.sv j=x:=by unfold Gph.sv;rw[ω,η hj];exact e
  by_cases ej:j=r
  ·subst ej;rw[h.sv]at e2;rw[<-e2]at h0⊢;exact BT.top_mem h0
  ·exact absurd (e2.symm.trans (z j ej)) h0
 have hr:R.top≠0->g.Rd R.top:=λh0=>by
  rw[<-h.sv]at h0⊢;exact Gph.Rd.root (by unfold Gph.sv;rw[ω,η h.lt];exact μ _) h0
 obtain⟨p,q⟩:=Gph.all_of hk nd h1 h.rep.shut (h.rep.rd hr);rw[p,q,h.rep.sizes];exact⟨rfl,rfl⟩
end
namespace BT
theorem nx_spec(k:Nat):∀{T:BT} (o:BT),T.Bs->(T.nx k o=o/\∀p∈T.its,p.2<k)\/∃y f w a b,T.nx k o=node y f w a b/\(f,w)∈T.its/\k<=w/\∀p∈T.its,k<=p.2->w<=p.2
 | nil,o,_=>.inl ⟨rfl,λp hp=>by cases hp⟩
 | node x f w a b,o,⟨h1,h2,h3,h4⟩=>by
  unfold nx
  split
  ·rename_i hw;rcases nx_spec k o h4 with⟨e,h⟩|⟨y,f',w',a',b',e,m,hk,h⟩
   ·refine .inl ⟨e,λp hp=>?_⟩;rcases ζi.1 hp with rfl|hp
    ·exact hw
    ·rcases ζe.1 hp with hp|hp
     ·exact Nat.lt_trans (h1 p hp) hw
     ·exact h p hp
   ·refine .inr ⟨y,f',w',a',b',e,τ _ (ζt _ m),hk,λp hp hkp=>?_⟩;rcases ζi.1 hp with rfl|hp
    ·exact absurd hkp (by show ¬k<=w;omega)
    ·rcases ζe.1 hp with hp|hp
     ·have:=h1 p hp;omega
     ·exact h p hp hkp
  ·rename_i hw;rcases nx_spec k (node x f w a b) h3 with⟨e,h⟩|⟨y,f',w',a',b',e,m,hk,h⟩
   ·refine .inr ⟨x,f,w,a,b,e,ζa ..,by omega,λp hp hkp=>?_⟩;rcases ζi.1 hp with rfl|hp
    ·exact ϑ _
    ·rcases ζe.1 hp with hp|hp
     ·have:=h p hp;omega
     ·have:=h2 p hp;omega
   ·refine .inr ⟨y,f',w',a',b',e,τ _ (ζk _ m),hk,λp hp hkp=>?_⟩;have X:w' < w:=h1 _ m;rcases ζi.1 hp with rfl|hp
    ·exact Nat.le_of_lt X
    ·rcases ζe.1 hp with hp|hp
     ·exact h p hp hkp
     ·have:=h2 p hp;omega
theorem sub_mem(h:T.sub k=node x f k c d):(f,k)∈T.its:=UX k T _ (by rw[h];exact ζa ..)
theorem sub_nil(hb:T.Bs)(h:T.sub k=nil):∀p∈T.its,p.2≠k:=λp hp=>by
 have:=(its_sub k T).1.mem_iff.1 hp;rw[h]at this;exact TX k hb p (by simpa[its]using this)
end BT
section
variable{N:BT}
theorem TwG.grow(h:TwG g r a u n o R)(hl:g.L.length<=g'.L.length)(hS:g'.S.length=g.S.length)(ho:∀z,z<=g.L.length->g'.ob z=g.ob z)(hj:j∈[a,u,n,o])(hv:∀i,i≠j->g'.sv i=g.sv i):TwG g' r a u n o R:=by
 have hn:=h.q.nd;simp at hn;refine⟨⟨h.q.nd,λi hi=>by rw[hS];exact h.q.lt i hi,λi hi=>?_⟩,h.hs.of hl hS (hv r (λe=>by subst e;simp at hj;grind)) (λz hz=>ho z (h.hs.rep.mem z hz).2),h.nd,h.bs⟩;rw[hv i (λe=>hi (by rw[e];exact τ _ hj))];exact h.q.al i hi
def ZK6(a C f k:Nat)(g:Gph):Gph:=((g.alG C a ⟨2,1,1⟩).wrG a 3 3 k).wrG a 2 2 f
theorem TwG.ins(h:TwG g r a u n o R)(hu:g.sv u=R.par k 0)(e:R.sub k=.nil)(he:g.alE C a ⟨2,1,1⟩=0):∃R',TwG (JH r u k a (ZK6 a C f k g)) r a u n o R'/\R'.its.Perm ((f,k) :: R.its):=by
 have hn:=h.q.nd;simp at hn;obtain⟨⟨ra,ru,rn,ro⟩,⟨au,an,ao⟩,⟨un,uo⟩,no⟩:=hn;have la:=h.q.lt a (by simp);unfold ZK6;rw[show g.alG C a ⟨2,1,1⟩=g.add a 2 1 1 by unfold Gph.alG;rw[φ he];rfl];obtain⟨m,hm⟩:∃m,m=g.L.length+1:=⟨_,rfl⟩;have l1:(g.add a 2 1 1).L.length=m:=by show (g.L++[_]).length=m;rw[ζr,hm];rfl
 have s1:(g.add a 2 1 1).S.length=g.S.length:=ζb ..;have v1:∀j,(g.add a 2 1 1).sv j=if j=a then m else g.sv j:=λj=>by rw[hm];exact OS la
 have o1:∀z,z<=g.L.length->(g.add a 2 1 1).ob z=g.ob z:=λz hz=>Gph.add_ob z hz;have b1:Bd (g.add a 2 1 1) m 0 0 0 0:=⟨by omega,ψj l1.symm,by rw[hm];exact Gph.add_new⟩;generalize g.add a 2 1 1=g1 at l1 s1 v1 o1 b1;obtain⟨-,o2,l2,s2⟩:=NY (by rw[s1];exact la) (by rw[v1,φ rfl]) b1 k;generalize g1.wrG a 3 3 k=g2 at o2 l2 s2;have v2:∀j,g2.sv j=g1.sv j:=λj=>by unfold Gph.sv;rw[s2]
 have b2:Bd g2 m 0 0 0 k:=⟨b1.h1,by rw[l2];exact b1.h2,by rw[o2,φ rfl]⟩;obtain⟨⟨o3,l3,s3⟩,-⟩:=NY (g:=g2) (s:=a) (by rw[s2,s1];exact la) (by rw[v2,v1,φ rfl]) b2 f;generalize g2.wrG a 2 2 f=g3 at o3 l3 s3;have v3:∀j,g3.sv j=if j=a then m else g.sv j:=λj=>by rw[<-v1,<-v2];unfold Gph.sv;rw[s3]
 have X:g3.S.length=g.S.length:=by rw[s3,s2,s1]
 have hl:g.L.length<=g3.L.length:=by rw[l3,l2,l1];omega
 have w3:=h.grow (g':=g3) hl X (λz hz=>by rw[o3,ξ Ω,o2,ξ Ω,o1 z hz]) (j:=a) (by simp) (λi hi=>by rw[v3,ξ hi]);have rN:Rep g3 (.node m f k .nil .nil):=⟨⟨b2.h1,by rw[l3];exact b2.h2,by rw[o3,φ rfl];rfl⟩,trivial,trivial⟩
 have Y:∀z∈(BT.node m f k .nil .nil).ids,¬z∈R.oid k:=λz hz hz'=>by
  obtain rfl:z=m:=by simpa[BT.ids]using hz
  have:=(h.hs.rep.mem _ (BT.oid_ids k R _ hz')).2;omega
 obtain⟨q1,q2⟩:=XIv w3 (m:=a) (by rw[v3,ξ (λe=>au e.symm)];exact hu) (by rw[X];exact la) rN (by rw[v3,φ rfl];rfl) Y;refine⟨_,w3.rep q2 (by simp) q1 (by simp[BT.ids]) Y ⟨λp hp=>(by cases hp),λp hp=>(by cases hp),trivial,trivial⟩ (λp hp=>?_),(BT.its_rep k _ R).1.trans ?_⟩
 ·obtain rfl:p=(f,k):=by simpa[BT.its]using hp
  exact BT.okk_self k
 ·have:=(BT.its_sub k R).1;rw[e]at this;exact this.symm.cons _
theorem TsG.live(h:TsG g r a u n o R)(hk:g.Ok):g.all.length=R.ids.length/\g.words=5*R.ids.length:=h.t.hs.live hk h.t.nd h.z
structure IK(g:Gph)(r a u n o k:Nat)(R T O:BT):Prop where
 w:TwG g r a u n o R
 ha:g.sv a=T.top
 ho:g.sv o=O.top
 rt:Rep g T
 ro:Rep g O
 e:T.nx k O=R.nx k .nil
theorem IK.start(h:TsG g r a u n o R)(k:Nat):IK ((g.clG o).cpG a r) r a u n o k R R .nil:=by
 have hn:=h.t.q.nd;simp at hn;obtain⟨⟨ra,ru,rn,ro⟩,⟨au,an,ao⟩,⟨un,uo⟩,no⟩:=hn;have la:=h.t.q.lt a (by simp);have lo:=h.t.q.lt o (by simp);obtain⟨l1,s1,v1⟩:=KN lo;generalize g.clG o=g1 at l1 s1 v1;have w1:=h.t.slot l1 s1 (j:=o) (by simp) (λi hi=>by rw[v1,ξ hi]);obtain⟨l2,s2,v2⟩:=IF (g:=g1) (d:=a) (s:=r) (by rw[s1];exact la) (by rw[s1];exact h.t.hs.lt);generalize g1.cpG a r=g2 at l2 s2 v2;exact⟨w1.slot l2 s2 (j:=a) (by simp) (λi hi=>by rw[v2,ξ hi]),by rw[v2,φ rfl];exact w1.hs.sv,by rw[v2,ξ (λe=>ao e.symm),v1,φ rfl];rfl,h.t.hs.rep.of (by rw[l2,l1];exact ϑ _) (λz _=>C0 (l2.trans l1) z),trivial,rfl⟩
theorem IK.step{O:BT}(h:IK g r a u n o k R (.node x f v c d) O):g.shE a=0/\GC g a=v/\(v<k->∃T,T.ids.length<(BT.node x f v c d).ids.length/\IK (g.loG a a 1) r a u n o k R T O)/\(¬v<k->∃T O',T.ids.length<(BT.node x f v c d).ids.length/\IK ((g.cpG o a).loG a a 0) r a u n o k R T O'):=by
 have hn:=h.w.q.nd;simp at hn;obtain⟨⟨ra,ru,rn,ro⟩,⟨au,an,ao⟩,⟨un,uo⟩,no⟩:=hn;have la:=h.w.q.lt a (by simp);have lo:=h.w.q.lt o (by simp);have X:=h.rt;obtain⟨b0,rc,rd⟩:=h.rt;have e:=h.e;rw[show (BT.node x f v c d).nx k O=if v<k then d.nx k O else c.nx k (.node x f v c d)from rfl]at e;refine⟨by rw[GN la,h.ha];exact ξ b0.nz,(J6 la h.ha b0).2.2.2,λhv=>?_,λhv=>?_⟩
 ·rw[φ hv]at e;obtain⟨-,l2,s2,v2⟩:=FW (d:=a) (s:=a) la la h.ha b0;generalize g.loG a a 1=g2 at l2 s2 v2;exact⟨d,by simp[BT.ids];omega,h.w.slot l2 s2 (j:=a) (by simp) (λi hi=>by rw[v2,ξ hi]),by rw[v2,φ rfl],by rw[v2,ξ (λe=>ao e.symm)];exact h.ho,rd.of (by rw[l2];exact ϑ _) (λz _=>C0 l2 z),h.ro.of (by rw[l2];exact ϑ _) (λz _=>C0 l2 z),e⟩
 ·rw[ξ hv]at e;obtain⟨l1,s1,v1⟩:=IF lo la;generalize g.cpG o a=g1 at l1 s1 v1;have w1:=h.w.slot l1 s1 (j:=o) (by simp) (λi hi=>by rw[v1,ξ hi]);have ea:g1.sv a=x:=by rw[v1,ξ ao];exact h.ha
  have b1:=b0.of (g':=g1) (by rw[l1];exact ϑ _) (C0 l1 x);obtain⟨⟨l2,s2,v2⟩,-⟩:=FW (d:=a) (s:=a) (by rw[s1];exact la) (by rw[s1];exact la) ea b1;generalize g1.loG a a 0=g2 at l2 s2 v2;exact⟨c,.node x f v c d,by simp[BT.ids];omega,w1.slot l2 s2 (j:=a) (by simp) (λi hi=>by rw[v2,ξ hi]),by rw[v2,φ rfl],by rw[v2,ξ (λe=>ao e.symm),v1,φ rfl];exact h.ha,rc.of (by rw[l2,l1];exact ϑ _) (λz _=>C0 (l2.trans l1) z),X.of (by rw[l2,l1];exact ϑ _) (λz _=>C0 (l2.trans l1) z),e⟩
end
def BT.left:BT->BT
 | .nil=>.nil
 | .node _ _ _ a _=>a
section
variable{w:Nat}{P:Nat}
structure I1(g:Gph)(r a u n o k x:Nat)(R d D:BT)(P:Nat):Prop where
 w:TwG g r a u n o R
 ha:g.sv a=x
 ho:g.sv o=P
 hu:g.sv u=D.top
 hn:g.sv n=D.left.top
 rp:Rep g D
 ne:D≠.nil
 em:D.mn=d.mn
 eu:D.mu P=d.mu x
theorem I1.start(h:TwG g r a u n o R)(ha:g.sv a=x)(e:R.sub k=.node x f k c d)(hd:d≠.nil):I1 (((g.cpG o a).loG u a 1).loG n u 0) r a u n o k x R d d x:=by
 have hn:=h.q.nd;simp only[ζB,ζi,ξq,or_false,not_or,not_false_eq_true,and_true,ξi]at hn;obtain⟨⟨ra,ru,rn,ro⟩,⟨au,an,ao⟩,⟨un,uo⟩,no⟩:=hn;have la:=h.q.lt a (by simp);have lu:=h.q.lt u (by simp);have ln:=h.q.lt n (by simp);have lo:=h.q.lt o (by simp);have rs:=h.hs.rep.sub (k:=k);rw[e]at rs;obtain⟨b0,rc,rd⟩:=rs;obtain⟨l1,s1,v1⟩:=IF lo la;have w1:=h.slot l1 s1 (j:=o) (by simp) (λi hi=>by rw[v1,ξ hi]);generalize g.cpG o a=g1 at l1 s1 v1 w1;have ea:g1.sv a=x:=by rw[v1,ξ ao];exact ha
 have b1:=b0.of (g':=g1) (by rw[l1];exact ϑ _) (C0 l1 x);obtain⟨-,l2,s2,v2⟩:=FW (d:=u) (s:=a) (by rw[s1];exact lu) (by rw[s1];exact la) ea b1;have w2:=w1.slot l2 s2 (j:=u) (by simp) (λi hi=>by rw[v2,ξ hi]);generalize g1.loG u a 1=g2 at l2 s2 v2 w2;have r2:Rep g2 d:=rd.of (by rw[l2,l1];exact ϑ _) (λz _=>C0 (l2.trans l1) z);have eu:g2.sv u=d.top:=by rw[v2,φ rfl]
 match d,hd,r2,eu with
 | .node y f' w' a' b',_,r2,eu=>
  obtain⟨b2,Y,X⟩:=r2;obtain⟨⟨l3,s3,v3⟩,-⟩:=FW (d:=n) (s:=u) (by rw[s2,s1];exact ln) (by rw[s2,s1];exact lu) eu b2;have w3:=w2.slot l3 s3 (j:=n) (by simp) (λi hi=>by rw[v3,ξ hi]);generalize g2.loG n u 0=g3 at l3 s3 v3 w3;have r3:Rep g3 (.node y f' w' a' b'):=(show Rep g2 (.node y f' w' a' b')from⟨b2,Y,X⟩).of (by rw[l3];exact ϑ _) (λz _=>C0 l3 z);refine⟨w3,?_,?_,?_,?_,r3,λe=>(by cases e),rfl,rfl⟩
  ·rw[v3,ξ an,v2,ξ au];exact ea
  ·rw[v3,ξ (λe=>no e.symm),v2,ξ (λe=>uo e.symm),v1,φ rfl];exact ha
  ·rw[v3,ξ un];exact eu
  ·rw[v3,φ rfl];rfl
theorem I1.step(h:I1 g r a u n o k x R d D P)(hz:g.sv n≠0):∃D' P',D'.ids.length<D.ids.length/\I1 (((g.cpG o u).cpG u n).loG n u 0) r a u n o k x R d D' P':=by
 have hn:=h.w.q.nd;simp only[ζB,ζi,ξq,or_false,not_or,not_false_eq_true,and_true,ξi]at hn;obtain⟨⟨ra,ru,rn,ro⟩,⟨au,an,ao⟩,⟨un,uo⟩,no⟩:=hn;have la:=h.w.q.lt a (by simp);have lu:=h.w.q.lt u (by simp);have ln:=h.w.q.lt n (by simp);have lo:=h.w.q.lt o (by simp)
 match D,h with
 | .nil,h=>exact absurd rfl h.ne
 | .node y f' w' .nil b',h=>exact absurd h.hn hz
 | .node y f' w' (.node y2 f2 w2 a2 b2) b',h=>
  obtain⟨b0,Z,rb'⟩:=h.rp;obtain⟨l1,s1,v1⟩:=IF lo lu;have w1:=h.w.slot l1 s1 (j:=o) (by simp) (λi hi=>by rw[v1,ξ hi]);have en:g.sv n=y2:=h.hn;have eo:g.sv u=y:=h.hu;have ea:=h.ha;generalize g.cpG o u=g1 at l1 s1 v1 w1;obtain⟨l2,s2,v2⟩:=IF (g:=g1) (d:=u) (s:=n) (by rw[s1];exact lu) (by rw[s1];exact ln);have X:=w1.slot l2 s2 (j:=u) (by simp) (λi hi=>by rw[v2,ξ hi]);generalize g1.cpG u n=g2 at l2 s2 v2 X;have r2:Rep g2 (.node y2 f2 w2 a2 b2):=Z.of (by rw[l2,l1];exact ϑ _) (λz _=>C0 (l2.trans l1) z);have Y:g2.sv u=y2:=by rw[v2,φ rfl,v1,ξ no];exact en
  obtain⟨bb,rc,rd⟩:=r2;obtain⟨⟨l3,s3,v3⟩,-⟩:=FW (d:=n) (s:=u) (by rw[s2,s1];exact ln) (by rw[s2,s1];exact lu) Y bb;have w3:=X.slot l3 s3 (j:=n) (by simp) (λi hi=>by rw[v3,ξ hi]);generalize g2.loG n u 0=g3 at l3 s3 v3 w3;have r3:Rep g3 (.node y2 f2 w2 a2 b2):=(show Rep g2 (.node y2 f2 w2 a2 b2)from⟨bb,rc,rd⟩).of (by rw[l3];exact ϑ _) (λz _=>C0 l3 z);refine⟨.node y2 f2 w2 a2 b2,y,by simp[BT.ids];omega,w3,?_,?_,?_,?_,r3,λe=>(by cases e),?_,?_⟩
  ·rw[v3,ξ an,v2,ξ au,v1,ξ ao];exact ea
  ·rw[v3,ξ (λe=>no e.symm),v2,ξ (λe=>uo e.symm),v1,φ rfl];exact eo
  ·rw[v3,ξ un];exact Y
  ·rw[v3,φ rfl];rfl
  ·rw[<-h.em];rfl
  ·rw[<-h.eu];rfl
theorem I1.done(h:I1 g r a u n o k x R d D P)(hz:g.sv n=0)(e:R.sub k=.node x f k c d)(hd:d≠.nil):GC g u=d.mn.2.2/\g.fdV u 2 2=d.mn.2.1 ∧
  TwG ((((g.loG n u 1).stG o (if (g.loG n u 1).sv o=(g.loG n u 1).sv a then 1 else 0) n).wrG a 3 3 d.mn.2.2).wrG a 2 2 d.mn.2.1) r a u n o (R.rep k (.node x d.mn.2.1 d.mn.2.2 c d.dm))/\(R.rep k (.node x d.mn.2.1 d.mn.2.2 c d.dm)).its.Perm ((c.its++d.its)++R.oth k):=by
 have hn:=h.w.q.nd;simp only[ζB,ζi,ξq,or_false,not_or,not_false_eq_true,and_true,ξi]at hn;obtain⟨⟨ra,ru,rn,ro⟩,⟨au,an,ao⟩,⟨un,uo⟩,no⟩:=hn;have lu:=h.w.q.lt u (by simp);have ln:=h.w.q.lt n (by simp);have X:=h.rp
 match D,h,X with
 | .nil,h,_=>exact absurd rfl h.ne
 | .node y f' w' (.node y2 f2 w2 a2 b2) b',h,X=>
  have h1:g.sv n=y2:=h.hn;exact absurd (h1.symm.trans hz) X.2.1.1.nz
 | .node y f' w' .nil b',h,X=>
  obtain⟨b0,rc,rd⟩:=X;have em:(y,f',w')=d.mn:=h.em;have eu:P=d.mu x:=h.eu;obtain⟨-,q2,-,q4⟩:=J6 lu h.hu b0;obtain⟨-,l2,s2,v2⟩:=FW (d:=n) (s:=u) ln lu h.hu b0;have w2:=h.w.slot l2 s2 (j:=n) (by simp) (λi hi=>by rw[v2,ξ hi]);have b1:Bd (g.loG n u 1) y 0 b'.top f' w':=b0.of (by rw[l2];exact ϑ _) (C0 l2 y);refine⟨by rw[<-em];exact q4,by rw[<-em];exact q2,?_⟩;refine w2.swap (by rw[v2,ξ an];exact h.ha) e hd (by rw[v2,ξ (λe=>no e.symm),h.ho];exact eu) (mb:=b'.top) (by rw[v2,φ rfl]) ?_;rw[<-em];exact b1
theorem Has.live2(h:Has g r R)(hk:g.Ok)(nd:R.ids.Nodup)(z:∀j,g.sv j=0\/g.sv j∈R.ids):g.all.length=R.ids.length/\g.words=5*R.ids.length:=by
 have h1:∀x∈g.S,x≠0->x∈R.ids:=λx hx h0=>by
  obtain⟨j,hj,e⟩:=ψd.1 hx;have e2:g.sv j=x:=by unfold Gph.sv;rw[ω,η hj];exact e
  rw[<-e2]at h0⊢;exact(z j).resolve_left h0
 have hr:R.top≠0->g.Rd R.top:=λh0=>by
  rw[<-h.sv]at h0⊢;exact Gph.Rd.root (by unfold Gph.sv;rw[ω,η h.lt];exact μ _) h0
 obtain⟨p,q⟩:=Gph.all_of hk nd h1 h.rep.shut (h.rep.rd hr);rw[p,q,h.rep.sizes];exact⟨rfl,rfl⟩
theorem Z8Q(ha:a<g.S.length)(C:Nat):g.alE C a ⟨2,1,1⟩=if C<g.words+5 then 21 else 0:=by
 unfold Gph.alE;rw[g.sl_lt ha,φ rfl,ξ (by decide),show CF ⟨2,1,1⟩=5 by decide];by_cases h:C<g.words+5
 ·rw[φ h,φ Ω]
 ·rw[ξ h,ξ Ω]
structure TfH(g:Gph)(r a u n o k:Nat)(R T:BT)(p:Nat):Prop where
 f:TfG g r a u n o k R T p
 z:∀j,j≠r->j≠a->j≠u->g.sv j=0
theorem TfH.start(h:TsG g r a u n o R)(k:Nat):TfH ((g.clG u).cpG a r) r a u n o k R R 0:=by
 refine⟨.start h k,λj h1 h2 h3=>?_⟩;obtain⟨l1,s1,v1⟩:=KN (h.t.q.lt u (by simp));obtain⟨-,-,v2⟩:=IF (g:=g.clG u) (d:=a) (s:=r) (by rw[s1];exact h.t.q.lt a (by simp)) (by rw[s1];exact h.t.q.lt r (by simp));rw[v2,ξ h2,v1,ξ h3];exact h.z j h1
theorem TfH.step(h:TfH g r a u n o k R (.node x f v c d) p)(hk:v≠k):∃T,T.ids.length<(BT.node x f v c d).ids.length/\TfH ((g.cpG u a).loG a a (I7 (g.cpG u a) a k)) r a u n o k R T x:=by
 obtain⟨e,T,hl,hf⟩:=h.f.step hk;refine⟨T,hl,hf,λj h1 h2 h3=>?_⟩;have la:=h.f.w.q.lt a (by simp);have lu:=h.f.w.q.lt u (by simp)
 have au:a≠u:=by
  have hn:=h.f.w.q.nd;simp only[ζB,ζi,not_or]at hn;exact hn.2.1.1
 obtain⟨l1,s1,v1⟩:=IF lu la;have b1:=h.f.rp.1.of (g':=g.cpG u a) (by rw[l1];exact ϑ _) (C0 l1 x);have ea:(g.cpG u a).sv a=x:=by rw[v1,ξ au];exact h.f.ha
 have hz:(g.cpG u a).sv j=0:=by rw[v1,ξ h3];exact h.z j h1 h2 h3
 obtain⟨⟨-,-,v2⟩,-,-,v3⟩:=FW (g:=g.cpG u a) (d:=a) (s:=a) (by rw[s1];exact la) (by rw[s1];exact la) ea b1;unfold I7;by_cases hs:k<GC (g.cpG u a) a
 ·rw[φ hs,v2,ξ h2];exact hz
 ·rw[ξ hs,v3,ξ h2];exact hz
theorem TfH.found(h:TfH g r a u n o k R T p)(he:T=.nil\/∃x f c d,T=.node x f k c d):TfH g r a u n o k R (R.sub k) (R.par k 0):=by
 obtain⟨e1,e2⟩:=h.f.found he;rw[e1,e2]at h;exact h
theorem TfH.words(h:TfH g r a u n o k R (R.sub k) (R.par k 0))(hk:g.Ok):g.words=5*R.ids.length:=by
 refine(h.f.w.hs.live2 hk h.f.w.nd λj=>?_).2;by_cases h1:j=r
 ·subst h1;rw[h.f.w.hs.sv];by_cases h0:R.top=0
  ·exact .inl h0
  ·exact .inr (BT.top_mem h0)
 ·by_cases h2:j=a
  ·subst h2;rw[h.f.ha];by_cases h0:(R.sub k).top=0
   ·exact .inl h0
   ·exact .inr (BT.sub_ids k R _ (BT.top_mem h0))
  ·by_cases h3:j=u
   ·subst h3;rw[h.f.hu];rcases BT.par_mem k R 0 with e|e
    ·exact .inl e
    ·exact .inr e
   ·exact .inl (h.z j h1 h2 h3)
namespace BT
theorem bs_nodup:∀{T:BT},T.Bs->(T.its.map Prod.snd).Nodup
 | nil,_=>.nil
 | node x f w a b,⟨h1,h2,h3,h4⟩=>by
  show ((f,w) :: (a.its++b.its)).map Prod.snd |>.Nodup
  rw[ζ6,ζB,ζ1];refine⟨λh=>?_,ζE.2 ⟨bs_nodup h3,bs_nodup h4,λp hp q hq e=>?_⟩⟩
  ·rcases ζe.1 h with h|h
   ·obtain⟨p,hp,e⟩:=ζK.1 h;have:=h1 p hp;simp only at e;omega
   ·obtain⟨p,hp,e⟩:=ζK.1 h;have:=h2 p hp;simp only at e;omega
  ·obtain⟨p',X,e1⟩:=ζK.1 hp;obtain⟨q',Y,e2⟩:=ζK.1 hq;have:=h1 p' X;have:=h2 q' Y;omega
theorem its_found(e:R.sub k=node x f k c d):R.its.Perm ((f,k) :: (c.its++d.its++R.oth k)):=by
 have:=(its_sub k R).1;rw[e]at this;exact this
theorem its_over(v:Nat):(R.rep k (node x v k c d)).its.Perm ((v,k) :: (c.its++d.its++R.oth k)):=(its_rep k _ R).1
end BT
def F6(n s:Nat)(g:Gph):Gph:=(g.loG n s 0).loG n s 1
def Q6(r n s u k:Nat)(g:Gph):Gph:=JH r u k n ((g.loG n s 0).loG n s (if (g.loG n s 0).shE n=0 then 0 else 1))
theorem TwG.both(h:TwG g r a u n o R)(ha:g.sv a=x)(e:R.sub k=.node x f k c d):TwG (F6 n a g) r a u n o R/\(∀j,j≠n->(F6 n a g).sv j=g.sv j)/\(((g.loG n a 0).shE n==0)=(c.top !=0))/\(((F6 n a g).shE n==0)=(d.top !=0)):=by
 have hn:=h.q.nd;simp only[ζB,ζi,ξq,or_false,not_or,not_false_eq_true,and_true,ξi]at hn;obtain⟨⟨ra,ru,rn,ro⟩,⟨au,an,ao⟩,⟨un,uo⟩,no⟩:=hn;have la:=h.q.lt a (by simp);have ln:=h.q.lt n (by simp);have rs:=h.hs.rep.sub (k:=k);rw[e]at rs;obtain⟨b0,rc,rd⟩:=rs;obtain⟨⟨l1,s1,v1⟩,-⟩:=FW (d:=n) (s:=a) ln la ha b0;have w1:=h.slot l1 s1 (j:=n) (by simp) (λi hi=>by rw[v1,ξ hi]);have b1:=b0.of (g':=g.loG n a 0) (by rw[l1];exact ϑ _) (C0 l1 x);have ea:(g.loG n a 0).sv a=x:=by rw[v1,ξ an];exact ha
 unfold F6;obtain⟨-,l2,s2,v2⟩:=FW (g:=g.loG n a 0) (d:=n) (s:=a) (by rw[s1];exact ln) (by rw[s1];exact la) ea b1;refine⟨w1.slot l2 s2 (j:=n) (by simp) (λi hi=>by rw[v2,ξ hi]),λj hj=>by rw[v2,ξ hj,v1,ξ hj],?_,?_⟩
 ·rw[GN (by rw[s1];exact ln),v1,φ rfl];by_cases h0:c.top=0 <;> simp[h0]
 ·rw[GN (by rw[s2,s1];exact ln),v2,φ rfl];by_cases h0:d.top=0 <;> simp[h0]
theorem X8f(hr:Rep g T)(h:T.top=0):T=.nil:=by
 cases T with
 | nil=>rfl
 | node y f w a b=>exact absurd h hr.1.nz
theorem TwG.pull2(h:TwG g r a u n o R)(ha:g.sv a=x)(hu:g.sv u=R.par k 0)(e:R.sub k=.node x f k c d)(hcd:c.top=0\/d.top=0):∃R',TwG (Q6 r n a u k g) r a u n o R'/\R'.its.Perm ((c.its++d.its)++R.oth k):=by
 have hn:=h.q.nd;simp only[ζB,ζi,ξq,or_false,not_or,not_false_eq_true,and_true,ξi]at hn;obtain⟨⟨ra,ru,rn,ro⟩,⟨au,an,ao⟩,⟨un,uo⟩,no⟩:=hn;have la:=h.q.lt a (by simp);have ln:=h.q.lt n (by simp);have rs:=h.hs.rep.sub (k:=k);rw[e]at rs;obtain⟨b0,rc,rd⟩:=rs;unfold Q6;obtain⟨⟨l1,s1,v1⟩,-⟩:=FW (d:=n) (s:=a) ln la ha b0;have w1:=h.slot l1 s1 (j:=n) (by simp) (λi hi=>by rw[v1,ξ hi]);generalize g.loG n a 0=g1 at l1 s1 v1 w1;have b1:=b0.of (g':=g1) (by rw[l1];exact ϑ _) (C0 l1 x);have ea:g1.sv a=x:=by rw[v1,ξ an];exact ha
 have eu:g1.sv u=R.par k 0:=by rw[v1,ξ un];exact hu
 have X:=GN (g:=g1) (s:=n) (by rw[s1];exact ln);rw[v1,φ rfl]at X;obtain⟨⟨l2,s2,v2⟩,l3,s3,v3⟩:=FW (g:=g1) (d:=n) (s:=a) (by rw[s1];exact ln) (by rw[s1];exact la) ea b1;by_cases h0:c.top=0
 ·rw[φ h0]at X;rw[ξ (by rw[X];decide)];have w3:=w1.slot l3 s3 (j:=n) (by simp) (λi hi=>by rw[v3,ξ hi]);obtain⟨q1,q2⟩:=w3.pull (m:=n) (N:=d) (by rw[v3,ξ un];exact eu) e (.inr ⟨X8f rc h0,rfl⟩) (by rw[s3,s1];exact ln) (by rw[v3,φ rfl]);exact⟨_,q1,q2⟩
 ·rw[ξ h0]at X;rw[φ X];have w2:=w1.slot l2 s2 (j:=n) (by simp) (λi hi=>by rw[v2,ξ hi]);obtain⟨q1,q2⟩:=w2.pull (m:=n) (N:=c) (by rw[v2,ξ un];exact eu) e (.inl ⟨X8f rd (hcd.resolve_left h0),rfl⟩) (by rw[s2,s1];exact ln) (by rw[v2,φ rfl]);exact⟨_,q1,q2⟩
end
def ndC(N:List (Nat×Nat)):List Value:=N.flatMap λo=>[uU (o.1:Nat),uU (o.2:Nat)]
theorem RU(L M:List (Nat×Nat)):ndC (L++M)=ndC L++ndC M:=by simp[ndC]
theorem VD(L:List (Nat×Nat)):(ndC L).length=L.length*2:=by
 induction L with
 | nil=>rfl
 | cons o r ih=>simp[ndC]at ih⊢;omega
theorem Qn9{L:List (Nat×Nat)}(h:i<L.length):(ndC L)[i*2]?=some (uU ((L.getD i (0,0)).1:Nat))/\(ndC L)[i*2+1]?=some (uU ((L.getD i (0,0)).2:Nat)):=by
 induction L generalizing i with
 | nil=>exact absurd h (ζA _)
 | cons o r ih=>
  have e:ndC (o :: r)=uU (o.1:Nat) :: uU (o.2:Nat) :: ndC r:=rfl;rw[e];cases i with
  | zero=>exact⟨rfl,rfl⟩
  | succ i=>
   have:=ih (i:=i) (by simpa using h);rw[show (i+1)*2=i*2+1+1 by omega];simpa using this
def QY(M:List (Nat×Nat))(k y C:Nat)(e:Int)(M':List (Nat×Nat)):Prop:=
 (∃f M0,M.Perm ((f,k) :: M0)/\e=0/\M'=(y,k) :: M0)\/((∀p∈M,p.2≠k)/\((5*M.length+5<=C/\e=0/\M'=(y,k) :: M)\/(C<5*M.length+5/\e=21/\M'=M)))
def ZR(M:List (Nat×Nat))(k f:Nat)(e:Int):Prop:=((f,k)∈M/\e=0)\/((∀p∈M,p.2≠k)/\f=0/\e=6)
def O4(M:List (Nat×Nat))(k:Nat)(e:Int)(M':List (Nat×Nat)):Prop:=(∃f,M.Perm ((f,k) :: M')/\e=0)\/((∀p∈M,p.2≠k)/\e=6/\M'=M)
def MR(M:List (Nat×Nat))(k v f:Nat)(e:Int):Prop:=((f,v)∈M/\k<=v/\(∀p∈M,k<=p.2->v<=p.2)/\e=0)\/((∀p∈M,p.2<k)/\v=0/\f=0/\e=6)
def FC(N:List (Nat×Nat))(k m:Nat):Prop:=(m<N.length->(N.getD m (0,0)).1=k)/\∀j,j<m->(N.getD j (0,0)).1≠k
theorem WI(N:List (Nat×Nat))(k:Nat):∃m,m<=N.length/\FC N k m:=by
 have hx:∀n,n<=N.length->(∀j,j<n->(N.getD j (0,0)).1≠k)\/∃m,m<n/\(N.getD m (0,0)).1=k/\∀j,j<m->(N.getD j (0,0)).1≠k:=by
  intro n
  induction n with
  | zero=>exact λ_=>.inl λj hj=>absurd hj (ζA _)
  | succ n ih=>
   intro hn;rcases ih Ω with h|⟨m,h1,h2,h3⟩
   ·by_cases e:(N.getD n (0,0)).1=k
    ·exact .inr ⟨n,by omega,e,h⟩
    ·exact .inl λj hj=>by
      rcases ζP.1 hj with h'|rfl
      ·exact h j h'
      ·exact e
   ·exact .inr ⟨m,by omega,h2,h3⟩
 rcases hx N.length (ϑ _)with h|⟨m,h1,h2,h3⟩
 ·exact⟨N.length,ϑ _,λh'=>absurd h' (ζL _),h⟩
 ·exact⟨m,by omega,λ_=>h2,h3⟩
theorem MB(h:m<N.length):N.getD m (0,0)=N[m]:=by rw[ω,η h];rfl
theorem Xkr(hb:b<N.length):N.Perm (N.getD b (0,0) :: (N.take b++N.drop (b+1))):=by
 rw[MB hb];have h:=ξJ b N;rw[ξK hb]at h;exact(List.Perm.of_eq h.symm).trans ξX
theorem Q3c(hb:b<N.length)(x:Nat×Nat):(N.set b x).Perm (x :: (N.take b++N.drop (b+1))):=by
 rw[List.set_eq_take_append_cons_drop,φ hb];exact ξX
section
variable{N:List (Nat × Nat)}
theorem kNo(hp:M.Perm (N.map Prod.swap))(hk:FC N k N.length):∀p∈M,p.2≠k:=λp hpm e=>by
 obtain⟨q,hq,rfl⟩:=ζK.1 (hp.mem_iff.1 hpm);obtain⟨j,hj,rfl⟩:=ζo hq;exact hk.2 j hj (by rw[MB hj];exact e)
theorem QT(hp:M.Perm (N.map Prod.swap))(hk:FC N k m)(hm:m<N.length):M.Perm (((N.getD m (0,0)).2,k) :: (N.take m++N.drop (m+1)).map Prod.swap):=by
 have h:=hp.trans ((Xkr hm).map Prod.swap);rw[ζ6]at h;rw[<-hk.1 hm];exact h
theorem kIn(hp:M.Perm (N.map Prod.swap))(hk:FC N k m)(hm:m<N.length):((N.getD m (0,0)).2,k)∈M:=(QT hp hk hm).mem_iff.2 (ζa ..)
theorem NM(hd:(M.map Prod.snd).Nodup)(h1:M.Perm ((a,k) :: M0))(h2:M.Perm ((b,k) :: M1)):a=b/\M0.Perm M1:=by
 have hn:=((h1.map Prod.snd).nodup_iff.1 hd);rw[ζ6,ζB]at hn;have hm:(b,k)∈(a,k) :: M0:=h1.mem_iff.1 (h2.mem_iff.2 (ζa ..));rcases ζi.1 hm with h|h
 ·have e:b=a:=by injection h
  subst e;exact⟨rfl,(h1.symm.trans h2).cons_inv⟩
 ·exact absurd (ζK.2 ⟨_,h,rfl⟩) hn.1
theorem Yh5(hp:M.Perm (N.map Prod.swap))(hd:(M.map Prod.snd).Nodup)(h:QY M k y C e M')(hk:FC N k m)(hm:m<=N.length):
  (m<N.length/\e=0/\M'.Perm ((N.set m (k,y)).map Prod.swap))\/(m=N.length/\5*N.length+5<=C/\e=0/\M'.Perm ((N++[(k,y)]).map Prod.swap))\/(m=N.length/\C<5*N.length+5/\e=21/\M'=M):=by
 have hl:M.length=N.length:=by rw[hp.length_eq,ξ4]
 rcases υ m N.length with X|hge
 ·left;have hy:=QT hp hk X;rcases h with⟨f,M0,h1,rfl,rfl⟩|⟨h,-⟩
  ·refine⟨X,rfl,?_⟩;have h2:=(Q3c X (k,y)).map Prod.swap;rw[ζ6]at h2;exact((NM hd h1 hy).2.cons _).trans h2.symm
  ·exact absurd rfl (h _ (kIn hp hk X))
 ·obtain rfl:m=N.length:=Ω
  have Y:=kNo hp hk;rcases h with⟨f,M0,h1,-⟩|⟨-,⟨h1,rfl,rfl⟩|⟨h1,rfl,rfl⟩⟩
  ·exact absurd rfl (Y _ (h1.mem_iff.2 (ζa ..)))
  ·refine .inr (.inl ⟨rfl,by omega,rfl,?_⟩);rw[ζ1];exact(hp.cons _).trans (List.perm_append_comm (l₁:=[(y,k)]))
  ·exact .inr (.inr ⟨rfl,by omega,rfl,rfl⟩)
theorem JuP(hp:M.Perm (N.map Prod.swap))(hd:(M.map Prod.snd).Nodup)(h:ZR M k f e)(hk:FC N k m)(hm:m<=N.length):
  (m<N.length/\e=0/\f=(N.getD m (0,0)).2)\/(m=N.length/\e=6/\f=0):=by
 rcases υ m N.length with X|hge
 ·rcases h with⟨h,rfl⟩|⟨h,-⟩
  ·obtain⟨M0,h0⟩:=ψl h;obtain⟨M1,rfl⟩:=h0;exact .inl ⟨X,rfl,(NM hd ξX (QT hp hk X)).1⟩
  ·exact absurd rfl (h _ (kIn hp hk X))
 ·obtain rfl:m=N.length:=Ω
  rcases h with⟨h,-⟩|⟨-,rfl,rfl⟩
  ·exact absurd rfl (kNo hp hk _ h)
  ·exact .inr ⟨rfl,rfl,rfl⟩
theorem Z59(hp:M.Perm (N.map Prod.swap))(hd:(M.map Prod.snd).Nodup)(h:O4 M k e M')(hk:FC N k m)(hm:m<=N.length):
  (m<N.length/\e=0/\M'.Perm ((N.take m++N.drop (m+1)).map Prod.swap))\/(m=N.length/\e=6/\M'=M):=by
 rcases υ m N.length with X|hge
 ·rcases h with⟨f,h,rfl⟩|⟨h,-⟩
  ·exact .inl ⟨X,rfl,(NM hd h (QT hp hk X)).2⟩
  ·exact absurd rfl (h _ (kIn hp hk X))
 ·obtain rfl:m=N.length:=Ω
  rcases h with⟨f,h,-⟩|⟨-,rfl,rfl⟩
  ·exact absurd rfl (kNo hp hk _ (h.mem_iff.2 (ζa ..)))
  ·exact .inr ⟨rfl,rfl,rfl⟩
end
def nxi(N:List (Nat×Nat))(k:Nat):Nat->Int
 | 0=>-1
 | i+1=>if k<=(N.getD i (0,0)).1/\(nxi N k i<0\/(N.getD i (0,0)).1<(N.getD (nxi N k i).toNat (0,0)).1)then i else nxi N k i
section
variable{N:List (Nat × Nat)}
theorem YD(N:List (Nat×Nat))(k:Nat):∀i,-1<=nxi N k i/\nxi N k i<i
 | 0=>by simp[nxi]
 | i+1=>by
  have:=YD N k i;unfold nxi
  split <;> omega
theorem QUl(h:nxi N k i<0)(hk:k<=(N.getD i (0,0)).1):nxi N k (i+1)=i:=φ ⟨hk,.inl h⟩
theorem Qm2(h:nxi N k i=b)(hk:k<=(N.getD i (0,0)).1)(hl:(N.getD i (0,0)).1<(N.getD b (0,0)).1):nxi N k (i+1)=i:=φ ⟨hk,.inr (by rw[h];exact hl)⟩
theorem XR4(hk:(N.getD i (0,0)).1<k):nxi N k (i+1)=nxi N k i:=ξ Ω
theorem Zw9(h:nxi N k i=b)(hl:(N.getD b (0,0)).1<=(N.getD i (0,0)).1):nxi N k (i+1)=b:=by
 rw[<-h];exact ξ (by rw[h,χ];omega)
theorem XCH(N:List (Nat×Nat))(k:Nat):∀i,(nxi N k i<0->∀j,j<i->(N.getD j (0,0)).1<k)/\(0<=nxi N k i->k<=(N.getD (nxi N k i).toNat (0,0)).1/\∀j,j<i->k<=(N.getD j (0,0)).1->(N.getD (nxi N k i).toNat (0,0)).1<=(N.getD j (0,0)).1)
 | 0=>⟨λ_ j hj=>absurd hj (ζA _),λh=>absurd h (by simp[nxi])⟩
 | i+1=>by
  obtain⟨h1,h2⟩:=XCH N k i;by_cases hc:k<=(N.getD i (0,0)).1/\(nxi N k i<0\/(N.getD i (0,0)).1<(N.getD (nxi N k i).toNat (0,0)).1)
  ·have e:nxi N k (i+1)=i:=φ hc;rw[e,χ];refine⟨λh=>absurd h Ω,λ_=>⟨hc.1,λj hj hkj=>?_⟩⟩;rcases ζP.1 hj with h|rfl
   ·by_cases h0:nxi N k i<0
    ·have:=h1 h0 j h;omega
    ·have:=(h2 Ω).2 j h hkj;omega
   ·exact ϑ _
  ·have e:nxi N k (i+1)=nxi N k i:=ξ hc;rw[e];refine⟨λh j hj=>?_,λh=>⟨(h2 h).1,λj hj hkj=>?_⟩⟩
   ·rcases ζP.1 hj with h'|rfl
    ·exact h1 h j h'
    ·omega
   ·rcases ζP.1 hj with h'|rfl
    ·exact(h2 h).2 j h' hkj
    ·omega
end
section
variable{N:List (Nat × Nat)}
theorem Qd3(hp:M.Perm (N.map Prod.swap))(hd:(M.map Prod.snd).Nodup)(h:MR M k v f e):
  (∃b:Nat,nxi N k N.length=b/\b<N.length/\e=0/\N.getD b (0,0)=(v,f))\/(nxi N k N.length = -1/\e=6/\v=0/\f=0):=by
 have Z:=YD N k N.length;obtain⟨h1,h2⟩:=XCH N k N.length;by_cases hz:nxi N k N.length<0
 ·right;refine⟨by omega,?_⟩;rcases h with⟨hm,hk,-⟩|⟨-,rfl,rfl,rfl⟩
  ·obtain⟨q,hq,e⟩:=ζK.1 (hp.mem_iff.1 hm);obtain⟨j,hj,rfl⟩:=ζo hq;have:=h1 hz j hj;rw[MB hj]at this;have e2:(N[j]).1=v:=congrArg Prod.snd e;omega
  ·exact⟨rfl,rfl,rfl⟩
 ·left;obtain⟨b,hb⟩:∃b:Nat,nxi N k N.length=b:=⟨_,(ξw Ω).symm⟩;rw[hb]at Z;obtain⟨q1,q2⟩:=h2 Ω;rw[hb,χ]at q1 q2;have Y:b<N.length:=Ω
  have X:((N.getD b (0,0)).2,(N.getD b (0,0)).1)∈M:=hp.mem_iff.2 (ζK.2 ⟨N[b],μ Y,by rw[MB Y];rfl⟩);rcases h with⟨hm,hk,hl,rfl⟩|⟨hl,-⟩
  ·refine⟨b,hb,Y,rfl,?_⟩;obtain⟨q,hq,e⟩:=ζK.1 (hp.mem_iff.1 hm);obtain⟨j,hj,rfl⟩:=ζo hq;have e2:(N[j]).1=v:=congrArg Prod.snd e;have k1:=q2 j hj (by rw[MB hj];omega);rw[MB hj]at k1;have k2:=hl _ X q1;have k3:(N.getD b (0,0)).1=v:=by dsimp only at k2;omega
   rw[k3]at X;obtain⟨A,B,hA⟩:=ψl X;obtain⟨A2,B2,hB⟩:=ψl hm;have:=(NM (k:=v) hd (hA▸ξX) (hB▸ξX)).1;exact Prod.ext k3 this
  ·have:=hl _ X;dsimp only at this;omega
end
def FP(M:List (Nat×Nat))(k:Nat):Nat:=M.countP λp=>decide (p.2<k)
theorem ZD2(M:List (Nat×Nat)):FP M 0=0:=by simp[FP]
theorem Y4B(M:List (Nat×Nat))(k:Nat):FP M k<=M.length:=ψy
theorem VXw(h:∀p∈M,p.2<k):FP M k=M.length:=by
 unfold FP;rw[List.countP_eq_length];exact λp hp=>θ (h p hp)
theorem Qe9(hm:(f,v)∈M):∃M0,M.Perm ((f,v) :: M0):=by
 obtain⟨A,B,rfl⟩:=ψl hm;exact⟨A++B,ξX⟩
theorem ZM(hd:(M.map Prod.snd).Nodup)(hp:M.Perm ((f,v) :: M0)):∀p∈M0,p.2≠v:=λp hpm e=>by
 have X:=(hp.map Prod.snd).nodup_iff.1 hd;rw[ζ6,ζB]at X;exact X.1 (ζK.2 ⟨p,hpm,e⟩)
theorem YAN(hd:(M.map Prod.snd).Nodup)(hm:(f,v)∈M)(hk:k<=v)(hl:∀p∈M,k<=p.2->v<=p.2):FP M (v+1)=FP M k+1:=by
 obtain⟨M0,hp⟩:=Qe9 hm;unfold FP;rw[hp.countP_eq,hp.countP_eq,List.countP_cons_of_pos (by simp),List.countP_cons_of_neg (by simp;omega)];congr 1;refine List.countP_congr λp hpm=>?_;have h1:=ZM hd hp p hpm;have h2:=hl p (hp.mem_iff.2 (τ _ hpm));simp only[ζg];constructor
 ·intro h;by_cases h3:k<=p.2
  ·have:=h2 h3;omega
  ·omega
 ·intro h;omega
theorem ZhG(hd:(M.map Prod.snd).Nodup)(hk:∀p∈M,k<=p.2)(hl:∀p∈M,k<=p.2->v<=p.2)(hp:M.Perm ((f,v) :: M')):∀p∈M',v+1<=p.2:=λp hpm=>by
 have h1:=ZM hd hp p hpm;have X:=hp.mem_iff.2 (τ _ hpm);have:=hl p X (hk p X);omega
theorem Y7b(hM:M≠[])(hk:∀p∈M,k<=p.2)(h:MR M k v f e):(f,v)∈M/\k<=v/\(∀p∈M,k<=p.2->v<=p.2)/\e=0:=by
 rcases h with h|⟨h,-⟩
 ·exact h
 ·cases M with
  | nil=>exact absurd rfl hM
  | cons x r=>
   have h1:=h x (ζa ..);have h2:=hk x (ζa ..);omega
theorem ZH(hd:(M.map Prod.snd).Nodup)(hp:M.Perm ((f,v) :: M1))(h:O4 M v e M'):e=0/\M'.Perm M1:=by
 rcases h with⟨g,h,rfl⟩|⟨h,-⟩
 ·exact⟨rfl,(NM hd h hp).2⟩
 ·exact absurd rfl (h _ (hp.mem_iff.2 (ζa ..)))
open Go.Shelf
def DQ(sl:Int)(l:List Int):Int:=if ∃j,j<l.length/\(l.getD j 0<0\/sl<=l.getD j 0)then 17 else if ∃i,i<l.length/\∃j,j<i/\l.getD i 0=l.getD j 0 then 5 else 0
theorem QL{sl:Int}(hk:k<l.length)(h:l.getD k 0<0\/sl<=l.getD k 0):DQ sl l=17:=φ ⟨k,hk,h⟩
theorem XHt{sl:Int}(hk:k<l.length)(h:∀j,j<l.length->0<=l.getD j 0/\l.getD j 0<sl)(hm:m<k)(he:l.getD k 0=l.getD m 0):DQ sl l=5:=by
 unfold DQ;rw[ξ (λ⟨j,hj,hq⟩=>by have:=h j hj;omega),φ ⟨k,hk,m,hm,he⟩]
theorem QP{sl:Int}(h:∀j,j<l.length->0<=l.getD j 0/\l.getD j 0<sl)(hd:∀i,i<l.length->∀j,j<i->l.getD i 0≠l.getD j 0):DQ sl l=0:=by
 unfold DQ;rw[ξ (λ⟨j,hj,hq⟩=>by have:=h j hj;omega),ξ (λ⟨i,hi,j,hj,e⟩=>hd i hi j hj e)]
theorem Q4x(w:World)(T:Nat)(x:Value):(w.alloc (.cells #[x] T)).ownsRow 0 T 1 (.slice (some ⟨w.heap.size,0,none⟩) 1 1) 1 [x]:=
 ⟨by simp,.inr ⟨w.heap.size,1,#[x],rfl,ζf _,heap_alloc_new w _,ϑ _,by unfold maxLen;omega,by simp,by simp⟩⟩
open Go.ChangeShapes Go.WideShapes Go.ChangeAt
theorem ZO3:prog.cellsOf 22=1:=by kernel_rfl
theorem QE0:prog.cellsOf 37=1:=by kernel_rfl
theorem QmK:prog.cellsOf 3=1:=by kernel_rfl
section
variable{enc:TypeId × Value->H}{t:TypeId}{x:DataW H × List MemPlace}
theorem VUD{k:FloatKind}(ht:P.underlying t=some (.float k))(h:DataW.trod enc P w base spare held fuel t cs=some x):∃n,cs=[.float k n]/\(Lit.float k n).wf=true:=by
 cases fuel with
 | zero=>simp[DataW.trod]at h
 | succ n=>
  unfold DataW.trod at h;rw[ht]at h
  split at h <;> simp_all
theorem KB{l:List Value}{v:Value}(h:(l.drop j).take 1=[v]):l[j]?=some v:=by
 have:((l.drop j).take 1)[0]?=some v:=by rw[h];rfl
 simpa using this
end
section
variable{enc:TypeId × Value->H}{x:DataW H × List MemPlace}
end
end Go.Proofs.YtbdimhlaaoadgaaGreatDoor
