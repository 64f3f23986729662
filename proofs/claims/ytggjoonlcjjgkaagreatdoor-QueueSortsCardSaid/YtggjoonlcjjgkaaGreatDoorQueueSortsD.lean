/- Part 4 of what QueueSorts leans on: my own lemmas, merged by shake.py. -/
import Derived.Test.YtggjoonlcjjgkaaGreatDoorQueueSortsC
namespace Go.Proofs.YtggjoonlcjjgkaaGreatDoor
open _root_.Go.Proofs.Tryz
set_option maxHeartbeats 3200000
set_option maxRecDepth 100000
open Go.RowKit Word
variable{held:Bool}{a base z:Int}{X Y:Int->Prop}{l:List Bool}{O rs:List Int}{L M:List Ob}{cs:List Value}{B BASE N R b f fuel hi i j k lo m m' n p p1 p2 q r x y:Nat}{spare:Nat->Bool}{F:Nat->Nat}{Q S:Nat->Prop}{H:Type}{u v v':Vm}{w w' w1 wr:World}
def XP(v:Vm)(a b:Int):Prop:=v.rdE a=0/\∃i:Nat,(i:Int)<(v.rdH a).p/\v.ptE a i=0/\v.ptV a i≠0/\b=(v.ptV a i:Nat)
def Rch(v:Vm)(rs:List Int)(a:Int):Prop:=∀P:Int->Prop,(∀r∈rs,r≠0->P r)->(∀a b,P a->XP v a b->P b)->P a
theorem Rch.root{r:Int}(h:r∈rs)(h0:r≠0):Rch v rs r:=λ_ h1 _=>h1 r h h0
theorem Rch.step{b:Int}(h:Rch v rs a)(hp:XP v a b):Rch v rs b:=λP h1 h2=>h2 a b (h P h1 h2) hp
def Vm.osz(v:Vm)(a:Int):Int:=B9 (v.rdH a)
structure CC(v:Vm)(rs:List Int)(n:Nat):Prop where
 rd:∀a,Rch v rs a->v.rdE a=0
 pt:∀a,Rch v rs a->∀i:Nat,(i:Int)<(v.rdH a).p->v.ptE a i=0
 rm:∀a,Rch v rs a->a+v.osz a<=n
 dj:∀a b,Rch v rs a->Rch v rs b->a=b\/a+v.osz a<=b\/b+v.osz b<=a
def Hs(L:List Ob)(a:Int):Prop:=∃o∈L,(o.1:Int)=a
structure Mk(v:Vm)(rs:List Int)(n:Nat)(L:List Ob):Prop where
 good:AP n L
 ats:∀o∈L,Rch v rs o.1/\v.rdE o.1=0/\(o.2:Int)=v.osz o.1
theorem Mk.nil(v:Vm)(rs:List Int)(n:Nat):Mk v rs n []:=⟨AP.nil n,λ_ h=>by cases h⟩
theorem DB(h:v.rdE a=0):0<a/\1<=v.osz a/\v.osz a<=256:=by
 obtain⟨h0,-,p,f,k,e,hs⟩:=FW h;refine⟨h0,?_⟩;unfold Vm.osz;rw[e,show B9 ⟨p,f,k⟩=1+(p:Int)+f+k from θ (EF hs)];omega
theorem Mk.hs(h:Mk v rs n L)(ha:Hs L a):Rch v rs a/\v.rdE a=0:=by
 obtain⟨o,ho,rfl⟩:=ha;exact⟨(h.ats o ho).1,(h.ats o ho).2.1⟩
theorem QH9{b:Int}(hr:v.rdE a=0)(he:C5 L n a (v.osz a)=0):Hs (CX L n a (v.osz a)) b↔b=a\/Hs L b:=by
 have h0:=(DB hr).1;unfold CX Hs;rw[θ he];constructor
 ·rintro⟨o,ho,rfl⟩;rcases F8.1 ho with rfl|ho
  ·left;omega
  grind
 ·rintro(rfl|⟨o,ho,rfl⟩)
  ·exact⟨_,F8.2 (.inl rfl),by omega⟩
  ·exact⟨o,F8.2 (.inr ho),rfl⟩
theorem Mk.add(h:Mk v rs n L)(ha:Rch v rs a)(hr:v.rdE a=0)(he:C5 L n a (v.osz a)=0):Mk v rs n (CX L n a (v.osz a)):=by
 refine⟨V9U h.good _ _,λo ho=>?_⟩;have hp:=DB hr;unfold CX at ho;rw[θ he]at ho;rcases F8.1 ho with rfl|ho
 ·grind
 ·exact h.ats o ho
theorem ZoS{s:Int}(he:C5 L n s z=0):(CX L n s z).length=L.length+1:=by
 unfold CX;rw[θ he,YKx]
theorem Mk.fail(h:Mk v rs n L)(ha:Rch v rs a)(hn:¬Hs L a)(he:C5 L n a (v.osz a)≠0):¬CC v rs n:=λhS=>by
 have hr:=hS.rd a ha;have hp:=DB hr;have hm:=hS.rm a ha;unfold C5 at he;rw[ψ Ω,ψ Ω]at he
 split at he
 ·rename_i hc;obtain⟨o,ho,h1,h2⟩:=Q4.1 hc;obtain⟨q1,q2,q3⟩:=h.ats o ho;rcases hS.dj a o.1 ha q1 with e|e|e
  ·exact hn ⟨o,ho,e.symm⟩
  ·omega
  ·omega
 omega
def Cl(v:Vm)(L:List Ob)(a:Int):Prop:=∀i:Nat,(i:Int)<(v.rdH a).p->v.ptE a i=0/\(v.ptV a i≠0->Hs L (v.ptV a i:Nat))
structure BF(v:Vm)(rs:List Int)(n:Nat)(L:List Ob):Prop where
 mkd:Mk v rs n L
 all:∀a,Rch v rs a->Hs L a
 cl:∀o∈L,Cl v L o.1
theorem BF.of(h:Mk v rs n L)(hr:∀r∈rs,r≠0->Hs L r)(hc:∀o∈L,Cl v L o.1):BF v rs n L:=by
 refine⟨h,λa ha=>ha (Hs L) hr ?_,hc⟩;rintro a b ⟨o,ho,rfl⟩ ⟨-,i,hi,h0,h1,rfl⟩;exact(hc o ho i hi).2 h1
theorem BF.sound(h:BF v rs n L):CC v rs n:=by
 refine⟨λa ha=>(h.mkd.hs (h.all a ha)).2,λa ha i hi=>?_,λa ha=>?_,λa b ha hb=>?_⟩
 ·obtain⟨o,ho,rfl⟩:=h.all a ha;exact(h.cl o ho i hi).1
 ·obtain⟨o,ho,rfl⟩:=h.all a ha;have:=(h.mkd.good.sz o ho).2;have:=(h.mkd.ats o ho).2.2;omega
 ·obtain⟨o,ho,rfl⟩:=h.all a ha;obtain⟨q,hq,rfl⟩:=h.all b hb;have:=(h.mkd.ats o ho).2.2;have:=(h.mkd.ats q hq).2.2;rcases h.mkd.good.disj ho hq with e|e|e
  ·left;rw[e]
  ·omega
  omega
theorem YKj(h1:L.Pairwise (λo q=>o.1<q.1))(h2:M.Pairwise (λo q=>o.1<q.1))(h:∀x,x∈L↔x∈M):L=M:=by
 induction L generalizing M with
 | nil=>
  cases M with
  | nil=>rfl
  | cons m M=>grind [ζh]
 | cons l L ih=>
  cases M with
  | nil=>grind
  | cons m M=>
   obtain⟨a1,a2⟩:=ξd.1 h1;obtain⟨b1,b2⟩:=ξd.1 h2
   grind
theorem AP.lt(h:AP n L):L.Pairwise (λo q=>o.1<q.1):=by
 refine List.pairwise_iff_getElem.2 λi j hi hj hij=>?_;have:=h.at hi hj hij;have:=(h.sz _ (μ hi)).1;omega
theorem BF.unique(h:BF v rs n L)(h':BF v rs n M):L=M:=by
 have X:∀{L M:List Ob},BF v rs n L->BF v rs n M->∀x∈L,x∈M:=λ{L M} h h' x hx=>by
  obtain⟨q1,q2,q3⟩:=h.mkd.ats x hx;obtain⟨o,ho,e⟩:=h'.all _ q1;obtain⟨p1,p2,p3⟩:=h'.mkd.ats o ho
  grind
 exact YKj h.mkd.good.lt h'.mkd.good.lt λx=>⟨X h h' x,X h' h x⟩
structure MkS where
 L:List Ob
 st:List Int
 lost:Bool
variable{s:MkS}
def MkS.push(s:MkS)(R:Nat)(L':List Ob)(a:Int):MkS:=if s.st.length<R then ⟨L',s.st++[a],s.lost⟩else ⟨L',s.st,true⟩
structure DG(s s':MkS):Prop where
 sub:∀a,Hs s.L a->Hs s'.L a
 len:s.L.length<=s'.L.length
 los:s'.lost=true->s.lost=true\/s.L.length<s'.L.length
 mea:2*s.L.length+s'.st.length<=2*s'.L.length+s.st.length
theorem DG.refl(s:MkS):DG s s:=⟨λ_ h=>h,ϑ _,λh=>.inl h,ϑ _⟩
theorem DG.trans{t u:MkS}(h:DG s t)(k:DG t u):DG s u:=
 ⟨λa ha=>k.sub a (h.sub a ha),χ h.len k.len,λhl=>by
  rcases k.los hl with h1|h1
  ·rcases h.los h1 with h2|h2
   ·exact .inl h2
   ·exact .inr (κ h2 k.len)
  ·exact .inr (ξC h.len h1),by have:=h.mea;have:=k.mea;omega⟩
theorem Cl.mono(hs:∀a,Hs L a->Hs M a)(h:Cl v L a):Cl v M a:=λi hi=>⟨(h i hi).1,λh0=>hs _ ((h i hi).2 h0)⟩
structure B8(v:Vm)(rs:List Int)(n R:Nat)(X:Int->Prop)(s:MkS):Prop where
 mkd:Mk v rs n s.L
 st:∀a∈s.st,Hs s.L a
 r:s.st.length<=R
 cl:∀a,Hs s.L a->Cl v s.L a\/a∈s.st\/s.lost=true\/X a
theorem B8.weak(h:B8 v rs n R X s)(hX:∀a,X a->Y a):B8 v rs n R Y s:=
 ⟨h.mkd,h.st,h.r,λa ha=>(h.cl a ha).imp id (Or.imp id (Or.imp id (hX a)))⟩
theorem B8.push(h:B8 v rs n R X s)(ha:Rch v rs a)(hr:v.rdE a=0)(he:C5 s.L n a (v.osz a)=0):
  B8 v rs n R X (s.push R (CX s.L n a (v.osz a)) a)/\DG s (s.push R (CX s.L n a (v.osz a)) a)/\Hs (s.push R (CX s.L n a (v.osz a)) a).L a:=by
 have hm:=h.mkd.add ha hr he;have hh:=λb=>QH9 (b:=b) hr he;have hl:=ZoS he;have Y:∀b,Hs s.L b->Hs (CX s.L n a (v.osz a)) b:=λb hb=>(hh b).2 (.inr hb);unfold MkS.push
 split
 ·rename_i hR;refine⟨⟨hm,λb hb=>?_,by simp;omega,λb hb=>?_⟩,⟨Y,by simp_all,λh=>.inl h,by simp;omega⟩,(hh a).2 (.inl rfl)⟩
  ·rcases ζg.1 hb with hb|hb
   ·exact Y b (h.st b hb)
   simp_all
  ·rcases(hh b).1 hb with rfl|hb
   ·simp_all
   ·rcases h.cl b hb with h1|h1|h1|h1
    ·exact .inl (h1.mono Y)
    ·simp_all
    ·simp_all
    simp_all
 ·refine⟨⟨hm,λb hb=>Y b (h.st b hb),h.r,λb _=>.inr (.inr (.inl rfl))⟩,⟨Y,by simp_all,λ_=>.inr (by simp_all),by grind⟩,(hh a).2 (.inl rfl)⟩
theorem B8.pop{st:List Int}{lost:Bool}(h:B8 v rs n R X ⟨L,st++[a],lost⟩):B8 v rs n R (λb=>X b\/b=a) ⟨L,st,lost⟩/\Hs L a:=by
 refine⟨⟨h.mkd,λb hb=>h.st b (ζg.2 (.inl hb)),by have:=h.r;grind,λb hb=>?_⟩,h.st a (ζg.2 (.inr (ζL.2 rfl)))⟩;rcases h.cl b hb with h1|h1|h1|h1
 ·exact .inl h1
 ·grind
 ·simp_all
 simp_all
theorem B8.done(h:B8 v rs n R X s)(hc:Cl v s.L a)(hX:∀b,X b->Y b\/b=a):B8 v rs n R Y s:=
 ⟨h.mkd,h.st,h.r,λb hb=>by
  rcases h.cl b hb with h1|h1|h1|h1
  ·exact .inl h1
  ·simp_all
  ·simp_all
  grind⟩
def ClN(v:Vm)(L:List Ob)(a:Int)(k:Nat):Prop:=∀i:Nat,i<k->v.ptE a i=0/\(v.ptV a i≠0->Hs L (v.ptV a i:Nat))
theorem ClN.mono(hs:∀a,Hs L a->Hs M a)(h:ClN v L a k):ClN v M a k:=λi hi=>⟨(h i hi).1,λh0=>hs _ ((h i hi).2 h0)⟩
theorem ClN.succ(h:ClN v L a k)(h0:v.ptE a k=0)(h1:v.ptV a k≠0->Hs L (v.ptV a k:Nat)):ClN v L a (k+1):=λi hi=>by
 rcases υ i k with h2|h2
 ·exact h i h2
 grind
theorem ClN.cl(h:ClN v L a k)(hk:(v.rdH a).p<=k):Cl v L a:=λi hi=>h i Ω
theorem B8.marks(h:B8 v rs n R X s)(hX:∀a,¬X a)(hst:s.st=[])(hlost:s.lost=false)(hr:∀r∈rs,r≠0->Hs s.L r):BF v rs n s.L:=by
 refine BF.of h.mkd hr λo ho=>?_;rcases h.cl o.1 ⟨o,ho,rfl⟩with h1|h1|h1|h1
 ·exact h1
 ·simp_all
 ·simp_all
 simp_all
theorem ZFY(ha:Rch v rs a)(h:v.rdE a≠0):¬CC v rs n:=λhS=>h (hS.rd a ha)
theorem J7J(ha:Rch v rs a)(hi:(i:Int)<(v.rdH a).p)(h:v.ptE a i≠0):¬CC v rs n:=λhS=>h (hS.pt a ha i hi)
def FI(l xs:List Nat):List Nat:=xs.foldl (λl x=>if x≠0/\¬x∈l then l++[x]else l) l
def FT(p:Nat->List Nat):Nat->List Nat->Nat->List Nat
 | 0,l,_=>l
 | f+1,l,i=>if i<l.length then FT p f (FI l (p (l.getD i 0))) (i+1)else l
theorem Xja(l:List Nat):FI l []=l:=rfl
theorem XA(l:List Nat)(x:Nat)(xs:List Nat):FI l (x :: xs)=FI (if x≠0/\¬x∈l then l++[x]else l) xs:=rfl
theorem J9:∀(xs l:List Nat) (y:Nat),y∈FI l xs↔y∈l\/(y∈xs/\y≠0)
 | [],l,y=>by simp[Xja]
 | x :: xs,l,y=>by
  rw[XA,J9 xs]
  grind
theorem P9:∀(xs l:List Nat),∃t,FI l xs=l++t
 | [],l=>⟨[],by simp[Xja]⟩
 | x :: xs,l=>by
  rw[XA];by_cases h:x≠0/\¬x∈l
  ·obtain⟨t,ht⟩:=P9 xs (l++[x])
   simp_all
  ·obtain⟨t,ht⟩:=P9 xs l
   grind
def OkL(l:List Nat):Prop:=l.Nodup/\¬0∈l
theorem OH:∀(xs:List Nat) {l:List Nat},OkL l->OkL (FI l xs)
 | [],_,h=>h
 | x :: xs,l,h=>by
  rw[XA];refine OH xs ?_;by_cases hx:x≠0/\¬x∈l
  ·rw[θ hx];refine⟨?_,?_⟩
   ·rw[ζZ];exact⟨h.1,by simp,λa ha b hb e=>by simp_all⟩
   ·rw[ζg,ζL];rintro(h1|h1)
    ·exact h.2 h1
    omega
  grind
theorem Z1{l:List Nat}(h:i<l.length):l.getD i 0∈l:=by
 simp_all
theorem YX(p:Nat->List Nat):∀(f:Nat) (l:List Nat) (i:Nat),∃t,FT p f l i=l++t
 | 0,l,_=>⟨[],by simp[FT]⟩
 | f+1,l,i=>by
  unfold FT
  split
  ·obtain⟨t,ht⟩:=P9 (p (l.getD i 0)) l;obtain⟨t2,ht2⟩:=YX p f (FI l (p (l.getD i 0))) (i+1)
   simp_all
  simp_all
theorem ZRH(p:Nat->List Nat):∀(f:Nat) (l:List Nat) (i:Nat),OkL l->OkL (FT p f l i)
 | 0,_,_,h=>h
 | f+1,l,i,h=>by
  unfold FT
  split
  ·exact ZRH p f _ _ (OH _ h)
  ·exact h
def InL(N:Nat)(l:List Nat):Prop:=∀x∈l,1<=x/\x<=N
theorem InL.len{l:List Nat}(h:InL N l)(hn:OkL l):l.length<=N:=by
 have h1:l ⊆ (List.range (N+1)).tail:=λx hx=>by
  have:=h x hx
  grind
 have h2:=hn.1.length_le_of_subset h1
 simp_all
theorem ZX{l xs:List Nat}(h:InL N l)(hx:∀x∈xs,x<=N):InL N (FI l xs):=λy hy=>by
 rcases(J9 _ _ _).1 hy with h1|⟨h1,h2⟩
 ·exact h y h1
 grind
def YkB(p:Nat->List Nat)(l:List Nat)(i:Nat):Prop:=∀j,j<i->∀y∈p (l.getD j 0),y≠0->y∈l
theorem Vsy{l t:List Nat}(h:j<l.length):(l++t).getD j 0=l.getD j 0:=by
 grind
theorem Ybq{p:Nat->List Nat}{N:Nat}(hp:∀x,1<=x->x<=N->∀y∈p x,y<=N):∀(f:Nat) (l:List Nat) (i:Nat),OkL l->InL N l->YkB p l i->i<=l.length->N+1<=f+i->YkB p (FT p f l i) (FT p f l i).length/\InL N (FT p f l i)
 | 0,l,i,ho,hi,_,hil,hf=>by have:=hi.len ho;omega
 | f+1,l,i,ho,hi,hs,hil,hf=>by
  unfold FT
  split
  ·rename_i h;have hx:=hi _ (Z1 h);obtain⟨t,ht⟩:=P9 (p (l.getD i 0)) l;refine Ybq hp f _ (i+1) (OH _ ho) (ZX hi (hp _ hx.1 hx.2)) (λj hj y hy h0=>?_) ?_ Ω
   ·rw[ht,Vsy Ω]at hy;rcases υ j i with X|X
    ·exact(J9 _ _ _).2 (.inl (hs j X y hy h0))
    grind [J9]
   grind
  grind
theorem Z7P{p:Nat->List Nat}{Q:Nat->Prop}(hp:∀x,Q x->∀y∈p x,y≠0->Q y):∀(f:Nat) (l:List Nat) (i:Nat),(∀x∈l,Q x)->∀x∈FT p f l i,Q x
 | 0,_,_,h=>h
 | f+1,l,i,h=>by
  unfold FT
  split
  ·rename_i hi;refine Z7P hp f _ (i+1) (λy hy=>?_)
   grind [J9,Z1]
  ·exact h
def G0(p:Nat->List Nat)(N:Nat)(rs:List Nat):List Nat:=FT p (N+1) (FI [] rs) 0
theorem YVO:OkL []:=⟨ξM,by simp⟩
theorem XD(p:Nat->List Nat)(N:Nat)(rs:List Nat):OkL (G0 p N rs):=ZRH _ _ _ _ (OH _ YVO)
theorem JOE{p:Nat->List Nat}{rs:List Nat}(hp:∀x,1<=x->x<=N->∀y∈p x,y<=N)(hr:∀x∈rs,x<=N):InL N (G0 p N rs)/\(∀x∈rs,x≠0->x∈G0 p N rs)/\∀x∈G0 p N rs,∀y∈p x,y≠0->y∈G0 p N rs:=by
 have X:InL N (FI [] rs):=ZX (λx hx=>absurd hx (by simp)) hr;obtain⟨h1,h2⟩:=Ybq hp (N+1) (FI [] rs) 0 (OH _ YVO) X (λj hj=>absurd hj (ζQ _)) (ζe _) Ω;refine⟨h2,λx hx h0=>?_,λx hx y hy h0=>?_⟩
 ·obtain⟨t,ht⟩:=YX p (N+1) (FI [] rs) 0;unfold G0
  grind [ζx,J9]
 ·obtain⟨j,hj,e⟩:=ψu.1 hx;refine h1 j hj y ?_ h0;have e2:(G0 p N rs).getD j 0=x:=by simp_all
  unfold G0 at e2
  simp_all
theorem VPa{p:Nat->List Nat}{rs:List Nat}(hp:∀x,Q x->∀y∈p x,y≠0->Q y)(hr:∀x∈rs,x≠0->Q x):∀x∈G0 p N rs,Q x:=by
 refine Z7P hp _ _ _ (λx hx=>?_)
 grind [J9]
structure GOb where
 p:Nat
 f:Nat
 k:Nat
 w:List Nat
structure Gph where
 L:List GOb
 S:List Nat
variable{g g':Gph}
def GOb.hdr(o:GOb):Hdr:=⟨o.p,o.f,o.k⟩
def GOb.size(o:GOb):Nat:=1+o.p+o.f+o.k
def Gph.ob(g:Gph)(x:Nat):GOb:=if x=0 then ⟨0,0,0,[]⟩else g.L.getD (x-1) ⟨0,0,0,[]⟩
def Gph.pts(g:Gph)(x:Nat):List Nat:=(g.ob x).w.take (g.ob x).p
structure Gph.Ok(g:Gph):Prop where
 len:∀o∈g.L,o.w.length=o.p+o.f+o.k/\o.p+o.f+o.k<=255
 pt:∀o∈g.L,∀y∈o.w.take o.p,y<=g.L.length
 st:∀y∈g.S,y<=g.L.length
def Gph.Rd(g:Gph)(x:Nat):Prop:=∀P:Nat->Prop,(∀r∈g.S,r≠0->P r)->(∀a,P a->∀b∈g.pts a,b≠0->P b)->P x
theorem Gph.Rd.root(h:r∈g.S)(h0:r≠0):g.Rd r:=λ_ h1 _=>h1 r h h0
theorem Gph.Rd.step{a:Nat}(h:g.Rd a)(hb:b∈g.pts a)(h0:b≠0):g.Rd b:=λP h1 h2=>h2 a (h P h1 h2) b hb h0
theorem Gph.ob_mem(h1:1<=x)(h2:x<=g.L.length):g.ob x∈g.L:=by
 unfold Gph.ob
 grind
theorem Gph.Ok.pts_le(h:g.Ok)(hy:y∈g.pts x):y<=g.L.length:=by
 unfold Gph.pts at hy;rcases υ 0 x with hx|hx
 ·rcases υ g.L.length x with hl|hl
  ·have e:g.ob x=⟨0,0,0,[]⟩:=by
    unfold Gph.ob
    grind
   simp_all
  ·exact h.pt _ (Gph.ob_mem hx hl) y hy
 ·have e:g.ob x=⟨0,0,0,[]⟩:=by unfold Gph.ob;simp_all
  simp_all
theorem Gph.Ok.rd(h:g.Ok)(hx:g.Rd x):1<=x/\x<=g.L.length:=
 hx (λx=>1<=x/\x<=g.L.length) (λr hr h0=>⟨by omega,h.st r hr⟩) (λ_ _ b hb h0=>⟨by omega,h.pts_le hb⟩)
def Gph.all(g:Gph):List Nat:=G0 g.pts g.L.length g.S
theorem Gph.Ok.mem_all(h:g.Ok):x∈g.all↔g.Rd x:=by
 obtain⟨h1,h2,h3⟩:=JOE (p:=g.pts) (N:=g.L.length) (rs:=g.S) (λx _ _ y hy=>h.pts_le hy) h.st;constructor
 ·intro hx;exact VPa (Q:=g.Rd) (λa ha b hb h0=>ha.step hb h0) (λr hr h0=>Gph.Rd.root hr h0) x hx
 ·intro hx;exact hx (λx=>x∈g.all) h2 h3
structure Img(v:Vm)(g:Gph)(F:Nat->Nat)(lo hi:Nat):Prop where
 z:F 0=0
 rd:∀x,g.Rd x->v.rdE (F x)=0
 hd:∀x,g.Rd x->v.rdH (F x)=(g.ob x).hdr
 pt:∀x,g.Rd x->∀i,i<(g.ob x).p->v.ptE (F x) i=0/\v.ptV (F x) i=F ((g.ob x).w.getD i 0)
 wd:∀x,g.Rd x->∀i,(g.ob x).p<=i->i<(g.ob x).p+(g.ob x).f+(g.ob x).k->v.ldE (F x+1+i:Nat)=0/\v.ldV (F x+1+i:Nat)=(g.ob x).w.getD i 0
 lo:∀x,g.Rd x->lo<=F x/\F x+(g.ob x).size<=hi
 dj:∀x y,g.Rd x->g.Rd y->x=y\/F x+(g.ob x).size<=F y\/F y+(g.ob y).size<=F x
theorem Img.pos(h:Img v g F lo hi)(hx:g.Rd x):0<F x:=by
 have:=(DB (h.rd x hx)).1;omega
theorem Img.inj(h:Img v g F lo hi)(hx:g.Rd x)(hy:g.Rd y)(e:F x=F y):x=y:=by
 have h1:=h.dj x y hx hy;have h2:1<=(g.ob x).size:=by unfold GOb.size;omega
 have h3:1<=(g.ob y).size:=by unfold GOb.size;omega
 omega
theorem PJ(ho:g.Ok)(hx:g.Rd x)(hi:i<(g.ob x).p):(g.ob x).w.getD i 0∈g.pts x:=by
 obtain⟨h1,h2⟩:=ho.rd hx;have hl:=(ho.len _ (Gph.ob_mem h1 h2)).1;rw[β,η Ω,Option.getD_some];exact List.mem_take_iff_getElem.2 ⟨i,by omega,rfl⟩
theorem Img.rch(h:Img v g F lo hi)(ho:g.Ok)(ha:Rch v (g.S.map λx=>(F x:Int)) a):∃x,g.Rd x/\a=(F x:Nat):=by
 refine ha (λa=>∃x,g.Rd x/\a=(F x:Nat)) (λr hr h0=>?_) ?_
 ·obtain⟨x,hx,rfl⟩:=ξl.1 hr;refine⟨x,Gph.Rd.root hx (λe=>h0 ?_),rfl⟩;rw[e,h.z];rfl
 ·rintro a b ⟨x,hx,rfl⟩ ⟨-,i,hi,-,h1,rfl⟩;rw[h.hd x hx]at hi;have hi:(i:Int)<((g.ob x).p:Int):=hi;have hi:i<(g.ob x).p:=Ω
  have hp:=h.pt x hx i hi;rw[hp.2]at h1⊢;exact⟨_,hx.step (PJ ho hx hi) (λe=>h1 (by rw[e,h.z])),rfl⟩
theorem Img.rch_of(h:Img v g F lo hi)(hx:g.Rd x):Rch v (g.S.map λx=>(F x:Int)) (F x:Nat):=by
 have Y:g.Rd x/\Rch v (g.S.map λx=>(F x:Int)) (F x:Nat):=by
  refine hx (λx=>g.Rd x/\Rch v (g.S.map λx=>(F x:Int)) (F x:Nat)) (λr hr h0=>?_) ?_
  ·have:=Gph.Rd.root hr h0;have hp:=h.pos this;exact⟨this,Rch.root (ξl.2 ⟨r,hr,rfl⟩) Ω⟩
  ·rintro a ⟨ha,hr⟩ b hb h0;have X:=ha.step hb h0;refine⟨X,hr.step ⟨h.rd a ha,?_⟩⟩;obtain⟨i,hi,e⟩:=List.mem_take_iff_getElem.1 hb;have Z:i<(g.ob a).p:=Ω
   have hw:(g.ob a).w.getD i 0=b:=by rw[β,η Ω,Option.getD_some,e]
   obtain⟨p1,p2⟩:=h.pt a ha i Z;rw[hw]at p2;refine⟨i,?_,p1,?_,?_⟩
   ·rw[h.hd a ha]
    show (i:Int)<((g.ob a).p:Int)
    omega
   ·have:=h.pos X;omega
   ·rw[p2]
 exact Y.2
theorem Img.osz(h:Img v g F lo hi)(ho:g.Ok)(hx:g.Rd x):v.osz (F x)=(g.ob x).size:=by
 obtain⟨h1,h2⟩:=ho.rd hx;have hl:=(ho.len _ (Gph.ob_mem h1 h2)).2;unfold Vm.osz;rw[h.hd x hx];unfold B9 CP GOb.hdr inS GOb.size
 grind
theorem Img.sound(h:Img v g F lo hi)(ho:g.Ok):CC v (g.S.map λx=>(F x:Int)) hi:=by
 refine⟨λa ha=>?_,λa ha i hi=>?_,λa ha=>?_,λa b ha hb=>?_⟩
 ·obtain⟨x,hx,rfl⟩:=h.rch ho ha;exact h.rd x hx
 ·obtain⟨x,hx,rfl⟩:=h.rch ho ha;rw[h.hd x hx]at hi;have hi:(i:Int)<((g.ob x).p:Int):=hi;exact(h.pt x hx i Ω).1
 ·obtain⟨x,hx,rfl⟩:=h.rch ho ha;rw[h.osz ho hx];have:=(h.lo x hx).2;omega
 ·obtain⟨x,hx,rfl⟩:=h.rch ho ha;obtain⟨y,hy,rfl⟩:=h.rch ho hb;rw[h.osz ho hx,h.osz ho hy];rcases h.dj x y hx hy with e|e|e
  ·simp_all
  ·omega
  omega
theorem ND{i:Int}(h:v.ptE a i=0):v.rdE a=0/\BK (v.rdH a) i=1/\v.ldE (a+1+i)=0/\v.ldV (a+1+i)<=2147483647/\v.ptV a i=v.ldV (a+1+i):=by
 have hv:v.ptV a i=v.gtV a i 1:=by unfold Vm.ptV;rw[θ h]
 unfold Vm.ptE at h;by_cases h1:v.gtE a i 1=0
 ·have h2:v.gtV a i 1<=2147483647:=by
   omega
  unfold Vm.gtE at h1;by_cases h3:v.plE a i 1=0
  ·rw[ψ (by simpa using h3)]at h1;have h4:v.gtV a i 1=v.ldV (a+1+i):=by unfold Vm.gtV;rw[ψ (by simpa using h3)]
   unfold Vm.plE at h3;omega
  omega
 omega
theorem N8{i:Int}(h1:v.rdE a=0)(h2:BK (v.rdH a) i=1)(h3:v.ldE (a+1+i)=0)(h4:v.ldV (a+1+i)<=2147483647):v.ptE a i=0/\v.ptV a i=v.ldV (a+1+i):=by
 have e1:v.plE a i 1=0:=by unfold Vm.plE;omega
 have e2:v.gtE a i 1=0:=by unfold Vm.gtE;omega
 have e3:v.gtV a i 1=v.ldV (a+1+i):=by unfold Vm.gtV;simp_all
 have e4:v.ptE a i=0:=by unfold Vm.ptE;omega
 exact⟨e4,by unfold Vm.ptV;simp_all⟩
theorem Q1(h:v.rdE a=0):0<a/\v.ldE a=0/\tkE (v.ldV a)=0/\v.rdH a=tkH (v.ldV a):=by
 unfold Vm.rdE at h;by_cases h0:a=0
 ·omega
 ·rw[ψ h0]at h;by_cases h1:a<0
  ·omega
  ·rw[ψ h1]at h;by_cases h2:v.ldE a=0
   ·rw[θ h2]at h;exact⟨by omega,h2,h,by unfold Vm.rdH;grind⟩
   omega
theorem PU(h0:0<a)(h1:v.ldE a=0)(h2:tkE (v.ldV a)=0):v.rdE a=0/\v.rdH a=tkH (v.ldV a):=by
 unfold Vm.rdE Vm.rdH
 grind
structure MG(v v':Vm)(Q:Int->Prop)(T:Int->Int)(lo hi:Nat):Prop where
 z:T 0=0
 wd:∀a,Q a->∀m:Nat,(m:Int)<v.osz a->v'.ldE (T a+m)=0/\(v'.ldV (T a+m):Int)=if 1<=m/\(m:Int)<=(v.rdH a).p then T (v.ldV (a+m))else v.ldV (a+m)
 lo:∀a,Q a->(lo:Int)<=T a/\T a+v.osz a<=hi
 dj:∀a b,Q a->Q b->a=b\/T a+v.osz a<=T b\/T b+v.osz b<=T a
theorem Img.moved{lo' hi':Nat}{T:Int->Int}(h:Img v g F lo hi)(ho:g.Ok)(hm:MG v v' (Rch v (g.S.map λx=>(F x:Int))) T lo' hi')(h1:1<=lo')(h2:hi'<=2147483647):Img v' g (λx=>(T (F x)).toNat) lo' hi':=by
 have hr:=λx (hx:g.Rd x)=>h.rch_of hx
 have ht:∀x,g.Rd x->(((T (F x)).toNat:Nat):Int)=T (F x):=λx hx=>by
  have:=(hm.lo _ (hr x hx)).1;omega
 have hT:∀x,g.Rd x->0<=T (F x)/\T (F x)<=2147483647:=λx hx=>by
  have h3:=hm.lo _ (hr x hx);rw[h.osz ho hx]at h3;omega
 have hs:∀x,g.Rd x->v'.rdE (T (F x))=0/\v'.rdH (T (F x))=v.rdH (F x):=λx hx=>by
  obtain⟨a1,a2,a3,a4⟩:=Q1 (h.rd x hx);have h3:=hm.wd _ (hr x hx) 0 (by rw[h.osz ho hx];unfold GOb.size;omega);rw[ψ Ω]at h3;simp only[Int.natCast_zero,Int.add_zero]at h3;have h4:=(hm.lo _ (hr x hx)).1;have e:v'.ldV (T (F x))=v.ldV (F x):=Ω
  have:=PU (v:=v') (a:=T (F x)) Ω h3.1 (by rw[e];exact a3);rw[e]at this;exact⟨this.1,this.2.trans a4.symm⟩
 refine⟨by rw[h.z];show (T 0).toNat=0;rw[hm.z];rfl,λx hx=>?_,λx hx=>?_,λx hx i hi=>?_,λx hx i h3 h4=>?_,λx hx=>?_,λx y hx hy=>?_⟩
 ·show v'.rdE (((T (F x)).toNat:Nat):Int)=0
  rw[ht x hx];exact(hs x hx).1
 ·show v'.rdH (((T (F x)).toNat:Nat):Int)=_
  rw[ht x hx,(hs x hx).2];exact h.hd x hx
 ·show v'.ptE (((T (F x)).toNat:Nat):Int) i=0/\v'.ptV (((T (F x)).toNat:Nat):Int) i=(T (F ((g.ob x).w.getD i 0))).toNat
  rw[ht x hx];obtain⟨p1,p2⟩:=h.pt x hx i hi;obtain⟨q1,q2,q3,q4,q5⟩:=ND p1;rw[p2]at q5;have hw:=hm.wd _ (hr x hx) (1+i) (by rw[h.osz ho hx];unfold GOb.size;omega)
  have hp:(((1+i:Nat):Int))<=(v.rdH (F x)).p:=by
   rw[h.hd x hx]
   show (((1+i:Nat):Int))<=((g.ob x).p:Int)
   omega
  rw[θ ⟨by omega,hp⟩,show (F x:Int)+((1+i:Nat):Int)=(F x:Int)+1+i by omega,<-q5,show T (F x)+((1+i:Nat):Int)=T (F x)+1+i by omega]at hw
  have hb:0<=T (F ((g.ob x).w.getD i 0))/\T (F ((g.ob x).w.getD i 0))<=2147483647:=by
   by_cases e:(g.ob x).w.getD i 0=0
   ·rw[e,h.z];show 0<=T 0/\T 0<=_;rw[hm.z];omega
   ·exact hT _ (hx.step (PJ ho hx hi) e)
  obtain⟨r1,r2⟩:=N8 (v:=v') (a:=T (F x)) (i:=i) (hs x hx).1 (by rw[(hs x hx).2];exact q2) hw.1 Ω;exact⟨r1,by omega⟩
 ·obtain⟨w1,w2⟩:=h.wd x hx i h3 h4;have hw:=hm.wd _ (hr x hx) (1+i) (by rw[h.osz ho hx];unfold GOb.size;omega)
  have hp:¬(((1+i:Nat):Int))<=(v.rdH (F x)).p:=by
   rw[h.hd x hx]
   show ¬(((1+i:Nat):Int))<=((g.ob x).p:Int)
   omega
  rw[ψ (λhh=>hp hh.2),show (F x:Int)+((1+i:Nat):Int)=((F x+1+i:Nat):Int)by omega,w2]at hw;have e:(((T (F x)).toNat+1+i:Nat):Int)=T (F x)+((1+i:Nat):Int):=by have:=ht x hx;omega
  rw[e];exact⟨hw.1,by omega⟩
 ·have h3:=hm.lo _ (hr x hx);rw[h.osz ho hx]at h3;omega
 ·have h3:=hm.dj _ _ (hr x hx) (hr y hy);rw[h.osz ho hx,h.osz ho hy]at h3;have e1:=ht x hx;have e2:=ht y hy;rcases h3 with h3|h3|h3
  ·exact .inl (h.inj hx hy Ω)
  ·exact .inr (.inl Ω)
  ·exact .inr (.inr Ω)
theorem Gph.Rd.of(hs:∀r∈g'.S,r≠0->g.Rd r)(hp:∀x,g.Rd x->∀b∈g'.pts x,b≠0->g.Rd b)(h:g'.Rd x):g.Rd x:=h g.Rd hs hp
theorem Img.sub(h:Img v g F lo hi)(hr:∀x,g'.Rd x->g.Rd x)(ho:∀x,g'.Rd x->g'.ob x=g.ob x):Img v g' F lo hi:=by
 refine⟨h.z,λx hx=>h.rd x (hr x hx),λx hx=>by rw[ho x hx];exact h.hd x (hr x hx),λx hx i hi=>?_,λx hx i h1 h2=>?_,λx hx=>by rw[ho x hx];exact h.lo x (hr x hx),λx y hx hy=>by rw[ho x hx,ho y hy];exact h.dj x y (hr x hx) (hr y hy)⟩
 ·rw[ho x hx]at hi⊢;exact h.pt x (hr x hx) i hi
 ·rw[ho x hx]at h1 h2⊢;exact h.wd x (hr x hx) i h1 h2
theorem Img.slot(h:Img v g F lo hi)(hy:y=0\/g.Rd y):Img v ⟨g.L,g.S.set i y⟩ F lo hi:=by
 have hr:∀x,(⟨g.L,g.S.set i y⟩:Gph).Rd x->g.Rd x:=λx hx=>Gph.Rd.of (g:=g) (g':=⟨g.L,g.S.set i y⟩) (λr hr h0=>by
  rcases ζM hr with h1|h1
  ·exact Gph.Rd.root h1 h0
  simp_all) (λx hx b hb h0=>hx.step hb h0) hx
 exact h.sub hr (λx _=>rfl)
theorem Gph.Ok.slot(h:g.Ok)(hy:y<=g.L.length):(⟨g.L,g.S.set i y⟩:Gph).Ok:=⟨h.len,h.pt,λz hz=>by
 rcases ζM hz with h1|h1
 ·exact h.st z h1
 simp_all⟩
theorem Img.mem(h:Img v g F lo hi)(he:∀a:Nat,lo<=a->a<hi->v.ldE a=0->v'.ldE a=0/\v'.ldV a=v.ldV a):Img v' g F lo hi:=by
 have X:∀x,g.Rd x->∀m,m<(g.ob x).size->lo<=F x+m/\F x+m<hi:=λx hx m hm=>by
  have:=h.lo x hx;omega
 have hs:∀x,g.Rd x->v'.rdE (F x)=0/\v'.rdH (F x)=v.rdH (F x):=λx hx=>by
  obtain⟨a1,a2,a3,a4⟩:=Q1 (h.rd x hx);obtain⟨b1,b2⟩:=X x hx 0 (by unfold GOb.size;omega);obtain⟨e1,e2⟩:=he (F x) Ω Ω a2;have:=PU (v:=v') a1 e1 (by rw[e2];exact a3);rw[e2]at this;exact⟨this.1,this.2.trans a4.symm⟩
 refine⟨h.z,λx hx=>(hs x hx).1,λx hx=>(hs x hx).2.trans (h.hd x hx),λx hx i hi=>?_,λx hx i h1 h2=>?_,h.lo,h.dj⟩
 ·obtain⟨p1,p2⟩:=h.pt x hx i hi;obtain⟨q1,q2,q3,q4,q5⟩:=ND p1;obtain⟨b1,b2⟩:=X x hx (1+i) (by unfold GOb.size;omega);have e:(F x:Int)+1+(i:Int)=((F x+(1+i):Nat):Int):=Ω
  rw[e]at q3 q4 q5;obtain⟨e1,e2⟩:=he _ b1 b2 q3;have:=N8 (v:=v') (a:=(F x:Int)) (i:=i) (hs x hx).1 (by rw[(hs x hx).2];exact q2) (by rw[e];exact e1) (by rw[e,e2];exact q4);exact⟨this.1,by rw[this.2,e,e2,<-q5];exact p2⟩
 ·obtain⟨w1,w2⟩:=h.wd x hx i h1 h2;obtain⟨b1,b2⟩:=X x hx (1+i) (by unfold GOb.size;omega);rw[show F x+1+i=F x+(1+i)by omega]at w1 w2⊢;obtain⟨e1,e2⟩:=he _ b1 b2 w1;exact⟨e1,by rw[e2];exact w2⟩
def GOb.put(o:GOb)(i y:Nat):GOb:=⟨o.p,o.f,o.k,o.w.set i y⟩
def Gph.put(g:Gph)(x i y:Nat):Gph:=⟨g.L.set (x-1) ((g.ob x).put i y),g.S⟩
theorem Gph.put_ob(h1:1<=x)(h2:x<=g.L.length)(z:Nat):(g.put x i y).ob z=if z=x then (g.ob x).put i y else g.ob z:=by
 by_cases e:z=x
 ·subst e;rw[θ rfl]
  show (if z=0 then _ else (g.L.set (z-1) ((g.ob z).put i y)).getD (z-1) ⟨0,0,0,[]⟩)=_
  grind
 ·rw[ψ e]
  show (if z=0 then _ else (g.L.set (x-1) ((g.ob x).put i y)).getD (z-1) ⟨0,0,0,[]⟩)=if z=0 then _ else g.L.getD (z-1) ⟨0,0,0,[]⟩
  grind
theorem Gph.put_rd(h1:1<=x)(h2:x<=g.L.length)(hy:i<(g.ob x).p->y=0\/g.Rd y){z:Nat}(h:(g.put x i y).Rd z):g.Rd z:=by
 refine Gph.Rd.of (g:=g) (g':=g.put x i y) (λr hr h0=>Gph.Rd.root hr h0) (λa ha b hb h0=>?_) h;unfold Gph.pts at hb;rw[Gph.put_ob h1 h2]at hb;by_cases e:a=x
 ·subst e;rw[θ rfl]at hb;have hb:b∈((g.ob a).w.set i y).take (g.ob a).p:=hb;rcases υ i (g.ob a).p with hi|hi
  ·rw[List.take_set]at hb;rcases ζM hb with h3|h3
   ·exact ha.step h3 h0
   simp_all
  ·rw[List.take_set_of_le hi]at hb;exact ha.step hb h0
 ·rw[ψ e]at hb;exact ha.step hb h0
theorem Gph.Ok.put(h:g.Ok)(h1:1<=x)(h2:x<=g.L.length)(hy:i<(g.ob x).p->y<=g.L.length):(g.put x i y).Ok:=by
 have hx:=Gph.ob_mem h1 h2;have hl:(g.put x i y).L.length=g.L.length:=ω;refine⟨λo ho=>?_,λo ho z hz=>?_,λz hz=>by rw[hl];exact h.st z hz⟩
 ·rcases ζM ho with h3|h3
  ·exact h.len o h3
  ·rw[h3];have:=h.len _ hx;exact⟨by show ((g.ob x).w.set i y).length=_;rw[ω];exact this.1,this.2⟩
 ·rw[hl];rcases ζM ho with h3|h3
  ·exact h.pt o h3 z hz
  ·rw[h3]at hz;have hz:z∈((g.ob x).w.set i y).take (g.ob x).p:=hz;rcases υ i (g.ob x).p with hi|hi
   ·rw[List.take_set]at hz;rcases ζM hz with h4|h4
    ·exact h.pt _ hx z h4
    omega
   ·rw[List.take_set_of_le hi]at hz;exact h.pt _ hx z hz
theorem QZI(l:List Nat)(i j y:Nat)(hi:i<l.length):(l.set i y).getD j 0=if j=i then y else l.getD j 0:=by
 grind
theorem Img.put{top:Nat}(h:Img v g F lo top)(ho:g.Ok)(hx:g.Rd x)(hi:i<(g.ob x).p+(g.ob x).f+(g.ob x).k)(hy:i<(g.ob x).p->y=0\/g.Rd y)(ht:top<=2147483647)
  (hE:∀a:Nat,lo<=a->a<top->v.ldE a=0->v'.ldE a=0/\v'.ldV a=if a=F x+1+i then (if i<(g.ob x).p then F y else y)else v.ldV a):Img v' (g.put x i y) F lo top:=by
 obtain⟨x1,x2⟩:=ho.rd hx;have hr:∀z,(g.put x i y).Rd z->g.Rd z:=λz hz=>Gph.put_rd x1 x2 hy hz;have J:=λz=>Gph.put_ob (i:=i) (y:=y) x1 x2 z
 have X:∀z,((g.put x i y).ob z).p=(g.ob z).p/\((g.put x i y).ob z).f=(g.ob z).f/\((g.put x i y).ob z).k=(g.ob z).k/\((g.put x i y).ob z).size=(g.ob z).size/\((g.put x i y).ob z).hdr=(g.ob z).hdr:=λz=>by
  rw[J]
  split
  ·rename_i e;subst e;exact⟨rfl,rfl,rfl,rfl,rfl⟩
  ·exact⟨rfl,rfl,rfl,rfl,rfl⟩
 have hlen:=(ho.len _ (Gph.ob_mem x1 x2)).1
 have hw:∀z,g.Rd z->∀j,((g.put x i y).ob z).w.getD j 0=if z=x/\j=i then y else (g.ob z).w.getD j 0:=λz _ j=>by
  rw[J];by_cases e:z=x
  ·subst e;rw[θ rfl]
   show ((g.ob z).w.set i y).getD j 0=_
   rw[QZI _ _ _ _ Ω];by_cases e2:j=i
   ·rw[θ e2,θ ⟨rfl,e2⟩]
   ·rw[ψ e2,ψ (λhh=>e2 hh.2)]
  ·rw[ψ e,ψ (λhh=>e hh.1)]
 have Z:∀z,g.Rd z->∀m,m<(g.ob z).size->lo<=F z+m/\F z+m<top:=λz hz m hm=>by
  have:=h.lo z hz;omega
 have Y:∀z,g.Rd z->∀m,m<(g.ob z).size->(F z+m=F x+1+i↔z=x/\m=1+i):=λz hz m hm=>by
  have hsx:(g.ob x).size=1+(g.ob x).p+(g.ob x).f+(g.ob x).k:=rfl;constructor
  ·intro e;rcases h.dj z x hz hx with e2|e2|e2
   ·subst e2;exact⟨rfl,by omega⟩
   ·omega
   ·omega
  ·rintro⟨rfl,rfl⟩;omega
 have hs:∀z,g.Rd z->v'.rdE (F z)=0/\v'.rdH (F z)=v.rdH (F z):=λz hz=>by
  obtain⟨a1,a2,a3,a4⟩:=Q1 (h.rd z hz);have U:0<(g.ob z).size:=by unfold GOb.size;omega
  obtain⟨b1,b2⟩:=Z z hz 0 U;obtain⟨e1,e2⟩:=hE (F z) Ω Ω a2;rw[ψ (λe=>by have:=(Y z hz 0 U).1 Ω;omega)]at e2;have:=PU (v:=v') a1 e1 (by rw[e2];exact a3);rw[e2]at this;exact⟨this.1,this.2.trans a4.symm⟩
 have hF:∀b,b=0\/g.Rd b->F b<=2147483647:=λb hb=>by
  rcases hb with rfl|hb
  ·rw[h.z];omega
  ·have:=h.lo b hb;omega
 refine⟨h.z,λz hz=>(hs z (hr z hz)).1,λz hz=>by rw[(X z).2.2.2.2];exact(hs z (hr z hz)).2.trans (h.hd z (hr z hz)),λz hz j hj=>?_,λz hz j h1 h2=>?_,λz hz=>by rw[(X z).2.2.2.1];exact h.lo z (hr z hz),λz z' hz hz'=>by rw[(X z).2.2.2.1,(X z').2.2.2.1];exact h.dj z z' (hr z hz) (hr z' hz')⟩
 ·rw[(X z).1]at hj;have hq:=hr z hz;obtain⟨p1,p2⟩:=h.pt z hq j hj;obtain⟨q1,q2,q3,q4,q5⟩:=ND p1;have hm:1+j<(g.ob z).size:=by unfold GOb.size;omega
  obtain⟨b1,b2⟩:=Z z hq (1+j) hm;have e:(F z:Int)+1+(j:Int)=((F z+(1+j):Nat):Int):=Ω
  rw[e]at q3 q4 q5;obtain⟨e1,e2⟩:=hE _ b1 b2 q3;rw[hw z hq];by_cases hc:z=x/\j=i
  ·obtain⟨rfl,rfl⟩:=hc;rw[θ Ω,θ hj]at e2;have:=N8 (v:=v') (a:=(F z:Int)) (i:=j) (hs z hq).1 (by rw[(hs z hq).2];exact q2) (by rw[e];exact e1) (by rw[e,e2];exact hF _ (hy hj));rw[θ ⟨rfl,rfl⟩];exact⟨this.1,by rw[this.2,e,e2]⟩
  ·rw[ψ (λhh=>by have:=(Y z hq (1+j) hm).1 hh;exact hc ⟨this.1,by omega⟩)]at e2;have:=N8 (v:=v') (a:=(F z:Int)) (i:=j) (hs z hq).1 (by rw[(hs z hq).2];exact q2) (by rw[e];exact e1) (by rw[e,e2];exact q4);rw[ψ hc];exact⟨this.1,by rw[this.2,e,e2,<-q5];exact p2⟩
 ·rw[(X z).1]at h1;rw[(X z).1,(X z).2.1,(X z).2.2.1]at h2;have hq:=hr z hz;obtain⟨w1,w2⟩:=h.wd z hq j h1 h2;have hm:1+j<(g.ob z).size:=by unfold GOb.size;omega
  obtain⟨b1,b2⟩:=Z z hq (1+j) hm;rw[show F z+1+j=F z+(1+j)by omega]at w1 w2⊢;obtain⟨e1,e2⟩:=hE _ b1 b2 w1;refine⟨e1,?_⟩;rw[hw z hq,e2];by_cases hc:z=x/\j=i
  ·obtain⟨rfl,rfl⟩:=hc;rw[θ Ω,ψ Ω,θ ⟨rfl,rfl⟩]
  ·rw[ψ (λhh=>by have:=(Y z hq (1+j) hm).1 hh;exact hc ⟨this.1,by omega⟩),ψ hc];exact w2
def GOb.new(p f k:Nat):GOb:=⟨p,f,k,List.replicate (p+f+k) 0⟩
def Gph.add(g:Gph)(s p f k:Nat):Gph:=⟨g.L++[GOb.new p f k],g.S.set s (g.L.length+1)⟩
section
variable{s:Nat}
theorem Gph.add_ob(z:Nat)(hz:z<=g.L.length):(g.add s p f k).ob z=g.ob z:=by
 show (if z=0 then _ else (g.L++[GOb.new p f k]).getD (z-1) ⟨0,0,0,[]⟩)=if z=0 then _ else g.L.getD (z-1) ⟨0,0,0,[]⟩
 grind
theorem Gph.add_new:(g.add s p f k).ob (g.L.length+1)=GOb.new p f k:=by
 show (if g.L.length+1=0 then _ else (g.L++[GOb.new p f k]).getD (g.L.length+1-1) ⟨0,0,0,[]⟩)=_
 simp_all
theorem XYc(j:Nat):(GOb.new p f k).w.getD j 0=0:=by
 show (List.replicate (p+f+k) 0).getD j 0=0
 grind
theorem Gph.add_pts(h:b∈(g.add s p f k).pts (g.L.length+1)):b=0:=by
 unfold Gph.pts at h;rw[Gph.add_new]at h;exact(List.mem_replicate.1 (ξ6 h)).2
theorem Gph.add_rd(ho:g.Ok){z:Nat}(h:(g.add s p f k).Rd z):g.Rd z\/z=g.L.length+1:=by
 refine h (λz=>g.Rd z\/z=g.L.length+1) (λr hr h0=>?_) (λa ha b hb h0=>?_)
 ·rcases ζM hr with h1|h1
  ·exact .inl (Gph.Rd.root h1 h0)
  omega
 ·rcases ha with ha|rfl
  ·unfold Gph.pts at hb;rw[Gph.add_ob a (ho.rd ha).2]at hb;exact .inl (ha.step hb h0)
  ·exact absurd (Gph.add_pts hb) h0
theorem Gph.Ok.add(h:g.Ok)(hs:p+f+k<=255):(g.add s p f k).Ok:=by
 have hl:(g.add s p f k).L.length=g.L.length+1:=by show (g.L++[GOb.new p f k]).length=_;simp_all
 refine⟨λo ho=>?_,λo ho z hz=>?_,λz hz=>?_⟩
 ·rcases ζg.1 ho with h1|h1
  ·exact h.len o h1
  ·rw[ζL.1 h1];exact⟨ζG,hs⟩
 ·rcases ζg.1 ho with h1|h1
  ·have:=h.pt o h1 z hz;omega
  ·rw[ζL.1 h1]at hz;have:z=0:=(List.mem_replicate.1 (ξ6 hz)).2;omega
 ·rcases ζM hz with h1|h1
  ·have:=h.st z h1;omega
  ·omega
theorem Img.add(h:Img v g F lo hi)(ho:g.Ok)(hs:p+f+k<=255){A:Nat}(hA:hi<=A)(hlo:lo<=A)(hr:v'.rdE A=0)(hh:v'.rdH A=(GOb.new p f k).hdr)(hz:∀m:Nat,m<p+f+k->v'.ldE (A+1+m:Nat)=0/\v'.ldV (A+1+m:Nat)=0)
  (he:∀a:Nat,lo<=a->a<hi->v.ldE a=0->v'.ldE a=0/\v'.ldV a=v.ldV a):Img v' (g.add s p f k) (λx=>if x=g.L.length+1 then A else F x) lo (A+1+p+f+k):=by
 have hm:=h.mem he;have X:∀z,g.Rd z->z<=g.L.length/\¬z=g.L.length+1:=λz hz=>by have:=ho.rd hz;omega
 have U:(GOb.new p f k).size=1+p+f+k:=rfl;have Z:(GOb.new p f k).p=p:=rfl;have J:(GOb.new p f k).f=f:=rfl;have M:(GOb.new p f k).k=k:=rfl;refine⟨?_,λz hz'=>?_,λz hz'=>?_,λz hz' i hi'=>?_,λz hz' i a1 a2=>?_,λz hz'=>?_,λz z' hz1 hz2=>?_⟩
 ·show (if 0=g.L.length+1 then A else F 0)=0
  rw[ψ Ω];exact h.z
 ·show v'.rdE ((if z=g.L.length+1 then A else F z:Nat):Int)=0
  rcases Gph.add_rd ho hz' with hq|rfl
  ·rw[ψ (X z hq).2];exact hm.rd z hq
  ·rw[θ rfl];exact hr
 ·show v'.rdH ((if z=g.L.length+1 then A else F z:Nat):Int)=_
  rcases Gph.add_rd ho hz' with hq|rfl
  ·rw[ψ (X z hq).2,Gph.add_ob z (X z hq).1];exact hm.hd z hq
  ·rw[θ rfl,Gph.add_new];exact hh
 ·show v'.ptE ((if z=g.L.length+1 then A else F z:Nat):Int) i=0/\v'.ptV ((if z=g.L.length+1 then A else F z:Nat):Int) i=(if ((g.add s p f k).ob z).w.getD i 0=g.L.length+1 then A else F (((g.add s p f k).ob z).w.getD i 0))
  rcases Gph.add_rd ho hz' with hq|rfl
  ·rw[Gph.add_ob z (X z hq).1]at hi'⊢;have hy:=ho.pts_le (PJ ho hq hi');rw[ψ (X z hq).2,ψ Ω];exact hm.pt z hq i hi'
  ·rw[Gph.add_new]at hi'⊢;rw[Z]at hi';rw[θ rfl,XYc,ψ Ω,h.z];obtain⟨b1,b2⟩:=hz i Ω;have e:(A:Int)+1+(i:Int)=((A+1+i:Nat):Int):=Ω
   have V:BK (v'.rdH (A:Int)) (i:Int)=1:=by
    rw[hh];unfold BK B9 CP GOb.hdr inS;rw[Z,J,M]
    have e1:(decide (0<=(p:Int)/\(p:Int)<256)&&decide (0<=(f:Int)/\(f:Int)<256)&&decide (0<=(k:Int)/\(k:Int)<256)&&decide ((p:Int)+(f:Int)+(k:Int)<256))=true:=by
     simp only[ζd,ζc];omega
    simp only[e1,if_true];rw[θ Ω,θ Ω]
   have:=N8 (v:=v') (a:=(A:Int)) (i:=i) hr V (by exact b1) (by rw[e,b2];omega);exact⟨this.1,by rw[this.2,e,b2]⟩
 ·rcases Gph.add_rd ho hz' with hq|rfl
  ·rw[Gph.add_ob z (X z hq).1]at a1 a2⊢;rw[ψ (X z hq).2];exact hm.wd z hq i a1 a2
  ·rw[Gph.add_new]at a1 a2⊢;rw[θ rfl,XYc];exact hz i a2
 ·rcases Gph.add_rd ho hz' with hq|rfl
  ·rw[ψ (X z hq).2,Gph.add_ob z (X z hq).1];have:=h.lo z hq;omega
  ·rw[θ rfl,Gph.add_new,U];omega
 ·rcases Gph.add_rd ho hz1 with hq|rfl
  ·rcases Gph.add_rd ho hz2 with Y|rfl
   ·rw[ψ (X z hq).2,ψ (X z' Y).2,Gph.add_ob z (X z hq).1,Gph.add_ob z' (X z' Y).1];exact h.dj z z' hq Y
   ·rw[ψ (X z hq).2,θ rfl,Gph.add_ob z (X z hq).1];have:=h.lo z hq;exact .inr (.inl Ω)
  ·rcases Gph.add_rd ho hz2 with Y|rfl
   ·rw[θ rfl,ψ (X z' Y).2,Gph.add_ob z' (X z' Y).1];have:=h.lo z' Y;exact .inr (.inr Ω)
   ·exact .inl rfl
end
def AH(v:Vm):List Int->Int
 | []=>0
 | a :: r=>v.osz a+AH v r
def BQ(v:Vm):List Int->Int->Int->Int
 | [],_,_=>0
 | b :: r,t,a=>if b=a then t else BQ v r (t+v.osz b) a
theorem TG(v:Vm)(a:Int):0<=v.osz a:=by
 unfold Vm.osz B9
 grind [OA]
theorem MX(v:Vm)(O P:List Int):AH v (O++P)=AH v O+AH v P:=by
 induction O with
 | nil=>simp[AH]
 | cons a r ih=>simp only[ζq,AH,ih];omega
theorem GA(v:Vm)(O:List Int):0<=AH v O:=by
 induction O with
 | nil=>simp[AH]
 | cons a r ih=>have:=TG v a;simp only[AH];omega
theorem KX(v:Vm)(hj:j<O.length):AH v (O.take (j+1))=AH v (O.take j)+v.osz O[j]:=by
 rw[List.take_add_one,η hj,MX];simp[AH]
theorem QR(v:Vm)(O:List Int)(h:i<=j):AH v (O.take i)<=AH v (O.take j):=by
 have e:O.take j=O.take i++(O.take j).drop i:=by
  grind [ψq,Nat.min_eq_left]
 rw[e,MX];have:=GA v ((O.take j).drop i);omega
theorem RZ(v:Vm)(O:List Int)(j:Nat):AH v (O.take j)<=AH v O:=by
 have:=GA v (O.drop j)
 grind [MX,ψq]
theorem YAF(v:Vm)(P:List Int)(t:Int)(h:a∈O):BQ v (O++P) t a=BQ v O t a:=by
 induction O generalizing t with
 | nil=>cases h
 | cons b r ih=>
  simp only[ζq,BQ]
  grind
theorem TH(v:Vm)(P:List Int)(t:Int)(h:a∉O):BQ v (O++P) t a=BQ v P (t+AH v O) a:=by
 induction O generalizing t with
 | nil=>simp[AH]
 | cons b r ih=>
  have hb:¬b=a:=λe=>h (by simp_all);simp only[ζq,BQ,AH,ψ hb]
  grind
theorem OK(v:Vm)(t:Int)(h:a∉O):BQ v O t a=0:=by
 have:=TH v [] t h;rw[ξE]at this
 assumption
theorem VS(v:Vm)(hn:O.Nodup)(t:Int)(hj:j<O.length):BQ v O t O[j]=t+AH v (O.take j):=by
 have e:O=O.take j++O[j] :: O.drop (j+1):=by
  simp_all
 have Y:O[j]∉O.take j:=by
  grind
 have h:=TH v (O[j] :: O.drop (j+1)) t Y;refine(congrArg (λX=>BQ v X t O[j]) e).trans (h.trans ?_);rw[BQ,θ rfl]
theorem UH(v:Vm)(t:Int)(h:a∈O):t<=BQ v O t a/\BQ v O t a+v.osz a<=t+AH v O:=by
 induction O generalizing t with
 | nil=>cases h
 | cons b r ih=>
  have h1:=GA v r;have h2:=TG v b;simp only[BQ,AH]
  grind
def CH(O:List Int)(a:Int):List Int:=if a=0\/a∈O then O else O++[a]
def DE(O l:List Int):List Int:=l.foldl CH O
theorem VO(O:List Int)(a:Int):∃X,CH O a=O++X:=by
 unfold CH
 split
 ·simp_all
 simp_all
theorem VV(O l:List Int):∃X,DE O l=O++X:=by
 induction l generalizing O with
 | nil=>exact⟨[],(ξE _).symm⟩
 | cons a r ih=>
  obtain⟨X,hX⟩:=VO O a;obtain⟨Y,hY⟩:=ih (CH O a);exact⟨X++Y,by show DE (CH O a) r=_;simp_all⟩
theorem T0(O l:List Int)(a:Int):DE O (l++[a])=CH (DE O l) a:=by unfold DE;simp_all
theorem NC{b:Int}:b∈CH O a↔b∈O\/(b=a/\a≠0):=by
 unfold CH
 grind
theorem RL{l:List Int}{b:Int}:b∈DE O l↔b∈O\/(b∈l/\b≠0):=by
 induction l generalizing O with
 | nil=>simp[DE]
 | cons a r ih=>
  show b∈DE (CH O a) r↔_
  grind [NC]
theorem TI(h:O.Nodup)(a:Int):(CH O a).Nodup:=by
 unfold CH
 grind
theorem ZC(h:O.Nodup)(l:List Int):(DE O l).Nodup:=by
 induction l generalizing O with
 | nil=>exact h
 | cons a r ih=>exact ih (TI h a)
def DI(v:Vm)(a:Int):List Int:=(List.range (v.rdH a).p.toNat).map λi:Nat=>(v.ldV (a+1+i):Int)
theorem S7(v:Vm)(a:Int):(DI v a).length=(v.rdH a).p.toNat:=by unfold DI;simp
theorem WO(v:Vm)(a:Int)(hi:i<(DI v a).length):(DI v a)[i]=(v.ldV (a+1+i):Int):=by simp only[DI,List.getElem_map,List.getElem_range]
def AR(v:Vm)(rs:List Int):Nat->List Int
 | 0=>DE [] rs
 | k+1=>if k<(AR v rs k).length then DE (AR v rs k) (DI v ((AR v rs k).getD k 0))else AR v rs k
theorem Zh5(v:Vm)(rs:List Int)(k:Nat):(AR v rs k).Nodup:=by
 induction k with
 | zero=>exact ZC ξM _
 | succ k ih=>unfold AR;grind [ZC]
structure BM(v v':Vm):Prop where
 n:v'.n=v.n
 pt:v'.pt=v.pt
 pg:v'.pl.pg=v.pl.pg
 rm:v'.pl.rm=v.pl.rm
theorem BM.refl(v:Vm):BM v v:=⟨rfl,rfl,rfl,rfl⟩
theorem BM.trans{a b c:Vm}(h:BM a b)(k:BM b c):BM a c:=⟨k.n.trans h.n,k.pt.trans h.pt,k.pg.trans h.pg,k.rm.trans h.rm⟩
theorem BM.st(v:Vm)(a:Int)(x:Nat):BM v (v.st a x):=by
 unfold Vm.st
 split
 ·exact⟨rfl,rfl,rfl,rfl⟩
 ·exact BM.refl v
theorem BM.ldE(h:BM v v')(a:Int):v'.ldE a=v.ldE a:=by unfold Vm.ldE;rw[h.n,h.pt,h.pg]
def cpV(u:Vm)(a t:Int):Nat->Vm
 | 0=>u
 | m+1=>(cpV u a t m).st (t+m) (u.ldV (a+m))
theorem VE(u:Vm)(a t:Int)(n:Nat):BM u (cpV u a t n):=by
 induction n with
 | zero=>exact BM.refl u
 | succ m ih=>exact ih.trans (BM.st _ _ _)
theorem YK(h:AE u)(a t:Int)(n:Nat):AE (cpV u a t n):=by
 induction n with
 | zero=>exact h
 | succ m ih=>exact ih.st _ (h.ldV_lt _)
theorem Yrt(h:AE u)(a t:Int)(hm:∀m:Nat,m<n->u.ldE (t+m)=0)(b:Int):(cpV u a t n).ldV b=if t<=b/\b<t+n then u.ldV (a+(b-t))else u.ldV b:=by
 induction n with
 | zero=>rw[ψ Ω];rfl
 | succ m ih=>
  show ((cpV u a t m).st (t+m) (u.ldV (a+m))).ldV b=_
  rw[(YK h a t m).st_ldV _ (by rw[(VE u a t m).ldE];simp_all),ih (λj hj=>hm j Ω)]
  grind
structure DF(v:Vm)(rs:List Int)(L:List Ob)(to:Nat):Prop where
 ok:AE v
 mks:BF v rs v.n L
 pos:0<to
 ap:∀o∈L,o.1+o.2<=to\/to+sizes L<=o.1
 map:∀a:Nat,to<=a->a<to+sizes L->v.ldE a=0
 top:to+sizes L<=v.n
def Trn(v:Vm)(O:List Int)(k i j m:Nat):Prop:=1<=m/\((j<k/\(m:Int)<=(v.rdH (O.getD j 0)).p)\/(j=k/\m<=i))
structure Cpd(v v':Vm)(to:Nat)(O:List Int)(k i:Nat):Prop where
 ok:AE v'
 sm:BM v v'
 o:∀a:Int,¬(to<=a/\a<to+AH v O)->v'.ldV a=v.ldV a
 raw:∀j (hj:j<O.length) (m:Nat),(m:Int)<v.osz O[j]->¬Trn v O k i j m->v'.ldV (to+AH v (O.take j)+m)=v.ldV (O[j]+m)
 trn:∀j (hj:j<O.length) (m:Nat),(m:Int)<v.osz O[j]->Trn v O k i j m->(v'.ldV (to+AH v (O.take j)+m):Int)=BQ v O to (v.ldV (O[j]+m))
theorem Cpd.nil(h:AE v)(to:Nat):Cpd v v to [] 0 0:=⟨h,BM.refl v,λ_ _=>rfl,λ_ h=>absurd h (ζQ _),λ_ h=>absurd h (ζQ _)⟩
theorem QD(h:v.rdE a=0):0<=(v.rdH a).p/\(v.rdH a).p<v.osz a:=by
 obtain⟨-,-,p,f,k,e,hs⟩:=FW h;unfold Vm.osz;rw[e,show B9 ⟨p,f,k⟩=1+(p:Int)+f+k from θ (EF hs)]
 grind
theorem XaN(hz:∀o∈L,(o.2:Int)=v.osz o.1)(hn:O.Nodup)(h:∀a∈O,Hs L a):AH v O<=sizes L:=by
 induction L generalizing O with
 | nil=>
  cases O with
  | nil=>exact ψv _
  | cons a r=>obtain⟨o,ho,-⟩:=h a (ζh ..);cases ho
 | cons o r ih=>
  have h1:=ih (λq hq=>hz q (ζk _ hq)) (hn.erase (o.1:Int)) (λa ha=>by
   have hm:=(hn.mem_erase_iff).1 ha;obtain⟨q,hq,e⟩:=h a hm.2;rcases ζB.1 hq with rfl|hq
   ·omega
   ·exact⟨q,hq,e⟩)
  have h2:AH v O<=AH v (O.erase (o.1:Int))+v.osz o.1:=by
   clear ih h1 h hn
   induction O with
   | nil=>grind
   | cons a s ih=>
    rw[List.erase_cons];by_cases e:a=(o.1:Int)
    ·rw[θ (by simpa using e),e];simp only[AH];omega
    ·rw[ψ (by simpa using e)];simp only[AH];omega
  have h3:=hz o (ζh ..);simp only[sizes];omega
theorem VJ9(hz:∀o∈L,(o.2:Int)=v.osz o.1)(hp:L.Pairwise (λo q=>o.1<q.1))(h:∀o∈L,(o.1:Int)∈O):(sizes L:Int)<=AH v O:=by
 induction L generalizing O with
 | nil=>exact GA v O
 | cons o r ih=>
  have h1:=ih (O:=O.erase (o.1:Int)) (λq hq=>hz q (ζk _ hq)) (ξd.1 hp).2 (λq hq=>by
   have:=(ξd.1 hp).1 q hq
   grind)
  have h2:AH v (O.erase (o.1:Int))+v.osz o.1<=AH v O:=by
   have hm:=h o (ζh ..);clear ih h1 h hp
   induction O with
   | nil=>cases hm
   | cons a s ih=>
    rw[List.erase_cons];by_cases e:a=(o.1:Int)
    ·rw[θ (by simpa using e),e];simp only[AH];omega
    ·have:=ih ((ζB.1 hm).resolve_left (λe'=>e e'.symm));rw[ψ (by simpa using e)];simp only[AH];omega
  have h3:=hz o (ζh ..);simp only[sizes];omega
theorem JS{i:Int}(h:v.ptE a i=0):v.ptV a i=v.ldV (a+1+i)/\v.ldV (a+1+i)<=2147483647/\v.ldE (a+1+i)=0/\v.plE a i 1=0:=by
 have e1:v.ptV a i=v.gtV a i 1:=θ h;unfold Vm.ptE at h
 split at h
 ·omega
 ·rename_i hg;have hg:=ξS.1 hg
  split at h
  ·cases h
  ·rename_i hm;unfold Vm.gtE at hg
   split at hg
   ·omega
   ·rename_i hp;have e2:v.gtV a i 1=v.ldV (a+1+i):=ψ hp;omega
theorem QF{h:Hdr}{i:Int}(h0:0<=i)(h1:i<h.p)(h2:h.p<B9 h):BK h i=1:=by
 unfold BK;omega
theorem Xm6(hr:v.rdE a=0)(hi:(i:Int)<(v.rdH a).p)(hl:v.ldE (a+1+i)=0)(hv:v.ldV (a+1+i)<=2147483647):v.ptE a i=0/\v.plE a i 1=0:=by
 have hk:v.plE a i 1=0:=by
  unfold Vm.plE;rw[ψ Ω,θ (QF Ω hi (QD hr).2)]
 refine⟨?_,hk⟩;have hg:v.gtE a i 1=0:=by unfold Vm.gtE;omega
 unfold Vm.ptE;rw[ψ Ω];have e2:v.gtV a i 1=v.ldV (a+1+i):=ψ Ω;omega
def FN(v:Vm)(L:List Ob):Prop:=∀o∈L,∀m:Nat,m<o.2->v.ldE (o.1+m)=0
section
variable{to:Nat}
theorem DF.ob(c:DF v rs L to)(ha:Rch v rs a):∃o∈L,(o.1:Int)=a/\(o.2:Int)=v.osz a:=by
 obtain⟨o,ho,rfl⟩:=c.mks.all a ha;exact⟨o,ho,rfl,(c.mks.mkd.ats o ho).2.2⟩
theorem DF.sum(c:DF v rs L to)(hn:O.Nodup)(hR:∀a∈O,Rch v rs a):AH v O<=sizes L:=
 XaN (λo ho=>(c.mks.mkd.ats o ho).2.2) hn (λa ha=>c.mks.all a (hR a ha))
theorem DF.same(c:DF v rs L to)(hf:FN v L)(hn:O.Nodup)(hR:∀a∈O,Rch v rs a)(h:Cpd v v' to O k i)(ha:Rch v rs a):
  0<a/\v'.rdE a=0/\v'.rdH a=v.rdH a/\∀m:Nat,(m:Int)<v.osz a->v'.ldE (a+m)=0/\v'.ldV (a+m)=v.ldV (a+m):=by
 obtain⟨o,ho,rfl,hz⟩:=c.ob ha;have hs:=c.sum hn hR;have hap:=c.ap o ho;have X:=c.mks.sound.rd _ ha;have hp:=DB X
 have hm:∀m:Nat,(m:Int)<v.osz o.1->v'.ldE (o.1+m)=0/\v'.ldV (o.1+m)=v.ldV (o.1+m):=λm hm=>
  ⟨by rw[h.sm.ldE];exact hf o ho m Ω,h.o _ Ω⟩
 have h0:=hm 0 Ω;rw[show (o.1:Int)+(0:Nat)=o.1 by omega]at h0;refine⟨hp.1,?_,?_,hm⟩
 ·unfold Vm.rdE at X⊢
  grind
 ·unfold Vm.rdH;rw[h0.2,h.sm.ldE]
theorem Trn.ext{X:List Int}(hj:j<O.length):Trn v (O++X) k i j m↔Trn v O k i j m:=by
 unfold Trn
 grind
theorem YV(v:Vm){j':Nat}(hj:j<O.length)(hj':j' < O.length)(hm:(m:Int)<v.osz O[j])(hm':(m':Int)<v.osz O[j'])(h:AH v (O.take j)+m=AH v (O.take j')+m'):j=j'/\m=m':=by
 rcases ζR j j' with h1|rfl|h1
 ·have e:=KX v hj;have:=QR v O (i:=j+1) (j:=j') Ω;omega
 ·omega
 ·have e:=KX v hj';have:=QR v O (i:=j' + 1) (j:=j) Ω;omega
theorem place_lt(v:Vm)(hj:j<O.length)(hm:(m:Int)<v.osz O[j]):AH v (O.take j)+m<AH v O:=by
 have e:=KX v hj;have:=RZ v O (j+1);omega
def LA(v:Vm)(O:List Int)(k i:Nat):Prop:=∀j (hj:j<O.length) (m:Nat),(m:Int)<v.osz O[j]->Trn v O k i j m->(v.ldV (O[j]+m):Int)=0\/(v.ldV (O[j]+m):Int)∈O
theorem Vqd(v:Vm)(X:List Int)(t:Int)(h0:(0:Int)∉O++X)(h:a=0\/a∈O):BQ v (O++X) t a=BQ v O t a:=by
 grind [OK,ζx,YAF]
theorem Cpd.take(c:DF v rs L to)(hf:FN v L)(hn:O.Nodup)(hR:∀a∈O,Rch v rs a)(h:Cpd v v' to O k i)(hK:LA v O k i)(hk:k<O.length\/(k=O.length/\i=0))(ha:Rch v rs a)(hna:a∉O)(z:Nat)(hz:(z:Int)=v.osz a):
  (∀m:Nat,m<z->v'.ldE (to+AH v O+m)=0)/\(to:Int)+AH v O+z<=v.n/\Cpd v (cpV v' a (to+AH v O) z) to (O++[a]) k i/\LA v (O++[a]) k i:=by
 have M:(O++[a]).Nodup:=by
  rw[ζZ];exact⟨hn,by simp,λx hx y hy e=>hna (by rw[ζL]at hy;rw[<-hy,<-e];exact hx)⟩
 have Z:∀b∈O++[a],Rch v rs b:=λb hb=>by
  rcases ζg.1 hb with hb|hb
  ·exact hR b hb
  ·rw[ζL]at hb;rw[hb];exact ha
 have hs:=c.sum M Z;have h0s:=GA v O;have hsa:AH v (O++[a])=AH v O+v.osz a:=by rw[MX];simp[AH]
 have J:∀m:Nat,m<z->v'.ldE (to+AH v O+m)=0:=λm hm=>by
  rw[h.sm.ldE];have:=c.map (to+(AH v O).toNat+m) Ω Ω;rw[<-this];congr 1;omega
 have htop:=c.top;have U:=(c.same hf hn hR h ha).2.2.2
 have V:(0:Int)∉O++[a]:=λhm=>by
  have:=(DB (c.mks.sound.rd _ (Z 0 hm))).1;omega
 have Y:=Yrt h.ok a (to+AH v O) J;refine⟨J,by omega,⟨YK h.ok _ _ _,h.sm.trans (VE _ _ _ _),λb hb=>?_,λj hj m hm hT=>?_,λj hj m hm hT=>?_⟩,λj hj m hm hT=>?_⟩
 ·rw[Y,ψ Ω];exact h.o b Ω
 ·rw[ζs,ξg]at hj;rcases υ j O.length with X|X
  ·simp only[ζC X]at hm⊢;have hl:=place_lt v X hm;have e1:(O++[a]).take j=O.take j:=by rw[ξO Ω]
   rw[e1,Y,ψ Ω];exact h.raw j X m hm (λht=>hT ((Trn.ext X).2 ht))
  ·obtain rfl:j=O.length:=Ω
   have e2:(O++[a])[O.length]'(by simp)=a:=by simp
   rw[e2]at hm;have e1:(O++[a]).take O.length=O:=by rw[ξO (ϑ _),ζ8]
   rw[e1,Y,θ Ω,e2,show a+((to:Int)+AH v O+m-(to+AH v O))=a+m by omega];exact(U m hm).2
 ·rcases υ j O.length with X|X
  ·simp only[ζC X]at hm⊢;have hl:=place_lt v X hm;have e1:(O++[a]).take j=O.take j:=by rw[ξO Ω]
   have ht:=(Trn.ext (i:=i) (m:=m) X).1 hT;rw[e1,Y,ψ Ω,h.trn j X m hm ht];exact(Vqd v [a] to V (hK j X m hm ht)).symm
  ·obtain⟨h1,h2|h2⟩:=hT <;> omega
 ·rcases υ j O.length with X|X
  ·simp only[ζC X]at hm⊢;exact(hK j X m hm ((Trn.ext X).1 hT)).imp id (λh=>ζx _ h)
  ·obtain⟨h1,h2|h2⟩:=hT <;> omega
theorem Cpd.copy(c:DF v rs L to)(hn:O.Nodup)(hR:∀a∈O,Rch v rs a)(h:Cpd v v' to O k i)(hj:j<O.length){t:Int}(ht:t=to+AH v (O.take j)):
  v'.rdE t=0/\v'.rdH t=v.rdH O[j]/\(j=k->∀m:Nat,i<=m->(m:Int)<(v.rdH O[j]).p->v'.ptE t m=0/\v'.ptV t m=v.ldV (O[j]+1+m)) ∧
   ∀m:Nat,(m:Int)<(v.rdH O[j]).p->v'.plE t m 1=0/\v'.ldE (t+1+m)=0:=by
 have ha:=hR _ (μ hj);have X:=c.mks.sound.rd _ ha;have hp:=DB X;have M:=QD X;have hs:=c.sum hn hR;have h0:=GA v (O.take j);have hpos:=c.pos
 have J:∀m:Nat,(m:Int)<v.osz O[j]->v'.ldE (t+m)=0:=λm hm=>by
  rw[h.sm.ldE];have hl:=place_lt v hj hm;have:=c.map (to+(AH v (O.take j)).toNat+m) Ω Ω;rw[<-this];congr 1;omega
 have Z:=h.raw j hj 0 Ω (λhT=>absurd hT.1 Ω);have Y:=J 0 Ω;rw[show t+(0:Nat)=t by omega]at Y;rw[show (to:Int)+AH v (O.take j)+(0:Nat)=t by omega,show O[j]+(0:Nat)=O[j]by omega]at Z
 have hE:v'.rdE t=0:=by
  have h1:=X;unfold Vm.rdE at h1⊢;rw[ψ Ω,ψ Ω,θ Y,Z];rw[ψ Ω,ψ Ω]at h1
  split at h1
  ·exact h1
  ·rename_i hx;exact absurd h1 hx
 have hH:v'.rdH t=v.rdH O[j]:=by
  have h1:=(FW X).2.1;unfold Vm.rdH;rw[θ ⟨by omega,Y⟩,θ ⟨by omega,h1⟩,Z]
 refine⟨hE,hH,λhjk m hm1 hm2=>?_,λm hm=>?_⟩
 ·have U:((m+1:Nat):Int)<v.osz O[j]:=Ω
  have hr:=h.raw j hj (m+1) U (λhT=>by
   obtain⟨-,h2|h2⟩:=hT <;> omega)
  have hl:=J (m+1) U;rw[show (to:Int)+AH v (O.take j)+(m+1:Nat)=t+1+m by omega,show O[j]+(m+1:Nat)=O[j]+1+m by omega]at hr;rw[show t+((m+1:Nat):Int)=t+1+m by omega]at hl;have V:=JS (c.mks.sound.pt _ ha m hm2);have:=Xm6 (v:=v') (a:=t) (i:=m) hE (by rw[hH];exact hm2) hl (by rw[hr];exact V.2.1);refine⟨this.1,?_⟩;rw[(JS this.1).1,hr]
 ·have hl:=J (m+1) Ω;rw[show t+((m+1:Nat):Int)=t+1+m by omega]at hl;refine⟨?_,hl⟩;unfold Vm.plE;rw[ψ Ω,hH,θ (QF Ω hm M.2)]
theorem Cpd.set(c:DF v rs L to)(hn:O.Nodup)(hR:∀a∈O,Rch v rs a)(h:Cpd v v' to O k i)(hK:LA v O k i)(hk:k<O.length){t:Int}(ht:t=to+AH v (O.take k))(hi:(i:Int)<(v.rdH O[k]).p)
  (hx:(v.ldV (O[k]+1+i):Int)=0\/(v.ldV (O[k]+1+i):Int)∈O)  (hxx:(x:Int)=BQ v O to (v.ldV (O[k]+1+i))) (hx2:x<18446744073709551616):
  Cpd v (v'.st (t+1+i) x) to O k (i+1)/\LA v O k (i+1):=by
 have ha:=hR _ (μ hk);have Y:=c.mks.sound.rd _ ha;have hpp:=QD Y;have h0:=GA v (O.take k);have hl:=((Cpd.copy c hn hR h hk ht).2.2.2 i hi).2;have X:=h.ok.st_ldV x hl;have hpl:=place_lt v hk (m:=i+1) Ω
 have hT:∀j m:Nat,Trn v O k (i+1) j m↔Trn v O k i j m\/(j=k/\m=i+1):=λj m=>by
  constructor
  ·rintro⟨h1,h2|h2⟩
   ·exact .inl ⟨h1,.inl h2⟩
   ·rcases υ i m with h3|h3
    ·exact .inr Ω
    ·exact .inl ⟨h1,.inr Ω⟩
  ·rintro(⟨h1,h2|h2⟩|⟨h1,h2⟩)
   ·exact⟨h1,.inl h2⟩
   ·exact⟨h1,.inr Ω⟩
   ·exact⟨by omega,.inr Ω⟩
 refine⟨⟨h.ok.st _ hx2,h.sm.trans (BM.st _ _ _),λb hb=>?_,λj hj m hm hnT=>?_,λj hj m hm hTT=>?_⟩,λj hj m hm hTT=>?_⟩
 ·rw[X,ψ Ω];exact h.o b hb
 ·have Z:¬(j=k/\m=i+1):=λe=>hnT ((hT j m).2 (.inr e));rw[X,ψ (λe=>Z (YV v hj hk hm (m':=i+1) Ω Ω))];exact h.raw j hj m hm (λh'=>hnT ((hT j m).2 (.inl h')))
 ·by_cases e:j=k/\m=i+1
  ·obtain⟨rfl,rfl⟩:=e;rw[X,θ Ω,show O[j]+((i+1:Nat):Int)=O[j]+1+i by omega];exact hxx
  ·rw[X,ψ (λe'=>e (YV v hj hk hm (m':=i+1) Ω Ω))];exact h.trn j hj m hm (((hT j m).1 hTT).resolve_right e)
 ·by_cases e:j=k/\m=i+1
  ·obtain⟨rfl,rfl⟩:=e;rw[show O[j]+((i+1:Nat):Int)=O[j]+1+i by omega];exact hx
  ·exact hK j hj m hm (((hT j m).1 hTT).resolve_right e)
theorem UP(hk:k<O.length)(hi:(i:Int)=(v.rdH O[k]).p)(j m:Nat):Trn v O (k+1) 0 j m↔Trn v O k i j m:=by
 have e:O.getD k 0=O[k]:=by simp_all
 constructor
 ·rintro⟨h1,h2|h2⟩
  ·rcases υ j k with h3|h3
   ·exact⟨h1,.inl ⟨h3,h2.2⟩⟩
   ·obtain rfl:j=k:=Ω
    rw[e]at h2;exact⟨h1,.inr ⟨rfl,by omega⟩⟩
  ·omega
 ·rintro⟨h1,h2|h2⟩
  ·exact⟨h1,.inl ⟨by omega,h2.2⟩⟩
  ·obtain⟨rfl,h3⟩:=h2;exact⟨h1,.inl ⟨by omega,by rw[e];omega⟩⟩
theorem Cpd.next(h:Cpd v v' to O k i)(hK:LA v O k i)(hk:k<O.length)(hi:(i:Int)=(v.rdH O[k]).p):Cpd v v' to O (k+1) 0/\LA v O (k+1) 0:=
 ⟨⟨h.ok,h.sm,h.o,λj hj m hm hT=>h.raw j hj m hm (λh'=>hT ((UP hk hi j m).2 h')),λj hj m hm hT=>h.trn j hj m hm ((UP hk hi j m).1 hT)⟩,λj hj m hm hT=>hK j hj m hm ((UP hk hi j m).1 hT)⟩
theorem VqB(hR:∀a∈O,Rch v rs a){l:List Int}(hl:∀a∈l,a≠0->Rch v rs a):∀a∈DE O l,Rch v rs a:=λa ha=>by
 rcases RL.1 ha with h|⟨h,h0⟩
 ·exact hR a h
 simp_all
theorem JKk(c:DF v rs L to){b:Int}(hb:Rch v rs b):∀a∈DI v b,a≠0->Rch v rs a:=λa ha h0=>by
 obtain⟨i,hi,rfl⟩:=ζo ha;rw[WO]at h0⊢;rw[S7]at hi;have Y:=c.mks.sound.rd _ hb;have X:=c.mks.sound.pt _ hb i Ω;have he:=JS X;exact hb.step ⟨Y,i,by omega,X,by omega,by rw[he.1]⟩
theorem Z8(c:DF v rs L to)(k:Nat):∀a∈AR v rs k,Rch v rs a:=by
 induction k with
 | zero=>exact VqB (λa h=>by cases h) (λa ha h0=>Rch.root ha h0)
 | succ k ih=>
  unfold AR
  grind [VqB,JKk,η,μ]
theorem UT(v:Vm)(rs:List Int)(k:Nat):∃X,AR v rs (k+1)=AR v rs k++X:=by
 show ∃X,(if k<(AR v rs k).length then DE (AR v rs k) (DI v ((AR v rs k).getD k 0))else AR v rs k)=AR v rs k++X
 split
 ·exact VV _ _
 simp_all
theorem YFK(v:Vm)(rs:List Int)(k:Nat):∀j,j<k->∀(hj:j<(AR v rs k).length),∀b∈DI v (AR v rs k)[j],b≠0->b∈AR v rs k:=by
 induction k with
 | zero=>omega
 | succ k ih=>
  intro j hjk hj b hb h0;by_cases hlt:k<(AR v rs k).length
  ·have e:AR v rs (k+1)=DE (AR v rs k) (DI v ((AR v rs k).getD k 0)):=by
    show (if _ then _ else _)=_
    simp_all
   obtain⟨X,hX⟩:=VV (AR v rs k) (DI v ((AR v rs k).getD k 0));have hjl:j<(AR v rs k).length:=Ω
   have e1:(AR v rs (k+1))[j]=(AR v rs k)[j]:=by
    simp_all
   rw[e1]at hb;rw[e];rcases υ j k with h1|h1
   ·grind
   ·obtain rfl:j=k:=Ω
    refine RL.2 (.inr ⟨?_,h0⟩)
    simp_all
  ·have e:AR v rs (k+1)=AR v rs k:=by
    show (if _ then _ else _)=_
    grind
   grind
theorem Zqu(v:Vm)(rs:List Int)(k:Nat):∀r∈rs,r≠0->r∈AR v rs k:=by
 induction k with
 | zero=>exact λr hr h0=>RL.2 (.inr ⟨hr,h0⟩)
 | succ k ih=>
  intro r hr h0;obtain⟨X,hX⟩:=UT v rs k
  simp_all
theorem DF.done(c:DF v rs L to)(hk:k=(AR v rs k).length):(∀a,Rch v rs a->a∈AR v rs k)/\AH v (AR v rs k)=sizes L:=by
 have X:∀a,Rch v rs a->a∈AR v rs k:=λa ha=>by
  refine(ha (λb=>b∈AR v rs k/\Rch v rs b) (λr hr h0=>⟨Zqu v rs k r hr h0,Rch.root hr h0⟩) ?_).1;rintro x y ⟨hx,Y⟩ hp;refine⟨?_,Y.step hp⟩;obtain⟨-,i,hi,h0,h1,rfl⟩:=hp;obtain⟨j,hj,rfl⟩:=ζo hx;have he:=JS h0;have hpp:=QD (c.mks.sound.rd _ Y);refine YFK v rs k j Ω hj _ ?_ Ω;rw[he.1];have Z:i<(DI v (AR v rs k)[j]).length:=by rw[S7];omega
  rw[<-WO v _ Z]
  grind
 refine⟨X,?_⟩;have h1:=c.sum (Zh5 v rs k) (Z8 c k);have h2:=VJ9 (v:=v) (λo ho=>(c.mks.mkd.ats o ho).2.2) c.mks.mkd.good.lt (O:=AR v rs k) (λo ho=>X _ (c.mks.mkd.ats o ho).1);omega
end
structure IW(v v':Vm):Prop where
 n:v'.n=v.n
 le:∀a:Int,v.ldE a=0->v'.ldE a=0/\v'.ldV a=v.ldV a
theorem BR.wider{F:List Nat}(h:BR v v' F)(hv:AE v):IW v v':=by
 refine⟨h.n,λa ha=>?_⟩;obtain⟨h0,h1⟩:=J4 ha;obtain⟨j,rfl⟩:∃j:Nat,a=j:=⟨a.toNat,by omega⟩;have hj:j<v.n:=Ω
 have hn:¬j/v.pl.pg∈F:=λhm=>by
  rw[hv.ldE_of hj,θ (h.un _ hm).2]at ha;cases ha
 rw[h.ldE hv hj,h.vl j hj,ψ hn,ψ hn];omega
theorem IW.rd(h:IW v v')(hr:v.rdE a=0):v'.rdE a=0/\v'.rdH a=v.rdH a:=by
 obtain⟨h0,h1,-⟩:=FW hr;obtain⟨e1,e2⟩:=h.le a h1;unfold Vm.rdE at hr⊢;rw[ψ Ω,ψ Ω,θ h1]at hr;refine⟨by grind,?_⟩;unfold Vm.rdH
 simp_all
theorem IW.pt(h:IW v v')(hr:v.rdE a=0)(hi:(i:Int)<(v.rdH a).p)(hp:v.ptE a i=0):v'.ptE a i=0/\v'.ptV a i=v.ptV a i:=by
 obtain⟨e1,e2⟩:=h.rd hr;have X:=JS hp;obtain⟨e3,e4⟩:=h.le _ X.2.2.1;have:=Xm6 (v:=v') (a:=a) (i:=i) e1 (by simp_all) e3 Ω;exact⟨this.1,by rw[(JS this.1).1,X.1,e4]⟩
theorem IW.rch(h:IW v v')(hS:CC v rs n)(a:Int):Rch v' rs a↔Rch v rs a:=by
 constructor
 ·intro ha;refine ha (λb=>Rch v rs b) (λr hr h0=>Rch.root hr h0) ?_;rintro b c hb ⟨-,i,hi,h0,h1,rfl⟩;have X:=hS.rd b hb;rw[(h.rd X).2]at hi;have hp:=h.pt X hi (hS.pt b hb i hi);rw[hp.2]at h1⊢;exact hb.step ⟨X,i,hi,hS.pt b hb i hi,h1,rfl⟩
 ·intro ha;refine(ha (λb=>Rch v' rs b/\Rch v rs b) (λr hr h0=>⟨Rch.root hr h0,Rch.root hr h0⟩) ?_).1;rintro b c ⟨hb,Y⟩ hp;refine⟨?_,Y.step hp⟩;obtain⟨X,i,hi,h0,h1,rfl⟩:=hp;have hp:=h.pt X hi h0;rw[<-hp.2];exact hb.step ⟨(h.rd X).1,i,by rw[(h.rd X).2];exact hi,hp.1,by omega,rfl⟩
theorem IW.marks(h:IW v v')(hM:BF v rs n L):BF v' rs n L:=by
 have hS:=hM.sound;refine⟨⟨hM.mkd.good,λo ho=>?_⟩,λa ha=>hM.all a ((h.rch hS a).1 ha),λo ho i hi=>?_⟩
 ·obtain⟨h1,h2,h3⟩:=hM.mkd.ats o ho;obtain⟨e1,e2⟩:=h.rd h2;exact⟨(h.rch hS _).2 h1,e1,by rw[h3];unfold Vm.osz;rw[e2]⟩
 ·obtain⟨h1,h2,-⟩:=hM.mkd.ats o ho;rw[(h.rd h2).2]at hi;obtain⟨c1,c2⟩:=hM.cl o ho i hi;have hp:=h.pt h2 hi c1
  simp_all
def umN(v:Vm)(q0:Nat):Nat->Vm
 | 0=>v
 | k+1=>(umN v q0 k).um ((q0+k:Nat):Int)
theorem YY(v:Vm)(p:Int):(v.um p).n=v.n/\(v.um p).pl.pg=v.pl.pg/\(v.um p).pl.rm=v.pl.rm/\(v.um p).pt.length=v.pt.length:=by
 unfold Vm.um
 split
 ·exact⟨rfl,rfl,rfl,ω⟩
 omega
theorem LU(v:Vm)(q0 k:Nat):(umN v q0 k).n=v.n/\(umN v q0 k).pl.pg=v.pl.pg/\(umN v q0 k).pl.rm=v.pl.rm/\(umN v q0 k).pt.length=v.pt.length:=by
 induction k with
 | zero=>exact⟨rfl,rfl,rfl,rfl⟩
 | succ k ih=>
  obtain⟨h1,h2,h3,h4⟩:=YY (umN v q0 k) ((q0+k:Nat):Int);exact⟨h1.trans ih.1,h2.trans ih.2.1,h3.trans ih.2.2.1,h4.trans ih.2.2.2⟩
theorem PN(h:AE v)(q0 k:Nat):AE (umN v q0 k):=by
 induction k with
 | zero=>exact h
 | succ k ih=>exact ih.um _
theorem VG(h:AE v)(q0 k:Nat){a:Nat}(ha:a<v.n):(umN v q0 k).ldE a=if q0<=a/v.pl.pg/\a/v.pl.pg<q0+k then 12 else v.ldE a:=by
 induction k with
 | zero=>rw[ψ Ω];rfl
 | succ k ih=>
  obtain⟨s1,s2,-,s4⟩:=LU v q0 k;have X:=PN h q0 k
  show ((umN v q0 k).um ((q0+k:Nat):Int)).ldE a=_
  by_cases hf:frE (umN v q0 k).pt ((q0+k:Nat):Int)=0
  ·rw[X.um_ldE hf Ω,s2,ih];omega
  ·rw[QA hf];by_cases e:a/v.pl.pg=q0+k
   ·have h1:=X.ldE_of (a:=a) Ω;rw[s2,e]at h1;have hl:q0+k<(umN v q0 k).pt.length:=by rw[s4,<-e];exact(h.split ha).1
    rw[L4 hl]at hf;omega
   omega
theorem VIn(h:AE v)(q0 k:Nat){a:Nat}(ha:a<v.n)(hn:¬(q0<=a/v.pl.pg/\a/v.pl.pg<q0+k)):(umN v q0 k).ldV a=v.ldV a:=by
 induction k with
 | zero=>rfl
 | succ k ih=>
  obtain⟨s1,s2,-,-⟩:=LU v q0 k;have X:=PN h q0 k
  show ((umN v q0 k).um ((q0+k:Nat):Int)).ldV a=_
  by_cases hf:frE (umN v q0 k).pt ((q0+k:Nat):Int)=0
  ·rw[X.um_ldV hf Ω (by grind)];omega
  grind [QA]
open Classical in
theorem CC.ex(hS:CC v rs n):∃L,BF v rs n L:=by
 have V:∀a,Rch v rs a->∃j:Nat,j<n/\(j:Int)=a:=λa ha=>by
  have h1:=hS.rm a ha;have h2:=DB (hS.rd a ha);exact⟨a.toNat,by omega,by omega⟩
 obtain⟨M,hM⟩:∃M,M=((List.range n).filter (λj=>decide (Rch v rs ((j:Nat):Int)))).map (λj=>(j,(v.osz ((j:Nat):Int)).toNat)):=⟨_,rfl⟩
 have X:∀o∈M,∃j:Nat,j<n/\Rch v rs (j:Int)/\o=(j,(v.osz ((j:Nat):Int)).toNat):=λo ho=>by
  rw[hM]at ho;obtain⟨j,hj,rfl⟩:=ξl.1 ho;obtain⟨h1,h2⟩:=ξ9.1 hj;exact⟨j,ξi.1 h1,of_decide_eq_true h2,rfl⟩
 have J:∀a,Rch v rs a->Hs M a:=λa ha=>by
  obtain⟨j,hj,rfl⟩:=V a ha;exact⟨(j,(v.osz ((j:Nat):Int)).toNat),by rw[hM];exact ξl.2 ⟨j,ξ9.2 ⟨ξi.2 hj,φ ha⟩,rfl⟩,rfl⟩
 refine⟨M,⟨⟨⟨?_,λo ho=>?_⟩,λo ho=>?_⟩,J,λo ho=>?_⟩⟩
 ·rw[hM,ψd];refine ξX ?_ (List.Pairwise.filter _ List.pairwise_lt_range);intro i j hi hj hij;have U:=of_decide_eq_true (ξ9.1 hi).2;have Z:=of_decide_eq_true (ξ9.1 hj).2;have h1:=DB (hS.rd _ U);have h2:=DB (hS.rd _ Z);rcases hS.dj _ _ U Z with e|e|e
  ·omega
  ·omega
  ·omega
 ·obtain⟨j,hj,hr,rfl⟩:=X o ho;have h1:=hS.rm _ hr;have h2:=DB (hS.rd _ hr);omega
 ·obtain⟨j,hj,hr,rfl⟩:=X o ho;have h2:=DB (hS.rd _ hr);exact⟨hr,hS.rd _ hr,by dsimp only;omega⟩
 ·obtain⟨j,hj,hr,rfl⟩:=X o ho;intro i hi;have Y:=hS.pt _ hr i hi;exact⟨Y,λh0=>J _ (hr.step ⟨hS.rd _ hr,i,hi,Y,h0,rfl⟩)⟩
theorem Img.marks(h:Img v g F lo hi)(ho:g.Ok)(hn:hi<=n):∃L,BF v (g.S.map λx=>(F x:Int)) n L:=by
 have hS:=h.sound ho;exact CC.ex ⟨hS.rd,hS.pt,λa ha=>by have:=hS.rm a ha;omega,hS.dj⟩
theorem Img.full(h:Img v g F lo hi)(ho:g.Ok)(hM:BF v (g.S.map λx=>(F x:Int)) n L):FN v L:=λo hoL m hm=>by
 obtain⟨h1,h2,h3⟩:=hM.mkd.ats o hoL;obtain⟨x,hx,e⟩:=h.rch ho h1;rw[e,h.osz ho hx]at h3;have h3:o.2=(g.ob x).size:=Ω
 rw[e];rcases ζE m with rfl|hp
 ·have:=(Q1 (h.rd x hx)).2.1
  assumption
 ·obtain⟨i,rfl⟩:∃i,m=1+i:=⟨m-1,by omega⟩;have hi:i<(g.ob x).p+(g.ob x).f+(g.ob x).k:=by rw[h3]at hm;unfold GOb.size at hm;omega
  rcases υ i (g.ob x).p with X|X
  ·have:=(ND (h.pt x hx i X).1).2.2.1
   grind
  ·have:=(h.wd x hx i X hi).1
   grind
theorem Img.inn(h:Img v g F lo hi)(ho:g.Ok)(hM:BF v (g.S.map λx=>(F x:Int)) n L):∀o∈L,lo<=o.1/\o.1+o.2<=hi:=λo hoL=>by
 obtain⟨h1,h2,h3⟩:=hM.mkd.ats o hoL;obtain⟨x,hx,e⟩:=h.rch ho h1;rw[e,h.osz ho hx]at h3;have:=h.lo x hx;omega
def Gph.words(g:Gph):Nat:=(g.all.map λx=>(g.ob x).size).sum
theorem Img.sum(h:Img v g F lo hi)(ho:g.Ok):∀l:List Nat,(∀x∈l,g.Rd x)->AH v (l.map λx=>(F x:Int))=((l.map λx=>(g.ob x).size).sum:Nat)
 | [],_=>rfl
 | x :: l,hl=>by
  have h1:=h.sum ho l (λy hy=>hl y (ζk _ hy));simp only[ξp,AH,List.sum_cons];rw[h1,h.osz ho (hl x ζh)];omega
theorem Img.words(h:Img v g F lo hi)(ho:g.Ok)(hM:BF v (g.S.map λx=>(F x:Int)) n L):sizes L=g.words:=by
 have hz:∀o∈L,(o.2:Int)=v.osz o.1:=λo hoL=>(hM.mkd.ats o hoL).2.2;have X:∀x∈g.all,g.Rd x:=λx hx=>ho.mem_all.1 hx;have hsum:=h.sum ho g.all X
 have Z:(g.all.map λx=>(F x:Int)).Nodup:=by
  have h1:=(XD g.pts g.L.length g.S).1;rw[List.Nodup,ψd];refine ξX ?_ h1;intro a b ha hb Y e;exact Y (h.inj (X a ha) (X b hb) Ω)
 have h1:AH v (g.all.map λx=>(F x:Int))<=sizes L:=XaN hz Z (λa ha=>by
  obtain⟨x,hx,rfl⟩:=ξl.1 ha
  exact hM.all _ (h.rch_of (X x hx)))
 have h2:(sizes L:Int)<=AH v (g.all.map λx=>(F x:Int)):=VJ9 hz (hM.mkd.good.pw.imp_of_mem (λ{a b} ha hb Y=>by have:=(hM.mkd.good.sz a ha).1;omega)) (λo hoL=>by
  obtain⟨x,hx,e⟩:=h.rch ho (hM.mkd.ats o hoL).1
  exact ξl.2 ⟨x,ho.mem_all.2 hx,e.symm⟩)
 unfold Gph.words;omega
theorem Img.nodup(h:Img v g F lo hi)(ho:g.Ok):(g.all.map λx=>(F x:Int)).Nodup:=by
 have h1:=(XD g.pts g.L.length g.S).1;rw[List.Nodup,ψd];refine ξX ?_ h1;intro a b ha hb X e;exact X (h.inj (ho.mem_all.1 ha) (ho.mem_all.1 hb) Ω)
theorem Img.count(h:Img v g F lo hi)(ho:g.Ok)(hM:BF v (g.S.map λx=>(F x:Int)) n L):L.length=g.all.length:=by
 have hd:(L.map λo=>(o.1:Int)).Nodup:=by
  rw[List.Nodup,ψd];refine ξX ?_ hM.mkd.good.pw;intro a b ha hb hab e;have:=(hM.mkd.good.sz a ha).1;omega
 have h1:=hd.length_le_of_subset (l₂:=g.all.map λx=>(F x:Int)) (λa ha=>by
  obtain⟨o,X,rfl⟩:=ξl.1 ha;obtain⟨x,hx,e⟩:=h.rch ho (hM.mkd.ats o X).1
  exact ξl.2 ⟨x,ho.mem_all.2 hx,e.symm⟩)
 have h2:=(h.nodup ho).length_le_of_subset (l₂:=L.map λo=>(o.1:Int)) (λa ha=>by
  obtain⟨x,hx,rfl⟩:=ξl.1 ha;obtain⟨o,X,e⟩:=hM.all _ (h.rch_of (ho.mem_all.1 hx))
  grind)
 grind
def lv(B:Nat):List Nat->Nat
 | []=>0
 | x :: xs=>x+B*lv B xs
def sgN:Nat:=9223372036854775808
def E9(a b:Nat):Bool:=if decide (sgN<=a) !=decide (sgN<=b)then decide (sgN<=a)else if sgN<=a then decide (b<a)else decide (a<b)
def Gph.sl(g:Gph)(a:Int):Bool:=decide (0<=a)&&decide (a<g.S.length)
def Gph.at(g:Gph)(a:Int):Nat:=g.S.getD a.toNat 0
def Gph.fdE(g:Gph)(a i kd:Int):Int:=
 if g.sl a then (if g.at a=0 then 18 else if BK (g.ob (g.at a)).hdr i=0 then 19 else if BK (g.ob (g.at a)).hdr i=kd then 0 else 20)else 17
def Gph.fdV(g:Gph)(a i kd:Int):Nat:=if g.fdE a i kd=0 then (g.ob (g.at a)).w.getD i.toNat 0 else 0
def Gph.setSl(g:Gph)(a:Int)(y:Nat):Gph:=⟨g.L,g.S.set a.toNat y⟩
def Gph.setFd(g:Gph)(a i:Int)(y:Nat):Gph:=g.put (g.at a) i.toNat y
def Gph.alE(C:Nat)(g:Gph)(a:Int)(h:Hdr):Int:=if g.sl a then (if CP h≠0 then 15 else if (C:Int)<g.words+B9 h then 21 else 0)else 17
def Gph.alG(C:Nat)(g:Gph)(a:Int)(h:Hdr):Gph:=if g.alE C a h=0 then g.add a.toNat h.p.toNat h.f.toNat h.k.toNat else g
def Gph.two(g:Gph)(a b:Int)(e:Int):Int:=if g.sl a&&g.sl b then e else 17
def Gph.loE(g:Gph)(a b i:Int):Int:=g.two a b (g.fdE b i 1)
def Gph.loG(g:Gph)(a b i:Int):Gph:=if g.loE a b i=0 then g.setSl a (g.fdV b i 1)else g
def Gph.stE(g:Gph)(a i b:Int):Int:=g.two a b (g.fdE a i 1)
def Gph.stG(g:Gph)(a i b:Int):Gph:=if g.stE a i b=0 then g.setFd a i (g.at b)else g
def Gph.wrG(g:Gph)(a i kd:Int)(y:Nat):Gph:=if g.fdE a i kd=0 then g.setFd a i y else g
def Gph.cpG(g:Gph)(a b:Int):Gph:=if g.sl a&&g.sl b then g.setSl a (g.at b)else g
def Gph.clG(g:Gph)(a:Int):Gph:=if g.sl a then g.setSl a 0 else g
def Gph.slE(g:Gph)(a:Int):Int:=if g.sl a then 0 else 17
def Gph.shE(g:Gph)(a:Int):Int:=if g.sl a then (if g.at a=0 then 18 else 0)else 17
def Gph.shH(g:Gph)(a:Int):Hdr:=if g.shE a=0 then (g.ob (g.at a)).hdr else ⟨0,0,0⟩
open Go.ChangeShapes Go.WideShapes Go.ChangeAt
theorem ZO3:prog.cellsOf 31=1:=by kernel_rfl
theorem QmK:prog.cellsOf 3=1:=by kernel_rfl
section
variable{enc:TypeId × Value->H}{P:Program}{base:Nat}{t:TypeId}{x:DataW H × List MemPlace}
theorem VUD{k:FloatKind}(ht:P.underlying t=some (.float k))(h:DataW.trod enc P w base spare held fuel t cs=some x):∃n,cs=[.float k n]/\(Lit.float k n).wf=true:=by
 cases fuel with
 | zero=>simp[DataW.trod]at h
 | succ n=>
  unfold DataW.trod at h;rw[ht]at h
  split at h <;> simp_all
theorem JV{l:List Value}{v:Value}(h:(l.drop j).take 1=[v]):l[j]?=some v:=by
 have:((l.drop j).take 1)[0]?=some v:=by rw[h];rfl
 simpa using this
end
section
variable{enc:TypeId × Value->H}{base:Nat}{x:DataW H × List MemPlace}
end
def nbl(n B:Nat):Nat:=(n+B-1)/B
theorem QnL(hB:1<=B)(h1:n<=j*B)(h2:∀i,i<j->i*B<n):nbl n B=j:=by
 refine Nat.div_eq_of_lt_le ?_ ?_
 ·cases j with
  | zero=>simp
  | succ i=>
   have:=h2 i Ω
   grind
 grind
theorem IS(hB:1<=B):j<nbl n B↔j*B<n:=by
 unfold nbl
 grind [ξb,ξj]
structure Idx(w:World)(x p b a:Nat)(l:List Bool)(B:Nat):Prop where
 vec:A7 w p b l
 b1:1<=B
 b2:B<=1024
 hx:x<w.heap.size
 ha:a<w.heap.size
 c0:w.cell? ⟨x,0,none⟩=some (pP p)
 c1:∃cap,w.cell? ⟨x,1,none⟩=some (.slice (some ⟨a,0,none⟩) (nbl l.length B) cap)
 c2:w.cell? ⟨x,2,none⟩=some (iI B)
 c3:w.cell? ⟨x,3,none⟩=some (iI (cnt (at_ l) l.length:Nat))
 ca:∀j,j<nbl l.length B->w.cell? ⟨a,j,none⟩=some (iI (cnt (at_ l) (j*B):Nat))
theorem Idx.touch{a:Nat}(h:Idx w x p b a l B)(t:AB S w w')(h1:¬S x)(h2:¬S p)(h3:¬S b)(h4:¬S a):Idx w' x p b a l B:=by
 obtain⟨X,hc⟩:=h.c1
 exact⟨h.vec.touch t h2 h3,h.b1,h.b2,κ h.hx t.size,κ h.ha t.size,by rw[t.cell h.hx h1];exact h.c0,⟨X,by rw[t.cell h.hx h1];exact hc⟩,by rw[t.cell h.hx h1];exact h.c2,
  by rw[t.cell h.hx h1];exact h.c3,λj hj=>by rw[t.cell h.ha h4];exact h.ca j hj⟩
theorem Idx.gr{a:Nat}(h:Idx w x p b a l B)(t:Gr w w'):Idx w' x p b a l B:=h.touch (t.touch (λ_=>False)) (λh=>h) (λh=>h) (λh=>h) (λh=>h)
theorem LL(h:1<=B):nbl n B<=n:=by
 rcases υ n (nbl n B)with h1|h1
 ·have:=(IS h).1 h1;have h2:n*1<=n*B:=Nat.mul_le_mul_left n h;omega
 ·exact h1
theorem ZsP{a:Nat}(hX:Idx w x p b a l B):
  cQ 216 #[pP x] w (iI (cnt (at_ l) l.length:Nat)):=by
 have c3:=hX.c3;go_enter func216,ntmps216;go_wp2;go_ret
 simp_all
theorem VlR(l:List Bool){b:Int}(h:b<=0):DL l 0 b=0:=by
 rw[JK];unfold ED;have:cnt (λi=>decide ((0:Int)<=(i:Nat)/\((i:Nat):Int)<b)&&at_ l i) l.length=cnt (λ_=>false) l.length:=CQ (λi _=>by grind);rw[this];generalize l.length=n
 induction n with
 | zero=>rfl
 | succ n ih=>grind [CN]
theorem Zde{a:Nat}(hX:Idx w x p b a l B)(i:Int):
  AY prog 220 #[pP x,iI i] w (iI (DL l 0 i:Nat)):=by
 have HX:=hX;have k0:=hX.c0;have k2:=hX.c2;have k3:=hX.c3;obtain⟨I,k1⟩:=hX.c1;have n2:=hX.vec.n2;unfold AY;by_cases h0:i<=0
 ·have d0:decide (i<=0)=true:=by simp[h0]
  rw[VlR l h0];go_enter func220,ntmps220;go_wp2;go_ret;exact⟨rfl,Gr.refl _⟩
 ·obtain⟨r,rfl⟩:∃r:Nat,i=r:=⟨i.toNat,by omega⟩;have hr:0<r:=Ω
  have d0:decide ((r:Int)<=0)=false:=by simp;omega
  by_cases h1:l.length<=r
  ·have d1:decide (l.length<=r)=true:=by simp[h1]
   rw[Vbb l Ω];obtain⟨N,hN⟩:∃N,N=cnt (at_ l) l.length:=⟨_,rfl⟩;rw[<-hN]at k3⊢;clear hN k1 k2;go_enter func220,ntmps220;go_wp2_with(go_at_call 123;refine(IH HX.vec).mono ?_;rintro e w1 ⟨rfl,rfl⟩);go_ret;exact⟨rfl,Gr.refl _⟩
  ·have d1:decide (l.length<=r)=false:=by simp;omega
   obtain⟨j,hj⟩:∃j,j=r/B:=⟨_,rfl⟩;have hB:=HX.b1;have hB2:=HX.b2;have E:j*B<=r:=by rw[hj];exact ζj r B
   have J:j<nbl l.length B:=(IS hB).2 Ω;have ka:=HX.ca j J;have q1:((r:Int).tdiv (B:Int))=(j:Int):=by rw[hj];rfl
   have q2:((r:Int)/(B:Int))=(j:Int):=by rw[hj];rfl
   obtain⟨t,ht⟩:∃t,t=j*B:=⟨_,rfl⟩;have V:(j:Int)*(B:Int)=(t:Int):=Ω
   have hs:=V9n l (a:=0) (b:=(t:Int)) (c:=(r:Int)) Ω Ω;have hu:=UD l (r:=t) Ω;rw[<-ht]at ka;rw[hu]at hs;obtain⟨c1,U⟩:∃c,c=cnt (at_ l) t:=⟨_,rfl⟩;obtain⟨c2,X⟩:∃c,c=DL l (t:Int) (r:Int):=⟨_,rfl⟩;obtain⟨c3,Y⟩:∃c,c=DL l 0 (r:Int):=⟨_,rfl⟩;have hb1:c1<=1048576:=by grind [D0]
   have hb2:c2<=1048576:=by have:=D0 (VT l (t:Int) (r:Int)) l.length;unfold DL at X;omega
   rw[<-U]at ka hs;rw[<-X,<-Y]at hs;rw[<-Y];obtain⟨N,hN⟩:∃N,N=nbl l.length B:=⟨_,rfl⟩;rw[<-hN]at J k1;have HNn:=hN;have htb:(t:Int)<=1048576:=Ω
   have hBp:(B:Int)≠0:=Ω
   have H2:=X.symm;have HS:=hs;clear U X Y hN hj ht hu hs E k3;have hjb:(j:Int)<N:=Ω
   have hjl:j<=1048576:=by grind [LL]
   have w3:IntKind.i64.wrap ((j:Int)*(B:Int))=(t:Int):=by rw[V,ζt _ Ω]
   have w4:IntKind.i64.wrap ((c1:Int)+(c2:Int))=(c3:Int):=by rw[HS,ζt _ Ω]
   have z0:∀xs m,(grow w xs m).cell? ⟨x,0,none⟩=some (pP p):=λxs m=>((grown w xs m).cell HX.hx 0).trans k0;have z1:∀xs m,(grow w xs m).cell? ⟨x,1,none⟩=some (.slice (some ⟨a,0,none⟩) N I):=λxs m=>((grown w xs m).cell HX.hx 1).trans k1;have z2:∀xs m,(grow w xs m).cell? ⟨x,2,none⟩=some (iI B):=λxs m=>((grown w xs m).cell HX.hx 2).trans k2;have z4:∀xs m,(grow w xs m).cell? ⟨a,j,none⟩=some (iI c1):=λxs m=>((grown w xs m).cell HX.ha j).trans ka;go_enter func220,ntmps220;go_upto_region 6 with(go_at_call 123;refine(IH HX.vec).mono ?_;rintro e w1 ⟨rfl,rfl⟩);refine IV (by kernel_rfl) (by kernel_rfl) ?_
   repeat(go_big_quiet_step (first
    | (go_at_call 234;have hc:=λxs m=>V7Z (HX.vec.gr (grown w xs m)) (t:Int) (r:Int) Ω;simp only[H2]at hc;exact AY.grown (hc _ _))))
   refine ζb ?_;intro _ M;obtain⟨⟨xs,nq⟩,Z⟩:=M;subst Z;go_wp2;go_ret;exact⟨by simp_all,grown w _ _⟩
theorem Qza(g:FuncId)(b1 b2:Addr)(n:Nat)(hn:n<=1048576)(t:Nat->Bool)(w:World)
  (hg:∀args W,(callFunc g args).run prog W=.ok (.enter g args) W)
  (hm:∀i j,i<=j->j<n->t i=true->t j=true)
  (hf:∀i W,i<n->Gr w W->Calls prog g #[iI (i:Nat),.pointer (some b1),.pointer (some b2)] W (λe W'=>e=.returned (.bool (t i))/\Gr W W')):
  AY prog 240 #[iI n,.func (.func g) #[] #[.pointer (some b1),.pointer (some b2)]] w (iI (first t n:Nat)):=by
 have HF:=hf;have HM:=hm;unfold AY;go_enter func240,ntmps240;go_wp2
 go_loopw [5,6] (λx y wr=>∃lo hi:Nat,lo<=hi/\hi<=n/\Hid (∀i,i<lo->t i=false)/\Hid (hi<n->t hi=true)/\Hid (Gr w wr)/\x=iI lo/\y=iI hi) (λx y _=>(intOf y).toNat-(intOf x).toNat)
 case atStart=>exact⟨0,n,by omega,by omega,⟨λi h=>by omega⟩,⟨λh=>by omega⟩,⟨Gr.refl _⟩,rfl,rfl⟩
 case round=>
  obtain⟨lo,hi,h1,h2,hl,hh,hG,rfl,rfl⟩:=hrel;by_cases hlt:lo<hi
  ·obtain⟨m,Y⟩:∃m,m=(lo+hi)/2:=⟨_,rfl⟩;have hm1:lo<=m/\m<hi:=Ω
   have q1:((lo:Int)+(hi:Int))/2=(m:Int):=Ω
   clear Y;cases ht:t m with
   | false=>
    have HC:=(HF m wr Ω hG.o);have HN:=ht;go_wp2_with(refine HC.mono ?_;rintro e W2 ⟨rfl,h2⟩;rw[HN];have X:=ι (hG.o.trans h2);clear h2);go_roundw
    case rel=>
     refine⟨m+1,hi,by omega,by omega,⟨λi hi'=>?_⟩,hh,X,by go_num,rfl⟩;cases hti:t i with
     | false=>rfl
     | true=>have:=HM i m Ω Ω hti;rw[HN]at this;cases this
    case measure=>simp[intOf];omega
   | true=>
    have HC:=(HF m wr Ω hG.o);have HN:=ht;go_wp2_with(refine HC.mono ?_;rintro e W2 ⟨rfl,h2⟩;rw[HN];have X:=ι (hG.o.trans h2);clear h2);go_roundw
    case rel=>exact⟨lo,m,by omega,by omega,hl,⟨λ_=>HN⟩,X,rfl,by go_num⟩
    case measure=>simp[intOf];omega
  ·obtain rfl:lo=hi:=Ω
   have E:=(F6 h2 hl.o hh.o);go_wp2;go_ret;exact⟨AM (by rw[E]),hG.o⟩
theorem Y5(l:List Bool){a:Nat}(h:cnt (at_ l) a=q):BN l (a:Int)=CU l q:=by
 obtain⟨j,hj⟩:∃j,j=BN l (a:Int):=⟨_,rfl⟩;have hle:j<=l.length:=by rw[hj];exact GN _ _
 have hno:∀i,i<j->¬(at_ l i=true/\a<=i):=λi hi hc=>by
  have:=H8 (λi=>at_ l i&&decide ((a:Int)<=i)) l.length i (by rw[hj]at hi;exact hi)
  simp_all
 rw[<-hj];rcases υ j l.length with X|hge
 ·have hat:=GH (λi=>at_ l i&&decide ((a:Int)<=i)) l.length (by rw[hj]at X;exact X)
  have Y:at_ l j=true/\(a:Int)<=j:=by
   have e:first (λi=>at_ l i&&decide ((a:Int)<=i)) l.length=j:=hj.symm
   simp_all
  have hc:cnt (at_ l) j=q:=by
   grind [OV]
  exact(XF X Y.1 hc).symm
 grind [υ,OV,SE,VZZ]
theorem Z7T(h:q<cnt (at_ l) l.length):BN l ((CU l q:Int)+1)=CU l (q+1):=by
 obtain⟨h1,h2,h3⟩:=XH h;have:=Y5 l (a:=CU l q+1) (q:=q+1) (by grind [CN])
 assumption
theorem VVz{a:Nat}(hX:Idx w x p b a l B)(bx bk:Addr)(k:Nat)(hbx:w.cell? bx=some (pP x))(hbk:w.cell? bk=some (iI k))
  (i:Nat) (hi:i<nbl l.length B):
  Calls prog 241 #[iI i,.pointer (some bx),.pointer (some bk)] w λe w'=>e=.returned (.bool (decide (k<cnt (at_ l) (i*B))))/\Gr w w':=by
 obtain⟨cap,c1⟩:=hX.c1;have ca:=hX.ca i hi;have hi0:(0:Int)<=(i:Int):=Ω
 go_enter func241,ntmps241;go_upto_region 1 with(fail);go_quiet (fail);go_wp2;go_ret;exact⟨Zbf (by simp),(Gr.refl w).drewN _⟩
theorem YDO(l:List Bool)(hB:1<=B)(hk:k<cnt (at_ l) l.length):
  ∃j,first (λi=>decide (k<cnt (at_ l) (i*B))) (nbl l.length B)=j+1/\j<nbl l.length B/\cnt (at_ l) (j*B)<=k:=by
 obtain⟨f,hf⟩:∃f,f=first (λi=>decide (k<cnt (at_ l) (i*B))) (nbl l.length B):=⟨_,rfl⟩
 have hle:f<=nbl l.length B:=by grind [GN]
 have hn:0<l.length:=by
  grind [ζE,LB]
 have hN:0<nbl l.length B:=(IS hB).2 Ω
 have h0:f≠0:=λh=>by
  have:=GH (λi=>decide (k<cnt (at_ l) (i*B))) (nbl l.length B) Ω;rw[<-hf,h]at this
  grind [LB]
 obtain⟨j,rfl⟩:∃j,f=j+1:=⟨f-1,by omega⟩;refine⟨j,hf.symm,by omega,?_⟩;have:=H8 (λi=>decide (k<cnt (at_ l) (i*B))) (nbl l.length B) j Ω
 simp_all
theorem SL(u v:Value)(T1 T2:TypeId):
  Gr w ((w.alloc (.cells #[u] T1)).alloc (.cells #[v] T2))/\((w.alloc (.cells #[u] T1)).alloc (.cells #[v] T2)).cell? ⟨w.heap.size,0,none⟩=some u/\((w.alloc (.cells #[u] T1)).alloc (.cells #[v] T2)).cell? ⟨w.heap.size+1,0,none⟩=some v:=by
 refine⟨((Gr.refl w).alloc _).alloc _,?_,?_⟩
 ·simp_all
 simp_all
theorem Zo5(x:Nat)(q:Int)(hq:q<0):AY prog 235 #[pP x,iI q] w (.tuple #[iI 0,.bool false]):=by
 go_enter func235,ntmps235;go_upto_region 1 with(fail);obtain⟨hg,c1,c2⟩:=SL (w:=w) (pP x) (iI q) 269 3;generalize (w.alloc (.cells #[.pointer (some ⟨x,0,none⟩)] 269)).alloc (.cells #[.int .i64 q] 3)=W2 at *
 go_quiet (fail);go_wp2;go_ret2;exact⟨BG rfl rfl,hg.drewN _⟩
theorem V1d{a:Nat}(hX:Idx w x p b a l B)(q:Nat)(hq:cnt (at_ l) l.length<=q):
  AY prog 235 #[pP x,iI q] w (.tuple #[iI 0,.bool false]):=by
 have k3:=hX.c3;have hx:=hX.hx;have d0:decide ((q:Int)<0)=false:=by simp
 go_enter func235,ntmps235;go_upto_region 1 with(fail);obtain⟨hg,c1,c2⟩:=SL (w:=w) (pP x) (iI q) 269 3;generalize (w.alloc (.cells #[.pointer (some ⟨x,0,none⟩)] 269)).alloc (.cells #[.int .i64 q] 3)=W2 at *
 have c3:=(hg.cell hx 3).trans k3;go_quiet (fail);go_wp2;go_ret2;exact⟨BG rfl rfl,hg.drewN _⟩
theorem Zrb(args:Array Value)(W:World):(callFunc 241 args).run prog W=.ok (.enter 241 args) W:=by kernel_rfl
theorem JlP{a:Nat}(hX:Idx w x p b a l B)(hT:AQ w)(k:Nat)(hk:k<cnt (at_ l) l.length):
  AY prog 235 #[pP x,iI k] w (.tuple #[iI (CU l k:Nat),.bool true]):=by
 have HX:=hX;have HT:=hT;have HK:=hk;obtain⟨j,E,V,Y⟩:=YDO l hX.b1 hk;obtain⟨N,hN⟩:∃N,N=cnt (at_ l) l.length:=⟨_,rfl⟩;have k0:=hX.c0;have k2:=hX.c2;have k3:=hX.c3;obtain⟨J,k1⟩:=hX.c1;have ka:=hX.ca j V;have hx:=hX.hx;have n2:=hX.vec.n2;have Xf:=LL (n:=l.length) hX.b1;have hb2:=hX.b2;rw[<-hN]at k3;have hNk:k<N:=by rw[hN];exact hk
 have Xc:N<=l.length:=by rw[hN];exact D0 _ _
 have d0:decide ((k:Int)<0)=false:=by simp
 have d1:decide (N<=k)=false:=by simp;omega
 have hkb:k<=1048576:=Ω
 have Xd:j*B<l.length:=(IS hX.b1).1 V;obtain⟨t,ht⟩:∃t,t=j*B:=⟨_,rfl⟩;rw[<-ht]at Xd ka Y;obtain⟨c,hc⟩:∃c,c=cnt (at_ l) t:=⟨_,rfl⟩;rw[<-hc]at ka Y;have hw3:IntKind.i64.wrap ((j:Int)*(B:Int))=(t:Int):=by rw[show (j:Int)*(B:Int)=(t:Int)by rw[ht,Int.natCast_mul],ζt _ Ω]
 have A:=(Y5 l hc.symm);have HP:Hid (∀n,n<=k->CU l n<l.length):=⟨λn hn=>(XH (l:=l) (q:=n) Ω).1⟩;have Xe:Hid (∀n,n<=k->BN l ((CU l n:Int)+1)=CU l (n+1)):=⟨λn hn=>Z7T Ω⟩;obtain⟨M,hM⟩:∃M,M=nbl l.length B:=⟨_,rfl⟩;have Xb:=E;rw[<-hM]at k1 V Xf;have HM:=ι hM;have hjM:(j:Int)<M:=Ω
 clear hX hk hN ht hc E hM hT Xc;unfold AY;go_enter func235,ntmps235;go_upto_region 1 with(fail);obtain⟨hg,c1,c2⟩:=SL (w:=w) (pP x) (iI k) 269 3;generalize (w.alloc (.cells #[.pointer (some ⟨x,0,none⟩)] 269)).alloc (.cells #[.int .i64 k] 3)=W2 at *
 have z0:=(hg.cell hx 0).trans k0;have z1:=(hg.cell hx 1).trans k1;have z2:=(hg.cell hx 2).trans k2;have z3:=(hg.cell hx 3).trans k3;have K1:=ι k1;clear k0 k1 k2 k3;have HG:=ι hg;have HC:=ι (ξ c1 c2);clear hg;go_quiet (fail)
 have HS:=ι (Qza 241 ⟨w.heap.size,0,none⟩ ⟨w.heap.size+1,0,none⟩ M Ω (λi=>decide (k<cnt (at_ l) (i*B))) (W2.drewN nq) Zrb
  (λi i' h1 h2 h3=>by
   have:=SE (at_ l) (ζi B h1)
   simp at h3⊢;omega)
  (λi W hi hgW=>VVz (HX.gr ((HG.o.drewN nq).trans hgW)) _ _ k (by
    rw[hgW.cell (b:=w.heap.size) (by have:=AT HC.o.1;exact this)];exact HC.o.1) (by
    rw[hgW.cell (b:=w.heap.size+1) (by have:=AT HC.o.2;exact this)];exact HC.o.2) i (by rw[<-HM.o];exact hi)))
 rw[HM.o,Xb,<-HM.o]at HS;have hmf:∀(fn:Fn) (first J:Array Value) (w:World),(Instr.makeFunc fn first J).run prog w=.ok (.func fn first J) w:=λ_ _ _ _=>rfl;go_upto_region 4 with(go_at_call 240;refine HS.o.mono ?_;rintro e W3 ⟨rfl,h3⟩;have X:=ι (HG.o.trans (((Gr.refl W2).drewN nq).trans h3));have y0:=(h3.cell (b:=w.heap.size) (AT HC.o.1) 0).trans HC.o.1;have y1:=(h3.cell (b:=w.heap.size+1) (AT HC.o.2) 0).trans HC.o.2;clear h3);have v0:=(X.o.cell hx 0).trans HX.c0;have v2:=(X.o.cell hx 2).trans HX.c2
 have v1:W3.cell? ⟨x,1,none⟩=some (.slice (some ⟨a,0,none⟩) M J):=by
  exact(X.o.cell hx 1).trans K1.o
 have va:W3.cell? ⟨a,j,none⟩=some (iI c):=(X.o.cell HX.ha j).trans ka;have I:=ι (HX.vec.gr X.o);have Z:=ι (X.o.tab HT.lt HT);have G:=HP.o c Y
 have HN:Hid (∀n,Calls prog 213 #[pP p,iI t] (W3.drewN n) λe w'=>e=.returned (.tuple #[iI (CU l c:Nat),.bool true])/\w'=W3.drewN n):=⟨λn=>
  (KB (I.o.gr ((Gr.refl W3).drewN n)) (((Gr.refl W3).drewN n).tab Z.o.lt Z.o) t).mono λe w' ⟨he,hw⟩=>⟨by rw[he,A,II G,φ G],hw.symm⟩⟩
 clear z0 z1 z2 z3 ka HS;go_quiet ((go_at_call 213;exact Calls.quiet_of_same (HN.o _)));go_wp2
 go_loop [7,9] (λs7 s9=>∃n:Nat,c<=n/\n<=k/\s7=iI (CU l n:Nat)/\s9=iI n) (λ_ s9=>k-(intOf s9).toNat)
 case atStart=>exact⟨c,ϑ _,Y,rfl,rfl⟩
 case round=>
  obtain⟨n,hn1,D,rfl,rfl⟩:=hrel;have hp:=HP.o n D;obtain⟨r,hr⟩:∃r,r=CU l n:=⟨_,rfl⟩;have HE:=Xe.o n D;rw[<-hr]at hp HE⊢;by_cases hlt:n<k
  ·have U:=HP.o (n+1) Ω;have Xa:=ι HE;have HR:=ι (ξ (II U) (φ U));clear hr HE U;go_wp2_with(go_at_call 213;refine(KB (I.o.gr ((Gr.refl W3).drewN _)) (((Gr.refl W3).drewN _).tab Z.o.lt Z.o) _).mono ?_;rintro e w' ⟨rfl,rfl⟩;rw[Xa.o,HR.o.1,HR.o.2]);go_round
   case rel=>exact⟨n+1,by omega,by omega,rfl,by go_num⟩
   case measure=>simp[intOf];omega
  ·obtain rfl:n=k:=Ω
   have HR:=ι hr;clear hr HE;go_wp2;go_ret2;exact⟨BG (by rw[HR.o];rfl) rfl,X.o.drewN _⟩
theorem Qax{a:Nat}(hX:Idx w x p b a l B)(hT:AQ w)(q:Int):
  AY prog 235 #[pP x,iI q] w (.tuple #[iI (J2 l q),.bool (MM l q)]):=by
 by_cases h:q<0
 ·have e1:J2 l q=0:=by unfold J2;rw[θ h]
  have e2:MM l q=false:=by unfold MM;grind
  grind [Zo5]
 ·obtain⟨k,rfl⟩:∃k:Nat,q=k:=⟨q.toNat,by omega⟩;have e1:J2 l k=I4 l.length (CU l k):=by unfold J2;grind
  have e2:MM l k=decide (CU l k<l.length):=by rfl
  rw[e1,e2];rcases υ k (cnt (at_ l) l.length)with hk|hk
  ·grind [XH,II,φ,JlP]
  grind [VZZ,MZ,ζ,V1d]
theorem QTm:(prog.info? 3).map (λi=>(i.zero,i.size,i.bytes))=some (some (iI 0),1,8):=by kernel_rfl
def ZQP(w:World)(l:List Bool)(B:Nat)(e:Ending)(w':World):Prop:=
 ∃x p b a,e=.returned (.tuple #[pP x,iI 0])/\Gr w w'/\Idx w' x p b a l B/\w.heap.size<=x/\w.heap.size<=p/\w.heap.size<=b/\w.heap.size<=a
def IP(l:List Bool)(B k:Nat):List Value:=(List.range k).map λj=>iI (cnt (at_ l) (j*B):Nat)
theorem X5M(l:List Bool)(B k:Nat):IP l B (k+1)=IP l B k++[iI (cnt (at_ l) (k*B):Nat)]:=by
 unfold IP;rw[ψo,ζ4];rfl
structure EY(w:World)(l:List Bool)(B X p b BASE k m:Nat)(v:Value)(wr:World):Prop where
 gr:Gr w wr
 vec:A7 wr p b l
 own:wr.ownsRow BASE 3 1 v k (IP l B k)
 c0:wr.cell? ⟨X,0,none⟩=some (pP p)
 c1:wr.cell? ⟨X,1,none⟩=some v
 c2:wr.cell? ⟨X,2,none⟩=some (iI B)
 c3:wr.cell? ⟨X,3,none⟩=some (iI (DL l 0 (m*B:Nat):Nat))
 free:∀o,wr.frozen? ⟨X,o,none⟩=false
 lt:X<BASE
 ltp:p<X
 ltb:b<X
 ge:w.heap.size<=p/\w.heap.size<=b
 base:BASE<=wr.heap.size
theorem EY.far{X:Nat}{v:Value}(h:EY w l B X p b BASE k m v wr):v.ownBlock≠some X:=λe=>by
 have:=(BB h.own e).1;have:=h.lt;omega
theorem EY.grow{X:Nat}{v:Value}{wr':World}(h:EY w l B X p b BASE k m v wr)(g:Gr wr wr'):EY w l B X p b BASE k m v wr':=by
 have hX:X<wr.heap.size:=by have:=h.lt;have:=h.base;omega
 exact⟨h.gr.trans g,h.vec.gr g,CM h.own g,(g.cell hX 0).trans h.c0,(g.cell hX 1).trans h.c1,(g.cell hX 2).trans h.c2,(g.cell hX 3).trans h.c3,λo=>(g.frozen hX o).trans (h.free o),h.lt,h.ltp,h.ltb,h.ge,χ h.base g.size⟩
theorem EY.append{X:Nat}{v:Value}(h:EY w l B X p b BASE k m v wr){g c:Nat}
  (hown:w1.ownsRow BASE 3 1 (.slice (some ⟨g,0,none⟩) (k+1) c) (k+1) (IP l B (k+1))) (hgrow:wr.grownBy w1 v.ownBlock):
  EY w l B X p b BASE (k+1) m (.slice (some ⟨g,0,none⟩) (k+1) c) (w1.setCell ⟨X,1,none⟩ (.slice (some ⟨g,0,none⟩) (k+1) c)):=by
 have hX:X<wr.heap.size:=by have:=h.lt;have:=h.base;omega
 have t:AB (λi=>v.ownBlock=some i) wr w1:=ER hgrow _ (λk e _=>e);have t2:AB (λi=>i=X) w1 (w1.setCell ⟨X,1,none⟩ (.slice (some ⟨g,0,none⟩) (k+1) c)):=(AB.refl (λi=>i=X) w1).setCell (a:=⟨X,1,none⟩) (λ_=>rfl) _;have Y:∀i,i<BASE->v.ownBlock≠some i:=λi hi e=>by have:=(BB h.own e).1;omega
 have e:∀o,w1.cell? ⟨X,o,none⟩=wr.cell? ⟨X,o,none⟩:=λo=>t.cell hX (Y X h.lt) o
 have o:∀o,o≠1->(w1.setCell ⟨X,1,none⟩ (.slice (some ⟨g,0,none⟩) (k+1) c)).cell? ⟨X,o,none⟩=wr.cell? ⟨X,o,none⟩:=λo ho=>by
  rw[ξs (h:=by simp_all),e o]
 have hp:=h.ltp;have hb:=h.ltb;have hl:=h.lt;refine⟨?_,?_,?_,(o 0 Ω).trans h.c0,?_,(o 2 Ω).trans h.c2,(o 3 Ω).trans h.c3,?_,h.lt,h.ltp,h.ltb,h.ge,χ h.base (χ t.size t2.size)⟩
 ·refine(((h.gr.touch (λ_=>False)).trans' t (λi hi e=>?_)).trans' t2 (λi hi e=>?_)).gr
  ·have:=(BB h.own e).1;have:=h.ge;omega
  ·have:=h.ge;omega
 ·exact(h.vec.touch t (Y p Ω) (Y b Ω)).touch t2 Ω Ω
 ·refine BX hown t2 (λi hi e=>?_);have:=(BB hown hi).1;omega
 ·exact ξh (h:=(e 1).trans h.c1) ..
 ·intro o;rw[ξa,t.frozen hX (Y X h.lt)];exact h.free o
theorem EY.count{X:Nat}{v:Value}(h:EY w l B X p b BASE k m v wr)(hz:z=(DL l 0 (m' * B:Nat):Nat)):
  EY w l B X p b BASE k m' v (wr.setCell ⟨X,3,none⟩ (.int .i64 z)):=by
 have t2:AB (λi=>i=X) wr (wr.setCell ⟨X,3,none⟩ (.int .i64 z)):=(AB.refl (λi=>i=X) wr).setCell (a:=⟨X,3,none⟩) (λ_=>rfl) _;have hp:=h.ltp;have hb:=h.ltb;have hl:=h.lt
 have o:∀o,o≠3->(wr.setCell ⟨X,3,none⟩ (.int .i64 z)).cell? ⟨X,o,none⟩=wr.cell? ⟨X,o,none⟩:=λo ho=>by
  rw[ξs (h:=by simp_all)]
 refine⟨?_,h.vec.touch t2 Ω Ω,?_,(o 0 Ω).trans h.c0,(o 1 Ω).trans h.c1,(o 2 Ω).trans h.c2,?_,?_,h.lt,h.ltp,h.ltb,h.ge,χ h.base t2.size⟩
 ·refine((h.gr.touch (λ_=>False)).trans' t2 (λi hi e=>?_)).gr;have:=h.ge;omega
 ·refine BX h.own t2 (λi hi e=>?_);have:=(BB h.own hi).1;omega
 ·rw[hz];exact ξh (h:=h.c3) ..
 ·intro o;rw[ξa];exact h.free o
theorem EY.done{X:Nat}{v:Value}(h:EY w l B X p b BASE k k v wr)(h1:1<=B)(h2:B<=1024)(hk:k=nbl l.length B)(hl:l.length<=k*B):
  ∃a,Idx wr X p b a l B/\w.heap.size<=a:=by
 have hn:=h.vec.n1;have Z:k≠0:=by grind
 obtain⟨g,c,rfl,hg1,hg2,hg3,Y⟩:=EX h.own Z;have:=h.lt;refine⟨g,⟨h.vec,h1,h2,by omega,Y,h.c0,⟨c,by rw[h.c1,hk]⟩,h.c2,?_,λj hj=>?_⟩,by have:=h.ge;have:=h.ltp;omega⟩
 ·rw[h.c3,Vbb l Ω]
 ·refine BP h.own ?_;unfold IP
  simp_all
theorem JHa{T:TypeId}(hg:Gr w w1)(hV:A7 w1 q r l)(h1:w.heap.size<=q)(h2:w.heap.size<=r):
  EY w l B w1.heap.size q r (w1.heap.size+1) 0 0 (.slice none 0 0) (w1.alloc (.cells #[.pointer (some ⟨q,0,none⟩),.slice none 0 0,.int .i64 B,.int .i64 0] T)):=by
 have hp:=hV.hp;have hb:=hV.hb;refine⟨hg.alloc _,hV.gr ((Gr.refl w1).alloc _),G5 _ _ _ _,ζF ..,ζF ..,ζF ..,?_,λo=>ξ0 ..,by omega,hp,hb,⟨h1,h2⟩,by simp⟩;rw[show DL l 0 ((0*B:Nat):Int)=0 from VlR l (by simp)]
 simp_all
theorem XFA(hV:A7 w p b l)(n:Int)(hn:BI n=false)(hn2:n<=9223372036854775807):
  cQ 215 #[pP p,iI n] w (.tuple #[.pointer none,iI 5]):=by
 have n1:((l.length:Int)==0)=false:=by have:=hV.n1;grind
 have HV:=hV;rw[MD]at hn;cases hp:CL n with
 | false=>
  go_enter func215,ntmps215
  go_wp2_with(first
   | (go_at_call 123;refine(IH HV).mono ?_;rintro e w1 ⟨rfl,rfl⟩)
   | (go_at_call 115;refine(JF n hn2 _).mono ?_;rintro e w1 ⟨rfl,rfl⟩))
  go_ret2
  simp_all
 | true=>
  rw[hp]at hn;have d1:decide ((1024:Int)<n)=true:=by simp at hn;simp;omega
  go_enter func215,ntmps215
  go_wp2_with(first
   | (go_at_call 123;refine(IH HV).mono ?_;rintro e w1 ⟨rfl,rfl⟩)
   | (go_at_call 115;refine(JF n hn2 _).mono ?_;rintro e w1 ⟨rfl,rfl⟩))
  go_ret2
  simp_all
theorem Zv3(hV:A7 w p b l)(B:Nat)(hB:BI B=true):
  Calls prog 215 #[pP p,iI B] w (ZQP w l B):=by
 have n1:((l.length:Int)==0)=false:=by have:=hV.n1;exact ζy.2 Ω
 have n2:=hV.n2;have hb:=DA hB;have Xd:1<=B:=Ω
 have Xl:B<=1024:=Ω
 have d1:decide ((1024:Int)<(B:Int))=false:=by simp;omega
 have HP:Hid (CL B=true):=⟨by rw[MD]at hB;simp at hB;exact hB.1⟩;obtain⟨i0,hi,Xs,Xk,Xo⟩:=info_parts QTm;have HV:=hV;clear hV hB hb;go_enter func215,ntmps215
 go_wp2_with(first
  | (go_at_call 123;refine(IH HV).mono ?_;rintro e w1 ⟨rfl,rfl⟩)
  | (go_at_call 115;refine(JF B Ω _).mono ?_;rintro e w1 ⟨rfl,rfl⟩;rw[HP.o])
  | (go_at_call 233;refine(Z27 HV).mono ?_;rintro e w1 ⟨q,r,rfl,Xb,Xj,Xe,Xf⟩))
 have Xi:=ι (JHa (B:=B) (T:=287) Xb Xj Xe Xf);generalize w1.alloc (.cells #[.pointer (some ⟨q,0,none⟩),.slice none 0 0,.int .i64 B,.int .i64 0] 287)=W2 at *
 obtain⟨X,hX⟩:∃X,X=w1.heap.size:=⟨_,rfl⟩;rw[<-hX]at Xi⊢;clear hX;clear Xb Xj Xe Xf
 go_loopw [7] (λs7 wr=>∃k t v,Hid (EY w l B X q r (X+1) k k v wr)/\Hid (t=k*B)/\k<=t/\t<=1048576+1024/\Hid (∀i,i<k->i*B<l.length)/\s7=iI (t:Nat)) (λs7 _=>1048576+1025-(intOf s7).toNat)
 case atStart=>exact⟨0,0,_,Xi,⟨by simp⟩,by omega,by omega,⟨λi h=>by omega⟩,rfl⟩
 case round=>
  obtain⟨k,t,v,HN,ht,hkt,htb,D,rfl⟩:=hrel;by_cases Xp:t<l.length
  ·have Xt:Hid (∀i,i<k+1->i*B<l.length):=⟨λi h=>by
    rcases υ i k with h1|h1
    ·exact D.o i h1
    ·rw[show i=k by omega,<-ht.o];exact Xp⟩
   have Xa:Hid (t+B=(k+1)*B):=⟨by rw[ξj,ht.o]⟩;go_upto_region 9 with(go_at_call 123;refine(IH (HV.gr HN.o.gr)).mono ?_;rintro e w1 ⟨rfl,rfl⟩);have c1:=HN.o.c1;obtain⟨c,hc⟩:∃c,c=DL l 0 (k*B:Nat):=⟨_,rfl⟩;have c3:=HN.o.c3;have fr:=HN.o.free 1;rw[<-hc]at c3
   have Xg:IP l B (k+1)=IP l B k++[iI (c:Nat)]:=by
    rw[X5M,hc,UD l (by rw[<-ht.o];omega)]
   have Xq:=Xg;have HC:=ι hc;have HX:Hid (X<wr.heap.size):=⟨by have:=HN.o.base;omega⟩;clear Xg hc;have KS:Hid (∀W',Gr wr W'->W'.cell? ⟨X,1,none⟩=some v/\W'.cell? ⟨X,3,none⟩=some (iI (c:Nat))/\W'.frozen? ⟨X,1,none⟩=false):=⟨λW' h=>⟨(h.cell HX.o 1).trans c1,(h.cell HX.o 3).trans c3,(h.frozen HX.o 1).trans fr⟩⟩;obtain⟨S,hS⟩:∃S:World->Prop,S=λW'=>W'.cell? ⟨X,1,none⟩=some v/\W'.cell? ⟨X,3,none⟩=some (iI (c:Nat))/\W'.frozen? ⟨X,1,none⟩=false:=⟨_,rfl⟩;have x1:∀p:AA S,p.w.cell? ⟨X,1,none⟩=some v:=λp=>(AA.get hS p).1;have x3:∀p:AA S,p.w.cell? ⟨X,3,none⟩=some (iI (c:Nat)):=λp=>(AA.get hS p).2.1;have Z:S wr.drew:=by rw[hS];exact KS.o _ (Gr.refl _).drew
   have HS:=ι hS;clear hS;have U:Inhabited (AA S):=⟨⟨_,Z⟩⟩;refine AW S 13 [([0,1,2,3,4,5,6,7,8],9),([],10),([11,12],13)] [] Z ?_;refine AI ?_;go_wp2;refine⟨.inr (AA.of (by rw[HS.o];exact KS.o _ ((Gr.refl _).alloc _).drew)),?_⟩;refine N3 ?_;simp only[AF,ν,π];refine ζb ?_;go_wp2_with(at_builtin;refine wpList_append_lies _ rfl _ _ 61 rfl (X+1) 3 i0 _ 1 8 underlying61 hi Xs Xk Xo rfl Ω v k (IP l B k) rfl ((HN.o.own.alloc _).drew) ⟨wr.heap.size,0,none⟩ 1 1 [iI (c:Nat)] rfl rfl (ξx (cs:=#[iI (c:Nat)]) (t:=3) (fr:=(0,0)) (heap_alloc_new wr _)) (by simp[Value.oneCell']) Ω (by unfold maxLen;omega) Ω (by have:=HX.o;simp;omega) (wr.heap.size+1) (by simp) ?_;intro g cp w1 V Y Xm A)
   go_frame
   have I:Gr wr (wr.alloc (.cells #[.int .i64 (c:Nat)] 3)).drew:=((Gr.refl _).alloc _).drew
   have N:w1.cell? ⟨X,1,none⟩=some v/\w1.cell? ⟨X,3,none⟩=some (iI (c:Nat))/\w1.frozen? ⟨X,1,none⟩=false:=by
    have hz:=KS.o _ I
    exact⟨(Y.cell_far ⟨X,1,none⟩ (by have:=HX.o;simp;omega) (Ne.symm HN.o.far)).trans hz.1,(Y.cell_far ⟨X,3,none⟩ (by have:=HX.o;simp;omega) (Ne.symm HN.o.far)).trans hz.2.1,
     (Y.frozen_far ⟨X,1,none⟩ (by have:=HX.o;simp;omega) (Ne.symm HN.o.far)).trans hz.2.2⟩
   refine⟨.inr (AA.of (by rw[HS.o];exact N)),?_⟩;have HM:=((HN.o.grow I).append (by rw[Xq];exact V) Y);have k1:=N.1;have k3:=N.2.2;clear I V Y Xm A N;refine AI ?_;go_wp2;refine⟨.inl trivial,?_⟩;refine EK ?_;refine ζb ?_;refine ζD ?_;generalize w1.setCell ⟨X,1,none⟩ (.slice (some ⟨g,0,none⟩) (k+1) cp)=W3 at HM⊢;generalize (Value.slice (some ⟨g,0,none⟩) (k+1) cp)=v3 at HM⊢;clear x1 x3 Z HS U k1 k3 KS c1 c3 fr HX;clear S;obtain⟨tb,J⟩:∃tb,tb=t+B:=⟨_,rfl⟩;obtain⟨d,hd⟩:∃d,d=DL l (t:Int) (tb:Int):=⟨_,rfl⟩;obtain⟨e,he⟩:∃e,e=DL l 0 ((k+1)*B:Nat):=⟨_,rfl⟩
   have G:(c:Int)+(d:Int)=(e:Int):=by
    have:=V9n l (a:=0) (b:=(t:Int)) (c:=(tb:Int)) Ω Ω;rw[hd,he,HC.o,<-ht.o,<-Xa.o,<-J];exact this
   have hel:e<=l.length:=by rw[he];exact D0 _ _
   have Xr:IntKind.i64.wrap ((t:Int)+(B:Int))=(tb:Int):=by rw[J,ζt _ Ω];omega
   have Xn:IntKind.i64.wrap ((c:Int)+(d:Int))=(e:Int):=by rw[G,ζt _ Ω]
   have HD:=ι hd;have HE:=ι he;have HTB:=ι J;have k3:W3.cell? ⟨X,3,none⟩=some (iI (c:Nat)):=by rw[HM.c3,HC.o]
   have fr:W3.frozen? ⟨X,3,none⟩=false:=HM.free 3;have HX:Hid (X<W3.heap.size):=⟨by have:=HM.base;omega⟩;clear G hd he J;go_upto_region 10 with(fail);obtain⟨S,hS⟩:∃S:World->Prop,S=λW'=>W'.cell? ⟨X,3,none⟩=some (iI (c:Nat)):=⟨_,rfl⟩;have x3:∀p:AA S,p.w.cell? ⟨X,3,none⟩=some (iI (c:Nat)):=λp=>AA.get hS p;have Z:S W3.drew:=by rw[hS];exact k3
   have HS:=ι hS;clear hS;have U:Inhabited (AA S):=⟨⟨_,Z⟩⟩;refine AW S 13 [([0,1,2,3,4,5,6,7,8],9),([10,11,12],13)] [] Z ?_;refine AI ?_;go_wp2_with(go_at_call 234;refine(V7Z (HV.gr (HM.gr.drew)) (t:Int) (tb:Int) Ω).mono ?_;rintro e' W4 ⟨rfl,Xh⟩;rw[<-HD.o]);have M:Gr W3 W4:=(Gr.refl W3).drew.trans Xh;have q3:=(M.cell HX.o 3).trans k3;have qf:=(M.frozen HX.o 3).trans fr;have Xc:=ι ((HM.grow M).count (m':=k+1) (z:=(e:Nat)) (by rw[HE.o]));clear Xh M;refine⟨.inr (AA.of (by rw[HS.o];exact q3)),?_⟩;refine AI ?_;go_wp2;refine⟨.inl trivial,?_⟩;refine EK ?_;refine ζb ?_;refine ζD ?_;generalize W4.setCell ⟨X,3,none⟩ (.int .i64 (e:Nat))=W5 at Xc⊢;clear x3 Z HS U q3 qf k3 fr Xr Xn;clear S;go_wp2;go_roundw
   case rel=>exact⟨k+1,t+B,v3,Xc,Xa,by omega,by omega,Xt,by go_num⟩
   case measure=>simp[intOf];omega
  ·have E:=ι (QnL Xd (show l.length<=k*B by rw[<-ht.o];omega) D.o);have HF:=ι (HN.o.done Xd Xl E.o.symm (by rw[<-ht.o];omega));go_wp2_with(go_at_call 123;refine(IH (HV.gr HN.o.gr)).mono ?_;rintro e w1 ⟨rfl,rfl⟩);go_ret2;obtain⟨a,hI,ha⟩:=HF.o;exact⟨X,q,r,a,BG rfl rfl,HN.o.gr,hI,by have:=HN.o.ge;have:=HN.o.ltp;omega,HN.o.ge.1,HN.o.ge.2,ha⟩
def CY(n:Nat)(L:List Ob):List Bool:=(List.range n).map (DH L)
theorem JH(n:Nat)(L:List Ob):(CY n L).length=n:=by simp[CY]
theorem U9(h:AP n L)(i:Nat):at_ (CY n L) i=DH L i:=by
 unfold CY;rw[JB];by_cases hi:i<n
 ·simp_all
 ·rw[ζ hi];cases hb:DH L i with
  | false=>rfl
  | true=>
   obtain⟨o,ho,h1,h2⟩:=NY.1 hb;have:=h.sz o ho;omega
theorem Yht(h:AP n L)(f t:Int):((DL (CY n L) f t:Nat):Int)=AZ L f t:=by
 rw[<-Q2 h,JK,JH];congr 1;exact ZVB (λi _=>by rw[U9 h])
theorem S8(h:AP n L)(k:Nat)(hk:k<=n):((cnt (at_ (CY n L)) k:Nat):Int)=AZ L 0 k:=by
 rw[<-Yht h,UD _ (by grind [JH])]
theorem YKJ:∀{q k:Nat},DT L q=some k->∃j,∃hj:j<L.length,∃i,i<L[j].2/\q=sizes (L.take j)+i/\k=L[j].1+i:=by
 induction L with
 | nil=>intro q k h;cases h
 | cons o r ih=>
  intro q k h;unfold DT at h;by_cases hq:q<o.2
  ·rw[θ hq]at h;exact⟨0,by simp,q,hq,by simp[sizes],(Option.some.inj h).symm⟩
  ·rw[ψ hq]at h;obtain⟨j,hj,i,h1,h2,h3⟩:=ih h;exact⟨j+1,by simp_all,i,h1,by simp[sizes];omega,h3⟩
theorem XUI(hj:j<L.length)(hi:i<L[j].2):DH L (L[j].1+i)=true:=NY.2 ⟨_,μ hj,by omega,by omega⟩
theorem Qh2(h:AP n L)(q:Nat):(∀k,DT L q=some k->CU (CY n L) q=k/\k<n)/\(DT L q=none->CU (CY n L) q=n):=by
 refine⟨λk hk=>?_,λhn=>?_⟩
 ·obtain⟨j,hj,i,h1,rfl,rfl⟩:=YKJ hk;have hs:=h.sz _ (μ hj);have hc:=S8 h (L[j].1+i) Ω;have ho:=Yhz h hj (i:=i) Ω;obtain⟨e1,e2⟩:=YTa (l:=CY n L) (k:=L[j].1+i) (q:=sizes (L.take j)+i) (by grind [U9,XUI]) (by grind);omega
 ·have hle:=Jkd.1 hn;have hc:=S8 h n (ϑ n);rw[RJ h]at hc;have:=Vit (f:=at_ (CY n L)) (n:=n) (k:=q) Ω;unfold CU
  grind [JH]
theorem Zop(h:AP n L)(k:Int):J2 (CY n L) k=IN L k/\MM (CY n L) k=V0 L k:=by
 unfold J2 MM IN V0;by_cases hk:k<0
 ·grind
 ·rw[ψ hk,ψ hk,φ Ω,JH];obtain⟨h1,h2⟩:=Qh2 h k.toNat;cases hw:DT L k.toNat with
  | none=>grind [MZ]
  | some x=>grind [II]
theorem Jw5(hj:j<L.length):CY n (L.take (j+1))=CJ (CY n (L.take j)) (L[j].1:Nat) ((L[j].1:Int)+(L[j].2:Int)) true:=by
 refine IC (by grind [FG,JH]) (λi hi=>?_);rw[JH]at hi;rw[NF _ _ _ _ _ (by grind [JH])];unfold CY;rw[JB,JB,φ hi];unfold DH
 grind [ζX]
theorem ZPf(n:Nat):CY n []=List.replicate n false:=by
 unfold CY;exact IC (by simp) (λi hi=>by rw[JB];simp[at_,ξc,DH];split <;> rfl)
def FX(w:World)(F t n B:Nat)(L:List Ob):Prop:=
 AP n L/\t<w.heap.size/\F<=t/\∃v vb x p b a,w.cell? ⟨t,0,none⟩=some (pP v)/\w.cell? ⟨t,1,none⟩=some (pP x)/\A7 w v vb (CY n L)/\Idx w x p b a (CY n L) B ∧
  F<=v/\F<=vb/\F<=x/\F<=p/\F<=b/\F<=a
theorem FX.touch{F t:Nat}(h:FX w F t n B L)(ht:AB S w w')(hS:∀k,F<=k->k<w.heap.size->¬S k):FX w' F t n B L:=by
 obtain⟨hg,h1,h2,v,vb,x,p,b,a,c0,c1,hV,hX,k1,k2,k3,k4,k5,k6⟩:=h;exact⟨hg,κ h1 ht.size,h2,v,vb,x,p,b,a,(ht.cell h1 (hS t h2 h1) 0).trans c0,(ht.cell h1 (hS t h2 h1) 1).trans c1,hV.touch ht (hS v k1 hV.hp) (hS vb k2 hV.hb),hX.touch ht (hS x k3 hX.hx) (hS p k4 hX.vec.hp) (hS b k5 hX.vec.hb) (hS a k6 hX.ha),k1,k2,k3,k4,k5,k6⟩
theorem FX.gr{F t:Nat}(h:FX w F t n B L)(g:Gr w w'):FX w' F t n B L:=h.touch (g.touch (λ_=>False)) (λ_ _ _ h=>h)
section
variable{F t:Nat}
theorem VXx(hO:FX w F t n B L)(hT:AQ w)(k:Int):
  AY prog 226 #[pP t,iI k] w (.tuple #[iI (IN L k),.bool (V0 L k)]):=by
 obtain⟨hg,h1,h2,v,vb,x,p,b,a,c0,c1,hV,hX,-⟩:=hO;rw[<-(Zop hg k).1,<-(Zop hg k).2];have HT:=hT;go_enter func226,ntmps226;go_wp2_with(go_at_call 235;refine(Qax hX HT k).mono ?_;rintro e w1 ⟨rfl,hg1⟩);go_ret2
 simp_all
theorem YWi(hO:FX w F t n B L)(i:Int):AY prog 193 #[pP t,iI i] w (iI (AZ L 0 i)):=by
 obtain⟨hg,h1,h2,v,vb,x,p,b,a,c0,c1,hV,hX,-⟩:=hO;rw[<-Yht hg];go_enter func193,ntmps193;go_wp2_with(go_at_call 220;refine(Zde hX i).mono ?_;rintro e w1 ⟨rfl,hg1⟩);go_ret
 simp_all
theorem ZaO(hO:FX w F t n B L)(i:Int):cQ 192 #[pP t,iI i] w (.bool (decide (0<=i)&&DH L i.toNat)):=by
 obtain⟨hg,h1,h2,v,vb,x,p,b,a,c0,c1,hV,hX,-⟩:=hO;rw[<-U9 hg];go_enter func192,ntmps192;go_wp2_with(go_at_call 219;refine(X89 hV i).mono ?_;rintro e w1 ⟨rfl,rfl⟩);go_ret
 simp_all
theorem XcN(hO:FX w F t n B L):cQ 186 #[pP t] w (iI (sizes L:Nat)):=by
 obtain⟨hg,h1,h2,v,vb,x,p,b,a,c0,c1,hV,hX,-⟩:=hO
 have HL:Hid (cnt (at_ (CY n L)) (CY n L).length=sizes L):=⟨by
  have:=S8 hg n (ϑ n)
  grind [RJ,JH]⟩
 go_enter func186,ntmps186;go_wp2_with(go_at_call 216;refine(ZsP hX).mono ?_;rintro e w1 ⟨rfl,rfl⟩;rw[HL.o]);go_ret
 simp_all
end
open Go.Shelf
section
attribute [local go_sem] Oper.semAt_some
theorem JWx(k:Int)(w:World):cQ 185 #[.pointer none,iI k] w (.tuple #[.pointer none,iI 9]):=by
 refine(τ (n:=5)).1 ?_;refine callsIn_of_wp_marks func185 rfl trivial ?_ rfl;simp only[ntmps185,ζS,ζw,ζ7,Nat.reduceAdd,Nat.reduceSub,ζJ,ζI,ζY,ζN,ζV,ζq];gi_wp2_with(refine⟨trivial,?_⟩;gi_at_call 84;refine(τ.2 (QOV _)).mono ?_;rintro e w1 ⟨rfl,rfl⟩);refine⟨.tuple #[.pointer none,iI 9],?_,rfl,rfl⟩;simp[results,f185,go_sem]
structure QZ(W0:World)(v vb n:Nat)(L:List Ob)(j:Nat)(A:World):Prop where
 t:AB (λi=>i=vb\/W0.heap.size<=i) W0 A
 jl:j<=L.length
 vec:A7 A v vb (CY n (L.take j))
def V4V(w:World)(n:Nat)(L:List Ob)(k:Int)(e:Ending)(w':World):Prop:=
 Gr w w'/\((BI k=false/\e=.returned (.tuple #[.pointer none,iI 5]))\/(BI k=true/\∃t B:Nat,k=B/\e=.returned (.tuple #[pP t,iI 0])/\FX w' w.heap.size t n B L))
theorem SB{b1 b2:Nat}(hE:Ext w m p1 b1 p2 b2 n L)(hT:AQ w)(k:Int)(hk:k<=9223372036854775807):
  Calls prog 185 #[pP m,iI k] w (V4V w n L k):=by
 have HT:=hT;obtain⟨Xo,Xv⟩:=hE.nb;have hn0:((n:Int)==0)=false:=ζy.2 Ω;clear hT;refine(τ (n:=5)).1 ?_;refine callsIn_of_wp_marks func185 rfl trivial ?_ rfl;simp only[ntmps185,ζS,ζw,ζ7,Nat.reduceAdd,Nat.reduceSub,ζJ,ζI,ζY,ζN,ζV,ζq]
 gi_wp2_with(first
  | (refine⟨trivial,?_⟩;gi_at_call 84;refine(τ.2 (EN hE)).mono ?_;rintro e w1 ⟨rfl,rfl⟩)
  | (refine⟨trivial,?_⟩;gi_at_call 82;refine(τ.2 (U7 n Xo Xv _)).mono ?_;rintro e w1 ⟨v,vb,rfl,I,Xj,hv,Xf⟩;have Xa:=Xj;have HP:=(ξ hv Xf);clear Xj hv Xf)
  | (refine⟨trivial,?_⟩;gi_at_call 144;refine(τ.2 (JZ (some ⟨m,0,none⟩))).mono ?_;rintro e w2 ⟨rfl,rfl⟩))
 obtain⟨X,hX⟩:∃X,X=w1.heap.size:=⟨_,rfl⟩;obtain⟨W0,J⟩:∃W0,W0=(w1.alloc (.cells #[.pointer (some ⟨v,0,none⟩)] 150)).alloc (.cells #[.pointer (some ⟨m,0,none⟩)] 93):=⟨_,rfl⟩;have N:Gr w1 W0:=by rw[J];exact((Gr.refl w1).alloc _).alloc _
 have hs0:W0.heap.size=X+2:=by rw[J,hX];simp
 have e0:W0.cell? ⟨X,0,none⟩=some (pP v):=by rw[J,hX];exact((Boxed.new w1 _ _).alloc _).cell
 have e1:W0.cell? ⟨X+1,0,none⟩=some (pP m):=by
  rw[J,hX];have:=Boxed.new (w1.alloc (.cells #[.pointer (some ⟨v,0,none⟩)] 150)) 93 (pP m);rw[γ]at this;exact this.cell
 have Xn:=I.size;have Xs:=Xa.hp;have Xu:=Xa.hb;have hz4:=HP.1;have hz5:=HP.2;rw[<-hX]at Xn Xs Xu;have o1:=hE.hm;have o2:=hE.v1.hp;have o3:=hE.v1.hb;have o4:=hE.v2.hp;have o5:=hE.v2.hb;have o6:=HT.lt;have Xi:=(I.trans N);have Xw:=(hE.gr (I.trans N));have Xp:=(Xa.gr N);have U:=hE.good;have E:=(ξ e0 e1);rw[<-J,<-hX];clear J hX N e0 e1;have Xt:QZ W0 v vb n L 0 W0:=⟨AB.refl _ _,ζe _,by show A7 W0 v vb (CY n []);rw[ZPf];exact Xp⟩
 have tI:∀j A B,QZ W0 v vb n L j A->AB (λi=>W0.heap.size<=i) A B->QZ W0 v vb n L j B:=λj A B h t=>
  ⟨h.t.trans (t.mono (λi _ h=>.inr h)),h.jl,h.vec.touch t Ω Ω⟩
 refine SR (s0:=0) rfl Ω (gf:=187) (lb:=#[pP (X+1)]) rfl trivial (enters_of func187 (by kernel_rfl) rfl)
  (Xix _ (X+1) m p1 b1 p2 b2 n L _) (λ_=>rfl)
  (QZ W0 v vb n L) (λ_ _=>False) tI (λ_ _ _ h _=>h)
  (λj A h=>⟨Xw.touch h.t Ω Ω Ω Ω Ω,(Xi.tab HT.lt HT).touch' h.t Ω,(h.t.cell Ω Ω 0).trans E.2,h.jl⟩)
  Xt ?round ?done (λ_ _ _ _ h _=>h.elim)
 case round=>
  intro lp j x W3 hsz3 Y Z;dsimp only[GJ];gi_wp2;refine⟨Gr.refl _,λW4 ht4 hI4=>?_⟩
  have G:j<L.length:=by
   rcases υ j L.length with h|h
   ·exact h
   ·unfold EJ at Z;rw[ζH h]at Z;cases Z
  obtain rfl:x=L[j]:=by unfold EJ at Z;rw[η G]at Z;exact(Option.some.inj Z).symm
  have hsz':=U.sz _ (μ G);have Xr:=(Jw5 (n:=n) G);have c6:=(hI4.t.cell (b:=X) Ω Ω 0).trans E.1;clear Y ht4 Z;gi_wp2_with(refine⟨trivial,?_⟩;gi_at_call 214;refine(CallsIn.inRound lp (τ.2 (XBA hI4.vec _ _ Ω))).mono ?_;rintro e w5 ⟨rfl,Xl,Xk⟩);rw[<-Xr]at Xk;exact⟨Xl.mono (λi _ h=>by have h:i=vb:=h;omega),j+1,rfl,hI4.t.trans (Xl.mono (λi _ h=>.inl h)),by omega,Xk⟩
 case done=>
  rintro D j W3 hD rfl Y hK;have c6:=(Y.t.cell (b:=X) Ω Ω 0).trans E.1;have M:=Y.vec;rw[ζ8]at M;have HT3:=Y.t;have HK:=hK;have HD:=hD;have Xc:Gr w W3:=((Xi.touch (λ_=>False)).trans' Y.t (λi hi h=>by omega)).gr;have Xm:=Xc;have hz6:=Y.t.size;clear Y hK hD Xc;cases hb:BI k with
  | false=>
   gi_wp2_with(refine⟨trivial,?_⟩;gi_at_call 215;refine(τ.2 (XFA M k hb hk)).mono ?_;rintro e w4 ⟨rfl,rfl⟩);refine⟨by simp,.inl ⟨_,_,rfl,run_takeDeferred HK,?_⟩⟩;refine⟨.tuple #[.pointer none,iI 5],?_,((Xm.touch (λ_=>False)).trans' (C6 _ D _ (ϑ D)) (λi hi h=>by have:=HD;omega)).gr,.inl ⟨hb,rfl⟩⟩;simp[results,f185,go_sem]
  | true=>
   have hbp:=DA hb;obtain⟨B,rfl⟩:∃B:Nat,k=B:=⟨k.toNat,by omega⟩;gi_wp2_with(refine⟨trivial,?_⟩;gi_at_call 215;refine(τ.2 (Zv3 M B hb)).mono ?_;rintro e w4 ⟨x,p,b,a,rfl,V,Xb,Xe,Xg,Xh,Xd⟩;have c64:=(V.cell (AT c6) 0).trans c6;have Xq:=Xb;have HZ4:=(ξ Xe (ξ Xg (ξ Xh Xd)));clear Xb Xe Xg Xh Xd)
   have Xx:(w4.alloc (.cells #[.pointer (some ⟨v,0,none⟩),.pointer (some ⟨x,0,none⟩)] 273)).heap[D]?=some (.deferred (some [])):=
    (((V.alloc _).block (ζn.1 HK).1)).trans HK
   have tt:=((Xm.trans (V.alloc (.cells #[.pointer (some ⟨v,0,none⟩),.pointer (some ⟨x,0,none⟩)] 273))).touch (λ_=>False)).trans' (C6 _ D (.deferred none) (ϑ D)) (λi hi h=>by have:=HD;omega);refine⟨by simp,.inl ⟨_,_,rfl,run_takeDeferred Xx,?_⟩⟩;refine⟨.tuple #[pP w4.heap.size,iI 0],?_,tt.gr,.inr ⟨hb,w4.heap.size,B,rfl,rfl,?_⟩⟩
   ·simp[results,f185,go_sem]
   ·have t5:=DP (w4.alloc (.cells #[.pointer (some ⟨v,0,none⟩),.pointer (some ⟨x,0,none⟩)] 273)) D (.deferred none);have hs4:=V.size;have hdl:=(ζn.1 HK).1;have hl:w4.heap.size<(w4.alloc (.cells #[.pointer (some ⟨v,0,none⟩),.pointer (some ⟨x,0,none⟩)] 273)).heap.size:=by rw[γ];omega
    exact⟨U,κ hl t5.size,by omega,v,vb,x,p,b,a,(t5.cell (b:=w4.heap.size) hl Ω 0).trans (ζF ..),(t5.cell (b:=w4.heap.size) hl Ω 1).trans (ζF ..),
     ((M.gr V).gr ((Gr.refl _).alloc _)).touch t5 Ω Ω,(Xq.gr ((Gr.refl _).alloc _)).touch t5 Ω Ω Ω Ω,by omega,by omega,by omega,by omega,by omega,by omega⟩
end
def BU:List Ob->Nat->Nat
 | [],_=>0
 | o :: r,q=>if q<o.2 then 0 else BU r (q-o.2)+1
theorem VBJ:∀{q:Nat},q<sizes L->∃hj:BU L q<L.length,∃i,i<(L[BU L q]'hj).2/\q=sizes (L.take (BU L q))+i/\DT L q=some ((L[BU L q]'hj).1+i):=by
 induction L with
 | nil=>intro q h;simp[sizes]at h
 | cons o r ih=>
  intro q h;by_cases hq:q<o.2
  ·have e:BU (o :: r) q=0:=θ hq;refine⟨by rw[e];simp,q,?_⟩;simp only[e];exact⟨hq,by simp[sizes],by unfold DT;simp_all⟩
  ·have e:BU (o :: r) q=BU r (q-o.2)+1:=ψ hq;unfold sizes at h;obtain⟨hj,i,h1,h2,h3⟩:=ih (q:=q-o.2) Ω;refine⟨by grind,i,?_⟩;simp only[e];exact⟨h1,by simp only[ξH,sizes];omega,by unfold DT;grind⟩
theorem VNq(hj:j<L.length)(hi:i<L[j].2):BU L (sizes (L.take j)+i)=j:=by
 induction L generalizing j with
 | nil=>simp at hj
 | cons o r ih=>
  cases j with
  | zero=>
   have hi:i<o.2:=hi;simp only[List.take_zero,sizes,ξz,BU]
   simp_all
  | succ j=>
   have:=ih (j:=j) (by grind) (by simp_all);simp only[ξH,sizes,BU]
   grind
theorem Zut(L:List Ob)(j:Nat):sizes (L.take j)<=sizes L:=by
 induction L generalizing j with
 | nil=>simp[sizes]
 | cons o r ih=>
  cases j with
  | zero=>simp[sizes]
  | succ j=>have:=ih j;simp only[ξH,sizes];omega
theorem JG(hj:j<L.length):sizes (L.take j)+L[j].2<=sizes L:=by
 rw[<-E6 hj];grind [Zut]
def toV(L:List Ob)(base a:Int):Int:=if A1 L a<L.length then base+AZ L 0 a else 0
def toE(L:List Ob)(a:Int):Int:=if A1 L a<L.length then 0 else 6
theorem RD(h:AP n L)(hj:j<L.length)(h1:(L[j].1:Int)<=a)(h2:a<L[j].1+L[j].2):
  toV L base a=base+sizes (L.take j)+a-(L[j].1:Nat)/\toE L a=0:=by
 have e:=OE h hj h1 h2;have hs:=Yhz h hj (i:=(a-L[j].1).toNat) Ω;rw[show (L[j].1:Int)+((a-L[j].1).toNat:Nat)=a by omega]at hs;unfold toV toE;omega
theorem OJ(h:¬A1 L a<L.length):toV L base a=0/\toE L a=6:=by
 unfold toV toE;omega
theorem QFq(a:Int):(decide (0<=a)&&DH L a.toNat)=decide (A1 L a<L.length):=by
 grind [φ,Q5g,ζ,OW]
def inF(L:List Ob)(base b:Int):Bool:=decide (base<=b)&&decide (b<base+(sizes L:Nat))
def CK(L:List Ob)(base b:Int):Int:=if inF L base b then IN L (b-base)else 0
def M2(L:List Ob)(base b:Int):Int:=if inF L base b then (BU L (b-base).toNat:Nat)else 0
def FV(L:List Ob)(base b:Int):Int:=if inF L base b then 0 else 11
theorem E8{b:Int}:inF L base b=true↔base<=b/\b<base+(sizes L:Nat):=by simp[inF]
theorem UC{b:Int}(h:¬(base<=b/\b<base+(sizes L:Nat))):inF L base b=false:=by
 cases e:inF L base b with
 | false=>rfl
 | true=>exact absurd (E8.1 e) h
theorem Z2d(hj:j<L.length)(hi:i<L[j].2):IN L ((sizes (L.take j)+i:Nat):Int)=(L[j].1+i:Nat):=by
 unfold IN;rw[ψ Ω,δ,XEK hj hi];rfl
theorem QCo{b:Int}(hj:j<L.length)(h1:base+(sizes (L.take j):Nat)<=b)(h2:b<base+(sizes (L.take j):Nat)+(L[j].2:Nat)):
  CK L base b=(L[j].1:Nat)+b-(base+(sizes (L.take j):Nat))/\M2 L base b=j/\FV L base b=0:=by
 have hm:=JG hj;have Y:inF L base b=true:=E8.2 ⟨by omega,by omega⟩;obtain⟨i,hi⟩:∃i:Nat,b-base=((sizes (L.take j)+i:Nat):Int):=⟨(b-base).toNat-sizes (L.take j),by omega⟩;have X:i<L[j].2:=Ω
 unfold CK M2 FV;rw[Y,θ rfl,θ rfl,θ rfl,hi,Z2d hj X,δ,VNq hj X];omega
theorem L6{b:Int}(h:inF L base b=false):CK L base b=0/\M2 L base b=0/\FV L base b=11:=by
 unfold CK M2 FV;simp_all
theorem Zeb(h:AP n L){b:Int}(hb:inF L base b=true):∃j,∃hj:j<L.length,M2 L base b=j/\(L[j].1:Int)<=CK L base b/\CK L base b<L[j].1+L[j].2/\A1 L (CK L base b)=j/\FV L base b=0:=by
 obtain⟨h1,h2⟩:=E8.1 hb;obtain⟨hj,i,hi,e,-⟩:=VBJ (L:=L) (q:=(b-base).toNat) Ω;obtain⟨a1,a2,a3⟩:=QCo (base:=base) (b:=b) hj Ω Ω;refine⟨_,hj,a2,by omega,by omega,OE h hj Ω Ω,a3⟩
theorem Ye3{o:Ob}(h:∀y∈M,¬o.1<y.1):DC M o=M++[o]:=by
 induction M with
 | nil=>rfl
 | cons y r ih=>
  unfold DC
  grind
theorem Zne(h:AP n L)(hj:j<L.length):CX (L.take j) n (L[j].1:Nat) (L[j].2:Nat)=L.take (j+1):=by
 have hs:=h.sz _ (μ hj)
 have hle:∀o∈L.take j,o.1+o.2<=L[j].1:=λo ho=>by
  obtain⟨i,hi,X,rfl⟩:=NZ ho;exact h.at hi hj X
 have hc:GY (L.take j) (L[j].1:Nat) (L[j].2:Nat)=false:=by
  cases e:GY (L.take j) (L[j].1:Nat) (L[j].2:Nat)with
  | false=>rfl
  | true=>obtain⟨o,ho,h1,h2⟩:=Q4.1 e;grind
 have he:C5 (L.take j) n (L[j].1:Nat) (L[j].2:Nat)=0:=by
  unfold C5;grind
 unfold CX;rw[θ he,δ,δ,Ye3 (λy hy=>by grind),ζX hj]
def Fwd(w:World)(F f n B:Nat)(base:Nat)(L:List Ob):Prop:=
 f<w.heap.size/\F<=f/\base<2147483648/\∃t o p1 b1 p2 b2,w.cell? ⟨f,0,none⟩=some (pP t)/\w.cell? ⟨f,1,none⟩=some (pP o)/\w.cell? ⟨f,2,none⟩=some (iI base) ∧
  FX w F t n B L/\Ext w o p1 b1 p2 b2 n L/\F<=o/\F<=p1/\F<=b1/\F<=p2/\F<=b2
theorem Fwd.touch{F base:Nat}(h:Fwd w F f n B base L)(t:AB S w w')(hS:∀k,F<=k->k<w.heap.size->¬S k):Fwd w' F f n B base L:=by
 obtain⟨h1,h2,h3,tt,o,p1,b1,p2,b2,c0,c1,c2,hO,hE,k1,k2,k3,k4,k5⟩:=h;exact⟨κ h1 t.size,h2,h3,tt,o,p1,b1,p2,b2,(t.cell h1 (hS f h2 h1) 0).trans c0,(t.cell h1 (hS f h2 h1) 1).trans c1,(t.cell h1 (hS f h2 h1) 2).trans c2,hO.touch t hS,hE.touch t (hS _ k1 hE.hm) (hS _ k2 hE.v1.hp) (hS _ k3 hE.v1.hb) (hS _ k4 hE.v2.hp) (hS _ k5 hE.v2.hb),k1,k2,k3,k4,k5⟩
theorem Fwd.gr{F base:Nat}(h:Fwd w F f n B base L)(g:Gr w w'):Fwd w' F f n B base L:=h.touch (g.touch (λ_=>False)) (λ_ _ _ h=>h)
theorem Fwd.good{F base:Nat}(h:Fwd w F f n B base L):AP n L/\n<=1048576:=by
 obtain⟨_,_,_,_,_,_,_,_,_,_,_,_,hO,hE,_⟩:=h;exact⟨hE.good,hE.nb.2⟩
theorem W9(h:AP n L)(hn:n<=1048576)(a:Int):0<=AZ L 0 a/\AZ L 0 a<=1048576:=by
 rw[<-Q2 h];have:JY L n 0 a<=n:=D0 _ _;omega
section
variable{F base:Nat}
theorem QH(hF:Fwd w F f n B base L)(a:Int):AY prog 147 #[pP f,iI a] w (.tuple #[iI (toV L base a),iI (toE L a)]):=by
 obtain⟨hg,hn⟩:=hF.good;obtain⟨h1,h2,h3,t,o,p1,b1,p2,b2,c0,c1,c2,hO,hE,-⟩:=hF;have J:=W9 hg hn a;have hl:=QFq (L:=L) a;by_cases hf:A1 L a<L.length
 ·have HV:Hid (toV L base a=base+AZ L 0 a/\toE L a=0):=⟨by unfold toV toE;omega⟩;have HL:Hid ((decide (0<=a)&&DH L a.toNat)=true):=⟨by simp_all⟩;rw[HV.o.1,HV.o.2];obtain⟨ov,X⟩:∃ov,ov=AZ L 0 a:=⟨_,rfl⟩;rw[<-X]at J⊢;have U:=X.symm;have z0:∀xs m,(grow w xs m).cell? ⟨f,0,none⟩=some (pP t):=λxs m=>((grown w xs m).cell h1 0).trans c0;have z2:∀xs m,(grow w xs m).cell? ⟨f,2,none⟩=some (iI base):=λxs m=>((grown w xs m).cell h1 2).trans c2;have hwr:IntKind.i64.wrap ((base:Int)+ov)=(base:Int)+ov:=ζt _ Ω;clear hl hf X;unfold AY;go_enter func147,ntmps147;go_wp2_with(go_at_call 192;refine(ZaO hO a).mono ?_;rintro e w1 ⟨rfl,rfl⟩;rw[HL.o]);refine IV (by kernel_rfl) (by kernel_rfl) ?_
  repeat(go_big_quiet_step ((go_at_call 193;have hc:=λxs m=>YWi (hO.gr (grown w xs m)) a;simp only[U]at hc;exact AY.grown (hc _ _))))
  refine ζb ?_;intro _ Z;obtain⟨⟨xs,nq⟩,Y⟩:=Z;subst Y;go_wp2;go_ret2;exact⟨rfl,grown w _ _⟩
 ·have HV:=ι (OJ (base:=base) hf);have HL:Hid ((decide (0<=a)&&DH L a.toNat)=false):=⟨by simp_all⟩;rw[HV.o.1,HV.o.2];unfold AY;go_enter func147,ntmps147;go_wp2_with(go_at_call 192;refine(ZaO hO a).mono ?_;rintro e w1 ⟨rfl,rfl⟩;rw[HL.o]);go_ret2;exact⟨rfl,Gr.refl _⟩
theorem YT(hF:Fwd w F f n B base L):cQ 163 #[pP f] w (iI base):=by
 obtain⟨h1,h2,h3,t,o,p1,b1,p2,b2,c0,c1,c2,-⟩:=hF;go_enter func163,ntmps163;go_wp2;go_ret
 simp_all
theorem Y1(hF:Fwd w F f n B base L):cQ 160 #[pP f] w (iI (sizes L:Nat)):=by
 obtain⟨h1,h2,h3,t,o,p1,b1,p2,b2,c0,c1,c2,hO,-⟩:=hF;go_enter func160,ntmps160;go_wp2_with(go_at_call 186;refine(XcN hO).mono ?_;rintro e w1 ⟨rfl,rfl⟩);go_ret
 simp_all
theorem MR(hF:Fwd w F f n B base L):AY prog 143 #[pP f] w (iI ((base:Int)+(sizes L:Nat))):=by
 obtain⟨hg,hn⟩:=hF.good;have hs:=FO hg;obtain⟨h1,h2,h3,t,o,p1,b1,p2,b2,c0,c1,c2,hO,-⟩:=hF;have z0:∀xs m,(grow w xs m).cell? ⟨f,0,none⟩=some (pP t):=λxs m=>((grown w xs m).cell h1 0).trans c0;have z2:∀xs m,(grow w xs m).cell? ⟨f,2,none⟩=some (iI base):=λxs m=>((grown w xs m).cell h1 2).trans c2;have hwr:IntKind.i64.wrap ((base:Int)+(sizes L:Nat))=(base:Int)+(sizes L:Nat):=ζt _ Ω;go_enter func143,ntmps143;go_wp2;refine IV (by kernel_rfl) (by kernel_rfl) ?_
 repeat(go_big_quiet_step ((go_at_call 186;have hc:=λxs m=>XcN (hO.gr (grown w xs m));exact AY.grown_same (hc _ _))))
 refine ζb ?_;intro _ X;obtain⟨⟨xs,nq⟩,hw''⟩:=X;go_wp2;go_ret;exact⟨rfl,grown w _ _⟩
theorem MS(hF:Fwd w F f n B base L)(hT:AQ w)(b:Int)(_hb:b<=9223372036854775807):AY prog 201 #[pP f,iI b] w (.tuple #[iI (CK L base b),iI (FV L base b)]):=by
 obtain⟨hg,hn⟩:=hF.good;have hs:=FO hg;have HF:=hF;obtain⟨h1,h2,h3,t,o,p1,b1,p2,b2,c0,c1,c2,hO,-⟩:=hF;have HO:=hO;by_cases hb1:b<base
 ·have E:=ι (L6 (UC (L:=L) (base:=base) (b:=b) Ω));rw[E.o.1,E.o.2.2];unfold AY;go_enter func201,ntmps201;go_wp2;go_ret2;exact⟨rfl,Gr.refl _⟩
 ·by_cases hb2:(base:Int)+(sizes L:Nat)<=b
  ·have E:=ι (L6 (UC (L:=L) (base:=base) (b:=b) Ω));rw[E.o.1,E.o.2.2];unfold AY;go_enter func201,ntmps201;go_wp2_with(go_at_call 143;refine(MR HF).mono ?_;rintro e w1 ⟨rfl,X⟩);go_ret2
   simp_all
  ·have hin:inF L base b=true:=E8.2 ⟨by omega,by omega⟩;have E:Hid (CK L base b=IN L (b-base)/\FV L base b=0):=⟨by unfold CK FV;simp_all⟩;rw[E.o.1,E.o.2];obtain⟨q,hq⟩:∃q,q=b-(base:Int):=⟨_,rfl⟩;have hwr:IntKind.i64.wrap (b-(base:Int))=b-(base:Int):=ζt _ Ω;unfold AY;go_enter func201,ntmps201;go_wp2_with(go_at_call 143;refine(MR HF).mono ?_;rintro e w1 ⟨rfl,X⟩);have z0:∀xs m,(grow w1 xs m).cell? ⟨f,0,none⟩=some (pP t):=λxs m=>((X.trans (grown w1 xs m)).cell h1 0).trans c0;have z2:∀xs m,(grow w1 xs m).cell? ⟨f,2,none⟩=some (iI base):=λxs m=>((X.trans (grown w1 xs m)).cell h1 2).trans c2;refine IV (by kernel_rfl) (by kernel_rfl) ?_
   repeat(go_big_quiet_step ((go_at_call 226;have hc:=λxs m=>VXx (HO.gr (X.trans (grown w1 xs m))) ((X.trans (grown w1 xs m)).tab hT.lt hT) (b-(base:Int));exact AY.grown (hc _ _))))
   refine ζb ?_;intro _ Z;obtain⟨⟨xs,nq⟩,Y⟩:=Z;subst Y;go_wp2;go_ret2;exact⟨rfl,X.trans (grown w1 _ _)⟩
end
section
attribute [local go_sem] Oper.semAt_some
theorem VEu(k b:Int)(w:World):cQ 142 #[.pointer none,iI k,iI b] w (.tuple #[.pointer none,iI 9]):=by
 refine(τ (n:=5)).1 ?_;refine callsIn_of_wp_marks func142 rfl trivial ?_ rfl;simp only[ntmps142,ζS,ζw,ζ7,Nat.reduceAdd,Nat.reduceSub,ζJ,ζI,ζY,ζN,ζV,ζq];gi_wp2_with(refine⟨trivial,?_⟩;gi_at_call 185;refine(τ.2 (JWx k _)).mono ?_;rintro e w1 ⟨rfl,rfl⟩);refine⟨.tuple #[.pointer none,iI 9],?_,rfl,rfl⟩;simp[results,f142,go_sem]
structure QQ(W0:World)(o p1 b1 p2 b2 n:Nat)(L:List Ob)(j:Nat)(A:World):Prop where
 t:AB (λi=>AN o b1 b2 i\/W0.heap.size<=i) W0 A
 jl:j<=L.length
 ext:Ext A o p1 b1 p2 b2 n (L.take j)
def FU(b:Int):Bool:=decide (0<=b)&&decide (b<2147483648)
def VWZ(w:World)(n:Nat)(L:List Ob)(k b:Int)(e:Ending)(w':World):Prop:=
 Gr w w'/\(((BI k&&FU b)=false/\e=.returned (.tuple #[.pointer none,iI 5]))\/((BI k&&FU b)=true/\∃f B base:Nat,k=B/\b=base/\e=.returned (.tuple #[pP f,iI 0])/\Fwd w' w.heap.size f n B base L))
theorem XJm{b1 b2:Nat}(hE:Ext w m p1 b1 p2 b2 n L)(hT:AQ w)(k b:Int)(hk:k<=9223372036854775807)(hbad:(BI k&&FU b)=false):
  Calls prog 142 #[pP m,iI k,iI b] w (VWZ w n L k b):=by
 have HT:=hT;have HB:=hbad;refine(τ (n:=5)).1 ?_;refine callsIn_of_wp_marks func142 rfl trivial ?_ rfl;simp only[ntmps142,ζS,ζw,ζ7,Nat.reduceAdd,Nat.reduceSub,ζJ,ζI,ζY,ζN,ζV,ζq];cases hok:BI k with
 | false=>
  gi_wp2_with(refine⟨trivial,?_⟩;gi_at_call 185;refine(τ.2 (SB hE HT k hk)).mono ?_;rintro e w1 ⟨X,⟨-,rfl⟩|⟨hb,-⟩⟩;rotate_left;(rw[hok]at hb;cases hb);have Y:=X);refine⟨.tuple #[.pointer none,iI 5],?_,Y,.inl ⟨HB,rfl⟩⟩;simp[results,f142,go_sem]
 | true=>
  rw[hok,ξY]at hbad;by_cases h0:b<0
  ·gi_wp2_with(refine⟨trivial,?_⟩;gi_at_call 185;refine(τ.2 (SB hE HT k hk)).mono ?_;rintro e w1 ⟨X,⟨hb,-⟩|⟨-,t,B,Z,rfl,hO⟩⟩;(rw[hok]at hb;cases hb));refine⟨.tuple #[.pointer none,iI 5],?_,X,.inl ⟨HB,rfl⟩⟩;simp[results,f142,go_sem]
  ·have h1:2147483648<=b:=by
    unfold FU at hbad;rw[φ Ω,ξY]at hbad;have:=of_decide_eq_false hbad;omega
   gi_wp2_with(refine⟨trivial,?_⟩;gi_at_call 185;refine(τ.2 (SB hE HT k hk)).mono ?_;rintro e w1 ⟨X,⟨hb,-⟩|⟨-,t,B,Z,rfl,hO⟩⟩;(rw[hok]at hb;cases hb));refine⟨.tuple #[.pointer none,iI 5],?_,X,.inl ⟨HB,rfl⟩⟩;simp[results,f142,go_sem]
theorem VN{b1 b2:Nat}(hE:Ext w m p1 b1 p2 b2 n L)(hT:AQ w)(k b:Int)(hk:k<=9223372036854775807):
  Calls prog 142 #[pP m,iI k,iI b] w (VWZ w n L k b):=by
 cases hgo:(BI k&&FU b)with
 | false=>exact XJm hE hT k b hk hgo
 | true=>
  obtain⟨Xd,Xb⟩:=ζ6.1 hgo;have Xk:0<=b/\b<2147483648:=by unfold FU at Xb;simpa using Xb
  obtain⟨base,rfl⟩:∃base:Nat,b=base:=⟨b.toNat,by omega⟩;obtain⟨hb0,hb1⟩:=Xk;have d0:decide ((base:Int)<0)=false:=ζ Ω;have d1:decide ((2147483648:Int)<=(base:Int))=false:=ζ Ω;have HO:=Xd;have HE:=hE;have HT:=hT;obtain⟨Xr,Xy⟩:=hE.nb;have hTl:=hT.lt;clear hE hT Xd Xb;refine(τ (n:=5)).1 ?_;refine callsIn_of_wp_marks func142 rfl trivial ?_ rfl;simp only[ntmps142,ζS,ζw,ζ7,Nat.reduceAdd,Nat.reduceSub,ζJ,ζI,ζY,ζN,ζV,ζq]
  gi_wp2_with(first
   | (refine⟨trivial,?_⟩;gi_at_call 185;refine(τ.2 (SB HE HT k hk)).mono ?_;rintro e w1 ⟨G,⟨hb,-⟩|⟨-,t,B,Xn,rfl,hO⟩⟩;(rw[HO]at hb;cases hb);have Xw:=hO;have Xx:=Xn;clear hO Xn)
   | (refine⟨trivial,?_⟩;gi_at_call 84;refine(τ.2 (EN (HE.gr G))).mono ?_;rintro e w2 ⟨rfl,rfl⟩)
   | (refine⟨trivial,?_⟩;gi_at_call 46;refine(τ.2 (N7 n Xr Xy _)).mono ?_;rintro e w2 ⟨o,q1,r1,q2,r2,rfl,E,Xg,Xj,Xl,Xm,Xi,Xf⟩;have V:=Xg;have HX:=(ξ Xj (ξ Xl (ξ Xm (ξ Xi Xf))));clear Xg Xj Xl Xm Xi Xf)
   | (refine⟨trivial,?_⟩;gi_at_call 144;refine(τ.2 (JZ (some ⟨m,0,none⟩))).mono ?_;rintro e w3 ⟨rfl,rfl⟩))
  obtain⟨X,hX⟩:∃X,X=w2.heap.size:=⟨_,rfl⟩;obtain⟨W0,U⟩:∃W0,W0=(w2.alloc (.cells #[.pointer (some ⟨o,0,none⟩)] 93)).alloc (.cells #[.pointer (some ⟨m,0,none⟩)] 93):=⟨_,rfl⟩;have I:Gr w2 W0:=by rw[U];exact((Gr.refl w2).alloc _).alloc _
  have hs0:W0.heap.size=X+2:=by rw[U,hX];simp
  have e0:W0.cell? ⟨X,0,none⟩=some (pP o):=by rw[U,hX];exact((Boxed.new w2 _ _).alloc _).cell
  have e1:W0.cell? ⟨X+1,0,none⟩=some (pP m):=by
   rw[U,hX];have:=Boxed.new (w2.alloc (.cells #[.pointer (some ⟨o,0,none⟩)] 93)) 93 (pP m);rw[γ]at this;exact this.cell
  have Xq:=G.size;have Xu:=E.size;have o1:=HE.hm;have o2:=HE.v1.hp;have o3:=HE.v1.hb;have o4:=HE.v2.hp;have o5:=HE.v2.hb;have j1:=V.hm;have j2:=V.v1.hp;have j3:=V.v1.hb;have j4:=V.v2.hp;have j5:=V.v2.hb;rw[<-hX]at Xu j1 j2 j3 j4 j5;have N:=((G.trans E).trans I);have Ya:=(HE.gr N);have Yc:=(V.gr I);have Xz:=(E.trans I);have M:=HE.good;have Xa:=(ξ e0 e1);have HW1:=(show w.heap.size<=w1.heap.size from Xq);rw[<-U,<-hX];clear U hX I e0 e1;have Y:∀i,AN o r1 r2 i->w1.heap.size<=i/\i<X:=λi h=>by rcases h with rfl|rfl|rfl <;> omega
  have Xv:QQ W0 o q1 r1 q2 r2 n L 0 W0:=⟨AB.refl _ _,ζe _,Yc⟩
  have tI:∀j A B,QQ W0 o q1 r1 q2 r2 n L j A->AB (λi=>W0.heap.size<=i) A B->QQ W0 o q1 r1 q2 r2 n L j B:=λj A B h t=>
   ⟨h.t.trans (t.mono (λi _ h=>.inr h)),h.jl,h.ext.touch t Ω Ω Ω Ω Ω⟩
  refine SR (s0:=0) rfl Ω (gf:=187) (lb:=#[pP (X+1)]) rfl trivial (enters_of func187 (by kernel_rfl) rfl)
   (Xix _ (X+1) m p1 b1 p2 b2 n L _) (λ_=>rfl)
   (QQ W0 o q1 r1 q2 r2 n L) (λ_ _=>False) tI (λ_ _ _ h _=>h)
   (λj A h=>⟨Ya.touch h.t (λh=>by rcases h with h|h;have:=Y _ h;omega;omega) (λh=>by rcases h with h|h;have:=Y _ h;omega;omega) (λh=>by rcases h with h|h;have:=Y _ h;omega;omega) (λh=>by rcases h with h|h;have:=Y _ h;omega;omega) (λh=>by rcases h with h|h;have:=Y _ h;omega;omega),
    (N.tab HT.lt HT).touch' h.t (λh=>by rcases h with h|h;have:=Y _ h;omega;omega),(h.t.cell Ω (λh=>by rcases h with h|h;have:=Y _ h;omega;omega) 0).trans Xa.2,h.jl⟩)
   Xv ?round ?done (λ_ _ _ _ h _=>h.elim)
  case round=>
   intro lp j x W3 hsz3 Z J;dsimp only[GJ];gi_wp2;refine⟨Gr.refl _,λW4 ht4 hI4=>?_⟩
   have Xc:j<L.length:=by
    rcases υ j L.length with h|h
    ·exact h
    ·unfold EJ at J;rw[ζH h]at J;cases J
   obtain rfl:x=L[j]:=by unfold EJ at J;rw[η Xc]at J;exact(Option.some.inj J).symm
   have hsz':=M.sz _ (μ Xc);have Xs:=(Zne M Xc);have c6:=(hI4.t.cell (b:=X) Ω (λh=>by rcases h with h|h;have:=Y _ h;omega;omega) 0).trans Xa.1;have Yb:=((N.tab HT.lt HT).touch' hI4.t (λh=>by rcases h with h|h;have:=Y _ h;omega;omega));clear Z ht4 J;gi_wp2_with(refine⟨trivial,?_⟩;gi_at_call 177;refine(CallsIn.inRound lp (τ.2 (Zc1 hI4.ext Yb _ _))).mono ?_;rintro e w5 ⟨rfl,Xp,Xo⟩);rw[Xs]at Xo;exact⟨Xp.mono (λi _ h=>by have:=Y _ h;omega),j+1,rfl,hI4.t.trans (Xp.mono (λi _ h=>.inl h)),by omega,Xo⟩
  case done=>
   rintro D j W3 hD rfl Z hK;have c6:=(Z.t.cell (b:=X) Ω (λh=>by rcases h with h|h;have:=Y _ h;omega;omega) 0).trans Xa.1;have Xh:=Z.ext;rw[ζ8]at Xh;have Xt:=((Xz.touch (λi=>w1.heap.size<=i)).trans' Z.t (λi hi h=>by rcases h with h|h;exact(Y _ h).1;omega));have HK:=hK;have HD:=hD;have Xe:Gr w W3:=((N.touch (λ_=>False)).trans' Z.t (λi hi h=>by rcases h with h|h;have:=Y _ h;omega;omega)).gr;have Ye:=Xe;have hz6:=Z.t.size;clear Z hK hD Xe;gi_wp2;obtain⟨O,hO⟩:∃O:Obj,O=.cells #[pP t,pP o,iI base] 257:=⟨_,rfl⟩;rw[<-hO];have Yd:(W3.alloc O).heap[D]?=some (.deferred (some [])):=(((Gr.refl W3).alloc _).block (ζn.1 HK).1).trans HK;have tt:=((Ye.alloc O).touch (λ_=>False)).trans' (C6 _ D (.deferred none) (ϑ D)) (λi hi h=>by have:=HD;have:=N.size;omega);refine⟨by simp,.inl ⟨_,_,rfl,run_takeDeferred Yd,?_⟩⟩;refine⟨.tuple #[pP W3.heap.size,iI 0],?_,tt.gr,.inr ⟨hgo,W3.heap.size,B,base,Xx,rfl,rfl,?_⟩⟩
   ·simp[results,f142,go_sem]
   ·have t5:=DP (W3.alloc O) D (.deferred none);have hdl:=(ζn.1 HK).1;have hl:W3.heap.size<(W3.alloc O).heap.size:=by rw[γ];omega
    subst hO
    exact⟨κ hl t5.size,by omega,by omega,t,o,q1,r1,q2,r2,(t5.cell (b:=W3.heap.size) hl Ω 0).trans (ζF ..),(t5.cell (b:=W3.heap.size) hl Ω 1).trans (ζF ..),(t5.cell (b:=W3.heap.size) hl Ω 2).trans (ζF ..),
     Xw.touch ((Xt.trans (((Gr.refl W3).alloc _).touch _)).trans' t5 (λi hi h=>by omega)) (λk _ h1 h2=>by omega),(Xh.gr ((Gr.refl _).alloc _)).touch t5 Ω Ω Ω Ω Ω,by omega,by omega,by omega,by omega,by omega⟩
end
end Go.Proofs.YtggjoonlcjjgkaaGreatDoor
