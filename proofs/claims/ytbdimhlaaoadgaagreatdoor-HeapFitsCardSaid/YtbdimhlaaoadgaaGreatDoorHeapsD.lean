/- Part 4 of what Heaps leans on: my own lemmas, merged by shake.py. -/
import Derived.Test.YtbdimhlaaoadgaaGreatDoorHeapsC
namespace Go.Proofs.YtbdimhlaaoadgaaGreatDoor
open _root_.Go.Proofs.Tryz
set_option maxHeartbeats 3200000
set_option maxRecDepth 100000
open Go.RowKit Word
variable{held:Bool}{a base:Int}{X Y:Int->Prop}{l:List Bool}{O rs:List Int}{L M:List Ob}{cs:List Value}{B BASE K N R b c fuel hi i j k lo m m' n n' off p q r x y z:Nat}{spare:Nat->Bool}{F:Nat->Nat}{Q S:Nat->Prop}{H:Type}{u v v':Vm}{w w' w1 wr:World}
def X5(v:Vm)(a b:Int):Prop:=v.rdE a=0/\∃i:Nat,(i:Int)<(v.rdH a).p/\v.ptE a i=0/\v.ptV a i≠0/\b=(v.ptV a i:Nat)
def Rch(v:Vm)(rs:List Int)(a:Int):Prop:=∀P:Int->Prop,(∀r∈rs,r≠0->P r)->(∀a b,P a->X5 v a b->P b)->P a
theorem Rch.root{r:Int}(h:r∈rs)(h0:r≠0):Rch v rs r:=λ_ h1 _=>h1 r h h0
theorem Rch.step{b:Int}(h:Rch v rs a)(hp:X5 v a b):Rch v rs b:=λP h1 h2=>h2 a b (h P h1 h2) hp
def Vm.osz(v:Vm)(a:Int):Int:=BL (v.rdH a)
structure DP(v:Vm)(rs:List Int)(n:Nat):Prop where
 rd:∀a,Rch v rs a->v.rdE a=0
 pt:∀a,Rch v rs a->∀i:Nat,(i:Int)<(v.rdH a).p->v.ptE a i=0
 rm:∀a,Rch v rs a->a+v.osz a<=n
 dj:∀a b,Rch v rs a->Rch v rs b->a=b\/a+v.osz a<=b\/b+v.osz b<=a
def Hs(L:List Ob)(a:Int):Prop:=∃o∈L,(o.1:Int)=a
structure Mk(v:Vm)(rs:List Int)(n:Nat)(L:List Ob):Prop where
 good:AO n L
 ats:∀o∈L,Rch v rs o.1/\v.rdE o.1=0/\(o.2:Int)=v.osz o.1
theorem Mk.nil(v:Vm)(rs:List Int)(n:Nat):Mk v rs n []:=⟨AO.nil n,λ_ h=>by cases h⟩
theorem DB(h:v.rdE a=0):0<a/\1<=v.osz a/\v.osz a<=256:=by
 obtain⟨h0,-,p,f,k,e,hs⟩:=F7 h;refine⟨h0,?_⟩;unfold Vm.osz;rw[e,show BL ⟨p,f,k⟩=1+(p:Int)+f+k from θ (DJ hs)];omega
theorem Mk.hs(h:Mk v rs n L)(ha:Hs L a):Rch v rs a/\v.rdE a=0:=by
 obtain⟨o,ho,rfl⟩:=ha;exact⟨(h.ats o ho).1,(h.ats o ho).2.1⟩
theorem QH9{b:Int}(hr:v.rdE a=0)(he:C8 L n a (v.osz a)=0):Hs (C2 L n a (v.osz a)) b↔b=a\/Hs L b:=by
 have h0:=(DB hr).1;unfold C2 Hs;rw[θ he];constructor
 ·rintro⟨o,ho,rfl⟩;rcases GG.1 ho with rfl|ho
  ·left;omega
  grind
 ·rintro(rfl|⟨o,ho,rfl⟩)
  ·exact⟨_,GG.2 (.inl rfl),by omega⟩
  ·exact⟨o,GG.2 (.inr ho),rfl⟩
theorem Mk.add(h:Mk v rs n L)(ha:Rch v rs a)(hr:v.rdE a=0)(he:C8 L n a (v.osz a)=0):Mk v rs n (C2 L n a (v.osz a)):=by
 refine⟨V9U h.good _ _,λo ho=>?_⟩;have hp:=DB hr;unfold C2 at ho;rw[θ he]at ho;rcases GG.1 ho with rfl|ho
 ·grind
 ·exact h.ats o ho
theorem ZoS{s z:Int}(he:C8 L n s z=0):(C2 L n s z).length=L.length+1:=by
 unfold C2;rw[θ he,YKx]
theorem Mk.fail(h:Mk v rs n L)(ha:Rch v rs a)(hn:¬Hs L a)(he:C8 L n a (v.osz a)≠0):¬DP v rs n:=λhS=>by
 have hr:=hS.rd a ha;have hp:=DB hr;have hm:=hS.rm a ha;unfold C8 at he;rw[ψ Ω,ψ Ω]at he
 split at he
 ·rename_i hc;obtain⟨o,ho,h1,h2⟩:=RS.1 hc;obtain⟨q1,q2,q3⟩:=h.ats o ho;rcases hS.dj a o.1 ha q1 with e|e|e
  ·exact hn ⟨o,ho,e.symm⟩
  ·omega
  ·omega
 omega
def Cl(v:Vm)(L:List Ob)(a:Int):Prop:=∀i:Nat,(i:Int)<(v.rdH a).p->v.ptE a i=0/\(v.ptV a i≠0->Hs L (v.ptV a i:Nat))
structure BH(v:Vm)(rs:List Int)(n:Nat)(L:List Ob):Prop where
 mkd:Mk v rs n L
 all:∀a,Rch v rs a->Hs L a
 cl:∀o∈L,Cl v L o.1
theorem BH.of(h:Mk v rs n L)(hr:∀r∈rs,r≠0->Hs L r)(hc:∀o∈L,Cl v L o.1):BH v rs n L:=by
 refine⟨h,λa ha=>ha (Hs L) hr ?_,hc⟩;rintro a b ⟨o,ho,rfl⟩ ⟨-,i,hi,h0,h1,rfl⟩;exact(hc o ho i hi).2 h1
theorem BH.sound(h:BH v rs n L):DP v rs n:=by
 refine⟨λa ha=>(h.mkd.hs (h.all a ha)).2,λa ha i hi=>?_,λa ha=>?_,λa b ha hb=>?_⟩
 ·obtain⟨o,ho,rfl⟩:=h.all a ha;exact(h.cl o ho i hi).1
 ·obtain⟨o,ho,rfl⟩:=h.all a ha;have:=(h.mkd.good.sz o ho).2;have:=(h.mkd.ats o ho).2.2;omega
 ·obtain⟨o,ho,rfl⟩:=h.all a ha;obtain⟨q,hq,rfl⟩:=h.all b hb;have:=(h.mkd.ats o ho).2.2;have:=(h.mkd.ats q hq).2.2;rcases h.mkd.good.disj ho hq with e|e|e
  ·left;rw[e]
  ·omega
  omega
theorem YKj(h1:L.Pairwise (λo q=>o.1<q.1))(h2:M.Pairwise (λo q=>o.1<q.1))(h:∀x,x∈L↔x∈M):L=M:=by
 induction L generalizing M with
 | nil=>
  cases M with
  | nil=>rfl
  | cons m M=>grind [ζt]
 | cons l L ih=>
  cases M with
  | nil=>grind
  | cons m M=>
   obtain⟨a1,a2⟩:=ξi.1 h1;obtain⟨b1,b2⟩:=ξi.1 h2
   grind
theorem AO.lt(h:AO n L):L.Pairwise (λo q=>o.1<q.1):=by
 refine List.pairwise_iff_getElem.2 λi j hi hj hij=>?_;have:=h.at hi hj hij;have:=(h.sz _ (τ hi)).1;omega
theorem BH.unique(h:BH v rs n L)(h':BH v rs n M):L=M:=by
 have X:∀{L M:List Ob},BH v rs n L->BH v rs n M->∀x∈L,x∈M:=λ{L M} h h' x hx=>by
  obtain⟨q1,q2,q3⟩:=h.mkd.ats x hx;obtain⟨o,ho,e⟩:=h'.all _ q1;obtain⟨p1,p2,p3⟩:=h'.mkd.ats o ho
  grind
 exact YKj h.mkd.good.lt h'.mkd.good.lt λx=>⟨X h h' x,X h' h x⟩
structure MkS where
 L:List Ob
 st:List Int
 lost:Bool
variable{s:MkS}
def MkS.push(s:MkS)(R:Nat)(L':List Ob)(a:Int):MkS:=if s.st.length<R then ⟨L',s.st++[a],s.lost⟩else ⟨L',s.st,true⟩
structure DK(s s':MkS):Prop where
 sub:∀a,Hs s.L a->Hs s'.L a
 len:s.L.length<=s'.L.length
 los:s'.lost=true->s.lost=true\/s.L.length<s'.L.length
 mea:2*s.L.length+s'.st.length<=2*s'.L.length+s.st.length
theorem DK.refl(s:MkS):DK s s:=⟨λ_ h=>h,κ _,λh=>.inl h,κ _⟩
theorem DK.trans{t u:MkS}(h:DK s t)(k:DK t u):DK s u:=
 ⟨λa ha=>k.sub a (h.sub a ha),ω h.len k.len,λhl=>by
  rcases k.los hl with h1|h1
  ·rcases h.los h1 with h2|h2
   ·exact .inl h2
   ·exact .inr (ϑ h2 k.len)
  ·exact .inr (ξq h.len h1),by have:=h.mea;have:=k.mea;omega⟩
theorem Cl.mono(hs:∀a,Hs L a->Hs M a)(h:Cl v L a):Cl v M a:=λi hi=>⟨(h i hi).1,λh0=>hs _ ((h i hi).2 h0)⟩
structure CB(v:Vm)(rs:List Int)(n R:Nat)(X:Int->Prop)(s:MkS):Prop where
 mkd:Mk v rs n s.L
 st:∀a∈s.st,Hs s.L a
 r:s.st.length<=R
 cl:∀a,Hs s.L a->Cl v s.L a\/a∈s.st\/s.lost=true\/X a
theorem CB.weak(h:CB v rs n R X s)(hX:∀a,X a->Y a):CB v rs n R Y s:=
 ⟨h.mkd,h.st,h.r,λa ha=>(h.cl a ha).imp id (Or.imp id (Or.imp id (hX a)))⟩
theorem CB.push(h:CB v rs n R X s)(ha:Rch v rs a)(hr:v.rdE a=0)(he:C8 s.L n a (v.osz a)=0):
  CB v rs n R X (s.push R (C2 s.L n a (v.osz a)) a)/\DK s (s.push R (C2 s.L n a (v.osz a)) a)/\Hs (s.push R (C2 s.L n a (v.osz a)) a).L a:=by
 have hm:=h.mkd.add ha hr he;have hh:=λb=>QH9 (b:=b) hr he;have hl:=ZoS he;have Y:∀b,Hs s.L b->Hs (C2 s.L n a (v.osz a)) b:=λb hb=>(hh b).2 (.inr hb);unfold MkS.push
 split
 ·rename_i hR;refine⟨⟨hm,λb hb=>?_,by simp;omega,λb hb=>?_⟩,⟨Y,by simp_all,λh=>.inl h,by simp;omega⟩,(hh a).2 (.inl rfl)⟩
  ·rcases ζr.1 hb with hb|hb
   ·exact Y b (h.st b hb)
   simp_all
  ·rcases(hh b).1 hb with rfl|hb
   ·simp_all
   ·rcases h.cl b hb with h1|h1|h1|h1
    ·exact .inl (h1.mono Y)
    ·simp_all
    ·simp_all
    simp_all
 ·refine⟨⟨hm,λb hb=>Y b (h.st b hb),h.r,λb _=>.inr (.inr (.inl rfl))⟩,⟨Y,by simp_all,λ_=>.inr (by simp_all),by grind⟩,(hh a).2 (.inl rfl)⟩
theorem CB.pop{st:List Int}{lost:Bool}(h:CB v rs n R X ⟨L,st++[a],lost⟩):CB v rs n R (λb=>X b\/b=a) ⟨L,st,lost⟩/\Hs L a:=by
 refine⟨⟨h.mkd,λb hb=>h.st b (ζr.2 (.inl hb)),by have:=h.r;grind,λb hb=>?_⟩,h.st a (ζr.2 (.inr (ζL.2 rfl)))⟩;rcases h.cl b hb with h1|h1|h1|h1
 ·exact .inl h1
 ·grind
 ·simp_all
 simp_all
theorem CB.done(h:CB v rs n R X s)(hc:Cl v s.L a)(hX:∀b,X b->Y b\/b=a):CB v rs n R Y s:=
 ⟨h.mkd,h.st,h.r,λb hb=>by
  rcases h.cl b hb with h1|h1|h1|h1
  ·exact .inl h1
  ·simp_all
  ·simp_all
  grind⟩
def ClN(v:Vm)(L:List Ob)(a:Int)(k:Nat):Prop:=∀i:Nat,i<k->v.ptE a i=0/\(v.ptV a i≠0->Hs L (v.ptV a i:Nat))
theorem ClN.mono(hs:∀a,Hs L a->Hs M a)(h:ClN v L a k):ClN v M a k:=λi hi=>⟨(h i hi).1,λh0=>hs _ ((h i hi).2 h0)⟩
theorem ClN.succ(h:ClN v L a k)(h0:v.ptE a k=0)(h1:v.ptV a k≠0->Hs L (v.ptV a k:Nat)):ClN v L a (k+1):=λi hi=>by
 rcases χ i k with h2|h2
 ·exact h i h2
 grind
theorem ClN.cl(h:ClN v L a k)(hk:(v.rdH a).p<=k):Cl v L a:=λi hi=>h i Ω
theorem CB.marks(h:CB v rs n R X s)(hX:∀a,¬X a)(hst:s.st=[])(hlost:s.lost=false)(hr:∀r∈rs,r≠0->Hs s.L r):BH v rs n s.L:=by
 refine BH.of h.mkd hr λo ho=>?_;rcases h.cl o.1 ⟨o,ho,rfl⟩with h1|h1|h1|h1
 ·exact h1
 ·simp_all
 ·simp_all
 simp_all
theorem ZFY(ha:Rch v rs a)(h:v.rdE a≠0):¬DP v rs n:=λhS=>h (hS.rd a ha)
theorem J7J(ha:Rch v rs a)(hi:(i:Int)<(v.rdH a).p)(h:v.ptE a i≠0):¬DP v rs n:=λhS=>h (hS.pt a ha i hi)
def FO(l xs:List Nat):List Nat:=xs.foldl (λl x=>if x≠0/\¬x∈l then l++[x]else l) l
def F2(p:Nat->List Nat):Nat->List Nat->Nat->List Nat
 | 0,l,_=>l
 | f+1,l,i=>if i<l.length then F2 p f (FO l (p (l.getD i 0))) (i+1)else l
theorem Xja(l:List Nat):FO l []=l:=rfl
theorem XS(l:List Nat)(x:Nat)(xs:List Nat):FO l (x :: xs)=FO (if x≠0/\¬x∈l then l++[x]else l) xs:=rfl
theorem KU:∀(xs l:List Nat) (y:Nat),y∈FO l xs↔y∈l\/(y∈xs/\y≠0)
 | [],l,y=>by simp[Xja]
 | x :: xs,l,y=>by
  rw[XS,KU xs]
  grind
theorem QP:∀(xs l:List Nat),∃t,FO l xs=l++t
 | [],l=>⟨[],by simp[Xja]⟩
 | x :: xs,l=>by
  rw[XS];by_cases h:x≠0/\¬x∈l
  ·obtain⟨t,ht⟩:=QP xs (l++[x])
   simp_all
  ·obtain⟨t,ht⟩:=QP xs l
   grind
def OkL(l:List Nat):Prop:=l.Nodup/\¬0∈l
theorem OX:∀(xs:List Nat) {l:List Nat},OkL l->OkL (FO l xs)
 | [],_,h=>h
 | x :: xs,l,h=>by
  rw[XS];refine OX xs ?_;by_cases hx:x≠0/\¬x∈l
  ·rw[θ hx];refine⟨?_,?_⟩
   ·rw[ξZ];exact⟨h.1,by simp,λa ha b hb e=>by simp_all⟩
   ·rw[ζr,ζL];rintro(h1|h1)
    ·exact h.2 h1
    omega
  grind
theorem QmW{l:List Nat}(h:i<l.length):l.getD i 0∈l:=by
 simp_all
theorem ZG(p:Nat->List Nat):∀(f:Nat) (l:List Nat) (i:Nat),∃t,F2 p f l i=l++t
 | 0,l,_=>⟨[],by simp[F2]⟩
 | f+1,l,i=>by
  unfold F2
  split
  ·obtain⟨t,ht⟩:=QP (p (l.getD i 0)) l;obtain⟨t2,ht2⟩:=ZG p f (FO l (p (l.getD i 0))) (i+1)
   simp_all
  simp_all
theorem ZRH(p:Nat->List Nat):∀(f:Nat) (l:List Nat) (i:Nat),OkL l->OkL (F2 p f l i)
 | 0,_,_,h=>h
 | f+1,l,i,h=>by
  unfold F2
  split
  ·exact ZRH p f _ _ (OX _ h)
  ·exact h
def InL(N:Nat)(l:List Nat):Prop:=∀x∈l,1<=x/\x<=N
theorem InL.len{l:List Nat}(h:InL N l)(hn:OkL l):l.length<=N:=by
 have h1:l ⊆ (List.range (N+1)).tail:=λx hx=>by
  have:=h x hx
  grind
 have h2:=hn.1.length_le_of_subset h1
 simp_all
theorem Qg6{l xs:List Nat}(h:InL N l)(hx:∀x∈xs,x<=N):InL N (FO l xs):=λy hy=>by
 rcases(KU _ _ _).1 hy with h1|⟨h1,h2⟩
 ·exact h y h1
 grind
def YkB(p:Nat->List Nat)(l:List Nat)(i:Nat):Prop:=∀j,j<i->∀y∈p (l.getD j 0),y≠0->y∈l
theorem Vsy{l t:List Nat}(h:j<l.length):(l++t).getD j 0=l.getD j 0:=by
 grind
theorem Ybq{p:Nat->List Nat}{N:Nat}(hp:∀x,1<=x->x<=N->∀y∈p x,y<=N):∀(f:Nat) (l:List Nat) (i:Nat),OkL l->InL N l->YkB p l i->i<=l.length->N+1<=f+i->YkB p (F2 p f l i) (F2 p f l i).length/\InL N (F2 p f l i)
 | 0,l,i,ho,hi,_,hil,hf=>by have:=hi.len ho;omega
 | f+1,l,i,ho,hi,hs,hil,hf=>by
  unfold F2
  split
  ·rename_i h;have hx:=hi _ (QmW h);obtain⟨t,ht⟩:=QP (p (l.getD i 0)) l;refine Ybq hp f _ (i+1) (OX _ ho) (Qg6 hi (hp _ hx.1 hx.2)) (λj hj y hy h0=>?_) ?_ Ω
   ·rw[ht,Vsy Ω]at hy;rcases χ j i with X|X
    ·exact(KU _ _ _).2 (.inl (hs j X y hy h0))
    grind [KU]
   grind
  grind
theorem Z7P{p:Nat->List Nat}{Q:Nat->Prop}(hp:∀x,Q x->∀y∈p x,y≠0->Q y):∀(f:Nat) (l:List Nat) (i:Nat),(∀x∈l,Q x)->∀x∈F2 p f l i,Q x
 | 0,_,_,h=>h
 | f+1,l,i,h=>by
  unfold F2
  split
  ·rename_i hi;refine Z7P hp f _ (i+1) (λy hy=>?_)
   grind [KU,QmW]
  ·exact h
def G8(p:Nat->List Nat)(N:Nat)(rs:List Nat):List Nat:=F2 p (N+1) (FO [] rs) 0
theorem YVO:OkL []:=⟨ψd,by simp⟩
theorem Zeq(p:Nat->List Nat)(N:Nat)(rs:List Nat):OkL (G8 p N rs):=ZRH _ _ _ _ (OX _ YVO)
theorem JOE{p:Nat->List Nat}{rs:List Nat}(hp:∀x,1<=x->x<=N->∀y∈p x,y<=N)(hr:∀x∈rs,x<=N):InL N (G8 p N rs)/\(∀x∈rs,x≠0->x∈G8 p N rs)/\∀x∈G8 p N rs,∀y∈p x,y≠0->y∈G8 p N rs:=by
 have X:InL N (FO [] rs):=Qg6 (λx hx=>absurd hx (by simp)) hr;obtain⟨h1,h2⟩:=Ybq hp (N+1) (FO [] rs) 0 (OX _ YVO) X (λj hj=>absurd hj (ζ2 _)) (ζg _) Ω;refine⟨h2,λx hx h0=>?_,λx hx y hy h0=>?_⟩
 ·obtain⟨t,ht⟩:=ZG p (N+1) (FO [] rs) 0;unfold G8
  grind [ξD,KU]
 ·obtain⟨j,hj,e⟩:=List.mem_iff_getElem.1 hx;refine h1 j hj y ?_ h0;have e2:(G8 p N rs).getD j 0=x:=by simp_all
  unfold G8 at e2
  simp_all
theorem VPa{p:Nat->List Nat}{rs:List Nat}(hp:∀x,Q x->∀y∈p x,y≠0->Q y)(hr:∀x∈rs,x≠0->Q x):∀x∈G8 p N rs,Q x:=by
 refine Z7P hp _ _ _ (λx hx=>?_)
 grind [KU]
structure GOb where
 p:Nat
 f:Nat
 k:Nat
 w:List Nat
structure Gph where
 L:List GOb
 S:List Nat
variable{g g':Gph}
def GOb.hdr(o:GOb):Hdr:=⟨o.p,o.f,o.k⟩
def GOb.size(o:GOb):Nat:=1+o.p+o.f+o.k
def Gph.ob(g:Gph)(x:Nat):GOb:=if x=0 then ⟨0,0,0,[]⟩else g.L.getD (x-1) ⟨0,0,0,[]⟩
def Gph.pts(g:Gph)(x:Nat):List Nat:=(g.ob x).w.take (g.ob x).p
structure Gph.Ok(g:Gph):Prop where
 len:∀o∈g.L,o.w.length=o.p+o.f+o.k/\o.p+o.f+o.k<=255
 pt:∀o∈g.L,∀y∈o.w.take o.p,y<=g.L.length
 st:∀y∈g.S,y<=g.L.length
def Gph.Rd(g:Gph)(x:Nat):Prop:=∀P:Nat->Prop,(∀r∈g.S,r≠0->P r)->(∀a,P a->∀b∈g.pts a,b≠0->P b)->P x
theorem Gph.Rd.root(h:r∈g.S)(h0:r≠0):g.Rd r:=λ_ h1 _=>h1 r h h0
theorem Gph.Rd.step{a:Nat}(h:g.Rd a)(hb:b∈g.pts a)(h0:b≠0):g.Rd b:=λP h1 h2=>h2 a (h P h1 h2) b hb h0
theorem Gph.ob_mem(h1:1<=x)(h2:x<=g.L.length):g.ob x∈g.L:=by
 unfold Gph.ob
 grind
theorem Gph.Ok.pts_le(h:g.Ok)(hy:y∈g.pts x):y<=g.L.length:=by
 unfold Gph.pts at hy;rcases χ 0 x with hx|hx
 ·rcases χ g.L.length x with hl|hl
  ·have e:g.ob x=⟨0,0,0,[]⟩:=by
    unfold Gph.ob
    grind
   simp_all
  ·exact h.pt _ (Gph.ob_mem hx hl) y hy
 ·have e:g.ob x=⟨0,0,0,[]⟩:=by unfold Gph.ob;simp_all
  simp_all
theorem Gph.Ok.rd(h:g.Ok)(hx:g.Rd x):1<=x/\x<=g.L.length:=
 hx (λx=>1<=x/\x<=g.L.length) (λr hr h0=>⟨by omega,h.st r hr⟩) (λ_ _ b hb h0=>⟨by omega,h.pts_le hb⟩)
def Gph.all(g:Gph):List Nat:=G8 g.pts g.L.length g.S
theorem Gph.Ok.mem_all(h:g.Ok):x∈g.all↔g.Rd x:=by
 obtain⟨h1,h2,h3⟩:=JOE (p:=g.pts) (N:=g.L.length) (rs:=g.S) (λx _ _ y hy=>h.pts_le hy) h.st;constructor
 ·intro hx;exact VPa (Q:=g.Rd) (λa ha b hb h0=>ha.step hb h0) (λr hr h0=>Gph.Rd.root hr h0) x hx
 ·intro hx;exact hx (λx=>x∈g.all) h2 h3
structure Img(v:Vm)(g:Gph)(F:Nat->Nat)(lo hi:Nat):Prop where
 z:F 0=0
 rd:∀x,g.Rd x->v.rdE (F x)=0
 hd:∀x,g.Rd x->v.rdH (F x)=(g.ob x).hdr
 pt:∀x,g.Rd x->∀i,i<(g.ob x).p->v.ptE (F x) i=0/\v.ptV (F x) i=F ((g.ob x).w.getD i 0)
 wd:∀x,g.Rd x->∀i,(g.ob x).p<=i->i<(g.ob x).p+(g.ob x).f+(g.ob x).k->v.ldE (F x+1+i:Nat)=0/\v.ldV (F x+1+i:Nat)=(g.ob x).w.getD i 0
 lo:∀x,g.Rd x->lo<=F x/\F x+(g.ob x).size<=hi
 dj:∀x y,g.Rd x->g.Rd y->x=y\/F x+(g.ob x).size<=F y\/F y+(g.ob y).size<=F x
theorem Img.pos(h:Img v g F lo hi)(hx:g.Rd x):0<F x:=by
 have:=(DB (h.rd x hx)).1;omega
theorem Img.inj(h:Img v g F lo hi)(hx:g.Rd x)(hy:g.Rd y)(e:F x=F y):x=y:=by
 have h1:=h.dj x y hx hy;have h2:1<=(g.ob x).size:=by unfold GOb.size;omega
 have h3:1<=(g.ob y).size:=by unfold GOb.size;omega
 omega
theorem PY(ho:g.Ok)(hx:g.Rd x)(hi:i<(g.ob x).p):(g.ob x).w.getD i 0∈g.pts x:=by
 obtain⟨h1,h2⟩:=ho.rd hx;have hl:=(ho.len _ (Gph.ob_mem h1 h2)).1;rw[δ,υ Ω,ψA];exact ψv.2 ⟨i,by omega,rfl⟩
theorem Img.rch(h:Img v g F lo hi)(ho:g.Ok)(ha:Rch v (g.S.map λx=>(F x:Int)) a):∃x,g.Rd x/\a=(F x:Nat):=by
 refine ha (λa=>∃x,g.Rd x/\a=(F x:Nat)) (λr hr h0=>?_) ?_
 ·obtain⟨x,hx,rfl⟩:=ξx.1 hr;refine⟨x,Gph.Rd.root hx (λe=>h0 ?_),rfl⟩;rw[e,h.z];rfl
 ·rintro a b ⟨x,hx,rfl⟩ ⟨-,i,hi,-,h1,rfl⟩;rw[h.hd x hx]at hi;have hi:(i:Int)<((g.ob x).p:Int):=hi;have hi:i<(g.ob x).p:=Ω
  have hp:=h.pt x hx i hi;rw[hp.2]at h1⊢;exact⟨_,hx.step (PY ho hx hi) (λe=>h1 (by rw[e,h.z])),rfl⟩
theorem Img.rch_of(h:Img v g F lo hi)(hx:g.Rd x):Rch v (g.S.map λx=>(F x:Int)) (F x:Nat):=by
 have Y:g.Rd x/\Rch v (g.S.map λx=>(F x:Int)) (F x:Nat):=by
  refine hx (λx=>g.Rd x/\Rch v (g.S.map λx=>(F x:Int)) (F x:Nat)) (λr hr h0=>?_) ?_
  ·have:=Gph.Rd.root hr h0;have hp:=h.pos this;exact⟨this,Rch.root (ξx.2 ⟨r,hr,rfl⟩) Ω⟩
  ·rintro a ⟨ha,hr⟩ b hb h0;have X:=ha.step hb h0;refine⟨X,hr.step ⟨h.rd a ha,?_⟩⟩;obtain⟨i,hi,e⟩:=ψv.1 hb;have Z:i<(g.ob a).p:=Ω
   have hw:(g.ob a).w.getD i 0=b:=by rw[δ,υ Ω,ψA,e]
   obtain⟨p1,p2⟩:=h.pt a ha i Z;rw[hw]at p2;refine⟨i,?_,p1,?_,?_⟩
   ·rw[h.hd a ha]
    show (i:Int)<((g.ob a).p:Int)
    omega
   ·have:=h.pos X;omega
   ·rw[p2]
 exact Y.2
theorem Img.osz(h:Img v g F lo hi)(ho:g.Ok)(hx:g.Rd x):v.osz (F x)=(g.ob x).size:=by
 obtain⟨h1,h2⟩:=ho.rd hx;have hl:=(ho.len _ (Gph.ob_mem h1 h2)).2;unfold Vm.osz;rw[h.hd x hx];unfold BL CQ GOb.hdr inS GOb.size
 grind
theorem Img.sound(h:Img v g F lo hi)(ho:g.Ok):DP v (g.S.map λx=>(F x:Int)) hi:=by
 refine⟨λa ha=>?_,λa ha i hi=>?_,λa ha=>?_,λa b ha hb=>?_⟩
 ·obtain⟨x,hx,rfl⟩:=h.rch ho ha;exact h.rd x hx
 ·obtain⟨x,hx,rfl⟩:=h.rch ho ha;rw[h.hd x hx]at hi;have hi:(i:Int)<((g.ob x).p:Int):=hi;exact(h.pt x hx i Ω).1
 ·obtain⟨x,hx,rfl⟩:=h.rch ho ha;rw[h.osz ho hx];have:=(h.lo x hx).2;omega
 ·obtain⟨x,hx,rfl⟩:=h.rch ho ha;obtain⟨y,hy,rfl⟩:=h.rch ho hb;rw[h.osz ho hx,h.osz ho hy];rcases h.dj x y hx hy with e|e|e
  ·simp_all
  ·omega
  omega
theorem NX{i:Int}(h:v.ptE a i=0):v.rdE a=0/\BU (v.rdH a) i=1/\v.ldE (a+1+i)=0/\v.ldV (a+1+i)<=2147483647/\v.ptV a i=v.ldV (a+1+i):=by
 have hv:v.ptV a i=v.gtV a i 1:=by unfold Vm.ptV;rw[θ h]
 unfold Vm.ptE at h;by_cases h1:v.gtE a i 1=0
 ·have h2:v.gtV a i 1<=2147483647:=by
   omega
  unfold Vm.gtE at h1;by_cases h3:v.plE a i 1=0
  ·rw[ψ (by simpa using h3)]at h1;have h4:v.gtV a i 1=v.ldV (a+1+i):=by unfold Vm.gtV;rw[ψ (by simpa using h3)]
   unfold Vm.plE at h3;omega
  omega
 omega
theorem OQ{i:Int}(h1:v.rdE a=0)(h2:BU (v.rdH a) i=1)(h3:v.ldE (a+1+i)=0)(h4:v.ldV (a+1+i)<=2147483647):v.ptE a i=0/\v.ptV a i=v.ldV (a+1+i):=by
 have e1:v.plE a i 1=0:=by unfold Vm.plE;omega
 have e2:v.gtE a i 1=0:=by unfold Vm.gtE;omega
 have e3:v.gtV a i 1=v.ldV (a+1+i):=by unfold Vm.gtV;simp_all
 have e4:v.ptE a i=0:=by unfold Vm.ptE;omega
 exact⟨e4,by unfold Vm.ptV;simp_all⟩
theorem RK(h:v.rdE a=0):0<a/\v.ldE a=0/\tkE (v.ldV a)=0/\v.rdH a=tkH (v.ldV a):=by
 unfold Vm.rdE at h;by_cases h0:a=0
 ·omega
 ·rw[ψ h0]at h;by_cases h1:a<0
  ·omega
  ·rw[ψ h1]at h;by_cases h2:v.ldE a=0
   ·rw[θ h2]at h;exact⟨by omega,h2,h,by unfold Vm.rdH;grind⟩
   omega
theorem QD(h0:0<a)(h1:v.ldE a=0)(h2:tkE (v.ldV a)=0):v.rdE a=0/\v.rdH a=tkH (v.ldV a):=by
 unfold Vm.rdE Vm.rdH
 grind
structure M2(v v':Vm)(Q:Int->Prop)(T:Int->Int)(lo hi:Nat):Prop where
 z:T 0=0
 wd:∀a,Q a->∀m:Nat,(m:Int)<v.osz a->v'.ldE (T a+m)=0/\(v'.ldV (T a+m):Int)=if 1<=m/\(m:Int)<=(v.rdH a).p then T (v.ldV (a+m))else v.ldV (a+m)
 lo:∀a,Q a->(lo:Int)<=T a/\T a+v.osz a<=hi
 dj:∀a b,Q a->Q b->a=b\/T a+v.osz a<=T b\/T b+v.osz b<=T a
theorem Img.moved{lo' hi':Nat}{T:Int->Int}(h:Img v g F lo hi)(ho:g.Ok)(hm:M2 v v' (Rch v (g.S.map λx=>(F x:Int))) T lo' hi')(h1:1<=lo')(h2:hi'<=2147483647):Img v' g (λx=>(T (F x)).toNat) lo' hi':=by
 have hr:=λx (hx:g.Rd x)=>h.rch_of hx
 have ht:∀x,g.Rd x->(((T (F x)).toNat:Nat):Int)=T (F x):=λx hx=>by
  have:=(hm.lo _ (hr x hx)).1;omega
 have hT:∀x,g.Rd x->0<=T (F x)/\T (F x)<=2147483647:=λx hx=>by
  have h3:=hm.lo _ (hr x hx);rw[h.osz ho hx]at h3;omega
 have hs:∀x,g.Rd x->v'.rdE (T (F x))=0/\v'.rdH (T (F x))=v.rdH (F x):=λx hx=>by
  obtain⟨a1,a2,a3,a4⟩:=RK (h.rd x hx);have h3:=hm.wd _ (hr x hx) 0 (by rw[h.osz ho hx];unfold GOb.size;omega);rw[ψ Ω]at h3;simp only[Int.natCast_zero,Int.add_zero]at h3;have h4:=(hm.lo _ (hr x hx)).1;have e:v'.ldV (T (F x))=v.ldV (F x):=Ω
  have:=QD (v:=v') (a:=T (F x)) Ω h3.1 (by rw[e];exact a3);rw[e]at this;exact⟨this.1,this.2.trans a4.symm⟩
 refine⟨by rw[h.z];show (T 0).toNat=0;rw[hm.z];rfl,λx hx=>?_,λx hx=>?_,λx hx i hi=>?_,λx hx i h3 h4=>?_,λx hx=>?_,λx y hx hy=>?_⟩
 ·show v'.rdE (((T (F x)).toNat:Nat):Int)=0
  rw[ht x hx];exact(hs x hx).1
 ·show v'.rdH (((T (F x)).toNat:Nat):Int)=_
  rw[ht x hx,(hs x hx).2];exact h.hd x hx
 ·show v'.ptE (((T (F x)).toNat:Nat):Int) i=0/\v'.ptV (((T (F x)).toNat:Nat):Int) i=(T (F ((g.ob x).w.getD i 0))).toNat
  rw[ht x hx];obtain⟨p1,p2⟩:=h.pt x hx i hi;obtain⟨q1,q2,q3,q4,q5⟩:=NX p1;rw[p2]at q5;have hw:=hm.wd _ (hr x hx) (1+i) (by rw[h.osz ho hx];unfold GOb.size;omega)
  have hp:(((1+i:Nat):Int))<=(v.rdH (F x)).p:=by
   rw[h.hd x hx]
   show (((1+i:Nat):Int))<=((g.ob x).p:Int)
   omega
  rw[θ ⟨by omega,hp⟩,show (F x:Int)+((1+i:Nat):Int)=(F x:Int)+1+i by omega,<-q5,show T (F x)+((1+i:Nat):Int)=T (F x)+1+i by omega]at hw
  have hb:0<=T (F ((g.ob x).w.getD i 0))/\T (F ((g.ob x).w.getD i 0))<=2147483647:=by
   by_cases e:(g.ob x).w.getD i 0=0
   ·rw[e,h.z];show 0<=T 0/\T 0<=_;rw[hm.z];omega
   ·exact hT _ (hx.step (PY ho hx hi) e)
  obtain⟨r1,r2⟩:=OQ (v:=v') (a:=T (F x)) (i:=i) (hs x hx).1 (by rw[(hs x hx).2];exact q2) hw.1 Ω;exact⟨r1,by omega⟩
 ·obtain⟨w1,w2⟩:=h.wd x hx i h3 h4;have hw:=hm.wd _ (hr x hx) (1+i) (by rw[h.osz ho hx];unfold GOb.size;omega)
  have hp:¬(((1+i:Nat):Int))<=(v.rdH (F x)).p:=by
   rw[h.hd x hx]
   show ¬(((1+i:Nat):Int))<=((g.ob x).p:Int)
   omega
  rw[ψ (λhh=>hp hh.2),show (F x:Int)+((1+i:Nat):Int)=((F x+1+i:Nat):Int)by omega,w2]at hw;have e:(((T (F x)).toNat+1+i:Nat):Int)=T (F x)+((1+i:Nat):Int):=by have:=ht x hx;omega
  rw[e];exact⟨hw.1,by omega⟩
 ·have h3:=hm.lo _ (hr x hx);rw[h.osz ho hx]at h3;omega
 ·have h3:=hm.dj _ _ (hr x hx) (hr y hy);rw[h.osz ho hx,h.osz ho hy]at h3;have e1:=ht x hx;have e2:=ht y hy;rcases h3 with h3|h3|h3
  ·exact .inl (h.inj hx hy Ω)
  ·exact .inr (.inl Ω)
  ·exact .inr (.inr Ω)
theorem Gph.Rd.of(hs:∀r∈g'.S,r≠0->g.Rd r)(hp:∀x,g.Rd x->∀b∈g'.pts x,b≠0->g.Rd b)(h:g'.Rd x):g.Rd x:=h g.Rd hs hp
theorem Img.sub(h:Img v g F lo hi)(hr:∀x,g'.Rd x->g.Rd x)(ho:∀x,g'.Rd x->g'.ob x=g.ob x):Img v g' F lo hi:=by
 refine⟨h.z,λx hx=>h.rd x (hr x hx),λx hx=>by rw[ho x hx];exact h.hd x (hr x hx),λx hx i hi=>?_,λx hx i h1 h2=>?_,λx hx=>by rw[ho x hx];exact h.lo x (hr x hx),λx y hx hy=>by rw[ho x hx,ho y hy];exact h.dj x y (hr x hx) (hr y hy)⟩
 ·rw[ho x hx]at hi⊢;exact h.pt x (hr x hx) i hi
 ·rw[ho x hx]at h1 h2⊢;exact h.wd x (hr x hx) i h1 h2
theorem Img.slot(h:Img v g F lo hi)(hy:y=0\/g.Rd y):Img v ⟨g.L,g.S.set i y⟩ F lo hi:=by
 have hr:∀x,(⟨g.L,g.S.set i y⟩:Gph).Rd x->g.Rd x:=λx hx=>Gph.Rd.of (g:=g) (g':=⟨g.L,g.S.set i y⟩) (λr hr h0=>by
  rcases ζI hr with h1|h1
  ·exact Gph.Rd.root h1 h0
  simp_all) (λx hx b hb h0=>hx.step hb h0) hx
 exact h.sub hr (λx _=>rfl)
theorem Gph.Ok.slot(h:g.Ok)(hy:y<=g.L.length):(⟨g.L,g.S.set i y⟩:Gph).Ok:=⟨h.len,h.pt,λz hz=>by
 rcases ζI hz with h1|h1
 ·exact h.st z h1
 simp_all⟩
theorem Img.mem(h:Img v g F lo hi)(he:∀a:Nat,lo<=a->a<hi->v.ldE a=0->v'.ldE a=0/\v'.ldV a=v.ldV a):Img v' g F lo hi:=by
 have X:∀x,g.Rd x->∀m,m<(g.ob x).size->lo<=F x+m/\F x+m<hi:=λx hx m hm=>by
  have:=h.lo x hx;omega
 have hs:∀x,g.Rd x->v'.rdE (F x)=0/\v'.rdH (F x)=v.rdH (F x):=λx hx=>by
  obtain⟨a1,a2,a3,a4⟩:=RK (h.rd x hx);obtain⟨b1,b2⟩:=X x hx 0 (by unfold GOb.size;omega);obtain⟨e1,e2⟩:=he (F x) Ω Ω a2;have:=QD (v:=v') a1 e1 (by rw[e2];exact a3);rw[e2]at this;exact⟨this.1,this.2.trans a4.symm⟩
 refine⟨h.z,λx hx=>(hs x hx).1,λx hx=>(hs x hx).2.trans (h.hd x hx),λx hx i hi=>?_,λx hx i h1 h2=>?_,h.lo,h.dj⟩
 ·obtain⟨p1,p2⟩:=h.pt x hx i hi;obtain⟨q1,q2,q3,q4,q5⟩:=NX p1;obtain⟨b1,b2⟩:=X x hx (1+i) (by unfold GOb.size;omega);have e:(F x:Int)+1+(i:Int)=((F x+(1+i):Nat):Int):=Ω
  rw[e]at q3 q4 q5;obtain⟨e1,e2⟩:=he _ b1 b2 q3;have:=OQ (v:=v') (a:=(F x:Int)) (i:=i) (hs x hx).1 (by rw[(hs x hx).2];exact q2) (by rw[e];exact e1) (by rw[e,e2];exact q4);exact⟨this.1,by rw[this.2,e,e2,<-q5];exact p2⟩
 ·obtain⟨w1,w2⟩:=h.wd x hx i h1 h2;obtain⟨b1,b2⟩:=X x hx (1+i) (by unfold GOb.size;omega);rw[show F x+1+i=F x+(1+i)by omega]at w1 w2⊢;obtain⟨e1,e2⟩:=he _ b1 b2 w1;exact⟨e1,by rw[e2];exact w2⟩
def GOb.put(o:GOb)(i y:Nat):GOb:=⟨o.p,o.f,o.k,o.w.set i y⟩
def Gph.put(g:Gph)(x i y:Nat):Gph:=⟨g.L.set (x-1) ((g.ob x).put i y),g.S⟩
theorem Gph.put_ob(h1:1<=x)(h2:x<=g.L.length)(z:Nat):(g.put x i y).ob z=if z=x then (g.ob x).put i y else g.ob z:=by
 by_cases e:z=x
 ·subst e;rw[θ rfl]
  show (if z=0 then _ else (g.L.set (z-1) ((g.ob z).put i y)).getD (z-1) ⟨0,0,0,[]⟩)=_
  grind
 ·rw[ψ e]
  show (if z=0 then _ else (g.L.set (x-1) ((g.ob x).put i y)).getD (z-1) ⟨0,0,0,[]⟩)=if z=0 then _ else g.L.getD (z-1) ⟨0,0,0,[]⟩
  grind
theorem Gph.put_rd(h1:1<=x)(h2:x<=g.L.length)(hy:i<(g.ob x).p->y=0\/g.Rd y)(h:(g.put x i y).Rd z):g.Rd z:=by
 refine Gph.Rd.of (g:=g) (g':=g.put x i y) (λr hr h0=>Gph.Rd.root hr h0) (λa ha b hb h0=>?_) h;unfold Gph.pts at hb;rw[Gph.put_ob h1 h2]at hb;by_cases e:a=x
 ·subst e;rw[θ rfl]at hb;have hb:b∈((g.ob a).w.set i y).take (g.ob a).p:=hb;rcases χ i (g.ob a).p with hi|hi
  ·rw[List.take_set]at hb;rcases ζI hb with h3|h3
   ·exact ha.step h3 h0
   simp_all
  ·rw[List.take_set_of_le hi]at hb;exact ha.step hb h0
 ·rw[ψ e]at hb;exact ha.step hb h0
theorem Gph.Ok.put(h:g.Ok)(h1:1<=x)(h2:x<=g.L.length)(hy:i<(g.ob x).p->y<=g.L.length):(g.put x i y).Ok:=by
 have hx:=Gph.ob_mem h1 h2;have hl:(g.put x i y).L.length=g.L.length:=η;refine⟨λo ho=>?_,λo ho z hz=>?_,λz hz=>by rw[hl];exact h.st z hz⟩
 ·rcases ζI ho with h3|h3
  ·exact h.len o h3
  ·rw[h3];have:=h.len _ hx;exact⟨by show ((g.ob x).w.set i y).length=_;rw[η];exact this.1,this.2⟩
 ·rw[hl];rcases ζI ho with h3|h3
  ·exact h.pt o h3 z hz
  ·rw[h3]at hz;have hz:z∈((g.ob x).w.set i y).take (g.ob x).p:=hz;rcases χ i (g.ob x).p with hi|hi
   ·rw[List.take_set]at hz;rcases ζI hz with h4|h4
    ·exact h.pt _ hx z h4
    omega
   ·rw[List.take_set_of_le hi]at hz;exact h.pt _ hx z hz
theorem QZI(l:List Nat)(i j y:Nat)(hi:i<l.length):(l.set i y).getD j 0=if j=i then y else l.getD j 0:=by
 grind
theorem Img.put{top:Nat}(h:Img v g F lo top)(ho:g.Ok)(hx:g.Rd x)(hi:i<(g.ob x).p+(g.ob x).f+(g.ob x).k)(hy:i<(g.ob x).p->y=0\/g.Rd y)(ht:top<=2147483647)
  (hE:∀a:Nat,lo<=a->a<top->v.ldE a=0->v'.ldE a=0/\v'.ldV a=if a=F x+1+i then (if i<(g.ob x).p then F y else y)else v.ldV a):Img v' (g.put x i y) F lo top:=by
 obtain⟨x1,x2⟩:=ho.rd hx;have hr:∀z,(g.put x i y).Rd z->g.Rd z:=λz hz=>Gph.put_rd x1 x2 hy hz;have J:=λz=>Gph.put_ob (i:=i) (y:=y) x1 x2 z
 have X:∀z,((g.put x i y).ob z).p=(g.ob z).p/\((g.put x i y).ob z).f=(g.ob z).f/\((g.put x i y).ob z).k=(g.ob z).k/\((g.put x i y).ob z).size=(g.ob z).size/\((g.put x i y).ob z).hdr=(g.ob z).hdr:=λz=>by
  rw[J]
  split
  ·rename_i e;subst e;exact⟨rfl,rfl,rfl,rfl,rfl⟩
  ·exact⟨rfl,rfl,rfl,rfl,rfl⟩
 have hlen:=(ho.len _ (Gph.ob_mem x1 x2)).1
 have hw:∀z,g.Rd z->∀j,((g.put x i y).ob z).w.getD j 0=if z=x/\j=i then y else (g.ob z).w.getD j 0:=λz _ j=>by
  rw[J];by_cases e:z=x
  ·subst e;rw[θ rfl]
   show ((g.ob z).w.set i y).getD j 0=_
   rw[QZI _ _ _ _ Ω];by_cases e2:j=i
   ·rw[θ e2,θ ⟨rfl,e2⟩]
   ·rw[ψ e2,ψ (λhh=>e2 hh.2)]
  ·rw[ψ e,ψ (λhh=>e hh.1)]
 have Y:∀z,g.Rd z->∀m,m<(g.ob z).size->lo<=F z+m/\F z+m<top:=λz hz m hm=>by
  have:=h.lo z hz;omega
 have Z:∀z,g.Rd z->∀m,m<(g.ob z).size->(F z+m=F x+1+i↔z=x/\m=1+i):=λz hz m hm=>by
  have hsx:(g.ob x).size=1+(g.ob x).p+(g.ob x).f+(g.ob x).k:=rfl;constructor
  ·intro e;rcases h.dj z x hz hx with e2|e2|e2
   ·subst e2;exact⟨rfl,by omega⟩
   ·omega
   ·omega
  ·rintro⟨rfl,rfl⟩;omega
 have hs:∀z,g.Rd z->v'.rdE (F z)=0/\v'.rdH (F z)=v.rdH (F z):=λz hz=>by
  obtain⟨a1,a2,a3,a4⟩:=RK (h.rd z hz);have U:0<(g.ob z).size:=by unfold GOb.size;omega
  obtain⟨b1,b2⟩:=Y z hz 0 U;obtain⟨e1,e2⟩:=hE (F z) Ω Ω a2;rw[ψ (λe=>by have:=(Z z hz 0 U).1 Ω;omega)]at e2;have:=QD (v:=v') a1 e1 (by rw[e2];exact a3);rw[e2]at this;exact⟨this.1,this.2.trans a4.symm⟩
 have hF:∀b,b=0\/g.Rd b->F b<=2147483647:=λb hb=>by
  rcases hb with rfl|hb
  ·rw[h.z];omega
  ·have:=h.lo b hb;omega
 refine⟨h.z,λz hz=>(hs z (hr z hz)).1,λz hz=>by rw[(X z).2.2.2.2];exact(hs z (hr z hz)).2.trans (h.hd z (hr z hz)),λz hz j hj=>?_,λz hz j h1 h2=>?_,λz hz=>by rw[(X z).2.2.2.1];exact h.lo z (hr z hz),λz z' hz hz'=>by rw[(X z).2.2.2.1,(X z').2.2.2.1];exact h.dj z z' (hr z hz) (hr z' hz')⟩
 ·rw[(X z).1]at hj;have hq:=hr z hz;obtain⟨p1,p2⟩:=h.pt z hq j hj;obtain⟨q1,q2,q3,q4,q5⟩:=NX p1;have hm:1+j<(g.ob z).size:=by unfold GOb.size;omega
  obtain⟨b1,b2⟩:=Y z hq (1+j) hm;have e:(F z:Int)+1+(j:Int)=((F z+(1+j):Nat):Int):=Ω
  rw[e]at q3 q4 q5;obtain⟨e1,e2⟩:=hE _ b1 b2 q3;rw[hw z hq];by_cases hc:z=x/\j=i
  ·obtain⟨rfl,rfl⟩:=hc;rw[θ Ω,θ hj]at e2;have:=OQ (v:=v') (a:=(F z:Int)) (i:=j) (hs z hq).1 (by rw[(hs z hq).2];exact q2) (by rw[e];exact e1) (by rw[e,e2];exact hF _ (hy hj));rw[θ ⟨rfl,rfl⟩];exact⟨this.1,by rw[this.2,e,e2]⟩
  ·rw[ψ (λhh=>by have:=(Z z hq (1+j) hm).1 hh;exact hc ⟨this.1,by omega⟩)]at e2;have:=OQ (v:=v') (a:=(F z:Int)) (i:=j) (hs z hq).1 (by rw[(hs z hq).2];exact q2) (by rw[e];exact e1) (by rw[e,e2];exact q4);rw[ψ hc];exact⟨this.1,by rw[this.2,e,e2,<-q5];exact p2⟩
 ·rw[(X z).1]at h1;rw[(X z).1,(X z).2.1,(X z).2.2.1]at h2;have hq:=hr z hz;obtain⟨w1,w2⟩:=h.wd z hq j h1 h2;have hm:1+j<(g.ob z).size:=by unfold GOb.size;omega
  obtain⟨b1,b2⟩:=Y z hq (1+j) hm;rw[show F z+1+j=F z+(1+j)by omega]at w1 w2⊢;obtain⟨e1,e2⟩:=hE _ b1 b2 w1;refine⟨e1,?_⟩;rw[hw z hq,e2];by_cases hc:z=x/\j=i
  ·obtain⟨rfl,rfl⟩:=hc;rw[θ Ω,ψ Ω,θ ⟨rfl,rfl⟩]
  ·rw[ψ (λhh=>by have:=(Z z hq (1+j) hm).1 hh;exact hc ⟨this.1,by omega⟩),ψ hc];exact w2
def GOb.new(p f k:Nat):GOb:=⟨p,f,k,List.replicate (p+f+k) 0⟩
def Gph.add(g:Gph)(s p f k:Nat):Gph:=⟨g.L++[GOb.new p f k],g.S.set s (g.L.length+1)⟩
section
variable{s f:Nat}
theorem Gph.add_ob(z:Nat)(hz:z<=g.L.length):(g.add s p f k).ob z=g.ob z:=by
 show (if z=0 then _ else (g.L++[GOb.new p f k]).getD (z-1) ⟨0,0,0,[]⟩)=if z=0 then _ else g.L.getD (z-1) ⟨0,0,0,[]⟩
 grind
theorem Gph.add_new:(g.add s p f k).ob (g.L.length+1)=GOb.new p f k:=by
 show (if g.L.length+1=0 then _ else (g.L++[GOb.new p f k]).getD (g.L.length+1-1) ⟨0,0,0,[]⟩)=_
 simp_all
theorem XYc(j:Nat):(GOb.new p f k).w.getD j 0=0:=by
 show (List.replicate (p+f+k) 0).getD j 0=0
 grind
theorem Gph.add_pts(h:b∈(g.add s p f k).pts (g.L.length+1)):b=0:=by
 unfold Gph.pts at h;rw[Gph.add_new]at h;exact(List.mem_replicate.1 (ξN h)).2
theorem Gph.add_rd(ho:g.Ok)(h:(g.add s p f k).Rd z):g.Rd z\/z=g.L.length+1:=by
 refine h (λz=>g.Rd z\/z=g.L.length+1) (λr hr h0=>?_) (λa ha b hb h0=>?_)
 ·rcases ζI hr with h1|h1
  ·exact .inl (Gph.Rd.root h1 h0)
  omega
 ·rcases ha with ha|rfl
  ·unfold Gph.pts at hb;rw[Gph.add_ob a (ho.rd ha).2]at hb;exact .inl (ha.step hb h0)
  ·exact absurd (Gph.add_pts hb) h0
theorem Gph.Ok.add(h:g.Ok)(hs:p+f+k<=255):(g.add s p f k).Ok:=by
 have hl:(g.add s p f k).L.length=g.L.length+1:=by show (g.L++[GOb.new p f k]).length=_;simp_all
 refine⟨λo ho=>?_,λo ho z hz=>?_,λz hz=>?_⟩
 ·rcases ζr.1 ho with h1|h1
  ·exact h.len o h1
  ·rw[ζL.1 h1];exact⟨ζS,hs⟩
 ·rcases ζr.1 ho with h1|h1
  ·have:=h.pt o h1 z hz;omega
  ·rw[ζL.1 h1]at hz;have:z=0:=(List.mem_replicate.1 (ξN hz)).2;omega
 ·rcases ζI hz with h1|h1
  ·have:=h.st z h1;omega
  ·omega
theorem Img.add(h:Img v g F lo hi)(ho:g.Ok)(hs:p+f+k<=255){A:Nat}(hA:hi<=A)(hlo:lo<=A)(hr:v'.rdE A=0)(hh:v'.rdH A=(GOb.new p f k).hdr)(hz:∀m:Nat,m<p+f+k->v'.ldE (A+1+m:Nat)=0/\v'.ldV (A+1+m:Nat)=0)
  (he:∀a:Nat,lo<=a->a<hi->v.ldE a=0->v'.ldE a=0/\v'.ldV a=v.ldV a):Img v' (g.add s p f k) (λx=>if x=g.L.length+1 then A else F x) lo (A+1+p+f+k):=by
 have hm:=h.mem he;have X:∀z,g.Rd z->z<=g.L.length/\¬z=g.L.length+1:=λz hz=>by have:=ho.rd hz;omega
 have M:(GOb.new p f k).size=1+p+f+k:=rfl;have Z:(GOb.new p f k).p=p:=rfl;have V:(GOb.new p f k).f=f:=rfl;have U:(GOb.new p f k).k=k:=rfl;refine⟨?_,λz hz'=>?_,λz hz'=>?_,λz hz' i hi'=>?_,λz hz' i a1 a2=>?_,λz hz'=>?_,λz z' hz1 hz2=>?_⟩
 ·show (if 0=g.L.length+1 then A else F 0)=0
  rw[ψ Ω];exact h.z
 ·show v'.rdE ((if z=g.L.length+1 then A else F z:Nat):Int)=0
  rcases Gph.add_rd ho hz' with hq|rfl
  ·rw[ψ (X z hq).2];exact hm.rd z hq
  ·rw[θ rfl];exact hr
 ·show v'.rdH ((if z=g.L.length+1 then A else F z:Nat):Int)=_
  rcases Gph.add_rd ho hz' with hq|rfl
  ·rw[ψ (X z hq).2,Gph.add_ob z (X z hq).1];exact hm.hd z hq
  ·rw[θ rfl,Gph.add_new];exact hh
 ·show v'.ptE ((if z=g.L.length+1 then A else F z:Nat):Int) i=0/\v'.ptV ((if z=g.L.length+1 then A else F z:Nat):Int) i=(if ((g.add s p f k).ob z).w.getD i 0=g.L.length+1 then A else F (((g.add s p f k).ob z).w.getD i 0))
  rcases Gph.add_rd ho hz' with hq|rfl
  ·rw[Gph.add_ob z (X z hq).1]at hi'⊢;have hy:=ho.pts_le (PY ho hq hi');rw[ψ (X z hq).2,ψ Ω];exact hm.pt z hq i hi'
  ·rw[Gph.add_new]at hi'⊢;rw[Z]at hi';rw[θ rfl,XYc,ψ Ω,h.z];obtain⟨b1,b2⟩:=hz i Ω;have e:(A:Int)+1+(i:Int)=((A+1+i:Nat):Int):=Ω
   have J:BU (v'.rdH (A:Int)) (i:Int)=1:=by
    rw[hh];unfold BU BL CQ GOb.hdr inS;rw[Z,V,U]
    have e1:(decide (0<=(p:Int)/\(p:Int)<256)&&decide (0<=(f:Int)/\(f:Int)<256)&&decide (0<=(k:Int)/\(k:Int)<256)&&decide ((p:Int)+(f:Int)+(k:Int)<256))=true:=by
     simp only[ζb,ζd];omega
    simp only[e1,if_true];rw[θ Ω,θ Ω]
   have:=OQ (v:=v') (a:=(A:Int)) (i:=i) hr J (by exact b1) (by rw[e,b2];omega);exact⟨this.1,by rw[this.2,e,b2]⟩
 ·rcases Gph.add_rd ho hz' with hq|rfl
  ·rw[Gph.add_ob z (X z hq).1]at a1 a2⊢;rw[ψ (X z hq).2];exact hm.wd z hq i a1 a2
  ·rw[Gph.add_new]at a1 a2⊢;rw[θ rfl,XYc];exact hz i a2
 ·rcases Gph.add_rd ho hz' with hq|rfl
  ·rw[ψ (X z hq).2,Gph.add_ob z (X z hq).1];have:=h.lo z hq;omega
  ·rw[θ rfl,Gph.add_new,M];omega
 ·rcases Gph.add_rd ho hz1 with hq|rfl
  ·rcases Gph.add_rd ho hz2 with Y|rfl
   ·rw[ψ (X z hq).2,ψ (X z' Y).2,Gph.add_ob z (X z hq).1,Gph.add_ob z' (X z' Y).1];exact h.dj z z' hq Y
   ·rw[ψ (X z hq).2,θ rfl,Gph.add_ob z (X z hq).1];have:=h.lo z hq;exact .inr (.inl Ω)
  ·rcases Gph.add_rd ho hz2 with Y|rfl
   ·rw[θ rfl,ψ (X z' Y).2,Gph.add_ob z' (X z' Y).1];have:=h.lo z' Y;exact .inr (.inr Ω)
   ·exact .inl rfl
end
def AI(v:Vm):List Int->Int
 | []=>0
 | a :: r=>v.osz a+AI v r
def BS(v:Vm):List Int->Int->Int->Int
 | [],_,_=>0
 | b :: r,t,a=>if b=a then t else BS v r (t+v.osz b) a
theorem TY(v:Vm)(a:Int):0<=v.osz a:=by
 unfold Vm.osz BL
 grind [RD]
theorem NI(v:Vm)(O P:List Int):AI v (O++P)=AI v O+AI v P:=by
 induction O with
 | nil=>simp[AI]
 | cons a r ih=>simp only[ζw,AI,ih];omega
theorem GH(v:Vm)(O:List Int):0<=AI v O:=by
 induction O with
 | nil=>simp[AI]
 | cons a r ih=>have:=TY v a;simp only[AI];omega
theorem LG(v:Vm)(hj:j<O.length):AI v (O.take (j+1))=AI v (O.take j)+v.osz O[j]:=by
 rw[List.take_add_one,υ hj,NI];simp[AI]
theorem Q9(v:Vm)(O:List Int)(h:i<=j):AI v (O.take i)<=AI v (O.take j):=by
 have e:O.take j=O.take i++(O.take j).drop i:=by
  grind [ψI,ψq]
 rw[e,NI];have:=GH v ((O.take j).drop i);omega
theorem SO(v:Vm)(O:List Int)(j:Nat):AI v (O.take j)<=AI v O:=by
 have:=GH v (O.drop j)
 grind [NI,ψI]
theorem YAF(v:Vm)(P:List Int)(t:Int)(h:a∈O):BS v (O++P) t a=BS v O t a:=by
 induction O generalizing t with
 | nil=>cases h
 | cons b r ih=>
  simp only[ζw,BS]
  grind
theorem TZ(v:Vm)(P:List Int)(t:Int)(h:a∉O):BS v (O++P) t a=BS v P (t+AI v O) a:=by
 induction O generalizing t with
 | nil=>simp[AI]
 | cons b r ih=>
  have hb:¬b=a:=λe=>h (by simp_all);simp only[ζw,BS,AI,ψ hb]
  grind
theorem O1(v:Vm)(t:Int)(h:a∉O):BS v O t a=0:=by
 have:=TZ v [] t h;rw[ψH]at this
 assumption
theorem WC(v:Vm)(hn:O.Nodup)(t:Int)(hj:j<O.length):BS v O t O[j]=t+AI v (O.take j):=by
 have e:O=O.take j++O[j] :: O.drop (j+1):=by
  simp_all
 have Y:O[j]∉O.take j:=by
  grind
 have h:=TZ v (O[j] :: O.drop (j+1)) t Y;refine(congrArg (λX=>BS v X t O[j]) e).trans (h.trans ?_);rw[BS,θ rfl]
theorem UZ(v:Vm)(t:Int)(h:a∈O):t<=BS v O t a/\BS v O t a+v.osz a<=t+AI v O:=by
 induction O generalizing t with
 | nil=>cases h
 | cons b r ih=>
  have h1:=GH v r;have h2:=TY v b;simp only[BS,AI]
  grind
def CK(O:List Int)(a:Int):List Int:=if a=0\/a∈O then O else O++[a]
def DF(O l:List Int):List Int:=l.foldl CK O
theorem V5(O:List Int)(a:Int):∃X,CK O a=O++X:=by
 unfold CK
 split
 ·simp_all
 simp_all
theorem WG(O l:List Int):∃X,DF O l=O++X:=by
 induction l generalizing O with
 | nil=>exact⟨[],(ψH _).symm⟩
 | cons a r ih=>
  obtain⟨X,hX⟩:=V5 O a;obtain⟨Y,hY⟩:=ih (CK O a);exact⟨X++Y,by show DF (CK O a) r=_;simp_all⟩
theorem UO(O l:List Int)(a:Int):DF O (l++[a])=CK (DF O l) a:=by unfold DF;simp_all
theorem NW{b:Int}:b∈CK O a↔b∈O\/(b=a/\a≠0):=by
 unfold CK
 grind
theorem SE{l:List Int}{b:Int}:b∈DF O l↔b∈O\/(b∈l/\b≠0):=by
 induction l generalizing O with
 | nil=>simp[DF]
 | cons a r ih=>
  show b∈DF (CK O a) r↔_
  grind [NW]
theorem T0(h:O.Nodup)(a:Int):(CK O a).Nodup:=by
 unfold CK
 grind
theorem ZT(h:O.Nodup)(l:List Int):(DF O l).Nodup:=by
 induction l generalizing O with
 | nil=>exact h
 | cons a r ih=>exact ih (T0 h a)
def DN(v:Vm)(a:Int):List Int:=(List.range (v.rdH a).p.toNat).map λi:Nat=>(v.ldV (a+1+i):Int)
theorem TQ(v:Vm)(a:Int):(DN v a).length=(v.rdH a).p.toNat:=by unfold DN;simp
theorem XG(v:Vm)(a:Int)(hi:i<(DN v a).length):(DN v a)[i]=(v.ldV (a+1+i):Int):=by simp only[DN,List.getElem_map,List.getElem_range]
def AT(v:Vm)(rs:List Int):Nat->List Int
 | 0=>DF [] rs
 | k+1=>if k<(AT v rs k).length then DF (AT v rs k) (DN v ((AT v rs k).getD k 0))else AT v rs k
theorem Zh5(v:Vm)(rs:List Int)(k:Nat):(AT v rs k).Nodup:=by
 induction k with
 | zero=>exact ZT ψd _
 | succ k ih=>unfold AT;grind [ZT]
structure BO(v v':Vm):Prop where
 n:v'.n=v.n
 pt:v'.pt=v.pt
 pg:v'.pl.pg=v.pl.pg
 rm:v'.pl.rm=v.pl.rm
theorem BO.refl(v:Vm):BO v v:=⟨rfl,rfl,rfl,rfl⟩
theorem BO.trans{a b c:Vm}(h:BO a b)(k:BO b c):BO a c:=⟨k.n.trans h.n,k.pt.trans h.pt,k.pg.trans h.pg,k.rm.trans h.rm⟩
theorem BO.st(v:Vm)(a:Int)(x:Nat):BO v (v.st a x):=by
 unfold Vm.st
 split
 ·exact⟨rfl,rfl,rfl,rfl⟩
 ·exact BO.refl v
theorem BO.ldE(h:BO v v')(a:Int):v'.ldE a=v.ldE a:=by unfold Vm.ldE;rw[h.n,h.pt,h.pg]
def cpV(u:Vm)(a t:Int):Nat->Vm
 | 0=>u
 | m+1=>(cpV u a t m).st (t+m) (u.ldV (a+m))
theorem VV(u:Vm)(a t:Int)(n:Nat):BO u (cpV u a t n):=by
 induction n with
 | zero=>exact BO.refl u
 | succ m ih=>exact ih.trans (BO.st _ _ _)
theorem Y1(h:AG u)(a t:Int)(n:Nat):AG (cpV u a t n):=by
 induction n with
 | zero=>exact h
 | succ m ih=>exact ih.st _ (h.ldV_lt _)
theorem Yrt(h:AG u)(a t:Int)(hm:∀m:Nat,m<n->u.ldE (t+m)=0)(b:Int):(cpV u a t n).ldV b=if t<=b/\b<t+n then u.ldV (a+(b-t))else u.ldV b:=by
 induction n with
 | zero=>rw[ψ Ω];rfl
 | succ m ih=>
  show ((cpV u a t m).st (t+m) (u.ldV (a+m))).ldV b=_
  rw[(Y1 h a t m).st_ldV _ (by rw[(VV u a t m).ldE];simp_all),ih (λj hj=>hm j Ω)]
  grind
structure DI(v:Vm)(rs:List Int)(L:List Ob)(to:Nat):Prop where
 ok:AG v
 mks:BH v rs v.n L
 pos:0<to
 ap:∀o∈L,o.1+o.2<=to\/to+AC L<=o.1
 map:∀a:Nat,to<=a->a<to+AC L->v.ldE a=0
 top:to+AC L<=v.n
def Trn(v:Vm)(O:List Int)(k i j m:Nat):Prop:=1<=m/\((j<k/\(m:Int)<=(v.rdH (O.getD j 0)).p)\/(j=k/\m<=i))
structure Cpd(v v':Vm)(to:Nat)(O:List Int)(k i:Nat):Prop where
 ok:AG v'
 sm:BO v v'
 o:∀a:Int,¬(to<=a/\a<to+AI v O)->v'.ldV a=v.ldV a
 raw:∀j (hj:j<O.length) (m:Nat),(m:Int)<v.osz O[j]->¬Trn v O k i j m->v'.ldV (to+AI v (O.take j)+m)=v.ldV (O[j]+m)
 trn:∀j (hj:j<O.length) (m:Nat),(m:Int)<v.osz O[j]->Trn v O k i j m->(v'.ldV (to+AI v (O.take j)+m):Int)=BS v O to (v.ldV (O[j]+m))
theorem Cpd.nil(h:AG v)(to:Nat):Cpd v v to [] 0 0:=⟨h,BO.refl v,λ_ _=>rfl,λ_ h=>absurd h (ζ2 _),λ_ h=>absurd h (ζ2 _)⟩
theorem QU(h:v.rdE a=0):0<=(v.rdH a).p/\(v.rdH a).p<v.osz a:=by
 obtain⟨-,-,p,f,k,e,hs⟩:=F7 h;unfold Vm.osz;rw[e,show BL ⟨p,f,k⟩=1+(p:Int)+f+k from θ (DJ hs)]
 grind
theorem XaN(hz:∀o∈L,(o.2:Int)=v.osz o.1)(hn:O.Nodup)(h:∀a∈O,Hs L a):AI v O<=AC L:=by
 induction L generalizing O with
 | nil=>
  cases O with
  | nil=>exact ψN _
  | cons a r=>obtain⟨o,ho,-⟩:=h a (ζt ..);cases ho
 | cons o r ih=>
  have h1:=ih (λq hq=>hz q (ζA _ hq)) (hn.erase (o.1:Int)) (λa ha=>by
   have hm:=(hn.mem_erase_iff).1 ha;obtain⟨q,hq,e⟩:=h a hm.2;rcases ξv.1 hq with rfl|hq
   ·omega
   ·exact⟨q,hq,e⟩)
  have h2:AI v O<=AI v (O.erase (o.1:Int))+v.osz o.1:=by
   clear ih h1 h hn
   induction O with
   | nil=>grind
   | cons a s ih=>
    rw[List.erase_cons];by_cases e:a=(o.1:Int)
    ·rw[θ (by simpa using e),e];simp only[AI];omega
    ·rw[ψ (by simpa using e)];simp only[AI];omega
  have h3:=hz o (ζt ..);simp only[AC];omega
theorem VJ9(hz:∀o∈L,(o.2:Int)=v.osz o.1)(hp:L.Pairwise (λo q=>o.1<q.1))(h:∀o∈L,(o.1:Int)∈O):(AC L:Int)<=AI v O:=by
 induction L generalizing O with
 | nil=>exact GH v O
 | cons o r ih=>
  have h1:=ih (O:=O.erase (o.1:Int)) (λq hq=>hz q (ζA _ hq)) (ξi.1 hp).2 (λq hq=>by
   have:=(ξi.1 hp).1 q hq
   grind)
  have h2:AI v (O.erase (o.1:Int))+v.osz o.1<=AI v O:=by
   have hm:=h o (ζt ..);clear ih h1 h hp
   induction O with
   | nil=>cases hm
   | cons a s ih=>
    rw[List.erase_cons];by_cases e:a=(o.1:Int)
    ·rw[θ (by simpa using e),e];simp only[AI];omega
    ·have:=ih ((ξv.1 hm).resolve_left (λe'=>e e'.symm));rw[ψ (by simpa using e)];simp only[AI];omega
  have h3:=hz o (ζt ..);simp only[AC];omega
theorem J4{i:Int}(h:v.ptE a i=0):v.ptV a i=v.ldV (a+1+i)/\v.ldV (a+1+i)<=2147483647/\v.ldE (a+1+i)=0/\v.plE a i 1=0:=by
 have e1:v.ptV a i=v.gtV a i 1:=θ h;unfold Vm.ptE at h
 split at h
 ·omega
 ·rename_i hg;have hg:=ξE.1 hg
  split at h
  ·cases h
  ·rename_i hm;unfold Vm.gtE at hg
   split at hg
   ·omega
   ·rename_i hp;have e2:v.gtV a i 1=v.ldV (a+1+i):=ψ hp;omega
theorem QW{h:Hdr}{i:Int}(h0:0<=i)(h1:i<h.p)(h2:h.p<BL h):BU h i=1:=by
 unfold BU;omega
theorem Xm6(hr:v.rdE a=0)(hi:(i:Int)<(v.rdH a).p)(hl:v.ldE (a+1+i)=0)(hv:v.ldV (a+1+i)<=2147483647):v.ptE a i=0/\v.plE a i 1=0:=by
 have hk:v.plE a i 1=0:=by
  unfold Vm.plE;rw[ψ Ω,θ (QW Ω hi (QU hr).2)]
 refine⟨?_,hk⟩;have hg:v.gtE a i 1=0:=by unfold Vm.gtE;omega
 unfold Vm.ptE;rw[ψ Ω];have e2:v.gtV a i 1=v.ldV (a+1+i):=ψ Ω;omega
def FU(v:Vm)(L:List Ob):Prop:=∀o∈L,∀m:Nat,m<o.2->v.ldE (o.1+m)=0
section
variable{to:Nat}
theorem DI.ob(c:DI v rs L to)(ha:Rch v rs a):∃o∈L,(o.1:Int)=a/\(o.2:Int)=v.osz a:=by
 obtain⟨o,ho,rfl⟩:=c.mks.all a ha;exact⟨o,ho,rfl,(c.mks.mkd.ats o ho).2.2⟩
theorem DI.sum(c:DI v rs L to)(hn:O.Nodup)(hR:∀a∈O,Rch v rs a):AI v O<=AC L:=
 XaN (λo ho=>(c.mks.mkd.ats o ho).2.2) hn (λa ha=>c.mks.all a (hR a ha))
theorem DI.same(c:DI v rs L to)(hf:FU v L)(hn:O.Nodup)(hR:∀a∈O,Rch v rs a)(h:Cpd v v' to O k i)(ha:Rch v rs a):
  0<a/\v'.rdE a=0/\v'.rdH a=v.rdH a/\∀m:Nat,(m:Int)<v.osz a->v'.ldE (a+m)=0/\v'.ldV (a+m)=v.ldV (a+m):=by
 obtain⟨o,ho,rfl,hz⟩:=c.ob ha;have hs:=c.sum hn hR;have hap:=c.ap o ho;have X:=c.mks.sound.rd _ ha;have hp:=DB X
 have hm:∀m:Nat,(m:Int)<v.osz o.1->v'.ldE (o.1+m)=0/\v'.ldV (o.1+m)=v.ldV (o.1+m):=λm hm=>
  ⟨by rw[h.sm.ldE];exact hf o ho m Ω,h.o _ Ω⟩
 have h0:=hm 0 Ω;rw[show (o.1:Int)+(0:Nat)=o.1 by omega]at h0;refine⟨hp.1,?_,?_,hm⟩
 ·unfold Vm.rdE at X⊢
  grind
 ·unfold Vm.rdH;rw[h0.2,h.sm.ldE]
theorem Trn.ext{X:List Int}(hj:j<O.length):Trn v (O++X) k i j m↔Trn v O k i j m:=by
 unfold Trn
 grind
theorem ZE(v:Vm){j':Nat}(hj:j<O.length)(hj':j' < O.length)(hm:(m:Int)<v.osz O[j])(hm':(m':Int)<v.osz O[j'])(h:AI v (O.take j)+m=AI v (O.take j')+m'):j=j'/\m=m':=by
 rcases ζP j j' with h1|rfl|h1
 ·have e:=LG v hj;have:=Q9 v O (i:=j+1) (j:=j') Ω;omega
 ·omega
 ·have e:=LG v hj';have:=Q9 v O (i:=j' + 1) (j:=j) Ω;omega
theorem place_lt(v:Vm)(hj:j<O.length)(hm:(m:Int)<v.osz O[j]):AI v (O.take j)+m<AI v O:=by
 have e:=LG v hj;have:=SO v O (j+1);omega
def LM(v:Vm)(O:List Int)(k i:Nat):Prop:=∀j (hj:j<O.length) (m:Nat),(m:Int)<v.osz O[j]->Trn v O k i j m->(v.ldV (O[j]+m):Int)=0\/(v.ldV (O[j]+m):Int)∈O
theorem Vqd(v:Vm)(X:List Int)(t:Int)(h0:(0:Int)∉O++X)(h:a=0\/a∈O):BS v (O++X) t a=BS v O t a:=by
 grind [O1,ξD,YAF]
theorem Cpd.take(c:DI v rs L to)(hf:FU v L)(hn:O.Nodup)(hR:∀a∈O,Rch v rs a)(h:Cpd v v' to O k i)(hK:LM v O k i)(hk:k<O.length\/(k=O.length/\i=0))(ha:Rch v rs a)(hna:a∉O)(z:Nat)(hz:(z:Int)=v.osz a):
  (∀m:Nat,m<z->v'.ldE (to+AI v O+m)=0)/\(to:Int)+AI v O+z<=v.n/\Cpd v (cpV v' a (to+AI v O) z) to (O++[a]) k i/\LM v (O++[a]) k i:=by
 have U:(O++[a]).Nodup:=by
  rw[ξZ];exact⟨hn,by simp,λx hx y hy e=>hna (by rw[ζL]at hy;rw[<-hy,<-e];exact hx)⟩
 have J:∀b∈O++[a],Rch v rs b:=λb hb=>by
  rcases ζr.1 hb with hb|hb
  ·exact hR b hb
  ·rw[ζL]at hb;rw[hb];exact ha
 have hs:=c.sum U J;have h0s:=GH v O;have hsa:AI v (O++[a])=AI v O+v.osz a:=by rw[NI];simp[AI]
 have Z:∀m:Nat,m<z->v'.ldE (to+AI v O+m)=0:=λm hm=>by
  rw[h.sm.ldE];have:=c.map (to+(AI v O).toNat+m) Ω Ω;rw[<-this];congr 1;omega
 have htop:=c.top;have M:=(c.same hf hn hR h ha).2.2.2
 have V:(0:Int)∉O++[a]:=λhm=>by
  have:=(DB (c.mks.sound.rd _ (J 0 hm))).1;omega
 have Y:=Yrt h.ok a (to+AI v O) Z;refine⟨Z,by omega,⟨Y1 h.ok _ _ _,h.sm.trans (VV _ _ _ _),λb hb=>?_,λj hj m hm hT=>?_,λj hj m hm hT=>?_⟩,λj hj m hm hT=>?_⟩
 ·rw[Y,ψ Ω];exact h.o b Ω
 ·rw[ζz,ξn]at hj;rcases χ j O.length with X|X
  ·simp only[ζG X]at hm⊢;have hl:=place_lt v X hm;have e1:(O++[a]).take j=O.take j:=by rw[ξS Ω]
   rw[e1,Y,ψ Ω];exact h.raw j X m hm (λht=>hT ((Trn.ext X).2 ht))
  ·obtain rfl:j=O.length:=Ω
   have e2:(O++[a])[O.length]'(by simp)=a:=by simp
   rw[e2]at hm;have e1:(O++[a]).take O.length=O:=by rw[ξS (κ _),ζ6]
   rw[e1,Y,θ Ω,e2,show a+((to:Int)+AI v O+m-(to+AI v O))=a+m by omega];exact(M m hm).2
 ·rcases χ j O.length with X|X
  ·simp only[ζG X]at hm⊢;have hl:=place_lt v X hm;have e1:(O++[a]).take j=O.take j:=by rw[ξS Ω]
   have ht:=(Trn.ext (i:=i) (m:=m) X).1 hT;rw[e1,Y,ψ Ω,h.trn j X m hm ht];exact(Vqd v [a] to V (hK j X m hm ht)).symm
  ·obtain⟨h1,h2|h2⟩:=hT <;> omega
 ·rcases χ j O.length with X|X
  ·simp only[ζG X]at hm⊢;exact(hK j X m hm ((Trn.ext X).1 hT)).imp id (λh=>ξD _ h)
  ·obtain⟨h1,h2|h2⟩:=hT <;> omega
theorem Cpd.copy(c:DI v rs L to)(hn:O.Nodup)(hR:∀a∈O,Rch v rs a)(h:Cpd v v' to O k i)(hj:j<O.length){t:Int}(ht:t=to+AI v (O.take j)):
  v'.rdE t=0/\v'.rdH t=v.rdH O[j]/\(j=k->∀m:Nat,i<=m->(m:Int)<(v.rdH O[j]).p->v'.ptE t m=0/\v'.ptV t m=v.ldV (O[j]+1+m)) ∧
   ∀m:Nat,(m:Int)<(v.rdH O[j]).p->v'.plE t m 1=0/\v'.ldE (t+1+m)=0:=by
 have ha:=hR _ (τ hj);have X:=c.mks.sound.rd _ ha;have hp:=DB X;have V:=QU X;have hs:=c.sum hn hR;have h0:=GH v (O.take j);have hpos:=c.pos
 have J:∀m:Nat,(m:Int)<v.osz O[j]->v'.ldE (t+m)=0:=λm hm=>by
  rw[h.sm.ldE];have hl:=place_lt v hj hm;have:=c.map (to+(AI v (O.take j)).toNat+m) Ω Ω;rw[<-this];congr 1;omega
 have Y:=h.raw j hj 0 Ω (λhT=>absurd hT.1 Ω);have Z:=J 0 Ω;rw[show t+(0:Nat)=t by omega]at Z;rw[show (to:Int)+AI v (O.take j)+(0:Nat)=t by omega,show O[j]+(0:Nat)=O[j]by omega]at Y
 have hE:v'.rdE t=0:=by
  have h1:=X;unfold Vm.rdE at h1⊢;rw[ψ Ω,ψ Ω,θ Z,Y];rw[ψ Ω,ψ Ω]at h1
  split at h1
  ·exact h1
  ·rename_i hx;exact absurd h1 hx
 have hH:v'.rdH t=v.rdH O[j]:=by
  have h1:=(F7 X).2.1;unfold Vm.rdH;rw[θ ⟨by omega,Z⟩,θ ⟨by omega,h1⟩,Y]
 refine⟨hE,hH,λhjk m hm1 hm2=>?_,λm hm=>?_⟩
 ·have U:((m+1:Nat):Int)<v.osz O[j]:=Ω
  have hr:=h.raw j hj (m+1) U (λhT=>by
   obtain⟨-,h2|h2⟩:=hT <;> omega)
  have hl:=J (m+1) U;rw[show (to:Int)+AI v (O.take j)+(m+1:Nat)=t+1+m by omega,show O[j]+(m+1:Nat)=O[j]+1+m by omega]at hr;rw[show t+((m+1:Nat):Int)=t+1+m by omega]at hl;have M:=J4 (c.mks.sound.pt _ ha m hm2);have:=Xm6 (v:=v') (a:=t) (i:=m) hE (by rw[hH];exact hm2) hl (by rw[hr];exact M.2.1);refine⟨this.1,?_⟩;rw[(J4 this.1).1,hr]
 ·have hl:=J (m+1) Ω;rw[show t+((m+1:Nat):Int)=t+1+m by omega]at hl;refine⟨?_,hl⟩;unfold Vm.plE;rw[ψ Ω,hH,θ (QW Ω hm V.2)]
theorem Cpd.set(c:DI v rs L to)(hn:O.Nodup)(hR:∀a∈O,Rch v rs a)(h:Cpd v v' to O k i)(hK:LM v O k i)(hk:k<O.length){t:Int}(ht:t=to+AI v (O.take k))(hi:(i:Int)<(v.rdH O[k]).p)
  (hx:(v.ldV (O[k]+1+i):Int)=0\/(v.ldV (O[k]+1+i):Int)∈O)  (hxx:(x:Int)=BS v O to (v.ldV (O[k]+1+i))) (hx2:x<18446744073709551616):
  Cpd v (v'.st (t+1+i) x) to O k (i+1)/\LM v O k (i+1):=by
 have ha:=hR _ (τ hk);have Z:=c.mks.sound.rd _ ha;have hpp:=QU Z;have h0:=GH v (O.take k);have hl:=((Cpd.copy c hn hR h hk ht).2.2.2 i hi).2;have X:=h.ok.st_ldV x hl;have hpl:=place_lt v hk (m:=i+1) Ω
 have hT:∀j m:Nat,Trn v O k (i+1) j m↔Trn v O k i j m\/(j=k/\m=i+1):=λj m=>by
  constructor
  ·rintro⟨h1,h2|h2⟩
   ·exact .inl ⟨h1,.inl h2⟩
   ·rcases χ i m with h3|h3
    ·exact .inr Ω
    ·exact .inl ⟨h1,.inr Ω⟩
  ·rintro(⟨h1,h2|h2⟩|⟨h1,h2⟩)
   ·exact⟨h1,.inl h2⟩
   ·exact⟨h1,.inr Ω⟩
   ·exact⟨by omega,.inr Ω⟩
 refine⟨⟨h.ok.st _ hx2,h.sm.trans (BO.st _ _ _),λb hb=>?_,λj hj m hm hnT=>?_,λj hj m hm hTT=>?_⟩,λj hj m hm hTT=>?_⟩
 ·rw[X,ψ Ω];exact h.o b hb
 ·have Y:¬(j=k/\m=i+1):=λe=>hnT ((hT j m).2 (.inr e));rw[X,ψ (λe=>Y (ZE v hj hk hm (m':=i+1) Ω Ω))];exact h.raw j hj m hm (λh'=>hnT ((hT j m).2 (.inl h')))
 ·by_cases e:j=k/\m=i+1
  ·obtain⟨rfl,rfl⟩:=e;rw[X,θ Ω,show O[j]+((i+1:Nat):Int)=O[j]+1+i by omega];exact hxx
  ·rw[X,ψ (λe'=>e (ZE v hj hk hm (m':=i+1) Ω Ω))];exact h.trn j hj m hm (((hT j m).1 hTT).resolve_right e)
 ·by_cases e:j=k/\m=i+1
  ·obtain⟨rfl,rfl⟩:=e;rw[show O[j]+((i+1:Nat):Int)=O[j]+1+i by omega];exact hx
  ·exact hK j hj m hm (((hT j m).1 hTT).resolve_right e)
theorem VE(hk:k<O.length)(hi:(i:Int)=(v.rdH O[k]).p)(j m:Nat):Trn v O (k+1) 0 j m↔Trn v O k i j m:=by
 have e:O.getD k 0=O[k]:=by simp_all
 constructor
 ·rintro⟨h1,h2|h2⟩
  ·rcases χ j k with h3|h3
   ·exact⟨h1,.inl ⟨h3,h2.2⟩⟩
   ·obtain rfl:j=k:=Ω
    rw[e]at h2;exact⟨h1,.inr ⟨rfl,by omega⟩⟩
  ·omega
 ·rintro⟨h1,h2|h2⟩
  ·exact⟨h1,.inl ⟨by omega,h2.2⟩⟩
  ·obtain⟨rfl,h3⟩:=h2;exact⟨h1,.inl ⟨by omega,by rw[e];omega⟩⟩
theorem Cpd.next(h:Cpd v v' to O k i)(hK:LM v O k i)(hk:k<O.length)(hi:(i:Int)=(v.rdH O[k]).p):Cpd v v' to O (k+1) 0/\LM v O (k+1) 0:=
 ⟨⟨h.ok,h.sm,h.o,λj hj m hm hT=>h.raw j hj m hm (λh'=>hT ((VE hk hi j m).2 h')),λj hj m hm hT=>h.trn j hj m hm ((VE hk hi j m).1 hT)⟩,λj hj m hm hT=>hK j hj m hm ((VE hk hi j m).1 hT)⟩
theorem VqB(hR:∀a∈O,Rch v rs a){l:List Int}(hl:∀a∈l,a≠0->Rch v rs a):∀a∈DF O l,Rch v rs a:=λa ha=>by
 rcases SE.1 ha with h|⟨h,h0⟩
 ·exact hR a h
 simp_all
theorem JKk(c:DI v rs L to){b:Int}(hb:Rch v rs b):∀a∈DN v b,a≠0->Rch v rs a:=λa ha h0=>by
 obtain⟨i,hi,rfl⟩:=ζs ha;rw[XG]at h0⊢;rw[TQ]at hi;have Y:=c.mks.sound.rd _ hb;have X:=c.mks.sound.pt _ hb i Ω;have he:=J4 X;exact hb.step ⟨Y,i,by omega,X,by omega,by rw[he.1]⟩
theorem V16(c:DI v rs L to)(k:Nat):∀a∈AT v rs k,Rch v rs a:=by
 induction k with
 | zero=>exact VqB (λa h=>by cases h) (λa ha h0=>Rch.root ha h0)
 | succ k ih=>
  unfold AT
  grind [VqB,JKk,υ,τ]
theorem VH(v:Vm)(rs:List Int)(k:Nat):∃X,AT v rs (k+1)=AT v rs k++X:=by
 show ∃X,(if k<(AT v rs k).length then DF (AT v rs k) (DN v ((AT v rs k).getD k 0))else AT v rs k)=AT v rs k++X
 split
 ·exact WG _ _
 simp_all
theorem YFK(v:Vm)(rs:List Int)(k:Nat):∀j,j<k->∀(hj:j<(AT v rs k).length),∀b∈DN v (AT v rs k)[j],b≠0->b∈AT v rs k:=by
 induction k with
 | zero=>omega
 | succ k ih=>
  intro j hjk hj b hb h0;by_cases hlt:k<(AT v rs k).length
  ·have e:AT v rs (k+1)=DF (AT v rs k) (DN v ((AT v rs k).getD k 0)):=by
    show (if _ then _ else _)=_
    simp_all
   obtain⟨X,hX⟩:=WG (AT v rs k) (DN v ((AT v rs k).getD k 0));have hjl:j<(AT v rs k).length:=Ω
   have e1:(AT v rs (k+1))[j]=(AT v rs k)[j]:=by
    simp_all
   rw[e1]at hb;rw[e];rcases χ j k with h1|h1
   ·grind
   ·obtain rfl:j=k:=Ω
    refine SE.2 (.inr ⟨?_,h0⟩)
    simp_all
  ·have e:AT v rs (k+1)=AT v rs k:=by
    show (if _ then _ else _)=_
    grind
   grind
theorem Zqu(v:Vm)(rs:List Int)(k:Nat):∀r∈rs,r≠0->r∈AT v rs k:=by
 induction k with
 | zero=>exact λr hr h0=>SE.2 (.inr ⟨hr,h0⟩)
 | succ k ih=>
  intro r hr h0;obtain⟨X,hX⟩:=VH v rs k
  simp_all
theorem DI.done(c:DI v rs L to)(hk:k=(AT v rs k).length):(∀a,Rch v rs a->a∈AT v rs k)/\AI v (AT v rs k)=AC L:=by
 have X:∀a,Rch v rs a->a∈AT v rs k:=λa ha=>by
  refine(ha (λb=>b∈AT v rs k/\Rch v rs b) (λr hr h0=>⟨Zqu v rs k r hr h0,Rch.root hr h0⟩) ?_).1;rintro x y ⟨hx,Y⟩ hp;refine⟨?_,Y.step hp⟩;obtain⟨-,i,hi,h0,h1,rfl⟩:=hp;obtain⟨j,hj,rfl⟩:=ζs hx;have he:=J4 h0;have hpp:=QU (c.mks.sound.rd _ Y);refine YFK v rs k j Ω hj _ ?_ Ω;rw[he.1];have Z:i<(DN v (AT v rs k)[j]).length:=by rw[TQ];omega
  rw[<-XG v _ Z]
  grind
 refine⟨X,?_⟩;have h1:=c.sum (Zh5 v rs k) (V16 c k);have h2:=VJ9 (v:=v) (λo ho=>(c.mks.mkd.ats o ho).2.2) c.mks.mkd.good.lt (O:=AT v rs k) (λo ho=>X _ (c.mks.mkd.ats o ho).1);omega
end
structure I5(v v':Vm):Prop where
 n:v'.n=v.n
 le:∀a:Int,v.ldE a=0->v'.ldE a=0/\v'.ldV a=v.ldV a
theorem BT.wider{F:List Nat}(h:BT v v' F)(hv:AG v):I5 v v':=by
 refine⟨h.n,λa ha=>?_⟩;obtain⟨h0,h1⟩:=K0 ha;obtain⟨j,rfl⟩:∃j:Nat,a=j:=⟨a.toNat,by omega⟩;have hj:j<v.n:=Ω
 have hn:¬j/v.pl.pg∈F:=λhm=>by
  rw[hv.ldE_of hj,θ (h.un _ hm).2]at ha;cases ha
 rw[h.ldE hv hj,h.vl j hj,ψ hn,ψ hn];omega
theorem I5.rd(h:I5 v v')(hr:v.rdE a=0):v'.rdE a=0/\v'.rdH a=v.rdH a:=by
 obtain⟨h0,h1,-⟩:=F7 hr;obtain⟨e1,e2⟩:=h.le a h1;unfold Vm.rdE at hr⊢;rw[ψ Ω,ψ Ω,θ h1]at hr;refine⟨by grind,?_⟩;unfold Vm.rdH
 simp_all
theorem I5.pt(h:I5 v v')(hr:v.rdE a=0)(hi:(i:Int)<(v.rdH a).p)(hp:v.ptE a i=0):v'.ptE a i=0/\v'.ptV a i=v.ptV a i:=by
 obtain⟨e1,e2⟩:=h.rd hr;have X:=J4 hp;obtain⟨e3,e4⟩:=h.le _ X.2.2.1;have:=Xm6 (v:=v') (a:=a) (i:=i) e1 (by simp_all) e3 Ω;exact⟨this.1,by rw[(J4 this.1).1,X.1,e4]⟩
theorem I5.rch(h:I5 v v')(hS:DP v rs n)(a:Int):Rch v' rs a↔Rch v rs a:=by
 constructor
 ·intro ha;refine ha (λb=>Rch v rs b) (λr hr h0=>Rch.root hr h0) ?_;rintro b c hb ⟨-,i,hi,h0,h1,rfl⟩;have X:=hS.rd b hb;rw[(h.rd X).2]at hi;have hp:=h.pt X hi (hS.pt b hb i hi);rw[hp.2]at h1⊢;exact hb.step ⟨X,i,hi,hS.pt b hb i hi,h1,rfl⟩
 ·intro ha;refine(ha (λb=>Rch v' rs b/\Rch v rs b) (λr hr h0=>⟨Rch.root hr h0,Rch.root hr h0⟩) ?_).1;rintro b c ⟨hb,Y⟩ hp;refine⟨?_,Y.step hp⟩;obtain⟨X,i,hi,h0,h1,rfl⟩:=hp;have hp:=h.pt X hi h0;rw[<-hp.2];exact hb.step ⟨(h.rd X).1,i,by rw[(h.rd X).2];exact hi,hp.1,by omega,rfl⟩
theorem I5.marks(h:I5 v v')(hM:BH v rs n L):BH v' rs n L:=by
 have hS:=hM.sound;refine⟨⟨hM.mkd.good,λo ho=>?_⟩,λa ha=>hM.all a ((h.rch hS a).1 ha),λo ho i hi=>?_⟩
 ·obtain⟨h1,h2,h3⟩:=hM.mkd.ats o ho;obtain⟨e1,e2⟩:=h.rd h2;exact⟨(h.rch hS _).2 h1,e1,by rw[h3];unfold Vm.osz;rw[e2]⟩
 ·obtain⟨h1,h2,-⟩:=hM.mkd.ats o ho;rw[(h.rd h2).2]at hi;obtain⟨c1,c2⟩:=hM.cl o ho i hi;have hp:=h.pt h2 hi c1
  simp_all
def umN(v:Vm)(q0:Nat):Nat->Vm
 | 0=>v
 | k+1=>(umN v q0 k).um ((q0+k:Nat):Int)
theorem ZH(v:Vm)(p:Int):(v.um p).n=v.n/\(v.um p).pl.pg=v.pl.pg/\(v.um p).pl.rm=v.pl.rm/\(v.um p).pt.length=v.pt.length:=by
 unfold Vm.um
 split
 ·exact⟨rfl,rfl,rfl,η⟩
 omega
theorem MA(v:Vm)(q0 k:Nat):(umN v q0 k).n=v.n/\(umN v q0 k).pl.pg=v.pl.pg/\(umN v q0 k).pl.rm=v.pl.rm/\(umN v q0 k).pt.length=v.pt.length:=by
 induction k with
 | zero=>exact⟨rfl,rfl,rfl,rfl⟩
 | succ k ih=>
  obtain⟨h1,h2,h3,h4⟩:=ZH (umN v q0 k) ((q0+k:Nat):Int);exact⟨h1.trans ih.1,h2.trans ih.2.1,h3.trans ih.2.2.1,h4.trans ih.2.2.2⟩
theorem P5(h:AG v)(q0 k:Nat):AG (umN v q0 k):=by
 induction k with
 | zero=>exact h
 | succ k ih=>exact ih.um _
theorem VX(h:AG v)(q0 k:Nat){a:Nat}(ha:a<v.n):(umN v q0 k).ldE a=if q0<=a/v.pl.pg/\a/v.pl.pg<q0+k then 12 else v.ldE a:=by
 induction k with
 | zero=>rw[ψ Ω];rfl
 | succ k ih=>
  obtain⟨s1,s2,-,s4⟩:=MA v q0 k;have X:=P5 h q0 k
  show ((umN v q0 k).um ((q0+k:Nat):Int)).ldE a=_
  by_cases hf:frE (umN v q0 k).pt ((q0+k:Nat):Int)=0
  ·rw[X.um_ldE hf Ω,s2,ih];omega
  ·rw[QR hf];by_cases e:a/v.pl.pg=q0+k
   ·have h1:=X.ldE_of (a:=a) Ω;rw[s2,e]at h1;have hl:q0+k<(umN v q0 k).pt.length:=by rw[s4,<-e];exact(h.split ha).1
    rw[MN hl]at hf;omega
   omega
theorem VIn(h:AG v)(q0 k:Nat){a:Nat}(ha:a<v.n)(hn:¬(q0<=a/v.pl.pg/\a/v.pl.pg<q0+k)):(umN v q0 k).ldV a=v.ldV a:=by
 induction k with
 | zero=>rfl
 | succ k ih=>
  obtain⟨s1,s2,-,-⟩:=MA v q0 k;have X:=P5 h q0 k
  show ((umN v q0 k).um ((q0+k:Nat):Int)).ldV a=_
  by_cases hf:frE (umN v q0 k).pt ((q0+k:Nat):Int)=0
  ·rw[X.um_ldV hf Ω (by grind)];omega
  grind [QR]
open Classical in
theorem DP.ex(hS:DP v rs n):∃L,BH v rs n L:=by
 have V:∀a,Rch v rs a->∃j:Nat,j<n/\(j:Int)=a:=λa ha=>by
  have h1:=hS.rm a ha;have h2:=DB (hS.rd a ha);exact⟨a.toNat,by omega,by omega⟩
 obtain⟨M,hM⟩:∃M,M=((List.range n).filter (λj=>decide (Rch v rs ((j:Nat):Int)))).map (λj=>(j,(v.osz ((j:Nat):Int)).toNat)):=⟨_,rfl⟩
 have X:∀o∈M,∃j:Nat,j<n/\Rch v rs (j:Int)/\o=(j,(v.osz ((j:Nat):Int)).toNat):=λo ho=>by
  rw[hM]at ho;obtain⟨j,hj,rfl⟩:=ξx.1 ho;obtain⟨h1,h2⟩:=ψr.1 hj;exact⟨j,ξj.1 h1,of_decide_eq_true h2,rfl⟩
 have Z:∀a,Rch v rs a->Hs M a:=λa ha=>by
  obtain⟨j,hj,rfl⟩:=V a ha;exact⟨(j,(v.osz ((j:Nat):Int)).toNat),by rw[hM];exact ξx.2 ⟨j,ψr.2 ⟨ξj.2 hj,φ ha⟩,rfl⟩,rfl⟩
 refine⟨M,⟨⟨⟨?_,λo ho=>?_⟩,λo ho=>?_⟩,Z,λo ho=>?_⟩⟩
 ·rw[hM,ψw];refine ξ4 ?_ (List.Pairwise.filter _ List.pairwise_lt_range);intro i j hi hj hij;have Y:=of_decide_eq_true (ψr.1 hi).2;have J:=of_decide_eq_true (ψr.1 hj).2;have h1:=DB (hS.rd _ Y);have h2:=DB (hS.rd _ J);rcases hS.dj _ _ Y J with e|e|e
  ·omega
  ·omega
  ·omega
 ·obtain⟨j,hj,hr,rfl⟩:=X o ho;have h1:=hS.rm _ hr;have h2:=DB (hS.rd _ hr);omega
 ·obtain⟨j,hj,hr,rfl⟩:=X o ho;have h2:=DB (hS.rd _ hr);exact⟨hr,hS.rd _ hr,by dsimp only;omega⟩
 ·obtain⟨j,hj,hr,rfl⟩:=X o ho;intro i hi;have U:=hS.pt _ hr i hi;exact⟨U,λh0=>Z _ (hr.step ⟨hS.rd _ hr,i,hi,U,h0,rfl⟩)⟩
theorem Img.marks(h:Img v g F lo hi)(ho:g.Ok)(hn:hi<=n):∃L,BH v (g.S.map λx=>(F x:Int)) n L:=by
 have hS:=h.sound ho;exact DP.ex ⟨hS.rd,hS.pt,λa ha=>by have:=hS.rm a ha;omega,hS.dj⟩
theorem Img.full(h:Img v g F lo hi)(ho:g.Ok)(hM:BH v (g.S.map λx=>(F x:Int)) n L):FU v L:=λo hoL m hm=>by
 obtain⟨h1,h2,h3⟩:=hM.mkd.ats o hoL;obtain⟨x,hx,e⟩:=h.rch ho h1;rw[e,h.osz ho hx]at h3;have h3:o.2=(g.ob x).size:=Ω
 rw[e];rcases ζC m with rfl|hp
 ·have:=(RK (h.rd x hx)).2.1
  assumption
 ·obtain⟨i,rfl⟩:∃i,m=1+i:=⟨m-1,by omega⟩;have hi:i<(g.ob x).p+(g.ob x).f+(g.ob x).k:=by rw[h3]at hm;unfold GOb.size at hm;omega
  rcases χ i (g.ob x).p with X|X
  ·have:=(NX (h.pt x hx i X).1).2.2.1
   grind
  ·have:=(h.wd x hx i X hi).1
   grind
theorem Img.inn(h:Img v g F lo hi)(ho:g.Ok)(hM:BH v (g.S.map λx=>(F x:Int)) n L):∀o∈L,lo<=o.1/\o.1+o.2<=hi:=λo hoL=>by
 obtain⟨h1,h2,h3⟩:=hM.mkd.ats o hoL;obtain⟨x,hx,e⟩:=h.rch ho h1;rw[e,h.osz ho hx]at h3;have:=h.lo x hx;omega
def Gph.words(g:Gph):Nat:=(g.all.map λx=>(g.ob x).size).sum
theorem Img.sum(h:Img v g F lo hi)(ho:g.Ok):∀l:List Nat,(∀x∈l,g.Rd x)->AI v (l.map λx=>(F x:Int))=((l.map λx=>(g.ob x).size).sum:Nat)
 | [],_=>rfl
 | x :: l,hl=>by
  have h1:=h.sum ho l (λy hy=>hl y (ζA _ hy));simp only[ξw,AI,ξ3];rw[h1,h.osz ho (hl x ζt)];omega
theorem Img.words(h:Img v g F lo hi)(ho:g.Ok)(hM:BH v (g.S.map λx=>(F x:Int)) n L):AC L=g.words:=by
 have hz:∀o∈L,(o.2:Int)=v.osz o.1:=λo hoL=>(hM.mkd.ats o hoL).2.2;have X:∀x∈g.all,g.Rd x:=λx hx=>ho.mem_all.1 hx;have hsum:=h.sum ho g.all X
 have Z:(g.all.map λx=>(F x:Int)).Nodup:=by
  have h1:=(Zeq g.pts g.L.length g.S).1;rw[List.Nodup,ψw];refine ξ4 ?_ h1;intro a b ha hb Y e;exact Y (h.inj (X a ha) (X b hb) Ω)
 have h1:AI v (g.all.map λx=>(F x:Int))<=AC L:=XaN hz Z (λa ha=>by
  obtain⟨x,hx,rfl⟩:=ξx.1 ha
  exact hM.all _ (h.rch_of (X x hx)))
 have h2:(AC L:Int)<=AI v (g.all.map λx=>(F x:Int)):=VJ9 hz (hM.mkd.good.pw.imp_of_mem (λ{a b} ha hb Y=>by have:=(hM.mkd.good.sz a ha).1;omega)) (λo hoL=>by
  obtain⟨x,hx,e⟩:=h.rch ho (hM.mkd.ats o hoL).1
  exact ξx.2 ⟨x,ho.mem_all.2 hx,e.symm⟩)
 unfold Gph.words;omega
theorem Img.nodup(h:Img v g F lo hi)(ho:g.Ok):(g.all.map λx=>(F x:Int)).Nodup:=by
 have h1:=(Zeq g.pts g.L.length g.S).1;rw[List.Nodup,ψw];refine ξ4 ?_ h1;intro a b ha hb X e;exact X (h.inj (ho.mem_all.1 ha) (ho.mem_all.1 hb) Ω)
theorem Img.count(h:Img v g F lo hi)(ho:g.Ok)(hM:BH v (g.S.map λx=>(F x:Int)) n L):L.length=g.all.length:=by
 have hd:(L.map λo=>(o.1:Int)).Nodup:=by
  rw[List.Nodup,ψw];refine ξ4 ?_ hM.mkd.good.pw;intro a b ha hb hab e;have:=(hM.mkd.good.sz a ha).1;omega
 have h1:=hd.length_le_of_subset (l₂:=g.all.map λx=>(F x:Int)) (λa ha=>by
  obtain⟨o,X,rfl⟩:=ξx.1 ha;obtain⟨x,hx,e⟩:=h.rch ho (hM.mkd.ats o X).1
  exact ξx.2 ⟨x,ho.mem_all.2 hx,e.symm⟩)
 have h2:=(h.nodup ho).length_le_of_subset (l₂:=L.map λo=>(o.1:Int)) (λa ha=>by
  obtain⟨x,hx,rfl⟩:=ξx.1 ha;obtain⟨o,X,e⟩:=hM.all _ (h.rch_of (ho.mem_all.1 hx))
  grind)
 grind
def BR(b:Nat):Nat:=if b/4503599627370496=0 then b%4503599627370496 else (b%4503599627370496+4503599627370496)*2 ^ (b/4503599627370496-1)
def AK:Nat:=9218868437227405312
def CH(a:Nat):Nat:=if a=0 then 0 else a.log2+1
def EK(a:Nat):Nat:=
 let k:=CH a-53
 let m:=a/2 ^ k%9007199254740992
 let b:=k*4503599627370496+m
 min (if 0<k/\a/2 ^ (k-1)%2=1/\(m%2=1\/0<a%2 ^ (k-1))then b+1 else b) AK
theorem XPs(b:Nat):BR (b+1)=BR b+2 ^ (b/4503599627370496-1):=by
 unfold BR;have hd:=ζm b 4503599627370496;have hm:=ζK b (show 0<4503599627370496 by decide);obtain⟨e,he⟩:∃e,e=b/4503599627370496:=⟨_,rfl⟩;obtain⟨m,X⟩:∃m,m=b%4503599627370496:=⟨_,rfl⟩;rw[<-he,<-X]at hd;rw[<-X]at hm;rw[<-he,<-X];by_cases hl:m+1<4503599627370496
 ·have h1:(b+1)/4503599627370496=e:=Ω
  have h2:(b+1)%4503599627370496=m+1:=Ω
  rw[h1,h2]
  split
  ·rename_i h0;subst h0;rfl
  ·rw[show m+1+4503599627370496=(m+4503599627370496)+1 by omega,ξa]
 ·have h1:(b+1)/4503599627370496=e+1:=Ω
  have h2:(b+1)%4503599627370496=0:=Ω
  rw[h1,h2,ψ Ω,ξU];have Y:m=4503599627370495:=Ω
  subst Y
  split
  ·rename_i h0;subst h0;rfl
  ·obtain⟨f,rfl⟩:∃f,e=f+1:=⟨e-1,by omega⟩;rw[ξU,Nat.pow_succ];omega
theorem Z8y(b:Nat):BR b<BR (b+1):=by
 rw[XPs];have:=Nat.two_pow_pos (b/4503599627370496-1);omega
theorem Q4o(h:b<c):BR b<BR c:=by
 induction c with
 | zero=>omega
 | succ c ih=>
  have h1:=Z8y c;by_cases e:b=c
  ·subst e;exact h1
  ·have:=ih Ω;omega
theorem Z40{a:Nat}(h:a≠0):2 ^ (CH a-1)<=a/\a<2 ^ CH a:=by
 unfold CH;rw[ψ h,ξU];exact⟨Nat.log2_self_le h,Nat.lt_log2_self⟩
def lv(B:Nat):List Nat->Nat
 | []=>0
 | x :: xs=>x+B*lv B xs
theorem Q7(B:Nat)(l:List Nat):∀{i:Nat},i<l.length->∀y,lv B (l.set i y)+l.getD i 0*B ^ i=lv B l+y*B ^ i:=by
 induction l with
 | nil=>intro i h;exact absurd h (ζ2 _)
 | cons x xs ih=>
  intro i hi y;cases i with
  | zero=>simp[lv];omega
  | succ i=>
   have h:=ih (i:=i) (by simpa using hi) y;have h2:=congrArg (B * ·) h;simp only[ψn]at h2;simp only[ζl,lv,List.getD_cons_succ,Nat.pow_succ];rw[show xs.getD i 0*(B ^ i*B)=B*(xs.getD i 0*B ^ i)by ac_rfl,show y*(B ^ i*B)=B*(y*B ^ i)by ac_rfl];omega
theorem Vk5{l:List Nat}(hi:i<l.length)(z:Nat):lv B (l.set i ((l.getD i 0+z)%B))+(l.getD i 0+z)/B*B ^ (i+1)=lv B l+z*B ^ i:=by
 have h:=Q7 B l hi ((l.getD i 0+z)%B);obtain⟨x,hx⟩:∃x,x=l.getD i 0:=⟨_,rfl⟩;rw[<-hx]at h⊢;have hd:=ζm (x+z) B;obtain⟨q,hq⟩:∃q,q=(x+z)/B:=⟨_,rfl⟩;obtain⟨r,hr⟩:∃r,r=(x+z)%B:=⟨_,rfl⟩;rw[<-hq,<-hr]at hd;rw[<-hr]at h;rw[<-hq,<-hr];have h2:=congrArg (· * B ^ i) hd;simp only[ζM]at h2;rw[Nat.pow_succ,show q*(B ^ i*B)=B*q*B ^ i by ac_rfl];omega
theorem J9G{l:List Nat}(hi:i<l.length)(hz:z<=l.getD i 0):lv B (l.set i (l.getD i 0-z))+z*B ^ i=lv B l:=by
 have h:=Q7 B l hi (l.getD i 0-z);obtain⟨x,hx⟩:∃x,x=l.getD i 0:=⟨_,rfl⟩;rw[<-hx]at h hz⊢;obtain⟨y,rfl⟩:∃y,x=y+z:=⟨x-z,by omega⟩;rw[ξU]at h⊢;rw[ζM]at h;omega
theorem Q0J{l:List Nat}(hi:i<l.length)(hz:z<=l.getD i 0+B):lv B (l.set i (l.getD i 0+B-z))+z*B ^ i=lv B l+B ^ (i+1):=by
 have h:=Q7 B l hi (l.getD i 0+B-z);obtain⟨x,hx⟩:∃x,x=l.getD i 0:=⟨_,rfl⟩;rw[<-hx]at h hz⊢;obtain⟨y,hy⟩:∃y,y=x+B-z:=⟨_,rfl⟩;rw[<-hy]at h⊢;have X:y+z=x+B:=Ω
 have h2:=congrArg (· * B ^ i) X;simp only[ζM]at h2;rw[Nat.pow_succ,ζy (B ^ i) B];omega
theorem PG{B:Nat}(hB:0<B):∀{l:List Nat},(∀x∈l,x<B)->lv B l<B ^ l.length
 | [],_=>by simp[lv]
 | x :: xs,h=>by
  have h1:=PG hB (l:=xs) (λy hy=>h y (ζA _ hy));have h2:=h x ζt
  have h3:B*lv B xs+B<=B*B ^ xs.length:=by
   rw[<-Nat.mul_succ];exact ψs B h1
  simp only[lv,ζE];rw[Nat.pow_succ,ζy (B ^ xs.length) B];omega
theorem WL(B:Nat):∀(l:List Nat) (i:Nat),lv B l=lv B (l.take i)+B ^ i*lv B (l.drop i)
 | l,0=>by simp[lv]
 | [],i+1=>by simp[lv]
 | x :: xs,i+1=>by
  have h:=WL B xs i;simp only[ξy,List.drop_succ_cons,lv];rw[h,ψn,Nat.pow_succ,show B ^ i*B*lv B (xs.drop i)=B*(B ^ i*lv B (xs.drop i))by ac_rfl];omega
theorem YJJ(hB:0<B){l:List Nat}(h:∀x∈l,x<B)(hi:i<=l.length):lv B l/B ^ i=lv B (l.drop i)/\lv B l%B ^ i=lv B (l.take i):=by
 have h1:=WL B l i;have h2:=PG hB (l:=l.take i) (λx hx=>h x (ξN hx));rw[ψj,ψq hi]at h2;have hp:0<B ^ i:=Nat.pow_pos hB;rw[h1];constructor
 ·rw[ξB,ψE hp,ξ1 h2,ζ3]
 ·rw[ξB,Nat.mul_add_mod,ψh h2]
theorem QQ{l:List Nat}(hi:i<l.length):lv B (l.drop i)=l.getD i 0+B*lv B (l.drop (i+1)):=by
 rw[ξA hi];simp only[lv];rw[δ,υ hi,ψA]
theorem NN{B:Nat}(hB:0<B):∀{l:List Nat},lv B l=0↔∀x∈l,x=0
 | []=>by simp[lv]
 | x :: xs=>by
  have h:=NN hB (l:=xs);simp only[lv,ξv,forall_eq_or_imp];rw[<-h];constructor
  ·intro e;have h1:x=0:=Ω
   have h2:B*lv B xs=0:=Ω
   exact⟨h1,(Nat.mul_eq_zero.1 h2).resolve_left Ω⟩
  ·rintro⟨e1,e2⟩;rw[e1,e2];rfl
theorem XKy{a:Nat}(h1:2 ^ n<=a)(h2:a<2 ^ (n+1)):CH a=n+1:=by
 have h0:a≠0:=by have:=Nat.two_pow_pos n;omega
 have h3:=Z40 h0;have hl:CH a≠0:=by unfold CH;rw[ψ h0];omega
 rcases ζP (CH a) (n+1)with h|h|h
 ·have:2 ^ CH a<=2 ^ n:=Nat.pow_le_pow_right (by decide) Ω;omega
 ·exact h
 ·have:2 ^ (n+1)<=2 ^ (CH a-1):=Nat.pow_le_pow_right (by decide) Ω;omega
theorem ZHT{l:List Nat}(h:∀x∈l,x<2 ^ b)(hi:i<l.length)(hx:l.getD i 0≠0)(hz:∀x∈l.drop (i+1),x=0):CH (lv (2 ^ b) l)=b*i+CH (l.getD i 0):=by
 have hB:=Nat.two_pow_pos b;have X:=WL (2 ^ b) l i;have Z:=PG hB (l:=l.take i) (λx hx=>h x (ξN hx));rw[ψj,ψq (ξM hi),<-Nat.pow_mul]at Z;rw[QQ hi,(NN hB).2 hz,Nat.mul_zero,ζ3,<-Nat.pow_mul]at X;obtain⟨x,Y⟩:∃x,x=l.getD i 0:=⟨_,rfl⟩;rw[<-Y]at hx X⊢;obtain⟨s1,s2⟩:=Z40 hx;have hl:CH x≠0:=by unfold CH;rw[ψ hx];omega
 obtain⟨n,hn⟩:∃n,CH x=n+1:=⟨CH x-1,by omega⟩;rw[hn]at s1 s2⊢;rw[ξU]at s1;rw[<-ξp];refine XKy ?_ ?_
 ·have:2 ^ (b*i)*2 ^ n<=2 ^ (b*i)*x:=ψs _ s1;rw[<-Nat.pow_add]at this;omega
 ·have:2 ^ (b*i)*(x+1)<=2 ^ (b*i)*2 ^ (n+1):=ψs _ s2;rw[<-Nat.pow_add,Nat.mul_succ,<-ξp]at this;omega
section
variable{l:List Nat}
theorem UA(h:∀x∈l,x<2 ^ 64)(hi:i<l.length):lv (2 ^ 64) l/2 ^ (64*i)=l.getD i 0+2 ^ 64*lv (2 ^ 64) (l.drop (i+1))/\lv (2 ^ 64) l%2 ^ (64*i)=lv (2 ^ 64) (l.take i):=by
 have h1:=YJJ (Nat.two_pow_pos 64) h (ξM hi);rw[<-Nat.pow_mul]at h1;rw[<-QQ hi];exact h1
theorem ZLO(i:Nat):∃Z,lv (2 ^ 64) (l.drop (i+1))=l.getD (i+1) 0+2 ^ 64*Z:=by
 rcases χ (i+1) l.length with hl|hl
 ·exact⟨_,QQ hl⟩
 ·refine⟨0,?_⟩;rw[ψg hl,δ,ζx hl];rfl
theorem RJ(ho:off<64):(2:Nat) ^ 64=2 ^ off*2 ^ (64-off):=by rw[<-Nat.pow_add,show off+(64-off)=64 by omega]
theorem Z3(h:∀x∈l,x<2 ^ 64)(hi:i<l.length)(ho:off<64):lv (2 ^ 64) l/2 ^ (64*i+off)=l.getD i 0/2 ^ off+2 ^ (64-off)*lv (2 ^ 64) (l.drop (i+1)):=by
 rw[Nat.pow_add,<-ψB,(UA h hi).1];generalize lv (2 ^ 64) (l.drop (i+1))=Y;rw[RJ ho,ψl,Nat.add_mul_div_left _ _ (Nat.two_pow_pos off)]
theorem ZrJ(h:∀x∈l,x<2 ^ 64)(hi:i<l.length)(ho:off<64):lv (2 ^ 64) l/2 ^ (64*i+off)%9007199254740992=(l.getD i 0/2 ^ off+l.getD (i+1) 0*2 ^ (64-off)%18446744073709551616)%9007199254740992:=by
 obtain⟨Z,hZ⟩:=ZLO (l:=l) i;rw[Z3 h hi ho,hZ,ψn,show 2 ^ (64-off)*(2 ^ 64*Z)=18446744073709551616*(2 ^ (64-off)*Z)by rw[show (2:Nat) ^ 64=18446744073709551616 by decide];ac_rfl,ζy (2 ^ (64-off)) (l.getD (i+1) 0)];generalize l.getD (i+1) 0*2 ^ (64-off)=T;generalize 2 ^ (64-off)*Z=U;generalize l.getD i 0/2 ^ off=V;omega
theorem VFZ(h:∀x∈l,x<2 ^ 64)(hi:i<l.length)(ho:off<64):lv (2 ^ 64) l/2 ^ (64*i+off)%2=l.getD i 0/2 ^ off%2:=by
 rw[Z3 h hi ho,show 64-off=(63-off)+1 by omega,Nat.pow_succ,ζy (2 ^ (63-off)) 2,ψl];generalize 2 ^ (63-off)*lv (2 ^ 64) (l.drop (i+1))=U;generalize l.getD i 0/2 ^ off=V;omega
theorem YPW(h:∀x∈l,x<2 ^ 64)(hi:i<l.length)(ho:off<64):lv (2 ^ 64) l%2 ^ (64*i+off)=0↔(∀x∈l.take i,x=0)/\l.getD i 0%2 ^ off=0:=by
 rw[Nat.pow_add,Nat.mod_mul,(UA h hi).1,(UA h hi).2,RJ ho,ψl,Nat.add_mul_mod_self_left,<-RJ ho,<-NN (Nat.two_pow_pos 64)];have hp:=Nat.two_pow_pos (64*i);constructor
 ·intro e;have e2:2 ^ (64*i)*(l.getD i 0%2 ^ off)=0:=Ω
  exact⟨by omega,(Nat.mul_eq_zero.1 e2).resolve_left Ω⟩
 ·rintro⟨e1,e2⟩;rw[e1,e2];rfl
theorem X5x(ho:off<64):x*2 ^ (63-off)%18446744073709551616*2%18446744073709551616=2 ^ (64-off)*(x%2 ^ off):=by
 have h1:x*2 ^ (63-off)%18446744073709551616*2%18446744073709551616=(2 ^ (64-off)*x)%18446744073709551616:=by
  rw[show 2 ^ (64-off)*x=x*2 ^ (63-off)*2 by rw[show 64-off=(63-off)+1 by omega,Nat.pow_succ];ac_rfl];generalize x*2 ^ (63-off)=T;omega
 rw[h1,show (18446744073709551616:Nat)=2 ^ (64-off)*2 ^ off by rw[<-Nat.pow_add,show 64-off+off=64 by omega],Nat.mul_mod_mul_left]
end
theorem JRN{M:Nat}{S:Int}(h:(n:Int)=S%((2*M:Nat):Int))(h1:-(M:Int)<=S)(h2:S<M):(n<M↔0<=S)/\(0<=S->(n:Int)=S)/\(S<0->((2*M-n:Nat):Int) = -S):=by
 rcases Int.lt_or_le S 0 with hs|hs
 ·have e:S%((2*M:Nat):Int)=S+((2*M:Nat):Int):=by
   rw[<-Int.add_emod_right];exact ψz Ω Ω
  rw[e]at h;exact⟨by omega,by omega,by omega⟩
 ·rw[ψz hs Ω]at h;exact⟨by omega,by omega,by omega⟩
theorem Q1n(a:Nat):EK a<=AK:=by unfold EK;exact Nat.min_le_right _ _
def EN(b:Nat):Nat:=if b/4503599627370496=0 then b%4503599627370496 else b%4503599627370496+4503599627370496
def DS(b:Nat):Nat:=b/4503599627370496-1
theorem Z2l(b:Nat):BR b=EN b*2 ^ DS b:=by
 unfold BR EN DS
 split
 ·rename_i h;rw[h];show _=_*2 ^ 0;rw[Nat.pow_zero,ξC]
 ·rfl
theorem V6a(b:Nat):EN b<9007199254740992:=by unfold EN;split <;> omega
theorem Vyu(h:b<=AK):DS b<=2046:=by
 unfold DS;have:b/4503599627370496<=AK/4503599627370496:=ζa h;have e:AK/4503599627370496=2047:=by decide
 omega
theorem ZW9(ho:off<64):m*2 ^ off%2 ^ 64+2 ^ 64*(m/2 ^ (64-off))=m*2 ^ off:=by
 have h1:=Nat.mod_add_div (m*2 ^ off) (2 ^ 64)
 have h2:m*2 ^ off/2 ^ 64=m/2 ^ (64-off):=by
  rw[RJ ho,ζy m,Nat.mul_div_mul_left _ _ (Nat.two_pow_pos off)]
 rw[h2]at h1;exact h1
theorem Xll(m ex:Nat):(m*2 ^ (ex%64))*(2 ^ 64) ^ (ex/64)=m*2 ^ ex:=by
 rw[<-Nat.pow_mul,ψl,<-Nat.pow_add,show ex%64+64*(ex/64)=ex by omega]
theorem XYn{v:Nat}{S:Int}(h:(n:Int)=S%(K:Int))(hl:n' < K)(e:n' + c*K=n+v):(n':Int)=(S+v)%(K:Int):=by
 have e1:(n':Int)=(n:Int)+v-c*K:=by
  have:((n' + c*K:Nat):Int)=((n+v:Nat):Int):=by rw[e]
  simp only[ξ8,ξY]at this;omega
 have h2:(n':Int)%(K:Int)=n':=ψz Ω Ω;rw[<-h2,e1,h];rw[Int.sub_mul_emod_self_right,Int.emod_add_emod]
theorem Ye6{v:Nat}{S:Int}(h:(n:Int)=S%(K:Int))(hl:n' < K)(e:n' + v=n+c*K):(n':Int)=(S-v)%(K:Int):=by
 have e1:(n':Int)=(n:Int)-v+c*K:=by
  have:((n' + v:Nat):Int)=((n+c*K:Nat):Int):=by rw[e]
  simp only[ξ8,ξY]at this;omega
 have h2:(n':Int)%(K:Int)=n':=ψz Ω Ω;rw[<-h2,e1,h];rw[Int.add_mul_emod_self_right,Int.emod_sub_emod]
def CF(l:List Nat):Nat:=(l.map λb=>if b<AK then BR b else 0).sum
def CG(l:List Nat):Nat:=(l.map λb=>if 9223372036854775808<=b/\b<9223372036854775808+AK then BR (b-9223372036854775808)else 0).sum
theorem Y3B(h:b<AK):BR b<BR AK:=Q4o h
theorem X2h:∀l:List Nat,CF l<=l.length*BR AK
 | []=>by simp[CF]
 | b :: l=>by
  have h:=X2h l;unfold CF at h⊢;simp only[ξw,ξ3,ζE,ξa]
  have:(if b<AK then BR b else 0)<=BR AK:=by
   split
   ·rename_i hb;exact ξM (Y3B hb)
   ·exact ζg _
  omega
theorem QXW:∀l:List Nat,CG l<=l.length*BR AK
 | []=>by simp[CG]
 | b :: l=>by
  have h:=QXW l;unfold CG at h⊢;simp only[ξw,ξ3,ζE,ξa]
  have:(if 9223372036854775808<=b/\b<9223372036854775808+AK then BR (b-9223372036854775808)else 0)<=BR AK:=by
   split
   ·rename_i hb;exact ξM (Y3B Ω)
   ·exact ζg _
  omega
def sgN:Nat:=9223372036854775808
def KV(l:List Nat):Nat:=
 if (l.any λb=>decide (AK<b%sgN))||((l.any λb=>b==AK)&&(l.any λb=>b==AK+sgN))then 9221120237041090560
 else if l.any λb=>b==AK then AK
 else if l.any λb=>b==AK+sgN then AK+sgN
 else if decide (0<l.length)&&(l.all λb=>b==sgN)then sgN
 else if CF l<CG l then EK (CG l-CF l)+sgN else EK (CF l-CG l)
def H5(a b:Nat):Bool:=if decide (sgN<=a) !=decide (sgN<=b)then decide (sgN<=a)else if sgN<=a then decide (b<a)else decide (a<b)
structure GOp where
 kd:Int
 a:Int
 b:Int
 i:Int
 h:Hdr
 wd:Nat
 fl:Nat
structure GRe where
 code:Int
 is:Bool
 n:Int
 wd:Nat
 h:Hdr
def GRe.no(e:Int):GRe:=⟨e,false,0,0,⟨0,0,0⟩⟩
def Gph.sl(g:Gph)(a:Int):Bool:=decide (0<=a)&&decide (a<g.S.length)
def Gph.at(g:Gph)(a:Int):Nat:=g.S.getD a.toNat 0
def Gph.fdE(g:Gph)(a i kd:Int):Int:=
 if g.sl a then (if g.at a=0 then 18 else if BU (g.ob (g.at a)).hdr i=0 then 19 else if BU (g.ob (g.at a)).hdr i=kd then 0 else 20)else 17
def Gph.fdV(g:Gph)(a i kd:Int):Nat:=if g.fdE a i kd=0 then (g.ob (g.at a)).w.getD i.toNat 0 else 0
def Gph.setSl(g:Gph)(a:Int)(y:Nat):Gph:=⟨g.L,g.S.set a.toNat y⟩
def Gph.setFd(g:Gph)(a i:Int)(y:Nat):Gph:=g.put (g.at a) i.toNat y
def Gph.alE(C:Nat)(g:Gph)(a:Int)(h:Hdr):Int:=if g.sl a then (if CQ h≠0 then 15 else if (C:Int)<g.words+BL h then 21 else 0)else 17
def Gph.alG(C:Nat)(g:Gph)(a:Int)(h:Hdr):Gph:=if g.alE C a h=0 then g.add a.toNat h.p.toNat h.f.toNat h.k.toNat else g
def Gph.two(g:Gph)(a b:Int)(e:Int):Int:=if g.sl a&&g.sl b then e else 17
def Gph.loE(g:Gph)(a b i:Int):Int:=g.two a b (g.fdE b i 1)
def Gph.loG(g:Gph)(a b i:Int):Gph:=if g.loE a b i=0 then g.setSl a (g.fdV b i 1)else g
def Gph.stE(g:Gph)(a i b:Int):Int:=g.two a b (g.fdE a i 1)
def Gph.stG(g:Gph)(a i b:Int):Gph:=if g.stE a i b=0 then g.setFd a i (g.at b)else g
def Gph.wrG(g:Gph)(a i kd:Int)(y:Nat):Gph:=if g.fdE a i kd=0 then g.setFd a i y else g
def Gph.cpG(g:Gph)(a b:Int):Gph:=if g.sl a&&g.sl b then g.setSl a (g.at b)else g
def Gph.clG(g:Gph)(a:Int):Gph:=if g.sl a then g.setSl a 0 else g
def Gph.slE(g:Gph)(a:Int):Int:=if g.sl a then 0 else 17
def Gph.shE(g:Gph)(a:Int):Int:=if g.sl a then (if g.at a=0 then 18 else 0)else 17
def Gph.shH(g:Gph)(a:Int):Hdr:=if g.shE a=0 then (g.ob (g.at a)).hdr else ⟨0,0,0⟩
def GOb.fls(o:GOb):List Nat:=(o.w.drop o.p).take o.f
def Gph.smV(g:Gph)(a:Int):Nat:=if g.shE a=0 then KV (g.ob (g.at a)).fls else 0
def Gph.orE(g:Gph)(a i b k:Int):Int:=if g.fdE a i 2=0 then g.fdE b k 2 else g.fdE a i 2
def Gph.orV(g:Gph)(a i b k:Int):Int:=
 if g.orE a i b k=0 then (if H5 (g.fdV a i 2) (g.fdV b k 2)then -1 else if H5 (g.fdV b k 2) (g.fdV a i 2)then 1 else 0)else 0
def GOp.doG(C:Nat)(x:GOp)(g:Gph):Gph:=
 if x.kd=1 then g.alG C x.a x.h else if x.kd=2 then g.loG x.a x.b x.i else if x.kd=3 then g.stG x.a x.i x.b else if x.kd=5 then g.wrG x.a x.i 3 x.wd
 else if x.kd=7 then g.wrG x.a x.i 2 x.fl else if x.kd=8 then g.cpG x.a x.b else if x.kd=9 then g.clG x.a else g
def GOp.doR(C:Nat)(x:GOp)(g:Gph):GRe:=
 if x.kd=1 then .no (g.alE C x.a x.h)
 else if x.kd=2 then .no (g.loE x.a x.b x.i)
 else if x.kd=3 then .no (g.stE x.a x.i x.b)
 else if x.kd=4 then ⟨g.fdE x.a x.i 3,false,0,g.fdV x.a x.i 3,⟨0,0,0⟩⟩
 else if x.kd=5 then .no (g.fdE x.a x.i 3)
 else if x.kd=6 then ⟨g.fdE x.a x.i 2,false,0,g.fdV x.a x.i 2,⟨0,0,0⟩⟩
 else if x.kd=7 then .no (g.fdE x.a x.i 2)
 else if x.kd=8 then .no (g.two x.a x.b 0)
 else if x.kd=9 then .no (g.slE x.a)
 else if x.kd=10 then ⟨g.two x.a x.b 0,g.sl x.a&&g.sl x.b&&(g.at x.a==g.at x.b),0,0,⟨0,0,0⟩⟩
 else if x.kd=11 then ⟨g.shE x.a,false,0,0,g.shH x.a⟩
 else if x.kd=12 then ⟨g.shE x.a,false,0,g.smV x.a,⟨0,0,0⟩⟩
 else if x.kd=13 then ⟨g.orE x.a x.i x.b (if x.wd<256 then x.wd else -1),false,g.orV x.a x.i x.b (if x.wd<256 then x.wd else -1),0,⟨0,0,0⟩⟩
 else if x.kd=14 then ⟨0,false,(g.all.length:Nat),g.words,⟨0,0,0⟩⟩
 else if 15<=x.kd/\x.kd<=17 then .no 0 else .no 24
open Go.ChangeShapes Go.WideShapes Go.ChangeAt
def opL(x:GOp):List Value:=[iI x.kd,iI x.a,iI x.b,iI x.i,iI x.h.p,iI x.h.f,iI x.h.k,uU (x.wd:Nat),.float .f64 x.fl]
structure GOp.Bd(x:GOp):Prop where
 kd:-9223372036854775808<=x.kd/\x.kd<=9223372036854775807
 a:-9223372036854775808<=x.a/\x.a<=9223372036854775807
 b:-9223372036854775808<=x.b/\x.b<=9223372036854775807
 i:-9223372036854775808<=x.i/\x.i<=9223372036854775807
 hp:-9223372036854775808<=x.h.p/\x.h.p<=9223372036854775807
 hf:-9223372036854775808<=x.h.f/\x.h.f<=9223372036854775807
 hk:-9223372036854775808<=x.h.k/\x.h.k<=9223372036854775807
 wd:x.wd<18446744073709551616
 fl:x.fl<18446744073709551616
theorem Vuv:prog.cellsOf 82=9:=by kernel_rfl
theorem VT5:prog.cellsOf 64=3:=by kernel_rfl
theorem ZO3:prog.cellsOf 22=1:=by kernel_rfl
theorem QE0:prog.cellsOf 37=1:=by kernel_rfl
theorem QmK:prog.cellsOf 3=1:=by kernel_rfl
section
variable{enc:TypeId × Value->H}{P:Program}{base:Nat}{t:TypeId}{x:DataW H × List MemPlace}
theorem VUD{k:FloatKind}(ht:P.underlying t=some (.float k))(h:DataW.trod enc P w base spare held fuel t cs=some x):∃n,cs=[.float k n]/\(Lit.float k n).wf=true:=by
 cases fuel with
 | zero=>simp[DataW.trod]at h
 | succ n=>
  unfold DataW.trod at h;rw[ht]at h
  split at h <;> simp_all
theorem EP{l:List Value}{v:Value}(h:(l.drop j).take 1=[v]):l[j]?=some v:=by
 have:((l.drop j).take 1)[0]?=some v:=by rw[h];rfl
 simpa using this
theorem Vgf{l:List Value}{v0 v1 v2 v3 v4 v5 v6 v7 v8:Value}(hl:l.length=9)(h0:l[0]?=some v0)(h1:l[1]?=some v1)(h2:l[2]?=some v2)(h3:l[3]?=some v3)(h4:l[4]?=some v4)(h5:l[5]?=some v5)(h6:l[6]?=some v6)(h7:l[7]?=some v7)(h8:l[8]?=some v8):l=[v0,v1,v2,v3,v4,v5,v6,v7,v8]:=by
 match l,hl with
 | [a0,a1,a2,a3,a4,a5,a6,a7,a8],_=>simp at h0 h1 h2 h3 h4 h5 h6 h7 h8;simp[*]
end
section
variable{enc:TypeId × Value->H}{base:Nat}{x:DataW H × List MemPlace}
theorem X9C(h:DataW.trod enc prog w base spare held fuel 82 cs=some x):∃g:GOp,cs=opL g/\g.Bd:=by
 obtain⟨xs,n,-,-,hl,Y,hf⟩:=DataW.trod_struct underlying82 h;have ex:∀i,i<xs.length->∃y,xs[i]?=some y:=λi hi=>⟨_,υ hi⟩
 have Y:xs.length=7:=Y;have g0:DataW.trod enc prog w base spare held n 3 ((cs.drop 0).take (prog.cellsOf 3))=xs[0]?:=hf 0 _ rfl;have g1:DataW.trod enc prog w base spare held n 3 ((cs.drop 1).take (prog.cellsOf 3))=xs[1]?:=hf 1 _ rfl;have g2:DataW.trod enc prog w base spare held n 3 ((cs.drop 2).take (prog.cellsOf 3))=xs[2]?:=hf 2 _ rfl;have g3:DataW.trod enc prog w base spare held n 3 ((cs.drop 3).take (prog.cellsOf 3))=xs[3]?:=hf 3 _ rfl;have g4:DataW.trod enc prog w base spare held n 64 ((cs.drop 4).take (prog.cellsOf 64))=xs[4]?:=hf 4 _ rfl;have g5:DataW.trod enc prog w base spare held n 37 ((cs.drop 7).take (prog.cellsOf 37))=xs[5]?:=hf 5 _ rfl;have g6:DataW.trod enc prog w base spare held n 22 ((cs.drop 8).take (prog.cellsOf 22))=xs[6]?:=hf 6 _ rfl;obtain⟨y0,e0⟩:=ex 0 Ω;obtain⟨y1,e1⟩:=ex 1 Ω;obtain⟨y2,e2⟩:=ex 2 Ω;obtain⟨y3,e3⟩:=ex 3 Ω;obtain⟨y4,e4⟩:=ex 4 Ω;obtain⟨y5,e5⟩:=ex 5 Ω;obtain⟨y6,e6⟩:=ex 6 Ω;rw[e0]at g0;rw[e1]at g1;rw[e2]at g2;rw[e3]at g3;rw[e4]at g4;rw[e5]at g5;rw[e6]at g6;obtain⟨a0,c0,-,b0⟩:=DataW.trod_int underlying3 g0;obtain⟨a1,c1,-,b1⟩:=DataW.trod_int underlying3 g1;obtain⟨a2,c2,-,b2⟩:=DataW.trod_int underlying3 g2;obtain⟨a3,c3,-,b3⟩:=DataW.trod_int underlying3 g3;obtain⟨a5,c5,-,b5⟩:=DataW.trod_int underlying37 g5;obtain⟨a6,c6,b6⟩:=VUD underlying22 g6;obtain⟨ys,m,-,-,hl4,X,J⟩:=DataW.trod_struct underlying64 g4;have X:ys.length=3:=X;have Z:∀i,i<ys.length->∃y,ys[i]?=some y:=λi hi=>⟨_,υ hi⟩
 have k0:DataW.trod enc prog w base spare held m 3 ((((cs.drop 4).take (prog.cellsOf 64)).drop 0).take (prog.cellsOf 3))=ys[0]?:=J 0 _ rfl;have k1:DataW.trod enc prog w base spare held m 3 ((((cs.drop 4).take (prog.cellsOf 64)).drop 1).take (prog.cellsOf 3))=ys[1]?:=J 1 _ rfl;have k2:DataW.trod enc prog w base spare held m 3 ((((cs.drop 4).take (prog.cellsOf 64)).drop 2).take (prog.cellsOf 3))=ys[2]?:=J 2 _ rfl;obtain⟨z0,f0⟩:=Z 0 Ω;obtain⟨z1,f1⟩:=Z 1 Ω;obtain⟨z2,f2⟩:=Z 2 Ω;rw[f0]at k0;rw[f1]at k1;rw[f2]at k2;obtain⟨p0,q0,-,r0⟩:=DataW.trod_int underlying3 k0;obtain⟨p1,q1,-,r1⟩:=DataW.trod_int underlying3 k1;obtain⟨p2,q2,-,r2⟩:=DataW.trod_int underlying3 k2;simp only[QmK,QE0,ZO3,VT5]at c0 c1 c2 c3 c5 c6 q0 q1 q2;have I:cs.length=9:=hl.trans Vuv;have V:=EP q0;have U:=EP q1;have M:=EP q2;rw[List.getElem?_take_of_lt Ω,ψa]at V U M;have bu:=bounds_u64 b5;have N:=Vgf I (EP c0) (EP c1) (EP c2) (EP c3) V U M (EP c5) (EP c6);refine⟨⟨a0,a1,a2,a3,⟨p0,p1,p2⟩,a5.toNat,a6⟩,?_,⟨bounds_i64 b0,bounds_i64 b1,bounds_i64 b2,bounds_i64 b3,bounds_i64 r0,bounds_i64 r1,bounds_i64 r2,by show a5.toNat<_;omega,?_⟩⟩
 ·rw[N];unfold opL;dsimp only;rw[show ((a5.toNat:Nat):Int)=a5 from ξG Ω]
 ·simpa[Lit.wf]using b6
end
def nbl(n B:Nat):Nat:=(n+B-1)/B
theorem QnL(hB:1<=B)(h1:n<=j*B)(h2:∀i,i<j->i*B<n):nbl n B=j:=by
 refine Nat.div_eq_of_lt_le ?_ ?_
 ·cases j with
  | zero=>simp
  | succ i=>
   have:=h2 i Ω
   grind
 grind
theorem I1(hB:1<=B):j<nbl n B↔j*B<n:=by
 unfold nbl
 grind [ξf,ξa]
structure Idx(w:World)(x p b a:Nat)(l:List Bool)(B:Nat):Prop where
 vec:A8 w p b l
 b1:1<=B
 b2:B<=1024
 hx:x<w.heap.size
 ha:a<w.heap.size
 c0:w.cell? ⟨x,0,none⟩=some (pP p)
 c1:∃cap,w.cell? ⟨x,1,none⟩=some (.slice (some ⟨a,0,none⟩) (nbl l.length B) cap)
 c2:w.cell? ⟨x,2,none⟩=some (iI B)
 c3:w.cell? ⟨x,3,none⟩=some (iI (cnt (at_ l) l.length:Nat))
 ca:∀j,j<nbl l.length B->w.cell? ⟨a,j,none⟩=some (iI (cnt (at_ l) (j*B):Nat))
theorem Idx.touch{a:Nat}(h:Idx w x p b a l B)(t:AB S w w')(h1:¬S x)(h2:¬S p)(h3:¬S b)(h4:¬S a):Idx w' x p b a l B:=by
 obtain⟨X,hc⟩:=h.c1
 exact⟨h.vec.touch t h2 h3,h.b1,h.b2,ϑ h.hx t.size,ϑ h.ha t.size,by rw[t.cell h.hx h1];exact h.c0,⟨X,by rw[t.cell h.hx h1];exact hc⟩,by rw[t.cell h.hx h1];exact h.c2,
  by rw[t.cell h.hx h1];exact h.c3,λj hj=>by rw[t.cell h.ha h4];exact h.ca j hj⟩
theorem Idx.gr{a:Nat}(h:Idx w x p b a l B)(t:Gr w w'):Idx w' x p b a l B:=h.touch (t.touch (λ_=>False)) (λh=>h) (λh=>h) (λh=>h) (λh=>h)
theorem LY(h:1<=B):nbl n B<=n:=by
 rcases χ n (nbl n B)with h1|h1
 ·have:=(I1 h).1 h1;have h2:n*1<=n*B:=ψs n h;omega
 ·exact h1
theorem ZsP{a:Nat}(hX:Idx w x p b a l B):
  cQ 253 #[pP x] w (iI (cnt (at_ l) l.length:Nat)):=by
 have c3:=hX.c3;go_enter func253,ntmps253;go_wp2;go_ret
 simp_all
theorem VlR(l:List Bool){b:Int}(h:b<=0):DR l 0 b=0:=by
 rw[JY];unfold EO;have:cnt (λi=>decide ((0:Int)<=(i:Nat)/\((i:Nat):Int)<b)&&at_ l i) l.length=cnt (λ_=>false) l.length:=CS (λi _=>by grind);rw[this];generalize l.length=n
 induction n with
 | zero=>rfl
 | succ n ih=>grind [CP]
theorem Zde{a:Nat}(hX:Idx w x p b a l B)(i:Int):
  A2 prog 259 #[pP x,iI i] w (iI (DR l 0 i:Nat)):=by
 have HX:=hX;have k0:=hX.c0;have k2:=hX.c2;have k3:=hX.c3;obtain⟨I,k1⟩:=hX.c1;have n2:=hX.vec.n2;unfold A2;by_cases h0:i<=0
 ·have d0:decide (i<=0)=true:=by simp[h0]
  rw[VlR l h0];go_enter func259,ntmps259;go_wp2;go_ret;exact⟨rfl,Gr.refl _⟩
 ·obtain⟨r,rfl⟩:∃r:Nat,i=r:=⟨i.toNat,by omega⟩;have hr:0<r:=Ω
  have d0:decide ((r:Int)<=0)=false:=by simp;omega
  by_cases h1:l.length<=r
  ·have d1:decide (l.length<=r)=true:=by simp[h1]
   rw[Vbb l Ω];obtain⟨N,hN⟩:∃N,N=cnt (at_ l) l.length:=⟨_,rfl⟩;rw[<-hN]at k3⊢;clear hN k1 k2;go_enter func259,ntmps259;go_wp2_with(go_at_call 175;refine(IQ HX.vec).mono ?_;rintro e w1 ⟨rfl,rfl⟩);go_ret;exact⟨rfl,Gr.refl _⟩
  ·have d1:decide (l.length<=r)=false:=by simp;omega
   obtain⟨j,hj⟩:∃j,j=r/B:=⟨_,rfl⟩;have hB:=HX.b1;have hB2:=HX.b2;have E:j*B<=r:=by rw[hj];exact ζk r B
   have Z:j<nbl l.length B:=(I1 hB).2 Ω;have ka:=HX.ca j Z;have q1:((r:Int).tdiv (B:Int))=(j:Int):=by rw[hj];rfl
   have q2:((r:Int)/(B:Int))=(j:Int):=by rw[hj];rfl
   obtain⟨t,ht⟩:∃t,t=j*B:=⟨_,rfl⟩;have V:(j:Int)*(B:Int)=(t:Int):=Ω
   have hs:=V9n l (a:=0) (b:=(t:Int)) (c:=(r:Int)) Ω Ω;have hu:=UV l (r:=t) Ω;rw[<-ht]at ka;rw[hu]at hs;obtain⟨c1,U⟩:∃c,c=cnt (at_ l) t:=⟨_,rfl⟩;obtain⟨c2,X⟩:∃c,c=DR l (t:Int) (r:Int):=⟨_,rfl⟩;obtain⟨c3,Y⟩:∃c,c=DR l 0 (r:Int):=⟨_,rfl⟩;have hb1:c1<=1048576:=by grind [EH]
   have hb2:c2<=1048576:=by have:=EH (WE l (t:Int) (r:Int)) l.length;unfold DR at X;omega
   rw[<-U]at ka hs;rw[<-X,<-Y]at hs;rw[<-Y];obtain⟨N,hN⟩:∃N,N=nbl l.length B:=⟨_,rfl⟩;rw[<-hN]at Z k1;have HNn:=hN;have htb:(t:Int)<=1048576:=Ω
   have hBp:(B:Int)≠0:=Ω
   have H2:=X.symm;have HS:=hs;clear U X Y hN hj ht hu hs E k3;have hjb:(j:Int)<N:=Ω
   have hjl:j<=1048576:=by grind [LY]
   have w3:IntKind.i64.wrap ((j:Int)*(B:Int))=(t:Int):=by rw[V,ζp _ Ω]
   have w4:IntKind.i64.wrap ((c1:Int)+(c2:Int))=(c3:Int):=by rw[HS,ζp _ Ω]
   have z0:∀xs m,(grow w xs m).cell? ⟨x,0,none⟩=some (pP p):=λxs m=>((grown w xs m).cell HX.hx 0).trans k0;have z1:∀xs m,(grow w xs m).cell? ⟨x,1,none⟩=some (.slice (some ⟨a,0,none⟩) N I):=λxs m=>((grown w xs m).cell HX.hx 1).trans k1;have z2:∀xs m,(grow w xs m).cell? ⟨x,2,none⟩=some (iI B):=λxs m=>((grown w xs m).cell HX.hx 2).trans k2;have z4:∀xs m,(grow w xs m).cell? ⟨a,j,none⟩=some (iI c1):=λxs m=>((grown w xs m).cell HX.ha j).trans ka;go_enter func259,ntmps259;go_upto_region 6 with(go_at_call 175;refine(IQ HX.vec).mono ?_;rintro e w1 ⟨rfl,rfl⟩);refine I4 (by kernel_rfl) (by kernel_rfl) ?_
   repeat(go_big_quiet_step (first
    | (go_at_call 281;have hc:=λxs m=>V7Z (HX.vec.gr (grown w xs m)) (t:Int) (r:Int) Ω;simp only[H2]at hc;exact A2.grown (hc _ _))))
   refine ζc ?_;intro _ M;obtain⟨⟨xs,nq⟩,J⟩:=M;subst J;go_wp2;go_ret;exact⟨by simp_all,grown w _ _⟩
theorem Qza(g:FuncId)(b1 b2:Addr)(n:Nat)(hn:n<=1048576)(t:Nat->Bool)(w:World)
  (hg:∀args W,(callFunc g args).run prog W=.ok (.enter g args) W)
  (hm:∀i j,i<=j->j<n->t i=true->t j=true)
  (hf:∀i W,i<n->Gr w W->Calls prog g #[iI (i:Nat),.pointer (some b1),.pointer (some b2)] W (λe W'=>e=.returned (.bool (t i))/\Gr W W')):
  A2 prog 293 #[iI n,.func (.func g) #[] #[.pointer (some b1),.pointer (some b2)]] w (iI (first t n:Nat)):=by
 have HF:=hf;have HM:=hm;unfold A2;go_enter func293,ntmps293;go_wp2
 go_loopw [5,6] (λx y wr=>∃lo hi:Nat,lo<=hi/\hi<=n/\Hid (∀i,i<lo->t i=false)/\Hid (hi<n->t hi=true)/\Hid (Gr w wr)/\x=iI lo/\y=iI hi) (λx y _=>(intOf y).toNat-(intOf x).toNat)
 case atStart=>exact⟨0,n,by omega,by omega,⟨λi h=>by omega⟩,⟨λh=>by omega⟩,⟨Gr.refl _⟩,rfl,rfl⟩
 case round=>
  obtain⟨lo,hi,h1,h2,hl,hh,hG,rfl,rfl⟩:=hrel;by_cases hlt:lo<hi
  ·obtain⟨m,Y⟩:∃m,m=(lo+hi)/2:=⟨_,rfl⟩;have hm1:lo<=m/\m<hi:=Ω
   have q1:((lo:Int)+(hi:Int))/2=(m:Int):=Ω
   clear Y;cases ht:t m with
   | false=>
    have HC:=(HF m wr Ω hG.o);have HN:=ht;go_wp2_with(refine HC.mono ?_;rintro e W2 ⟨rfl,h2⟩;rw[HN];have X:=ι (hG.o.trans h2);clear h2);go_roundw
    case rel=>
     refine⟨m+1,hi,by omega,by omega,⟨λi hi'=>?_⟩,hh,X,by go_num,rfl⟩;cases hti:t i with
     | false=>rfl
     | true=>have:=HM i m Ω Ω hti;rw[HN]at this;cases this
    case measure=>simp[intOf];omega
   | true=>
    have HC:=(HF m wr Ω hG.o);have HN:=ht;go_wp2_with(refine HC.mono ?_;rintro e W2 ⟨rfl,h2⟩;rw[HN];have X:=ι (hG.o.trans h2);clear h2);go_roundw
    case rel=>exact⟨lo,m,by omega,by omega,hl,⟨λ_=>HN⟩,X,rfl,by go_num⟩
    case measure=>simp[intOf];omega
  ·obtain rfl:lo=hi:=Ω
   have E:=(GD h2 hl.o hh.o);go_wp2;go_ret;exact⟨AR (by rw[E]),hG.o⟩
theorem ZM(l:List Bool){a:Nat}(h:cnt (at_ l) a=q):BP l (a:Int)=CU l q:=by
 obtain⟨j,hj⟩:∃j,j=BP l (a:Int):=⟨_,rfl⟩;have hle:j<=l.length:=by rw[hj];exact GT _ _
 have hno:∀i,i<j->¬(at_ l i=true/\a<=i):=λi hi hc=>by
  have:=IF (λi=>at_ l i&&decide ((a:Int)<=i)) l.length i (by rw[hj]at hi;exact hi)
  simp_all
 rw[<-hj];rcases χ j l.length with X|hge
 ·have hat:=GN (λi=>at_ l i&&decide ((a:Int)<=i)) l.length (by rw[hj]at X;exact X)
  have Y:at_ l j=true/\(a:Int)<=j:=by
   have e:first (λi=>at_ l i&&decide ((a:Int)<=i)) l.length=j:=hj.symm
   simp_all
  have hc:cnt (at_ l) j=q:=by
   grind [PB]
  exact(XV X Y.1 hc).symm
 grind [χ,PB,SY,VZZ]
theorem Z7T(h:q<cnt (at_ l) l.length):BP l ((CU l q:Int)+1)=CU l (q+1):=by
 obtain⟨h1,h2,h3⟩:=XX h;have:=ZM l (a:=CU l q+1) (q:=q+1) (by grind [CP])
 assumption
theorem VVz{a:Nat}(hX:Idx w x p b a l B)(bx bk:Addr)(k:Nat)(hbx:w.cell? bx=some (pP x))(hbk:w.cell? bk=some (iI k))
  (i:Nat) (hi:i<nbl l.length B):
  Calls prog 294 #[iI i,.pointer (some bx),.pointer (some bk)] w λe w'=>e=.returned (.bool (decide (k<cnt (at_ l) (i*B))))/\Gr w w':=by
 obtain⟨cap,c1⟩:=hX.c1;have ca:=hX.ca i hi;have hi0:(0:Int)<=(i:Int):=Ω
 go_enter func294,ntmps294;go_upto_region 1 with(fail);go_quiet (fail);go_wp2;go_ret;exact⟨Zbf (by simp),(Gr.refl w).drewN _⟩
theorem YDO(l:List Bool)(hB:1<=B)(hk:k<cnt (at_ l) l.length):
  ∃j,first (λi=>decide (k<cnt (at_ l) (i*B))) (nbl l.length B)=j+1/\j<nbl l.length B/\cnt (at_ l) (j*B)<=k:=by
 obtain⟨f,hf⟩:∃f,f=first (λi=>decide (k<cnt (at_ l) (i*B))) (nbl l.length B):=⟨_,rfl⟩
 have hle:f<=nbl l.length B:=by grind [GT]
 have hn:0<l.length:=by
  grind [ζC,LO]
 have hN:0<nbl l.length B:=(I1 hB).2 Ω
 have h0:f≠0:=λh=>by
  have:=GN (λi=>decide (k<cnt (at_ l) (i*B))) (nbl l.length B) Ω;rw[<-hf,h]at this
  grind [LO]
 obtain⟨j,rfl⟩:∃j,f=j+1:=⟨f-1,by omega⟩;refine⟨j,hf.symm,by omega,?_⟩;have:=IF (λi=>decide (k<cnt (at_ l) (i*B))) (nbl l.length B) j Ω
 simp_all
theorem S9(u v:Value)(T1 T2:TypeId):
  Gr w ((w.alloc (.cells #[u] T1)).alloc (.cells #[v] T2))/\((w.alloc (.cells #[u] T1)).alloc (.cells #[v] T2)).cell? ⟨w.heap.size,0,none⟩=some u/\((w.alloc (.cells #[u] T1)).alloc (.cells #[v] T2)).cell? ⟨w.heap.size+1,0,none⟩=some v:=by
 refine⟨((Gr.refl w).alloc _).alloc _,?_,?_⟩
 ·simp_all
 simp_all
theorem Zo5(x:Nat)(q:Int)(hq:q<0):A2 prog 292 #[pP x,iI q] w (.tuple #[iI 0,.bool false]):=by
 go_enter func292,ntmps292;go_upto_region 1 with(fail);obtain⟨hg,c1,c2⟩:=S9 (w:=w) (pP x) (iI q) 326 3;generalize (w.alloc (.cells #[.pointer (some ⟨x,0,none⟩)] 326)).alloc (.cells #[.int .i64 q] 3)=W2 at *
 go_quiet (fail);go_wp2;go_ret2;exact⟨BK rfl rfl,hg.drewN _⟩
theorem V1d{a:Nat}(hX:Idx w x p b a l B)(q:Nat)(hq:cnt (at_ l) l.length<=q):
  A2 prog 292 #[pP x,iI q] w (.tuple #[iI 0,.bool false]):=by
 have k3:=hX.c3;have hx:=hX.hx;have d0:decide ((q:Int)<0)=false:=by simp
 go_enter func292,ntmps292;go_upto_region 1 with(fail);obtain⟨hg,c1,c2⟩:=S9 (w:=w) (pP x) (iI q) 326 3;generalize (w.alloc (.cells #[.pointer (some ⟨x,0,none⟩)] 326)).alloc (.cells #[.int .i64 q] 3)=W2 at *
 have c3:=(hg.cell hx 3).trans k3;go_quiet (fail);go_wp2;go_ret2;exact⟨BK rfl rfl,hg.drewN _⟩
theorem Zrb(args:Array Value)(W:World):(callFunc 294 args).run prog W=.ok (.enter 294 args) W:=by kernel_rfl
theorem JlP{a:Nat}(hX:Idx w x p b a l B)(hT:AP w)(k:Nat)(hk:k<cnt (at_ l) l.length):
  A2 prog 292 #[pP x,iI k] w (.tuple #[iI (CU l k:Nat),.bool true]):=by
 have HX:=hX;have HT:=hT;have HK:=hk;obtain⟨j,D,V,Z⟩:=YDO l hX.b1 hk;obtain⟨N,hN⟩:∃N,N=cnt (at_ l) l.length:=⟨_,rfl⟩;have k0:=hX.c0;have k2:=hX.c2;have k3:=hX.c3;obtain⟨Y,k1⟩:=hX.c1;have ka:=hX.ca j V;have hx:=hX.hx;have n2:=hX.vec.n2;have Xf:=LY (n:=l.length) hX.b1;have hb2:=hX.b2;rw[<-hN]at k3;have hNk:k<N:=by rw[hN];exact hk
 have A:N<=l.length:=by rw[hN];exact EH _ _
 have d0:decide ((k:Int)<0)=false:=by simp
 have d1:decide (N<=k)=false:=by simp;omega
 have hkb:k<=1048576:=Ω
 have Xa:j*B<l.length:=(I1 hX.b1).1 V;obtain⟨t,ht⟩:∃t,t=j*B:=⟨_,rfl⟩;rw[<-ht]at Xa ka Z;obtain⟨c,hc⟩:∃c,c=cnt (at_ l) t:=⟨_,rfl⟩;rw[<-hc]at ka Z;have hw3:IntKind.i64.wrap ((j:Int)*(B:Int))=(t:Int):=by rw[show (j:Int)*(B:Int)=(t:Int)by rw[ht,ξY],ζp _ Ω]
 have Xd:=(ZM l hc.symm);have HP:Hid (∀n,n<=k->CU l n<l.length):=⟨λn hn=>(XX (l:=l) (q:=n) Ω).1⟩;have Xb:Hid (∀n,n<=k->BP l ((CU l n:Int)+1)=CU l (n+1)):=⟨λn hn=>Z7T Ω⟩;obtain⟨M,hM⟩:∃M,M=nbl l.length B:=⟨_,rfl⟩;have Xc:=D;rw[<-hM]at k1 V Xf;have HM:=ι hM;have hjM:(j:Int)<M:=Ω
 clear hX hk hN ht hc D hM hT A;unfold A2;go_enter func292,ntmps292;go_upto_region 1 with(fail);obtain⟨hg,c1,c2⟩:=S9 (w:=w) (pP x) (iI k) 326 3;generalize (w.alloc (.cells #[.pointer (some ⟨x,0,none⟩)] 326)).alloc (.cells #[.int .i64 k] 3)=W2 at *
 have z0:=(hg.cell hx 0).trans k0;have z1:=(hg.cell hx 1).trans k1;have z2:=(hg.cell hx 2).trans k2;have z3:=(hg.cell hx 3).trans k3;have K1:=ι k1;clear k0 k1 k2 k3;have HG:=ι hg;have HC:=ι (ξ c1 c2);clear hg;go_quiet (fail)
 have HS:=ι (Qza 294 ⟨w.heap.size,0,none⟩ ⟨w.heap.size+1,0,none⟩ M Ω (λi=>decide (k<cnt (at_ l) (i*B))) (W2.drewN nq) Zrb
  (λi i' h1 h2 h3=>by
   have:=SY (at_ l) (ζh B h1)
   simp at h3⊢;omega)
  (λi W hi hgW=>VVz (HX.gr ((HG.o.drewN nq).trans hgW)) _ _ k (by
    rw[hgW.cell (b:=w.heap.size) (by have:=AW HC.o.1;exact this)];exact HC.o.1) (by
    rw[hgW.cell (b:=w.heap.size+1) (by have:=AW HC.o.2;exact this)];exact HC.o.2) i (by rw[<-HM.o];exact hi)))
 rw[HM.o,Xc,<-HM.o]at HS;have hmf:∀(fn:Fn) (first Y:Array Value) (w:World),(Instr.makeFunc fn first Y).run prog w=.ok (.func fn first Y) w:=λ_ _ _ _=>rfl;go_upto_region 4 with(go_at_call 293;refine HS.o.mono ?_;rintro e W3 ⟨rfl,h3⟩;have X:=ι (HG.o.trans (((Gr.refl W2).drewN nq).trans h3));have y0:=(h3.cell (b:=w.heap.size) (AW HC.o.1) 0).trans HC.o.1;have y1:=(h3.cell (b:=w.heap.size+1) (AW HC.o.2) 0).trans HC.o.2;clear h3);have v0:=(X.o.cell hx 0).trans HX.c0;have v2:=(X.o.cell hx 2).trans HX.c2
 have v1:W3.cell? ⟨x,1,none⟩=some (.slice (some ⟨a,0,none⟩) M Y):=by
  exact(X.o.cell hx 1).trans K1.o
 have va:W3.cell? ⟨a,j,none⟩=some (iI c):=(X.o.cell HX.ha j).trans ka;have G:=ι (HX.vec.gr X.o);have J:=ι (X.o.tab HT.lt HT);have E:=HP.o c Z
 have HN:Hid (∀n,Calls prog 249 #[pP p,iI t] (W3.drewN n) λe w'=>e=.returned (.tuple #[iI (CU l c:Nat),.bool true])/\w'=W3.drewN n):=⟨λn=>
  (KW (G.o.gr ((Gr.refl W3).drewN n)) (((Gr.refl W3).drewN n).tab J.o.lt J.o) t).mono λe w' ⟨he,hw⟩=>⟨by rw[he,Xd,IR E,φ E],hw.symm⟩⟩
 clear z0 z1 z2 z3 ka HS;go_quiet ((go_at_call 249;exact Calls.quiet_of_same (HN.o _)));go_wp2
 go_loop [7,9] (λs7 s9=>∃n:Nat,c<=n/\n<=k/\s7=iI (CU l n:Nat)/\s9=iI n) (λ_ s9=>k-(intOf s9).toNat)
 case atStart=>exact⟨c,κ _,Z,rfl,rfl⟩
 case round=>
  obtain⟨n,hn1,I,rfl,rfl⟩:=hrel;have hp:=HP.o n I;obtain⟨r,hr⟩:∃r,r=CU l n:=⟨_,rfl⟩;have HE:=Xb.o n I;rw[<-hr]at hp HE⊢;by_cases hlt:n<k
  ·have U:=HP.o (n+1) Ω;have Xe:=ι HE;have HR:=ι (ξ (IR U) (φ U));clear hr HE U;go_wp2_with(go_at_call 249;refine(KW (G.o.gr ((Gr.refl W3).drewN _)) (((Gr.refl W3).drewN _).tab J.o.lt J.o) _).mono ?_;rintro e w' ⟨rfl,rfl⟩;rw[Xe.o,HR.o.1,HR.o.2]);go_round
   case rel=>exact⟨n+1,by omega,by omega,rfl,by go_num⟩
   case measure=>simp[intOf];omega
  ·obtain rfl:n=k:=Ω
   have HR:=ι hr;clear hr HE;go_wp2;go_ret2;exact⟨BK (by rw[HR.o];rfl) rfl,X.o.drewN _⟩
theorem Qax{a:Nat}(hX:Idx w x p b a l B)(hT:AP w)(q:Int):
  A2 prog 292 #[pP x,iI q] w (.tuple #[iI (KK l q),.bool (M7 l q)]):=by
 by_cases h:q<0
 ·have e1:KK l q=0:=by unfold KK;rw[θ h]
  have e2:M7 l q=false:=by unfold M7;grind
  grind [Zo5]
 ·obtain⟨k,rfl⟩:∃k:Nat,q=k:=⟨q.toNat,by omega⟩;have e1:KK l k=JG l.length (CU l k):=by unfold KK;grind
  have e2:M7 l k=decide (CU l k<l.length):=by rfl
  rw[e1,e2];rcases χ k (cnt (at_ l) l.length)with hk|hk
  ·grind [XX,IR,φ,JlP]
  grind [VZZ,NK,ζ,V1d]
theorem QTm:(prog.info? 3).map (λi=>(i.zero,i.size,i.bytes))=some (some (iI 0),1,8):=by kernel_rfl
def ZQP(w:World)(l:List Bool)(B:Nat)(e:Ending)(w':World):Prop:=
 ∃x p b a,e=.returned (.tuple #[pP x,iI 0])/\Gr w w'/\Idx w' x p b a l B/\w.heap.size<=x/\w.heap.size<=p/\w.heap.size<=b/\w.heap.size<=a
def IY(l:List Bool)(B k:Nat):List Value:=(List.range k).map λj=>iI (cnt (at_ l) (j*B):Nat)
theorem X5M(l:List Bool)(B k:Nat):IY l B (k+1)=IY l B k++[iI (cnt (at_ l) (k*B):Nat)]:=by
 unfold IY;rw[ψG,ξb];rfl
structure E8(w:World)(l:List Bool)(B X p b BASE k m:Nat)(v:Value)(wr:World):Prop where
 gr:Gr w wr
 vec:A8 wr p b l
 own:wr.ownsRow BASE 3 1 v k (IY l B k)
 c0:wr.cell? ⟨X,0,none⟩=some (pP p)
 c1:wr.cell? ⟨X,1,none⟩=some v
 c2:wr.cell? ⟨X,2,none⟩=some (iI B)
 c3:wr.cell? ⟨X,3,none⟩=some (iI (DR l 0 (m*B:Nat):Nat))
 free:∀o,wr.frozen? ⟨X,o,none⟩=false
 lt:X<BASE
 ltp:p<X
 ltb:b<X
 ge:w.heap.size<=p/\w.heap.size<=b
 base:BASE<=wr.heap.size
theorem E8.far{X:Nat}{v:Value}(h:E8 w l B X p b BASE k m v wr):v.ownBlock≠some X:=λe=>by
 have:=(BF h.own e).1;have:=h.lt;omega
theorem E8.grow{X:Nat}{v:Value}{wr':World}(h:E8 w l B X p b BASE k m v wr)(g:Gr wr wr'):E8 w l B X p b BASE k m v wr':=by
 have hX:X<wr.heap.size:=by have:=h.lt;have:=h.base;omega
 exact⟨h.gr.trans g,h.vec.gr g,CW h.own g,(g.cell hX 0).trans h.c0,(g.cell hX 1).trans h.c1,(g.cell hX 2).trans h.c2,(g.cell hX 3).trans h.c3,λo=>(g.frozen hX o).trans (h.free o),h.lt,h.ltp,h.ltb,h.ge,ω h.base g.size⟩
theorem E8.append{X:Nat}{v:Value}(h:E8 w l B X p b BASE k m v wr){g:Nat}
  (hown:w1.ownsRow BASE 3 1 (.slice (some ⟨g,0,none⟩) (k+1) c) (k+1) (IY l B (k+1))) (hgrow:wr.grownBy w1 v.ownBlock):
  E8 w l B X p b BASE (k+1) m (.slice (some ⟨g,0,none⟩) (k+1) c) (w1.setCell ⟨X,1,none⟩ (.slice (some ⟨g,0,none⟩) (k+1) c)):=by
 have hX:X<wr.heap.size:=by have:=h.lt;have:=h.base;omega
 have t:AB (λi=>v.ownBlock=some i) wr w1:=FT hgrow _ (λk e _=>e);have t2:AB (λi=>i=X) w1 (w1.setCell ⟨X,1,none⟩ (.slice (some ⟨g,0,none⟩) (k+1) c)):=(AB.refl (λi=>i=X) w1).setCell (a:=⟨X,1,none⟩) (λ_=>rfl) _;have Y:∀i,i<BASE->v.ownBlock≠some i:=λi hi e=>by have:=(BF h.own e).1;omega
 have e:∀o,w1.cell? ⟨X,o,none⟩=wr.cell? ⟨X,o,none⟩:=λo=>t.cell hX (Y X h.lt) o
 have o:∀o,o≠1->(w1.setCell ⟨X,1,none⟩ (.slice (some ⟨g,0,none⟩) (k+1) c)).cell? ⟨X,o,none⟩=wr.cell? ⟨X,o,none⟩:=λo ho=>by
  rw[ξz (h:=by simp_all),e o]
 have hp:=h.ltp;have hb:=h.ltb;have hl:=h.lt;refine⟨?_,?_,?_,(o 0 Ω).trans h.c0,?_,(o 2 Ω).trans h.c2,(o 3 Ω).trans h.c3,?_,h.lt,h.ltp,h.ltb,h.ge,ω h.base (ω t.size t2.size)⟩
 ·refine(((h.gr.touch (λ_=>False)).trans' t (λi hi e=>?_)).trans' t2 (λi hi e=>?_)).gr
  ·have:=(BF h.own e).1;have:=h.ge;omega
  ·have:=h.ge;omega
 ·exact(h.vec.touch t (Y p Ω) (Y b Ω)).touch t2 Ω Ω
 ·refine B9 hown t2 (λi hi e=>?_);have:=(BF hown hi).1;omega
 ·exact ξo (h:=(e 1).trans h.c1) ..
 ·intro o;rw[ξe,t.frozen hX (Y X h.lt)];exact h.free o
theorem E8.count{X:Nat}{v:Value}(h:E8 w l B X p b BASE k m v wr){z:Int}(hz:z=(DR l 0 (m' * B:Nat):Nat)):
  E8 w l B X p b BASE k m' v (wr.setCell ⟨X,3,none⟩ (.int .i64 z)):=by
 have t2:AB (λi=>i=X) wr (wr.setCell ⟨X,3,none⟩ (.int .i64 z)):=(AB.refl (λi=>i=X) wr).setCell (a:=⟨X,3,none⟩) (λ_=>rfl) _;have hp:=h.ltp;have hb:=h.ltb;have hl:=h.lt
 have o:∀o,o≠3->(wr.setCell ⟨X,3,none⟩ (.int .i64 z)).cell? ⟨X,o,none⟩=wr.cell? ⟨X,o,none⟩:=λo ho=>by
  rw[ξz (h:=by simp_all)]
 refine⟨?_,h.vec.touch t2 Ω Ω,?_,(o 0 Ω).trans h.c0,(o 1 Ω).trans h.c1,(o 2 Ω).trans h.c2,?_,?_,h.lt,h.ltp,h.ltb,h.ge,ω h.base t2.size⟩
 ·refine((h.gr.touch (λ_=>False)).trans' t2 (λi hi e=>?_)).gr;have:=h.ge;omega
 ·refine B9 h.own t2 (λi hi e=>?_);have:=(BF h.own hi).1;omega
 ·rw[hz];exact ξo (h:=h.c3) ..
 ·intro o;rw[ξe];exact h.free o
theorem E8.done{X:Nat}{v:Value}(h:E8 w l B X p b BASE k k v wr)(h1:1<=B)(h2:B<=1024)(hk:k=nbl l.length B)(hl:l.length<=k*B):
  ∃a,Idx wr X p b a l B/\w.heap.size<=a:=by
 have hn:=h.vec.n1;have Y:k≠0:=by grind
 obtain⟨g,c,rfl,hg1,hg2,hg3,Z⟩:=FZ h.own Y;have:=h.lt;refine⟨g,⟨h.vec,h1,h2,by omega,Z,h.c0,⟨c,by rw[h.c1,hk]⟩,h.c2,?_,λj hj=>?_⟩,by have:=h.ge;have:=h.ltp;omega⟩
 ·rw[h.c3,Vbb l Ω]
 ·refine BZ h.own ?_;unfold IY
  simp_all
theorem JHa{T:TypeId}(hg:Gr w w1)(hV:A8 w1 q r l)(h1:w.heap.size<=q)(h2:w.heap.size<=r):
  E8 w l B w1.heap.size q r (w1.heap.size+1) 0 0 (.slice none 0 0) (w1.alloc (.cells #[.pointer (some ⟨q,0,none⟩),.slice none 0 0,.int .i64 B,.int .i64 0] T)):=by
 have hp:=hV.hp;have hb:=hV.hb;refine⟨hg.alloc _,hV.gr ((Gr.refl w1).alloc _),H7 _ _ _ _,ζJ ..,ζJ ..,ζJ ..,?_,λo=>ψb ..,by omega,hp,hb,⟨h1,h2⟩,by simp⟩;rw[show DR l 0 ((0*B:Nat):Int)=0 from VlR l (by simp)]
 simp_all
theorem XFA(hV:A8 w p b l)(n:Int)(hn:BG n=false)(hn2:n<=9223372036854775807):
  cQ 251 #[pP p,iI n] w (.tuple #[.pointer none,iI 5]):=by
 have n1:((l.length:Int)==0)=false:=by have:=hV.n1;grind
 have HV:=hV;rw[MX]at hn;cases hp:CO n with
 | false=>
  go_enter func251,ntmps251
  go_wp2_with(first
   | (go_at_call 175;refine(IQ HV).mono ?_;rintro e w1 ⟨rfl,rfl⟩)
   | (go_at_call 165;refine(JS n hn2 _).mono ?_;rintro e w1 ⟨rfl,rfl⟩))
  go_ret2
  simp_all
 | true=>
  rw[hp]at hn;have d1:decide ((1024:Int)<n)=true:=by simp at hn;simp;omega
  go_enter func251,ntmps251
  go_wp2_with(first
   | (go_at_call 175;refine(IQ HV).mono ?_;rintro e w1 ⟨rfl,rfl⟩)
   | (go_at_call 165;refine(JS n hn2 _).mono ?_;rintro e w1 ⟨rfl,rfl⟩))
  go_ret2
  simp_all
theorem Zv3(hV:A8 w p b l)(B:Nat)(hB:BG B=true):
  Calls prog 251 #[pP p,iI B] w (ZQP w l B):=by
 have n1:((l.length:Int)==0)=false:=by have:=hV.n1;exact ζj.2 Ω
 have n2:=hV.n2;have hb:=DC hB;have Xh:1<=B:=Ω
 have Xt:B<=1024:=Ω
 have d1:decide ((1024:Int)<(B:Int))=false:=by simp;omega
 have HP:Hid (CO B=true):=⟨by rw[MX]at hB;simp at hB;exact hB.1⟩;obtain⟨i0,hi,Xl,Xp,Xq⟩:=info_parts QTm;have HV:=hV;clear hV hB hb;go_enter func251,ntmps251
 go_wp2_with(first
  | (go_at_call 175;refine(IQ HV).mono ?_;rintro e w1 ⟨rfl,rfl⟩)
  | (go_at_call 165;refine(JS B Ω _).mono ?_;rintro e w1 ⟨rfl,rfl⟩;rw[HP.o])
  | (go_at_call 280;refine(Z27 HV).mono ?_;rintro e w1 ⟨q,r,rfl,Xf,A,G,Xj⟩))
 have Xd:=ι (JHa (B:=B) (T:=352) Xf A G Xj);generalize w1.alloc (.cells #[.pointer (some ⟨q,0,none⟩),.slice none 0 0,.int .i64 B,.int .i64 0] 352)=W2 at *
 obtain⟨X,hX⟩:∃X,X=w1.heap.size:=⟨_,rfl⟩;rw[<-hX]at Xd⊢;clear hX;clear Xf A G Xj
 go_loopw [7] (λs7 wr=>∃k t v,Hid (E8 w l B X q r (X+1) k k v wr)/\Hid (t=k*B)/\k<=t/\t<=1048576+1024/\Hid (∀i,i<k->i*B<l.length)/\s7=iI (t:Nat)) (λs7 _=>1048576+1025-(intOf s7).toNat)
 case atStart=>exact⟨0,0,_,Xd,⟨by simp⟩,by omega,by omega,⟨λi h=>by omega⟩,rfl⟩
 case round=>
  obtain⟨k,t,v,HN,ht,hkt,htb,D,rfl⟩:=hrel;by_cases Xk:t<l.length
  ·have Xo:Hid (∀i,i<k+1->i*B<l.length):=⟨λi h=>by
    rcases χ i k with h1|h1
    ·exact D.o i h1
    ·rw[show i=k by omega,<-ht.o];exact Xk⟩
   have Xi:Hid (t+B=(k+1)*B):=⟨by rw[ξa,ht.o]⟩;go_upto_region 9 with(go_at_call 175;refine(IQ (HV.gr HN.o.gr)).mono ?_;rintro e w1 ⟨rfl,rfl⟩);have c1:=HN.o.c1;obtain⟨c,hc⟩:∃c,c=DR l 0 (k*B:Nat):=⟨_,rfl⟩;have c3:=HN.o.c3;have fr:=HN.o.free 1;rw[<-hc]at c3
   have Xa:IY l B (k+1)=IY l B k++[iI (c:Nat)]:=by
    rw[X5M,hc,UV l (by rw[<-ht.o];omega)]
   have Xr:=Xa;have HC:=ι hc;have HX:Hid (X<wr.heap.size):=⟨by have:=HN.o.base;omega⟩;clear Xa hc;have KS:Hid (∀W',Gr wr W'->W'.cell? ⟨X,1,none⟩=some v/\W'.cell? ⟨X,3,none⟩=some (iI (c:Nat))/\W'.frozen? ⟨X,1,none⟩=false):=⟨λW' h=>⟨(h.cell HX.o 1).trans c1,(h.cell HX.o 3).trans c3,(h.frozen HX.o 1).trans fr⟩⟩;obtain⟨S,hS⟩:∃S:World->Prop,S=λW'=>W'.cell? ⟨X,1,none⟩=some v/\W'.cell? ⟨X,3,none⟩=some (iI (c:Nat))/\W'.frozen? ⟨X,1,none⟩=false:=⟨_,rfl⟩;have x1:∀p:AA S,p.w.cell? ⟨X,1,none⟩=some v:=λp=>(AA.get hS p).1;have x3:∀p:AA S,p.w.cell? ⟨X,3,none⟩=some (iI (c:Nat)):=λp=>(AA.get hS p).2.1;have Z:S wr.drew:=by rw[hS];exact KS.o _ (Gr.refl _).drew
   have HS:=ι hS;clear hS;have U:Inhabited (AA S):=⟨⟨_,Z⟩⟩;refine BJ S 13 [([0,1,2,3,4,5,6,7,8],9),([],10),([11,12],13)] [] Z ?_;refine AN ?_;go_wp2;refine⟨.inr (AA.of (by rw[HS.o];exact KS.o _ ((Gr.refl _).alloc _).drew)),?_⟩;refine OK ?_;simp only[AF,ν,μ];refine ζc ?_;go_wp2_with(at_builtin;refine wpList_append_lies _ rfl _ _ 70 rfl (X+1) 3 i0 _ 1 8 underlying70 hi Xl Xp Xq rfl Ω v k (IY l B k) rfl ((HN.o.own.alloc _).drew) ⟨wr.heap.size,0,none⟩ 1 1 [iI (c:Nat)] rfl rfl (ξF (cs:=#[iI (c:Nat)]) (t:=3) (fr:=(0,0)) (heap_alloc_new wr _)) (by simp[Value.oneCell']) Ω (by unfold maxLen;omega) Ω (by have:=HX.o;simp;omega) (wr.heap.size+1) (by simp) ?_;intro g cp w1 V Y Xm Xb)
   go_frame
   have I:Gr wr (wr.alloc (.cells #[.int .i64 (c:Nat)] 3)).drew:=((Gr.refl _).alloc _).drew
   have N:w1.cell? ⟨X,1,none⟩=some v/\w1.cell? ⟨X,3,none⟩=some (iI (c:Nat))/\w1.frozen? ⟨X,1,none⟩=false:=by
    have hz:=KS.o _ I
    exact⟨(Y.cell_far ⟨X,1,none⟩ (by have:=HX.o;simp;omega) (Ne.symm HN.o.far)).trans hz.1,(Y.cell_far ⟨X,3,none⟩ (by have:=HX.o;simp;omega) (Ne.symm HN.o.far)).trans hz.2.1,
     (Y.frozen_far ⟨X,1,none⟩ (by have:=HX.o;simp;omega) (Ne.symm HN.o.far)).trans hz.2.2⟩
   refine⟨.inr (AA.of (by rw[HS.o];exact N)),?_⟩;have HM:=((HN.o.grow I).append (by rw[Xr];exact V) Y);have k1:=N.1;have k3:=N.2.2;clear I V Y Xm Xb N;refine AN ?_;go_wp2;refine⟨.inl trivial,?_⟩;refine EW ?_;refine ζc ?_;refine ζD ?_;generalize w1.setCell ⟨X,1,none⟩ (.slice (some ⟨g,0,none⟩) (k+1) cp)=W3 at HM⊢;generalize (Value.slice (some ⟨g,0,none⟩) (k+1) cp)=v3 at HM⊢;clear x1 x3 Z HS U k1 k3 KS c1 c3 fr HX;clear S;obtain⟨tb,J⟩:∃tb,tb=t+B:=⟨_,rfl⟩;obtain⟨d,hd⟩:∃d,d=DR l (t:Int) (tb:Int):=⟨_,rfl⟩;obtain⟨e,he⟩:∃e,e=DR l 0 ((k+1)*B:Nat):=⟨_,rfl⟩
   have Xg:(c:Int)+(d:Int)=(e:Int):=by
    have:=V9n l (a:=0) (b:=(t:Int)) (c:=(tb:Int)) Ω Ω;rw[hd,he,HC.o,<-ht.o,<-Xi.o,<-J];exact this
   have hel:e<=l.length:=by rw[he];exact EH _ _
   have Xs:IntKind.i64.wrap ((t:Int)+(B:Int))=(tb:Int):=by rw[J,ζp _ Ω];omega
   have Xn:IntKind.i64.wrap ((c:Int)+(d:Int))=(e:Int):=by rw[Xg,ζp _ Ω]
   have HD:=ι hd;have HE:=ι he;have HTB:=ι J;have k3:W3.cell? ⟨X,3,none⟩=some (iI (c:Nat)):=by rw[HM.c3,HC.o]
   have fr:W3.frozen? ⟨X,3,none⟩=false:=HM.free 3;have HX:Hid (X<W3.heap.size):=⟨by have:=HM.base;omega⟩;clear Xg hd he J;go_upto_region 10 with(fail);obtain⟨S,hS⟩:∃S:World->Prop,S=λW'=>W'.cell? ⟨X,3,none⟩=some (iI (c:Nat)):=⟨_,rfl⟩;have x3:∀p:AA S,p.w.cell? ⟨X,3,none⟩=some (iI (c:Nat)):=λp=>AA.get hS p;have Z:S W3.drew:=by rw[hS];exact k3
   have HS:=ι hS;clear hS;have U:Inhabited (AA S):=⟨⟨_,Z⟩⟩;refine BJ S 13 [([0,1,2,3,4,5,6,7,8],9),([10,11,12],13)] [] Z ?_;refine AN ?_;go_wp2_with(go_at_call 281;refine(V7Z (HV.gr (HM.gr.drew)) (t:Int) (tb:Int) Ω).mono ?_;rintro e' W4 ⟨rfl,Xc⟩;rw[<-HD.o]);have M:Gr W3 W4:=(Gr.refl W3).drew.trans Xc;have q3:=(M.cell HX.o 3).trans k3;have qf:=(M.frozen HX.o 3).trans fr;have Xe:=ι ((HM.grow M).count (m':=k+1) (z:=(e:Nat)) (by rw[HE.o]));clear Xc M;refine⟨.inr (AA.of (by rw[HS.o];exact q3)),?_⟩;refine AN ?_;go_wp2;refine⟨.inl trivial,?_⟩;refine EW ?_;refine ζc ?_;refine ζD ?_;generalize W4.setCell ⟨X,3,none⟩ (.int .i64 (e:Nat))=W5 at Xe⊢;clear x3 Z HS U q3 qf k3 fr Xs Xn;clear S;go_wp2;go_roundw
   case rel=>exact⟨k+1,t+B,v3,Xe,Xi,by omega,by omega,Xo,by go_num⟩
   case measure=>simp[intOf];omega
  ·have E:=ι (QnL Xh (show l.length<=k*B by rw[<-ht.o];omega) D.o);have HF:=ι (HN.o.done Xh Xt E.o.symm (by rw[<-ht.o];omega));go_wp2_with(go_at_call 175;refine(IQ (HV.gr HN.o.gr)).mono ?_;rintro e w1 ⟨rfl,rfl⟩);go_ret2;obtain⟨a,hI,ha⟩:=HF.o;exact⟨X,q,r,a,BK rfl rfl,HN.o.gr,hI,by have:=HN.o.ge;have:=HN.o.ltp;omega,HN.o.ge.1,HN.o.ge.2,ha⟩
def CZ(n:Nat)(L:List Ob):List Bool:=(List.range n).map (DM L)
theorem JU(n:Nat)(L:List Ob):(CZ n L).length=n:=by simp[CZ]
theorem VQ(h:AO n L)(i:Nat):at_ (CZ n L) i=DM L i:=by
 unfold CZ;rw[JN];by_cases hi:i<n
 ·simp_all
 ·rw[ζ hi];cases hb:DM L i with
  | false=>rfl
  | true=>
   obtain⟨o,ho,h1,h2⟩:=OI.1 hb;have:=h.sz o ho;omega
theorem Yht(h:AO n L)(f t:Int):((DR (CZ n L) f t:Nat):Int)=A4 L f t:=by
 rw[<-RM h,JY,JU];congr 1;exact ZVB (λi _=>by rw[VQ h])
theorem TR(h:AO n L)(k:Nat)(hk:k<=n):((cnt (at_ (CZ n L)) k:Nat):Int)=A4 L 0 k:=by
 rw[<-Yht h,UV _ (by grind [JU])]
theorem YKJ:∀{q k:Nat},DZ L q=some k->∃j,∃hj:j<L.length,∃i,i<L[j].2/\q=AC (L.take j)+i/\k=L[j].1+i:=by
 induction L with
 | nil=>intro q k h;cases h
 | cons o r ih=>
  intro q k h;unfold DZ at h;by_cases hq:q<o.2
  ·rw[θ hq]at h;exact⟨0,by simp,q,hq,by simp[AC],(Option.some.inj h).symm⟩
  ·rw[ψ hq]at h;obtain⟨j,hj,i,h1,h2,h3⟩:=ih h;exact⟨j+1,by simp_all,i,h1,by simp[AC];omega,h3⟩
theorem XUI(hj:j<L.length)(hi:i<L[j].2):DM L (L[j].1+i)=true:=OI.2 ⟨_,τ hj,by omega,by omega⟩
theorem Qh2(h:AO n L)(q:Nat):(∀k,DZ L q=some k->CU (CZ n L) q=k/\k<n)/\(DZ L q=none->CU (CZ n L) q=n):=by
 refine⟨λk hk=>?_,λhn=>?_⟩
 ·obtain⟨j,hj,i,h1,rfl,rfl⟩:=YKJ hk;have hs:=h.sz _ (τ hj);have hc:=TR h (L[j].1+i) Ω;have ho:=Yhz h hj (i:=i) Ω;obtain⟨e1,e2⟩:=YTa (l:=CZ n L) (k:=L[j].1+i) (q:=AC (L.take j)+i) (by grind [VQ,XUI]) (by grind);omega
 ·have hle:=Jkd.1 hn;have hc:=TR h n (κ n);rw[SC h]at hc;have:=Vit (f:=at_ (CZ n L)) (n:=n) (k:=q) Ω;unfold CU
  grind [JU]
theorem Zop(h:AO n L)(k:Int):KK (CZ n L) k=IX L k/\M7 (CZ n L) k=WO L k:=by
 unfold KK M7 IX WO;by_cases hk:k<0
 ·grind
 ·rw[ψ hk,ψ hk,φ Ω,JU];obtain⟨h1,h2⟩:=Qh2 h k.toNat;cases hw:DZ L k.toNat with
  | none=>grind [NK]
  | some x=>grind [IR]
theorem Jw5(hj:j<L.length):CZ n (L.take (j+1))=CM (CZ n (L.take j)) (L[j].1:Nat) ((L[j].1:Int)+(L[j].2:Int)) true:=by
 refine IK (by grind [FN,JU]) (λi hi=>?_);rw[JU]at hi;rw[N0 _ _ _ _ _ (by grind [JU])];unfold CZ;rw[JN,JN,φ hi];unfold DM
 grind [ζR]
theorem ZPf(n:Nat):CZ n []=List.replicate n false:=by
 unfold CZ;exact IK (by simp) (λi hi=>by rw[JN];simp[at_,ξs,DM];split <;> rfl)
def F8(w:World)(F t n B:Nat)(L:List Ob):Prop:=
 AO n L/\t<w.heap.size/\F<=t/\∃v vb x p b a,w.cell? ⟨t,0,none⟩=some (pP v)/\w.cell? ⟨t,1,none⟩=some (pP x)/\A8 w v vb (CZ n L)/\Idx w x p b a (CZ n L) B ∧
  F<=v/\F<=vb/\F<=x/\F<=p/\F<=b/\F<=a
theorem F8.touch{F t:Nat}(h:F8 w F t n B L)(ht:AB S w w')(hS:∀k,F<=k->k<w.heap.size->¬S k):F8 w' F t n B L:=by
 obtain⟨hg,h1,h2,v,vb,x,p,b,a,c0,c1,hV,hX,k1,k2,k3,k4,k5,k6⟩:=h;exact⟨hg,ϑ h1 ht.size,h2,v,vb,x,p,b,a,(ht.cell h1 (hS t h2 h1) 0).trans c0,(ht.cell h1 (hS t h2 h1) 1).trans c1,hV.touch ht (hS v k1 hV.hp) (hS vb k2 hV.hb),hX.touch ht (hS x k3 hX.hx) (hS p k4 hX.vec.hp) (hS b k5 hX.vec.hb) (hS a k6 hX.ha),k1,k2,k3,k4,k5,k6⟩
theorem F8.gr{F t:Nat}(h:F8 w F t n B L)(g:Gr w w'):F8 w' F t n B L:=h.touch (g.touch (λ_=>False)) (λ_ _ _ h=>h)
section
variable{F t:Nat}
theorem VXx(hO:F8 w F t n B L)(hT:AP w)(k:Int):
  A2 prog 284 #[pP t,iI k] w (.tuple #[iI (IX L k),.bool (WO L k)]):=by
 obtain⟨hg,h1,h2,v,vb,x,p,b,a,c0,c1,hV,hX,-⟩:=hO;rw[<-(Zop hg k).1,<-(Zop hg k).2];have HT:=hT;go_enter func284,ntmps284;go_wp2_with(go_at_call 292;refine(Qax hX HT k).mono ?_;rintro e w1 ⟨rfl,hg1⟩);go_ret2
 simp_all
theorem YWi(hO:F8 w F t n B L)(i:Int):A2 prog 219 #[pP t,iI i] w (iI (A4 L 0 i)):=by
 obtain⟨hg,h1,h2,v,vb,x,p,b,a,c0,c1,hV,hX,-⟩:=hO;rw[<-Yht hg];go_enter func219,ntmps219;go_wp2_with(go_at_call 259;refine(Zde hX i).mono ?_;rintro e w1 ⟨rfl,hg1⟩);go_ret
 simp_all
theorem ZaO(hO:F8 w F t n B L)(i:Int):cQ 218 #[pP t,iI i] w (.bool (decide (0<=i)&&DM L i.toNat)):=by
 obtain⟨hg,h1,h2,v,vb,x,p,b,a,c0,c1,hV,hX,-⟩:=hO;rw[<-VQ hg];go_enter func218,ntmps218;go_wp2_with(go_at_call 258;refine(X89 hV i).mono ?_;rintro e w1 ⟨rfl,rfl⟩);go_ret
 simp_all
theorem XcN(hO:F8 w F t n B L):cQ 212 #[pP t] w (iI (AC L:Nat)):=by
 obtain⟨hg,h1,h2,v,vb,x,p,b,a,c0,c1,hV,hX,-⟩:=hO
 have HL:Hid (cnt (at_ (CZ n L)) (CZ n L).length=AC L):=⟨by
  have:=TR hg n (κ n)
  grind [SC,JU]⟩
 go_enter func212,ntmps212;go_wp2_with(go_at_call 253;refine(ZsP hX).mono ?_;rintro e w1 ⟨rfl,rfl⟩;rw[HL.o]);go_ret
 simp_all
end
open Go.Shelf
section
attribute [local go_sem] Oper.semAt_some
theorem JWx(k:Int)(w:World):cQ 210 #[.pointer none,iI k] w (.tuple #[.pointer none,iI 9]):=by
 refine(γ (n:=5)).1 ?_;refine callsIn_of_wp_marks func210 rfl trivial ?_ rfl;simp only[ntmps210,ζY,ζE,ξc,Nat.reduceAdd,Nat.reduceSub,ζO,ζN,ζ4,ζW,ζZ,ζw];gi_wp2_with(refine⟨trivial,?_⟩;gi_at_call 125;refine(γ.2 (QOV _)).mono ?_;rintro e w1 ⟨rfl,rfl⟩);refine⟨.tuple #[.pointer none,iI 9],?_,rfl,rfl⟩;simp[results,f210,go_sem]
structure RI(W0:World)(v vb n:Nat)(L:List Ob)(j:Nat)(A:World):Prop where
 t:AB (λi=>i=vb\/W0.heap.size<=i) W0 A
 jl:j<=L.length
 vec:A8 A v vb (CZ n (L.take j))
def V4V(w:World)(n:Nat)(L:List Ob)(k:Int)(e:Ending)(w':World):Prop:=
 Gr w w'/\((BG k=false/\e=.returned (.tuple #[.pointer none,iI 5]))\/(BG k=true/\∃t B:Nat,k=B/\e=.returned (.tuple #[pP t,iI 0])/\F8 w' w.heap.size t n B L))
theorem ST{p1 b1 p2 b2:Nat}(hE:Ext w m p1 b1 p2 b2 n L)(hT:AP w)(k:Int)(hk:k<=9223372036854775807):
  Calls prog 210 #[pP m,iI k] w (V4V w n L k):=by
 have HT:=hT;obtain⟨Xn,Xr⟩:=hE.nb;have hn0:((n:Int)==0)=false:=ζj.2 Ω;clear hT;refine(γ (n:=5)).1 ?_;refine callsIn_of_wp_marks func210 rfl trivial ?_ rfl;simp only[ntmps210,ζY,ζE,ξc,Nat.reduceAdd,Nat.reduceSub,ζO,ζN,ζ4,ζW,ζZ,ζw]
 gi_wp2_with(first
  | (refine⟨trivial,?_⟩;gi_at_call 125;refine(γ.2 (FI hE)).mono ?_;rintro e w1 ⟨rfl,rfl⟩)
  | (refine⟨trivial,?_⟩;gi_at_call 123;refine(γ.2 (VO n Xn Xr _)).mono ?_;rintro e w1 ⟨v,vb,rfl,G,Xd,hv,Xe⟩;have I:=Xd;have HP:=(ξ hv Xe);clear Xd hv Xe)
  | (refine⟨trivial,?_⟩;gi_at_call 160;refine(γ.2 (J9 (some ⟨m,0,none⟩))).mono ?_;rintro e w2 ⟨rfl,rfl⟩))
 obtain⟨X,hX⟩:∃X,X=w1.heap.size:=⟨_,rfl⟩;obtain⟨W0,J⟩:∃W0,W0=(w1.alloc (.cells #[.pointer (some ⟨v,0,none⟩)] 202)).alloc (.cells #[.pointer (some ⟨m,0,none⟩)] 120):=⟨_,rfl⟩;have N:Gr w1 W0:=by rw[J];exact((Gr.refl w1).alloc _).alloc _
 have hs0:W0.heap.size=X+2:=by rw[J,hX];simp
 have e0:W0.cell? ⟨X,0,none⟩=some (pP v):=by rw[J,hX];exact((Boxed.new w1 _ _).alloc _).cell
 have e1:W0.cell? ⟨X+1,0,none⟩=some (pP m):=by
  rw[J,hX];have:=Boxed.new (w1.alloc (.cells #[.pointer (some ⟨v,0,none⟩)] 202)) 120 (pP m);rw[π]at this;exact this.cell
 have Xo:=G.size;have Xq:=I.hp;have Xs:=I.hb;have hz4:=HP.1;have hz5:=HP.2;rw[<-hX]at Xo Xq Xs;have o1:=hE.hm;have o2:=hE.v1.hp;have o3:=hE.v1.hb;have o4:=hE.v2.hp;have o5:=hE.v2.hb;have o6:=HT.lt;have Xm:=(G.trans N);have Xv:=(hE.gr (G.trans N));have Xt:=(I.gr N);have V:=hE.good;have Xa:=(ξ e0 e1);rw[<-J,<-hX];clear J hX N e0 e1;have Xp:RI W0 v vb n L 0 W0:=⟨AB.refl _ _,ζg _,by show A8 W0 v vb (CZ n []);rw[ZPf];exact Xt⟩
 have tI:∀j A B,RI W0 v vb n L j A->AB (λi=>W0.heap.size<=i) A B->RI W0 v vb n L j B:=λj A B h t=>
  ⟨h.t.trans (t.mono (λi _ h=>.inr h)),h.jl,h.vec.touch t Ω Ω⟩
 refine TF (s0:=0) rfl Ω (gf:=213) (lb:=#[pP (X+1)]) rfl trivial (enters_of func213 (by kernel_rfl) rfl)
  (Xix _ (X+1) m p1 b1 p2 b2 n L _) (λ_=>rfl)
  (RI W0 v vb n L) (λ_ _=>False) tI (λ_ _ _ h _=>h)
  (λj A h=>⟨Xv.touch h.t Ω Ω Ω Ω Ω,(Xm.tab HT.lt HT).touch' h.t Ω,(h.t.cell Ω Ω 0).trans Xa.2,h.jl⟩)
  Xp ?round ?done (λ_ _ _ _ h _=>h.elim)
 case round=>
  intro lp j x W3 hsz3 Y Z;dsimp only[GP];gi_wp2;refine⟨Gr.refl _,λW4 ht4 hI4=>?_⟩
  have E:j<L.length:=by
   rcases χ j L.length with h|h
   ·exact h
   ·unfold EU at Z;rw[ζx h]at Z;cases Z
  obtain rfl:x=L[j]:=by unfold EU at Z;rw[υ E]at Z;exact(Option.some.inj Z).symm
  have hsz':=V.sz _ (τ E);have Xx:=(Jw5 (n:=n) E);have c6:=(hI4.t.cell (b:=X) Ω Ω 0).trans Xa.1;clear Y ht4 Z;gi_wp2_with(refine⟨trivial,?_⟩;gi_at_call 250;refine(CallsIn.inRound lp (γ.2 (XBA hI4.vec _ _ Ω))).mono ?_;rintro e w5 ⟨rfl,Xg,Xl⟩);rw[<-Xx]at Xl;exact⟨Xg.mono (λi _ h=>by have h:i=vb:=h;omega),j+1,rfl,hI4.t.trans (Xg.mono (λi _ h=>.inl h)),by omega,Xl⟩
 case done=>
  rintro D j W3 hD rfl Y hK;have c6:=(Y.t.cell (b:=X) Ω Ω 0).trans Xa.1;have M:=Y.vec;rw[ζ6]at M;have HT3:=Y.t;have HK:=hK;have HD:=hD;have Xf:Gr w W3:=((Xm.touch (λ_=>False)).trans' Y.t (λi hi h=>by omega)).gr;have Xj:=Xf;have hz6:=Y.t.size;clear Y hK hD Xf;cases hb:BG k with
  | false=>
   gi_wp2_with(refine⟨trivial,?_⟩;gi_at_call 251;refine(γ.2 (XFA M k hb hk)).mono ?_;rintro e w4 ⟨rfl,rfl⟩);refine⟨by simp,.inl ⟨_,_,rfl,run_takeDeferred HK,?_⟩⟩;refine⟨.tuple #[.pointer none,iI 5],?_,((Xj.touch (λ_=>False)).trans' (DG _ D _ (κ D)) (λi hi h=>by have:=HD;omega)).gr,.inl ⟨hb,rfl⟩⟩;simp[results,f210,go_sem]
  | true=>
   have hbp:=DC hb;obtain⟨B,rfl⟩:∃B:Nat,k=B:=⟨k.toNat,by omega⟩;gi_wp2_with(refine⟨trivial,?_⟩;gi_at_call 251;refine(γ.2 (Zv3 M B hb)).mono ?_;rintro e w4 ⟨x,p,b,a,rfl,U,Xk,Xi,Xc,Xb,Xh⟩;have c64:=(U.cell (AW c6) 0).trans c6;have Xw:=Xk;have HZ4:=(ξ Xi (ξ Xc (ξ Xb Xh)));clear Xk Xi Xc Xb Xh)
   have Xu:(w4.alloc (.cells #[.pointer (some ⟨v,0,none⟩),.pointer (some ⟨x,0,none⟩)] 330)).heap[D]?=some (.deferred (some [])):=
    (((U.alloc _).block (ζn.1 HK).1)).trans HK
   have tt:=((Xj.trans (U.alloc (.cells #[.pointer (some ⟨v,0,none⟩),.pointer (some ⟨x,0,none⟩)] 330))).touch (λ_=>False)).trans' (DG _ D (.deferred none) (κ D)) (λi hi h=>by have:=HD;omega);refine⟨by simp,.inl ⟨_,_,rfl,run_takeDeferred Xu,?_⟩⟩;refine⟨.tuple #[pP w4.heap.size,iI 0],?_,tt.gr,.inr ⟨hb,w4.heap.size,B,rfl,rfl,?_⟩⟩
   ·simp[results,f210,go_sem]
   ·have t5:=DV (w4.alloc (.cells #[.pointer (some ⟨v,0,none⟩),.pointer (some ⟨x,0,none⟩)] 330)) D (.deferred none);have hs4:=U.size;have hdl:=(ζn.1 HK).1;have hl:w4.heap.size<(w4.alloc (.cells #[.pointer (some ⟨v,0,none⟩),.pointer (some ⟨x,0,none⟩)] 330)).heap.size:=by rw[π];omega
    exact⟨V,ϑ hl t5.size,by omega,v,vb,x,p,b,a,(t5.cell (b:=w4.heap.size) hl Ω 0).trans (ζJ ..),(t5.cell (b:=w4.heap.size) hl Ω 1).trans (ζJ ..),
     ((M.gr U).gr ((Gr.refl _).alloc _)).touch t5 Ω Ω,(Xw.gr ((Gr.refl _).alloc _)).touch t5 Ω Ω Ω Ω,by omega,by omega,by omega,by omega,by omega,by omega⟩
end
def BX:List Ob->Nat->Nat
 | [],_=>0
 | o :: r,q=>if q<o.2 then 0 else BX r (q-o.2)+1
theorem VBJ:∀{q:Nat},q<AC L->∃hj:BX L q<L.length,∃i,i<(L[BX L q]'hj).2/\q=AC (L.take (BX L q))+i/\DZ L q=some ((L[BX L q]'hj).1+i):=by
 induction L with
 | nil=>intro q h;simp[AC]at h
 | cons o r ih=>
  intro q h;by_cases hq:q<o.2
  ·have e:BX (o :: r) q=0:=θ hq;refine⟨by rw[e];simp,q,?_⟩;simp only[e];exact⟨hq,by simp[AC],by unfold DZ;simp_all⟩
  ·have e:BX (o :: r) q=BX r (q-o.2)+1:=ψ hq;unfold AC at h;obtain⟨hj,i,h1,h2,h3⟩:=ih (q:=q-o.2) Ω;refine⟨by grind,i,?_⟩;simp only[e];exact⟨h1,by simp only[ξy,AC];omega,by unfold DZ;grind⟩
theorem VNq(hj:j<L.length)(hi:i<L[j].2):BX L (AC (L.take j)+i)=j:=by
 induction L generalizing j with
 | nil=>simp at hj
 | cons o r ih=>
  cases j with
  | zero=>
   have hi:i<o.2:=hi;simp only[ψM,AC,ζ9,BX]
   simp_all
  | succ j=>
   have:=ih (j:=j) (by grind) (by simp_all);simp only[ξy,AC,BX]
   grind
theorem Zut(L:List Ob)(j:Nat):AC (L.take j)<=AC L:=by
 induction L generalizing j with
 | nil=>simp[AC]
 | cons o r ih=>
  cases j with
  | zero=>simp[AC]
  | succ j=>have:=ih j;simp only[ξy,AC];omega
theorem JT(hj:j<L.length):AC (L.take j)+L[j].2<=AC L:=by
 rw[<-FF hj];grind [Zut]
def toV(L:List Ob)(base a:Int):Int:=if A6 L a<L.length then base+A4 L 0 a else 0
def toE(L:List Ob)(a:Int):Int:=if A6 L a<L.length then 0 else 6
theorem RZ(h:AO n L)(hj:j<L.length)(h1:(L[j].1:Int)<=a)(h2:a<L[j].1+L[j].2):
  toV L base a=base+AC (L.take j)+a-(L[j].1:Nat)/\toE L a=0:=by
 have e:=OU h hj h1 h2;have hs:=Yhz h hj (i:=(a-L[j].1).toNat) Ω;rw[show (L[j].1:Int)+((a-L[j].1).toNat:Nat)=a by omega]at hs;unfold toV toE;omega
theorem O0(h:¬A6 L a<L.length):toV L base a=0/\toE L a=6:=by
 unfold toV toE;omega
theorem JFq(a:Int):(decide (0<=a)&&DM L a.toNat)=decide (A6 L a<L.length):=by
 grind [φ,Q5g,ζ,PC]
def inF(L:List Ob)(base b:Int):Bool:=decide (base<=b)&&decide (b<base+(AC L:Nat))
def CN(L:List Ob)(base b:Int):Int:=if inF L base b then IX L (b-base)else 0
def NL(L:List Ob)(base b:Int):Int:=if inF L base b then (BX L (b-base).toNat:Nat)else 0
def F4(L:List Ob)(base b:Int):Int:=if inF L base b then 0 else 11
theorem FH{b:Int}:inF L base b=true↔base<=b/\b<base+(AC L:Nat):=by simp[inF]
theorem UU{b:Int}(h:¬(base<=b/\b<base+(AC L:Nat))):inF L base b=false:=by
 cases e:inF L base b with
 | false=>rfl
 | true=>exact absurd (FH.1 e) h
theorem Z2d(hj:j<L.length)(hi:i<L[j].2):IX L ((AC (L.take j)+i:Nat):Int)=(L[j].1+i:Nat):=by
 unfold IX;rw[ψ Ω,β,XEK hj hi];rfl
theorem QCo{b:Int}(hj:j<L.length)(h1:base+(AC (L.take j):Nat)<=b)(h2:b<base+(AC (L.take j):Nat)+(L[j].2:Nat)):
  CN L base b=(L[j].1:Nat)+b-(base+(AC (L.take j):Nat))/\NL L base b=j/\F4 L base b=0:=by
 have hm:=JT hj;have Y:inF L base b=true:=FH.2 ⟨by omega,by omega⟩;obtain⟨i,hi⟩:∃i:Nat,b-base=((AC (L.take j)+i:Nat):Int):=⟨(b-base).toNat-AC (L.take j),by omega⟩;have X:i<L[j].2:=Ω
 unfold CN NL F4;rw[Y,θ rfl,θ rfl,θ rfl,hi,Z2d hj X,β,VNq hj X];omega
theorem MQ{b:Int}(h:inF L base b=false):CN L base b=0/\NL L base b=0/\F4 L base b=11:=by
 unfold CN NL F4;simp_all
theorem Zeb(h:AO n L){b:Int}(hb:inF L base b=true):∃j,∃hj:j<L.length,NL L base b=j/\(L[j].1:Int)<=CN L base b/\CN L base b<L[j].1+L[j].2/\A6 L (CN L base b)=j/\F4 L base b=0:=by
 obtain⟨h1,h2⟩:=FH.1 hb;obtain⟨hj,i,hi,e,-⟩:=VBJ (L:=L) (q:=(b-base).toNat) Ω;obtain⟨a1,a2,a3⟩:=QCo (base:=base) (b:=b) hj Ω Ω;refine⟨_,hj,a2,by omega,by omega,OU h hj Ω Ω,a3⟩
theorem Ye3{o:Ob}(h:∀y∈M,¬o.1<y.1):DD M o=M++[o]:=by
 induction M with
 | nil=>rfl
 | cons y r ih=>
  unfold DD
  grind
theorem Zne(h:AO n L)(hj:j<L.length):C2 (L.take j) n (L[j].1:Nat) (L[j].2:Nat)=L.take (j+1):=by
 have hs:=h.sz _ (τ hj)
 have hle:∀o∈L.take j,o.1+o.2<=L[j].1:=λo ho=>by
  obtain⟨i,hi,X,rfl⟩:=OJ ho;exact h.at hi hj X
 have hc:G5 (L.take j) (L[j].1:Nat) (L[j].2:Nat)=false:=by
  cases e:G5 (L.take j) (L[j].1:Nat) (L[j].2:Nat)with
  | false=>rfl
  | true=>obtain⟨o,ho,h1,h2⟩:=RS.1 e;grind
 have he:C8 (L.take j) n (L[j].1:Nat) (L[j].2:Nat)=0:=by
  unfold C8;grind
 unfold C2;rw[θ he,β,β,Ye3 (λy hy=>by grind),ζR hj]
end Go.Proofs.YtbdimhlaaoadgaaGreatDoor
