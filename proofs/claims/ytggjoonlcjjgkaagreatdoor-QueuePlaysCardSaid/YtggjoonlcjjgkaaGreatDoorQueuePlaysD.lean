/- Part 4 of what QueuePlays leans on: my own lemmas, merged by shake.py. -/
import Derived.Test.YtggjoonlcjjgkaaGreatDoorQueuePlaysC
namespace Go.Proofs.YtggjoonlcjjgkaaGreatDoor
open _root_.Go.Proofs.Tryz
set_option maxHeartbeats 3200000
set_option maxRecDepth 100000
open Go.RowKit Word
variable{held:Bool}{a base z:Int}{X Y:Int->Prop}{l:List Bool}{O rs:List Int}{L M:List Ob}{cs:List Value}{B BASE N R b f fuel hi i j k lo m m' n p p1 p2 q r x y:Nat}{spare:Nat->Bool}{F:Nat->Nat}{Q S:Nat->Prop}{H:Type}{u v v':Vm}{w w' w1 wr:World}
def X7(v:Vm)(a b:Int):Prop:=v.rdE a=0/\∃i:Nat,(i:Int)<(v.rdH a).p/\v.ptE a i=0/\v.ptV a i≠0/\b=(v.ptV a i:Nat)
def Rch(v:Vm)(rs:List Int)(a:Int):Prop:=∀P:Int->Prop,(∀r∈rs,r≠0->P r)->(∀a b,P a->X7 v a b->P b)->P a
theorem Rch.root{r:Int}(h:r∈rs)(h0:r≠0):Rch v rs r:=λ_ h1 _=>h1 r h h0
theorem Rch.step{b:Int}(h:Rch v rs a)(hp:X7 v a b):Rch v rs b:=λP h1 h2=>h2 a b (h P h1 h2) hp
def Vm.osz(v:Vm)(a:Int):Int:=CE (v.rdH a)
structure CH(v:Vm)(rs:List Int)(n:Nat):Prop where
 rd:∀a,Rch v rs a->v.rdE a=0
 pt:∀a,Rch v rs a->∀i:Nat,(i:Int)<(v.rdH a).p->v.ptE a i=0
 rm:∀a,Rch v rs a->a+v.osz a<=n
 dj:∀a b,Rch v rs a->Rch v rs b->a=b\/a+v.osz a<=b\/b+v.osz b<=a
def Hs(L:List Ob)(a:Int):Prop:=∃o∈L,(o.1:Int)=a
structure Mk(v:Vm)(rs:List Int)(n:Nat)(L:List Ob):Prop where
 good:AP n L
 ats:∀o∈L,Rch v rs o.1/\v.rdE o.1=0/\(o.2:Int)=v.osz o.1
theorem Mk.nil(v:Vm)(rs:List Int)(n:Nat):Mk v rs n []:=⟨AP.nil n,λ_ h=>by cases h⟩
theorem DH(h:v.rdE a=0):0<a/\1<=v.osz a/\v.osz a<=256:=by
 obtain⟨h0,-,p,f,k,e,hs⟩:=F5 h;refine⟨h0,?_⟩;unfold Vm.osz;rw[e,show CE ⟨p,f,k⟩=1+(p:Int)+f+k from θ (EQ hs)];omega
theorem Mk.hs(h:Mk v rs n L)(ha:Hs L a):Rch v rs a/\v.rdE a=0:=by
 obtain⟨o,ho,rfl⟩:=ha;exact⟨(h.ats o ho).1,(h.ats o ho).2.1⟩
theorem QH9{b:Int}(hr:v.rdE a=0)(he:DA L n a (v.osz a)=0):Hs (C2 L n a (v.osz a)) b↔b=a\/Hs L b:=by
 have h0:=(DH hr).1;unfold C2 Hs;rw[θ he];constructor
 ·rintro⟨o,ho,rfl⟩;rcases GF.1 ho with rfl|ho
  ·left;omega
  grind
 ·rintro(rfl|⟨o,ho,rfl⟩)
  ·exact⟨_,GF.2 (.inl rfl),by omega⟩
  ·exact⟨o,GF.2 (.inr ho),rfl⟩
theorem Mk.add(h:Mk v rs n L)(ha:Rch v rs a)(hr:v.rdE a=0)(he:DA L n a (v.osz a)=0):Mk v rs n (C2 L n a (v.osz a)):=by
 refine⟨V9U h.good _ _,λo ho=>?_⟩;have hp:=DH hr;unfold C2 at ho;rw[θ he]at ho;rcases GF.1 ho with rfl|ho
 ·grind
 ·exact h.ats o ho
theorem ZoS{s:Int}(he:DA L n s z=0):(C2 L n s z).length=L.length+1:=by
 unfold C2;rw[θ he,YKx]
theorem Mk.fail(h:Mk v rs n L)(ha:Rch v rs a)(hn:¬Hs L a)(he:DA L n a (v.osz a)≠0):¬CH v rs n:=λhS=>by
 have hr:=hS.rd a ha;have hp:=DH hr;have hm:=hS.rm a ha;unfold DA at he;rw[φ Ω,φ Ω]at he
 split at he
 ·rename_i hc;obtain⟨o,ho,h1,h2⟩:=RI.1 hc;obtain⟨q1,q2,q3⟩:=h.ats o ho;rcases hS.dj a o.1 ha q1 with e|e|e
  ·exact hn ⟨o,ho,e.symm⟩
  ·omega
  ·omega
 omega
def Cl(v:Vm)(L:List Ob)(a:Int):Prop:=∀i:Nat,(i:Int)<(v.rdH a).p->v.ptE a i=0/\(v.ptV a i≠0->Hs L (v.ptV a i:Nat))
structure BK(v:Vm)(rs:List Int)(n:Nat)(L:List Ob):Prop where
 mkd:Mk v rs n L
 all:∀a,Rch v rs a->Hs L a
 cl:∀o∈L,Cl v L o.1
theorem BK.of(h:Mk v rs n L)(hr:∀r∈rs,r≠0->Hs L r)(hc:∀o∈L,Cl v L o.1):BK v rs n L:=by
 refine⟨h,λa ha=>ha (Hs L) hr ?_,hc⟩;rintro a b ⟨o,ho,rfl⟩ ⟨-,i,hi,h0,h1,rfl⟩;exact(hc o ho i hi).2 h1
theorem BK.sound(h:BK v rs n L):CH v rs n:=by
 refine⟨λa ha=>(h.mkd.hs (h.all a ha)).2,λa ha i hi=>?_,λa ha=>?_,λa b ha hb=>?_⟩
 ·obtain⟨o,ho,rfl⟩:=h.all a ha;exact(h.cl o ho i hi).1
 ·obtain⟨o,ho,rfl⟩:=h.all a ha;have:=(h.mkd.good.sz o ho).2;have:=(h.mkd.ats o ho).2.2;omega
 ·obtain⟨o,ho,rfl⟩:=h.all a ha;obtain⟨q,hq,rfl⟩:=h.all b hb;have:=(h.mkd.ats o ho).2.2;have:=(h.mkd.ats q hq).2.2;rcases h.mkd.good.disj ho hq with e|e|e
  ·left;rw[e]
  ·omega
  omega
theorem YKj(h1:L.Pairwise (λo q=>o.1<q.1))(h2:M.Pairwise (λo q=>o.1<q.1))(h:∀x,x∈L↔x∈M):L=M:=by
 induction L generalizing M with
 | nil=>
  cases M with
  | nil=>rfl
  | cons m M=>grind [ζh]
 | cons l L ih=>
  cases M with
  | nil=>grind
  | cons m M=>
   obtain⟨a1,a2⟩:=ξd.1 h1;obtain⟨b1,b2⟩:=ξd.1 h2
   grind
theorem AP.lt(h:AP n L):L.Pairwise (λo q=>o.1<q.1):=by
 refine List.pairwise_iff_getElem.2 λi j hi hj hij=>?_;have:=h.at hi hj hij;have:=(h.sz _ (μ hi)).1;omega
theorem BK.unique(h:BK v rs n L)(h':BK v rs n M):L=M:=by
 have X:∀{L M:List Ob},BK v rs n L->BK v rs n M->∀x∈L,x∈M:=λ{L M} h h' x hx=>by
  obtain⟨q1,q2,q3⟩:=h.mkd.ats x hx;obtain⟨o,ho,e⟩:=h'.all _ q1;obtain⟨p1,p2,p3⟩:=h'.mkd.ats o ho
  grind
 exact YKj h.mkd.good.lt h'.mkd.good.lt λx=>⟨X h h' x,X h' h x⟩
structure MkS where
 L:List Ob
 st:List Int
 lost:Bool
variable{s:MkS}
def MkS.push(s:MkS)(R:Nat)(L':List Ob)(a:Int):MkS:=if s.st.length<R then ⟨L',s.st++[a],s.lost⟩else ⟨L',s.st,true⟩
structure DN(s s':MkS):Prop where
 sub:∀a,Hs s.L a->Hs s'.L a
 len:s.L.length<=s'.L.length
 los:s'.lost=true->s.lost=true\/s.L.length<s'.L.length
 mea:2*s.L.length+s'.st.length<=2*s'.L.length+s.st.length
theorem DN.refl(s:MkS):DN s s:=⟨λ_ h=>h,ϑ _,λh=>.inl h,ϑ _⟩
theorem DN.trans{t u:MkS}(h:DN s t)(k:DN t u):DN s u:=
 ⟨λa ha=>k.sub a (h.sub a ha),γ h.len k.len,λhl=>by
  rcases k.los hl with h1|h1
  ·rcases h.los h1 with h2|h2
   ·exact .inl h2
   ·exact .inr (κ h2 k.len)
  ·exact .inr (ξG h.len h1),by have:=h.mea;have:=k.mea;omega⟩
theorem Cl.mono(hs:∀a,Hs L a->Hs M a)(h:Cl v L a):Cl v M a:=λi hi=>⟨(h i hi).1,λh0=>hs _ ((h i hi).2 h0)⟩
structure CD(v:Vm)(rs:List Int)(n R:Nat)(X:Int->Prop)(s:MkS):Prop where
 mkd:Mk v rs n s.L
 st:∀a∈s.st,Hs s.L a
 r:s.st.length<=R
 cl:∀a,Hs s.L a->Cl v s.L a\/a∈s.st\/s.lost=true\/X a
theorem CD.weak(h:CD v rs n R X s)(hX:∀a,X a->Y a):CD v rs n R Y s:=
 ⟨h.mkd,h.st,h.r,λa ha=>(h.cl a ha).imp id (Or.imp id (Or.imp id (hX a)))⟩
theorem CD.push(h:CD v rs n R X s)(ha:Rch v rs a)(hr:v.rdE a=0)(he:DA s.L n a (v.osz a)=0):
  CD v rs n R X (s.push R (C2 s.L n a (v.osz a)) a)/\DN s (s.push R (C2 s.L n a (v.osz a)) a)/\Hs (s.push R (C2 s.L n a (v.osz a)) a).L a:=by
 have hm:=h.mkd.add ha hr he;have hh:=λb=>QH9 (b:=b) hr he;have hl:=ZoS he;have Y:∀b,Hs s.L b->Hs (C2 s.L n a (v.osz a)) b:=λb hb=>(hh b).2 (.inr hb);unfold MkS.push
 split
 ·rename_i hR;refine⟨⟨hm,λb hb=>?_,by simp;omega,λb hb=>?_⟩,⟨Y,by simp_all,λh=>.inl h,by simp;omega⟩,(hh a).2 (.inl rfl)⟩
  ·rcases ζg.1 hb with hb|hb
   ·exact Y b (h.st b hb)
   simp_all
  ·rcases(hh b).1 hb with rfl|hb
   ·simp_all
   ·rcases h.cl b hb with h1|h1|h1|h1
    ·exact .inl (h1.mono Y)
    ·simp_all
    ·simp_all
    simp_all
 ·refine⟨⟨hm,λb hb=>Y b (h.st b hb),h.r,λb _=>.inr (.inr (.inl rfl))⟩,⟨Y,by simp_all,λ_=>.inr (by simp_all),by grind⟩,(hh a).2 (.inl rfl)⟩
theorem CD.pop{st:List Int}{lost:Bool}(h:CD v rs n R X ⟨L,st++[a],lost⟩):CD v rs n R (λb=>X b\/b=a) ⟨L,st,lost⟩/\Hs L a:=by
 refine⟨⟨h.mkd,λb hb=>h.st b (ζg.2 (.inl hb)),by have:=h.r;grind,λb hb=>?_⟩,h.st a (ζg.2 (.inr (ζO.2 rfl)))⟩;rcases h.cl b hb with h1|h1|h1|h1
 ·exact .inl h1
 ·grind
 ·simp_all
 simp_all
theorem CD.done(h:CD v rs n R X s)(hc:Cl v s.L a)(hX:∀b,X b->Y b\/b=a):CD v rs n R Y s:=
 ⟨h.mkd,h.st,h.r,λb hb=>by
  rcases h.cl b hb with h1|h1|h1|h1
  ·exact .inl h1
  ·simp_all
  ·simp_all
  grind⟩
def ClN(v:Vm)(L:List Ob)(a:Int)(k:Nat):Prop:=∀i:Nat,i<k->v.ptE a i=0/\(v.ptV a i≠0->Hs L (v.ptV a i:Nat))
theorem ClN.mono(hs:∀a,Hs L a->Hs M a)(h:ClN v L a k):ClN v M a k:=λi hi=>⟨(h i hi).1,λh0=>hs _ ((h i hi).2 h0)⟩
theorem ClN.succ(h:ClN v L a k)(h0:v.ptE a k=0)(h1:v.ptV a k≠0->Hs L (v.ptV a k:Nat)):ClN v L a (k+1):=λi hi=>by
 rcases δ i k with h2|h2
 ·exact h i h2
 grind
theorem ClN.cl(h:ClN v L a k)(hk:(v.rdH a).p<=k):Cl v L a:=λi hi=>h i Ω
theorem CD.marks(h:CD v rs n R X s)(hX:∀a,¬X a)(hst:s.st=[])(hlost:s.lost=false)(hr:∀r∈rs,r≠0->Hs s.L r):BK v rs n s.L:=by
 refine BK.of h.mkd hr λo ho=>?_;rcases h.cl o.1 ⟨o,ho,rfl⟩with h1|h1|h1|h1
 ·exact h1
 ·simp_all
 ·simp_all
 simp_all
theorem ZFY(ha:Rch v rs a)(h:v.rdE a≠0):¬CH v rs n:=λhS=>h (hS.rd a ha)
theorem J7J(ha:Rch v rs a)(hi:(i:Int)<(v.rdH a).p)(h:v.ptE a i≠0):¬CH v rs n:=λhS=>h (hS.pt a ha i hi)
def FQ(l xs:List Nat):List Nat:=xs.foldl (λl x=>if x≠0/\¬x∈l then l++[x]else l) l
def F2(p:Nat->List Nat):Nat->List Nat->Nat->List Nat
 | 0,l,_=>l
 | f+1,l,i=>if i<l.length then F2 p f (FQ l (p (l.getD i 0))) (i+1)else l
theorem Xja(l:List Nat):FQ l []=l:=rfl
theorem XR(l:List Nat)(x:Nat)(xs:List Nat):FQ l (x :: xs)=FQ (if x≠0/\¬x∈l then l++[x]else l) xs:=rfl
theorem KK:∀(xs l:List Nat) (y:Nat),y∈FQ l xs↔y∈l\/(y∈xs/\y≠0)
 | [],l,y=>by simp[Xja]
 | x :: xs,l,y=>by
  rw[XR,KK xs]
  grind
theorem QI:∀(xs l:List Nat),∃t,FQ l xs=l++t
 | [],l=>⟨[],by simp[Xja]⟩
 | x :: xs,l=>by
  rw[XR];by_cases h:x≠0/\¬x∈l
  ·obtain⟨t,ht⟩:=QI xs (l++[x])
   simp_all
  ·obtain⟨t,ht⟩:=QI xs l
   grind
def OkL(l:List Nat):Prop:=l.Nodup/\¬0∈l
theorem OQ:∀(xs:List Nat) {l:List Nat},OkL l->OkL (FQ l xs)
 | [],_,h=>h
 | x :: xs,l,h=>by
  rw[XR];refine OQ xs ?_;by_cases hx:x≠0/\¬x∈l
  ·rw[θ hx];refine⟨?_,?_⟩
   ·rw[ζ0];exact⟨h.1,by simp,λa ha b hb e=>by simp_all⟩
   ·rw[ζg,ζO];rintro(h1|h1)
    ·exact h.2 h1
    omega
  grind
theorem QmW{l:List Nat}(h:i<l.length):l.getD i 0∈l:=by
 simp_all
theorem ZG(p:Nat->List Nat):∀(f:Nat) (l:List Nat) (i:Nat),∃t,F2 p f l i=l++t
 | 0,l,_=>⟨[],by simp[F2]⟩
 | f+1,l,i=>by
  unfold F2
  split
  ·obtain⟨t,ht⟩:=QI (p (l.getD i 0)) l;obtain⟨t2,ht2⟩:=ZG p f (FQ l (p (l.getD i 0))) (i+1)
   simp_all
  simp_all
theorem ZRH(p:Nat->List Nat):∀(f:Nat) (l:List Nat) (i:Nat),OkL l->OkL (F2 p f l i)
 | 0,_,_,h=>h
 | f+1,l,i,h=>by
  unfold F2
  split
  ·exact ZRH p f _ _ (OQ _ h)
  ·exact h
def InL(N:Nat)(l:List Nat):Prop:=∀x∈l,1<=x/\x<=N
theorem InL.len{l:List Nat}(h:InL N l)(hn:OkL l):l.length<=N:=by
 have h1:l ⊆ (List.range (N+1)).tail:=λx hx=>by
  have:=h x hx
  grind
 have h2:=hn.1.length_le_of_subset h1
 simp_all
theorem Qg6{l xs:List Nat}(h:InL N l)(hx:∀x∈xs,x<=N):InL N (FQ l xs):=λy hy=>by
 rcases(KK _ _ _).1 hy with h1|⟨h1,h2⟩
 ·exact h y h1
 grind
def YkB(p:Nat->List Nat)(l:List Nat)(i:Nat):Prop:=∀j,j<i->∀y∈p (l.getD j 0),y≠0->y∈l
theorem Vsy{l t:List Nat}(h:j<l.length):(l++t).getD j 0=l.getD j 0:=by
 grind
theorem Ybq{p:Nat->List Nat}{N:Nat}(hp:∀x,1<=x->x<=N->∀y∈p x,y<=N):∀(f:Nat) (l:List Nat) (i:Nat),OkL l->InL N l->YkB p l i->i<=l.length->N+1<=f+i->YkB p (F2 p f l i) (F2 p f l i).length/\InL N (F2 p f l i)
 | 0,l,i,ho,hi,_,hil,hf=>by have:=hi.len ho;omega
 | f+1,l,i,ho,hi,hs,hil,hf=>by
  unfold F2
  split
  ·rename_i h;have hx:=hi _ (QmW h);obtain⟨t,ht⟩:=QI (p (l.getD i 0)) l;refine Ybq hp f _ (i+1) (OQ _ ho) (Qg6 hi (hp _ hx.1 hx.2)) (λj hj y hy h0=>?_) ?_ Ω
   ·rw[ht,Vsy Ω]at hy;rcases δ j i with X|X
    ·exact(KK _ _ _).2 (.inl (hs j X y hy h0))
    grind [KK]
   grind
  grind
theorem Z7P{p:Nat->List Nat}{Q:Nat->Prop}(hp:∀x,Q x->∀y∈p x,y≠0->Q y):∀(f:Nat) (l:List Nat) (i:Nat),(∀x∈l,Q x)->∀x∈F2 p f l i,Q x
 | 0,_,_,h=>h
 | f+1,l,i,h=>by
  unfold F2
  split
  ·rename_i hi;refine Z7P hp f _ (i+1) (λy hy=>?_)
   grind [KK,QmW]
  ·exact h
def G8(p:Nat->List Nat)(N:Nat)(rs:List Nat):List Nat:=F2 p (N+1) (FQ [] rs) 0
theorem YVO:OkL []:=⟨ξN,by simp⟩
theorem XU(p:Nat->List Nat)(N:Nat)(rs:List Nat):OkL (G8 p N rs):=ZRH _ _ _ _ (OQ _ YVO)
theorem JOE{p:Nat->List Nat}{rs:List Nat}(hp:∀x,1<=x->x<=N->∀y∈p x,y<=N)(hr:∀x∈rs,x<=N):InL N (G8 p N rs)/\(∀x∈rs,x≠0->x∈G8 p N rs)/\∀x∈G8 p N rs,∀y∈p x,y≠0->y∈G8 p N rs:=by
 have X:InL N (FQ [] rs):=Qg6 (λx hx=>absurd hx (by simp)) hr;obtain⟨h1,h2⟩:=Ybq hp (N+1) (FQ [] rs) 0 (OQ _ YVO) X (λj hj=>absurd hj (ζC _)) (ζc _) Ω;refine⟨h2,λx hx h0=>?_,λx hx y hy h0=>?_⟩
 ·obtain⟨t,ht⟩:=ZG p (N+1) (FQ [] rs) 0;unfold G8
  grind [ζx,KK]
 ·obtain⟨j,hj,e⟩:=ψw.1 hx;refine h1 j hj y ?_ h0;have e2:(G8 p N rs).getD j 0=x:=by simp_all
  unfold G8 at e2
  simp_all
theorem VPa{p:Nat->List Nat}{rs:List Nat}(hp:∀x,Q x->∀y∈p x,y≠0->Q y)(hr:∀x∈rs,x≠0->Q x):∀x∈G8 p N rs,Q x:=by
 refine Z7P hp _ _ _ (λx hx=>?_)
 grind [KK]
structure GOb where
 p:Nat
 f:Nat
 k:Nat
 w:List Nat
structure Gph where
 L:List GOb
 S:List Nat
variable{g g':Gph}
def GOb.hdr(o:GOb):Hdr:=⟨o.p,o.f,o.k⟩
def GOb.size(o:GOb):Nat:=1+o.p+o.f+o.k
def Gph.ob(g:Gph)(x:Nat):GOb:=if x=0 then ⟨0,0,0,[]⟩else g.L.getD (x-1) ⟨0,0,0,[]⟩
def Gph.pts(g:Gph)(x:Nat):List Nat:=(g.ob x).w.take (g.ob x).p
structure Gph.Ok(g:Gph):Prop where
 len:∀o∈g.L,o.w.length=o.p+o.f+o.k/\o.p+o.f+o.k<=255
 pt:∀o∈g.L,∀y∈o.w.take o.p,y<=g.L.length
 st:∀y∈g.S,y<=g.L.length
def Gph.Rd(g:Gph)(x:Nat):Prop:=∀P:Nat->Prop,(∀r∈g.S,r≠0->P r)->(∀a,P a->∀b∈g.pts a,b≠0->P b)->P x
theorem Gph.Rd.root(h:r∈g.S)(h0:r≠0):g.Rd r:=λ_ h1 _=>h1 r h h0
theorem Gph.Rd.step{a:Nat}(h:g.Rd a)(hb:b∈g.pts a)(h0:b≠0):g.Rd b:=λP h1 h2=>h2 a (h P h1 h2) b hb h0
theorem Gph.ob_mem(h1:1<=x)(h2:x<=g.L.length):g.ob x∈g.L:=by
 unfold Gph.ob
 grind
theorem Gph.Ok.pts_le(h:g.Ok)(hy:y∈g.pts x):y<=g.L.length:=by
 unfold Gph.pts at hy;rcases δ 0 x with hx|hx
 ·rcases δ g.L.length x with hl|hl
  ·have e:g.ob x=⟨0,0,0,[]⟩:=by
    unfold Gph.ob
    grind
   simp_all
  ·exact h.pt _ (Gph.ob_mem hx hl) y hy
 ·have e:g.ob x=⟨0,0,0,[]⟩:=by unfold Gph.ob;simp_all
  simp_all
theorem Gph.Ok.rd(h:g.Ok)(hx:g.Rd x):1<=x/\x<=g.L.length:=
 hx (λx=>1<=x/\x<=g.L.length) (λr hr h0=>⟨by omega,h.st r hr⟩) (λ_ _ b hb h0=>⟨by omega,h.pts_le hb⟩)
def Gph.all(g:Gph):List Nat:=G8 g.pts g.L.length g.S
theorem Gph.Ok.mem_all(h:g.Ok):x∈g.all↔g.Rd x:=by
 obtain⟨h1,h2,h3⟩:=JOE (p:=g.pts) (N:=g.L.length) (rs:=g.S) (λx _ _ y hy=>h.pts_le hy) h.st;constructor
 ·intro hx;exact VPa (Q:=g.Rd) (λa ha b hb h0=>ha.step hb h0) (λr hr h0=>Gph.Rd.root hr h0) x hx
 ·intro hx;exact hx (λx=>x∈g.all) h2 h3
structure Img(v:Vm)(g:Gph)(F:Nat->Nat)(lo hi:Nat):Prop where
 z:F 0=0
 rd:∀x,g.Rd x->v.rdE (F x)=0
 hd:∀x,g.Rd x->v.rdH (F x)=(g.ob x).hdr
 pt:∀x,g.Rd x->∀i,i<(g.ob x).p->v.ptE (F x) i=0/\v.ptV (F x) i=F ((g.ob x).w.getD i 0)
 wd:∀x,g.Rd x->∀i,(g.ob x).p<=i->i<(g.ob x).p+(g.ob x).f+(g.ob x).k->v.ldE (F x+1+i:Nat)=0/\v.ldV (F x+1+i:Nat)=(g.ob x).w.getD i 0
 lo:∀x,g.Rd x->lo<=F x/\F x+(g.ob x).size<=hi
 dj:∀x y,g.Rd x->g.Rd y->x=y\/F x+(g.ob x).size<=F y\/F y+(g.ob y).size<=F x
theorem Img.pos(h:Img v g F lo hi)(hx:g.Rd x):0<F x:=by
 have:=(DH (h.rd x hx)).1;omega
theorem Img.inj(h:Img v g F lo hi)(hx:g.Rd x)(hy:g.Rd y)(e:F x=F y):x=y:=by
 have h1:=h.dj x y hx hy;have h2:1<=(g.ob x).size:=by unfold GOb.size;omega
 have h3:1<=(g.ob y).size:=by unfold GOb.size;omega
 omega
theorem PS(ho:g.Ok)(hx:g.Rd x)(hi:i<(g.ob x).p):(g.ob x).w.getD i 0∈g.pts x:=by
 obtain⟨h1,h2⟩:=ho.rd hx;have hl:=(ho.len _ (Gph.ob_mem h1 h2)).1;rw[β,ω Ω,Option.getD_some];exact List.mem_take_iff_getElem.2 ⟨i,by omega,rfl⟩
theorem Img.rch(h:Img v g F lo hi)(ho:g.Ok)(ha:Rch v (g.S.map λx=>(F x:Int)) a):∃x,g.Rd x/\a=(F x:Nat):=by
 refine ha (λa=>∃x,g.Rd x/\a=(F x:Nat)) (λr hr h0=>?_) ?_
 ·obtain⟨x,hx,rfl⟩:=ξx.1 hr;refine⟨x,Gph.Rd.root hx (λe=>h0 ?_),rfl⟩;rw[e,h.z];rfl
 ·rintro a b ⟨x,hx,rfl⟩ ⟨-,i,hi,-,h1,rfl⟩;rw[h.hd x hx]at hi;have hi:(i:Int)<((g.ob x).p:Int):=hi;have hi:i<(g.ob x).p:=Ω
  have hp:=h.pt x hx i hi;rw[hp.2]at h1⊢;exact⟨_,hx.step (PS ho hx hi) (λe=>h1 (by rw[e,h.z])),rfl⟩
theorem Img.rch_of(h:Img v g F lo hi)(hx:g.Rd x):Rch v (g.S.map λx=>(F x:Int)) (F x:Nat):=by
 have Y:g.Rd x/\Rch v (g.S.map λx=>(F x:Int)) (F x:Nat):=by
  refine hx (λx=>g.Rd x/\Rch v (g.S.map λx=>(F x:Int)) (F x:Nat)) (λr hr h0=>?_) ?_
  ·have:=Gph.Rd.root hr h0;have hp:=h.pos this;exact⟨this,Rch.root (ξx.2 ⟨r,hr,rfl⟩) Ω⟩
  ·rintro a ⟨ha,hr⟩ b hb h0;have X:=ha.step hb h0;refine⟨X,hr.step ⟨h.rd a ha,?_⟩⟩;obtain⟨i,hi,e⟩:=List.mem_take_iff_getElem.1 hb;have Z:i<(g.ob a).p:=Ω
   have hw:(g.ob a).w.getD i 0=b:=by rw[β,ω Ω,Option.getD_some,e]
   obtain⟨p1,p2⟩:=h.pt a ha i Z;rw[hw]at p2;refine⟨i,?_,p1,?_,?_⟩
   ·rw[h.hd a ha]
    show (i:Int)<((g.ob a).p:Int)
    omega
   ·have:=h.pos X;omega
   ·rw[p2]
 exact Y.2
theorem Img.osz(h:Img v g F lo hi)(ho:g.Ok)(hx:g.Rd x):v.osz (F x)=(g.ob x).size:=by
 obtain⟨h1,h2⟩:=ho.rd hx;have hl:=(ho.len _ (Gph.ob_mem h1 h2)).2;unfold Vm.osz;rw[h.hd x hx];unfold CE CU GOb.hdr inS GOb.size
 grind
theorem Img.sound(h:Img v g F lo hi)(ho:g.Ok):CH v (g.S.map λx=>(F x:Int)) hi:=by
 refine⟨λa ha=>?_,λa ha i hi=>?_,λa ha=>?_,λa b ha hb=>?_⟩
 ·obtain⟨x,hx,rfl⟩:=h.rch ho ha;exact h.rd x hx
 ·obtain⟨x,hx,rfl⟩:=h.rch ho ha;rw[h.hd x hx]at hi;have hi:(i:Int)<((g.ob x).p:Int):=hi;exact(h.pt x hx i Ω).1
 ·obtain⟨x,hx,rfl⟩:=h.rch ho ha;rw[h.osz ho hx];have:=(h.lo x hx).2;omega
 ·obtain⟨x,hx,rfl⟩:=h.rch ho ha;obtain⟨y,hy,rfl⟩:=h.rch ho hb;rw[h.osz ho hx,h.osz ho hy];rcases h.dj x y hx hy with e|e|e
  ·simp_all
  ·omega
  omega
theorem NL{i:Int}(h:v.ptE a i=0):v.rdE a=0/\BO (v.rdH a) i=1/\v.ldE (a+1+i)=0/\v.ldV (a+1+i)<=2147483647/\v.ptV a i=v.ldV (a+1+i):=by
 have hv:v.ptV a i=v.gtV a i 1:=by unfold Vm.ptV;rw[θ h]
 unfold Vm.ptE at h;by_cases h1:v.gtE a i 1=0
 ·have h2:v.gtV a i 1<=2147483647:=by
   omega
  unfold Vm.gtE at h1;by_cases h3:v.plE a i 1=0
  ·rw[φ (by simpa using h3)]at h1;have h4:v.gtV a i 1=v.ldV (a+1+i):=by unfold Vm.gtV;rw[φ (by simpa using h3)]
   unfold Vm.plE at h3;omega
  omega
 omega
theorem OG{i:Int}(h1:v.rdE a=0)(h2:BO (v.rdH a) i=1)(h3:v.ldE (a+1+i)=0)(h4:v.ldV (a+1+i)<=2147483647):v.ptE a i=0/\v.ptV a i=v.ldV (a+1+i):=by
 have e1:v.plE a i 1=0:=by unfold Vm.plE;omega
 have e2:v.gtE a i 1=0:=by unfold Vm.gtE;omega
 have e3:v.gtV a i 1=v.ldV (a+1+i):=by unfold Vm.gtV;simp_all
 have e4:v.ptE a i=0:=by unfold Vm.ptE;omega
 exact⟨e4,by unfold Vm.ptV;simp_all⟩
theorem RD(h:v.rdE a=0):0<a/\v.ldE a=0/\tkE (v.ldV a)=0/\v.rdH a=tkH (v.ldV a):=by
 unfold Vm.rdE at h;by_cases h0:a=0
 ·omega
 ·rw[φ h0]at h;by_cases h1:a<0
  ·omega
  ·rw[φ h1]at h;by_cases h2:v.ldE a=0
   ·rw[θ h2]at h;exact⟨by omega,h2,h,by unfold Vm.rdH;grind⟩
   omega
theorem P7(h0:0<a)(h1:v.ldE a=0)(h2:tkE (v.ldV a)=0):v.rdE a=0/\v.rdH a=tkH (v.ldV a):=by
 unfold Vm.rdE Vm.rdH
 grind
structure MM(v v':Vm)(Q:Int->Prop)(T:Int->Int)(lo hi:Nat):Prop where
 z:T 0=0
 wd:∀a,Q a->∀m:Nat,(m:Int)<v.osz a->v'.ldE (T a+m)=0/\(v'.ldV (T a+m):Int)=if 1<=m/\(m:Int)<=(v.rdH a).p then T (v.ldV (a+m))else v.ldV (a+m)
 lo:∀a,Q a->(lo:Int)<=T a/\T a+v.osz a<=hi
 dj:∀a b,Q a->Q b->a=b\/T a+v.osz a<=T b\/T b+v.osz b<=T a
theorem Img.moved{lo' hi':Nat}{T:Int->Int}(h:Img v g F lo hi)(ho:g.Ok)(hm:MM v v' (Rch v (g.S.map λx=>(F x:Int))) T lo' hi')(h1:1<=lo')(h2:hi'<=2147483647):Img v' g (λx=>(T (F x)).toNat) lo' hi':=by
 have hr:=λx (hx:g.Rd x)=>h.rch_of hx
 have ht:∀x,g.Rd x->(((T (F x)).toNat:Nat):Int)=T (F x):=λx hx=>by
  have:=(hm.lo _ (hr x hx)).1;omega
 have hT:∀x,g.Rd x->0<=T (F x)/\T (F x)<=2147483647:=λx hx=>by
  have h3:=hm.lo _ (hr x hx);rw[h.osz ho hx]at h3;omega
 have hs:∀x,g.Rd x->v'.rdE (T (F x))=0/\v'.rdH (T (F x))=v.rdH (F x):=λx hx=>by
  obtain⟨a1,a2,a3,a4⟩:=RD (h.rd x hx);have h3:=hm.wd _ (hr x hx) 0 (by rw[h.osz ho hx];unfold GOb.size;omega);rw[φ Ω]at h3;simp only[Int.natCast_zero,Int.add_zero]at h3;have h4:=(hm.lo _ (hr x hx)).1;have e:v'.ldV (T (F x))=v.ldV (F x):=Ω
  have:=P7 (v:=v') (a:=T (F x)) Ω h3.1 (by rw[e];exact a3);rw[e]at this;exact⟨this.1,this.2.trans a4.symm⟩
 refine⟨by rw[h.z];show (T 0).toNat=0;rw[hm.z];rfl,λx hx=>?_,λx hx=>?_,λx hx i hi=>?_,λx hx i h3 h4=>?_,λx hx=>?_,λx y hx hy=>?_⟩
 ·show v'.rdE (((T (F x)).toNat:Nat):Int)=0
  rw[ht x hx];exact(hs x hx).1
 ·show v'.rdH (((T (F x)).toNat:Nat):Int)=_
  rw[ht x hx,(hs x hx).2];exact h.hd x hx
 ·show v'.ptE (((T (F x)).toNat:Nat):Int) i=0/\v'.ptV (((T (F x)).toNat:Nat):Int) i=(T (F ((g.ob x).w.getD i 0))).toNat
  rw[ht x hx];obtain⟨p1,p2⟩:=h.pt x hx i hi;obtain⟨q1,q2,q3,q4,q5⟩:=NL p1;rw[p2]at q5;have hw:=hm.wd _ (hr x hx) (1+i) (by rw[h.osz ho hx];unfold GOb.size;omega)
  have hp:(((1+i:Nat):Int))<=(v.rdH (F x)).p:=by
   rw[h.hd x hx]
   show (((1+i:Nat):Int))<=((g.ob x).p:Int)
   omega
  rw[θ ⟨by omega,hp⟩,show (F x:Int)+((1+i:Nat):Int)=(F x:Int)+1+i by omega,<-q5,show T (F x)+((1+i:Nat):Int)=T (F x)+1+i by omega]at hw
  have hb:0<=T (F ((g.ob x).w.getD i 0))/\T (F ((g.ob x).w.getD i 0))<=2147483647:=by
   by_cases e:(g.ob x).w.getD i 0=0
   ·rw[e,h.z];show 0<=T 0/\T 0<=_;rw[hm.z];omega
   ·exact hT _ (hx.step (PS ho hx hi) e)
  obtain⟨r1,r2⟩:=OG (v:=v') (a:=T (F x)) (i:=i) (hs x hx).1 (by rw[(hs x hx).2];exact q2) hw.1 Ω;exact⟨r1,by omega⟩
 ·obtain⟨w1,w2⟩:=h.wd x hx i h3 h4;have hw:=hm.wd _ (hr x hx) (1+i) (by rw[h.osz ho hx];unfold GOb.size;omega)
  have hp:¬(((1+i:Nat):Int))<=(v.rdH (F x)).p:=by
   rw[h.hd x hx]
   show ¬(((1+i:Nat):Int))<=((g.ob x).p:Int)
   omega
  rw[φ (λhh=>hp hh.2),show (F x:Int)+((1+i:Nat):Int)=((F x+1+i:Nat):Int)by omega,w2]at hw;have e:(((T (F x)).toNat+1+i:Nat):Int)=T (F x)+((1+i:Nat):Int):=by have:=ht x hx;omega
  rw[e];exact⟨hw.1,by omega⟩
 ·have h3:=hm.lo _ (hr x hx);rw[h.osz ho hx]at h3;omega
 ·have h3:=hm.dj _ _ (hr x hx) (hr y hy);rw[h.osz ho hx,h.osz ho hy]at h3;have e1:=ht x hx;have e2:=ht y hy;rcases h3 with h3|h3|h3
  ·exact .inl (h.inj hx hy Ω)
  ·exact .inr (.inl Ω)
  ·exact .inr (.inr Ω)
theorem Gph.Rd.of(hs:∀r∈g'.S,r≠0->g.Rd r)(hp:∀x,g.Rd x->∀b∈g'.pts x,b≠0->g.Rd b)(h:g'.Rd x):g.Rd x:=h g.Rd hs hp
theorem Img.sub(h:Img v g F lo hi)(hr:∀x,g'.Rd x->g.Rd x)(ho:∀x,g'.Rd x->g'.ob x=g.ob x):Img v g' F lo hi:=by
 refine⟨h.z,λx hx=>h.rd x (hr x hx),λx hx=>by rw[ho x hx];exact h.hd x (hr x hx),λx hx i hi=>?_,λx hx i h1 h2=>?_,λx hx=>by rw[ho x hx];exact h.lo x (hr x hx),λx y hx hy=>by rw[ho x hx,ho y hy];exact h.dj x y (hr x hx) (hr y hy)⟩
 ·rw[ho x hx]at hi⊢;exact h.pt x (hr x hx) i hi
 ·rw[ho x hx]at h1 h2⊢;exact h.wd x (hr x hx) i h1 h2
theorem Img.slot(h:Img v g F lo hi)(hy:y=0\/g.Rd y):Img v ⟨g.L,g.S.set i y⟩ F lo hi:=by
 have hr:∀x,(⟨g.L,g.S.set i y⟩:Gph).Rd x->g.Rd x:=λx hx=>Gph.Rd.of (g:=g) (g':=⟨g.L,g.S.set i y⟩) (λr hr h0=>by
  rcases ζP hr with h1|h1
  ·exact Gph.Rd.root h1 h0
  simp_all) (λx hx b hb h0=>hx.step hb h0) hx
 exact h.sub hr (λx _=>rfl)
theorem Gph.Ok.slot(h:g.Ok)(hy:y<=g.L.length):(⟨g.L,g.S.set i y⟩:Gph).Ok:=⟨h.len,h.pt,λz hz=>by
 rcases ζP hz with h1|h1
 ·exact h.st z h1
 simp_all⟩
theorem Img.mem(h:Img v g F lo hi)(he:∀a:Nat,lo<=a->a<hi->v.ldE a=0->v'.ldE a=0/\v'.ldV a=v.ldV a):Img v' g F lo hi:=by
 have X:∀x,g.Rd x->∀m,m<(g.ob x).size->lo<=F x+m/\F x+m<hi:=λx hx m hm=>by
  have:=h.lo x hx;omega
 have hs:∀x,g.Rd x->v'.rdE (F x)=0/\v'.rdH (F x)=v.rdH (F x):=λx hx=>by
  obtain⟨a1,a2,a3,a4⟩:=RD (h.rd x hx);obtain⟨b1,b2⟩:=X x hx 0 (by unfold GOb.size;omega);obtain⟨e1,e2⟩:=he (F x) Ω Ω a2;have:=P7 (v:=v') a1 e1 (by rw[e2];exact a3);rw[e2]at this;exact⟨this.1,this.2.trans a4.symm⟩
 refine⟨h.z,λx hx=>(hs x hx).1,λx hx=>(hs x hx).2.trans (h.hd x hx),λx hx i hi=>?_,λx hx i h1 h2=>?_,h.lo,h.dj⟩
 ·obtain⟨p1,p2⟩:=h.pt x hx i hi;obtain⟨q1,q2,q3,q4,q5⟩:=NL p1;obtain⟨b1,b2⟩:=X x hx (1+i) (by unfold GOb.size;omega);have e:(F x:Int)+1+(i:Int)=((F x+(1+i):Nat):Int):=Ω
  rw[e]at q3 q4 q5;obtain⟨e1,e2⟩:=he _ b1 b2 q3;have:=OG (v:=v') (a:=(F x:Int)) (i:=i) (hs x hx).1 (by rw[(hs x hx).2];exact q2) (by rw[e];exact e1) (by rw[e,e2];exact q4);exact⟨this.1,by rw[this.2,e,e2,<-q5];exact p2⟩
 ·obtain⟨w1,w2⟩:=h.wd x hx i h1 h2;obtain⟨b1,b2⟩:=X x hx (1+i) (by unfold GOb.size;omega);rw[show F x+1+i=F x+(1+i)by omega]at w1 w2⊢;obtain⟨e1,e2⟩:=he _ b1 b2 w1;exact⟨e1,by rw[e2];exact w2⟩
def GOb.put(o:GOb)(i y:Nat):GOb:=⟨o.p,o.f,o.k,o.w.set i y⟩
def Gph.put(g:Gph)(x i y:Nat):Gph:=⟨g.L.set (x-1) ((g.ob x).put i y),g.S⟩
theorem Gph.put_ob(h1:1<=x)(h2:x<=g.L.length)(z:Nat):(g.put x i y).ob z=if z=x then (g.ob x).put i y else g.ob z:=by
 by_cases e:z=x
 ·subst e;rw[θ rfl]
  show (if z=0 then _ else (g.L.set (z-1) ((g.ob z).put i y)).getD (z-1) ⟨0,0,0,[]⟩)=_
  grind
 ·rw[φ e]
  show (if z=0 then _ else (g.L.set (x-1) ((g.ob x).put i y)).getD (z-1) ⟨0,0,0,[]⟩)=if z=0 then _ else g.L.getD (z-1) ⟨0,0,0,[]⟩
  grind
theorem Gph.put_rd(h1:1<=x)(h2:x<=g.L.length)(hy:i<(g.ob x).p->y=0\/g.Rd y){z:Nat}(h:(g.put x i y).Rd z):g.Rd z:=by
 refine Gph.Rd.of (g:=g) (g':=g.put x i y) (λr hr h0=>Gph.Rd.root hr h0) (λa ha b hb h0=>?_) h;unfold Gph.pts at hb;rw[Gph.put_ob h1 h2]at hb;by_cases e:a=x
 ·subst e;rw[θ rfl]at hb;have hb:b∈((g.ob a).w.set i y).take (g.ob a).p:=hb;rcases δ i (g.ob a).p with hi|hi
  ·rw[List.take_set]at hb;rcases ζP hb with h3|h3
   ·exact ha.step h3 h0
   simp_all
  ·rw[List.take_set_of_le hi]at hb;exact ha.step hb h0
 ·rw[φ e]at hb;exact ha.step hb h0
theorem Gph.Ok.put(h:g.Ok)(h1:1<=x)(h2:x<=g.L.length)(hy:i<(g.ob x).p->y<=g.L.length):(g.put x i y).Ok:=by
 have hx:=Gph.ob_mem h1 h2;have hl:(g.put x i y).L.length=g.L.length:=η;refine⟨λo ho=>?_,λo ho z hz=>?_,λz hz=>by rw[hl];exact h.st z hz⟩
 ·rcases ζP ho with h3|h3
  ·exact h.len o h3
  ·rw[h3];have:=h.len _ hx;exact⟨by show ((g.ob x).w.set i y).length=_;rw[η];exact this.1,this.2⟩
 ·rw[hl];rcases ζP ho with h3|h3
  ·exact h.pt o h3 z hz
  ·rw[h3]at hz;have hz:z∈((g.ob x).w.set i y).take (g.ob x).p:=hz;rcases δ i (g.ob x).p with hi|hi
   ·rw[List.take_set]at hz;rcases ζP hz with h4|h4
    ·exact h.pt _ hx z h4
    omega
   ·rw[List.take_set_of_le hi]at hz;exact h.pt _ hx z hz
theorem QZI(l:List Nat)(i j y:Nat)(hi:i<l.length):(l.set i y).getD j 0=if j=i then y else l.getD j 0:=by
 grind
theorem Img.put{top:Nat}(h:Img v g F lo top)(ho:g.Ok)(hx:g.Rd x)(hi:i<(g.ob x).p+(g.ob x).f+(g.ob x).k)(hy:i<(g.ob x).p->y=0\/g.Rd y)(ht:top<=2147483647)
  (hE:∀a:Nat,lo<=a->a<top->v.ldE a=0->v'.ldE a=0/\v'.ldV a=if a=F x+1+i then (if i<(g.ob x).p then F y else y)else v.ldV a):Img v' (g.put x i y) F lo top:=by
 obtain⟨x1,x2⟩:=ho.rd hx;have hr:∀z,(g.put x i y).Rd z->g.Rd z:=λz hz=>Gph.put_rd x1 x2 hy hz;have U:=λz=>Gph.put_ob (i:=i) (y:=y) x1 x2 z
 have X:∀z,((g.put x i y).ob z).p=(g.ob z).p/\((g.put x i y).ob z).f=(g.ob z).f/\((g.put x i y).ob z).k=(g.ob z).k/\((g.put x i y).ob z).size=(g.ob z).size/\((g.put x i y).ob z).hdr=(g.ob z).hdr:=λz=>by
  rw[U]
  split
  ·rename_i e;subst e;exact⟨rfl,rfl,rfl,rfl,rfl⟩
  ·exact⟨rfl,rfl,rfl,rfl,rfl⟩
 have hlen:=(ho.len _ (Gph.ob_mem x1 x2)).1
 have hw:∀z,g.Rd z->∀j,((g.put x i y).ob z).w.getD j 0=if z=x/\j=i then y else (g.ob z).w.getD j 0:=λz _ j=>by
  rw[U];by_cases e:z=x
  ·subst e;rw[θ rfl]
   show ((g.ob z).w.set i y).getD j 0=_
   rw[QZI _ _ _ _ Ω];by_cases e2:j=i
   ·rw[θ e2,θ ⟨rfl,e2⟩]
   ·rw[φ e2,φ (λhh=>e2 hh.2)]
  ·rw[φ e,φ (λhh=>e hh.1)]
 have Z:∀z,g.Rd z->∀m,m<(g.ob z).size->lo<=F z+m/\F z+m<top:=λz hz m hm=>by
  have:=h.lo z hz;omega
 have Y:∀z,g.Rd z->∀m,m<(g.ob z).size->(F z+m=F x+1+i↔z=x/\m=1+i):=λz hz m hm=>by
  have hsx:(g.ob x).size=1+(g.ob x).p+(g.ob x).f+(g.ob x).k:=rfl;constructor
  ·intro e;rcases h.dj z x hz hx with e2|e2|e2
   ·subst e2;exact⟨rfl,by omega⟩
   ·omega
   ·omega
  ·rintro⟨rfl,rfl⟩;omega
 have hs:∀z,g.Rd z->v'.rdE (F z)=0/\v'.rdH (F z)=v.rdH (F z):=λz hz=>by
  obtain⟨a1,a2,a3,a4⟩:=RD (h.rd z hz);have J:0<(g.ob z).size:=by unfold GOb.size;omega
  obtain⟨b1,b2⟩:=Z z hz 0 J;obtain⟨e1,e2⟩:=hE (F z) Ω Ω a2;rw[φ (λe=>by have:=(Y z hz 0 J).1 Ω;omega)]at e2;have:=P7 (v:=v') a1 e1 (by rw[e2];exact a3);rw[e2]at this;exact⟨this.1,this.2.trans a4.symm⟩
 have hF:∀b,b=0\/g.Rd b->F b<=2147483647:=λb hb=>by
  rcases hb with rfl|hb
  ·rw[h.z];omega
  ·have:=h.lo b hb;omega
 refine⟨h.z,λz hz=>(hs z (hr z hz)).1,λz hz=>by rw[(X z).2.2.2.2];exact(hs z (hr z hz)).2.trans (h.hd z (hr z hz)),λz hz j hj=>?_,λz hz j h1 h2=>?_,λz hz=>by rw[(X z).2.2.2.1];exact h.lo z (hr z hz),λz z' hz hz'=>by rw[(X z).2.2.2.1,(X z').2.2.2.1];exact h.dj z z' (hr z hz) (hr z' hz')⟩
 ·rw[(X z).1]at hj;have hq:=hr z hz;obtain⟨p1,p2⟩:=h.pt z hq j hj;obtain⟨q1,q2,q3,q4,q5⟩:=NL p1;have hm:1+j<(g.ob z).size:=by unfold GOb.size;omega
  obtain⟨b1,b2⟩:=Z z hq (1+j) hm;have e:(F z:Int)+1+(j:Int)=((F z+(1+j):Nat):Int):=Ω
  rw[e]at q3 q4 q5;obtain⟨e1,e2⟩:=hE _ b1 b2 q3;rw[hw z hq];by_cases hc:z=x/\j=i
  ·obtain⟨rfl,rfl⟩:=hc;rw[θ Ω,θ hj]at e2;have:=OG (v:=v') (a:=(F z:Int)) (i:=j) (hs z hq).1 (by rw[(hs z hq).2];exact q2) (by rw[e];exact e1) (by rw[e,e2];exact hF _ (hy hj));rw[θ ⟨rfl,rfl⟩];exact⟨this.1,by rw[this.2,e,e2]⟩
  ·rw[φ (λhh=>by have:=(Y z hq (1+j) hm).1 hh;exact hc ⟨this.1,by omega⟩)]at e2;have:=OG (v:=v') (a:=(F z:Int)) (i:=j) (hs z hq).1 (by rw[(hs z hq).2];exact q2) (by rw[e];exact e1) (by rw[e,e2];exact q4);rw[φ hc];exact⟨this.1,by rw[this.2,e,e2,<-q5];exact p2⟩
 ·rw[(X z).1]at h1;rw[(X z).1,(X z).2.1,(X z).2.2.1]at h2;have hq:=hr z hz;obtain⟨w1,w2⟩:=h.wd z hq j h1 h2;have hm:1+j<(g.ob z).size:=by unfold GOb.size;omega
  obtain⟨b1,b2⟩:=Z z hq (1+j) hm;rw[show F z+1+j=F z+(1+j)by omega]at w1 w2⊢;obtain⟨e1,e2⟩:=hE _ b1 b2 w1;refine⟨e1,?_⟩;rw[hw z hq,e2];by_cases hc:z=x/\j=i
  ·obtain⟨rfl,rfl⟩:=hc;rw[θ Ω,φ Ω,θ ⟨rfl,rfl⟩]
  ·rw[φ (λhh=>by have:=(Y z hq (1+j) hm).1 hh;exact hc ⟨this.1,by omega⟩),φ hc];exact w2
def GOb.new(p f k:Nat):GOb:=⟨p,f,k,List.replicate (p+f+k) 0⟩
def Gph.add(g:Gph)(s p f k:Nat):Gph:=⟨g.L++[GOb.new p f k],g.S.set s (g.L.length+1)⟩
section
variable{s:Nat}
theorem Gph.add_ob(z:Nat)(hz:z<=g.L.length):(g.add s p f k).ob z=g.ob z:=by
 show (if z=0 then _ else (g.L++[GOb.new p f k]).getD (z-1) ⟨0,0,0,[]⟩)=if z=0 then _ else g.L.getD (z-1) ⟨0,0,0,[]⟩
 grind
theorem Gph.add_new:(g.add s p f k).ob (g.L.length+1)=GOb.new p f k:=by
 show (if g.L.length+1=0 then _ else (g.L++[GOb.new p f k]).getD (g.L.length+1-1) ⟨0,0,0,[]⟩)=_
 simp_all
theorem XYc(j:Nat):(GOb.new p f k).w.getD j 0=0:=by
 show (List.replicate (p+f+k) 0).getD j 0=0
 grind
theorem Gph.add_pts(h:b∈(g.add s p f k).pts (g.L.length+1)):b=0:=by
 unfold Gph.pts at h;rw[Gph.add_new]at h;exact(List.mem_replicate.1 (ξ8 h)).2
theorem Gph.add_rd(ho:g.Ok){z:Nat}(h:(g.add s p f k).Rd z):g.Rd z\/z=g.L.length+1:=by
 refine h (λz=>g.Rd z\/z=g.L.length+1) (λr hr h0=>?_) (λa ha b hb h0=>?_)
 ·rcases ζP hr with h1|h1
  ·exact .inl (Gph.Rd.root h1 h0)
  omega
 ·rcases ha with ha|rfl
  ·unfold Gph.pts at hb;rw[Gph.add_ob a (ho.rd ha).2]at hb;exact .inl (ha.step hb h0)
  ·exact absurd (Gph.add_pts hb) h0
theorem Gph.Ok.add(h:g.Ok)(hs:p+f+k<=255):(g.add s p f k).Ok:=by
 have hl:(g.add s p f k).L.length=g.L.length+1:=by show (g.L++[GOb.new p f k]).length=_;simp_all
 refine⟨λo ho=>?_,λo ho z hz=>?_,λz hz=>?_⟩
 ·rcases ζg.1 ho with h1|h1
  ·exact h.len o h1
  ·rw[ζO.1 h1];exact⟨ζI,hs⟩
 ·rcases ζg.1 ho with h1|h1
  ·have:=h.pt o h1 z hz;omega
  ·rw[ζO.1 h1]at hz;have:z=0:=(List.mem_replicate.1 (ξ8 hz)).2;omega
 ·rcases ζP hz with h1|h1
  ·have:=h.st z h1;omega
  ·omega
theorem Img.add(h:Img v g F lo hi)(ho:g.Ok)(hs:p+f+k<=255){A:Nat}(hA:hi<=A)(hlo:lo<=A)(hr:v'.rdE A=0)(hh:v'.rdH A=(GOb.new p f k).hdr)(hz:∀m:Nat,m<p+f+k->v'.ldE (A+1+m:Nat)=0/\v'.ldV (A+1+m:Nat)=0)
  (he:∀a:Nat,lo<=a->a<hi->v.ldE a=0->v'.ldE a=0/\v'.ldV a=v.ldV a):Img v' (g.add s p f k) (λx=>if x=g.L.length+1 then A else F x) lo (A+1+p+f+k):=by
 have hm:=h.mem he;have X:∀z,g.Rd z->z<=g.L.length/\¬z=g.L.length+1:=λz hz=>by have:=ho.rd hz;omega
 have M:(GOb.new p f k).size=1+p+f+k:=rfl;have Z:(GOb.new p f k).p=p:=rfl;have J:(GOb.new p f k).f=f:=rfl;have U:(GOb.new p f k).k=k:=rfl;refine⟨?_,λz hz'=>?_,λz hz'=>?_,λz hz' i hi'=>?_,λz hz' i a1 a2=>?_,λz hz'=>?_,λz z' hz1 hz2=>?_⟩
 ·show (if 0=g.L.length+1 then A else F 0)=0
  rw[φ Ω];exact h.z
 ·show v'.rdE ((if z=g.L.length+1 then A else F z:Nat):Int)=0
  rcases Gph.add_rd ho hz' with hq|rfl
  ·rw[φ (X z hq).2];exact hm.rd z hq
  ·rw[θ rfl];exact hr
 ·show v'.rdH ((if z=g.L.length+1 then A else F z:Nat):Int)=_
  rcases Gph.add_rd ho hz' with hq|rfl
  ·rw[φ (X z hq).2,Gph.add_ob z (X z hq).1];exact hm.hd z hq
  ·rw[θ rfl,Gph.add_new];exact hh
 ·show v'.ptE ((if z=g.L.length+1 then A else F z:Nat):Int) i=0/\v'.ptV ((if z=g.L.length+1 then A else F z:Nat):Int) i=(if ((g.add s p f k).ob z).w.getD i 0=g.L.length+1 then A else F (((g.add s p f k).ob z).w.getD i 0))
  rcases Gph.add_rd ho hz' with hq|rfl
  ·rw[Gph.add_ob z (X z hq).1]at hi'⊢;have hy:=ho.pts_le (PS ho hq hi');rw[φ (X z hq).2,φ Ω];exact hm.pt z hq i hi'
  ·rw[Gph.add_new]at hi'⊢;rw[Z]at hi';rw[θ rfl,XYc,φ Ω,h.z];obtain⟨b1,b2⟩:=hz i Ω;have e:(A:Int)+1+(i:Int)=((A+1+i:Nat):Int):=Ω
   have V:BO (v'.rdH (A:Int)) (i:Int)=1:=by
    rw[hh];unfold BO CE CU GOb.hdr inS;rw[Z,J,U]
    have e1:(decide (0<=(p:Int)/\(p:Int)<256)&&decide (0<=(f:Int)/\(f:Int)<256)&&decide (0<=(k:Int)/\(k:Int)<256)&&decide ((p:Int)+(f:Int)+(k:Int)<256))=true:=by
     simp only[ζe,ζd];omega
    simp only[e1,if_true];rw[θ Ω,θ Ω]
   have:=OG (v:=v') (a:=(A:Int)) (i:=i) hr V (by exact b1) (by rw[e,b2];omega);exact⟨this.1,by rw[this.2,e,b2]⟩
 ·rcases Gph.add_rd ho hz' with hq|rfl
  ·rw[Gph.add_ob z (X z hq).1]at a1 a2⊢;rw[φ (X z hq).2];exact hm.wd z hq i a1 a2
  ·rw[Gph.add_new]at a1 a2⊢;rw[θ rfl,XYc];exact hz i a2
 ·rcases Gph.add_rd ho hz' with hq|rfl
  ·rw[φ (X z hq).2,Gph.add_ob z (X z hq).1];have:=h.lo z hq;omega
  ·rw[θ rfl,Gph.add_new,M];omega
 ·rcases Gph.add_rd ho hz1 with hq|rfl
  ·rcases Gph.add_rd ho hz2 with Y|rfl
   ·rw[φ (X z hq).2,φ (X z' Y).2,Gph.add_ob z (X z hq).1,Gph.add_ob z' (X z' Y).1];exact h.dj z z' hq Y
   ·rw[φ (X z hq).2,θ rfl,Gph.add_ob z (X z hq).1];have:=h.lo z hq;exact .inr (.inl Ω)
  ·rcases Gph.add_rd ho hz2 with Y|rfl
   ·rw[θ rfl,φ (X z' Y).2,Gph.add_ob z' (X z' Y).1];have:=h.lo z' Y;exact .inr (.inr Ω)
   ·exact .inl rfl
end
def AI(v:Vm):List Int->Int
 | []=>0
 | a :: r=>v.osz a+AI v r
def BX(v:Vm):List Int->Int->Int->Int
 | [],_,_=>0
 | b :: r,t,a=>if b=a then t else BX v r (t+v.osz b) a
theorem TR(v:Vm)(a:Int):0<=v.osz a:=by
 unfold Vm.osz CE
 grind [OI]
theorem M7(v:Vm)(O P:List Int):AI v (O++P)=AI v O+AI v P:=by
 induction O with
 | nil=>simp[AI]
 | cons a r ih=>simp only[ζr,AI,ih];omega
theorem GH(v:Vm)(O:List Int):0<=AI v O:=by
 induction O with
 | nil=>simp[AI]
 | cons a r ih=>have:=TR v a;simp only[AI];omega
theorem K8(v:Vm)(hj:j<O.length):AI v (O.take (j+1))=AI v (O.take j)+v.osz O[j]:=by
 rw[List.take_add_one,ω hj,M7];simp[AI]
theorem Q1(v:Vm)(O:List Int)(h:i<=j):AI v (O.take i)<=AI v (O.take j):=by
 have e:O.take j=O.take i++(O.take j).drop i:=by
  grind [ξH,Nat.min_eq_left]
 rw[e,M7];have:=GH v ((O.take j).drop i);omega
theorem SI(v:Vm)(O:List Int)(j:Nat):AI v (O.take j)<=AI v O:=by
 have:=GH v (O.drop j)
 grind [M7,ξH]
theorem YAF(v:Vm)(P:List Int)(t:Int)(h:a∈O):BX v (O++P) t a=BX v O t a:=by
 induction O generalizing t with
 | nil=>cases h
 | cons b r ih=>
  simp only[ζr,BX]
  grind
theorem TS(v:Vm)(P:List Int)(t:Int)(h:a∉O):BX v (O++P) t a=BX v P (t+AI v O) a:=by
 induction O generalizing t with
 | nil=>simp[AI]
 | cons b r ih=>
  have hb:¬b=a:=λe=>h (by simp_all);simp only[ζr,BX,AI,φ hb]
  grind
theorem OT(v:Vm)(t:Int)(h:a∉O):BX v O t a=0:=by
 have:=TS v [] t h;rw[ξI]at this
 assumption
theorem V6(v:Vm)(hn:O.Nodup)(t:Int)(hj:j<O.length):BX v O t O[j]=t+AI v (O.take j):=by
 have e:O=O.take j++O[j] :: O.drop (j+1):=by
  simp_all
 have Y:O[j]∉O.take j:=by
  grind
 have h:=TS v (O[j] :: O.drop (j+1)) t Y;refine(congrArg (λX=>BX v X t O[j]) e).trans (h.trans ?_);rw[BX,θ rfl]
theorem UU(v:Vm)(t:Int)(h:a∈O):t<=BX v O t a/\BX v O t a+v.osz a<=t+AI v O:=by
 induction O generalizing t with
 | nil=>cases h
 | cons b r ih=>
  have h1:=GH v r;have h2:=TR v b;simp only[BX,AI]
  grind
def CN(O:List Int)(a:Int):List Int:=if a=0\/a∈O then O else O++[a]
def DL(O l:List Int):List Int:=l.foldl CN O
theorem V2(O:List Int)(a:Int):∃X,CN O a=O++X:=by
 unfold CN
 split
 ·simp_all
 simp_all
theorem WC(O l:List Int):∃X,DL O l=O++X:=by
 induction l generalizing O with
 | nil=>exact⟨[],(ξI _).symm⟩
 | cons a r ih=>
  obtain⟨X,hX⟩:=V2 O a;obtain⟨Y,hY⟩:=ih (CN O a);exact⟨X++Y,by show DL (CN O a) r=_;simp_all⟩
theorem UI(O l:List Int)(a:Int):DL O (l++[a])=CN (DL O l) a:=by unfold DL;simp_all
theorem NK{b:Int}:b∈CN O a↔b∈O\/(b=a/\a≠0):=by
 unfold CN
 grind
theorem R7{l:List Int}{b:Int}:b∈DL O l↔b∈O\/(b∈l/\b≠0):=by
 induction l generalizing O with
 | nil=>simp[DL]
 | cons a r ih=>
  show b∈DL (CN O a) r↔_
  grind [NK]
theorem TT(h:O.Nodup)(a:Int):(CN O a).Nodup:=by
 unfold CN
 grind
theorem ZT(h:O.Nodup)(l:List Int):(DL O l).Nodup:=by
 induction l generalizing O with
 | nil=>exact h
 | cons a r ih=>exact ih (TT h a)
def DP(v:Vm)(a:Int):List Int:=(List.range (v.rdH a).p.toNat).map λi:Nat=>(v.ldV (a+1+i):Int)
theorem TI(v:Vm)(a:Int):(DP v a).length=(v.rdH a).p.toNat:=by unfold DP;simp
theorem XE(v:Vm)(a:Int)(hi:i<(DP v a).length):(DP v a)[i]=(v.ldV (a+1+i):Int):=by simp only[DP,List.getElem_map,List.getElem_range]
def AR(v:Vm)(rs:List Int):Nat->List Int
 | 0=>DL [] rs
 | k+1=>if k<(AR v rs k).length then DL (AR v rs k) (DP v ((AR v rs k).getD k 0))else AR v rs k
theorem Zh5(v:Vm)(rs:List Int)(k:Nat):(AR v rs k).Nodup:=by
 induction k with
 | zero=>exact ZT ξN _
 | succ k ih=>unfold AR;grind [ZT]
structure BS(v v':Vm):Prop where
 n:v'.n=v.n
 pt:v'.pt=v.pt
 pg:v'.pl.pg=v.pl.pg
 rm:v'.pl.rm=v.pl.rm
theorem BS.refl(v:Vm):BS v v:=⟨rfl,rfl,rfl,rfl⟩
theorem BS.trans{a b c:Vm}(h:BS a b)(k:BS b c):BS a c:=⟨k.n.trans h.n,k.pt.trans h.pt,k.pg.trans h.pg,k.rm.trans h.rm⟩
theorem BS.st(v:Vm)(a:Int)(x:Nat):BS v (v.st a x):=by
 unfold Vm.st
 split
 ·exact⟨rfl,rfl,rfl,rfl⟩
 ·exact BS.refl v
theorem BS.ldE(h:BS v v')(a:Int):v'.ldE a=v.ldE a:=by unfold Vm.ldE;rw[h.n,h.pt,h.pg]
def cpV(u:Vm)(a t:Int):Nat->Vm
 | 0=>u
 | m+1=>(cpV u a t m).st (t+m) (u.ldV (a+m))
theorem VS(u:Vm)(a t:Int)(n:Nat):BS u (cpV u a t n):=by
 induction n with
 | zero=>exact BS.refl u
 | succ m ih=>exact ih.trans (BS.st _ _ _)
theorem Y4(h:AE u)(a t:Int)(n:Nat):AE (cpV u a t n):=by
 induction n with
 | zero=>exact h
 | succ m ih=>exact ih.st _ (h.ldV_lt _)
theorem Yrt(h:AE u)(a t:Int)(hm:∀m:Nat,m<n->u.ldE (t+m)=0)(b:Int):(cpV u a t n).ldV b=if t<=b/\b<t+n then u.ldV (a+(b-t))else u.ldV b:=by
 induction n with
 | zero=>rw[φ Ω];rfl
 | succ m ih=>
  show ((cpV u a t m).st (t+m) (u.ldV (a+m))).ldV b=_
  rw[(Y4 h a t m).st_ldV _ (by rw[(VS u a t m).ldE];simp_all),ih (λj hj=>hm j Ω)]
  grind
structure DM(v:Vm)(rs:List Int)(L:List Ob)(to:Nat):Prop where
 ok:AE v
 mks:BK v rs v.n L
 pos:0<to
 ap:∀o∈L,o.1+o.2<=to\/to+sizes L<=o.1
 map:∀a:Nat,to<=a->a<to+sizes L->v.ldE a=0
 top:to+sizes L<=v.n
def Trn(v:Vm)(O:List Int)(k i j m:Nat):Prop:=1<=m/\((j<k/\(m:Int)<=(v.rdH (O.getD j 0)).p)\/(j=k/\m<=i))
structure Cpd(v v':Vm)(to:Nat)(O:List Int)(k i:Nat):Prop where
 ok:AE v'
 sm:BS v v'
 o:∀a:Int,¬(to<=a/\a<to+AI v O)->v'.ldV a=v.ldV a
 raw:∀j (hj:j<O.length) (m:Nat),(m:Int)<v.osz O[j]->¬Trn v O k i j m->v'.ldV (to+AI v (O.take j)+m)=v.ldV (O[j]+m)
 trn:∀j (hj:j<O.length) (m:Nat),(m:Int)<v.osz O[j]->Trn v O k i j m->(v'.ldV (to+AI v (O.take j)+m):Int)=BX v O to (v.ldV (O[j]+m))
theorem Cpd.nil(h:AE v)(to:Nat):Cpd v v to [] 0 0:=⟨h,BS.refl v,λ_ _=>rfl,λ_ h=>absurd h (ζC _),λ_ h=>absurd h (ζC _)⟩
theorem QN(h:v.rdE a=0):0<=(v.rdH a).p/\(v.rdH a).p<v.osz a:=by
 obtain⟨-,-,p,f,k,e,hs⟩:=F5 h;unfold Vm.osz;rw[e,show CE ⟨p,f,k⟩=1+(p:Int)+f+k from θ (EQ hs)]
 grind
theorem XaN(hz:∀o∈L,(o.2:Int)=v.osz o.1)(hn:O.Nodup)(h:∀a∈O,Hs L a):AI v O<=sizes L:=by
 induction L generalizing O with
 | nil=>
  cases O with
  | nil=>exact ψi _
  | cons a r=>obtain⟨o,ho,-⟩:=h a (ζh ..);cases ho
 | cons o r ih=>
  have h1:=ih (λq hq=>hz q (ζl _ hq)) (hn.erase (o.1:Int)) (λa ha=>by
   have hm:=(hn.mem_erase_iff).1 ha;obtain⟨q,hq,e⟩:=h a hm.2;rcases ζD.1 hq with rfl|hq
   ·omega
   ·exact⟨q,hq,e⟩)
  have h2:AI v O<=AI v (O.erase (o.1:Int))+v.osz o.1:=by
   clear ih h1 h hn
   induction O with
   | nil=>grind
   | cons a s ih=>
    rw[List.erase_cons];by_cases e:a=(o.1:Int)
    ·rw[θ (by simpa using e),e];simp only[AI];omega
    ·rw[φ (by simpa using e)];simp only[AI];omega
  have h3:=hz o (ζh ..);simp only[sizes];omega
theorem VJ9(hz:∀o∈L,(o.2:Int)=v.osz o.1)(hp:L.Pairwise (λo q=>o.1<q.1))(h:∀o∈L,(o.1:Int)∈O):(sizes L:Int)<=AI v O:=by
 induction L generalizing O with
 | nil=>exact GH v O
 | cons o r ih=>
  have h1:=ih (O:=O.erase (o.1:Int)) (λq hq=>hz q (ζl _ hq)) (ξd.1 hp).2 (λq hq=>by
   have:=(ξd.1 hp).1 q hq
   grind)
  have h2:AI v (O.erase (o.1:Int))+v.osz o.1<=AI v O:=by
   have hm:=h o (ζh ..);clear ih h1 h hp
   induction O with
   | nil=>cases hm
   | cons a s ih=>
    rw[List.erase_cons];by_cases e:a=(o.1:Int)
    ·rw[θ (by simpa using e),e];simp only[AI];omega
    ·have:=ih ((ζD.1 hm).resolve_left (λe'=>e e'.symm));rw[φ (by simpa using e)];simp only[AI];omega
  have h3:=hz o (ζh ..);simp only[sizes];omega
theorem JZ{i:Int}(h:v.ptE a i=0):v.ptV a i=v.ldV (a+1+i)/\v.ldV (a+1+i)<=2147483647/\v.ldE (a+1+i)=0/\v.plE a i 1=0:=by
 have e1:v.ptV a i=v.gtV a i 1:=θ h;unfold Vm.ptE at h
 split at h
 ·omega
 ·rename_i hg;have hg:=ξT.1 hg
  split at h
  ·cases h
  ·rename_i hm;unfold Vm.gtE at hg
   split at hg
   ·omega
   ·rename_i hp;have e2:v.gtV a i 1=v.ldV (a+1+i):=φ hp;omega
theorem QP{h:Hdr}{i:Int}(h0:0<=i)(h1:i<h.p)(h2:h.p<CE h):BO h i=1:=by
 unfold BO;omega
theorem Xm6(hr:v.rdE a=0)(hi:(i:Int)<(v.rdH a).p)(hl:v.ldE (a+1+i)=0)(hv:v.ldV (a+1+i)<=2147483647):v.ptE a i=0/\v.plE a i 1=0:=by
 have hk:v.plE a i 1=0:=by
  unfold Vm.plE;rw[φ Ω,θ (QP Ω hi (QN hr).2)]
 refine⟨?_,hk⟩;have hg:v.gtE a i 1=0:=by unfold Vm.gtE;omega
 unfold Vm.ptE;rw[φ Ω];have e2:v.gtV a i 1=v.ldV (a+1+i):=φ Ω;omega
def FV(v:Vm)(L:List Ob):Prop:=∀o∈L,∀m:Nat,m<o.2->v.ldE (o.1+m)=0
section
variable{to:Nat}
theorem DM.ob(c:DM v rs L to)(ha:Rch v rs a):∃o∈L,(o.1:Int)=a/\(o.2:Int)=v.osz a:=by
 obtain⟨o,ho,rfl⟩:=c.mks.all a ha;exact⟨o,ho,rfl,(c.mks.mkd.ats o ho).2.2⟩
theorem DM.sum(c:DM v rs L to)(hn:O.Nodup)(hR:∀a∈O,Rch v rs a):AI v O<=sizes L:=
 XaN (λo ho=>(c.mks.mkd.ats o ho).2.2) hn (λa ha=>c.mks.all a (hR a ha))
theorem DM.same(c:DM v rs L to)(hf:FV v L)(hn:O.Nodup)(hR:∀a∈O,Rch v rs a)(h:Cpd v v' to O k i)(ha:Rch v rs a):
  0<a/\v'.rdE a=0/\v'.rdH a=v.rdH a/\∀m:Nat,(m:Int)<v.osz a->v'.ldE (a+m)=0/\v'.ldV (a+m)=v.ldV (a+m):=by
 obtain⟨o,ho,rfl,hz⟩:=c.ob ha;have hs:=c.sum hn hR;have hap:=c.ap o ho;have X:=c.mks.sound.rd _ ha;have hp:=DH X
 have hm:∀m:Nat,(m:Int)<v.osz o.1->v'.ldE (o.1+m)=0/\v'.ldV (o.1+m)=v.ldV (o.1+m):=λm hm=>
  ⟨by rw[h.sm.ldE];exact hf o ho m Ω,h.o _ Ω⟩
 have h0:=hm 0 Ω;rw[show (o.1:Int)+(0:Nat)=o.1 by omega]at h0;refine⟨hp.1,?_,?_,hm⟩
 ·unfold Vm.rdE at X⊢
  grind
 ·unfold Vm.rdH;rw[h0.2,h.sm.ldE]
theorem Trn.ext{X:List Int}(hj:j<O.length):Trn v (O++X) k i j m↔Trn v O k i j m:=by
 unfold Trn
 grind
theorem ZE(v:Vm){j':Nat}(hj:j<O.length)(hj':j' < O.length)(hm:(m:Int)<v.osz O[j])(hm':(m':Int)<v.osz O[j'])(h:AI v (O.take j)+m=AI v (O.take j')+m'):j=j'/\m=m':=by
 rcases ζS j j' with h1|rfl|h1
 ·have e:=K8 v hj;have:=Q1 v O (i:=j+1) (j:=j') Ω;omega
 ·omega
 ·have e:=K8 v hj';have:=Q1 v O (i:=j' + 1) (j:=j) Ω;omega
theorem place_lt(v:Vm)(hj:j<O.length)(hm:(m:Int)<v.osz O[j]):AI v (O.take j)+m<AI v O:=by
 have e:=K8 v hj;have:=SI v O (j+1);omega
def LF(v:Vm)(O:List Int)(k i:Nat):Prop:=∀j (hj:j<O.length) (m:Nat),(m:Int)<v.osz O[j]->Trn v O k i j m->(v.ldV (O[j]+m):Int)=0\/(v.ldV (O[j]+m):Int)∈O
theorem Vqd(v:Vm)(X:List Int)(t:Int)(h0:(0:Int)∉O++X)(h:a=0\/a∈O):BX v (O++X) t a=BX v O t a:=by
 grind [OT,ζx,YAF]
theorem Cpd.take(c:DM v rs L to)(hf:FV v L)(hn:O.Nodup)(hR:∀a∈O,Rch v rs a)(h:Cpd v v' to O k i)(hK:LF v O k i)(hk:k<O.length\/(k=O.length/\i=0))(ha:Rch v rs a)(hna:a∉O)(z:Nat)(hz:(z:Int)=v.osz a):
  (∀m:Nat,m<z->v'.ldE (to+AI v O+m)=0)/\(to:Int)+AI v O+z<=v.n/\Cpd v (cpV v' a (to+AI v O) z) to (O++[a]) k i/\LF v (O++[a]) k i:=by
 have V:(O++[a]).Nodup:=by
  rw[ζ0];exact⟨hn,by simp,λx hx y hy e=>hna (by rw[ζO]at hy;rw[<-hy,<-e];exact hx)⟩
 have Z:∀b∈O++[a],Rch v rs b:=λb hb=>by
  rcases ζg.1 hb with hb|hb
  ·exact hR b hb
  ·rw[ζO]at hb;rw[hb];exact ha
 have hs:=c.sum V Z;have h0s:=GH v O;have hsa:AI v (O++[a])=AI v O+v.osz a:=by rw[M7];simp[AI]
 have J:∀m:Nat,m<z->v'.ldE (to+AI v O+m)=0:=λm hm=>by
  rw[h.sm.ldE];have:=c.map (to+(AI v O).toNat+m) Ω Ω;rw[<-this];congr 1;omega
 have htop:=c.top;have U:=(c.same hf hn hR h ha).2.2.2
 have M:(0:Int)∉O++[a]:=λhm=>by
  have:=(DH (c.mks.sound.rd _ (Z 0 hm))).1;omega
 have Y:=Yrt h.ok a (to+AI v O) J;refine⟨J,by omega,⟨Y4 h.ok _ _ _,h.sm.trans (VS _ _ _ _),λb hb=>?_,λj hj m hm hT=>?_,λj hj m hm hT=>?_⟩,λj hj m hm hT=>?_⟩
 ·rw[Y,φ Ω];exact h.o b Ω
 ·rw[ζo,ξh]at hj;rcases δ j O.length with X|X
  ·simp only[ζE X]at hm⊢;have hl:=place_lt v X hm;have e1:(O++[a]).take j=O.take j:=by rw[ξP Ω]
   rw[e1,Y,φ Ω];exact h.raw j X m hm (λht=>hT ((Trn.ext X).2 ht))
  ·obtain rfl:j=O.length:=Ω
   have e2:(O++[a])[O.length]'(by simp)=a:=by simp
   rw[e2]at hm;have e1:(O++[a]).take O.length=O:=by rw[ξP (ϑ _),ζ8]
   rw[e1,Y,θ Ω,e2,show a+((to:Int)+AI v O+m-(to+AI v O))=a+m by omega];exact(U m hm).2
 ·rcases δ j O.length with X|X
  ·simp only[ζE X]at hm⊢;have hl:=place_lt v X hm;have e1:(O++[a]).take j=O.take j:=by rw[ξP Ω]
   have ht:=(Trn.ext (i:=i) (m:=m) X).1 hT;rw[e1,Y,φ Ω,h.trn j X m hm ht];exact(Vqd v [a] to M (hK j X m hm ht)).symm
  ·obtain⟨h1,h2|h2⟩:=hT <;> omega
 ·rcases δ j O.length with X|X
  ·simp only[ζE X]at hm⊢;exact(hK j X m hm ((Trn.ext X).1 hT)).imp id (λh=>ζx _ h)
  ·obtain⟨h1,h2|h2⟩:=hT <;> omega
theorem Cpd.copy(c:DM v rs L to)(hn:O.Nodup)(hR:∀a∈O,Rch v rs a)(h:Cpd v v' to O k i)(hj:j<O.length){t:Int}(ht:t=to+AI v (O.take j)):
  v'.rdE t=0/\v'.rdH t=v.rdH O[j]/\(j=k->∀m:Nat,i<=m->(m:Int)<(v.rdH O[j]).p->v'.ptE t m=0/\v'.ptV t m=v.ldV (O[j]+1+m)) ∧
   ∀m:Nat,(m:Int)<(v.rdH O[j]).p->v'.plE t m 1=0/\v'.ldE (t+1+m)=0:=by
 have ha:=hR _ (μ hj);have X:=c.mks.sound.rd _ ha;have hp:=DH X;have V:=QN X;have hs:=c.sum hn hR;have h0:=GH v (O.take j);have hpos:=c.pos
 have Y:∀m:Nat,(m:Int)<v.osz O[j]->v'.ldE (t+m)=0:=λm hm=>by
  rw[h.sm.ldE];have hl:=place_lt v hj hm;have:=c.map (to+(AI v (O.take j)).toNat+m) Ω Ω;rw[<-this];congr 1;omega
 have J:=h.raw j hj 0 Ω (λhT=>absurd hT.1 Ω);have Z:=Y 0 Ω;rw[show t+(0:Nat)=t by omega]at Z;rw[show (to:Int)+AI v (O.take j)+(0:Nat)=t by omega,show O[j]+(0:Nat)=O[j]by omega]at J
 have hE:v'.rdE t=0:=by
  have h1:=X;unfold Vm.rdE at h1⊢;rw[φ Ω,φ Ω,θ Z,J];rw[φ Ω,φ Ω]at h1
  split at h1
  ·exact h1
  ·rename_i hx;exact absurd h1 hx
 have hH:v'.rdH t=v.rdH O[j]:=by
  have h1:=(F5 X).2.1;unfold Vm.rdH;rw[θ ⟨by omega,Z⟩,θ ⟨by omega,h1⟩,J]
 refine⟨hE,hH,λhjk m hm1 hm2=>?_,λm hm=>?_⟩
 ·have U:((m+1:Nat):Int)<v.osz O[j]:=Ω
  have hr:=h.raw j hj (m+1) U (λhT=>by
   obtain⟨-,h2|h2⟩:=hT <;> omega)
  have hl:=Y (m+1) U;rw[show (to:Int)+AI v (O.take j)+(m+1:Nat)=t+1+m by omega,show O[j]+(m+1:Nat)=O[j]+1+m by omega]at hr;rw[show t+((m+1:Nat):Int)=t+1+m by omega]at hl;have M:=JZ (c.mks.sound.pt _ ha m hm2);have:=Xm6 (v:=v') (a:=t) (i:=m) hE (by rw[hH];exact hm2) hl (by rw[hr];exact M.2.1);refine⟨this.1,?_⟩;rw[(JZ this.1).1,hr]
 ·have hl:=Y (m+1) Ω;rw[show t+((m+1:Nat):Int)=t+1+m by omega]at hl;refine⟨?_,hl⟩;unfold Vm.plE;rw[φ Ω,hH,θ (QP Ω hm V.2)]
theorem Cpd.set(c:DM v rs L to)(hn:O.Nodup)(hR:∀a∈O,Rch v rs a)(h:Cpd v v' to O k i)(hK:LF v O k i)(hk:k<O.length){t:Int}(ht:t=to+AI v (O.take k))(hi:(i:Int)<(v.rdH O[k]).p)
  (hx:(v.ldV (O[k]+1+i):Int)=0\/(v.ldV (O[k]+1+i):Int)∈O)  (hxx:(x:Int)=BX v O to (v.ldV (O[k]+1+i))) (hx2:x<18446744073709551616):
  Cpd v (v'.st (t+1+i) x) to O k (i+1)/\LF v O k (i+1):=by
 have ha:=hR _ (μ hk);have Z:=c.mks.sound.rd _ ha;have hpp:=QN Z;have h0:=GH v (O.take k);have hl:=((Cpd.copy c hn hR h hk ht).2.2.2 i hi).2;have X:=h.ok.st_ldV x hl;have hpl:=place_lt v hk (m:=i+1) Ω
 have hT:∀j m:Nat,Trn v O k (i+1) j m↔Trn v O k i j m\/(j=k/\m=i+1):=λj m=>by
  constructor
  ·rintro⟨h1,h2|h2⟩
   ·exact .inl ⟨h1,.inl h2⟩
   ·rcases δ i m with h3|h3
    ·exact .inr Ω
    ·exact .inl ⟨h1,.inr Ω⟩
  ·rintro(⟨h1,h2|h2⟩|⟨h1,h2⟩)
   ·exact⟨h1,.inl h2⟩
   ·exact⟨h1,.inr Ω⟩
   ·exact⟨by omega,.inr Ω⟩
 refine⟨⟨h.ok.st _ hx2,h.sm.trans (BS.st _ _ _),λb hb=>?_,λj hj m hm hnT=>?_,λj hj m hm hTT=>?_⟩,λj hj m hm hTT=>?_⟩
 ·rw[X,φ Ω];exact h.o b hb
 ·have Y:¬(j=k/\m=i+1):=λe=>hnT ((hT j m).2 (.inr e));rw[X,φ (λe=>Y (ZE v hj hk hm (m':=i+1) Ω Ω))];exact h.raw j hj m hm (λh'=>hnT ((hT j m).2 (.inl h')))
 ·by_cases e:j=k/\m=i+1
  ·obtain⟨rfl,rfl⟩:=e;rw[X,θ Ω,show O[j]+((i+1:Nat):Int)=O[j]+1+i by omega];exact hxx
  ·rw[X,φ (λe'=>e (ZE v hj hk hm (m':=i+1) Ω Ω))];exact h.trn j hj m hm (((hT j m).1 hTT).resolve_right e)
 ·by_cases e:j=k/\m=i+1
  ·obtain⟨rfl,rfl⟩:=e;rw[show O[j]+((i+1:Nat):Int)=O[j]+1+i by omega];exact hx
  ·exact hK j hj m hm (((hT j m).1 hTT).resolve_right e)
theorem U9(hk:k<O.length)(hi:(i:Int)=(v.rdH O[k]).p)(j m:Nat):Trn v O (k+1) 0 j m↔Trn v O k i j m:=by
 have e:O.getD k 0=O[k]:=by simp_all
 constructor
 ·rintro⟨h1,h2|h2⟩
  ·rcases δ j k with h3|h3
   ·exact⟨h1,.inl ⟨h3,h2.2⟩⟩
   ·obtain rfl:j=k:=Ω
    rw[e]at h2;exact⟨h1,.inr ⟨rfl,by omega⟩⟩
  ·omega
 ·rintro⟨h1,h2|h2⟩
  ·exact⟨h1,.inl ⟨by omega,h2.2⟩⟩
  ·obtain⟨rfl,h3⟩:=h2;exact⟨h1,.inl ⟨by omega,by rw[e];omega⟩⟩
theorem Cpd.next(h:Cpd v v' to O k i)(hK:LF v O k i)(hk:k<O.length)(hi:(i:Int)=(v.rdH O[k]).p):Cpd v v' to O (k+1) 0/\LF v O (k+1) 0:=
 ⟨⟨h.ok,h.sm,h.o,λj hj m hm hT=>h.raw j hj m hm (λh'=>hT ((U9 hk hi j m).2 h')),λj hj m hm hT=>h.trn j hj m hm ((U9 hk hi j m).1 hT)⟩,λj hj m hm hT=>hK j hj m hm ((U9 hk hi j m).1 hT)⟩
theorem VqB(hR:∀a∈O,Rch v rs a){l:List Int}(hl:∀a∈l,a≠0->Rch v rs a):∀a∈DL O l,Rch v rs a:=λa ha=>by
 rcases R7.1 ha with h|⟨h,h0⟩
 ·exact hR a h
 simp_all
theorem JKk(c:DM v rs L to){b:Int}(hb:Rch v rs b):∀a∈DP v b,a≠0->Rch v rs a:=λa ha h0=>by
 obtain⟨i,hi,rfl⟩:=ζm ha;rw[XE]at h0⊢;rw[TI]at hi;have Y:=c.mks.sound.rd _ hb;have X:=c.mks.sound.pt _ hb i Ω;have he:=JZ X;exact hb.step ⟨Y,i,by omega,X,by omega,by rw[he.1]⟩
theorem V16(c:DM v rs L to)(k:Nat):∀a∈AR v rs k,Rch v rs a:=by
 induction k with
 | zero=>exact VqB (λa h=>by cases h) (λa ha h0=>Rch.root ha h0)
 | succ k ih=>
  unfold AR
  grind [VqB,JKk,ω,μ]
theorem VE(v:Vm)(rs:List Int)(k:Nat):∃X,AR v rs (k+1)=AR v rs k++X:=by
 show ∃X,(if k<(AR v rs k).length then DL (AR v rs k) (DP v ((AR v rs k).getD k 0))else AR v rs k)=AR v rs k++X
 split
 ·exact WC _ _
 simp_all
theorem YFK(v:Vm)(rs:List Int)(k:Nat):∀j,j<k->∀(hj:j<(AR v rs k).length),∀b∈DP v (AR v rs k)[j],b≠0->b∈AR v rs k:=by
 induction k with
 | zero=>omega
 | succ k ih=>
  intro j hjk hj b hb h0;by_cases hlt:k<(AR v rs k).length
  ·have e:AR v rs (k+1)=DL (AR v rs k) (DP v ((AR v rs k).getD k 0)):=by
    show (if _ then _ else _)=_
    simp_all
   obtain⟨X,hX⟩:=WC (AR v rs k) (DP v ((AR v rs k).getD k 0));have hjl:j<(AR v rs k).length:=Ω
   have e1:(AR v rs (k+1))[j]=(AR v rs k)[j]:=by
    simp_all
   rw[e1]at hb;rw[e];rcases δ j k with h1|h1
   ·grind
   ·obtain rfl:j=k:=Ω
    refine R7.2 (.inr ⟨?_,h0⟩)
    simp_all
  ·have e:AR v rs (k+1)=AR v rs k:=by
    show (if _ then _ else _)=_
    grind
   grind
theorem Zqu(v:Vm)(rs:List Int)(k:Nat):∀r∈rs,r≠0->r∈AR v rs k:=by
 induction k with
 | zero=>exact λr hr h0=>R7.2 (.inr ⟨hr,h0⟩)
 | succ k ih=>
  intro r hr h0;obtain⟨X,hX⟩:=VE v rs k
  simp_all
theorem DM.done(c:DM v rs L to)(hk:k=(AR v rs k).length):(∀a,Rch v rs a->a∈AR v rs k)/\AI v (AR v rs k)=sizes L:=by
 have X:∀a,Rch v rs a->a∈AR v rs k:=λa ha=>by
  refine(ha (λb=>b∈AR v rs k/\Rch v rs b) (λr hr h0=>⟨Zqu v rs k r hr h0,Rch.root hr h0⟩) ?_).1;rintro x y ⟨hx,Y⟩ hp;refine⟨?_,Y.step hp⟩;obtain⟨-,i,hi,h0,h1,rfl⟩:=hp;obtain⟨j,hj,rfl⟩:=ζm hx;have he:=JZ h0;have hpp:=QN (c.mks.sound.rd _ Y);refine YFK v rs k j Ω hj _ ?_ Ω;rw[he.1];have Z:i<(DP v (AR v rs k)[j]).length:=by rw[TI];omega
  rw[<-XE v _ Z]
  grind
 refine⟨X,?_⟩;have h1:=c.sum (Zh5 v rs k) (V16 c k);have h2:=VJ9 (v:=v) (λo ho=>(c.mks.mkd.ats o ho).2.2) c.mks.mkd.good.lt (O:=AR v rs k) (λo ho=>X _ (c.mks.mkd.ats o ho).1);omega
end
structure I4(v v':Vm):Prop where
 n:v'.n=v.n
 le:∀a:Int,v.ldE a=0->v'.ldE a=0/\v'.ldV a=v.ldV a
theorem BY.wider{F:List Nat}(h:BY v v' F)(hv:AE v):I4 v v':=by
 refine⟨h.n,λa ha=>?_⟩;obtain⟨h0,h1⟩:=J9 ha;obtain⟨j,rfl⟩:∃j:Nat,a=j:=⟨a.toNat,by omega⟩;have hj:j<v.n:=Ω
 have hn:¬j/v.pl.pg∈F:=λhm=>by
  rw[hv.ldE_of hj,θ (h.un _ hm).2]at ha;cases ha
 rw[h.ldE hv hj,h.vl j hj,φ hn,φ hn];omega
theorem I4.rd(h:I4 v v')(hr:v.rdE a=0):v'.rdE a=0/\v'.rdH a=v.rdH a:=by
 obtain⟨h0,h1,-⟩:=F5 hr;obtain⟨e1,e2⟩:=h.le a h1;unfold Vm.rdE at hr⊢;rw[φ Ω,φ Ω,θ h1]at hr;refine⟨by grind,?_⟩;unfold Vm.rdH
 simp_all
theorem I4.pt(h:I4 v v')(hr:v.rdE a=0)(hi:(i:Int)<(v.rdH a).p)(hp:v.ptE a i=0):v'.ptE a i=0/\v'.ptV a i=v.ptV a i:=by
 obtain⟨e1,e2⟩:=h.rd hr;have X:=JZ hp;obtain⟨e3,e4⟩:=h.le _ X.2.2.1;have:=Xm6 (v:=v') (a:=a) (i:=i) e1 (by simp_all) e3 Ω;exact⟨this.1,by rw[(JZ this.1).1,X.1,e4]⟩
theorem I4.rch(h:I4 v v')(hS:CH v rs n)(a:Int):Rch v' rs a↔Rch v rs a:=by
 constructor
 ·intro ha;refine ha (λb=>Rch v rs b) (λr hr h0=>Rch.root hr h0) ?_;rintro b c hb ⟨-,i,hi,h0,h1,rfl⟩;have X:=hS.rd b hb;rw[(h.rd X).2]at hi;have hp:=h.pt X hi (hS.pt b hb i hi);rw[hp.2]at h1⊢;exact hb.step ⟨X,i,hi,hS.pt b hb i hi,h1,rfl⟩
 ·intro ha;refine(ha (λb=>Rch v' rs b/\Rch v rs b) (λr hr h0=>⟨Rch.root hr h0,Rch.root hr h0⟩) ?_).1;rintro b c ⟨hb,Y⟩ hp;refine⟨?_,Y.step hp⟩;obtain⟨X,i,hi,h0,h1,rfl⟩:=hp;have hp:=h.pt X hi h0;rw[<-hp.2];exact hb.step ⟨(h.rd X).1,i,by rw[(h.rd X).2];exact hi,hp.1,by omega,rfl⟩
theorem I4.marks(h:I4 v v')(hM:BK v rs n L):BK v' rs n L:=by
 have hS:=hM.sound;refine⟨⟨hM.mkd.good,λo ho=>?_⟩,λa ha=>hM.all a ((h.rch hS a).1 ha),λo ho i hi=>?_⟩
 ·obtain⟨h1,h2,h3⟩:=hM.mkd.ats o ho;obtain⟨e1,e2⟩:=h.rd h2;exact⟨(h.rch hS _).2 h1,e1,by rw[h3];unfold Vm.osz;rw[e2]⟩
 ·obtain⟨h1,h2,-⟩:=hM.mkd.ats o ho;rw[(h.rd h2).2]at hi;obtain⟨c1,c2⟩:=hM.cl o ho i hi;have hp:=h.pt h2 hi c1
  simp_all
def umN(v:Vm)(q0:Nat):Nat->Vm
 | 0=>v
 | k+1=>(umN v q0 k).um ((q0+k:Nat):Int)
theorem ZH(v:Vm)(p:Int):(v.um p).n=v.n/\(v.um p).pl.pg=v.pl.pg/\(v.um p).pl.rm=v.pl.rm/\(v.um p).pt.length=v.pt.length:=by
 unfold Vm.um
 split
 ·exact⟨rfl,rfl,rfl,η⟩
 omega
theorem LY(v:Vm)(q0 k:Nat):(umN v q0 k).n=v.n/\(umN v q0 k).pl.pg=v.pl.pg/\(umN v q0 k).pl.rm=v.pl.rm/\(umN v q0 k).pt.length=v.pt.length:=by
 induction k with
 | zero=>exact⟨rfl,rfl,rfl,rfl⟩
 | succ k ih=>
  obtain⟨h1,h2,h3,h4⟩:=ZH (umN v q0 k) ((q0+k:Nat):Int);exact⟨h1.trans ih.1,h2.trans ih.2.1,h3.trans ih.2.2.1,h4.trans ih.2.2.2⟩
theorem PW(h:AE v)(q0 k:Nat):AE (umN v q0 k):=by
 induction k with
 | zero=>exact h
 | succ k ih=>exact ih.um _
theorem VU(h:AE v)(q0 k:Nat){a:Nat}(ha:a<v.n):(umN v q0 k).ldE a=if q0<=a/v.pl.pg/\a/v.pl.pg<q0+k then 12 else v.ldE a:=by
 induction k with
 | zero=>rw[φ Ω];rfl
 | succ k ih=>
  obtain⟨s1,s2,-,s4⟩:=LY v q0 k;have X:=PW h q0 k
  show ((umN v q0 k).um ((q0+k:Nat):Int)).ldE a=_
  by_cases hf:frE (umN v q0 k).pt ((q0+k:Nat):Int)=0
  ·rw[X.um_ldE hf Ω,s2,ih];omega
  ·rw[QK hf];by_cases e:a/v.pl.pg=q0+k
   ·have h1:=X.ldE_of (a:=a) Ω;rw[s2,e]at h1;have hl:q0+k<(umN v q0 k).pt.length:=by rw[s4,<-e];exact(h.split ha).1
    rw[L9 hl]at hf;omega
   omega
theorem VIn(h:AE v)(q0 k:Nat){a:Nat}(ha:a<v.n)(hn:¬(q0<=a/v.pl.pg/\a/v.pl.pg<q0+k)):(umN v q0 k).ldV a=v.ldV a:=by
 induction k with
 | zero=>rfl
 | succ k ih=>
  obtain⟨s1,s2,-,-⟩:=LY v q0 k;have X:=PW h q0 k
  show ((umN v q0 k).um ((q0+k:Nat):Int)).ldV a=_
  by_cases hf:frE (umN v q0 k).pt ((q0+k:Nat):Int)=0
  ·rw[X.um_ldV hf Ω (by grind)];omega
  grind [QK]
open Classical in
theorem CH.ex(hS:CH v rs n):∃L,BK v rs n L:=by
 have V:∀a,Rch v rs a->∃j:Nat,j<n/\(j:Int)=a:=λa ha=>by
  have h1:=hS.rm a ha;have h2:=DH (hS.rd a ha);exact⟨a.toNat,by omega,by omega⟩
 obtain⟨M,hM⟩:∃M,M=((List.range n).filter (λj=>decide (Rch v rs ((j:Nat):Int)))).map (λj=>(j,(v.osz ((j:Nat):Int)).toNat)):=⟨_,rfl⟩
 have X:∀o∈M,∃j:Nat,j<n/\Rch v rs (j:Int)/\o=(j,(v.osz ((j:Nat):Int)).toNat):=λo ho=>by
  rw[hM]at ho;obtain⟨j,hj,rfl⟩:=ξx.1 ho;obtain⟨h1,h2⟩:=ψb.1 hj;exact⟨j,ξj.1 h1,of_decide_eq_true h2,rfl⟩
 have U:∀a,Rch v rs a->Hs M a:=λa ha=>by
  obtain⟨j,hj,rfl⟩:=V a ha;exact⟨(j,(v.osz ((j:Nat):Int)).toNat),by rw[hM];exact ξx.2 ⟨j,ψb.2 ⟨ξj.2 hj,ξ ha⟩,rfl⟩,rfl⟩
 refine⟨M,⟨⟨⟨?_,λo ho=>?_⟩,λo ho=>?_⟩,U,λo ho=>?_⟩⟩
 ·rw[hM,ψf];refine ξZ ?_ (List.Pairwise.filter _ List.pairwise_lt_range);intro i j hi hj hij;have Y:=of_decide_eq_true (ψb.1 hi).2;have Z:=of_decide_eq_true (ψb.1 hj).2;have h1:=DH (hS.rd _ Y);have h2:=DH (hS.rd _ Z);rcases hS.dj _ _ Y Z with e|e|e
  ·omega
  ·omega
  ·omega
 ·obtain⟨j,hj,hr,rfl⟩:=X o ho;have h1:=hS.rm _ hr;have h2:=DH (hS.rd _ hr);omega
 ·obtain⟨j,hj,hr,rfl⟩:=X o ho;have h2:=DH (hS.rd _ hr);exact⟨hr,hS.rd _ hr,by dsimp only;omega⟩
 ·obtain⟨j,hj,hr,rfl⟩:=X o ho;intro i hi;have J:=hS.pt _ hr i hi;exact⟨J,λh0=>U _ (hr.step ⟨hS.rd _ hr,i,hi,J,h0,rfl⟩)⟩
theorem Img.marks(h:Img v g F lo hi)(ho:g.Ok)(hn:hi<=n):∃L,BK v (g.S.map λx=>(F x:Int)) n L:=by
 have hS:=h.sound ho;exact CH.ex ⟨hS.rd,hS.pt,λa ha=>by have:=hS.rm a ha;omega,hS.dj⟩
theorem Img.full(h:Img v g F lo hi)(ho:g.Ok)(hM:BK v (g.S.map λx=>(F x:Int)) n L):FV v L:=λo hoL m hm=>by
 obtain⟨h1,h2,h3⟩:=hM.mkd.ats o hoL;obtain⟨x,hx,e⟩:=h.rch ho h1;rw[e,h.osz ho hx]at h3;have h3:o.2=(g.ob x).size:=Ω
 rw[e];rcases ζG m with rfl|hp
 ·have:=(RD (h.rd x hx)).2.1
  assumption
 ·obtain⟨i,rfl⟩:∃i,m=1+i:=⟨m-1,by omega⟩;have hi:i<(g.ob x).p+(g.ob x).f+(g.ob x).k:=by rw[h3]at hm;unfold GOb.size at hm;omega
  rcases δ i (g.ob x).p with X|X
  ·have:=(NL (h.pt x hx i X).1).2.2.1
   grind
  ·have:=(h.wd x hx i X hi).1
   grind
theorem Img.inn(h:Img v g F lo hi)(ho:g.Ok)(hM:BK v (g.S.map λx=>(F x:Int)) n L):∀o∈L,lo<=o.1/\o.1+o.2<=hi:=λo hoL=>by
 obtain⟨h1,h2,h3⟩:=hM.mkd.ats o hoL;obtain⟨x,hx,e⟩:=h.rch ho h1;rw[e,h.osz ho hx]at h3;have:=h.lo x hx;omega
def Gph.words(g:Gph):Nat:=(g.all.map λx=>(g.ob x).size).sum
theorem Img.sum(h:Img v g F lo hi)(ho:g.Ok):∀l:List Nat,(∀x∈l,g.Rd x)->AI v (l.map λx=>(F x:Int))=((l.map λx=>(g.ob x).size).sum:Nat)
 | [],_=>rfl
 | x :: l,hl=>by
  have h1:=h.sum ho l (λy hy=>hl y (ζl _ hy));simp only[ξS,AI,List.sum_cons];rw[h1,h.osz ho (hl x ζh)];omega
theorem Img.words(h:Img v g F lo hi)(ho:g.Ok)(hM:BK v (g.S.map λx=>(F x:Int)) n L):sizes L=g.words:=by
 have hz:∀o∈L,(o.2:Int)=v.osz o.1:=λo hoL=>(hM.mkd.ats o hoL).2.2;have X:∀x∈g.all,g.Rd x:=λx hx=>ho.mem_all.1 hx;have hsum:=h.sum ho g.all X
 have Z:(g.all.map λx=>(F x:Int)).Nodup:=by
  have h1:=(XU g.pts g.L.length g.S).1;rw[List.Nodup,ψf];refine ξZ ?_ h1;intro a b ha hb Y e;exact Y (h.inj (X a ha) (X b hb) Ω)
 have h1:AI v (g.all.map λx=>(F x:Int))<=sizes L:=XaN hz Z (λa ha=>by
  obtain⟨x,hx,rfl⟩:=ξx.1 ha
  exact hM.all _ (h.rch_of (X x hx)))
 have h2:(sizes L:Int)<=AI v (g.all.map λx=>(F x:Int)):=VJ9 hz (hM.mkd.good.pw.imp_of_mem (λ{a b} ha hb Y=>by have:=(hM.mkd.good.sz a ha).1;omega)) (λo hoL=>by
  obtain⟨x,hx,e⟩:=h.rch ho (hM.mkd.ats o hoL).1
  exact ξx.2 ⟨x,ho.mem_all.2 hx,e.symm⟩)
 unfold Gph.words;omega
theorem Img.nodup(h:Img v g F lo hi)(ho:g.Ok):(g.all.map λx=>(F x:Int)).Nodup:=by
 have h1:=(XU g.pts g.L.length g.S).1;rw[List.Nodup,ψf];refine ξZ ?_ h1;intro a b ha hb X e;exact X (h.inj (ho.mem_all.1 ha) (ho.mem_all.1 hb) Ω)
theorem Img.count(h:Img v g F lo hi)(ho:g.Ok)(hM:BK v (g.S.map λx=>(F x:Int)) n L):L.length=g.all.length:=by
 have hd:(L.map λo=>(o.1:Int)).Nodup:=by
  rw[List.Nodup,ψf];refine ξZ ?_ hM.mkd.good.pw;intro a b ha hb hab e;have:=(hM.mkd.good.sz a ha).1;omega
 have h1:=hd.length_le_of_subset (l₂:=g.all.map λx=>(F x:Int)) (λa ha=>by
  obtain⟨o,X,rfl⟩:=ξx.1 ha;obtain⟨x,hx,e⟩:=h.rch ho (hM.mkd.ats o X).1
  exact ξx.2 ⟨x,ho.mem_all.2 hx,e.symm⟩)
 have h2:=(h.nodup ho).length_le_of_subset (l₂:=L.map λo=>(o.1:Int)) (λa ha=>by
  obtain⟨x,hx,rfl⟩:=ξx.1 ha;obtain⟨o,X,e⟩:=hM.all _ (h.rch_of (ho.mem_all.1 hx))
  grind)
 grind
def lv(B:Nat):List Nat->Nat
 | []=>0
 | x :: xs=>x+B*lv B xs
def sgN:Nat:=9223372036854775808
def EL(a b:Nat):Bool:=if decide (sgN<=a) !=decide (sgN<=b)then decide (sgN<=a)else if sgN<=a then decide (b<a)else decide (a<b)
def Gph.sl(g:Gph)(a:Int):Bool:=decide (0<=a)&&decide (a<g.S.length)
def Gph.at(g:Gph)(a:Int):Nat:=g.S.getD a.toNat 0
def Gph.fdE(g:Gph)(a i kd:Int):Int:=
 if g.sl a then (if g.at a=0 then 18 else if BO (g.ob (g.at a)).hdr i=0 then 19 else if BO (g.ob (g.at a)).hdr i=kd then 0 else 20)else 17
def Gph.fdV(g:Gph)(a i kd:Int):Nat:=if g.fdE a i kd=0 then (g.ob (g.at a)).w.getD i.toNat 0 else 0
def Gph.setSl(g:Gph)(a:Int)(y:Nat):Gph:=⟨g.L,g.S.set a.toNat y⟩
def Gph.setFd(g:Gph)(a i:Int)(y:Nat):Gph:=g.put (g.at a) i.toNat y
def Gph.alE(C:Nat)(g:Gph)(a:Int)(h:Hdr):Int:=if g.sl a then (if CU h≠0 then 15 else if (C:Int)<g.words+CE h then 21 else 0)else 17
def Gph.alG(C:Nat)(g:Gph)(a:Int)(h:Hdr):Gph:=if g.alE C a h=0 then g.add a.toNat h.p.toNat h.f.toNat h.k.toNat else g
def Gph.two(g:Gph)(a b:Int)(e:Int):Int:=if g.sl a&&g.sl b then e else 17
def Gph.loE(g:Gph)(a b i:Int):Int:=g.two a b (g.fdE b i 1)
def Gph.loG(g:Gph)(a b i:Int):Gph:=if g.loE a b i=0 then g.setSl a (g.fdV b i 1)else g
def Gph.stE(g:Gph)(a i b:Int):Int:=g.two a b (g.fdE a i 1)
def Gph.stG(g:Gph)(a i b:Int):Gph:=if g.stE a i b=0 then g.setFd a i (g.at b)else g
def Gph.wrG(g:Gph)(a i kd:Int)(y:Nat):Gph:=if g.fdE a i kd=0 then g.setFd a i y else g
def Gph.cpG(g:Gph)(a b:Int):Gph:=if g.sl a&&g.sl b then g.setSl a (g.at b)else g
def Gph.clG(g:Gph)(a:Int):Gph:=if g.sl a then g.setSl a 0 else g
def Gph.slE(g:Gph)(a:Int):Int:=if g.sl a then 0 else 17
def Gph.shE(g:Gph)(a:Int):Int:=if g.sl a then (if g.at a=0 then 18 else 0)else 17
def Gph.shH(g:Gph)(a:Int):Hdr:=if g.shE a=0 then (g.ob (g.at a)).hdr else ⟨0,0,0⟩
open Go.ChangeShapes Go.WideShapes Go.ChangeAt
theorem ZO3:prog.cellsOf 31=1:=by kernel_rfl
theorem QmK:prog.cellsOf 3=1:=by kernel_rfl
section
variable{enc:TypeId × Value->H}{P:Program}{base:Nat}{t:TypeId}{x:DataW H × List MemPlace}
theorem VUD{k:FloatKind}(ht:P.underlying t=some (.float k))(h:DataW.trod enc P w base spare held fuel t cs=some x):∃n,cs=[.float k n]/\(Lit.float k n).wf=true:=by
 cases fuel with
 | zero=>simp[DataW.trod]at h
 | succ n=>
  unfold DataW.trod at h;rw[ht]at h
  split at h <;> simp_all
theorem J2{l:List Value}{v:Value}(h:(l.drop j).take 1=[v]):l[j]?=some v:=by
 have:((l.drop j).take 1)[0]?=some v:=by rw[h];rfl
 simpa using this
end
section
variable{enc:TypeId × Value->H}{base:Nat}{x:DataW H × List MemPlace}
end
def nbl(n B:Nat):Nat:=(n+B-1)/B
theorem QnL(hB:1<=B)(h1:n<=j*B)(h2:∀i,i<j->i*B<n):nbl n B=j:=by
 refine Nat.div_eq_of_lt_le ?_ ?_
 ·cases j with
  | zero=>simp
  | succ i=>
   have:=h2 i Ω
   grind
 grind
theorem I0(hB:1<=B):j<nbl n B↔j*B<n:=by
 unfold nbl
 grind [ξb,ξk]
structure Idx(w:World)(x p b a:Nat)(l:List Bool)(B:Nat):Prop where
 vec:BA w p b l
 b1:1<=B
 b2:B<=1024
 hx:x<w.heap.size
 ha:a<w.heap.size
 c0:w.cell? ⟨x,0,none⟩=some (pP p)
 c1:∃cap,w.cell? ⟨x,1,none⟩=some (.slice (some ⟨a,0,none⟩) (nbl l.length B) cap)
 c2:w.cell? ⟨x,2,none⟩=some (iI B)
 c3:w.cell? ⟨x,3,none⟩=some (iI (cnt (at_ l) l.length:Nat))
 ca:∀j,j<nbl l.length B->w.cell? ⟨a,j,none⟩=some (iI (cnt (at_ l) (j*B):Nat))
theorem Idx.touch{a:Nat}(h:Idx w x p b a l B)(t:AB S w w')(h1:¬S x)(h2:¬S p)(h3:¬S b)(h4:¬S a):Idx w' x p b a l B:=by
 obtain⟨X,hc⟩:=h.c1
 exact⟨h.vec.touch t h2 h3,h.b1,h.b2,κ h.hx t.size,κ h.ha t.size,by rw[t.cell h.hx h1];exact h.c0,⟨X,by rw[t.cell h.hx h1];exact hc⟩,by rw[t.cell h.hx h1];exact h.c2,
  by rw[t.cell h.hx h1];exact h.c3,λj hj=>by rw[t.cell h.ha h4];exact h.ca j hj⟩
theorem Idx.gr{a:Nat}(h:Idx w x p b a l B)(t:Gr w w'):Idx w' x p b a l B:=h.touch (t.touch (λ_=>False)) (λh=>h) (λh=>h) (λh=>h) (λh=>h)
theorem LQ(h:1<=B):nbl n B<=n:=by
 rcases δ n (nbl n B)with h1|h1
 ·have:=(I0 h).1 h1;have h2:n*1<=n*B:=Nat.mul_le_mul_left n h;omega
 ·exact h1
theorem ZsP{a:Nat}(hX:Idx w x p b a l B):
  cQ 216 #[pP x] w (iI (cnt (at_ l) l.length:Nat)):=by
 have c3:=hX.c3;go_enter func216,ntmps216;go_wp2;go_ret
 simp_all
theorem VlR(l:List Bool){b:Int}(h:b<=0):DT l 0 b=0:=by
 rw[JT];unfold EO;have:cnt (λi=>decide ((0:Int)<=(i:Nat)/\((i:Nat):Int)<b)&&at_ l i) l.length=cnt (λ_=>false) l.length:=CV (λi _=>by grind);rw[this];generalize l.length=n
 induction n with
 | zero=>rfl
 | succ n ih=>grind [CS]
theorem Zde{a:Nat}(hX:Idx w x p b a l B)(i:Int):
  AY prog 220 #[pP x,iI i] w (iI (DT l 0 i:Nat)):=by
 have HX:=hX;have k0:=hX.c0;have k2:=hX.c2;have k3:=hX.c3;obtain⟨V,k1⟩:=hX.c1;have n2:=hX.vec.n2;unfold AY;by_cases h0:i<=0
 ·have d0:decide (i<=0)=true:=by simp[h0]
  rw[VlR l h0];go_enter func220,ntmps220;go_wp2;go_ret;exact⟨rfl,Gr.refl _⟩
 ·obtain⟨r,rfl⟩:∃r:Nat,i=r:=⟨i.toNat,by omega⟩;have hr:0<r:=Ω
  have d0:decide ((r:Int)<=0)=false:=by simp;omega
  by_cases h1:l.length<=r
  ·have d1:decide (l.length<=r)=true:=by simp[h1]
   rw[Vbb l Ω];obtain⟨N,hN⟩:∃N,N=cnt (at_ l) l.length:=⟨_,rfl⟩;rw[<-hN]at k3⊢;clear hN k1 k2;go_enter func220,ntmps220;go_wp2_with(go_at_call 123;refine(IQ HX.vec).mono ?_;rintro e w1 ⟨rfl,rfl⟩);go_ret;exact⟨rfl,Gr.refl _⟩
  ·have d1:decide (l.length<=r)=false:=by simp;omega
   obtain⟨j,hj⟩:∃j,j=r/B:=⟨_,rfl⟩;have hB:=HX.b1;have hB2:=HX.b2;have E:j*B<=r:=by rw[hj];exact ζj r B
   have U:j<nbl l.length B:=(I0 hB).2 Ω;have ka:=HX.ca j U;have q1:((r:Int).tdiv (B:Int))=(j:Int):=by rw[hj];rfl
   have q2:((r:Int)/(B:Int))=(j:Int):=by rw[hj];rfl
   obtain⟨t,ht⟩:∃t,t=j*B:=⟨_,rfl⟩;have M:(j:Int)*(B:Int)=(t:Int):=Ω
   have hs:=V9n l (a:=0) (b:=(t:Int)) (c:=(r:Int)) Ω Ω;have hu:=UQ l (r:=t) Ω;rw[<-ht]at ka;rw[hu]at hs;obtain⟨c1,Z⟩:∃c,c=cnt (at_ l) t:=⟨_,rfl⟩;obtain⟨c2,X⟩:∃c,c=DT l (t:Int) (r:Int):=⟨_,rfl⟩;obtain⟨c3,Y⟩:∃c,c=DT l 0 (r:Int):=⟨_,rfl⟩;have hb1:c1<=1048576:=by grind [EJ]
   have hb2:c2<=1048576:=by have:=EJ (V8 l (t:Int) (r:Int)) l.length;unfold DT at X;omega
   rw[<-Z]at ka hs;rw[<-X,<-Y]at hs;rw[<-Y];obtain⟨N,hN⟩:∃N,N=nbl l.length B:=⟨_,rfl⟩;rw[<-hN]at U k1;have HNn:=hN;have htb:(t:Int)<=1048576:=Ω
   have hBp:(B:Int)≠0:=Ω
   have H2:=X.symm;have HS:=hs;clear Z X Y hN hj ht hu hs E k3;have hjb:(j:Int)<N:=Ω
   have hjl:j<=1048576:=by grind [LQ]
   have w3:IntKind.i64.wrap ((j:Int)*(B:Int))=(t:Int):=by rw[M,ζu _ Ω]
   have w4:IntKind.i64.wrap ((c1:Int)+(c2:Int))=(c3:Int):=by rw[HS,ζu _ Ω]
   have z0:∀xs m,(grow w xs m).cell? ⟨x,0,none⟩=some (pP p):=λxs m=>((grown w xs m).cell HX.hx 0).trans k0;have z1:∀xs m,(grow w xs m).cell? ⟨x,1,none⟩=some (.slice (some ⟨a,0,none⟩) N V):=λxs m=>((grown w xs m).cell HX.hx 1).trans k1;have z2:∀xs m,(grow w xs m).cell? ⟨x,2,none⟩=some (iI B):=λxs m=>((grown w xs m).cell HX.hx 2).trans k2;have z4:∀xs m,(grow w xs m).cell? ⟨a,j,none⟩=some (iI c1):=λxs m=>((grown w xs m).cell HX.ha j).trans ka;go_enter func220,ntmps220;go_upto_region 6 with(go_at_call 123;refine(IQ HX.vec).mono ?_;rintro e w1 ⟨rfl,rfl⟩);refine I3 (by kernel_rfl) (by kernel_rfl) ?_
   repeat(go_big_quiet_step (first
    | (go_at_call 234;have hc:=λxs m=>V7Z (HX.vec.gr (grown w xs m)) (t:Int) (r:Int) Ω;simp only[H2]at hc;exact AY.grown (hc _ _))))
   refine ζb ?_;intro _ I;obtain⟨⟨xs,nq⟩,J⟩:=I;subst J;go_wp2;go_ret;exact⟨by simp_all,grown w _ _⟩
theorem Qza(g:FuncId)(b1 b2:Addr)(n:Nat)(hn:n<=1048576)(t:Nat->Bool)(w:World)
  (hg:∀args W,(callFunc g args).run prog W=.ok (.enter g args) W)
  (hm:∀i j,i<=j->j<n->t i=true->t j=true)
  (hf:∀i W,i<n->Gr w W->Calls prog g #[iI (i:Nat),.pointer (some b1),.pointer (some b2)] W (λe W'=>e=.returned (.bool (t i))/\Gr W W')):
  AY prog 240 #[iI n,.func (.func g) #[] #[.pointer (some b1),.pointer (some b2)]] w (iI (first t n:Nat)):=by
 have HF:=hf;have HM:=hm;unfold AY;go_enter func240,ntmps240;go_wp2
 go_loopw [5,6] (λx y wr=>∃lo hi:Nat,lo<=hi/\hi<=n/\Hid (∀i,i<lo->t i=false)/\Hid (hi<n->t hi=true)/\Hid (Gr w wr)/\x=iI lo/\y=iI hi) (λx y _=>(intOf y).toNat-(intOf x).toNat)
 case atStart=>exact⟨0,n,by omega,by omega,⟨λi h=>by omega⟩,⟨λh=>by omega⟩,⟨Gr.refl _⟩,rfl,rfl⟩
 case round=>
  obtain⟨lo,hi,h1,h2,hl,hh,hG,rfl,rfl⟩:=hrel;by_cases hlt:lo<hi
  ·obtain⟨m,Y⟩:∃m,m=(lo+hi)/2:=⟨_,rfl⟩;have hm1:lo<=m/\m<hi:=Ω
   have q1:((lo:Int)+(hi:Int))/2=(m:Int):=Ω
   clear Y;cases ht:t m with
   | false=>
    have HC:=(HF m wr Ω hG.o);have HN:=ht;go_wp2_with(refine HC.mono ?_;rintro e W2 ⟨rfl,h2⟩;rw[HN];have X:=ι (hG.o.trans h2);clear h2);go_roundw
    case rel=>
     refine⟨m+1,hi,by omega,by omega,⟨λi hi'=>?_⟩,hh,X,by go_num,rfl⟩;cases hti:t i with
     | false=>rfl
     | true=>have:=HM i m Ω Ω hti;rw[HN]at this;cases this
    case measure=>simp[intOf];omega
   | true=>
    have HC:=(HF m wr Ω hG.o);have HN:=ht;go_wp2_with(refine HC.mono ?_;rintro e W2 ⟨rfl,h2⟩;rw[HN];have X:=ι (hG.o.trans h2);clear h2);go_roundw
    case rel=>exact⟨lo,m,by omega,by omega,hl,⟨λ_=>HN⟩,X,rfl,by go_num⟩
    case measure=>simp[intOf];omega
  ·obtain rfl:lo=hi:=Ω
   have E:=(GD h2 hl.o hh.o);go_wp2;go_ret;exact⟨AM (by rw[E]),hG.o⟩
theorem ZM(l:List Bool){a:Nat}(h:cnt (at_ l) a=q):BU l (a:Int)=CZ l q:=by
 obtain⟨j,hj⟩:∃j,j=BU l (a:Int):=⟨_,rfl⟩;have hle:j<=l.length:=by rw[hj];exact GV _ _
 have hno:∀i,i<j->¬(at_ l i=true/\a<=i):=λi hi hc=>by
  have:=IF (λi=>at_ l i&&decide ((a:Int)<=i)) l.length i (by rw[hj]at hi;exact hi)
  simp_all
 rw[<-hj];rcases δ j l.length with X|hge
 ·have hat:=GO (λi=>at_ l i&&decide ((a:Int)<=i)) l.length (by rw[hj]at X;exact X)
  have Y:at_ l j=true/\(a:Int)<=j:=by
   have e:first (λi=>at_ l i&&decide ((a:Int)<=i)) l.length=j:=hj.symm
   simp_all
  have hc:cnt (at_ l) j=q:=by
   grind [O6]
  exact(XW X Y.1 hc).symm
 grind [δ,O6,SQ,VZZ]
theorem Z7T(h:q<cnt (at_ l) l.length):BU l ((CZ l q:Int)+1)=CZ l (q+1):=by
 obtain⟨h1,h2,h3⟩:=XY h;have:=ZM l (a:=CZ l q+1) (q:=q+1) (by grind [CS])
 assumption
theorem VVz{a:Nat}(hX:Idx w x p b a l B)(bx bk:Addr)(k:Nat)(hbx:w.cell? bx=some (pP x))(hbk:w.cell? bk=some (iI k))
  (i:Nat) (hi:i<nbl l.length B):
  Calls prog 241 #[iI i,.pointer (some bx),.pointer (some bk)] w λe w'=>e=.returned (.bool (decide (k<cnt (at_ l) (i*B))))/\Gr w w':=by
 obtain⟨cap,c1⟩:=hX.c1;have ca:=hX.ca i hi;have hi0:(0:Int)<=(i:Int):=Ω
 go_enter func241,ntmps241;go_upto_region 1 with(fail);go_quiet (fail);go_wp2;go_ret;exact⟨Zbf (by simp),(Gr.refl w).drewN _⟩
theorem YDO(l:List Bool)(hB:1<=B)(hk:k<cnt (at_ l) l.length):
  ∃j,first (λi=>decide (k<cnt (at_ l) (i*B))) (nbl l.length B)=j+1/\j<nbl l.length B/\cnt (at_ l) (j*B)<=k:=by
 obtain⟨f,hf⟩:∃f,f=first (λi=>decide (k<cnt (at_ l) (i*B))) (nbl l.length B):=⟨_,rfl⟩
 have hle:f<=nbl l.length B:=by grind [GV]
 have hn:0<l.length:=by
  grind [ζG,LG]
 have hN:0<nbl l.length B:=(I0 hB).2 Ω
 have h0:f≠0:=λh=>by
  have:=GO (λi=>decide (k<cnt (at_ l) (i*B))) (nbl l.length B) Ω;rw[<-hf,h]at this
  grind [LG]
 obtain⟨j,rfl⟩:∃j,f=j+1:=⟨f-1,by omega⟩;refine⟨j,hf.symm,by omega,?_⟩;have:=IF (λi=>decide (k<cnt (at_ l) (i*B))) (nbl l.length B) j Ω
 simp_all
theorem SY(u v:Value)(T1 T2:TypeId):
  Gr w ((w.alloc (.cells #[u] T1)).alloc (.cells #[v] T2))/\((w.alloc (.cells #[u] T1)).alloc (.cells #[v] T2)).cell? ⟨w.heap.size,0,none⟩=some u/\((w.alloc (.cells #[u] T1)).alloc (.cells #[v] T2)).cell? ⟨w.heap.size+1,0,none⟩=some v:=by
 refine⟨((Gr.refl w).alloc _).alloc _,?_,?_⟩
 ·simp_all
 simp_all
theorem Zo5(x:Nat)(q:Int)(hq:q<0):AY prog 235 #[pP x,iI q] w (.tuple #[iI 0,.bool false]):=by
 go_enter func235,ntmps235;go_upto_region 1 with(fail);obtain⟨hg,c1,c2⟩:=SY (w:=w) (pP x) (iI q) 269 3;generalize (w.alloc (.cells #[.pointer (some ⟨x,0,none⟩)] 269)).alloc (.cells #[.int .i64 q] 3)=W2 at *
 go_quiet (fail);go_wp2;go_ret2;exact⟨BL rfl rfl,hg.drewN _⟩
theorem V1d{a:Nat}(hX:Idx w x p b a l B)(q:Nat)(hq:cnt (at_ l) l.length<=q):
  AY prog 235 #[pP x,iI q] w (.tuple #[iI 0,.bool false]):=by
 have k3:=hX.c3;have hx:=hX.hx;have d0:decide ((q:Int)<0)=false:=by simp
 go_enter func235,ntmps235;go_upto_region 1 with(fail);obtain⟨hg,c1,c2⟩:=SY (w:=w) (pP x) (iI q) 269 3;generalize (w.alloc (.cells #[.pointer (some ⟨x,0,none⟩)] 269)).alloc (.cells #[.int .i64 q] 3)=W2 at *
 have c3:=(hg.cell hx 3).trans k3;go_quiet (fail);go_wp2;go_ret2;exact⟨BL rfl rfl,hg.drewN _⟩
theorem Zrb(args:Array Value)(W:World):(callFunc 241 args).run prog W=.ok (.enter 241 args) W:=by kernel_rfl
theorem JlP{a:Nat}(hX:Idx w x p b a l B)(hT:AQ w)(k:Nat)(hk:k<cnt (at_ l) l.length):
  AY prog 235 #[pP x,iI k] w (.tuple #[iI (CZ l k:Nat),.bool true]):=by
 have HX:=hX;have HT:=hT;have HK:=hk;obtain⟨j,D,U,Z⟩:=YDO l hX.b1 hk;obtain⟨N,hN⟩:∃N,N=cnt (at_ l) l.length:=⟨_,rfl⟩;have k0:=hX.c0;have k2:=hX.c2;have k3:=hX.c3;obtain⟨J,k1⟩:=hX.c1;have ka:=hX.ca j U;have hx:=hX.hx;have n2:=hX.vec.n2;have Xd:=LQ (n:=l.length) hX.b1;have hb2:=hX.b2;rw[<-hN]at k3;have hNk:k<N:=by rw[hN];exact hk
 have Xe:N<=l.length:=by rw[hN];exact EJ _ _
 have d0:decide ((k:Int)<0)=false:=by simp
 have d1:decide (N<=k)=false:=by simp;omega
 have hkb:k<=1048576:=Ω
 have Xa:j*B<l.length:=(I0 hX.b1).1 U;obtain⟨t,ht⟩:∃t,t=j*B:=⟨_,rfl⟩;rw[<-ht]at Xa ka Z;obtain⟨c,hc⟩:∃c,c=cnt (at_ l) t:=⟨_,rfl⟩;rw[<-hc]at ka Z;have hw3:IntKind.i64.wrap ((j:Int)*(B:Int))=(t:Int):=by rw[show (j:Int)*(B:Int)=(t:Int)by rw[ht,Int.natCast_mul],ζu _ Ω]
 have Xc:=(ZM l hc.symm);have HP:Hid (∀n,n<=k->CZ l n<l.length):=⟨λn hn=>(XY (l:=l) (q:=n) Ω).1⟩;have A:Hid (∀n,n<=k->BU l ((CZ l n:Int)+1)=CZ l (n+1)):=⟨λn hn=>Z7T Ω⟩;obtain⟨M,hM⟩:∃M,M=nbl l.length B:=⟨_,rfl⟩;have Xf:=D;rw[<-hM]at k1 U Xd;have HM:=ι hM;have hjM:(j:Int)<M:=Ω
 clear hX hk hN ht hc D hM hT Xe;unfold AY;go_enter func235,ntmps235;go_upto_region 1 with(fail);obtain⟨hg,c1,c2⟩:=SY (w:=w) (pP x) (iI k) 269 3;generalize (w.alloc (.cells #[.pointer (some ⟨x,0,none⟩)] 269)).alloc (.cells #[.int .i64 k] 3)=W2 at *
 have z0:=(hg.cell hx 0).trans k0;have z1:=(hg.cell hx 1).trans k1;have z2:=(hg.cell hx 2).trans k2;have z3:=(hg.cell hx 3).trans k3;have K1:=ι k1;clear k0 k1 k2 k3;have HG:=ι hg;have HC:=ι (ψ c1 c2);clear hg;go_quiet (fail)
 have HS:=ι (Qza 241 ⟨w.heap.size,0,none⟩ ⟨w.heap.size+1,0,none⟩ M Ω (λi=>decide (k<cnt (at_ l) (i*B))) (W2.drewN nq) Zrb
  (λi i' h1 h2 h3=>by
   have:=SQ (at_ l) (ζi B h1)
   simp at h3⊢;omega)
  (λi W hi hgW=>VVz (HX.gr ((HG.o.drewN nq).trans hgW)) _ _ k (by
    rw[hgW.cell (b:=w.heap.size) (by have:=AT HC.o.1;exact this)];exact HC.o.1) (by
    rw[hgW.cell (b:=w.heap.size+1) (by have:=AT HC.o.2;exact this)];exact HC.o.2) i (by rw[<-HM.o];exact hi)))
 rw[HM.o,Xf,<-HM.o]at HS;have hmf:∀(fn:Fn) (first J:Array Value) (w:World),(Instr.makeFunc fn first J).run prog w=.ok (.func fn first J) w:=λ_ _ _ _=>rfl;go_upto_region 4 with(go_at_call 240;refine HS.o.mono ?_;rintro e W3 ⟨rfl,h3⟩;have X:=ι (HG.o.trans (((Gr.refl W2).drewN nq).trans h3));have y0:=(h3.cell (b:=w.heap.size) (AT HC.o.1) 0).trans HC.o.1;have y1:=(h3.cell (b:=w.heap.size+1) (AT HC.o.2) 0).trans HC.o.2;clear h3);have v0:=(X.o.cell hx 0).trans HX.c0;have v2:=(X.o.cell hx 2).trans HX.c2
 have v1:W3.cell? ⟨x,1,none⟩=some (.slice (some ⟨a,0,none⟩) M J):=by
  exact(X.o.cell hx 1).trans K1.o
 have va:W3.cell? ⟨a,j,none⟩=some (iI c):=(X.o.cell HX.ha j).trans ka;have E:=ι (HX.vec.gr X.o);have Y:=ι (X.o.tab HT.lt HT);have G:=HP.o c Z
 have HN:Hid (∀n,Calls prog 213 #[pP p,iI t] (W3.drewN n) λe w'=>e=.returned (.tuple #[iI (CZ l c:Nat),.bool true])/\w'=W3.drewN n):=⟨λn=>
  (KM (E.o.gr ((Gr.refl W3).drewN n)) (((Gr.refl W3).drewN n).tab Y.o.lt Y.o) t).mono λe w' ⟨he,hw⟩=>⟨by rw[he,Xc,IR G,ξ G],hw.symm⟩⟩
 clear z0 z1 z2 z3 ka HS;go_quiet ((go_at_call 213;exact Calls.quiet_of_same (HN.o _)));go_wp2
 go_loop [7,9] (λs7 s9=>∃n:Nat,c<=n/\n<=k/\s7=iI (CZ l n:Nat)/\s9=iI n) (λ_ s9=>k-(intOf s9).toNat)
 case atStart=>exact⟨c,ϑ _,Z,rfl,rfl⟩
 case round=>
  obtain⟨n,hn1,I,rfl,rfl⟩:=hrel;have hp:=HP.o n I;obtain⟨r,hr⟩:∃r,r=CZ l n:=⟨_,rfl⟩;have HE:=A.o n I;rw[<-hr]at hp HE⊢;by_cases hlt:n<k
  ·have V:=HP.o (n+1) Ω;have Xb:=ι HE;have HR:=ι (ψ (IR V) (ξ V));clear hr HE V;go_wp2_with(go_at_call 213;refine(KM (E.o.gr ((Gr.refl W3).drewN _)) (((Gr.refl W3).drewN _).tab Y.o.lt Y.o) _).mono ?_;rintro e w' ⟨rfl,rfl⟩;rw[Xb.o,HR.o.1,HR.o.2]);go_round
   case rel=>exact⟨n+1,by omega,by omega,rfl,by go_num⟩
   case measure=>simp[intOf];omega
  ·obtain rfl:n=k:=Ω
   have HR:=ι hr;clear hr HE;go_wp2;go_ret2;exact⟨BL (by rw[HR.o];rfl) rfl,X.o.drewN _⟩
theorem Qax{a:Nat}(hX:Idx w x p b a l B)(hT:AQ w)(q:Int):
  AY prog 235 #[pP x,iI q] w (.tuple #[iI (J8 l q),.bool (MR l q)]):=by
 by_cases h:q<0
 ·have e1:J8 l q=0:=by unfold J8;rw[θ h]
  have e2:MR l q=false:=by unfold MR;grind
  grind [Zo5]
 ·obtain⟨k,rfl⟩:∃k:Nat,q=k:=⟨q.toNat,by omega⟩;have e1:J8 l k=JD l.length (CZ l k):=by unfold J8;grind
  have e2:MR l k=decide (CZ l k<l.length):=by rfl
  rw[e1,e2];rcases δ k (cnt (at_ l) l.length)with hk|hk
  ·grind [XY,IR,ξ,JlP]
  grind [VZZ,M9,ζ,V1d]
theorem QTm:(prog.info? 3).map (λi=>(i.zero,i.size,i.bytes))=some (some (iI 0),1,8):=by kernel_rfl
def ZQP(w:World)(l:List Bool)(B:Nat)(e:Ending)(w':World):Prop:=
 ∃x p b a,e=.returned (.tuple #[pP x,iI 0])/\Gr w w'/\Idx w' x p b a l B/\w.heap.size<=x/\w.heap.size<=p/\w.heap.size<=b/\w.heap.size<=a
def IX(l:List Bool)(B k:Nat):List Value:=(List.range k).map λj=>iI (cnt (at_ l) (j*B):Nat)
theorem X5M(l:List Bool)(B k:Nat):IX l B (k+1)=IX l B k++[iI (cnt (at_ l) (k*B):Nat)]:=by
 unfold IX;rw[ψs,ζ5];rfl
structure E9(w:World)(l:List Bool)(B X p b BASE k m:Nat)(v:Value)(wr:World):Prop where
 gr:Gr w wr
 vec:BA wr p b l
 own:wr.ownsRow BASE 3 1 v k (IX l B k)
 c0:wr.cell? ⟨X,0,none⟩=some (pP p)
 c1:wr.cell? ⟨X,1,none⟩=some v
 c2:wr.cell? ⟨X,2,none⟩=some (iI B)
 c3:wr.cell? ⟨X,3,none⟩=some (iI (DT l 0 (m*B:Nat):Nat))
 free:∀o,wr.frozen? ⟨X,o,none⟩=false
 lt:X<BASE
 ltp:p<X
 ltb:b<X
 ge:w.heap.size<=p/\w.heap.size<=b
 base:BASE<=wr.heap.size
theorem E9.far{X:Nat}{v:Value}(h:E9 w l B X p b BASE k m v wr):v.ownBlock≠some X:=λe=>by
 have:=(BE h.own e).1;have:=h.lt;omega
theorem E9.grow{X:Nat}{v:Value}{wr':World}(h:E9 w l B X p b BASE k m v wr)(g:Gr wr wr'):E9 w l B X p b BASE k m v wr':=by
 have hX:X<wr.heap.size:=by have:=h.lt;have:=h.base;omega
 exact⟨h.gr.trans g,h.vec.gr g,CM h.own g,(g.cell hX 0).trans h.c0,(g.cell hX 1).trans h.c1,(g.cell hX 2).trans h.c2,(g.cell hX 3).trans h.c3,λo=>(g.frozen hX o).trans (h.free o),h.lt,h.ltp,h.ltb,h.ge,γ h.base g.size⟩
theorem E9.append{X:Nat}{v:Value}(h:E9 w l B X p b BASE k m v wr){g c:Nat}
  (hown:w1.ownsRow BASE 3 1 (.slice (some ⟨g,0,none⟩) (k+1) c) (k+1) (IX l B (k+1))) (hgrow:wr.grownBy w1 v.ownBlock):
  E9 w l B X p b BASE (k+1) m (.slice (some ⟨g,0,none⟩) (k+1) c) (w1.setCell ⟨X,1,none⟩ (.slice (some ⟨g,0,none⟩) (k+1) c)):=by
 have hX:X<wr.heap.size:=by have:=h.lt;have:=h.base;omega
 have t:AB (λi=>v.ownBlock=some i) wr w1:=EC hgrow _ (λk e _=>e);have t2:AB (λi=>i=X) w1 (w1.setCell ⟨X,1,none⟩ (.slice (some ⟨g,0,none⟩) (k+1) c)):=(AB.refl (λi=>i=X) w1).setCell (a:=⟨X,1,none⟩) (λ_=>rfl) _;have Y:∀i,i<BASE->v.ownBlock≠some i:=λi hi e=>by have:=(BE h.own e).1;omega
 have e:∀o,w1.cell? ⟨X,o,none⟩=wr.cell? ⟨X,o,none⟩:=λo=>t.cell hX (Y X h.lt) o
 have o:∀o,o≠1->(w1.setCell ⟨X,1,none⟩ (.slice (some ⟨g,0,none⟩) (k+1) c)).cell? ⟨X,o,none⟩=wr.cell? ⟨X,o,none⟩:=λo ho=>by
  rw[ξt (h:=by simp_all),e o]
 have hp:=h.ltp;have hb:=h.ltb;have hl:=h.lt;refine⟨?_,?_,?_,(o 0 Ω).trans h.c0,?_,(o 2 Ω).trans h.c2,(o 3 Ω).trans h.c3,?_,h.lt,h.ltp,h.ltb,h.ge,γ h.base (γ t.size t2.size)⟩
 ·refine(((h.gr.touch (λ_=>False)).trans' t (λi hi e=>?_)).trans' t2 (λi hi e=>?_)).gr
  ·have:=(BE h.own e).1;have:=h.ge;omega
  ·have:=h.ge;omega
 ·exact(h.vec.touch t (Y p Ω) (Y b Ω)).touch t2 Ω Ω
 ·refine BV hown t2 (λi hi e=>?_);have:=(BE hown hi).1;omega
 ·exact ξi (h:=(e 1).trans h.c1) ..
 ·intro o;rw[ξa,t.frozen hX (Y X h.lt)];exact h.free o
theorem E9.count{X:Nat}{v:Value}(h:E9 w l B X p b BASE k m v wr)(hz:z=(DT l 0 (m' * B:Nat):Nat)):
  E9 w l B X p b BASE k m' v (wr.setCell ⟨X,3,none⟩ (.int .i64 z)):=by
 have t2:AB (λi=>i=X) wr (wr.setCell ⟨X,3,none⟩ (.int .i64 z)):=(AB.refl (λi=>i=X) wr).setCell (a:=⟨X,3,none⟩) (λ_=>rfl) _;have hp:=h.ltp;have hb:=h.ltb;have hl:=h.lt
 have o:∀o,o≠3->(wr.setCell ⟨X,3,none⟩ (.int .i64 z)).cell? ⟨X,o,none⟩=wr.cell? ⟨X,o,none⟩:=λo ho=>by
  rw[ξt (h:=by simp_all)]
 refine⟨?_,h.vec.touch t2 Ω Ω,?_,(o 0 Ω).trans h.c0,(o 1 Ω).trans h.c1,(o 2 Ω).trans h.c2,?_,?_,h.lt,h.ltp,h.ltb,h.ge,γ h.base t2.size⟩
 ·refine((h.gr.touch (λ_=>False)).trans' t2 (λi hi e=>?_)).gr;have:=h.ge;omega
 ·refine BV h.own t2 (λi hi e=>?_);have:=(BE h.own hi).1;omega
 ·rw[hz];exact ξi (h:=h.c3) ..
 ·intro o;rw[ξa];exact h.free o
theorem E9.done{X:Nat}{v:Value}(h:E9 w l B X p b BASE k k v wr)(h1:1<=B)(h2:B<=1024)(hk:k=nbl l.length B)(hl:l.length<=k*B):
  ∃a,Idx wr X p b a l B/\w.heap.size<=a:=by
 have hn:=h.vec.n1;have Z:k≠0:=by grind
 obtain⟨g,c,rfl,hg1,hg2,hg3,Y⟩:=ET h.own Z;have:=h.lt;refine⟨g,⟨h.vec,h1,h2,by omega,Y,h.c0,⟨c,by rw[h.c1,hk]⟩,h.c2,?_,λj hj=>?_⟩,by have:=h.ge;have:=h.ltp;omega⟩
 ·rw[h.c3,Vbb l Ω]
 ·refine BP h.own ?_;unfold IX
  simp_all
theorem JHa{T:TypeId}(hg:Gr w w1)(hV:BA w1 q r l)(h1:w.heap.size<=q)(h2:w.heap.size<=r):
  E9 w l B w1.heap.size q r (w1.heap.size+1) 0 0 (.slice none 0 0) (w1.alloc (.cells #[.pointer (some ⟨q,0,none⟩),.slice none 0 0,.int .i64 B,.int .i64 0] T)):=by
 have hp:=hV.hp;have hb:=hV.hb;refine⟨hg.alloc _,hV.gr ((Gr.refl w1).alloc _),GR _ _ _ _,ζH ..,ζH ..,ζH ..,?_,λo=>ξ2 ..,by omega,hp,hb,⟨h1,h2⟩,by simp⟩;rw[show DT l 0 ((0*B:Nat):Int)=0 from VlR l (by simp)]
 simp_all
theorem XFA(hV:BA w p b l)(n:Int)(hn:BM n=false)(hn2:n<=9223372036854775807):
  cQ 215 #[pP p,iI n] w (.tuple #[.pointer none,iI 5]):=by
 have n1:((l.length:Int)==0)=false:=by have:=hV.n1;grind
 have HV:=hV;rw[MJ]at hn;cases hp:CR n with
 | false=>
  go_enter func215,ntmps215
  go_wp2_with(first
   | (go_at_call 123;refine(IQ HV).mono ?_;rintro e w1 ⟨rfl,rfl⟩)
   | (go_at_call 115;refine(JO n hn2 _).mono ?_;rintro e w1 ⟨rfl,rfl⟩))
  go_ret2
  simp_all
 | true=>
  rw[hp]at hn;have d1:decide ((1024:Int)<n)=true:=by simp at hn;simp;omega
  go_enter func215,ntmps215
  go_wp2_with(first
   | (go_at_call 123;refine(IQ HV).mono ?_;rintro e w1 ⟨rfl,rfl⟩)
   | (go_at_call 115;refine(JO n hn2 _).mono ?_;rintro e w1 ⟨rfl,rfl⟩))
  go_ret2
  simp_all
theorem Zv3(hV:BA w p b l)(B:Nat)(hB:BM B=true):
  Calls prog 215 #[pP p,iI B] w (ZQP w l B):=by
 have n1:((l.length:Int)==0)=false:=by have:=hV.n1;exact ζy.2 Ω
 have n2:=hV.n2;have hb:=DI hB;have Xc:1<=B:=Ω
 have Xk:B<=1024:=Ω
 have d1:decide ((1024:Int)<(B:Int))=false:=by simp;omega
 have HP:Hid (CR B=true):=⟨by rw[MJ]at hB;simp at hB;exact hB.1⟩;obtain⟨i0,hi,Xq,Xp,Xr⟩:=info_parts QTm;have HV:=hV;clear hV hB hb;go_enter func215,ntmps215
 go_wp2_with(first
  | (go_at_call 123;refine(IQ HV).mono ?_;rintro e w1 ⟨rfl,rfl⟩)
  | (go_at_call 115;refine(JO B Ω _).mono ?_;rintro e w1 ⟨rfl,rfl⟩;rw[HP.o])
  | (go_at_call 233;refine(Z27 HV).mono ?_;rintro e w1 ⟨q,r,rfl,Xa,Xe,D,Xd⟩))
 have Xf:=ι (JHa (B:=B) (T:=287) Xa Xe D Xd);generalize w1.alloc (.cells #[.pointer (some ⟨q,0,none⟩),.slice none 0 0,.int .i64 B,.int .i64 0] 287)=W2 at *
 obtain⟨X,hX⟩:∃X,X=w1.heap.size:=⟨_,rfl⟩;rw[<-hX]at Xf⊢;clear hX;clear Xa Xe D Xd
 go_loopw [7] (λs7 wr=>∃k t v,Hid (E9 w l B X q r (X+1) k k v wr)/\Hid (t=k*B)/\k<=t/\t<=1048576+1024/\Hid (∀i,i<k->i*B<l.length)/\s7=iI (t:Nat)) (λs7 _=>1048576+1025-(intOf s7).toNat)
 case atStart=>exact⟨0,0,_,Xf,⟨by simp⟩,by omega,by omega,⟨λi h=>by omega⟩,rfl⟩
 case round=>
  obtain⟨k,t,v,HN,ht,hkt,htb,Xb,rfl⟩:=hrel;by_cases Xm:t<l.length
  ·have Xs:Hid (∀i,i<k+1->i*B<l.length):=⟨λi h=>by
    rcases δ i k with h1|h1
    ·exact Xb.o i h1
    ·rw[show i=k by omega,<-ht.o];exact Xm⟩
   have Xg:Hid (t+B=(k+1)*B):=⟨by rw[ξk,ht.o]⟩;go_upto_region 9 with(go_at_call 123;refine(IQ (HV.gr HN.o.gr)).mono ?_;rintro e w1 ⟨rfl,rfl⟩);have c1:=HN.o.c1;obtain⟨c,hc⟩:∃c,c=DT l 0 (k*B:Nat):=⟨_,rfl⟩;have c3:=HN.o.c3;have fr:=HN.o.free 1;rw[<-hc]at c3
   have Xh:IX l B (k+1)=IX l B k++[iI (c:Nat)]:=by
    rw[X5M,hc,UQ l (by rw[<-ht.o];omega)]
   have Xn:=Xh;have HC:=ι hc;have HX:Hid (X<wr.heap.size):=⟨by have:=HN.o.base;omega⟩;clear Xh hc;have KS:Hid (∀W',Gr wr W'->W'.cell? ⟨X,1,none⟩=some v/\W'.cell? ⟨X,3,none⟩=some (iI (c:Nat))/\W'.frozen? ⟨X,1,none⟩=false):=⟨λW' h=>⟨(h.cell HX.o 1).trans c1,(h.cell HX.o 3).trans c3,(h.frozen HX.o 1).trans fr⟩⟩;obtain⟨S,hS⟩:∃S:World->Prop,S=λW'=>W'.cell? ⟨X,1,none⟩=some v/\W'.cell? ⟨X,3,none⟩=some (iI (c:Nat))/\W'.frozen? ⟨X,1,none⟩=false:=⟨_,rfl⟩;have x1:∀p:AA S,p.w.cell? ⟨X,1,none⟩=some v:=λp=>(AA.get hS p).1;have x3:∀p:AA S,p.w.cell? ⟨X,3,none⟩=some (iI (c:Nat)):=λp=>(AA.get hS p).2.1;have Z:S wr.drew:=by rw[hS];exact KS.o _ (Gr.refl _).drew
   have HS:=ι hS;clear hS;have V:Inhabited (AA S):=⟨⟨_,Z⟩⟩;refine AV S 13 [([0,1,2,3,4,5,6,7,8],9),([],10),([11,12],13)] [] Z ?_;refine AH ?_;go_wp2;refine⟨.inr (AA.of (by rw[HS.o];exact KS.o _ ((Gr.refl _).alloc _).drew)),?_⟩;refine OB ?_;simp only[AF,ν,π];refine ζb ?_;go_wp2_with(at_builtin;refine wpList_append_lies _ rfl _ _ 61 rfl (X+1) 3 i0 _ 1 8 underlying61 hi Xq Xp Xr rfl Ω v k (IX l B k) rfl ((HN.o.own.alloc _).drew) ⟨wr.heap.size,0,none⟩ 1 1 [iI (c:Nat)] rfl rfl (ξs (cs:=#[iI (c:Nat)]) (t:=3) (fr:=(0,0)) (heap_alloc_new wr _)) (by simp[Value.oneCell']) Ω (by unfold maxLen;omega) Ω (by have:=HX.o;simp;omega) (wr.heap.size+1) (by simp) ?_;intro g cp w1 U Y Xt A)
   go_frame
   have I:Gr wr (wr.alloc (.cells #[.int .i64 (c:Nat)] 3)).drew:=((Gr.refl _).alloc _).drew
   have N:w1.cell? ⟨X,1,none⟩=some v/\w1.cell? ⟨X,3,none⟩=some (iI (c:Nat))/\w1.frozen? ⟨X,1,none⟩=false:=by
    have hz:=KS.o _ I
    exact⟨(Y.cell_far ⟨X,1,none⟩ (by have:=HX.o;simp;omega) (Ne.symm HN.o.far)).trans hz.1,(Y.cell_far ⟨X,3,none⟩ (by have:=HX.o;simp;omega) (Ne.symm HN.o.far)).trans hz.2.1,
     (Y.frozen_far ⟨X,1,none⟩ (by have:=HX.o;simp;omega) (Ne.symm HN.o.far)).trans hz.2.2⟩
   refine⟨.inr (AA.of (by rw[HS.o];exact N)),?_⟩;have HM:=((HN.o.grow I).append (by rw[Xn];exact U) Y);have k1:=N.1;have k3:=N.2.2;clear I U Y Xt A N;refine AH ?_;go_wp2;refine⟨.inl trivial,?_⟩;refine EN ?_;refine ζb ?_;refine ζA ?_;generalize w1.setCell ⟨X,1,none⟩ (.slice (some ⟨g,0,none⟩) (k+1) cp)=W3 at HM⊢;generalize (Value.slice (some ⟨g,0,none⟩) (k+1) cp)=v3 at HM⊢;clear x1 x3 Z HS V k1 k3 KS c1 c3 fr HX;clear S;obtain⟨tb,J⟩:∃tb,tb=t+B:=⟨_,rfl⟩;obtain⟨d,hd⟩:∃d,d=DT l (t:Int) (tb:Int):=⟨_,rfl⟩;obtain⟨e,he⟩:∃e,e=DT l 0 ((k+1)*B:Nat):=⟨_,rfl⟩
   have Xj:(c:Int)+(d:Int)=(e:Int):=by
    have:=V9n l (a:=0) (b:=(t:Int)) (c:=(tb:Int)) Ω Ω;rw[hd,he,HC.o,<-ht.o,<-Xg.o,<-J];exact this
   have hel:e<=l.length:=by rw[he];exact EJ _ _
   have Xo:IntKind.i64.wrap ((t:Int)+(B:Int))=(tb:Int):=by rw[J,ζu _ Ω];omega
   have Xl:IntKind.i64.wrap ((c:Int)+(d:Int))=(e:Int):=by rw[Xj,ζu _ Ω]
   have HD:=ι hd;have HE:=ι he;have HTB:=ι J;have k3:W3.cell? ⟨X,3,none⟩=some (iI (c:Nat)):=by rw[HM.c3,HC.o]
   have fr:W3.frozen? ⟨X,3,none⟩=false:=HM.free 3;have HX:Hid (X<W3.heap.size):=⟨by have:=HM.base;omega⟩;clear Xj hd he J;go_upto_region 10 with(fail);obtain⟨S,hS⟩:∃S:World->Prop,S=λW'=>W'.cell? ⟨X,3,none⟩=some (iI (c:Nat)):=⟨_,rfl⟩;have x3:∀p:AA S,p.w.cell? ⟨X,3,none⟩=some (iI (c:Nat)):=λp=>AA.get hS p;have Z:S W3.drew:=by rw[hS];exact k3
   have HS:=ι hS;clear hS;have V:Inhabited (AA S):=⟨⟨_,Z⟩⟩;refine AV S 13 [([0,1,2,3,4,5,6,7,8],9),([10,11,12],13)] [] Z ?_;refine AH ?_;go_wp2_with(go_at_call 234;refine(V7Z (HV.gr (HM.gr.drew)) (t:Int) (tb:Int) Ω).mono ?_;rintro e' W4 ⟨rfl,Xi⟩;rw[<-HD.o]);have M:Gr W3 W4:=(Gr.refl W3).drew.trans Xi;have q3:=(M.cell HX.o 3).trans k3;have qf:=(M.frozen HX.o 3).trans fr;have G:=ι ((HM.grow M).count (m':=k+1) (z:=(e:Nat)) (by rw[HE.o]));clear Xi M;refine⟨.inr (AA.of (by rw[HS.o];exact q3)),?_⟩;refine AH ?_;go_wp2;refine⟨.inl trivial,?_⟩;refine EN ?_;refine ζb ?_;refine ζA ?_;generalize W4.setCell ⟨X,3,none⟩ (.int .i64 (e:Nat))=W5 at G⊢;clear x3 Z HS V q3 qf k3 fr Xo Xl;clear S;go_wp2;go_roundw
   case rel=>exact⟨k+1,t+B,v3,G,Xg,by omega,by omega,Xs,by go_num⟩
   case measure=>simp[intOf];omega
  ·have E:=ι (QnL Xc (show l.length<=k*B by rw[<-ht.o];omega) Xb.o);have HF:=ι (HN.o.done Xc Xk E.o.symm (by rw[<-ht.o];omega));go_wp2_with(go_at_call 123;refine(IQ (HV.gr HN.o.gr)).mono ?_;rintro e w1 ⟨rfl,rfl⟩);go_ret2;obtain⟨a,hI,ha⟩:=HF.o;exact⟨X,q,r,a,BL rfl rfl,HN.o.gr,hI,by have:=HN.o.ge;have:=HN.o.ltp;omega,HN.o.ge.1,HN.o.ge.2,ha⟩
def C3(n:Nat)(L:List Ob):List Bool:=(List.range n).map (DO L)
theorem JQ(n:Nat)(L:List Ob):(C3 n L).length=n:=by simp[C3]
theorem VN(h:AP n L)(i:Nat):at_ (C3 n L) i=DO L i:=by
 unfold C3;rw[JK];by_cases hi:i<n
 ·simp_all
 ·rw[ζ hi];cases hb:DO L i with
  | false=>rfl
  | true=>
   obtain⟨o,ho,h1,h2⟩:=N8.1 hb;have:=h.sz o ho;omega
theorem Yht(h:AP n L)(f t:Int):((DT (C3 n L) f t:Nat):Int)=AZ L f t:=by
 rw[<-RE h,JT,JQ];congr 1;exact ZVB (λi _=>by rw[VN h])
theorem TK(h:AP n L)(k:Nat)(hk:k<=n):((cnt (at_ (C3 n L)) k:Nat):Int)=AZ L 0 k:=by
 rw[<-Yht h,UQ _ (by grind [JQ])]
theorem YKJ:∀{q k:Nat},EA L q=some k->∃j,∃hj:j<L.length,∃i,i<L[j].2/\q=sizes (L.take j)+i/\k=L[j].1+i:=by
 induction L with
 | nil=>intro q k h;cases h
 | cons o r ih=>
  intro q k h;unfold EA at h;by_cases hq:q<o.2
  ·rw[θ hq]at h;exact⟨0,by simp,q,hq,by simp[sizes],(Option.some.inj h).symm⟩
  ·rw[φ hq]at h;obtain⟨j,hj,i,h1,h2,h3⟩:=ih h;exact⟨j+1,by simp_all,i,h1,by simp[sizes];omega,h3⟩
theorem XUI(hj:j<L.length)(hi:i<L[j].2):DO L (L[j].1+i)=true:=N8.2 ⟨_,μ hj,by omega,by omega⟩
theorem Qh2(h:AP n L)(q:Nat):(∀k,EA L q=some k->CZ (C3 n L) q=k/\k<n)/\(EA L q=none->CZ (C3 n L) q=n):=by
 refine⟨λk hk=>?_,λhn=>?_⟩
 ·obtain⟨j,hj,i,h1,rfl,rfl⟩:=YKJ hk;have hs:=h.sz _ (μ hj);have hc:=TK h (L[j].1+i) Ω;have ho:=Yhz h hj (i:=i) Ω;obtain⟨e1,e2⟩:=YTa (l:=C3 n L) (k:=L[j].1+i) (q:=sizes (L.take j)+i) (by grind [VN,XUI]) (by grind);omega
 ·have hle:=Jkd.1 hn;have hc:=TK h n (ϑ n);rw[RY h]at hc;have:=Vit (f:=at_ (C3 n L)) (n:=n) (k:=q) Ω;unfold CZ
  grind [JQ]
theorem Zop(h:AP n L)(k:Int):J8 (C3 n L) k=IW L k/\MR (C3 n L) k=WH L k:=by
 unfold J8 MR IW WH;by_cases hk:k<0
 ·grind
 ·rw[φ hk,φ hk,ξ Ω,JQ];obtain⟨h1,h2⟩:=Qh2 h k.toNat;cases hw:EA L k.toNat with
  | none=>grind [M9]
  | some x=>grind [IR]
theorem Jw5(hj:j<L.length):C3 n (L.take (j+1))=CP (C3 n (L.take j)) (L[j].1:Nat) ((L[j].1:Int)+(L[j].2:Int)) true:=by
 refine IJ (by grind [FO,JQ]) (λi hi=>?_);rw[JQ]at hi;rw[NN _ _ _ _ _ (by grind [JQ])];unfold C3;rw[JK,JK,ξ hi];unfold DO
 grind [ζY]
theorem ZPf(n:Nat):C3 n []=List.replicate n false:=by
 unfold C3;exact IJ (by simp) (λi hi=>by rw[JK];simp[at_,ξc,DO];split <;> rfl)
def F6(w:World)(F t n B:Nat)(L:List Ob):Prop:=
 AP n L/\t<w.heap.size/\F<=t/\∃v vb x p b a,w.cell? ⟨t,0,none⟩=some (pP v)/\w.cell? ⟨t,1,none⟩=some (pP x)/\BA w v vb (C3 n L)/\Idx w x p b a (C3 n L) B ∧
  F<=v/\F<=vb/\F<=x/\F<=p/\F<=b/\F<=a
theorem F6.touch{F t:Nat}(h:F6 w F t n B L)(ht:AB S w w')(hS:∀k,F<=k->k<w.heap.size->¬S k):F6 w' F t n B L:=by
 obtain⟨hg,h1,h2,v,vb,x,p,b,a,c0,c1,hV,hX,k1,k2,k3,k4,k5,k6⟩:=h;exact⟨hg,κ h1 ht.size,h2,v,vb,x,p,b,a,(ht.cell h1 (hS t h2 h1) 0).trans c0,(ht.cell h1 (hS t h2 h1) 1).trans c1,hV.touch ht (hS v k1 hV.hp) (hS vb k2 hV.hb),hX.touch ht (hS x k3 hX.hx) (hS p k4 hX.vec.hp) (hS b k5 hX.vec.hb) (hS a k6 hX.ha),k1,k2,k3,k4,k5,k6⟩
theorem F6.gr{F t:Nat}(h:F6 w F t n B L)(g:Gr w w'):F6 w' F t n B L:=h.touch (g.touch (λ_=>False)) (λ_ _ _ h=>h)
section
variable{F t:Nat}
theorem VXx(hO:F6 w F t n B L)(hT:AQ w)(k:Int):
  AY prog 226 #[pP t,iI k] w (.tuple #[iI (IW L k),.bool (WH L k)]):=by
 obtain⟨hg,h1,h2,v,vb,x,p,b,a,c0,c1,hV,hX,-⟩:=hO;rw[<-(Zop hg k).1,<-(Zop hg k).2];have HT:=hT;go_enter func226,ntmps226;go_wp2_with(go_at_call 235;refine(Qax hX HT k).mono ?_;rintro e w1 ⟨rfl,hg1⟩);go_ret2
 simp_all
theorem YWi(hO:F6 w F t n B L)(i:Int):AY prog 193 #[pP t,iI i] w (iI (AZ L 0 i)):=by
 obtain⟨hg,h1,h2,v,vb,x,p,b,a,c0,c1,hV,hX,-⟩:=hO;rw[<-Yht hg];go_enter func193,ntmps193;go_wp2_with(go_at_call 220;refine(Zde hX i).mono ?_;rintro e w1 ⟨rfl,hg1⟩);go_ret
 simp_all
theorem ZaO(hO:F6 w F t n B L)(i:Int):cQ 192 #[pP t,iI i] w (.bool (decide (0<=i)&&DO L i.toNat)):=by
 obtain⟨hg,h1,h2,v,vb,x,p,b,a,c0,c1,hV,hX,-⟩:=hO;rw[<-VN hg];go_enter func192,ntmps192;go_wp2_with(go_at_call 219;refine(X89 hV i).mono ?_;rintro e w1 ⟨rfl,rfl⟩);go_ret
 simp_all
theorem XcN(hO:F6 w F t n B L):cQ 186 #[pP t] w (iI (sizes L:Nat)):=by
 obtain⟨hg,h1,h2,v,vb,x,p,b,a,c0,c1,hV,hX,-⟩:=hO
 have HL:Hid (cnt (at_ (C3 n L)) (C3 n L).length=sizes L):=⟨by
  have:=TK hg n (ϑ n)
  grind [RY,JQ]⟩
 go_enter func186,ntmps186;go_wp2_with(go_at_call 216;refine(ZsP hX).mono ?_;rintro e w1 ⟨rfl,rfl⟩;rw[HL.o]);go_ret
 simp_all
end
open Go.Shelf
section
attribute [local go_sem] Oper.semAt_some
theorem JWx(k:Int)(w:World):cQ 185 #[.pointer none,iI k] w (.tuple #[.pointer none,iI 9]):=by
 refine(τ (n:=5)).1 ?_;refine callsIn_of_wp_marks func185 rfl trivial ?_ rfl;simp only[ntmps185,ζT,ζB,ζX,Nat.reduceAdd,Nat.reduceSub,ζL,ζK,ζZ,ζR,ζU,ζr];gi_wp2_with(refine⟨trivial,?_⟩;gi_at_call 84;refine(τ.2 (QOV _)).mono ?_;rintro e w1 ⟨rfl,rfl⟩);refine⟨.tuple #[.pointer none,iI 9],?_,rfl,rfl⟩;simp[results,f185,go_sem]
structure RA(W0:World)(v vb n:Nat)(L:List Ob)(j:Nat)(A:World):Prop where
 t:AB (λi=>i=vb\/W0.heap.size<=i) W0 A
 jl:j<=L.length
 vec:BA A v vb (C3 n (L.take j))
def V4V(w:World)(n:Nat)(L:List Ob)(k:Int)(e:Ending)(w':World):Prop:=
 Gr w w'/\((BM k=false/\e=.returned (.tuple #[.pointer none,iI 5]))\/(BM k=true/\∃t B:Nat,k=B/\e=.returned (.tuple #[pP t,iI 0])/\F6 w' w.heap.size t n B L))
theorem SM{b1 b2:Nat}(hE:Ext w m p1 b1 p2 b2 n L)(hT:AQ w)(k:Int)(hk:k<=9223372036854775807):
  Calls prog 185 #[pP m,iI k] w (V4V w n L k):=by
 have HT:=hT;obtain⟨Xq,Xo⟩:=hE.nb;have hn0:((n:Int)==0)=false:=ζy.2 Ω;clear hT;refine(τ (n:=5)).1 ?_;refine callsIn_of_wp_marks func185 rfl trivial ?_ rfl;simp only[ntmps185,ζT,ζB,ζX,Nat.reduceAdd,Nat.reduceSub,ζL,ζK,ζZ,ζR,ζU,ζr]
 gi_wp2_with(first
  | (refine⟨trivial,?_⟩;gi_at_call 84;refine(τ.2 (EX hE)).mono ?_;rintro e w1 ⟨rfl,rfl⟩)
  | (refine⟨trivial,?_⟩;gi_at_call 82;refine(τ.2 (VL n Xq Xo _)).mono ?_;rintro e w1 ⟨v,vb,rfl,G,Xi,hv,Xe⟩;have Xa:=Xi;have HP:=(ψ hv Xe);clear Xi hv Xe)
  | (refine⟨trivial,?_⟩;gi_at_call 144;refine(τ.2 (J5 (some ⟨m,0,none⟩))).mono ?_;rintro e w2 ⟨rfl,rfl⟩))
 obtain⟨X,hX⟩:∃X,X=w1.heap.size:=⟨_,rfl⟩;obtain⟨W0,J⟩:∃W0,W0=(w1.alloc (.cells #[.pointer (some ⟨v,0,none⟩)] 150)).alloc (.cells #[.pointer (some ⟨m,0,none⟩)] 93):=⟨_,rfl⟩;have N:Gr w1 W0:=by rw[J];exact((Gr.refl w1).alloc _).alloc _
 have hs0:W0.heap.size=X+2:=by rw[J,hX];simp
 have e0:W0.cell? ⟨X,0,none⟩=some (pP v):=by rw[J,hX];exact((Boxed.new w1 _ _).alloc _).cell
 have e1:W0.cell? ⟨X+1,0,none⟩=some (pP m):=by
  rw[J,hX];have:=Boxed.new (w1.alloc (.cells #[.pointer (some ⟨v,0,none⟩)] 150)) 93 (pP m);rw[χ]at this;exact this.cell
 have Xt:=G.size;have Xv:=Xa.hp;have Xr:=Xa.hb;have hz4:=HP.1;have hz5:=HP.2;rw[<-hX]at Xt Xv Xr;have o1:=hE.hm;have o2:=hE.v1.hp;have o3:=hE.v1.hb;have o4:=hE.v2.hp;have o5:=hE.v2.hb;have o6:=HT.lt;have Xc:=(G.trans N);have Xs:=(hE.gr (G.trans N));have Xp:=(Xa.gr N);have U:=hE.good;have I:=(ψ e0 e1);rw[<-J,<-hX];clear J hX N e0 e1;have Xx:RA W0 v vb n L 0 W0:=⟨AB.refl _ _,ζc _,by show BA W0 v vb (C3 n []);rw[ZPf];exact Xp⟩
 have tI:∀j A B,RA W0 v vb n L j A->AB (λi=>W0.heap.size<=i) A B->RA W0 v vb n L j B:=λj A B h t=>
  ⟨h.t.trans (t.mono (λi _ h=>.inr h)),h.jl,h.vec.touch t Ω Ω⟩
 refine S8 (s0:=0) rfl Ω (gf:=187) (lb:=#[pP (X+1)]) rfl trivial (enters_of func187 (by kernel_rfl) rfl)
  (Xix _ (X+1) m p1 b1 p2 b2 n L _) (λ_=>rfl)
  (RA W0 v vb n L) (λ_ _=>False) tI (λ_ _ _ h _=>h)
  (λj A h=>⟨Xs.touch h.t Ω Ω Ω Ω Ω,(Xc.tab HT.lt HT).touch' h.t Ω,(h.t.cell Ω Ω 0).trans I.2,h.jl⟩)
  Xx ?round ?done (λ_ _ _ _ h _=>h.elim)
 case round=>
  intro lp j x W3 hsz3 Y Z;dsimp only[GQ];gi_wp2;refine⟨Gr.refl _,λW4 ht4 hI4=>?_⟩
  have E:j<L.length:=by
   rcases δ j L.length with h|h
   ·exact h
   ·unfold EU at Z;rw[ζJ h]at Z;cases Z
  obtain rfl:x=L[j]:=by unfold EU at Z;rw[ω E]at Z;exact(Option.some.inj Z).symm
  have hsz':=U.sz _ (μ E);have Xu:=(Jw5 (n:=n) E);have c6:=(hI4.t.cell (b:=X) Ω Ω 0).trans I.1;clear Y ht4 Z;gi_wp2_with(refine⟨trivial,?_⟩;gi_at_call 214;refine(CallsIn.inRound lp (τ.2 (XBA hI4.vec _ _ Ω))).mono ?_;rintro e w5 ⟨rfl,Xf,Xb⟩);rw[<-Xu]at Xb;exact⟨Xf.mono (λi _ h=>by have h:i=vb:=h;omega),j+1,rfl,hI4.t.trans (Xf.mono (λi _ h=>.inl h)),by omega,Xb⟩
 case done=>
  rintro D j W3 hD rfl Y hK;have c6:=(Y.t.cell (b:=X) Ω Ω 0).trans I.1;have M:=Y.vec;rw[ζ8]at M;have HT3:=Y.t;have HK:=hK;have HD:=hD;have Xg:Gr w W3:=((Xc.touch (λ_=>False)).trans' Y.t (λi hi h=>by omega)).gr;have Xj:=Xg;have hz6:=Y.t.size;clear Y hK hD Xg;cases hb:BM k with
  | false=>
   gi_wp2_with(refine⟨trivial,?_⟩;gi_at_call 215;refine(τ.2 (XFA M k hb hk)).mono ?_;rintro e w4 ⟨rfl,rfl⟩);refine⟨by simp,.inl ⟨_,_,rfl,run_takeDeferred HK,?_⟩⟩;refine⟨.tuple #[.pointer none,iI 5],?_,((Xj.touch (λ_=>False)).trans' (DB _ D _ (ϑ D)) (λi hi h=>by have:=HD;omega)).gr,.inl ⟨hb,rfl⟩⟩;simp[results,f185,go_sem]
  | true=>
   have hbp:=DI hb;obtain⟨B,rfl⟩:∃B:Nat,k=B:=⟨k.toNat,by omega⟩;gi_wp2_with(refine⟨trivial,?_⟩;gi_at_call 215;refine(τ.2 (Zv3 M B hb)).mono ?_;rintro e w4 ⟨x,p,b,a,rfl,V,Xl,Xh,Xm,Xd,Xk⟩;have c64:=(V.cell (AT c6) 0).trans c6;have Xn:=Xl;have HZ4:=(ψ Xh (ψ Xm (ψ Xd Xk)));clear Xl Xh Xm Xd Xk)
   have Xw:(w4.alloc (.cells #[.pointer (some ⟨v,0,none⟩),.pointer (some ⟨x,0,none⟩)] 273)).heap[D]?=some (.deferred (some [])):=
    (((V.alloc _).block (ζp.1 HK).1)).trans HK
   have tt:=((Xj.trans (V.alloc (.cells #[.pointer (some ⟨v,0,none⟩),.pointer (some ⟨x,0,none⟩)] 273))).touch (λ_=>False)).trans' (DB _ D (.deferred none) (ϑ D)) (λi hi h=>by have:=HD;omega);refine⟨by simp,.inl ⟨_,_,rfl,run_takeDeferred Xw,?_⟩⟩;refine⟨.tuple #[pP w4.heap.size,iI 0],?_,tt.gr,.inr ⟨hb,w4.heap.size,B,rfl,rfl,?_⟩⟩
   ·simp[results,f185,go_sem]
   ·have t5:=DX (w4.alloc (.cells #[.pointer (some ⟨v,0,none⟩),.pointer (some ⟨x,0,none⟩)] 273)) D (.deferred none);have hs4:=V.size;have hdl:=(ζp.1 HK).1;have hl:w4.heap.size<(w4.alloc (.cells #[.pointer (some ⟨v,0,none⟩),.pointer (some ⟨x,0,none⟩)] 273)).heap.size:=by rw[χ];omega
    exact⟨U,κ hl t5.size,by omega,v,vb,x,p,b,a,(t5.cell (b:=w4.heap.size) hl Ω 0).trans (ζH ..),(t5.cell (b:=w4.heap.size) hl Ω 1).trans (ζH ..),
     ((M.gr V).gr ((Gr.refl _).alloc _)).touch t5 Ω Ω,(Xn.gr ((Gr.refl _).alloc _)).touch t5 Ω Ω Ω Ω,by omega,by omega,by omega,by omega,by omega,by omega⟩
end
def B7:List Ob->Nat->Nat
 | [],_=>0
 | o :: r,q=>if q<o.2 then 0 else B7 r (q-o.2)+1
theorem VBJ:∀{q:Nat},q<sizes L->∃hj:B7 L q<L.length,∃i,i<(L[B7 L q]'hj).2/\q=sizes (L.take (B7 L q))+i/\EA L q=some ((L[B7 L q]'hj).1+i):=by
 induction L with
 | nil=>intro q h;simp[sizes]at h
 | cons o r ih=>
  intro q h;by_cases hq:q<o.2
  ·have e:B7 (o :: r) q=0:=θ hq;refine⟨by rw[e];simp,q,?_⟩;simp only[e];exact⟨hq,by simp[sizes],by unfold EA;simp_all⟩
  ·have e:B7 (o :: r) q=B7 r (q-o.2)+1:=φ hq;unfold sizes at h;obtain⟨hj,i,h1,h2,h3⟩:=ih (q:=q-o.2) Ω;refine⟨by grind,i,?_⟩;simp only[e];exact⟨h1,by simp only[ξK,sizes];omega,by unfold EA;grind⟩
theorem VNq(hj:j<L.length)(hi:i<L[j].2):B7 L (sizes (L.take j)+i)=j:=by
 induction L generalizing j with
 | nil=>simp at hj
 | cons o r ih=>
  cases j with
  | zero=>
   have hi:i<o.2:=hi;simp only[List.take_zero,sizes,ξq,B7]
   simp_all
  | succ j=>
   have:=ih (j:=j) (by grind) (by simp_all);simp only[ξK,sizes,B7]
   grind
theorem Zut(L:List Ob)(j:Nat):sizes (L.take j)<=sizes L:=by
 induction L generalizing j with
 | nil=>simp[sizes]
 | cons o r ih=>
  cases j with
  | zero=>simp[sizes]
  | succ j=>have:=ih j;simp only[ξK,sizes];omega
theorem JP(hj:j<L.length):sizes (L.take j)+L[j].2<=sizes L:=by
 rw[<-FF hj];grind [Zut]
def toV(L:List Ob)(base a:Int):Int:=if A1 L a<L.length then base+AZ L 0 a else 0
def toE(L:List Ob)(a:Int):Int:=if A1 L a<L.length then 0 else 6
theorem RU(h:AP n L)(hj:j<L.length)(h1:(L[j].1:Int)<=a)(h2:a<L[j].1+L[j].2):
  toV L base a=base+sizes (L.take j)+a-(L[j].1:Nat)/\toE L a=0:=by
 have e:=ON h hj h1 h2;have hs:=Yhz h hj (i:=(a-L[j].1).toNat) Ω;rw[show (L[j].1:Int)+((a-L[j].1).toNat:Nat)=a by omega]at hs;unfold toV toE;omega
theorem OS(h:¬A1 L a<L.length):toV L base a=0/\toE L a=6:=by
 unfold toV toE;omega
theorem QFq(a:Int):(decide (0<=a)&&DO L a.toNat)=decide (A1 L a<L.length):=by
 grind [ξ,Q5g,ζ,O7]
def inF(L:List Ob)(base b:Int):Bool:=decide (base<=b)&&decide (b<base+(sizes L:Nat))
def CQ(L:List Ob)(base b:Int):Int:=if inF L base b then IW L (b-base)else 0
def NA(L:List Ob)(base b:Int):Int:=if inF L base b then (B7 L (b-base).toNat:Nat)else 0
def F4(L:List Ob)(base b:Int):Int:=if inF L base b then 0 else 11
theorem FH{b:Int}:inF L base b=true↔base<=b/\b<base+(sizes L:Nat):=by simp[inF]
theorem UP{b:Int}(h:¬(base<=b/\b<base+(sizes L:Nat))):inF L base b=false:=by
 cases e:inF L base b with
 | false=>rfl
 | true=>exact absurd (FH.1 e) h
theorem Z2d(hj:j<L.length)(hi:i<L[j].2):IW L ((sizes (L.take j)+i:Nat):Int)=(L[j].1+i:Nat):=by
 unfold IW;rw[φ Ω,υ,XEK hj hi];rfl
theorem QCo{b:Int}(hj:j<L.length)(h1:base+(sizes (L.take j):Nat)<=b)(h2:b<base+(sizes (L.take j):Nat)+(L[j].2:Nat)):
  CQ L base b=(L[j].1:Nat)+b-(base+(sizes (L.take j):Nat))/\NA L base b=j/\F4 L base b=0:=by
 have hm:=JP hj;have Y:inF L base b=true:=FH.2 ⟨by omega,by omega⟩;obtain⟨i,hi⟩:∃i:Nat,b-base=((sizes (L.take j)+i:Nat):Int):=⟨(b-base).toNat-sizes (L.take j),by omega⟩;have X:i<L[j].2:=Ω
 unfold CQ NA F4;rw[Y,θ rfl,θ rfl,θ rfl,hi,Z2d hj X,υ,VNq hj X];omega
theorem MB{b:Int}(h:inF L base b=false):CQ L base b=0/\NA L base b=0/\F4 L base b=11:=by
 unfold CQ NA F4;simp_all
theorem Zeb(h:AP n L){b:Int}(hb:inF L base b=true):∃j,∃hj:j<L.length,NA L base b=j/\(L[j].1:Int)<=CQ L base b/\CQ L base b<L[j].1+L[j].2/\A1 L (CQ L base b)=j/\F4 L base b=0:=by
 obtain⟨h1,h2⟩:=FH.1 hb;obtain⟨hj,i,hi,e,-⟩:=VBJ (L:=L) (q:=(b-base).toNat) Ω;obtain⟨a1,a2,a3⟩:=QCo (base:=base) (b:=b) hj Ω Ω;refine⟨_,hj,a2,by omega,by omega,ON h hj Ω Ω,a3⟩
theorem Ye3{o:Ob}(h:∀y∈M,¬o.1<y.1):DJ M o=M++[o]:=by
 induction M with
 | nil=>rfl
 | cons y r ih=>
  unfold DJ
  grind
theorem Zne(h:AP n L)(hj:j<L.length):C2 (L.take j) n (L[j].1:Nat) (L[j].2:Nat)=L.take (j+1):=by
 have hs:=h.sz _ (μ hj)
 have hle:∀o∈L.take j,o.1+o.2<=L[j].1:=λo ho=>by
  obtain⟨i,hi,X,rfl⟩:=N9 ho;exact h.at hi hj X
 have hc:G6 (L.take j) (L[j].1:Nat) (L[j].2:Nat)=false:=by
  cases e:G6 (L.take j) (L[j].1:Nat) (L[j].2:Nat)with
  | false=>rfl
  | true=>obtain⟨o,ho,h1,h2⟩:=RI.1 e;grind
 have he:DA (L.take j) n (L[j].1:Nat) (L[j].2:Nat)=0:=by
  unfold DA;grind
 unfold C2;rw[θ he,υ,υ,Ye3 (λy hy=>by grind),ζY hj]
def Fwd(w:World)(F f n B:Nat)(base:Nat)(L:List Ob):Prop:=
 f<w.heap.size/\F<=f/\base<2147483648/\∃t o p1 b1 p2 b2,w.cell? ⟨f,0,none⟩=some (pP t)/\w.cell? ⟨f,1,none⟩=some (pP o)/\w.cell? ⟨f,2,none⟩=some (iI base) ∧
  F6 w F t n B L/\Ext w o p1 b1 p2 b2 n L/\F<=o/\F<=p1/\F<=b1/\F<=p2/\F<=b2
theorem Fwd.touch{F base:Nat}(h:Fwd w F f n B base L)(t:AB S w w')(hS:∀k,F<=k->k<w.heap.size->¬S k):Fwd w' F f n B base L:=by
 obtain⟨h1,h2,h3,tt,o,p1,b1,p2,b2,c0,c1,c2,hO,hE,k1,k2,k3,k4,k5⟩:=h;exact⟨κ h1 t.size,h2,h3,tt,o,p1,b1,p2,b2,(t.cell h1 (hS f h2 h1) 0).trans c0,(t.cell h1 (hS f h2 h1) 1).trans c1,(t.cell h1 (hS f h2 h1) 2).trans c2,hO.touch t hS,hE.touch t (hS _ k1 hE.hm) (hS _ k2 hE.v1.hp) (hS _ k3 hE.v1.hb) (hS _ k4 hE.v2.hp) (hS _ k5 hE.v2.hb),k1,k2,k3,k4,k5⟩
theorem Fwd.gr{F base:Nat}(h:Fwd w F f n B base L)(g:Gr w w'):Fwd w' F f n B base L:=h.touch (g.touch (λ_=>False)) (λ_ _ _ h=>h)
theorem Fwd.good{F base:Nat}(h:Fwd w F f n B base L):AP n L/\n<=1048576:=by
 obtain⟨_,_,_,_,_,_,_,_,_,_,_,_,hO,hE,_⟩:=h;exact⟨hE.good,hE.nb.2⟩
theorem XQ(h:AP n L)(hn:n<=1048576)(a:Int):0<=AZ L 0 a/\AZ L 0 a<=1048576:=by
 rw[<-RE h];have:J4 L n 0 a<=n:=EJ _ _;omega
section
variable{F base:Nat}
theorem QR(hF:Fwd w F f n B base L)(a:Int):AY prog 147 #[pP f,iI a] w (.tuple #[iI (toV L base a),iI (toE L a)]):=by
 obtain⟨hg,hn⟩:=hF.good;obtain⟨h1,h2,h3,t,o,p1,b1,p2,b2,c0,c1,c2,hO,hE,-⟩:=hF;have Z:=XQ hg hn a;have hl:=QFq (L:=L) a;by_cases hf:A1 L a<L.length
 ·have HV:Hid (toV L base a=base+AZ L 0 a/\toE L a=0):=⟨by unfold toV toE;omega⟩;have HL:Hid ((decide (0<=a)&&DO L a.toNat)=true):=⟨by simp_all⟩;rw[HV.o.1,HV.o.2];obtain⟨ov,X⟩:∃ov,ov=AZ L 0 a:=⟨_,rfl⟩;rw[<-X]at Z⊢;have J:=X.symm;have z0:∀xs m,(grow w xs m).cell? ⟨f,0,none⟩=some (pP t):=λxs m=>((grown w xs m).cell h1 0).trans c0;have z2:∀xs m,(grow w xs m).cell? ⟨f,2,none⟩=some (iI base):=λxs m=>((grown w xs m).cell h1 2).trans c2;have hwr:IntKind.i64.wrap ((base:Int)+ov)=(base:Int)+ov:=ζu _ Ω;clear hl hf X;unfold AY;go_enter func147,ntmps147;go_wp2_with(go_at_call 192;refine(ZaO hO a).mono ?_;rintro e w1 ⟨rfl,rfl⟩;rw[HL.o]);refine I3 (by kernel_rfl) (by kernel_rfl) ?_
  repeat(go_big_quiet_step ((go_at_call 193;have hc:=λxs m=>YWi (hO.gr (grown w xs m)) a;simp only[J]at hc;exact AY.grown (hc _ _))))
  refine ζb ?_;intro _ U;obtain⟨⟨xs,nq⟩,Y⟩:=U;subst Y;go_wp2;go_ret2;exact⟨rfl,grown w _ _⟩
 ·have HV:=ι (OS (base:=base) hf);have HL:Hid ((decide (0<=a)&&DO L a.toNat)=false):=⟨by simp_all⟩;rw[HV.o.1,HV.o.2];unfold AY;go_enter func147,ntmps147;go_wp2_with(go_at_call 192;refine(ZaO hO a).mono ?_;rintro e w1 ⟨rfl,rfl⟩;rw[HL.o]);go_ret2;exact⟨rfl,Gr.refl _⟩
theorem ZC(hF:Fwd w F f n B base L):cQ 163 #[pP f] w (iI base):=by
 obtain⟨h1,h2,h3,t,o,p1,b1,p2,b2,c0,c1,c2,-⟩:=hF;go_enter func163,ntmps163;go_wp2;go_ret
 simp_all
theorem ZJ(hF:Fwd w F f n B base L):cQ 160 #[pP f] w (iI (sizes L:Nat)):=by
 obtain⟨h1,h2,h3,t,o,p1,b1,p2,b2,c0,c1,c2,hO,-⟩:=hF;go_enter func160,ntmps160;go_wp2_with(go_at_call 186;refine(XcN hO).mono ?_;rintro e w1 ⟨rfl,rfl⟩);go_ret
 simp_all
theorem MW(hF:Fwd w F f n B base L):AY prog 143 #[pP f] w (iI ((base:Int)+(sizes L:Nat))):=by
 obtain⟨hg,hn⟩:=hF.good;have hs:=FW hg;obtain⟨h1,h2,h3,t,o,p1,b1,p2,b2,c0,c1,c2,hO,-⟩:=hF;have z0:∀xs m,(grow w xs m).cell? ⟨f,0,none⟩=some (pP t):=λxs m=>((grown w xs m).cell h1 0).trans c0;have z2:∀xs m,(grow w xs m).cell? ⟨f,2,none⟩=some (iI base):=λxs m=>((grown w xs m).cell h1 2).trans c2;have hwr:IntKind.i64.wrap ((base:Int)+(sizes L:Nat))=(base:Int)+(sizes L:Nat):=ζu _ Ω;go_enter func143,ntmps143;go_wp2;refine I3 (by kernel_rfl) (by kernel_rfl) ?_
 repeat(go_big_quiet_step ((go_at_call 186;have hc:=λxs m=>XcN (hO.gr (grown w xs m));exact AY.grown_same (hc _ _))))
 refine ζb ?_;intro _ X;obtain⟨⟨xs,nq⟩,hw''⟩:=X;go_wp2;go_ret;exact⟨rfl,grown w _ _⟩
theorem MX(hF:Fwd w F f n B base L)(hT:AQ w)(b:Int)(_hb:b<=9223372036854775807):AY prog 201 #[pP f,iI b] w (.tuple #[iI (CQ L base b),iI (F4 L base b)]):=by
 obtain⟨hg,hn⟩:=hF.good;have hs:=FW hg;have HF:=hF;obtain⟨h1,h2,h3,t,o,p1,b1,p2,b2,c0,c1,c2,hO,-⟩:=hF;have HO:=hO;by_cases hb1:b<base
 ·have E:=ι (MB (UP (L:=L) (base:=base) (b:=b) Ω));rw[E.o.1,E.o.2.2];unfold AY;go_enter func201,ntmps201;go_wp2;go_ret2;exact⟨rfl,Gr.refl _⟩
 ·by_cases hb2:(base:Int)+(sizes L:Nat)<=b
  ·have E:=ι (MB (UP (L:=L) (base:=base) (b:=b) Ω));rw[E.o.1,E.o.2.2];unfold AY;go_enter func201,ntmps201;go_wp2_with(go_at_call 143;refine(MW HF).mono ?_;rintro e w1 ⟨rfl,X⟩);go_ret2
   simp_all
  ·have hin:inF L base b=true:=FH.2 ⟨by omega,by omega⟩;have E:Hid (CQ L base b=IW L (b-base)/\F4 L base b=0):=⟨by unfold CQ F4;simp_all⟩;rw[E.o.1,E.o.2];obtain⟨q,hq⟩:∃q,q=b-(base:Int):=⟨_,rfl⟩;have hwr:IntKind.i64.wrap (b-(base:Int))=b-(base:Int):=ζu _ Ω;unfold AY;go_enter func201,ntmps201;go_wp2_with(go_at_call 143;refine(MW HF).mono ?_;rintro e w1 ⟨rfl,X⟩);have z0:∀xs m,(grow w1 xs m).cell? ⟨f,0,none⟩=some (pP t):=λxs m=>((X.trans (grown w1 xs m)).cell h1 0).trans c0;have z2:∀xs m,(grow w1 xs m).cell? ⟨f,2,none⟩=some (iI base):=λxs m=>((X.trans (grown w1 xs m)).cell h1 2).trans c2;refine I3 (by kernel_rfl) (by kernel_rfl) ?_
   repeat(go_big_quiet_step ((go_at_call 226;have hc:=λxs m=>VXx (HO.gr (X.trans (grown w1 xs m))) ((X.trans (grown w1 xs m)).tab hT.lt hT) (b-(base:Int));exact AY.grown (hc _ _))))
   refine ζb ?_;intro _ Z;obtain⟨⟨xs,nq⟩,Y⟩:=Z;subst Y;go_wp2;go_ret2;exact⟨rfl,X.trans (grown w1 _ _)⟩
end
section
attribute [local go_sem] Oper.semAt_some
theorem VEu(k b:Int)(w:World):cQ 142 #[.pointer none,iI k,iI b] w (.tuple #[.pointer none,iI 9]):=by
 refine(τ (n:=5)).1 ?_;refine callsIn_of_wp_marks func142 rfl trivial ?_ rfl;simp only[ntmps142,ζT,ζB,ζX,Nat.reduceAdd,Nat.reduceSub,ζL,ζK,ζZ,ζR,ζU,ζr];gi_wp2_with(refine⟨trivial,?_⟩;gi_at_call 185;refine(τ.2 (JWx k _)).mono ?_;rintro e w1 ⟨rfl,rfl⟩);refine⟨.tuple #[.pointer none,iI 9],?_,rfl,rfl⟩;simp[results,f142,go_sem]
structure Q0(W0:World)(o p1 b1 p2 b2 n:Nat)(L:List Ob)(j:Nat)(A:World):Prop where
 t:AB (λi=>AN o b1 b2 i\/W0.heap.size<=i) W0 A
 jl:j<=L.length
 ext:Ext A o p1 b1 p2 b2 n (L.take j)
def F3(b:Int):Bool:=decide (0<=b)&&decide (b<2147483648)
def VWZ(w:World)(n:Nat)(L:List Ob)(k b:Int)(e:Ending)(w':World):Prop:=
 Gr w w'/\(((BM k&&F3 b)=false/\e=.returned (.tuple #[.pointer none,iI 5]))\/((BM k&&F3 b)=true/\∃f B base:Nat,k=B/\b=base/\e=.returned (.tuple #[pP f,iI 0])/\Fwd w' w.heap.size f n B base L))
theorem XJm{b1 b2:Nat}(hE:Ext w m p1 b1 p2 b2 n L)(hT:AQ w)(k b:Int)(hk:k<=9223372036854775807)(hbad:(BM k&&F3 b)=false):
  Calls prog 142 #[pP m,iI k,iI b] w (VWZ w n L k b):=by
 have HT:=hT;have HB:=hbad;refine(τ (n:=5)).1 ?_;refine callsIn_of_wp_marks func142 rfl trivial ?_ rfl;simp only[ntmps142,ζT,ζB,ζX,Nat.reduceAdd,Nat.reduceSub,ζL,ζK,ζZ,ζR,ζU,ζr];cases hok:BM k with
 | false=>
  gi_wp2_with(refine⟨trivial,?_⟩;gi_at_call 185;refine(τ.2 (SM hE HT k hk)).mono ?_;rintro e w1 ⟨X,⟨-,rfl⟩|⟨hb,-⟩⟩;rotate_left;(rw[hok]at hb;cases hb);have Z:=X);refine⟨.tuple #[.pointer none,iI 5],?_,Z,.inl ⟨HB,rfl⟩⟩;simp[results,f142,go_sem]
 | true=>
  rw[hok,ξ0]at hbad;by_cases h0:b<0
  ·gi_wp2_with(refine⟨trivial,?_⟩;gi_at_call 185;refine(τ.2 (SM hE HT k hk)).mono ?_;rintro e w1 ⟨X,⟨hb,-⟩|⟨-,t,B,Y,rfl,hO⟩⟩;(rw[hok]at hb;cases hb));refine⟨.tuple #[.pointer none,iI 5],?_,X,.inl ⟨HB,rfl⟩⟩;simp[results,f142,go_sem]
  ·have h1:2147483648<=b:=by
    unfold F3 at hbad;rw[ξ Ω,ξ0]at hbad;have:=of_decide_eq_false hbad;omega
   gi_wp2_with(refine⟨trivial,?_⟩;gi_at_call 185;refine(τ.2 (SM hE HT k hk)).mono ?_;rintro e w1 ⟨X,⟨hb,-⟩|⟨-,t,B,Y,rfl,hO⟩⟩;(rw[hok]at hb;cases hb));refine⟨.tuple #[.pointer none,iI 5],?_,X,.inl ⟨HB,rfl⟩⟩;simp[results,f142,go_sem]
theorem V1{b1 b2:Nat}(hE:Ext w m p1 b1 p2 b2 n L)(hT:AQ w)(k b:Int)(hk:k<=9223372036854775807):
  Calls prog 142 #[pP m,iI k,iI b] w (VWZ w n L k b):=by
 cases hgo:(BM k&&F3 b)with
 | false=>exact XJm hE hT k b hk hgo
 | true=>
  obtain⟨Xf,Xc⟩:=ζ7.1 hgo;have Xn:0<=b/\b<2147483648:=by unfold F3 at Xc;simpa using Xc
  obtain⟨base,rfl⟩:∃base:Nat,b=base:=⟨b.toNat,by omega⟩;obtain⟨hb0,hb1⟩:=Xn;have d0:decide ((base:Int)<0)=false:=ζ Ω;have d1:decide ((2147483648:Int)<=(base:Int))=false:=ζ Ω;have HO:=Xf;have HE:=hE;have HT:=hT;obtain⟨Xs,Xq⟩:=hE.nb;have hTl:=hT.lt;clear hE hT Xf Xc;refine(τ (n:=5)).1 ?_;refine callsIn_of_wp_marks func142 rfl trivial ?_ rfl;simp only[ntmps142,ζT,ζB,ζX,Nat.reduceAdd,Nat.reduceSub,ζL,ζK,ζZ,ζR,ζU,ζr]
  gi_wp2_with(first
   | (refine⟨trivial,?_⟩;gi_at_call 185;refine(τ.2 (SM HE HT k hk)).mono ?_;rintro e w1 ⟨Xb,⟨hb,-⟩|⟨-,t,B,Xh,rfl,hO⟩⟩;(rw[HO]at hb;cases hb);have Xr:=hO;have Xz:=Xh;clear hO Xh)
   | (refine⟨trivial,?_⟩;gi_at_call 84;refine(τ.2 (EX (HE.gr Xb))).mono ?_;rintro e w2 ⟨rfl,rfl⟩)
   | (refine⟨trivial,?_⟩;gi_at_call 46;refine(τ.2 (OF n Xs Xq _)).mono ?_;rintro e w2 ⟨o,q1,r1,q2,r2,rfl,Xa,Xi,Xm,Xp,Xg,Xo,Xk⟩;have U:=Xi;have HX:=(ψ Xm (ψ Xp (ψ Xg (ψ Xo Xk))));clear Xi Xm Xp Xg Xo Xk)
   | (refine⟨trivial,?_⟩;gi_at_call 144;refine(τ.2 (J5 (some ⟨m,0,none⟩))).mono ?_;rintro e w3 ⟨rfl,rfl⟩))
  obtain⟨X,hX⟩:∃X,X=w2.heap.size:=⟨_,rfl⟩;obtain⟨W0,V⟩:∃W0,W0=(w2.alloc (.cells #[.pointer (some ⟨o,0,none⟩)] 93)).alloc (.cells #[.pointer (some ⟨m,0,none⟩)] 93):=⟨_,rfl⟩;have I:Gr w2 W0:=by rw[V];exact((Gr.refl w2).alloc _).alloc _
  have hs0:W0.heap.size=X+2:=by rw[V,hX];simp
  have e0:W0.cell? ⟨X,0,none⟩=some (pP o):=by rw[V,hX];exact((Boxed.new w2 _ _).alloc _).cell
  have e1:W0.cell? ⟨X+1,0,none⟩=some (pP m):=by
   rw[V,hX];have:=Boxed.new (w2.alloc (.cells #[.pointer (some ⟨o,0,none⟩)] 93)) 93 (pP m);rw[χ]at this;exact this.cell
  have Xu:=Xb.size;have Xx:=Xa.size;have o1:=HE.hm;have o2:=HE.v1.hp;have o3:=HE.v1.hb;have o4:=HE.v2.hp;have o5:=HE.v2.hb;have j1:=U.hm;have j2:=U.v1.hp;have j3:=U.v1.hb;have j4:=U.v2.hp;have j5:=U.v2.hb;rw[<-hX]at Xx j1 j2 j3 j4 j5;have M:=((Xb.trans Xa).trans I);have Xt:=(HE.gr M);have Xy:=(U.gr I);have Yd:=(Xa.trans I);have N:=HE.good;have E:=(ψ e0 e1);have HW1:=(show w.heap.size<=w1.heap.size from Xu);rw[<-V,<-hX];clear V hX I e0 e1;have Y:∀i,AN o r1 r2 i->w1.heap.size<=i/\i<X:=λi h=>by rcases h with rfl|rfl|rfl <;> omega
  have Ye:Q0 W0 o q1 r1 q2 r2 n L 0 W0:=⟨AB.refl _ _,ζc _,Xy⟩
  have tI:∀j A B,Q0 W0 o q1 r1 q2 r2 n L j A->AB (λi=>W0.heap.size<=i) A B->Q0 W0 o q1 r1 q2 r2 n L j B:=λj A B h t=>
   ⟨h.t.trans (t.mono (λi _ h=>.inr h)),h.jl,h.ext.touch t Ω Ω Ω Ω Ω⟩
  refine S8 (s0:=0) rfl Ω (gf:=187) (lb:=#[pP (X+1)]) rfl trivial (enters_of func187 (by kernel_rfl) rfl)
   (Xix _ (X+1) m p1 b1 p2 b2 n L _) (λ_=>rfl)
   (Q0 W0 o q1 r1 q2 r2 n L) (λ_ _=>False) tI (λ_ _ _ h _=>h)
   (λj A h=>⟨Xt.touch h.t (λh=>by rcases h with h|h;have:=Y _ h;omega;omega) (λh=>by rcases h with h|h;have:=Y _ h;omega;omega) (λh=>by rcases h with h|h;have:=Y _ h;omega;omega) (λh=>by rcases h with h|h;have:=Y _ h;omega;omega) (λh=>by rcases h with h|h;have:=Y _ h;omega;omega),
    (M.tab HT.lt HT).touch' h.t (λh=>by rcases h with h|h;have:=Y _ h;omega;omega),(h.t.cell Ω (λh=>by rcases h with h|h;have:=Y _ h;omega;omega) 0).trans E.2,h.jl⟩)
   Ye ?round ?done (λ_ _ _ _ h _=>h.elim)
  case round=>
   intro lp j x W3 hsz3 Z J;dsimp only[GQ];gi_wp2;refine⟨Gr.refl _,λW4 ht4 hI4=>?_⟩
   have G:j<L.length:=by
    rcases δ j L.length with h|h
    ·exact h
    ·unfold EU at J;rw[ζJ h]at J;cases J
   obtain rfl:x=L[j]:=by unfold EU at J;rw[ω G]at J;exact(Option.some.inj J).symm
   have hsz':=N.sz _ (μ G);have Xv:=(Zne N G);have c6:=(hI4.t.cell (b:=X) Ω (λh=>by rcases h with h|h;have:=Y _ h;omega;omega) 0).trans E.1;have Xw:=((M.tab HT.lt HT).touch' hI4.t (λh=>by rcases h with h|h;have:=Y _ h;omega;omega));clear Z ht4 J;gi_wp2_with(refine⟨trivial,?_⟩;gi_at_call 177;refine(CallsIn.inRound lp (τ.2 (Zc1 hI4.ext Xw _ _))).mono ?_;rintro e w5 ⟨rfl,Xj,Xd⟩);rw[Xv]at Xd;exact⟨Xj.mono (λi _ h=>by have:=Y _ h;omega),j+1,rfl,hI4.t.trans (Xj.mono (λi _ h=>.inl h)),by omega,Xd⟩
  case done=>
   rintro D j W3 hD rfl Z hK;have c6:=(Z.t.cell (b:=X) Ω (λh=>by rcases h with h|h;have:=Y _ h;omega;omega) 0).trans E.1;have Xe:=Z.ext;rw[ζ8]at Xe;have Yb:=((Yd.touch (λi=>w1.heap.size<=i)).trans' Z.t (λi hi h=>by rcases h with h|h;exact(Y _ h).1;omega));have HK:=hK;have HD:=hD;have Xl:Gr w W3:=((M.touch (λ_=>False)).trans' Z.t (λi hi h=>by rcases h with h|h;have:=Y _ h;omega;omega)).gr;have Ya:=Xl;have hz6:=Z.t.size;clear Z hK hD Xl;gi_wp2;obtain⟨O,hO⟩:∃O:Obj,O=.cells #[pP t,pP o,iI base] 257:=⟨_,rfl⟩;rw[<-hO];have Yc:(W3.alloc O).heap[D]?=some (.deferred (some [])):=(((Gr.refl W3).alloc _).block (ζp.1 HK).1).trans HK;have tt:=((Ya.alloc O).touch (λ_=>False)).trans' (DB _ D (.deferred none) (ϑ D)) (λi hi h=>by have:=HD;have:=M.size;omega);refine⟨by simp,.inl ⟨_,_,rfl,run_takeDeferred Yc,?_⟩⟩;refine⟨.tuple #[pP W3.heap.size,iI 0],?_,tt.gr,.inr ⟨hgo,W3.heap.size,B,base,Xz,rfl,rfl,?_⟩⟩
   ·simp[results,f142,go_sem]
   ·have t5:=DX (W3.alloc O) D (.deferred none);have hdl:=(ζp.1 HK).1;have hl:W3.heap.size<(W3.alloc O).heap.size:=by rw[χ];omega
    subst hO
    exact⟨κ hl t5.size,by omega,by omega,t,o,q1,r1,q2,r2,(t5.cell (b:=W3.heap.size) hl Ω 0).trans (ζH ..),(t5.cell (b:=W3.heap.size) hl Ω 1).trans (ζH ..),(t5.cell (b:=W3.heap.size) hl Ω 2).trans (ζH ..),
     Xr.touch ((Yb.trans (((Gr.refl W3).alloc _).touch _)).trans' t5 (λi hi h=>by omega)) (λk _ h1 h2=>by omega),(Xe.gr ((Gr.refl _).alloc _)).touch t5 Ω Ω Ω Ω Ω,by omega,by omega,by omega,by omega,by omega⟩
end
end Go.Proofs.YtggjoonlcjjgkaaGreatDoor
