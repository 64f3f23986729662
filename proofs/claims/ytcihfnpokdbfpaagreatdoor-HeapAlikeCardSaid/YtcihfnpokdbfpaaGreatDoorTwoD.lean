/- Lemmas. -/
import Derived.Test.YtcihfnpokdbfpaaGreatDoorTwoC
namespace Go.Proofs.YtcihfnpokdbfpaaGreatDoor
open _root_.Go.Proofs.Tryz
set_option maxHeartbeats 3200000
set_option maxRecDepth 100000
open Go.RowKit Word
variable{held:Bool}{a base:Int}{X Y:Int->Prop}{l:List Bool}{O rs:List Int}{L M:List Ob}{cs:List Value}{B BASE K N R b c fuel hi i j k lo m m' n n' off p q r x y z:Nat}{spare:Nat->Bool}{F:Nat->Nat}{Q S:Nat->Prop}{H:Type}{u v v':Vm}{w w' w1 wr:World}
def Z8(v:Vm)(a b:Int):Prop:=v.rdE a=0/\∃i:Nat,(i:Int)<(v.rdH a).p/\v.ptE a i=0/\v.ptV a i≠0/\b=(v.ptV a i:Nat)
def Rch(v:Vm)(rs:List Int)(a:Int):Prop:=∀P:Int->Prop,(∀r∈rs,r≠0->P r)->(∀a b,P a->Z8 v a b->P b)->P a
theorem Rch.root{r:Int}(h:r∈rs)(h0:r≠0):Rch v rs r:=λ_ h1 _=>h1 r h h0
theorem Rch.step{b:Int}(h:Rch v rs a)(hp:Z8 v a b):Rch v rs b:=λP h1 h2=>h2 a b (h P h1 h2) hp
def Vm.osz(v:Vm)(a:Int):Int:=CD (v.rdH a)
structure DX(v:Vm)(rs:List Int)(n:Nat):Prop where
 rd:∀a,Rch v rs a->v.rdE a=0
 pt:∀a,Rch v rs a->∀i:Nat,(i:Int)<(v.rdH a).p->v.ptE a i=0
 rm:∀a,Rch v rs a->a+v.osz a<=n
 dj:∀a b,Rch v rs a->Rch v rs b->a=b\/a+v.osz a<=b\/b+v.osz b<=a
def Hs(L:List Ob)(a:Int):Prop:=∃o∈L,(o.1:Int)=a
structure Mk(v:Vm)(rs:List Int)(n:Nat)(L:List Ob):Prop where
 good:AS n L
 ats:∀o∈L,Rch v rs o.1/\v.rdE o.1=0/\(o.2:Int)=v.osz o.1
theorem Mk.nil(v:Vm)(rs:List Int)(n:Nat):Mk v rs n []:=⟨AS.nil n,λ_ h=>by cases h⟩
theorem DQ(h:v.rdE a=0):0<a/\1<=v.osz a/\v.osz a<=256:=by
 obtain⟨h0,-,p,f,k,e,hs⟩:=GP h;refine⟨h0,?_⟩;unfold Vm.osz;rw[e,show CD ⟨p,f,k⟩=1+(p:Int)+f+k from θ (DM hs)];omega
theorem Mk.hs(h:Mk v rs n L)(ha:Hs L a):Rch v rs a/\v.rdE a=0:=by
 obtain⟨o,ho,rfl⟩:=ha;exact⟨(h.ats o ho).1,(h.ats o ho).2.1⟩
theorem QH9{b:Int}(hr:v.rdE a=0)(he:DL L n a (v.osz a)=0):Hs (DC L n a (v.osz a)) b↔b=a\/Hs L b:=by
 have h0:=(DQ hr).1;unfold DC Hs;rw[θ he];constructor
 ·rintro⟨o,ho,rfl⟩;rcases G0.1 ho with rfl|ho
  ·left;omega
  grind
 ·rintro(rfl|⟨o,ho,rfl⟩)
  ·exact⟨_,G0.2 (.inl rfl),by omega⟩
  ·exact⟨o,G0.2 (.inr ho),rfl⟩
theorem Mk.add(h:Mk v rs n L)(ha:Rch v rs a)(hr:v.rdE a=0)(he:DL L n a (v.osz a)=0):Mk v rs n (DC L n a (v.osz a)):=by
 refine⟨V9U h.good _ _,λo ho=>?_⟩;have hp:=DQ hr;unfold DC at ho;rw[θ he]at ho;rcases G0.1 ho with rfl|ho
 ·grind
 ·exact h.ats o ho
theorem ZoS{s z:Int}(he:DL L n s z=0):(DC L n s z).length=L.length+1:=by
 unfold DC;rw[θ he,YKx]
theorem Mk.fail(h:Mk v rs n L)(ha:Rch v rs a)(hn:¬Hs L a)(he:DL L n a (v.osz a)≠0):¬DX v rs n:=λhS=>by
 have hr:=hS.rd a ha;have hp:=DQ hr;have hm:=hS.rm a ha;unfold DL at he;rw[ψ Ω,ψ Ω]at he
 split at he
 ·rename_i hc;obtain⟨o,ho,h1,h2⟩:=T7.1 hc;obtain⟨q1,q2,q3⟩:=h.ats o ho;rcases hS.dj a o.1 ha q1 with e|e|e
  ·exact hn ⟨o,ho,e.symm⟩
  ·omega
  ·omega
 omega
def Cl(v:Vm)(L:List Ob)(a:Int):Prop:=∀i:Nat,(i:Int)<(v.rdH a).p->v.ptE a i=0/\(v.ptV a i≠0->Hs L (v.ptV a i:Nat))
structure BO(v:Vm)(rs:List Int)(n:Nat)(L:List Ob):Prop where
 mkd:Mk v rs n L
 all:∀a,Rch v rs a->Hs L a
 cl:∀o∈L,Cl v L o.1
theorem BO.of(h:Mk v rs n L)(hr:∀r∈rs,r≠0->Hs L r)(hc:∀o∈L,Cl v L o.1):BO v rs n L:=by
 refine⟨h,λa ha=>ha (Hs L) hr ?_,hc⟩;rintro a b ⟨o,ho,rfl⟩ ⟨-,i,hi,h0,h1,rfl⟩;exact(hc o ho i hi).2 h1
theorem BO.sound(h:BO v rs n L):DX v rs n:=by
 refine⟨λa ha=>(h.mkd.hs (h.all a ha)).2,λa ha i hi=>?_,λa ha=>?_,λa b ha hb=>?_⟩
 ·obtain⟨o,ho,rfl⟩:=h.all a ha;exact(h.cl o ho i hi).1
 ·obtain⟨o,ho,rfl⟩:=h.all a ha;have:=(h.mkd.good.sz o ho).2;have:=(h.mkd.ats o ho).2.2;omega
 ·obtain⟨o,ho,rfl⟩:=h.all a ha;obtain⟨q,hq,rfl⟩:=h.all b hb;have:=(h.mkd.ats o ho).2.2;have:=(h.mkd.ats q hq).2.2;rcases h.mkd.good.disj ho hq with e|e|e
  ·left;rw[e]
  ·omega
  omega
theorem YKj(h1:L.Pairwise (λo q=>o.1<q.1))(h2:M.Pairwise (λo q=>o.1<q.1))(h:∀x,x∈L↔x∈M):L=M:=by
 induction L generalizing M with
 | nil=>
  cases M with
  | nil=>rfl
  | cons m M=>grind [ζu]
 | cons l L ih=>
  cases M with
  | nil=>grind
  | cons m M=>
   obtain⟨a1,a2⟩:=ξo.1 h1;obtain⟨b1,b2⟩:=ξo.1 h2
   grind
theorem AS.lt(h:AS n L):L.Pairwise (λo q=>o.1<q.1):=by
 refine List.pairwise_iff_getElem.2 λi j hi hj hij=>?_;have:=h.at hi hj hij;have:=(h.sz _ (χ hi)).1;omega
theorem BO.unique(h:BO v rs n L)(h':BO v rs n M):L=M:=by
 have X:∀{L M:List Ob},BO v rs n L->BO v rs n M->∀x∈L,x∈M:=λ{L M} h h' x hx=>by
  obtain⟨q1,q2,q3⟩:=h.mkd.ats x hx;obtain⟨o,ho,e⟩:=h'.all _ q1;obtain⟨p1,p2,p3⟩:=h'.mkd.ats o ho
  grind
 exact YKj h.mkd.good.lt h'.mkd.good.lt λx=>⟨X h h' x,X h' h x⟩
structure MkS where
 L:List Ob
 st:List Int
 lost:Bool
variable{s:MkS}
def MkS.push(s:MkS)(R:Nat)(L':List Ob)(a:Int):MkS:=if s.st.length<R then ⟨L',s.st++[a],s.lost⟩else ⟨L',s.st,true⟩
structure DZ(s s':MkS):Prop where
 sub:∀a,Hs s.L a->Hs s'.L a
 len:s.L.length<=s'.L.length
 los:s'.lost=true->s.lost=true\/s.L.length<s'.L.length
 mea:2*s.L.length+s'.st.length<=2*s'.L.length+s.st.length
theorem DZ.refl(s:MkS):DZ s s:=⟨λ_ h=>h,μ _,λh=>.inl h,μ _⟩
theorem DZ.trans{t u:MkS}(h:DZ s t)(k:DZ t u):DZ s u:=
 ⟨λa ha=>k.sub a (h.sub a ha),ω h.len k.len,λhl=>by
  rcases k.los hl with h1|h1
  ·rcases h.los h1 with h2|h2
   ·exact .inl h2
   ·exact .inr (ϑ h2 k.len)
  ·exact .inr (ξx h.len h1),by have:=h.mea;have:=k.mea;omega⟩
theorem Cl.mono(hs:∀a,Hs L a->Hs M a)(h:Cl v L a):Cl v M a:=λi hi=>⟨(h i hi).1,λh0=>hs _ ((h i hi).2 h0)⟩
structure CJ(v:Vm)(rs:List Int)(n R:Nat)(X:Int->Prop)(s:MkS):Prop where
 mkd:Mk v rs n s.L
 st:∀a∈s.st,Hs s.L a
 r:s.st.length<=R
 cl:∀a,Hs s.L a->Cl v s.L a\/a∈s.st\/s.lost=true\/X a
theorem CJ.weak(h:CJ v rs n R X s)(hX:∀a,X a->Y a):CJ v rs n R Y s:=
 ⟨h.mkd,h.st,h.r,λa ha=>(h.cl a ha).imp id (Or.imp id (Or.imp id (hX a)))⟩
theorem CJ.push(h:CJ v rs n R X s)(ha:Rch v rs a)(hr:v.rdE a=0)(he:DL s.L n a (v.osz a)=0):
  CJ v rs n R X (s.push R (DC s.L n a (v.osz a)) a)/\DZ s (s.push R (DC s.L n a (v.osz a)) a)/\Hs (s.push R (DC s.L n a (v.osz a)) a).L a:=by
 have hm:=h.mkd.add ha hr he;have hh:=λb=>QH9 (b:=b) hr he;have hl:=ZoS he;have Y:∀b,Hs s.L b->Hs (DC s.L n a (v.osz a)) b:=λb hb=>(hh b).2 (.inr hb);unfold MkS.push
 split
 ·rename_i hR;refine⟨⟨hm,λb hb=>?_,by simp;omega,λb hb=>?_⟩,⟨Y,by simp_all,λh=>.inl h,by simp;omega⟩,(hh a).2 (.inl rfl)⟩
  ·rcases ζs.1 hb with hb|hb
   ·exact Y b (h.st b hb)
   simp_all
  ·rcases(hh b).1 hb with rfl|hb
   ·simp_all
   ·rcases h.cl b hb with h1|h1|h1|h1
    ·exact .inl (h1.mono Y)
    ·simp_all
    ·simp_all
    simp_all
 ·refine⟨⟨hm,λb hb=>Y b (h.st b hb),h.r,λb _=>.inr (.inr (.inl rfl))⟩,⟨Y,by simp_all,λ_=>.inr (by simp_all),by grind⟩,(hh a).2 (.inl rfl)⟩
theorem CJ.pop{st:List Int}{lost:Bool}(h:CJ v rs n R X ⟨L,st++[a],lost⟩):CJ v rs n R (λb=>X b\/b=a) ⟨L,st,lost⟩/\Hs L a:=by
 refine⟨⟨h.mkd,λb hb=>h.st b (ζs.2 (.inl hb)),by have:=h.r;grind,λb hb=>?_⟩,h.st a (ζs.2 (.inr (ζO.2 rfl)))⟩;rcases h.cl b hb with h1|h1|h1|h1
 ·exact .inl h1
 ·grind
 ·simp_all
 simp_all
theorem CJ.done(h:CJ v rs n R X s)(hc:Cl v s.L a)(hX:∀b,X b->Y b\/b=a):CJ v rs n R Y s:=
 ⟨h.mkd,h.st,h.r,λb hb=>by
  rcases h.cl b hb with h1|h1|h1|h1
  ·exact .inl h1
  ·simp_all
  ·simp_all
  grind⟩
def ClN(v:Vm)(L:List Ob)(a:Int)(k:Nat):Prop:=∀i:Nat,i<k->v.ptE a i=0/\(v.ptV a i≠0->Hs L (v.ptV a i:Nat))
theorem ClN.mono(hs:∀a,Hs L a->Hs M a)(h:ClN v L a k):ClN v M a k:=λi hi=>⟨(h i hi).1,λh0=>hs _ ((h i hi).2 h0)⟩
theorem ClN.succ(h:ClN v L a k)(h0:v.ptE a k=0)(h1:v.ptV a k≠0->Hs L (v.ptV a k:Nat)):ClN v L a (k+1):=λi hi=>by
 rcases δ i k with h2|h2
 ·exact h i h2
 grind
theorem ClN.cl(h:ClN v L a k)(hk:(v.rdH a).p<=k):Cl v L a:=λi hi=>h i Ω
theorem CJ.marks(h:CJ v rs n R X s)(hX:∀a,¬X a)(hst:s.st=[])(hlost:s.lost=false)(hr:∀r∈rs,r≠0->Hs s.L r):BO v rs n s.L:=by
 refine BO.of h.mkd hr λo ho=>?_;rcases h.cl o.1 ⟨o,ho,rfl⟩with h1|h1|h1|h1
 ·exact h1
 ·simp_all
 ·simp_all
 simp_all
theorem ZFY(ha:Rch v rs a)(h:v.rdE a≠0):¬DX v rs n:=λhS=>h (hS.rd a ha)
theorem J7J(ha:Rch v rs a)(hi:(i:Int)<(v.rdH a).p)(h:v.ptE a i≠0):¬DX v rs n:=λhS=>h (hS.pt a ha i hi)
def BP(l xs:List Nat):List Nat:=xs.foldl (λl x=>if x≠0/\¬x∈l then l++[x]else l) l
def FF(p:Nat->List Nat):Nat->List Nat->Nat->List Nat
 | 0,l,_=>l
 | f+1,l,i=>if i<l.length then FF p f (BP l (p (l.getD i 0))) (i+1)else l
theorem QC(l:List Nat):BP l []=l:=rfl
theorem OU(l:List Nat)(x:Nat)(xs:List Nat):BP l (x :: xs)=BP (if x≠0/\¬x∈l then l++[x]else l) xs:=rfl
theorem JH2(l xs ys:List Nat):BP l (xs++ys)=BP (BP l xs) ys:=by unfold BP;exact List.foldl_append
theorem KQ:∀(xs l:List Nat) (y:Nat),y∈BP l xs↔y∈l\/(y∈xs/\y≠0)
 | [],l,y=>by simp[QC]
 | x :: xs,l,y=>by
  rw[OU,KQ xs]
  grind
theorem L9:∀(xs l:List Nat),∃t,BP l xs=l++t
 | [],l=>⟨[],by simp[QC]⟩
 | x :: xs,l=>by
  rw[OU];by_cases h:x≠0/\¬x∈l
  ·obtain⟨t,ht⟩:=L9 xs (l++[x])
   simp_all
  ·obtain⟨t,ht⟩:=L9 xs l
   grind
def OkL(l:List Nat):Prop:=l.Nodup/\¬0∈l
theorem MT:∀(xs:List Nat) {l:List Nat},OkL l->OkL (BP l xs)
 | [],_,h=>h
 | x :: xs,l,h=>by
  rw[OU];refine MT xs ?_;by_cases hx:x≠0/\¬x∈l
  ·rw[θ hx];refine⟨?_,?_⟩
   ·rw[ψc];exact⟨h.1,by simp,λa ha b hb e=>by simp_all⟩
   ·rw[ζs,ζO];rintro(h1|h1)
    ·exact h.2 h1
    omega
  grind
theorem SS{l:List Nat}(h:i<l.length):l.getD i 0∈l:=by
 simp_all
theorem V4(p:Nat->List Nat):∀(f:Nat) (l:List Nat) (i:Nat),∃t,FF p f l i=l++t
 | 0,l,_=>⟨[],by simp[FF]⟩
 | f+1,l,i=>by
  unfold FF
  split
  ·obtain⟨t,ht⟩:=L9 (p (l.getD i 0)) l;obtain⟨t2,ht2⟩:=V4 p f (BP l (p (l.getD i 0))) (i+1)
   simp_all
  simp_all
theorem ZRH(p:Nat->List Nat):∀(f:Nat) (l:List Nat) (i:Nat),OkL l->OkL (FF p f l i)
 | 0,_,_,h=>h
 | f+1,l,i,h=>by
  unfold FF
  split
  ·exact ZRH p f _ _ (MT _ h)
  ·exact h
def InL(N:Nat)(l:List Nat):Prop:=∀x∈l,1<=x/\x<=N
theorem InL.len{l:List Nat}(h:InL N l)(hn:OkL l):l.length<=N:=by
 have h1:l ⊆ (List.range (N+1)).tail:=λx hx=>by
  have:=h x hx
  grind
 have h2:=hn.1.length_le_of_subset h1
 simp_all
theorem SR{l xs:List Nat}(h:InL N l)(hx:∀x∈xs,x<=N):InL N (BP l xs):=λy hy=>by
 rcases(KQ _ _ _).1 hy with h1|⟨h1,h2⟩
 ·exact h y h1
 grind
def YkB(p:Nat->List Nat)(l:List Nat)(i:Nat):Prop:=∀j,j<i->∀y∈p (l.getD j 0),y≠0->y∈l
theorem Vsy{l t:List Nat}(h:j<l.length):(l++t).getD j 0=l.getD j 0:=by
 grind
theorem Ybq{p:Nat->List Nat}{N:Nat}(hp:∀x,1<=x->x<=N->∀y∈p x,y<=N):∀(f:Nat) (l:List Nat) (i:Nat),OkL l->InL N l->YkB p l i->i<=l.length->N+1<=f+i->YkB p (FF p f l i) (FF p f l i).length/\InL N (FF p f l i)
 | 0,l,i,ho,hi,_,hil,hf=>by have:=hi.len ho;omega
 | f+1,l,i,ho,hi,hs,hil,hf=>by
  unfold FF
  split
  ·rename_i h;have hx:=hi _ (SS h);obtain⟨t,ht⟩:=L9 (p (l.getD i 0)) l;refine Ybq hp f _ (i+1) (MT _ ho) (SR hi (hp _ hx.1 hx.2)) (λj hj y hy h0=>?_) ?_ Ω
   ·rw[ht,Vsy Ω]at hy;rcases δ j i with X|X
    ·exact(KQ _ _ _).2 (.inl (hs j X y hy h0))
    grind [KQ]
   grind
  grind
theorem Z7P{p:Nat->List Nat}{Q:Nat->Prop}(hp:∀x,Q x->∀y∈p x,y≠0->Q y):∀(f:Nat) (l:List Nat) (i:Nat),(∀x∈l,Q x)->∀x∈FF p f l i,Q x
 | 0,_,_,h=>h
 | f+1,l,i,h=>by
  unfold FF
  split
  ·rename_i hi;refine Z7P hp f _ (i+1) (λy hy=>?_)
   grind [KQ,SS]
  ·exact h
def IV(p:Nat->List Nat)(N:Nat)(rs:List Nat):List Nat:=FF p (N+1) (BP [] rs) 0
theorem Y5:OkL []:=⟨ψm,by simp⟩
theorem Zeq(p:Nat->List Nat)(N:Nat)(rs:List Nat):OkL (IV p N rs):=ZRH _ _ _ _ (MT _ Y5)
theorem JOE{p:Nat->List Nat}{rs:List Nat}(hp:∀x,1<=x->x<=N->∀y∈p x,y<=N)(hr:∀x∈rs,x<=N):InL N (IV p N rs)/\(∀x∈rs,x≠0->x∈IV p N rs)/\∀x∈IV p N rs,∀y∈p x,y≠0->y∈IV p N rs:=by
 have X:InL N (BP [] rs):=SR (λx hx=>absurd hx (by simp)) hr;obtain⟨h1,h2⟩:=Ybq hp (N+1) (BP [] rs) 0 (MT _ Y5) X (λj hj=>absurd hj (ζ8 _)) (ζe _) Ω;refine⟨h2,λx hx h0=>?_,λx hx y hy h0=>?_⟩
 ·obtain⟨t,ht⟩:=V4 p (N+1) (BP [] rs) 0;unfold IV
  grind [ξq,KQ]
 ·obtain⟨j,hj,e⟩:=List.mem_iff_getElem.1 hx;refine h1 j hj y ?_ h0;have e2:(IV p N rs).getD j 0=x:=by simp_all
  unfold IV at e2
  simp_all
theorem VPa{p:Nat->List Nat}{rs:List Nat}(hp:∀x,Q x->∀y∈p x,y≠0->Q y)(hr:∀x∈rs,x≠0->Q x):∀x∈IV p N rs,Q x:=by
 refine Z7P hp _ _ _ (λx hx=>?_)
 grind [KQ]
structure GOb where
 p:Nat
 f:Nat
 k:Nat
 w:List Nat
structure Gph where
 L:List GOb
 S:List Nat
variable{g g':Gph}
def GOb.hdr(o:GOb):Hdr:=⟨o.p,o.f,o.k⟩
def GOb.size(o:GOb):Nat:=1+o.p+o.f+o.k
def Gph.ob(g:Gph)(x:Nat):GOb:=if x=0 then ⟨0,0,0,[]⟩else g.L.getD (x-1) ⟨0,0,0,[]⟩
def Gph.pts(g:Gph)(x:Nat):List Nat:=(g.ob x).w.take (g.ob x).p
structure Gph.Ok(g:Gph):Prop where
 len:∀o∈g.L,o.w.length=o.p+o.f+o.k/\o.p+o.f+o.k<=255
 pt:∀o∈g.L,∀y∈o.w.take o.p,y<=g.L.length
 st:∀y∈g.S,y<=g.L.length
def Gph.Rd(g:Gph)(x:Nat):Prop:=∀P:Nat->Prop,(∀r∈g.S,r≠0->P r)->(∀a,P a->∀b∈g.pts a,b≠0->P b)->P x
theorem Gph.Rd.root(h:r∈g.S)(h0:r≠0):g.Rd r:=λ_ h1 _=>h1 r h h0
theorem Gph.Rd.step{a:Nat}(h:g.Rd a)(hb:b∈g.pts a)(h0:b≠0):g.Rd b:=λP h1 h2=>h2 a (h P h1 h2) b hb h0
theorem Gph.ob_mem(h1:1<=x)(h2:x<=g.L.length):g.ob x∈g.L:=by
 unfold Gph.ob
 grind
theorem Gph.Ok.pts_le(h:g.Ok)(hy:y∈g.pts x):y<=g.L.length:=by
 unfold Gph.pts at hy;rcases δ 0 x with hx|hx
 ·rcases δ g.L.length x with hl|hl
  ·have e:g.ob x=⟨0,0,0,[]⟩:=by
    unfold Gph.ob
    grind
   simp_all
  ·exact h.pt _ (Gph.ob_mem hx hl) y hy
 ·have e:g.ob x=⟨0,0,0,[]⟩:=by unfold Gph.ob;simp_all
  simp_all
theorem Gph.Ok.rd(h:g.Ok)(hx:g.Rd x):1<=x/\x<=g.L.length:=
 hx (λx=>1<=x/\x<=g.L.length) (λr hr h0=>⟨by omega,h.st r hr⟩) (λ_ _ b hb h0=>⟨by omega,h.pts_le hb⟩)
def Gph.all(g:Gph):List Nat:=IV g.pts g.L.length g.S
theorem Gph.Ok.mem_all(h:g.Ok):x∈g.all↔g.Rd x:=by
 obtain⟨h1,h2,h3⟩:=JOE (p:=g.pts) (N:=g.L.length) (rs:=g.S) (λx _ _ y hy=>h.pts_le hy) h.st;constructor
 ·intro hx;exact VPa (Q:=g.Rd) (λa ha b hb h0=>ha.step hb h0) (λr hr h0=>Gph.Rd.root hr h0) x hx
 ·intro hx;exact hx (λx=>x∈g.all) h2 h3
structure Img(v:Vm)(g:Gph)(F:Nat->Nat)(lo hi:Nat):Prop where
 z:F 0=0
 rd:∀x,g.Rd x->v.rdE (F x)=0
 hd:∀x,g.Rd x->v.rdH (F x)=(g.ob x).hdr
 pt:∀x,g.Rd x->∀i,i<(g.ob x).p->v.ptE (F x) i=0/\v.ptV (F x) i=F ((g.ob x).w.getD i 0)
 wd:∀x,g.Rd x->∀i,(g.ob x).p<=i->i<(g.ob x).p+(g.ob x).f+(g.ob x).k->v.ldE (F x+1+i:Nat)=0/\v.ldV (F x+1+i:Nat)=(g.ob x).w.getD i 0
 lo:∀x,g.Rd x->lo<=F x/\F x+(g.ob x).size<=hi
 dj:∀x y,g.Rd x->g.Rd y->x=y\/F x+(g.ob x).size<=F y\/F y+(g.ob y).size<=F x
theorem Img.pos(h:Img v g F lo hi)(hx:g.Rd x):0<F x:=by
 have:=(DQ (h.rd x hx)).1;omega
theorem Img.inj(h:Img v g F lo hi)(hx:g.Rd x)(hy:g.Rd y)(e:F x=F y):x=y:=by
 have h1:=h.dj x y hx hy;have h2:1<=(g.ob x).size:=by unfold GOb.size;omega
 have h3:1<=(g.ob y).size:=by unfold GOb.size;omega
 omega
theorem RU(ho:g.Ok)(hx:g.Rd x)(hi:i<(g.ob x).p):(g.ob x).w.getD i 0∈g.pts x:=by
 obtain⟨h1,h2⟩:=ho.rd hx;have hl:=(ho.len _ (Gph.ob_mem h1 h2)).1;rw[κ,τ Ω,ψq];exact ψC.2 ⟨i,by omega,rfl⟩
theorem Img.rch(h:Img v g F lo hi)(ho:g.Ok)(ha:Rch v (g.S.map λx=>(F x:Int)) a):∃x,g.Rd x/\a=(F x:Nat):=by
 refine ha (λa=>∃x,g.Rd x/\a=(F x:Nat)) (λr hr h0=>?_) ?_
 ·obtain⟨x,hx,rfl⟩:=ξw.1 hr;refine⟨x,Gph.Rd.root hx (λe=>h0 ?_),rfl⟩;rw[e,h.z];rfl
 ·rintro a b ⟨x,hx,rfl⟩ ⟨-,i,hi,-,h1,rfl⟩;rw[h.hd x hx]at hi;have hi:(i:Int)<((g.ob x).p:Int):=hi;have hi:i<(g.ob x).p:=Ω
  have hp:=h.pt x hx i hi;rw[hp.2]at h1⊢;exact⟨_,hx.step (RU ho hx hi) (λe=>h1 (by rw[e,h.z])),rfl⟩
theorem Img.rch_of(h:Img v g F lo hi)(hx:g.Rd x):Rch v (g.S.map λx=>(F x:Int)) (F x:Nat):=by
 have Y:g.Rd x/\Rch v (g.S.map λx=>(F x:Int)) (F x:Nat):=by
  refine hx (λx=>g.Rd x/\Rch v (g.S.map λx=>(F x:Int)) (F x:Nat)) (λr hr h0=>?_) ?_
  ·have:=Gph.Rd.root hr h0;have hp:=h.pos this;exact⟨this,Rch.root (ξw.2 ⟨r,hr,rfl⟩) Ω⟩
  ·rintro a ⟨ha,hr⟩ b hb h0;have X:=ha.step hb h0;refine⟨X,hr.step ⟨h.rd a ha,?_⟩⟩;obtain⟨i,hi,e⟩:=ψC.1 hb;have Z:i<(g.ob a).p:=Ω
   have hw:(g.ob a).w.getD i 0=b:=by rw[κ,τ Ω,ψq,e]
   obtain⟨p1,p2⟩:=h.pt a ha i Z;rw[hw]at p2;refine⟨i,?_,p1,?_,?_⟩
   ·rw[h.hd a ha]
    show (i:Int)<((g.ob a).p:Int)
    omega
   ·have:=h.pos X;omega
   ·rw[p2]
 exact Y.2
theorem Img.osz(h:Img v g F lo hi)(ho:g.Ok)(hx:g.Rd x):v.osz (F x)=(g.ob x).size:=by
 obtain⟨h1,h2⟩:=ho.rd hx;have hl:=(ho.len _ (Gph.ob_mem h1 h2)).2;unfold Vm.osz;rw[h.hd x hx];unfold CD DA GOb.hdr inS GOb.size
 grind
theorem Img.sound(h:Img v g F lo hi)(ho:g.Ok):DX v (g.S.map λx=>(F x:Int)) hi:=by
 refine⟨λa ha=>?_,λa ha i hi=>?_,λa ha=>?_,λa b ha hb=>?_⟩
 ·obtain⟨x,hx,rfl⟩:=h.rch ho ha;exact h.rd x hx
 ·obtain⟨x,hx,rfl⟩:=h.rch ho ha;rw[h.hd x hx]at hi;have hi:(i:Int)<((g.ob x).p:Int):=hi;exact(h.pt x hx i Ω).1
 ·obtain⟨x,hx,rfl⟩:=h.rch ho ha;rw[h.osz ho hx];have:=(h.lo x hx).2;omega
 ·obtain⟨x,hx,rfl⟩:=h.rch ho ha;obtain⟨y,hy,rfl⟩:=h.rch ho hb;rw[h.osz ho hx,h.osz ho hy];rcases h.dj x y hx hy with e|e|e
  ·simp_all
  ·omega
  omega
theorem NP{i:Int}(h:v.ptE a i=0):v.rdE a=0/\BS (v.rdH a) i=1/\v.ldE (a+1+i)=0/\v.ldV (a+1+i)<=2147483647/\v.ptV a i=v.ldV (a+1+i):=by
 have hv:v.ptV a i=v.gtV a i 1:=by unfold Vm.ptV;rw[θ h]
 unfold Vm.ptE at h;by_cases h1:v.gtE a i 1=0
 ·have h2:v.gtV a i 1<=2147483647:=by
   omega
  unfold Vm.gtE at h1;by_cases h3:v.plE a i 1=0
  ·rw[ψ (by simpa using h3)]at h1;have h4:v.gtV a i 1=v.ldV (a+1+i):=by unfold Vm.gtV;rw[ψ (by simpa using h3)]
   unfold Vm.plE at h3;omega
  omega
 omega
theorem QA{i:Int}(h1:v.rdE a=0)(h2:BS (v.rdH a) i=1)(h3:v.ldE (a+1+i)=0)(h4:v.ldV (a+1+i)<=2147483647):v.ptE a i=0/\v.ptV a i=v.ldV (a+1+i):=by
 have e1:v.plE a i 1=0:=by unfold Vm.plE;omega
 have e2:v.gtE a i 1=0:=by unfold Vm.gtE;omega
 have e3:v.gtV a i 1=v.ldV (a+1+i):=by unfold Vm.gtV;simp_all
 have e4:v.ptE a i=0:=by unfold Vm.ptE;omega
 exact⟨e4,by unfold Vm.ptV;simp_all⟩
theorem TY(h:v.rdE a=0):0<a/\v.ldE a=0/\tkE (v.ldV a)=0/\v.rdH a=tkH (v.ldV a):=by
 unfold Vm.rdE at h;by_cases h0:a=0
 ·omega
 ·rw[ψ h0]at h;by_cases h1:a<0
  ·omega
  ·rw[ψ h1]at h;by_cases h2:v.ldE a=0
   ·rw[θ h2]at h;exact⟨by omega,h2,h,by unfold Vm.rdH;grind⟩
   omega
theorem SE(h0:0<a)(h1:v.ldE a=0)(h2:tkE (v.ldV a)=0):v.rdE a=0/\v.rdH a=tkH (v.ldV a):=by
 unfold Vm.rdE Vm.rdH
 grind
structure OD(v v':Vm)(Q:Int->Prop)(T:Int->Int)(lo hi:Nat):Prop where
 z:T 0=0
 wd:∀a,Q a->∀m:Nat,(m:Int)<v.osz a->v'.ldE (T a+m)=0/\(v'.ldV (T a+m):Int)=if 1<=m/\(m:Int)<=(v.rdH a).p then T (v.ldV (a+m))else v.ldV (a+m)
 lo:∀a,Q a->(lo:Int)<=T a/\T a+v.osz a<=hi
 dj:∀a b,Q a->Q b->a=b\/T a+v.osz a<=T b\/T b+v.osz b<=T a
theorem Img.moved{lo' hi':Nat}{T:Int->Int}(h:Img v g F lo hi)(ho:g.Ok)(hm:OD v v' (Rch v (g.S.map λx=>(F x:Int))) T lo' hi')(h1:1<=lo')(h2:hi'<=2147483647):Img v' g (λx=>(T (F x)).toNat) lo' hi':=by
 have hr:=λx (hx:g.Rd x)=>h.rch_of hx
 have ht:∀x,g.Rd x->(((T (F x)).toNat:Nat):Int)=T (F x):=λx hx=>by
  have:=(hm.lo _ (hr x hx)).1;omega
 have hT:∀x,g.Rd x->0<=T (F x)/\T (F x)<=2147483647:=λx hx=>by
  have h3:=hm.lo _ (hr x hx);rw[h.osz ho hx]at h3;omega
 have hs:∀x,g.Rd x->v'.rdE (T (F x))=0/\v'.rdH (T (F x))=v.rdH (F x):=λx hx=>by
  obtain⟨a1,a2,a3,a4⟩:=TY (h.rd x hx);have h3:=hm.wd _ (hr x hx) 0 (by rw[h.osz ho hx];unfold GOb.size;omega);rw[ψ Ω]at h3;simp only[Int.natCast_zero,Int.add_zero]at h3;have h4:=(hm.lo _ (hr x hx)).1;have e:v'.ldV (T (F x))=v.ldV (F x):=Ω
  have:=SE (v:=v') (a:=T (F x)) Ω h3.1 (by rw[e];exact a3);rw[e]at this;exact⟨this.1,this.2.trans a4.symm⟩
 refine⟨by rw[h.z];show (T 0).toNat=0;rw[hm.z];rfl,λx hx=>?_,λx hx=>?_,λx hx i hi=>?_,λx hx i h3 h4=>?_,λx hx=>?_,λx y hx hy=>?_⟩
 ·show v'.rdE (((T (F x)).toNat:Nat):Int)=0
  rw[ht x hx];exact(hs x hx).1
 ·show v'.rdH (((T (F x)).toNat:Nat):Int)=_
  rw[ht x hx,(hs x hx).2];exact h.hd x hx
 ·show v'.ptE (((T (F x)).toNat:Nat):Int) i=0/\v'.ptV (((T (F x)).toNat:Nat):Int) i=(T (F ((g.ob x).w.getD i 0))).toNat
  rw[ht x hx];obtain⟨p1,p2⟩:=h.pt x hx i hi;obtain⟨q1,q2,q3,q4,q5⟩:=NP p1;rw[p2]at q5;have hw:=hm.wd _ (hr x hx) (1+i) (by rw[h.osz ho hx];unfold GOb.size;omega)
  have hp:(((1+i:Nat):Int))<=(v.rdH (F x)).p:=by
   rw[h.hd x hx]
   show (((1+i:Nat):Int))<=((g.ob x).p:Int)
   omega
  rw[θ ⟨by omega,hp⟩,show (F x:Int)+((1+i:Nat):Int)=(F x:Int)+1+i by omega,<-q5,show T (F x)+((1+i:Nat):Int)=T (F x)+1+i by omega]at hw
  have hb:0<=T (F ((g.ob x).w.getD i 0))/\T (F ((g.ob x).w.getD i 0))<=2147483647:=by
   by_cases e:(g.ob x).w.getD i 0=0
   ·rw[e,h.z];show 0<=T 0/\T 0<=_;rw[hm.z];omega
   ·exact hT _ (hx.step (RU ho hx hi) e)
  obtain⟨r1,r2⟩:=QA (v:=v') (a:=T (F x)) (i:=i) (hs x hx).1 (by rw[(hs x hx).2];exact q2) hw.1 Ω;exact⟨r1,by omega⟩
 ·obtain⟨w1,w2⟩:=h.wd x hx i h3 h4;have hw:=hm.wd _ (hr x hx) (1+i) (by rw[h.osz ho hx];unfold GOb.size;omega)
  have hp:¬(((1+i:Nat):Int))<=(v.rdH (F x)).p:=by
   rw[h.hd x hx]
   show ¬(((1+i:Nat):Int))<=((g.ob x).p:Int)
   omega
  rw[ψ (λhh=>hp hh.2),show (F x:Int)+((1+i:Nat):Int)=((F x+1+i:Nat):Int)by omega,w2]at hw;have e:(((T (F x)).toNat+1+i:Nat):Int)=T (F x)+((1+i:Nat):Int):=by have:=ht x hx;omega
  rw[e];exact⟨hw.1,by omega⟩
 ·have h3:=hm.lo _ (hr x hx);rw[h.osz ho hx]at h3;omega
 ·have h3:=hm.dj _ _ (hr x hx) (hr y hy);rw[h.osz ho hx,h.osz ho hy]at h3;have e1:=ht x hx;have e2:=ht y hy;rcases h3 with h3|h3|h3
  ·exact .inl (h.inj hx hy Ω)
  ·exact .inr (.inl Ω)
  ·exact .inr (.inr Ω)
theorem Gph.Rd.of(hs:∀r∈g'.S,r≠0->g.Rd r)(hp:∀x,g.Rd x->∀b∈g'.pts x,b≠0->g.Rd b)(h:g'.Rd x):g.Rd x:=h g.Rd hs hp
theorem Img.sub(h:Img v g F lo hi)(hr:∀x,g'.Rd x->g.Rd x)(ho:∀x,g'.Rd x->g'.ob x=g.ob x):Img v g' F lo hi:=by
 refine⟨h.z,λx hx=>h.rd x (hr x hx),λx hx=>by rw[ho x hx];exact h.hd x (hr x hx),λx hx i hi=>?_,λx hx i h1 h2=>?_,λx hx=>by rw[ho x hx];exact h.lo x (hr x hx),λx y hx hy=>by rw[ho x hx,ho y hy];exact h.dj x y (hr x hx) (hr y hy)⟩
 ·rw[ho x hx]at hi⊢;exact h.pt x (hr x hx) i hi
 ·rw[ho x hx]at h1 h2⊢;exact h.wd x (hr x hx) i h1 h2
theorem Img.slot(h:Img v g F lo hi)(hy:y=0\/g.Rd y):Img v ⟨g.L,g.S.set i y⟩ F lo hi:=by
 have hr:∀x,(⟨g.L,g.S.set i y⟩:Gph).Rd x->g.Rd x:=λx hx=>Gph.Rd.of (g:=g) (g':=⟨g.L,g.S.set i y⟩) (λr hr h0=>by
  rcases ζL hr with h1|h1
  ·exact Gph.Rd.root h1 h0
  simp_all) (λx hx b hb h0=>hx.step hb h0) hx
 exact h.sub hr (λx _=>rfl)
theorem Gph.Ok.slot(h:g.Ok)(hy:y<=g.L.length):(⟨g.L,g.S.set i y⟩:Gph).Ok:=⟨h.len,h.pt,λz hz=>by
 rcases ζL hz with h1|h1
 ·exact h.st z h1
 simp_all⟩
theorem Img.mem(h:Img v g F lo hi)(he:∀a:Nat,lo<=a->a<hi->v.ldE a=0->v'.ldE a=0/\v'.ldV a=v.ldV a):Img v' g F lo hi:=by
 have X:∀x,g.Rd x->∀m,m<(g.ob x).size->lo<=F x+m/\F x+m<hi:=λx hx m hm=>by
  have:=h.lo x hx;omega
 have hs:∀x,g.Rd x->v'.rdE (F x)=0/\v'.rdH (F x)=v.rdH (F x):=λx hx=>by
  obtain⟨a1,a2,a3,a4⟩:=TY (h.rd x hx);obtain⟨b1,b2⟩:=X x hx 0 (by unfold GOb.size;omega);obtain⟨e1,e2⟩:=he (F x) Ω Ω a2;have:=SE (v:=v') a1 e1 (by rw[e2];exact a3);rw[e2]at this;exact⟨this.1,this.2.trans a4.symm⟩
 refine⟨h.z,λx hx=>(hs x hx).1,λx hx=>(hs x hx).2.trans (h.hd x hx),λx hx i hi=>?_,λx hx i h1 h2=>?_,h.lo,h.dj⟩
 ·obtain⟨p1,p2⟩:=h.pt x hx i hi;obtain⟨q1,q2,q3,q4,q5⟩:=NP p1;obtain⟨b1,b2⟩:=X x hx (1+i) (by unfold GOb.size;omega);have e:(F x:Int)+1+(i:Int)=((F x+(1+i):Nat):Int):=Ω
  rw[e]at q3 q4 q5;obtain⟨e1,e2⟩:=he _ b1 b2 q3;have:=QA (v:=v') (a:=(F x:Int)) (i:=i) (hs x hx).1 (by rw[(hs x hx).2];exact q2) (by rw[e];exact e1) (by rw[e,e2];exact q4);exact⟨this.1,by rw[this.2,e,e2,<-q5];exact p2⟩
 ·obtain⟨w1,w2⟩:=h.wd x hx i h1 h2;obtain⟨b1,b2⟩:=X x hx (1+i) (by unfold GOb.size;omega);rw[show F x+1+i=F x+(1+i)by omega]at w1 w2⊢;obtain⟨e1,e2⟩:=he _ b1 b2 w1;exact⟨e1,by rw[e2];exact w2⟩
def GOb.put(o:GOb)(i y:Nat):GOb:=⟨o.p,o.f,o.k,o.w.set i y⟩
def Gph.put(g:Gph)(x i y:Nat):Gph:=⟨g.L.set (x-1) ((g.ob x).put i y),g.S⟩
theorem Gph.put_ob(h1:1<=x)(h2:x<=g.L.length)(z:Nat):(g.put x i y).ob z=if z=x then (g.ob x).put i y else g.ob z:=by
 by_cases e:z=x
 ·subst e;rw[θ rfl]
  show (if z=0 then _ else (g.L.set (z-1) ((g.ob z).put i y)).getD (z-1) ⟨0,0,0,[]⟩)=_
  grind
 ·rw[ψ e]
  show (if z=0 then _ else (g.L.set (x-1) ((g.ob x).put i y)).getD (z-1) ⟨0,0,0,[]⟩)=if z=0 then _ else g.L.getD (z-1) ⟨0,0,0,[]⟩
  grind
theorem Gph.put_rd(h1:1<=x)(h2:x<=g.L.length)(hy:i<(g.ob x).p->y=0\/g.Rd y)(h:(g.put x i y).Rd z):g.Rd z:=by
 refine Gph.Rd.of (g:=g) (g':=g.put x i y) (λr hr h0=>Gph.Rd.root hr h0) (λa ha b hb h0=>?_) h;unfold Gph.pts at hb;rw[Gph.put_ob h1 h2]at hb;by_cases e:a=x
 ·subst e;rw[θ rfl]at hb;have hb:b∈((g.ob a).w.set i y).take (g.ob a).p:=hb;rcases δ i (g.ob a).p with hi|hi
  ·rw[List.take_set]at hb;rcases ζL hb with h3|h3
   ·exact ha.step h3 h0
   simp_all
  ·rw[List.take_set_of_le hi]at hb;exact ha.step hb h0
 ·rw[ψ e]at hb;exact ha.step hb h0
theorem Gph.Ok.put(h:g.Ok)(h1:1<=x)(h2:x<=g.L.length)(hy:i<(g.ob x).p->y<=g.L.length):(g.put x i y).Ok:=by
 have hx:=Gph.ob_mem h1 h2;have hl:(g.put x i y).L.length=g.L.length:=ζa;refine⟨λo ho=>?_,λo ho z hz=>?_,λz hz=>by rw[hl];exact h.st z hz⟩
 ·rcases ζL ho with h3|h3
  ·exact h.len o h3
  ·rw[h3];have:=h.len _ hx;exact⟨by show ((g.ob x).w.set i y).length=_;rw[ζa];exact this.1,this.2⟩
 ·rw[hl];rcases ζL ho with h3|h3
  ·exact h.pt o h3 z hz
  ·rw[h3]at hz;have hz:z∈((g.ob x).w.set i y).take (g.ob x).p:=hz;rcases δ i (g.ob x).p with hi|hi
   ·rw[List.take_set]at hz;rcases ζL hz with h4|h4
    ·exact h.pt _ hx z h4
    omega
   ·rw[List.take_set_of_le hi]at hz;exact h.pt _ hx z hz
theorem QZI(l:List Nat)(i j y:Nat)(hi:i<l.length):(l.set i y).getD j 0=if j=i then y else l.getD j 0:=by
 grind
theorem Img.put{top:Nat}(h:Img v g F lo top)(ho:g.Ok)(hx:g.Rd x)(hi:i<(g.ob x).p+(g.ob x).f+(g.ob x).k)(hy:i<(g.ob x).p->y=0\/g.Rd y)(ht:top<=2147483647)
  (hE:∀a:Nat,lo<=a->a<top->v.ldE a=0->v'.ldE a=0/\v'.ldV a=if a=F x+1+i then (if i<(g.ob x).p then F y else y)else v.ldV a):Img v' (g.put x i y) F lo top:=by
 obtain⟨x1,x2⟩:=ho.rd hx;have hr:∀z,(g.put x i y).Rd z->g.Rd z:=λz hz=>Gph.put_rd x1 x2 hy hz;have J:=λz=>Gph.put_ob (i:=i) (y:=y) x1 x2 z
 have X:∀z,((g.put x i y).ob z).p=(g.ob z).p/\((g.put x i y).ob z).f=(g.ob z).f/\((g.put x i y).ob z).k=(g.ob z).k/\((g.put x i y).ob z).size=(g.ob z).size/\((g.put x i y).ob z).hdr=(g.ob z).hdr:=λz=>by
  rw[J]
  split
  ·rename_i e;subst e;exact⟨rfl,rfl,rfl,rfl,rfl⟩
  ·exact⟨rfl,rfl,rfl,rfl,rfl⟩
 have hlen:=(ho.len _ (Gph.ob_mem x1 x2)).1
 have hw:∀z,g.Rd z->∀j,((g.put x i y).ob z).w.getD j 0=if z=x/\j=i then y else (g.ob z).w.getD j 0:=λz _ j=>by
  rw[J];by_cases e:z=x
  ·subst e;rw[θ rfl]
   show ((g.ob z).w.set i y).getD j 0=_
   rw[QZI _ _ _ _ Ω];by_cases e2:j=i
   ·rw[θ e2,θ ⟨rfl,e2⟩]
   ·rw[ψ e2,ψ (λhh=>e2 hh.2)]
  ·rw[ψ e,ψ (λhh=>e hh.1)]
 have Y:∀z,g.Rd z->∀m,m<(g.ob z).size->lo<=F z+m/\F z+m<top:=λz hz m hm=>by
  have:=h.lo z hz;omega
 have Z:∀z,g.Rd z->∀m,m<(g.ob z).size->(F z+m=F x+1+i↔z=x/\m=1+i):=λz hz m hm=>by
  have hsx:(g.ob x).size=1+(g.ob x).p+(g.ob x).f+(g.ob x).k:=rfl;constructor
  ·intro e;rcases h.dj z x hz hx with e2|e2|e2
   ·subst e2;exact⟨rfl,by omega⟩
   ·omega
   ·omega
  ·rintro⟨rfl,rfl⟩;omega
 have hs:∀z,g.Rd z->v'.rdE (F z)=0/\v'.rdH (F z)=v.rdH (F z):=λz hz=>by
  obtain⟨a1,a2,a3,a4⟩:=TY (h.rd z hz);have U:0<(g.ob z).size:=by unfold GOb.size;omega
  obtain⟨b1,b2⟩:=Y z hz 0 U;obtain⟨e1,e2⟩:=hE (F z) Ω Ω a2;rw[ψ (λe=>by have:=(Z z hz 0 U).1 Ω;omega)]at e2;have:=SE (v:=v') a1 e1 (by rw[e2];exact a3);rw[e2]at this;exact⟨this.1,this.2.trans a4.symm⟩
 have hF:∀b,b=0\/g.Rd b->F b<=2147483647:=λb hb=>by
  rcases hb with rfl|hb
  ·rw[h.z];omega
  ·have:=h.lo b hb;omega
 refine⟨h.z,λz hz=>(hs z (hr z hz)).1,λz hz=>by rw[(X z).2.2.2.2];exact(hs z (hr z hz)).2.trans (h.hd z (hr z hz)),λz hz j hj=>?_,λz hz j h1 h2=>?_,λz hz=>by rw[(X z).2.2.2.1];exact h.lo z (hr z hz),λz z' hz hz'=>by rw[(X z).2.2.2.1,(X z').2.2.2.1];exact h.dj z z' (hr z hz) (hr z' hz')⟩
 ·rw[(X z).1]at hj;have hq:=hr z hz;obtain⟨p1,p2⟩:=h.pt z hq j hj;obtain⟨q1,q2,q3,q4,q5⟩:=NP p1;have hm:1+j<(g.ob z).size:=by unfold GOb.size;omega
  obtain⟨b1,b2⟩:=Y z hq (1+j) hm;have e:(F z:Int)+1+(j:Int)=((F z+(1+j):Nat):Int):=Ω
  rw[e]at q3 q4 q5;obtain⟨e1,e2⟩:=hE _ b1 b2 q3;rw[hw z hq];by_cases hc:z=x/\j=i
  ·obtain⟨rfl,rfl⟩:=hc;rw[θ Ω,θ hj]at e2;have:=QA (v:=v') (a:=(F z:Int)) (i:=j) (hs z hq).1 (by rw[(hs z hq).2];exact q2) (by rw[e];exact e1) (by rw[e,e2];exact hF _ (hy hj));rw[θ ⟨rfl,rfl⟩];exact⟨this.1,by rw[this.2,e,e2]⟩
  ·rw[ψ (λhh=>by have:=(Z z hq (1+j) hm).1 hh;exact hc ⟨this.1,by omega⟩)]at e2;have:=QA (v:=v') (a:=(F z:Int)) (i:=j) (hs z hq).1 (by rw[(hs z hq).2];exact q2) (by rw[e];exact e1) (by rw[e,e2];exact q4);rw[ψ hc];exact⟨this.1,by rw[this.2,e,e2,<-q5];exact p2⟩
 ·rw[(X z).1]at h1;rw[(X z).1,(X z).2.1,(X z).2.2.1]at h2;have hq:=hr z hz;obtain⟨w1,w2⟩:=h.wd z hq j h1 h2;have hm:1+j<(g.ob z).size:=by unfold GOb.size;omega
  obtain⟨b1,b2⟩:=Y z hq (1+j) hm;rw[show F z+1+j=F z+(1+j)by omega]at w1 w2⊢;obtain⟨e1,e2⟩:=hE _ b1 b2 w1;refine⟨e1,?_⟩;rw[hw z hq,e2];by_cases hc:z=x/\j=i
  ·obtain⟨rfl,rfl⟩:=hc;rw[θ Ω,ψ Ω,θ ⟨rfl,rfl⟩]
  ·rw[ψ (λhh=>by have:=(Z z hq (1+j) hm).1 hh;exact hc ⟨this.1,by omega⟩),ψ hc];exact w2
def GOb.new(p f k:Nat):GOb:=⟨p,f,k,List.replicate (p+f+k) 0⟩
def Gph.add(g:Gph)(s p f k:Nat):Gph:=⟨g.L++[GOb.new p f k],g.S.set s (g.L.length+1)⟩
section
variable{s f:Nat}
theorem Gph.add_ob(z:Nat)(hz:z<=g.L.length):(g.add s p f k).ob z=g.ob z:=by
 show (if z=0 then _ else (g.L++[GOb.new p f k]).getD (z-1) ⟨0,0,0,[]⟩)=if z=0 then _ else g.L.getD (z-1) ⟨0,0,0,[]⟩
 grind
theorem Gph.add_new:(g.add s p f k).ob (g.L.length+1)=GOb.new p f k:=by
 show (if g.L.length+1=0 then _ else (g.L++[GOb.new p f k]).getD (g.L.length+1-1) ⟨0,0,0,[]⟩)=_
 simp_all
theorem XYc(j:Nat):(GOb.new p f k).w.getD j 0=0:=by
 show (List.replicate (p+f+k) 0).getD j 0=0
 grind
theorem Gph.add_pts(h:b∈(g.add s p f k).pts (g.L.length+1)):b=0:=by
 unfold Gph.pts at h;rw[Gph.add_new]at h;exact(List.mem_replicate.1 (ξW h)).2
theorem Gph.add_rd(ho:g.Ok)(h:(g.add s p f k).Rd z):g.Rd z\/z=g.L.length+1:=by
 refine h (λz=>g.Rd z\/z=g.L.length+1) (λr hr h0=>?_) (λa ha b hb h0=>?_)
 ·rcases ζL hr with h1|h1
  ·exact .inl (Gph.Rd.root h1 h0)
  omega
 ·rcases ha with ha|rfl
  ·unfold Gph.pts at hb;rw[Gph.add_ob a (ho.rd ha).2]at hb;exact .inl (ha.step hb h0)
  ·exact absurd (Gph.add_pts hb) h0
theorem Gph.Ok.add(h:g.Ok)(hs:p+f+k<=255):(g.add s p f k).Ok:=by
 have hl:(g.add s p f k).L.length=g.L.length+1:=by show (g.L++[GOb.new p f k]).length=_;simp_all
 refine⟨λo ho=>?_,λo ho z hz=>?_,λz hz=>?_⟩
 ·rcases ζs.1 ho with h1|h1
  ·exact h.len o h1
  ·rw[ζO.1 h1];exact⟨ζU,hs⟩
 ·rcases ζs.1 ho with h1|h1
  ·have:=h.pt o h1 z hz;omega
  ·rw[ζO.1 h1]at hz;have:z=0:=(List.mem_replicate.1 (ξW hz)).2;omega
 ·rcases ζL hz with h1|h1
  ·have:=h.st z h1;omega
  ·omega
theorem Img.add(h:Img v g F lo hi)(ho:g.Ok)(hs:p+f+k<=255){A:Nat}(hA:hi<=A)(hlo:lo<=A)(hr:v'.rdE A=0)(hh:v'.rdH A=(GOb.new p f k).hdr)(hz:∀m:Nat,m<p+f+k->v'.ldE (A+1+m:Nat)=0/\v'.ldV (A+1+m:Nat)=0)
  (he:∀a:Nat,lo<=a->a<hi->v.ldE a=0->v'.ldE a=0/\v'.ldV a=v.ldV a):Img v' (g.add s p f k) (λx=>if x=g.L.length+1 then A else F x) lo (A+1+p+f+k):=by
 have hm:=h.mem he;have X:∀z,g.Rd z->z<=g.L.length/\¬z=g.L.length+1:=λz hz=>by have:=ho.rd hz;omega
 have M:(GOb.new p f k).size=1+p+f+k:=rfl;have Z:(GOb.new p f k).p=p:=rfl;have V:(GOb.new p f k).f=f:=rfl;have U:(GOb.new p f k).k=k:=rfl;refine⟨?_,λz hz'=>?_,λz hz'=>?_,λz hz' i hi'=>?_,λz hz' i a1 a2=>?_,λz hz'=>?_,λz z' hz1 hz2=>?_⟩
 ·show (if 0=g.L.length+1 then A else F 0)=0
  rw[ψ Ω];exact h.z
 ·show v'.rdE ((if z=g.L.length+1 then A else F z:Nat):Int)=0
  rcases Gph.add_rd ho hz' with hq|rfl
  ·rw[ψ (X z hq).2];exact hm.rd z hq
  ·rw[θ rfl];exact hr
 ·show v'.rdH ((if z=g.L.length+1 then A else F z:Nat):Int)=_
  rcases Gph.add_rd ho hz' with hq|rfl
  ·rw[ψ (X z hq).2,Gph.add_ob z (X z hq).1];exact hm.hd z hq
  ·rw[θ rfl,Gph.add_new];exact hh
 ·show v'.ptE ((if z=g.L.length+1 then A else F z:Nat):Int) i=0/\v'.ptV ((if z=g.L.length+1 then A else F z:Nat):Int) i=(if ((g.add s p f k).ob z).w.getD i 0=g.L.length+1 then A else F (((g.add s p f k).ob z).w.getD i 0))
  rcases Gph.add_rd ho hz' with hq|rfl
  ·rw[Gph.add_ob z (X z hq).1]at hi'⊢;have hy:=ho.pts_le (RU ho hq hi');rw[ψ (X z hq).2,ψ Ω];exact hm.pt z hq i hi'
  ·rw[Gph.add_new]at hi'⊢;rw[Z]at hi';rw[θ rfl,XYc,ψ Ω,h.z];obtain⟨b1,b2⟩:=hz i Ω;have e:(A:Int)+1+(i:Int)=((A+1+i:Nat):Int):=Ω
   have J:BS (v'.rdH (A:Int)) (i:Int)=1:=by
    rw[hh];unfold BS CD DA GOb.hdr inS;rw[Z,V,U]
    have e1:(decide (0<=(p:Int)/\(p:Int)<256)&&decide (0<=(f:Int)/\(f:Int)<256)&&decide (0<=(k:Int)/\(k:Int)<256)&&decide ((p:Int)+(f:Int)+(k:Int)<256))=true:=by
     simp only[ζd,ζg];omega
    simp only[e1,if_true];rw[θ Ω,θ Ω]
   have:=QA (v:=v') (a:=(A:Int)) (i:=i) hr J (by exact b1) (by rw[e,b2];omega);exact⟨this.1,by rw[this.2,e,b2]⟩
 ·rcases Gph.add_rd ho hz' with hq|rfl
  ·rw[Gph.add_ob z (X z hq).1]at a1 a2⊢;rw[ψ (X z hq).2];exact hm.wd z hq i a1 a2
  ·rw[Gph.add_new]at a1 a2⊢;rw[θ rfl,XYc];exact hz i a2
 ·rcases Gph.add_rd ho hz' with hq|rfl
  ·rw[ψ (X z hq).2,Gph.add_ob z (X z hq).1];have:=h.lo z hq;omega
  ·rw[θ rfl,Gph.add_new,M];omega
 ·rcases Gph.add_rd ho hz1 with hq|rfl
  ·rcases Gph.add_rd ho hz2 with Y|rfl
   ·rw[ψ (X z hq).2,ψ (X z' Y).2,Gph.add_ob z (X z hq).1,Gph.add_ob z' (X z' Y).1];exact h.dj z z' hq Y
   ·rw[ψ (X z hq).2,θ rfl,Gph.add_ob z (X z hq).1];have:=h.lo z hq;exact .inr (.inl Ω)
  ·rcases Gph.add_rd ho hz2 with Y|rfl
   ·rw[θ rfl,ψ (X z' Y).2,Gph.add_ob z' (X z' Y).1];have:=h.lo z' Y;exact .inr (.inr Ω)
   ·exact .inl rfl
end
def AK(v:Vm):List Int->Int
 | []=>0
 | a :: r=>v.osz a+AK v r
def B7(v:Vm):List Int->Int->Int->Int
 | [],_,_=>0
 | b :: r,t,a=>if b=a then t else B7 v r (t+v.osz b) a
theorem V6(v:Vm)(a:Int):0<=v.osz a:=by
 unfold Vm.osz CD
 grind [TQ]
theorem OZ(v:Vm)(O P:List Int):AK v (O++P)=AK v O+AK v P:=by
 induction O with
 | nil=>simp[AK]
 | cons a r ih=>simp only[ζv,AK,ih];omega
theorem G2(v:Vm)(O:List Int):0<=AK v O:=by
 induction O with
 | nil=>simp[AK]
 | cons a r ih=>have:=V6 v a;simp only[AK];omega
theorem MG(v:Vm)(hj:j<O.length):AK v (O.take (j+1))=AK v (O.take j)+v.osz O[j]:=by
 rw[List.take_add_one,τ hj,OZ];simp[AK]
theorem TN(v:Vm)(O:List Int)(h:i<=j):AK v (O.take i)<=AK v (O.take j):=by
 have e:O.take j=O.take i++(O.take j).drop i:=by
  grind [ψp,ξ8]
 rw[e,OZ];have:=G2 v ((O.take j).drop i);omega
theorem UU(v:Vm)(O:List Int)(j:Nat):AK v (O.take j)<=AK v O:=by
 have:=G2 v (O.drop j)
 grind [OZ,ψp]
theorem YAF(v:Vm)(P:List Int)(t:Int)(h:a∈O):B7 v (O++P) t a=B7 v O t a:=by
 induction O generalizing t with
 | nil=>cases h
 | cons b r ih=>
  simp only[ζv,B7]
  grind
theorem V7(v:Vm)(P:List Int)(t:Int)(h:a∉O):B7 v (O++P) t a=B7 v P (t+AK v O) a:=by
 induction O generalizing t with
 | nil=>simp[AK]
 | cons b r ih=>
  have hb:¬b=a:=λe=>h (by simp_all);simp only[ζv,B7,AK,ψ hb]
  grind
theorem QN(v:Vm)(t:Int)(h:a∉O):B7 v O t a=0:=by
 have:=V7 v [] t h;rw[ψP]at this
 assumption
theorem YK(v:Vm)(hn:O.Nodup)(t:Int)(hj:j<O.length):B7 v O t O[j]=t+AK v (O.take j):=by
 have e:O=O.take j++O[j] :: O.drop (j+1):=by
  simp_all
 have Y:O[j]∉O.take j:=by
  grind
 have h:=V7 v (O[j] :: O.drop (j+1)) t Y;refine(congrArg (λX=>B7 v X t O[j]) e).trans (h.trans ?_);rw[B7,θ rfl]
theorem XE(v:Vm)(t:Int)(h:a∈O):t<=B7 v O t a/\B7 v O t a+v.osz a<=t+AK v O:=by
 induction O generalizing t with
 | nil=>cases h
 | cons b r ih=>
  have h1:=G2 v r;have h2:=V6 v b;simp only[B7,AK]
  grind
def CV(O:List Int)(a:Int):List Int:=if a=0\/a∈O then O else O++[a]
def DV(O l:List Int):List Int:=l.foldl CV O
theorem YE(O:List Int)(a:Int):∃X,CV O a=O++X:=by
 unfold CV
 split
 ·simp_all
 simp_all
theorem YN(O l:List Int):∃X,DV O l=O++X:=by
 induction l generalizing O with
 | nil=>exact⟨[],(ψP _).symm⟩
 | cons a r ih=>
  obtain⟨X,hX⟩:=YE O a;obtain⟨Y,hY⟩:=ih (CV O a);exact⟨X++Y,by show DV (CV O a) r=_;simp_all⟩
theorem WT(O l:List Int)(a:Int):DV O (l++[a])=CV (DV O l) a:=by unfold DV;simp_all
theorem PE{b:Int}:b∈CV O a↔b∈O\/(b=a/\a≠0):=by
 unfold CV
 grind
theorem UM{l:List Int}{b:Int}:b∈DV O l↔b∈O\/(b∈l/\b≠0):=by
 induction l generalizing O with
 | nil=>simp[DV]
 | cons a r ih=>
  show b∈DV (CV O a) r↔_
  grind [PE]
theorem V8(h:O.Nodup)(a:Int):(CV O a).Nodup:=by
 unfold CV
 grind
theorem QBB(h:O.Nodup)(l:List Int):(DV O l).Nodup:=by
 induction l generalizing O with
 | nil=>exact h
 | cons a r ih=>exact ih (V8 h a)
def EB(v:Vm)(a:Int):List Int:=(List.range (v.rdH a).p.toNat).map λi:Nat=>(v.ldV (a+1+i):Int)
theorem VX(v:Vm)(a:Int):(EB v a).length=(v.rdH a).p.toNat:=by unfold EB;simp
theorem ZI(v:Vm)(a:Int)(hi:i<(EB v a).length):(EB v a)[i]=(v.ldV (a+1+i):Int):=by simp only[EB,List.getElem_map,List.getElem_range]
def AV(v:Vm)(rs:List Int):Nat->List Int
 | 0=>DV [] rs
 | k+1=>if k<(AV v rs k).length then DV (AV v rs k) (EB v ((AV v rs k).getD k 0))else AV v rs k
theorem Zh5(v:Vm)(rs:List Int)(k:Nat):(AV v rs k).Nodup:=by
 induction k with
 | zero=>exact QBB ψm _
 | succ k ih=>unfold AV;grind [QBB]
structure BW(v v':Vm):Prop where
 n:v'.n=v.n
 pt:v'.pt=v.pt
 pg:v'.pl.pg=v.pl.pg
 rm:v'.pl.rm=v.pl.rm
theorem BW.refl(v:Vm):BW v v:=⟨rfl,rfl,rfl,rfl⟩
theorem BW.trans{a b c:Vm}(h:BW a b)(k:BW b c):BW a c:=⟨k.n.trans h.n,k.pt.trans h.pt,k.pg.trans h.pg,k.rm.trans h.rm⟩
theorem BW.st(v:Vm)(a:Int)(x:Nat):BW v (v.st a x):=by
 unfold Vm.st
 split
 ·exact⟨rfl,rfl,rfl,rfl⟩
 ·exact BW.refl v
theorem BW.ldE(h:BW v v')(a:Int):v'.ldE a=v.ldE a:=by unfold Vm.ldE;rw[h.n,h.pt,h.pg]
def cpV(u:Vm)(a t:Int):Nat->Vm
 | 0=>u
 | m+1=>(cpV u a t m).st (t+m) (u.ldV (a+m))
theorem X3(u:Vm)(a t:Int)(n:Nat):BW u (cpV u a t n):=by
 induction n with
 | zero=>exact BW.refl u
 | succ m ih=>exact ih.trans (BW.st _ _ _)
theorem JdP(h:AH u)(a t:Int)(n:Nat):AH (cpV u a t n):=by
 induction n with
 | zero=>exact h
 | succ m ih=>exact ih.st _ (h.ldV_lt _)
theorem Yrt(h:AH u)(a t:Int)(hm:∀m:Nat,m<n->u.ldE (t+m)=0)(b:Int):(cpV u a t n).ldV b=if t<=b/\b<t+n then u.ldV (a+(b-t))else u.ldV b:=by
 induction n with
 | zero=>rw[ψ Ω];rfl
 | succ m ih=>
  show ((cpV u a t m).st (t+m) (u.ldV (a+m))).ldV b=_
  rw[(JdP h a t m).st_ldV _ (by rw[(X3 u a t m).ldE];simp_all),ih (λj hj=>hm j Ω)]
  grind
structure DY(v:Vm)(rs:List Int)(L:List Ob)(to:Nat):Prop where
 ok:AH v
 mks:BO v rs v.n L
 pos:0<to
 ap:∀o∈L,o.1+o.2<=to\/to+AC L<=o.1
 map:∀a:Nat,to<=a->a<to+AC L->v.ldE a=0
 top:to+AC L<=v.n
def Trn(v:Vm)(O:List Int)(k i j m:Nat):Prop:=1<=m/\((j<k/\(m:Int)<=(v.rdH (O.getD j 0)).p)\/(j=k/\m<=i))
structure Cpd(v v':Vm)(to:Nat)(O:List Int)(k i:Nat):Prop where
 ok:AH v'
 sm:BW v v'
 o:∀a:Int,¬(to<=a/\a<to+AK v O)->v'.ldV a=v.ldV a
 raw:∀j (hj:j<O.length) (m:Nat),(m:Int)<v.osz O[j]->¬Trn v O k i j m->v'.ldV (to+AK v (O.take j)+m)=v.ldV (O[j]+m)
 trn:∀j (hj:j<O.length) (m:Nat),(m:Int)<v.osz O[j]->Trn v O k i j m->(v'.ldV (to+AK v (O.take j)+m):Int)=B7 v O to (v.ldV (O[j]+m))
theorem Cpd.nil(h:AH v)(to:Nat):Cpd v v to [] 0 0:=⟨h,BW.refl v,λ_ _=>rfl,λ_ h=>absurd h (ζ8 _),λ_ h=>absurd h (ζ8 _)⟩
theorem S7(h:v.rdE a=0):0<=(v.rdH a).p/\(v.rdH a).p<v.osz a:=by
 obtain⟨-,-,p,f,k,e,hs⟩:=GP h;unfold Vm.osz;rw[e,show CD ⟨p,f,k⟩=1+(p:Int)+f+k from θ (DM hs)]
 grind
theorem XaN(hz:∀o∈L,(o.2:Int)=v.osz o.1)(hn:O.Nodup)(h:∀a∈O,Hs L a):AK v O<=AC L:=by
 induction L generalizing O with
 | nil=>
  cases O with
  | nil=>exact ψV _
  | cons a r=>obtain⟨o,ho,-⟩:=h a (ζu ..);cases ho
 | cons o r ih=>
  have h1:=ih (λq hq=>hz q (ζB _ hq)) (hn.erase (o.1:Int)) (λa ha=>by
   have hm:=(hn.mem_erase_iff).1 ha;obtain⟨q,hq,e⟩:=h a hm.2;rcases ξC.1 hq with rfl|hq
   ·omega
   ·exact⟨q,hq,e⟩)
  have h2:AK v O<=AK v (O.erase (o.1:Int))+v.osz o.1:=by
   clear ih h1 h hn
   induction O with
   | nil=>grind
   | cons a s ih=>
    rw[List.erase_cons];by_cases e:a=(o.1:Int)
    ·rw[θ (by simpa using e),e];simp only[AK];omega
    ·rw[ψ (by simpa using e)];simp only[AK];omega
  have h3:=hz o (ζu ..);simp only[AC];omega
theorem VJ9(hz:∀o∈L,(o.2:Int)=v.osz o.1)(hp:L.Pairwise (λo q=>o.1<q.1))(h:∀o∈L,(o.1:Int)∈O):(AC L:Int)<=AK v O:=by
 induction L generalizing O with
 | nil=>exact G2 v O
 | cons o r ih=>
  have h1:=ih (O:=O.erase (o.1:Int)) (λq hq=>hz q (ζB _ hq)) (ξo.1 hp).2 (λq hq=>by
   have:=(ξo.1 hp).1 q hq
   grind)
  have h2:AK v (O.erase (o.1:Int))+v.osz o.1<=AK v O:=by
   have hm:=h o (ζu ..);clear ih h1 h hp
   induction O with
   | nil=>cases hm
   | cons a s ih=>
    rw[List.erase_cons];by_cases e:a=(o.1:Int)
    ·rw[θ (by simpa using e),e];simp only[AK];omega
    ·have:=ih ((ξC.1 hm).resolve_left (λe'=>e e'.symm));rw[ψ (by simpa using e)];simp only[AK];omega
  have h3:=hz o (ζu ..);simp only[AC];omega
theorem LI{i:Int}(h:v.ptE a i=0):v.ptV a i=v.ldV (a+1+i)/\v.ldV (a+1+i)<=2147483647/\v.ldE (a+1+i)=0/\v.plE a i 1=0:=by
 have e1:v.ptV a i=v.gtV a i 1:=θ h;unfold Vm.ptE at h
 split at h
 ·omega
 ·rename_i hg;have hg:=ξM.1 hg
  split at h
  ·cases h
  ·rename_i hm;unfold Vm.gtE at hg
   split at hg
   ·omega
   ·rename_i hp;have e2:v.gtV a i 1=v.ldV (a+1+i):=ψ hp;omega
theorem S9{h:Hdr}{i:Int}(h0:0<=i)(h1:i<h.p)(h2:h.p<CD h):BS h i=1:=by
 unfold BS;omega
theorem Xm6(hr:v.rdE a=0)(hi:(i:Int)<(v.rdH a).p)(hl:v.ldE (a+1+i)=0)(hv:v.ldV (a+1+i)<=2147483647):v.ptE a i=0/\v.plE a i 1=0:=by
 have hk:v.plE a i 1=0:=by
  unfold Vm.plE;rw[ψ Ω,θ (S9 Ω hi (S7 hr).2)]
 refine⟨?_,hk⟩;have hg:v.gtE a i 1=0:=by unfold Vm.gtE;omega
 unfold Vm.ptE;rw[ψ Ω];have e2:v.gtV a i 1=v.ldV (a+1+i):=ψ Ω;omega
def GI(v:Vm)(L:List Ob):Prop:=∀o∈L,∀m:Nat,m<o.2->v.ldE (o.1+m)=0
section
variable{to:Nat}
theorem DY.ob(c:DY v rs L to)(ha:Rch v rs a):∃o∈L,(o.1:Int)=a/\(o.2:Int)=v.osz a:=by
 obtain⟨o,ho,rfl⟩:=c.mks.all a ha;exact⟨o,ho,rfl,(c.mks.mkd.ats o ho).2.2⟩
theorem DY.sum(c:DY v rs L to)(hn:O.Nodup)(hR:∀a∈O,Rch v rs a):AK v O<=AC L:=
 XaN (λo ho=>(c.mks.mkd.ats o ho).2.2) hn (λa ha=>c.mks.all a (hR a ha))
theorem DY.same(c:DY v rs L to)(hf:GI v L)(hn:O.Nodup)(hR:∀a∈O,Rch v rs a)(h:Cpd v v' to O k i)(ha:Rch v rs a):
  0<a/\v'.rdE a=0/\v'.rdH a=v.rdH a/\∀m:Nat,(m:Int)<v.osz a->v'.ldE (a+m)=0/\v'.ldV (a+m)=v.ldV (a+m):=by
 obtain⟨o,ho,rfl,hz⟩:=c.ob ha;have hs:=c.sum hn hR;have hap:=c.ap o ho;have X:=c.mks.sound.rd _ ha;have hp:=DQ X
 have hm:∀m:Nat,(m:Int)<v.osz o.1->v'.ldE (o.1+m)=0/\v'.ldV (o.1+m)=v.ldV (o.1+m):=λm hm=>
  ⟨by rw[h.sm.ldE];exact hf o ho m Ω,h.o _ Ω⟩
 have h0:=hm 0 Ω;rw[show (o.1:Int)+(0:Nat)=o.1 by omega]at h0;refine⟨hp.1,?_,?_,hm⟩
 ·unfold Vm.rdE at X⊢
  grind
 ·unfold Vm.rdH;rw[h0.2,h.sm.ldE]
theorem Trn.ext{X:List Int}(hj:j<O.length):Trn v (O++X) k i j m↔Trn v O k i j m:=by
 unfold Trn
 grind
theorem JxM(v:Vm){j':Nat}(hj:j<O.length)(hj':j' < O.length)(hm:(m:Int)<v.osz O[j])(hm':(m':Int)<v.osz O[j'])(h:AK v (O.take j)+m=AK v (O.take j')+m'):j=j'/\m=m':=by
 rcases ζS j j' with h1|rfl|h1
 ·have e:=MG v hj;have:=TN v O (i:=j+1) (j:=j') Ω;omega
 ·omega
 ·have e:=MG v hj';have:=TN v O (i:=j' + 1) (j:=j) Ω;omega
theorem place_lt(v:Vm)(hj:j<O.length)(hm:(m:Int)<v.osz O[j]):AK v (O.take j)+m<AK v O:=by
 have e:=MG v hj;have:=UU v O (j+1);omega
def MR(v:Vm)(O:List Int)(k i:Nat):Prop:=∀j (hj:j<O.length) (m:Nat),(m:Int)<v.osz O[j]->Trn v O k i j m->(v.ldV (O[j]+m):Int)=0\/(v.ldV (O[j]+m):Int)∈O
theorem Vqd(v:Vm)(X:List Int)(t:Int)(h0:(0:Int)∉O++X)(h:a=0\/a∈O):B7 v (O++X) t a=B7 v O t a:=by
 grind [QN,ξq,YAF]
theorem Cpd.take(c:DY v rs L to)(hf:GI v L)(hn:O.Nodup)(hR:∀a∈O,Rch v rs a)(h:Cpd v v' to O k i)(hK:MR v O k i)(hk:k<O.length\/(k=O.length/\i=0))(ha:Rch v rs a)(hna:a∉O)(z:Nat)(hz:(z:Int)=v.osz a):
  (∀m:Nat,m<z->v'.ldE (to+AK v O+m)=0)/\(to:Int)+AK v O+z<=v.n/\Cpd v (cpV v' a (to+AK v O) z) to (O++[a]) k i/\MR v (O++[a]) k i:=by
 have U:(O++[a]).Nodup:=by
  rw[ψc];exact⟨hn,by simp,λx hx y hy e=>hna (by rw[ζO]at hy;rw[<-hy,<-e];exact hx)⟩
 have J:∀b∈O++[a],Rch v rs b:=λb hb=>by
  rcases ζs.1 hb with hb|hb
  ·exact hR b hb
  ·rw[ζO]at hb;rw[hb];exact ha
 have hs:=c.sum U J;have h0s:=G2 v O;have hsa:AK v (O++[a])=AK v O+v.osz a:=by rw[OZ];simp[AK]
 have Z:∀m:Nat,m<z->v'.ldE (to+AK v O+m)=0:=λm hm=>by
  rw[h.sm.ldE];have:=c.map (to+(AK v O).toNat+m) Ω Ω;rw[<-this];congr 1;omega
 have htop:=c.top;have M:=(c.same hf hn hR h ha).2.2.2
 have V:(0:Int)∉O++[a]:=λhm=>by
  have:=(DQ (c.mks.sound.rd _ (J 0 hm))).1;omega
 have Y:=Yrt h.ok a (to+AK v O) Z;refine⟨Z,by omega,⟨JdP h.ok _ _ _,h.sm.trans (X3 _ _ _ _),λb hb=>?_,λj hj m hm hT=>?_,λj hj m hm hT=>?_⟩,λj hj m hm hT=>?_⟩
 ·rw[Y,ψ Ω];exact h.o b Ω
 ·rw[ζm,ξt]at hj;rcases δ j O.length with X|X
  ·simp only[ζJ X]at hm⊢;have hl:=place_lt v X hm;have e1:(O++[a]).take j=O.take j:=by rw[ξK Ω]
   rw[e1,Y,ψ Ω];exact h.raw j X m hm (λht=>hT ((Trn.ext X).2 ht))
  ·obtain rfl:j=O.length:=Ω
   have e2:(O++[a])[O.length]'(by simp)=a:=by simp
   rw[e2]at hm;have e1:(O++[a]).take O.length=O:=by rw[ξK (μ _),ζ0]
   rw[e1,Y,θ Ω,e2,show a+((to:Int)+AK v O+m-(to+AK v O))=a+m by omega];exact(M m hm).2
 ·rcases δ j O.length with X|X
  ·simp only[ζJ X]at hm⊢;have hl:=place_lt v X hm;have e1:(O++[a]).take j=O.take j:=by rw[ξK Ω]
   have ht:=(Trn.ext (i:=i) (m:=m) X).1 hT;rw[e1,Y,ψ Ω,h.trn j X m hm ht];exact(Vqd v [a] to V (hK j X m hm ht)).symm
  ·obtain⟨h1,h2|h2⟩:=hT <;> omega
 ·rcases δ j O.length with X|X
  ·simp only[ζJ X]at hm⊢;exact(hK j X m hm ((Trn.ext X).1 hT)).imp id (λh=>ξq _ h)
  ·obtain⟨h1,h2|h2⟩:=hT <;> omega
theorem Cpd.copy(c:DY v rs L to)(hn:O.Nodup)(hR:∀a∈O,Rch v rs a)(h:Cpd v v' to O k i)(hj:j<O.length){t:Int}(ht:t=to+AK v (O.take j)):
  v'.rdE t=0/\v'.rdH t=v.rdH O[j]/\(j=k->∀m:Nat,i<=m->(m:Int)<(v.rdH O[j]).p->v'.ptE t m=0/\v'.ptV t m=v.ldV (O[j]+1+m)) ∧
   ∀m:Nat,(m:Int)<(v.rdH O[j]).p->v'.plE t m 1=0/\v'.ldE (t+1+m)=0:=by
 have ha:=hR _ (χ hj);have X:=c.mks.sound.rd _ ha;have hp:=DQ X;have V:=S7 X;have hs:=c.sum hn hR;have h0:=G2 v (O.take j);have hpos:=c.pos
 have J:∀m:Nat,(m:Int)<v.osz O[j]->v'.ldE (t+m)=0:=λm hm=>by
  rw[h.sm.ldE];have hl:=place_lt v hj hm;have:=c.map (to+(AK v (O.take j)).toNat+m) Ω Ω;rw[<-this];congr 1;omega
 have Y:=h.raw j hj 0 Ω (λhT=>absurd hT.1 Ω);have Z:=J 0 Ω;rw[show t+(0:Nat)=t by omega]at Z;rw[show (to:Int)+AK v (O.take j)+(0:Nat)=t by omega,show O[j]+(0:Nat)=O[j]by omega]at Y
 have hE:v'.rdE t=0:=by
  have h1:=X;unfold Vm.rdE at h1⊢;rw[ψ Ω,ψ Ω,θ Z,Y];rw[ψ Ω,ψ Ω]at h1
  split at h1
  ·exact h1
  ·rename_i hx;exact absurd h1 hx
 have hH:v'.rdH t=v.rdH O[j]:=by
  have h1:=(GP X).2.1;unfold Vm.rdH;rw[θ ⟨by omega,Z⟩,θ ⟨by omega,h1⟩,Y]
 refine⟨hE,hH,λhjk m hm1 hm2=>?_,λm hm=>?_⟩
 ·have U:((m+1:Nat):Int)<v.osz O[j]:=Ω
  have hr:=h.raw j hj (m+1) U (λhT=>by
   obtain⟨-,h2|h2⟩:=hT <;> omega)
  have hl:=J (m+1) U;rw[show (to:Int)+AK v (O.take j)+(m+1:Nat)=t+1+m by omega,show O[j]+(m+1:Nat)=O[j]+1+m by omega]at hr;rw[show t+((m+1:Nat):Int)=t+1+m by omega]at hl;have M:=LI (c.mks.sound.pt _ ha m hm2);have:=Xm6 (v:=v') (a:=t) (i:=m) hE (by rw[hH];exact hm2) hl (by rw[hr];exact M.2.1);refine⟨this.1,?_⟩;rw[(LI this.1).1,hr]
 ·have hl:=J (m+1) Ω;rw[show t+((m+1:Nat):Int)=t+1+m by omega]at hl;refine⟨?_,hl⟩;unfold Vm.plE;rw[ψ Ω,hH,θ (S9 Ω hm V.2)]
theorem Cpd.set(c:DY v rs L to)(hn:O.Nodup)(hR:∀a∈O,Rch v rs a)(h:Cpd v v' to O k i)(hK:MR v O k i)(hk:k<O.length){t:Int}(ht:t=to+AK v (O.take k))(hi:(i:Int)<(v.rdH O[k]).p)
  (hx:(v.ldV (O[k]+1+i):Int)=0\/(v.ldV (O[k]+1+i):Int)∈O)  (hxx:(x:Int)=B7 v O to (v.ldV (O[k]+1+i))) (hx2:x<18446744073709551616):
  Cpd v (v'.st (t+1+i) x) to O k (i+1)/\MR v O k (i+1):=by
 have ha:=hR _ (χ hk);have Z:=c.mks.sound.rd _ ha;have hpp:=S7 Z;have h0:=G2 v (O.take k);have hl:=((Cpd.copy c hn hR h hk ht).2.2.2 i hi).2;have X:=h.ok.st_ldV x hl;have hpl:=place_lt v hk (m:=i+1) Ω
 have hT:∀j m:Nat,Trn v O k (i+1) j m↔Trn v O k i j m\/(j=k/\m=i+1):=λj m=>by
  constructor
  ·rintro⟨h1,h2|h2⟩
   ·exact .inl ⟨h1,.inl h2⟩
   ·rcases δ i m with h3|h3
    ·exact .inr Ω
    ·exact .inl ⟨h1,.inr Ω⟩
  ·rintro(⟨h1,h2|h2⟩|⟨h1,h2⟩)
   ·exact⟨h1,.inl h2⟩
   ·exact⟨h1,.inr Ω⟩
   ·exact⟨by omega,.inr Ω⟩
 refine⟨⟨h.ok.st _ hx2,h.sm.trans (BW.st _ _ _),λb hb=>?_,λj hj m hm hnT=>?_,λj hj m hm hTT=>?_⟩,λj hj m hm hTT=>?_⟩
 ·rw[X,ψ Ω];exact h.o b hb
 ·have Y:¬(j=k/\m=i+1):=λe=>hnT ((hT j m).2 (.inr e));rw[X,ψ (λe=>Y (JxM v hj hk hm (m':=i+1) Ω Ω))];exact h.raw j hj m hm (λh'=>hnT ((hT j m).2 (.inl h')))
 ·by_cases e:j=k/\m=i+1
  ·obtain⟨rfl,rfl⟩:=e;rw[X,θ Ω,show O[j]+((i+1:Nat):Int)=O[j]+1+i by omega];exact hxx
  ·rw[X,ψ (λe'=>e (JxM v hj hk hm (m':=i+1) Ω Ω))];exact h.trn j hj m hm (((hT j m).1 hTT).resolve_right e)
 ·by_cases e:j=k/\m=i+1
  ·obtain⟨rfl,rfl⟩:=e;rw[show O[j]+((i+1:Nat):Int)=O[j]+1+i by omega];exact hx
  ·exact hK j hj m hm (((hT j m).1 hTT).resolve_right e)
theorem XL(hk:k<O.length)(hi:(i:Int)=(v.rdH O[k]).p)(j m:Nat):Trn v O (k+1) 0 j m↔Trn v O k i j m:=by
 have e:O.getD k 0=O[k]:=by simp_all
 constructor
 ·rintro⟨h1,h2|h2⟩
  ·rcases δ j k with h3|h3
   ·exact⟨h1,.inl ⟨h3,h2.2⟩⟩
   ·obtain rfl:j=k:=Ω
    rw[e]at h2;exact⟨h1,.inr ⟨rfl,by omega⟩⟩
  ·omega
 ·rintro⟨h1,h2|h2⟩
  ·exact⟨h1,.inl ⟨by omega,h2.2⟩⟩
  ·obtain⟨rfl,h3⟩:=h2;exact⟨h1,.inl ⟨by omega,by rw[e];omega⟩⟩
theorem Cpd.next(h:Cpd v v' to O k i)(hK:MR v O k i)(hk:k<O.length)(hi:(i:Int)=(v.rdH O[k]).p):Cpd v v' to O (k+1) 0/\MR v O (k+1) 0:=
 ⟨⟨h.ok,h.sm,h.o,λj hj m hm hT=>h.raw j hj m hm (λh'=>hT ((XL hk hi j m).2 h')),λj hj m hm hT=>h.trn j hj m hm ((XL hk hi j m).1 hT)⟩,λj hj m hm hT=>hK j hj m hm ((XL hk hi j m).1 hT)⟩
theorem VqB(hR:∀a∈O,Rch v rs a){l:List Int}(hl:∀a∈l,a≠0->Rch v rs a):∀a∈DV O l,Rch v rs a:=λa ha=>by
 rcases UM.1 ha with h|⟨h,h0⟩
 ·exact hR a h
 simp_all
theorem JKk(c:DY v rs L to){b:Int}(hb:Rch v rs b):∀a∈EB v b,a≠0->Rch v rs a:=λa ha h0=>by
 obtain⟨i,hi,rfl⟩:=ζt ha;rw[ZI]at h0⊢;rw[VX]at hi;have Y:=c.mks.sound.rd _ hb;have X:=c.mks.sound.pt _ hb i Ω;have he:=LI X;exact hb.step ⟨Y,i,by omega,X,by omega,by rw[he.1]⟩
theorem V16(c:DY v rs L to)(k:Nat):∀a∈AV v rs k,Rch v rs a:=by
 induction k with
 | zero=>exact VqB (λa h=>by cases h) (λa ha h0=>Rch.root ha h0)
 | succ k ih=>
  unfold AV
  grind [VqB,JKk,τ,χ]
theorem XO(v:Vm)(rs:List Int)(k:Nat):∃X,AV v rs (k+1)=AV v rs k++X:=by
 show ∃X,(if k<(AV v rs k).length then DV (AV v rs k) (EB v ((AV v rs k).getD k 0))else AV v rs k)=AV v rs k++X
 split
 ·exact YN _ _
 simp_all
theorem YFK(v:Vm)(rs:List Int)(k:Nat):∀j,j<k->∀(hj:j<(AV v rs k).length),∀b∈EB v (AV v rs k)[j],b≠0->b∈AV v rs k:=by
 induction k with
 | zero=>omega
 | succ k ih=>
  intro j hjk hj b hb h0;by_cases hlt:k<(AV v rs k).length
  ·have e:AV v rs (k+1)=DV (AV v rs k) (EB v ((AV v rs k).getD k 0)):=by
    show (if _ then _ else _)=_
    simp_all
   obtain⟨X,hX⟩:=YN (AV v rs k) (EB v ((AV v rs k).getD k 0));have hjl:j<(AV v rs k).length:=Ω
   have e1:(AV v rs (k+1))[j]=(AV v rs k)[j]:=by
    simp_all
   rw[e1]at hb;rw[e];rcases δ j k with h1|h1
   ·grind
   ·obtain rfl:j=k:=Ω
    refine UM.2 (.inr ⟨?_,h0⟩)
    simp_all
  ·have e:AV v rs (k+1)=AV v rs k:=by
    show (if _ then _ else _)=_
    grind
   grind
theorem Zqu(v:Vm)(rs:List Int)(k:Nat):∀r∈rs,r≠0->r∈AV v rs k:=by
 induction k with
 | zero=>exact λr hr h0=>UM.2 (.inr ⟨hr,h0⟩)
 | succ k ih=>
  intro r hr h0;obtain⟨X,hX⟩:=XO v rs k
  simp_all
theorem DY.done(c:DY v rs L to)(hk:k=(AV v rs k).length):(∀a,Rch v rs a->a∈AV v rs k)/\AK v (AV v rs k)=AC L:=by
 have X:∀a,Rch v rs a->a∈AV v rs k:=λa ha=>by
  refine(ha (λb=>b∈AV v rs k/\Rch v rs b) (λr hr h0=>⟨Zqu v rs k r hr h0,Rch.root hr h0⟩) ?_).1;rintro x y ⟨hx,Y⟩ hp;refine⟨?_,Y.step hp⟩;obtain⟨-,i,hi,h0,h1,rfl⟩:=hp;obtain⟨j,hj,rfl⟩:=ζt hx;have he:=LI h0;have hpp:=S7 (c.mks.sound.rd _ Y);refine YFK v rs k j Ω hj _ ?_ Ω;rw[he.1];have Z:i<(EB v (AV v rs k)[j]).length:=by rw[VX];omega
  rw[<-ZI v _ Z]
  grind
 refine⟨X,?_⟩;have h1:=c.sum (Zh5 v rs k) (V16 c k);have h2:=VJ9 (v:=v) (λo ho=>(c.mks.mkd.ats o ho).2.2) c.mks.mkd.good.lt (O:=AV v rs k) (λo ho=>X _ (c.mks.mkd.ats o ho).1);omega
end
structure JY(v v':Vm):Prop where
 n:v'.n=v.n
 le:∀a:Int,v.ldE a=0->v'.ldE a=0/\v'.ldV a=v.ldV a
theorem B8.wider{F:List Nat}(h:B8 v v' F)(hv:AH v):JY v v':=by
 refine⟨h.n,λa ha=>?_⟩;obtain⟨h0,h1⟩:=L6 ha;obtain⟨j,rfl⟩:∃j:Nat,a=j:=⟨a.toNat,by omega⟩;have hj:j<v.n:=Ω
 have hn:¬j/v.pl.pg∈F:=λhm=>by
  rw[hv.ldE_of hj,θ (h.un _ hm).2]at ha;cases ha
 rw[h.ldE hv hj,h.vl j hj,ψ hn,ψ hn];omega
theorem JY.rd(h:JY v v')(hr:v.rdE a=0):v'.rdE a=0/\v'.rdH a=v.rdH a:=by
 obtain⟨h0,h1,-⟩:=GP hr;obtain⟨e1,e2⟩:=h.le a h1;unfold Vm.rdE at hr⊢;rw[ψ Ω,ψ Ω,θ h1]at hr;refine⟨by grind,?_⟩;unfold Vm.rdH
 simp_all
theorem JY.pt(h:JY v v')(hr:v.rdE a=0)(hi:(i:Int)<(v.rdH a).p)(hp:v.ptE a i=0):v'.ptE a i=0/\v'.ptV a i=v.ptV a i:=by
 obtain⟨e1,e2⟩:=h.rd hr;have X:=LI hp;obtain⟨e3,e4⟩:=h.le _ X.2.2.1;have:=Xm6 (v:=v') (a:=a) (i:=i) e1 (by simp_all) e3 Ω;exact⟨this.1,by rw[(LI this.1).1,X.1,e4]⟩
theorem JY.rch(h:JY v v')(hS:DX v rs n)(a:Int):Rch v' rs a↔Rch v rs a:=by
 constructor
 ·intro ha;refine ha (λb=>Rch v rs b) (λr hr h0=>Rch.root hr h0) ?_;rintro b c hb ⟨-,i,hi,h0,h1,rfl⟩;have X:=hS.rd b hb;rw[(h.rd X).2]at hi;have hp:=h.pt X hi (hS.pt b hb i hi);rw[hp.2]at h1⊢;exact hb.step ⟨X,i,hi,hS.pt b hb i hi,h1,rfl⟩
 ·intro ha;refine(ha (λb=>Rch v' rs b/\Rch v rs b) (λr hr h0=>⟨Rch.root hr h0,Rch.root hr h0⟩) ?_).1;rintro b c ⟨hb,Y⟩ hp;refine⟨?_,Y.step hp⟩;obtain⟨X,i,hi,h0,h1,rfl⟩:=hp;have hp:=h.pt X hi h0;rw[<-hp.2];exact hb.step ⟨(h.rd X).1,i,by rw[(h.rd X).2];exact hi,hp.1,by omega,rfl⟩
theorem JY.marks(h:JY v v')(hM:BO v rs n L):BO v' rs n L:=by
 have hS:=hM.sound;refine⟨⟨hM.mkd.good,λo ho=>?_⟩,λa ha=>hM.all a ((h.rch hS a).1 ha),λo ho i hi=>?_⟩
 ·obtain⟨h1,h2,h3⟩:=hM.mkd.ats o ho;obtain⟨e1,e2⟩:=h.rd h2;exact⟨(h.rch hS _).2 h1,e1,by rw[h3];unfold Vm.osz;rw[e2]⟩
 ·obtain⟨h1,h2,-⟩:=hM.mkd.ats o ho;rw[(h.rd h2).2]at hi;obtain⟨c1,c2⟩:=hM.cl o ho i hi;have hp:=h.pt h2 hi c1
  simp_all
def umN(v:Vm)(q0:Nat):Nat->Vm
 | 0=>v
 | k+1=>(umN v q0 k).um ((q0+k:Nat):Int)
theorem Jz0(v:Vm)(p:Int):(v.um p).n=v.n/\(v.um p).pl.pg=v.pl.pg/\(v.um p).pl.rm=v.pl.rm/\(v.um p).pt.length=v.pt.length:=by
 unfold Vm.um
 split
 ·exact⟨rfl,rfl,rfl,ζa⟩
 omega
theorem NJ(v:Vm)(q0 k:Nat):(umN v q0 k).n=v.n/\(umN v q0 k).pl.pg=v.pl.pg/\(umN v q0 k).pl.rm=v.pl.rm/\(umN v q0 k).pt.length=v.pt.length:=by
 induction k with
 | zero=>exact⟨rfl,rfl,rfl,rfl⟩
 | succ k ih=>
  obtain⟨h1,h2,h3,h4⟩:=Jz0 (umN v q0 k) ((q0+k:Nat):Int);exact⟨h1.trans ih.1,h2.trans ih.2.1,h3.trans ih.2.2.1,h4.trans ih.2.2.2⟩
theorem RY(h:AH v)(q0 k:Nat):AH (umN v q0 k):=by
 induction k with
 | zero=>exact h
 | succ k ih=>exact ih.um _
theorem X5(h:AH v)(q0 k:Nat){a:Nat}(ha:a<v.n):(umN v q0 k).ldE a=if q0<=a/v.pl.pg/\a/v.pl.pg<q0+k then 12 else v.ldE a:=by
 induction k with
 | zero=>rw[ψ Ω];rfl
 | succ k ih=>
  obtain⟨s1,s2,-,s4⟩:=NJ v q0 k;have X:=RY h q0 k
  show ((umN v q0 k).um ((q0+k:Nat):Int)).ldE a=_
  by_cases hf:frE (umN v q0 k).pt ((q0+k:Nat):Int)=0
  ·rw[X.um_ldE hf Ω,s2,ih];omega
  ·rw[SY hf];by_cases e:a/v.pl.pg=q0+k
   ·have h1:=X.ldE_of (a:=a) Ω;rw[s2,e]at h1;have hl:q0+k<(umN v q0 k).pt.length:=by rw[s4,<-e];exact(h.split ha).1
    rw[NX hl]at hf;omega
   omega
theorem VIn(h:AH v)(q0 k:Nat){a:Nat}(ha:a<v.n)(hn:¬(q0<=a/v.pl.pg/\a/v.pl.pg<q0+k)):(umN v q0 k).ldV a=v.ldV a:=by
 induction k with
 | zero=>rfl
 | succ k ih=>
  obtain⟨s1,s2,-,-⟩:=NJ v q0 k;have X:=RY h q0 k
  show ((umN v q0 k).um ((q0+k:Nat):Int)).ldV a=_
  by_cases hf:frE (umN v q0 k).pt ((q0+k:Nat):Int)=0
  ·rw[X.um_ldV hf Ω (by grind)];omega
  grind [SY]
open Classical in
theorem DX.ex(hS:DX v rs n):∃L,BO v rs n L:=by
 have V:∀a,Rch v rs a->∃j:Nat,j<n/\(j:Int)=a:=λa ha=>by
  have h1:=hS.rm a ha;have h2:=DQ (hS.rd a ha);exact⟨a.toNat,by omega,by omega⟩
 obtain⟨M,hM⟩:=ε (((List.range n).filter (λj=>decide (Rch v rs ((j:Nat):Int)))).map (λj=>(j,(v.osz ((j:Nat):Int)).toNat)))
 have X:∀o∈M,∃j:Nat,j<n/\Rch v rs (j:Int)/\o=(j,(v.osz ((j:Nat):Int)).toNat):=λo ho=>by
  rw[hM]at ho;obtain⟨j,hj,rfl⟩:=ξw.1 ho;obtain⟨h1,h2⟩:=ψz.1 hj;exact⟨j,ξp.1 h1,of_decide_eq_true h2,rfl⟩
 have Z:∀a,Rch v rs a->Hs M a:=λa ha=>by
  obtain⟨j,hj,rfl⟩:=V a ha;exact⟨(j,(v.osz ((j:Nat):Int)).toNat),by rw[hM];exact ξw.2 ⟨j,ψz.2 ⟨ξp.2 hj,φ ha⟩,rfl⟩,rfl⟩
 refine⟨M,⟨⟨⟨?_,λo ho=>?_⟩,λo ho=>?_⟩,Z,λo ho=>?_⟩⟩
 ·rw[hM,ψD];refine ψf ?_ (List.Pairwise.filter _ List.pairwise_lt_range);intro i j hi hj hij;have Y:=of_decide_eq_true (ψz.1 hi).2;have J:=of_decide_eq_true (ψz.1 hj).2;have h1:=DQ (hS.rd _ Y);have h2:=DQ (hS.rd _ J);rcases hS.dj _ _ Y J with e|e|e
  ·omega
  ·omega
  ·omega
 ·obtain⟨j,hj,hr,rfl⟩:=X o ho;have h1:=hS.rm _ hr;have h2:=DQ (hS.rd _ hr);omega
 ·obtain⟨j,hj,hr,rfl⟩:=X o ho;have h2:=DQ (hS.rd _ hr);exact⟨hr,hS.rd _ hr,by dsimp only;omega⟩
 ·obtain⟨j,hj,hr,rfl⟩:=X o ho;intro i hi;have U:=hS.pt _ hr i hi;exact⟨U,λh0=>Z _ (hr.step ⟨hS.rd _ hr,i,hi,U,h0,rfl⟩)⟩
theorem Img.marks(h:Img v g F lo hi)(ho:g.Ok)(hn:hi<=n):∃L,BO v (g.S.map λx=>(F x:Int)) n L:=by
 have hS:=h.sound ho;exact DX.ex ⟨hS.rd,hS.pt,λa ha=>by have:=hS.rm a ha;omega,hS.dj⟩
theorem Img.full(h:Img v g F lo hi)(ho:g.Ok)(hM:BO v (g.S.map λx=>(F x:Int)) n L):GI v L:=λo hoL m hm=>by
 obtain⟨h1,h2,h3⟩:=hM.mkd.ats o hoL;obtain⟨x,hx,e⟩:=h.rch ho h1;rw[e,h.osz ho hx]at h3;have h3:o.2=(g.ob x).size:=Ω
 rw[e];rcases ζF m with rfl|hp
 ·have:=(TY (h.rd x hx)).2.1
  assumption
 ·obtain⟨i,rfl⟩:∃i,m=1+i:=⟨m-1,by omega⟩;have hi:i<(g.ob x).p+(g.ob x).f+(g.ob x).k:=by rw[h3]at hm;unfold GOb.size at hm;omega
  rcases δ i (g.ob x).p with X|X
  ·have:=(NP (h.pt x hx i X).1).2.2.1
   grind
  ·have:=(h.wd x hx i X hi).1
   grind
theorem Img.inn(h:Img v g F lo hi)(ho:g.Ok)(hM:BO v (g.S.map λx=>(F x:Int)) n L):∀o∈L,lo<=o.1/\o.1+o.2<=hi:=λo hoL=>by
 obtain⟨h1,h2,h3⟩:=hM.mkd.ats o hoL;obtain⟨x,hx,e⟩:=h.rch ho h1;rw[e,h.osz ho hx]at h3;have:=h.lo x hx;omega
def Gph.words(g:Gph):Nat:=(g.all.map λx=>(g.ob x).size).sum
theorem Img.sum(h:Img v g F lo hi)(ho:g.Ok):∀l:List Nat,(∀x∈l,g.Rd x)->AK v (l.map λx=>(F x:Int))=((l.map λx=>(g.ob x).size).sum:Nat)
 | [],_=>rfl
 | x :: l,hl=>by
  have h1:=h.sum ho l (λy hy=>hl y (ζB _ hy));simp only[ξr,AK,ψb];rw[h1,h.osz ho (hl x ζu)];omega
theorem Img.words(h:Img v g F lo hi)(ho:g.Ok)(hM:BO v (g.S.map λx=>(F x:Int)) n L):AC L=g.words:=by
 have hz:∀o∈L,(o.2:Int)=v.osz o.1:=λo hoL=>(hM.mkd.ats o hoL).2.2;have X:∀x∈g.all,g.Rd x:=λx hx=>ho.mem_all.1 hx;have hsum:=h.sum ho g.all X
 have Z:(g.all.map λx=>(F x:Int)).Nodup:=by
  have h1:=(Zeq g.pts g.L.length g.S).1;rw[List.Nodup,ψD];refine ψf ?_ h1;intro a b ha hb Y e;exact Y (h.inj (X a ha) (X b hb) Ω)
 have h1:AK v (g.all.map λx=>(F x:Int))<=AC L:=XaN hz Z (λa ha=>by
  obtain⟨x,hx,rfl⟩:=ξw.1 ha
  exact hM.all _ (h.rch_of (X x hx)))
 have h2:(AC L:Int)<=AK v (g.all.map λx=>(F x:Int)):=VJ9 hz (hM.mkd.good.pw.imp_of_mem (λ{a b} ha hb Y=>by have:=(hM.mkd.good.sz a ha).1;omega)) (λo hoL=>by
  obtain⟨x,hx,e⟩:=h.rch ho (hM.mkd.ats o hoL).1
  exact ξw.2 ⟨x,ho.mem_all.2 hx,e.symm⟩)
 unfold Gph.words;omega
theorem Img.nodup(h:Img v g F lo hi)(ho:g.Ok):(g.all.map λx=>(F x:Int)).Nodup:=by
 have h1:=(Zeq g.pts g.L.length g.S).1;rw[List.Nodup,ψD];refine ψf ?_ h1;intro a b ha hb X e;exact X (h.inj (ho.mem_all.1 ha) (ho.mem_all.1 hb) Ω)
theorem Img.count(h:Img v g F lo hi)(ho:g.Ok)(hM:BO v (g.S.map λx=>(F x:Int)) n L):L.length=g.all.length:=by
 have hd:(L.map λo=>(o.1:Int)).Nodup:=by
  rw[List.Nodup,ψD];refine ψf ?_ hM.mkd.good.pw;intro a b ha hb hab e;have:=(hM.mkd.good.sz a ha).1;omega
 have h1:=hd.length_le_of_subset (l₂:=g.all.map λx=>(F x:Int)) (λa ha=>by
  obtain⟨o,X,rfl⟩:=ξw.1 ha;obtain⟨x,hx,e⟩:=h.rch ho (hM.mkd.ats o X).1
  exact ξw.2 ⟨x,ho.mem_all.2 hx,e.symm⟩)
 have h2:=(h.nodup ho).length_le_of_subset (l₂:=L.map λo=>(o.1:Int)) (λa ha=>by
  obtain⟨x,hx,rfl⟩:=ξw.1 ha;obtain⟨o,X,e⟩:=hM.all _ (h.rch_of (ho.mem_all.1 hx))
  grind)
 grind
def BZ(b:Nat):Nat:=if b/4503599627370496=0 then b%4503599627370496 else (b%4503599627370496+4503599627370496)*2 ^ (b/4503599627370496-1)
def AM:Nat:=9218868437227405312
def CQ(a:Nat):Nat:=if a=0 then 0 else a.log2+1
def E4(a:Nat):Nat:=
 let k:=CQ a-53
 let m:=a/2 ^ k%9007199254740992
 let b:=k*4503599627370496+m
 min (if 0<k/\a/2 ^ (k-1)%2=1/\(m%2=1\/0<a%2 ^ (k-1))then b+1 else b) AM
theorem XPs(b:Nat):BZ (b+1)=BZ b+2 ^ (b/4503599627370496-1):=by
 unfold BZ;have hd:=ζo b 4503599627370496;have hm:=ζN b (show 0<4503599627370496 by decide);obtain⟨e,he⟩:=ε (b/4503599627370496);obtain⟨m,X⟩:=ε (b%4503599627370496);rw[<-he,<-X]at hd;rw[<-X]at hm;rw[<-he,<-X];by_cases hl:m+1<4503599627370496
 ·have h1:(b+1)/4503599627370496=e:=Ω
  have h2:(b+1)%4503599627370496=m+1:=Ω
  rw[h1,h2]
  split
  ·rename_i h0;subst h0;rfl
  ·rw[show m+1+4503599627370496=(m+4503599627370496)+1 by omega,ξd]
 ·have h1:(b+1)/4503599627370496=e+1:=Ω
  have h2:(b+1)%4503599627370496=0:=Ω
  rw[h1,h2,ψ Ω,ξ6];have Y:m=4503599627370495:=Ω
  subst Y
  split
  ·rename_i h0;subst h0;rfl
  ·obtain⟨f,rfl⟩:∃f,e=f+1:=⟨e-1,by omega⟩;rw[ξ6,Nat.pow_succ];omega
theorem Z8y(b:Nat):BZ b<BZ (b+1):=by
 rw[XPs];have:=Nat.two_pow_pos (b/4503599627370496-1);omega
theorem Q4o(h:b<c):BZ b<BZ c:=by
 induction c with
 | zero=>omega
 | succ c ih=>
  have h1:=Z8y c;by_cases e:b=c
  ·subst e;exact h1
  ·have:=ih Ω;omega
theorem Z40{a:Nat}(h:a≠0):2 ^ (CQ a-1)<=a/\a<2 ^ CQ a:=by
 unfold CQ;rw[ψ h,ξ6];exact⟨Nat.log2_self_le h,Nat.lt_log2_self⟩
def lv(B:Nat):List Nat->Nat
 | []=>0
 | x :: xs=>x+B*lv B xs
theorem TK(B:Nat)(l:List Nat):∀{i:Nat},i<l.length->∀y,lv B (l.set i y)+l.getD i 0*B ^ i=lv B l+y*B ^ i:=by
 induction l with
 | nil=>intro i h;exact absurd h (ζ8 _)
 | cons x xs ih=>
  intro i hi y;cases i with
  | zero=>simp[lv];omega
  | succ i=>
   have h:=ih (i:=i) (by simpa using hi) y;have h2:=congrArg (B * ·) h;simp only[ψx]at h2;simp only[ζf,lv,List.getD_cons_succ,Nat.pow_succ];rw[show xs.getD i 0*(B ^ i*B)=B*(xs.getD i 0*B ^ i)by ac_rfl,show y*(B ^ i*B)=B*(y*B ^ i)by ac_rfl];omega
theorem Vk5{l:List Nat}(hi:i<l.length)(z:Nat):lv B (l.set i ((l.getD i 0+z)%B))+(l.getD i 0+z)/B*B ^ (i+1)=lv B l+z*B ^ i:=by
 have h:=TK B l hi ((l.getD i 0+z)%B);obtain⟨x,hx⟩:=ε (l.getD i 0);rw[<-hx]at h⊢;have hd:=ζo (x+z) B;obtain⟨q,hq⟩:=ε ((x+z)/B);obtain⟨r,hr⟩:=ε ((x+z)%B);rw[<-hq,<-hr]at hd;rw[<-hr]at h;rw[<-hq,<-hr];have h2:=congrArg (· * B ^ i) hd;simp only[ζP]at h2;rw[Nat.pow_succ,show q*(B ^ i*B)=B*q*B ^ i by ac_rfl];omega
theorem J9G{l:List Nat}(hi:i<l.length)(hz:z<=l.getD i 0):lv B (l.set i (l.getD i 0-z))+z*B ^ i=lv B l:=by
 have h:=TK B l hi (l.getD i 0-z);obtain⟨x,hx⟩:=ε (l.getD i 0);rw[<-hx]at h hz⊢;obtain⟨y,rfl⟩:∃y,x=y+z:=⟨x-z,by omega⟩;rw[ξ6]at h⊢;rw[ζP]at h;omega
theorem Q0J{l:List Nat}(hi:i<l.length)(hz:z<=l.getD i 0+B):lv B (l.set i (l.getD i 0+B-z))+z*B ^ i=lv B l+B ^ (i+1):=by
 have h:=TK B l hi (l.getD i 0+B-z);obtain⟨x,hx⟩:=ε (l.getD i 0);rw[<-hx]at h hz⊢;obtain⟨y,hy⟩:=ε (x+B-z);rw[<-hy]at h⊢;have X:y+z=x+B:=Ω
 have h2:=congrArg (· * B ^ i) X;simp only[ζP]at h2;rw[Nat.pow_succ,ζA (B ^ i) B];omega
theorem Q5{B:Nat}(hB:0<B):∀{l:List Nat},(∀x∈l,x<B)->lv B l<B ^ l.length
 | [],_=>by simp[lv]
 | x :: xs,h=>by
  have h1:=Q5 hB (l:=xs) (λy hy=>h y (ζB _ hy));have h2:=h x ζu
  have h3:B*lv B xs+B<=B*B ^ xs.length:=by
   rw[<-Nat.mul_succ];exact ψA B h1
  simp only[lv,ζD];rw[Nat.pow_succ,ζA (B ^ xs.length) B];omega
theorem YS(B:Nat):∀(l:List Nat) (i:Nat),lv B l=lv B (l.take i)+B ^ i*lv B (l.drop i)
 | l,0=>by simp[lv]
 | [],i+1=>by simp[lv]
 | x :: xs,i+1=>by
  have h:=YS B xs i;simp only[ξE,List.drop_succ_cons,lv];rw[h,ψx,Nat.pow_succ,show B ^ i*B*lv B (xs.drop i)=B*(B ^ i*lv B (xs.drop i))by ac_rfl];omega
theorem YJJ(hB:0<B){l:List Nat}(h:∀x∈l,x<B)(hi:i<=l.length):lv B l/B ^ i=lv B (l.drop i)/\lv B l%B ^ i=lv B (l.take i):=by
 have h1:=YS B l i;have h2:=Q5 hB (l:=l.take i) (λx hx=>h x (ξW hx));rw[ξc,ξ8 hi]at h2;have hp:0<B ^ i:=Nat.pow_pos hB;rw[h1];constructor
 ·rw[ξI,ψM hp,ψd h2,ζ7]
 ·rw[ξI,Nat.mul_add_mod,ψr h2]
theorem SX{l:List Nat}(hi:i<l.length):lv B (l.drop i)=l.getD i 0+B*lv B (l.drop (i+1)):=by
 rw[ξH hi];simp only[lv];rw[κ,τ hi,ψq]
theorem O5{B:Nat}(hB:0<B):∀{l:List Nat},lv B l=0↔∀x∈l,x=0
 | []=>by simp[lv]
 | x :: xs=>by
  have h:=O5 hB (l:=xs);simp only[lv,ξC,forall_eq_or_imp];rw[<-h];constructor
  ·intro e;have h1:x=0:=Ω
   have h2:B*lv B xs=0:=Ω
   exact⟨h1,(Nat.mul_eq_zero.1 h2).resolve_left Ω⟩
  ·rintro⟨e1,e2⟩;rw[e1,e2];rfl
theorem XKy{a:Nat}(h1:2 ^ n<=a)(h2:a<2 ^ (n+1)):CQ a=n+1:=by
 have h0:a≠0:=by have:=Nat.two_pow_pos n;omega
 have h3:=Z40 h0;have hl:CQ a≠0:=by unfold CQ;rw[ψ h0];omega
 rcases ζS (CQ a) (n+1)with h|h|h
 ·have:2 ^ CQ a<=2 ^ n:=Nat.pow_le_pow_right (by decide) Ω;omega
 ·exact h
 ·have:2 ^ (n+1)<=2 ^ (CQ a-1):=Nat.pow_le_pow_right (by decide) Ω;omega
theorem ZHT{l:List Nat}(h:∀x∈l,x<2 ^ b)(hi:i<l.length)(hx:l.getD i 0≠0)(hz:∀x∈l.drop (i+1),x=0):CQ (lv (2 ^ b) l)=b*i+CQ (l.getD i 0):=by
 have hB:=Nat.two_pow_pos b;have X:=YS (2 ^ b) l i;have Z:=Q5 hB (l:=l.take i) (λx hx=>h x (ξW hx));rw[ξc,ξ8 (ξV hi),<-Nat.pow_mul]at Z;rw[SX hi,(O5 hB).2 hz,Nat.mul_zero,ζ7,<-Nat.pow_mul]at X;obtain⟨x,Y⟩:=ε (l.getD i 0);rw[<-Y]at hx X⊢;obtain⟨s1,s2⟩:=Z40 hx;have hl:CQ x≠0:=by unfold CQ;rw[ψ hx];omega
 obtain⟨n,hn⟩:∃n,CQ x=n+1:=⟨CQ x-1,by omega⟩;rw[hn]at s1 s2⊢;rw[ξ6]at s1;rw[<-ξv];refine XKy ?_ ?_
 ·have:2 ^ (b*i)*2 ^ n<=2 ^ (b*i)*x:=ψA _ s1;rw[<-Nat.pow_add]at this;omega
 ·have:2 ^ (b*i)*(x+1)<=2 ^ (b*i)*2 ^ (n+1):=ψA _ s2;rw[<-Nat.pow_add,Nat.mul_succ,<-ξv]at this;omega
section
variable{l:List Nat}
theorem WE(h:∀x∈l,x<2 ^ 64)(hi:i<l.length):lv (2 ^ 64) l/2 ^ (64*i)=l.getD i 0+2 ^ 64*lv (2 ^ 64) (l.drop (i+1))/\lv (2 ^ 64) l%2 ^ (64*i)=lv (2 ^ 64) (l.take i):=by
 have h1:=YJJ (Nat.two_pow_pos 64) h (ξV hi);rw[<-Nat.pow_mul]at h1;rw[<-SX hi];exact h1
theorem ZLO(i:Nat):∃Z,lv (2 ^ 64) (l.drop (i+1))=l.getD (i+1) 0+2 ^ 64*Z:=by
 rcases δ (i+1) l.length with hl|hl
 ·exact⟨_,SX hl⟩
 ·refine⟨0,?_⟩;rw[ψo hl,κ,ζz hl];rfl
theorem TX(ho:off<64):(2:Nat) ^ 64=2 ^ off*2 ^ (64-off):=by rw[<-Nat.pow_add,show off+(64-off)=64 by omega]
theorem QNd(h:∀x∈l,x<2 ^ 64)(hi:i<l.length)(ho:off<64):lv (2 ^ 64) l/2 ^ (64*i+off)=l.getD i 0/2 ^ off+2 ^ (64-off)*lv (2 ^ 64) (l.drop (i+1)):=by
 rw[Nat.pow_add,<-ψH,(WE h hi).1];generalize lv (2 ^ 64) (l.drop (i+1))=Y;rw[TX ho,ψv,Nat.add_mul_div_left _ _ (Nat.two_pow_pos off)]
theorem ZrJ(h:∀x∈l,x<2 ^ 64)(hi:i<l.length)(ho:off<64):lv (2 ^ 64) l/2 ^ (64*i+off)%9007199254740992=(l.getD i 0/2 ^ off+l.getD (i+1) 0*2 ^ (64-off)%18446744073709551616)%9007199254740992:=by
 obtain⟨Z,hZ⟩:=ZLO (l:=l) i;rw[QNd h hi ho,hZ,ψx,show 2 ^ (64-off)*(2 ^ 64*Z)=18446744073709551616*(2 ^ (64-off)*Z)by rw[show (2:Nat) ^ 64=18446744073709551616 by decide];ac_rfl,ζA (2 ^ (64-off)) (l.getD (i+1) 0)];generalize l.getD (i+1) 0*2 ^ (64-off)=T;generalize 2 ^ (64-off)*Z=U;generalize l.getD i 0/2 ^ off=V;omega
theorem VFZ(h:∀x∈l,x<2 ^ 64)(hi:i<l.length)(ho:off<64):lv (2 ^ 64) l/2 ^ (64*i+off)%2=l.getD i 0/2 ^ off%2:=by
 rw[QNd h hi ho,show 64-off=(63-off)+1 by omega,Nat.pow_succ,ζA (2 ^ (63-off)) 2,ψv];generalize 2 ^ (63-off)*lv (2 ^ 64) (l.drop (i+1))=U;generalize l.getD i 0/2 ^ off=V;omega
theorem YPW(h:∀x∈l,x<2 ^ 64)(hi:i<l.length)(ho:off<64):lv (2 ^ 64) l%2 ^ (64*i+off)=0↔(∀x∈l.take i,x=0)/\l.getD i 0%2 ^ off=0:=by
 rw[Nat.pow_add,Nat.mod_mul,(WE h hi).1,(WE h hi).2,TX ho,ψv,Nat.add_mul_mod_self_left,<-TX ho,<-O5 (Nat.two_pow_pos 64)];have hp:=Nat.two_pow_pos (64*i);constructor
 ·intro e;have e2:2 ^ (64*i)*(l.getD i 0%2 ^ off)=0:=Ω
  exact⟨by omega,(Nat.mul_eq_zero.1 e2).resolve_left Ω⟩
 ·rintro⟨e1,e2⟩;rw[e1,e2];rfl
theorem X5x(ho:off<64):x*2 ^ (63-off)%18446744073709551616*2%18446744073709551616=2 ^ (64-off)*(x%2 ^ off):=by
 have h1:x*2 ^ (63-off)%18446744073709551616*2%18446744073709551616=(2 ^ (64-off)*x)%18446744073709551616:=by
  rw[show 2 ^ (64-off)*x=x*2 ^ (63-off)*2 by rw[show 64-off=(63-off)+1 by omega,Nat.pow_succ];ac_rfl];generalize x*2 ^ (63-off)=T;omega
 rw[h1,show (18446744073709551616:Nat)=2 ^ (64-off)*2 ^ off by rw[<-Nat.pow_add,show 64-off+off=64 by omega],Nat.mul_mod_mul_left]
end
theorem JRN{M:Nat}{S:Int}(h:(n:Int)=S%((2*M:Nat):Int))(h1:-(M:Int)<=S)(h2:S<M):(n<M↔0<=S)/\(0<=S->(n:Int)=S)/\(S<0->((2*M-n:Nat):Int) = -S):=by
 rcases Int.lt_or_le S 0 with hs|hs
 ·have e:S%((2*M:Nat):Int)=S+((2*M:Nat):Int):=by
   rw[<-Int.add_emod_right];exact ψF Ω Ω
  rw[e]at h;exact⟨by omega,by omega,by omega⟩
 ·rw[ψF hs Ω]at h;exact⟨by omega,by omega,by omega⟩
theorem Q1n(a:Nat):E4 a<=AM:=by unfold E4;exact Nat.min_le_right _ _
def E7(b:Nat):Nat:=if b/4503599627370496=0 then b%4503599627370496 else b%4503599627370496+4503599627370496
def EG(b:Nat):Nat:=b/4503599627370496-1
theorem Z2l(b:Nat):BZ b=E7 b*2 ^ EG b:=by
 unfold BZ E7 EG
 split
 ·rename_i h;rw[h];show _=_*2 ^ 0;rw[Nat.pow_zero,ξF]
 ·rfl
theorem V6a(b:Nat):E7 b<9007199254740992:=by unfold E7;split <;> omega
theorem Vyu(h:b<=AM):EG b<=2046:=by
 unfold EG;have:b/4503599627370496<=AM/4503599627370496:=ζc h;have e:AM/4503599627370496=2047:=by decide
 omega
theorem ZW9(ho:off<64):m*2 ^ off%2 ^ 64+2 ^ 64*(m/2 ^ (64-off))=m*2 ^ off:=by
 have h1:=Nat.mod_add_div (m*2 ^ off) (2 ^ 64)
 have h2:m*2 ^ off/2 ^ 64=m/2 ^ (64-off):=by
  rw[TX ho,ζA m,Nat.mul_div_mul_left _ _ (Nat.two_pow_pos off)]
 rw[h2]at h1;exact h1
theorem Xll(m ex:Nat):(m*2 ^ (ex%64))*(2 ^ 64) ^ (ex/64)=m*2 ^ ex:=by
 rw[<-Nat.pow_mul,ψv,<-Nat.pow_add,show ex%64+64*(ex/64)=ex by omega]
theorem XYn{v:Nat}{S:Int}(h:(n:Int)=S%(K:Int))(hl:n' < K)(e:n' + c*K=n+v):(n':Int)=(S+v)%(K:Int):=by
 have e1:(n':Int)=(n:Int)+v-c*K:=by
  have:((n' + c*K:Nat):Int)=((n+v:Nat):Int):=by rw[e]
  simp only[ψi,ψa]at this;omega
 have h2:(n':Int)%(K:Int)=n':=ψF Ω Ω;rw[<-h2,e1,h];rw[Int.sub_mul_emod_self_right,Int.emod_add_emod]
theorem Ye6{v:Nat}{S:Int}(h:(n:Int)=S%(K:Int))(hl:n' < K)(e:n' + v=n+c*K):(n':Int)=(S-v)%(K:Int):=by
 have e1:(n':Int)=(n:Int)-v+c*K:=by
  have:((n' + v:Nat):Int)=((n+c*K:Nat):Int):=by rw[e]
  simp only[ψi,ψa]at this;omega
 have h2:(n':Int)%(K:Int)=n':=ψF Ω Ω;rw[<-h2,e1,h];rw[Int.add_mul_emod_self_right,Int.emod_sub_emod]
def CO(l:List Nat):Nat:=(l.map λb=>if b<AM then BZ b else 0).sum
def CP(l:List Nat):Nat:=(l.map λb=>if 9223372036854775808<=b/\b<9223372036854775808+AM then BZ (b-9223372036854775808)else 0).sum
theorem Y3B(h:b<AM):BZ b<BZ AM:=Q4o h
theorem X2h:∀l:List Nat,CO l<=l.length*BZ AM
 | []=>by simp[CO]
 | b :: l=>by
  have h:=X2h l;unfold CO at h⊢;simp only[ξr,ψb,ζD,ξd]
  have:(if b<AM then BZ b else 0)<=BZ AM:=by
   split
   ·rename_i hb;exact ξV (Y3B hb)
   ·exact ζe _
  omega
theorem QXW:∀l:List Nat,CP l<=l.length*BZ AM
 | []=>by simp[CP]
 | b :: l=>by
  have h:=QXW l;unfold CP at h⊢;simp only[ξr,ψb,ζD,ξd]
  have:(if 9223372036854775808<=b/\b<9223372036854775808+AM then BZ (b-9223372036854775808)else 0)<=BZ AM:=by
   split
   ·rename_i hb;exact ξV (Y3B Ω)
   ·exact ζe _
  omega
def sgN:Nat:=9223372036854775808
def LZ(l:List Nat):Nat:=
 if (l.any λb=>decide (AM<b%sgN))||((l.any λb=>b==AM)&&(l.any λb=>b==AM+sgN))then 9221120237041090560
 else if l.any λb=>b==AM then AM
 else if l.any λb=>b==AM+sgN then AM+sgN
 else if decide (0<l.length)&&(l.all λb=>b==sgN)then sgN
 else if CO l<CP l then E4 (CP l-CO l)+sgN else E4 (CO l-CP l)
def IX(a b:Nat):Bool:=if decide (sgN<=a) !=decide (sgN<=b)then decide (sgN<=a)else if sgN<=a then decide (b<a)else decide (a<b)
structure GOp where
 kd:Int
 a:Int
 b:Int
 i:Int
 h:Hdr
 wd:Nat
 fl:Nat
structure GRe where
 code:Int
 is:Bool
 n:Int
 wd:Nat
 h:Hdr
def GRe.no(e:Int):GRe:=⟨e,false,0,0,⟨0,0,0⟩⟩
def Gph.sl(g:Gph)(a:Int):Bool:=decide (0<=a)&&decide (a<g.S.length)
def Gph.at(g:Gph)(a:Int):Nat:=g.S.getD a.toNat 0
def Gph.fdE(g:Gph)(a i kd:Int):Int:=
 if g.sl a then (if g.at a=0 then 18 else if BS (g.ob (g.at a)).hdr i=0 then 19 else if BS (g.ob (g.at a)).hdr i=kd then 0 else 20)else 17
def Gph.fdV(g:Gph)(a i kd:Int):Nat:=if g.fdE a i kd=0 then (g.ob (g.at a)).w.getD i.toNat 0 else 0
def Gph.setSl(g:Gph)(a:Int)(y:Nat):Gph:=⟨g.L,g.S.set a.toNat y⟩
def Gph.setFd(g:Gph)(a i:Int)(y:Nat):Gph:=g.put (g.at a) i.toNat y
def Gph.alE(C:Nat)(g:Gph)(a:Int)(h:Hdr):Int:=if g.sl a then (if DA h≠0 then 15 else if (C:Int)<g.words+CD h then 21 else 0)else 17
def Gph.alG(C:Nat)(g:Gph)(a:Int)(h:Hdr):Gph:=if g.alE C a h=0 then g.add a.toNat h.p.toNat h.f.toNat h.k.toNat else g
def Gph.two(g:Gph)(a b:Int)(e:Int):Int:=if g.sl a&&g.sl b then e else 17
def Gph.loE(g:Gph)(a b i:Int):Int:=g.two a b (g.fdE b i 1)
def Gph.loG(g:Gph)(a b i:Int):Gph:=if g.loE a b i=0 then g.setSl a (g.fdV b i 1)else g
def Gph.stE(g:Gph)(a i b:Int):Int:=g.two a b (g.fdE a i 1)
def Gph.stG(g:Gph)(a i b:Int):Gph:=if g.stE a i b=0 then g.setFd a i (g.at b)else g
def Gph.wrG(g:Gph)(a i kd:Int)(y:Nat):Gph:=if g.fdE a i kd=0 then g.setFd a i y else g
def Gph.cpG(g:Gph)(a b:Int):Gph:=if g.sl a&&g.sl b then g.setSl a (g.at b)else g
def Gph.clG(g:Gph)(a:Int):Gph:=if g.sl a then g.setSl a 0 else g
def Gph.slE(g:Gph)(a:Int):Int:=if g.sl a then 0 else 17
def Gph.shE(g:Gph)(a:Int):Int:=if g.sl a then (if g.at a=0 then 18 else 0)else 17
def Gph.shH(g:Gph)(a:Int):Hdr:=if g.shE a=0 then (g.ob (g.at a)).hdr else ⟨0,0,0⟩
def GOb.fls(o:GOb):List Nat:=(o.w.drop o.p).take o.f
def Gph.smV(g:Gph)(a:Int):Nat:=if g.shE a=0 then LZ (g.ob (g.at a)).fls else 0
def Gph.orE(g:Gph)(a i b k:Int):Int:=if g.fdE a i 2=0 then g.fdE b k 2 else g.fdE a i 2
def Gph.orV(g:Gph)(a i b k:Int):Int:=
 if g.orE a i b k=0 then (if IX (g.fdV a i 2) (g.fdV b k 2)then -1 else if IX (g.fdV b k 2) (g.fdV a i 2)then 1 else 0)else 0
def GOp.doG(C:Nat)(x:GOp)(g:Gph):Gph:=
 if x.kd=1 then g.alG C x.a x.h else if x.kd=2 then g.loG x.a x.b x.i else if x.kd=3 then g.stG x.a x.i x.b else if x.kd=5 then g.wrG x.a x.i 3 x.wd
 else if x.kd=7 then g.wrG x.a x.i 2 x.fl else if x.kd=8 then g.cpG x.a x.b else if x.kd=9 then g.clG x.a else g
def GOp.doR(C:Nat)(x:GOp)(g:Gph):GRe:=
 if x.kd=1 then .no (g.alE C x.a x.h)
 else if x.kd=2 then .no (g.loE x.a x.b x.i)
 else if x.kd=3 then .no (g.stE x.a x.i x.b)
 else if x.kd=4 then ⟨g.fdE x.a x.i 3,false,0,g.fdV x.a x.i 3,⟨0,0,0⟩⟩
 else if x.kd=5 then .no (g.fdE x.a x.i 3)
 else if x.kd=6 then ⟨g.fdE x.a x.i 2,false,0,g.fdV x.a x.i 2,⟨0,0,0⟩⟩
 else if x.kd=7 then .no (g.fdE x.a x.i 2)
 else if x.kd=8 then .no (g.two x.a x.b 0)
 else if x.kd=9 then .no (g.slE x.a)
 else if x.kd=10 then ⟨g.two x.a x.b 0,g.sl x.a&&g.sl x.b&&(g.at x.a==g.at x.b),0,0,⟨0,0,0⟩⟩
 else if x.kd=11 then ⟨g.shE x.a,false,0,0,g.shH x.a⟩
 else if x.kd=12 then ⟨g.shE x.a,false,0,g.smV x.a,⟨0,0,0⟩⟩
 else if x.kd=13 then ⟨g.orE x.a x.i x.b (if x.wd<256 then x.wd else -1),false,g.orV x.a x.i x.b (if x.wd<256 then x.wd else -1),0,⟨0,0,0⟩⟩
 else if x.kd=14 then ⟨0,false,(g.all.length:Nat),g.words,⟨0,0,0⟩⟩
 else if 15<=x.kd/\x.kd<=17 then .no 0 else .no 24
open Go.ChangeShapes Go.WideShapes Go.ChangeAt
def opL(x:GOp):List Value:=[iI x.kd,iI x.a,iI x.b,iI x.i,iI x.h.p,iI x.h.f,iI x.h.k,uU (x.wd:Nat),.float .f64 x.fl]
structure GOp.Bd(x:GOp):Prop where
 kd:-9223372036854775808<=x.kd/\x.kd<=9223372036854775807
 a:-9223372036854775808<=x.a/\x.a<=9223372036854775807
 b:-9223372036854775808<=x.b/\x.b<=9223372036854775807
 i:-9223372036854775808<=x.i/\x.i<=9223372036854775807
 hp:-9223372036854775808<=x.h.p/\x.h.p<=9223372036854775807
 hf:-9223372036854775808<=x.h.f/\x.h.f<=9223372036854775807
 hk:-9223372036854775808<=x.h.k/\x.h.k<=9223372036854775807
 wd:x.wd<18446744073709551616
 fl:x.fl<18446744073709551616
theorem Vuv:prog.cellsOf 37=9:=by kernel_rfl
theorem VT5:prog.cellsOf 34=3:=by kernel_rfl
theorem ZO3:prog.cellsOf 22=1:=by kernel_rfl
theorem QE0:prog.cellsOf 35=1:=by kernel_rfl
theorem QmK:prog.cellsOf 3=1:=by kernel_rfl
section
variable{enc:TypeId × Value->H}{P:Program}{base:Nat}{t:TypeId}{x:DataW H × List MemPlace}
theorem VUD{k:FloatKind}(ht:P.underlying t=some (.float k))(h:DataW.trod enc P w base spare held fuel t cs=some x):∃n,cs=[.float k n]/\(Lit.float k n).wf=true:=by
 cases fuel with
 | zero=>simp[DataW.trod]at h
 | succ n=>
  unfold DataW.trod at h;rw[ht]at h
  split at h <;> simp_all
theorem E9{l:List Value}{v:Value}(h:(l.drop j).take 1=[v]):l[j]?=some v:=by
 have:((l.drop j).take 1)[0]?=some v:=by rw[h];rfl
 simpa using this
theorem Vgf{l:List Value}{v0 v1 v2 v3 v4 v5 v6 v7 v8:Value}(hl:l.length=9)(h0:l[0]?=some v0)(h1:l[1]?=some v1)(h2:l[2]?=some v2)(h3:l[3]?=some v3)(h4:l[4]?=some v4)(h5:l[5]?=some v5)(h6:l[6]?=some v6)(h7:l[7]?=some v7)(h8:l[8]?=some v8):l=[v0,v1,v2,v3,v4,v5,v6,v7,v8]:=by
 match l,hl with
 | [a0,a1,a2,a3,a4,a5,a6,a7,a8],_=>simp at h0 h1 h2 h3 h4 h5 h6 h7 h8;simp[*]
end
section
variable{enc:TypeId × Value->H}{base:Nat}{x:DataW H × List MemPlace}
theorem X9C(h:DataW.trod enc prog w base spare held fuel 37 cs=some x):∃g:GOp,cs=opL g/\g.Bd:=by
 obtain⟨xs,n,-,-,hl,Y,hf⟩:=DataW.trod_struct underlying37 h;have ex:∀i,i<xs.length->∃y,xs[i]?=some y:=λi hi=>⟨_,τ hi⟩
 have Y:xs.length=7:=Y;have g0:DataW.trod enc prog w base spare held n 3 ((cs.drop 0).take (prog.cellsOf 3))=xs[0]?:=hf 0 _ rfl;have g1:DataW.trod enc prog w base spare held n 3 ((cs.drop 1).take (prog.cellsOf 3))=xs[1]?:=hf 1 _ rfl;have g2:DataW.trod enc prog w base spare held n 3 ((cs.drop 2).take (prog.cellsOf 3))=xs[2]?:=hf 2 _ rfl;have g3:DataW.trod enc prog w base spare held n 3 ((cs.drop 3).take (prog.cellsOf 3))=xs[3]?:=hf 3 _ rfl;have g4:DataW.trod enc prog w base spare held n 34 ((cs.drop 4).take (prog.cellsOf 34))=xs[4]?:=hf 4 _ rfl;have g5:DataW.trod enc prog w base spare held n 35 ((cs.drop 7).take (prog.cellsOf 35))=xs[5]?:=hf 5 _ rfl;have g6:DataW.trod enc prog w base spare held n 22 ((cs.drop 8).take (prog.cellsOf 22))=xs[6]?:=hf 6 _ rfl;obtain⟨y0,e0⟩:=ex 0 Ω;obtain⟨y1,e1⟩:=ex 1 Ω;obtain⟨y2,e2⟩:=ex 2 Ω;obtain⟨y3,e3⟩:=ex 3 Ω;obtain⟨y4,e4⟩:=ex 4 Ω;obtain⟨y5,e5⟩:=ex 5 Ω;obtain⟨y6,e6⟩:=ex 6 Ω;rw[e0]at g0;rw[e1]at g1;rw[e2]at g2;rw[e3]at g3;rw[e4]at g4;rw[e5]at g5;rw[e6]at g6;obtain⟨a0,c0,-,b0⟩:=DataW.trod_int underlying3 g0;obtain⟨a1,c1,-,b1⟩:=DataW.trod_int underlying3 g1;obtain⟨a2,c2,-,b2⟩:=DataW.trod_int underlying3 g2;obtain⟨a3,c3,-,b3⟩:=DataW.trod_int underlying3 g3;obtain⟨a5,c5,-,b5⟩:=DataW.trod_int underlying35 g5;obtain⟨a6,c6,b6⟩:=VUD underlying22 g6;obtain⟨ys,m,-,-,hl4,X,J⟩:=DataW.trod_struct underlying34 g4;have X:ys.length=3:=X;have Z:∀i,i<ys.length->∃y,ys[i]?=some y:=λi hi=>⟨_,τ hi⟩
 have k0:DataW.trod enc prog w base spare held m 3 ((((cs.drop 4).take (prog.cellsOf 34)).drop 0).take (prog.cellsOf 3))=ys[0]?:=J 0 _ rfl;have k1:DataW.trod enc prog w base spare held m 3 ((((cs.drop 4).take (prog.cellsOf 34)).drop 1).take (prog.cellsOf 3))=ys[1]?:=J 1 _ rfl;have k2:DataW.trod enc prog w base spare held m 3 ((((cs.drop 4).take (prog.cellsOf 34)).drop 2).take (prog.cellsOf 3))=ys[2]?:=J 2 _ rfl;obtain⟨z0,f0⟩:=Z 0 Ω;obtain⟨z1,f1⟩:=Z 1 Ω;obtain⟨z2,f2⟩:=Z 2 Ω;rw[f0]at k0;rw[f1]at k1;rw[f2]at k2;obtain⟨p0,q0,-,r0⟩:=DataW.trod_int underlying3 k0;obtain⟨p1,q1,-,r1⟩:=DataW.trod_int underlying3 k1;obtain⟨p2,q2,-,r2⟩:=DataW.trod_int underlying3 k2;simp only[QmK,QE0,ZO3,VT5]at c0 c1 c2 c3 c5 c6 q0 q1 q2;have I:cs.length=9:=hl.trans Vuv;have V:=E9 q0;have U:=E9 q1;have M:=E9 q2;rw[ψG Ω,ξS]at V U M;have bu:=bounds_u64 b5;have N:=Vgf I (E9 c0) (E9 c1) (E9 c2) (E9 c3) V U M (E9 c5) (E9 c6);refine⟨⟨a0,a1,a2,a3,⟨p0,p1,p2⟩,a5.toNat,a6⟩,?_,⟨bounds_i64 b0,bounds_i64 b1,bounds_i64 b2,bounds_i64 b3,bounds_i64 r0,bounds_i64 r1,bounds_i64 r2,by show a5.toNat<_;omega,?_⟩⟩
 ·rw[N];unfold opL;dsimp only;rw[show ((a5.toNat:Nat):Int)=a5 from ξ2 Ω]
 ·simpa[Lit.wf]using b6
end
def nbl(n B:Nat):Nat:=(n+B-1)/B
theorem QnL(hB:1<=B)(h1:n<=j*B)(h2:∀i,i<j->i*B<n):nbl n B=j:=by
 refine Nat.div_eq_of_lt_le ?_ ?_
 ·cases j with
  | zero=>simp
  | succ i=>
   have:=h2 i Ω
   grind
 grind
theorem JU(hB:1<=B):j<nbl n B↔j*B<n:=by
 unfold nbl
 grind [ξi,ξd]
structure Idx(w:World)(x p b a:Nat)(l:List Bool)(B:Nat):Prop where
 vec:BG w p b l
 b1:1<=B
 b2:B<=1024
 hx:x<w.heap.size
 ha:a<w.heap.size
 c0:w.cell? ⟨x,0,none⟩=some (pP p)
 c1:∃cap,w.cell? ⟨x,1,none⟩=some (.slice (some ⟨a,0,none⟩) (nbl l.length B) cap)
 c2:w.cell? ⟨x,2,none⟩=some (iI B)
 c3:w.cell? ⟨x,3,none⟩=some (iI (cnt (at_ l) l.length:Nat))
 ca:∀j,j<nbl l.length B->w.cell? ⟨a,j,none⟩=some (iI (cnt (at_ l) (j*B):Nat))
theorem Idx.touch{a:Nat}(h:Idx w x p b a l B)(t:AB S w w')(h1:¬S x)(h2:¬S p)(h3:¬S b)(h4:¬S a):Idx w' x p b a l B:=by
 obtain⟨X,hc⟩:=h.c1
 exact⟨h.vec.touch t h2 h3,h.b1,h.b2,ϑ h.hx t.size,ϑ h.ha t.size,by rw[t.cell h.hx h1];exact h.c0,⟨X,by rw[t.cell h.hx h1];exact hc⟩,by rw[t.cell h.hx h1];exact h.c2,
  by rw[t.cell h.hx h1];exact h.c3,λj hj=>by rw[t.cell h.ha h4];exact h.ca j hj⟩
theorem Idx.gr{a:Nat}(h:Idx w x p b a l B)(t:Gr w w'):Idx w' x p b a l B:=h.touch (t.touch (λ_=>False)) (λh=>h) (λh=>h) (λh=>h) (λh=>h)
theorem NB(h:1<=B):nbl n B<=n:=by
 rcases δ n (nbl n B)with h1|h1
 ·have:=(JU h).1 h1;have h2:n*1<=n*B:=ψA n h;omega
 ·exact h1
theorem ZsP{a:Nat}(hX:Idx w x p b a l B):
  cQ 256 #[pP x] w (iI (cnt (at_ l) l.length:Nat)):=by
 have c3:=hX.c3;go_enter func256,ntmps256;go_wp2;go_ret
 simp_all
theorem VlR(l:List Bool){b:Int}(h:b<=0):EF l 0 b=0:=by
 rw[LA];unfold E8;have:cnt (λi=>decide ((0:Int)<=(i:Nat)/\((i:Nat):Int)<b)&&at_ l i) l.length=cnt (λ_=>false) l.length:=C2 (λi _=>by grind);rw[this];generalize l.length=n
 induction n with
 | zero=>rfl
 | succ n ih=>grind [C1]
theorem Zde{a:Nat}(hX:Idx w x p b a l B)(i:Int):
  BB prog 262 #[pP x,iI i] w (iI (EF l 0 i:Nat)):=by
 have HX:=hX;have k0:=hX.c0;have k2:=hX.c2;have k3:=hX.c3;obtain⟨I,k1⟩:=hX.c1;have n2:=hX.vec.n2;unfold BB;by_cases h0:i<=0
 ·have d0:decide (i<=0)=true:=by simp[h0]
  rw[VlR l h0];go_enter func262,ntmps262;go_wp2;go_ret;exact⟨rfl,Gr.refl _⟩
 ·obtain⟨r,rfl⟩:∃r:Nat,i=r:=⟨i.toNat,by omega⟩;have hr:0<r:=Ω
  have d0:decide ((r:Int)<=0)=false:=by simp;omega
  by_cases h1:l.length<=r
  ·have d1:decide (l.length<=r)=true:=by simp[h1]
   rw[Vbb l Ω];obtain⟨N,hN⟩:=ε (cnt (at_ l) l.length);rw[<-hN]at k3⊢;clear hN k1 k2;go_enter func262,ntmps262;go_wp2_with(go_at_call 217;refine(JJ HX.vec).mono ?_;rintro e w1 ⟨rfl,rfl⟩);go_ret;exact⟨rfl,Gr.refl _⟩
  ·have d1:decide (l.length<=r)=false:=by simp;omega
   obtain⟨j,hj⟩:=ε (r/B);have hB:=HX.b1;have hB2:=HX.b2;have E:j*B<=r:=by rw[hj];exact ζn r B
   have Z:j<nbl l.length B:=(JU hB).2 Ω;have ka:=HX.ca j Z;have q1:((r:Int).tdiv (B:Int))=(j:Int):=by rw[hj];rfl
   have q2:((r:Int)/(B:Int))=(j:Int):=by rw[hj];rfl
   obtain⟨t,ht⟩:=ε (j*B);have V:(j:Int)*(B:Int)=(t:Int):=Ω
   have hs:=V9n l (a:=0) (b:=(t:Int)) (c:=(r:Int)) Ω Ω;have hu:=XA l (r:=t) Ω;rw[<-ht]at ka;rw[hu]at hs;obtain⟨c1,U⟩:=ε (cnt (at_ l) t);obtain⟨c2,X⟩:=ε (EF l (t:Int) (r:Int));obtain⟨c3,Y⟩:=ε (EF l 0 (r:Int));have hb1:c1<=1048576:=by grind [EY]
   have hb2:c2<=1048576:=by have:=EY (YL l (t:Int) (r:Int)) l.length;unfold EF at X;omega
   rw[<-U]at ka hs;rw[<-X,<-Y]at hs;rw[<-Y];obtain⟨N,hN⟩:=ε (nbl l.length B);rw[<-hN]at Z k1;have HNn:=hN;have htb:(t:Int)<=1048576:=Ω
   have hBp:(B:Int)≠0:=Ω
   have H2:=X.symm;have HS:=hs;clear U X Y hN hj ht hu hs E k3;have hjb:(j:Int)<N:=Ω
   have hjl:j<=1048576:=by grind [NB]
   have w3:IntKind.i64.wrap ((j:Int)*(B:Int))=(t:Int):=by rw[V,ζp _ Ω]
   have w4:IntKind.i64.wrap ((c1:Int)+(c2:Int))=(c3:Int):=by rw[HS,ζp _ Ω]
   have z0:∀xs m,(grow w xs m).cell? ⟨x,0,none⟩=some (pP p):=λxs m=>((grown w xs m).cell HX.hx 0).trans k0;have z1:∀xs m,(grow w xs m).cell? ⟨x,1,none⟩=some (.slice (some ⟨a,0,none⟩) N I):=λxs m=>((grown w xs m).cell HX.hx 1).trans k1;have z2:∀xs m,(grow w xs m).cell? ⟨x,2,none⟩=some (iI B):=λxs m=>((grown w xs m).cell HX.hx 2).trans k2;have z4:∀xs m,(grow w xs m).cell? ⟨a,j,none⟩=some (iI c1):=λxs m=>((grown w xs m).cell HX.ha j).trans ka;go_enter func262,ntmps262;go_upto_region 6 with(go_at_call 217;refine(JJ HX.vec).mono ?_;rintro e w1 ⟨rfl,rfl⟩);refine JX (by kernel_rfl) (by kernel_rfl) ?_
   repeat(go_big_quiet_step (first|(go_at_call 290;have hc:=λxs m=>V7Z (HX.vec.gr (grown w xs m)) (t:Int) (r:Int) Ω;simp only[H2]at hc;exact BB.grown (hc _ _))))
   refine ζb ?_;intro _ M;obtain⟨⟨xs,nq⟩,J⟩:=M;subst J;go_wp2;go_ret;exact⟨by simp_all,grown w _ _⟩
theorem Qza(g:FuncId)(b1 b2:Addr)(n:Nat)(hn:n<=1048576)(t:Nat->Bool)(w:World)
  (hg:∀args W,(callFunc g args).run prog W=.ok (.enter g args) W)
  (hm:∀i j,i<=j->j<n->t i=true->t j=true)
  (hf:∀i W,i<n->Gr w W->Calls prog g #[iI (i:Nat),.pointer (some b1),.pointer (some b2)] W (λe W'=>e=.returned (.bool (t i))/\Gr W W')):
  BB prog 306 #[iI n,.func (.func g) #[] #[.pointer (some b1),.pointer (some b2)]] w (iI (first t n:Nat)):=by
 have HF:=hf;have HM:=hm;unfold BB;go_enter func306,ntmps306;go_wp2
 go_loopw [5,6] (λx y wr=>∃lo hi:Nat,lo<=hi/\hi<=n/\Hid (∀i,i<lo->t i=false)/\Hid (hi<n->t hi=true)/\Hid (Gr w wr)/\x=iI lo/\y=iI hi) (λx y _=>(intOf y).toNat-(intOf x).toNat)
 case atStart=>exact⟨0,n,by omega,by omega,⟨λi h=>by omega⟩,⟨λh=>by omega⟩,⟨Gr.refl _⟩,rfl,rfl⟩
 case round=>
  obtain⟨lo,hi,h1,h2,hl,hh,hG,rfl,rfl⟩:=hrel;by_cases hlt:lo<hi
  ·obtain⟨m,Y⟩:=ε ((lo+hi)/2);have hm1:lo<=m/\m<hi:=Ω
   have q1:((lo:Int)+(hi:Int))/2=(m:Int):=Ω
   clear Y;cases ht:t m with
   | false=>
    have HC:=(HF m wr Ω hG.o);have HN:=ht;go_wp2_with(refine Qa HC λW2 h2=>?_;rw[HN];have X:=ι (hG.o.trans h2);clear h2);go_roundw
    case rel=>
     refine⟨m+1,hi,by omega,by omega,⟨λi hi'=>?_⟩,hh,X,by go_num,rfl⟩;cases hti:t i with
     | false=>rfl
     | true=>have:=HM i m Ω Ω hti;rw[HN]at this;cases this
    case measure=>simp[intOf];omega
   | true=>
    have HC:=(HF m wr Ω hG.o);have HN:=ht;go_wp2_with(refine Qa HC λW2 h2=>?_;rw[HN];have X:=ι (hG.o.trans h2);clear h2);go_roundw
    case rel=>exact⟨lo,m,by omega,by omega,hl,⟨λ_=>HN⟩,X,rfl,by go_num⟩
    case measure=>simp[intOf];omega
  ·obtain rfl:lo=hi:=Ω
   have E:=(GW h2 hl.o hh.o);go_wp2;go_ret;exact⟨AU (by rw[E]),hG.o⟩
theorem Q3a(l:List Bool){a:Nat}(h:cnt (at_ l) a=q):BX l (a:Int)=C4 l q:=by
 obtain⟨j,hj⟩:=ε (BX l (a:Int));have hle:j<=l.length:=by rw[hj];exact IH _ _
 have hno:∀i,i<j->¬(at_ l i=true/\a<=i):=λi hi hc=>by
  have:=JA (λi=>at_ l i&&decide ((a:Int)<=i)) l.length i (by rw[hj]at hi;exact hi)
  simp_all
 rw[<-hj];rcases δ j l.length with X|hge
 ·have hat:=H7 (λi=>at_ l i&&decide ((a:Int)<=i)) l.length (by rw[hj]at X;exact X)
  have Y:at_ l j=true/\(a:Int)<=j:=by
   have e:first (λi=>at_ l i&&decide ((a:Int)<=i)) l.length=j:=hj.symm
   simp_all
  have hc:cnt (at_ l) j=q:=by
   grind [QW]
  exact(ZZ X Y.1 hc).symm
 grind [δ,QW,U8,VZZ]
theorem Z7T(h:q<cnt (at_ l) l.length):BX l ((C4 l q:Int)+1)=C4 l (q+1):=by
 obtain⟨h1,h2,h3⟩:=Z1 h;have:=Q3a l (a:=C4 l q+1) (q:=q+1) (by grind [C1])
 assumption
theorem VVz{a:Nat}(hX:Idx w x p b a l B)(bx bk:Addr)(k:Nat)(hbx:w.cell? bx=some (pP x))(hbk:w.cell? bk=some (iI k))
  (i:Nat) (hi:i<nbl l.length B):Calls prog 307 #[iI i,.pointer (some bx),.pointer (some bk)] w λe w'=>e=.returned (.bool (decide (k<cnt (at_ l) (i*B))))/\Gr w w':=by
 obtain⟨cap,c1⟩:=hX.c1;have ca:=hX.ca i hi;have hi0:(0:Int)<=(i:Int):=Ω
 go_in;go_upto_region 1 with(fail);go_quiet (fail);go_wp2;go_ret;exact⟨Zbf (by simp),(Gr.refl w).drewN _⟩
theorem YDO(l:List Bool)(hB:1<=B)(hk:k<cnt (at_ l) l.length):
  ∃j,first (λi=>decide (k<cnt (at_ l) (i*B))) (nbl l.length B)=j+1/\j<nbl l.length B/\cnt (at_ l) (j*B)<=k:=by
 obtain⟨f,hf⟩:=ε (first (λi=>decide (k<cnt (at_ l) (i*B))) (nbl l.length B))
 have hle:f<=nbl l.length B:=by grind [IH]
 have hn:0<l.length:=by
  grind [ζF,MU]
 have hN:0<nbl l.length B:=(JU hB).2 Ω
 have h0:f≠0:=λh=>by
  have:=H7 (λi=>decide (k<cnt (at_ l) (i*B))) (nbl l.length B) Ω;rw[<-hf,h]at this
  grind [MU]
 obtain⟨j,rfl⟩:∃j,f=j+1:=⟨f-1,by omega⟩;refine⟨j,hf.symm,by omega,?_⟩;have:=JA (λi=>decide (k<cnt (at_ l) (i*B))) (nbl l.length B) j Ω
 simp_all
theorem VE(u v:Value)(T1 T2:TypeId):
  Gr w ((w.alloc (.cells #[u] T1)).alloc (.cells #[v] T2))/\((w.alloc (.cells #[u] T1)).alloc (.cells #[v] T2)).cell? ⟨w.heap.size,0,none⟩=some u/\((w.alloc (.cells #[u] T1)).alloc (.cells #[v] T2)).cell? ⟨w.heap.size+1,0,none⟩=some v:=by
 refine⟨((Gr.refl w).alloc _).alloc _,?_,?_⟩
 ·simp_all
 simp_all
theorem Zo5(x:Nat)(q:Int)(hq:q<0):BB prog 305 #[pP x,iI q] w (.tuple #[iI 0,.bool false]):=by
 go_enter func305,ntmps305;go_upto_region 1 with(fail);obtain⟨hg,c1,c2⟩:=VE (w:=w) (pP x) (iI q) 334 3;generalize (w.alloc (.cells #[.pointer (some ⟨x,0,none⟩)] 334)).alloc (.cells #[.int .i64 q] 3)=W2 at *
 go_quiet (fail);go_wp2;go_ret2;exact⟨BT rfl rfl,hg.drewN _⟩
theorem V1d{a:Nat}(hX:Idx w x p b a l B)(q:Nat)(hq:cnt (at_ l) l.length<=q):
  BB prog 305 #[pP x,iI q] w (.tuple #[iI 0,.bool false]):=by
 have k3:=hX.c3;have hx:=hX.hx;have d0:decide ((q:Int)<0)=false:=by simp
 go_enter func305,ntmps305;go_upto_region 1 with(fail);obtain⟨hg,c1,c2⟩:=VE (w:=w) (pP x) (iI q) 334 3;generalize (w.alloc (.cells #[.pointer (some ⟨x,0,none⟩)] 334)).alloc (.cells #[.int .i64 q] 3)=W2 at *
 have c3:=(hg.cell hx 3).trans k3;go_quiet (fail);go_wp2;go_ret2;exact⟨BT rfl rfl,hg.drewN _⟩
theorem Zrb(args:Array Value)(W:World):(callFunc 307 args).run prog W=.ok (.enter 307 args) W:=by kernel_rfl
theorem JlP{a:Nat}(hX:Idx w x p b a l B)(hT:AQ w)(k:Nat)(hk:k<cnt (at_ l) l.length):
  BB prog 305 #[pP x,iI k] w (.tuple #[iI (C4 l k:Nat),.bool true]):=by
 have HX:=hX;have HT:=hT;have HK:=hk;obtain⟨j,D,V,Z⟩:=YDO l hX.b1 hk;obtain⟨N,hN⟩:=ε (cnt (at_ l) l.length);have k0:=hX.c0;have k2:=hX.c2;have k3:=hX.c3;obtain⟨Y,k1⟩:=hX.c1;have ka:=hX.ca j V;have hx:=hX.hx;have n2:=hX.vec.n2;have Xf:=NB (n:=l.length) hX.b1;have hb2:=hX.b2;rw[<-hN]at k3;have hNk:k<N:=by rw[hN];exact hk
 have A:N<=l.length:=by rw[hN];exact EY _ _
 have d0:decide ((k:Int)<0)=false:=by simp
 have d1:decide (N<=k)=false:=by simp;omega
 have hkb:k<=1048576:=Ω
 have Xa:j*B<l.length:=(JU hX.b1).1 V;obtain⟨t,ht⟩:=ε (j*B);rw[<-ht]at Xa ka Z;obtain⟨c,hc⟩:=ε (cnt (at_ l) t);rw[<-hc]at ka Z;have hw3:IntKind.i64.wrap ((j:Int)*(B:Int))=(t:Int):=by rw[show (j:Int)*(B:Int)=(t:Int)by rw[ht,ψa],ζp _ Ω]
 have Xd:=(Q3a l hc.symm);have HP:Hid (∀n,n<=k->C4 l n<l.length):=⟨λn hn=>(Z1 (l:=l) (q:=n) Ω).1⟩;have Xb:Hid (∀n,n<=k->BX l ((C4 l n:Int)+1)=C4 l (n+1)):=⟨λn hn=>Z7T Ω⟩;obtain⟨M,hM⟩:=ε (nbl l.length B);have Xc:=D;rw[<-hM]at k1 V Xf;have HM:=ι hM;have hjM:(j:Int)<M:=Ω
 clear hX hk hN ht hc D hM hT A;unfold BB;go_enter func305,ntmps305;go_upto_region 1 with(fail);obtain⟨hg,c1,c2⟩:=VE (w:=w) (pP x) (iI k) 334 3;generalize (w.alloc (.cells #[.pointer (some ⟨x,0,none⟩)] 334)).alloc (.cells #[.int .i64 k] 3)=W2 at *
 have z0:=(hg.cell hx 0).trans k0;have z1:=(hg.cell hx 1).trans k1;have z2:=(hg.cell hx 2).trans k2;have z3:=(hg.cell hx 3).trans k3;have K1:=ι k1;clear k0 k1 k2 k3;have HG:=ι hg;have HC:=ι (ξ c1 c2);clear hg;go_quiet (fail)
 have HS:=ι (Qza 307 ⟨w.heap.size,0,none⟩ ⟨w.heap.size+1,0,none⟩ M Ω (λi=>decide (k<cnt (at_ l) (i*B))) (W2.drewN nq) Zrb
  (λi i' h1 h2 h3=>by
   have:=U8 (at_ l) (ζj B h1)
   simp at h3⊢;omega)
  (λi W hi hgW=>VVz (HX.gr ((HG.o.drewN nq).trans hgW)) _ _ k (by
    rw[hgW.cell (b:=w.heap.size) (by have:=A6 HC.o.1;exact this)];exact HC.o.1) (by
    rw[hgW.cell (b:=w.heap.size+1) (by have:=A6 HC.o.2;exact this)];exact HC.o.2) i (by rw[<-HM.o];exact hi)))
 rw[HM.o,Xc,<-HM.o]at HS;have hmf:∀(fn:Fn) (first Y:Array Value) (w:World),(Instr.makeFunc fn first Y).run prog w=.ok (.func fn first Y) w:=λ_ _ _ _=>rfl;go_upto_region 4 with(go_at_call 306;refine HS.o.mono ?_;rintro e W3 ⟨rfl,h3⟩;have X:=ι (HG.o.trans (((Gr.refl W2).drewN nq).trans h3));have y0:=(h3.cell (b:=w.heap.size) (A6 HC.o.1) 0).trans HC.o.1;have y1:=(h3.cell (b:=w.heap.size+1) (A6 HC.o.2) 0).trans HC.o.2;clear h3);have v0:=(X.o.cell hx 0).trans HX.c0;have v2:=(X.o.cell hx 2).trans HX.c2
 have v1:W3.cell? ⟨x,1,none⟩=some (.slice (some ⟨a,0,none⟩) M Y):=by
  exact(X.o.cell hx 1).trans K1.o
 have va:W3.cell? ⟨a,j,none⟩=some (iI c):=(X.o.cell HX.ha j).trans ka;have G:=ι (HX.vec.gr X.o);have J:=ι (X.o.tab HT.lt HT);have E:=HP.o c Z
 have HN:Hid (∀n,Calls prog 251 #[pP p,iI t] (W3.drewN n) λe w'=>e=.returned (.tuple #[iI (C4 l c:Nat),.bool true])/\w'=W3.drewN n):=⟨λn=>
  (L3 (G.o.gr ((Gr.refl W3).drewN n)) (((Gr.refl W3).drewN n).tab J.o.lt J.o) t).mono λe w' ⟨he,hw⟩=>⟨by rw[he,Xd,JK E,φ E],hw.symm⟩⟩
 clear z0 z1 z2 z3 ka HS;go_quiet ((go_at_call 251;exact Calls.quiet_of_same (HN.o _)));go_wp2
 go_loop [7,9] (λs7 s9=>∃n:Nat,c<=n/\n<=k/\s7=iI (C4 l n:Nat)/\s9=iI n) (λ_ s9=>k-(intOf s9).toNat)
 case atStart=>exact⟨c,μ _,Z,rfl,rfl⟩
 case round=>
  obtain⟨n,hn1,I,rfl,rfl⟩:=hrel;have hp:=HP.o n I;obtain⟨r,hr⟩:=ε (C4 l n);have HE:=Xb.o n I;rw[<-hr]at hp HE⊢;by_cases hlt:n<k
  ·have U:=HP.o (n+1) Ω;have Xe:=ι HE;have HR:=ι (ξ (JK U) (φ U));clear hr HE U;go_wp2_with(go_at_call 251;refine(L3 (G.o.gr ((Gr.refl W3).drewN _)) (((Gr.refl W3).drewN _).tab J.o.lt J.o) _).mono ?_;rintro e w' ⟨rfl,rfl⟩;rw[Xe.o,HR.o.1,HR.o.2]);go_round
   case rel=>exact⟨n+1,by omega,by omega,rfl,by go_num⟩
   case measure=>simp[intOf];omega
  ·obtain rfl:n=k:=Ω
   have HR:=ι hr;clear hr HE;go_wp2;go_ret2;exact⟨BT (by rw[HR.o];rfl) rfl,X.o.drewN _⟩
theorem Qax{a:Nat}(hX:Idx w x p b a l B)(hT:AQ w)(q:Int):
  BB prog 305 #[pP x,iI q] w (.tuple #[iI (LT l q),.bool (OJ l q)]):=by
 by_cases h:q<0
 ·have e1:LT l q=0:=by unfold LT;rw[θ h]
  have e2:OJ l q=false:=by unfold OJ;grind
  grind [Zo5]
 ·obtain⟨k,rfl⟩:∃k:Nat,q=k:=⟨q.toNat,by omega⟩;have e1:LT l k=KD l.length (C4 l k):=by unfold LT;grind
  have e2:OJ l k=decide (C4 l k<l.length):=by rfl
  rw[e1,e2];rcases δ k (cnt (at_ l) l.length)with hk|hk
  ·grind [Z1,JK,φ,JlP]
  grind [VZZ,O1,ζ,V1d]
theorem QTm:(prog.info? 3).map (λi=>(i.zero,i.size,i.bytes))=some (some (iI 0),1,8):=by kernel_rfl
def ZQP(w:World)(l:List Bool)(B:Nat)(e:Ending)(w':World):Prop:=
 ∃x p b a,e=.returned (.tuple #[pP x,iI 0])/\Gr w w'/\Idx w' x p b a l B/\w.heap.size<=x/\w.heap.size<=p/\w.heap.size<=b/\w.heap.size<=a
def JR(l:List Bool)(B k:Nat):List Value:=(List.range k).map λj=>iI (cnt (at_ l) (j*B):Nat)
theorem X5M(l:List Bool)(B k:Nat):JR l B (k+1)=JR l B k++[iI (cnt (at_ l) (k*B):Nat)]:=by
 unfold JR;rw[ψO,ζI];rfl
structure FW(w:World)(l:List Bool)(B X p b BASE k m:Nat)(v:Value)(wr:World):Prop where
 gr:Gr w wr
 vec:BG wr p b l
 own:wr.ownsRow BASE 3 1 v k (JR l B k)
 c0:wr.cell? ⟨X,0,none⟩=some (pP p)
 c1:wr.cell? ⟨X,1,none⟩=some v
 c2:wr.cell? ⟨X,2,none⟩=some (iI B)
 c3:wr.cell? ⟨X,3,none⟩=some (iI (EF l 0 (m*B:Nat):Nat))
 free:∀o,wr.frozen? ⟨X,o,none⟩=false
 lt:X<BASE
 ltp:p<X
 ltb:b<X
 ge:w.heap.size<=p/\w.heap.size<=b
 base:BASE<=wr.heap.size
theorem FW.far{X:Nat}{v:Value}(h:FW w l B X p b BASE k m v wr):v.ownBlock≠some X:=λe=>by
 have:=(A9 h.own e).1;have:=h.lt;omega
theorem FW.grow{X:Nat}{v:Value}{wr':World}(h:FW w l B X p b BASE k m v wr)(g:Gr wr wr'):FW w l B X p b BASE k m v wr':=by
 have hX:X<wr.heap.size:=by have:=h.lt;have:=h.base;omega
 exact⟨h.gr.trans g,h.vec.gr g,CF h.own g,(g.cell hX 0).trans h.c0,(g.cell hX 1).trans h.c1,(g.cell hX 2).trans h.c2,(g.cell hX 3).trans h.c3,λo=>(g.frozen hX o).trans (h.free o),h.lt,h.ltp,h.ltb,h.ge,ω h.base g.size⟩
theorem FW.append{X:Nat}{v:Value}(h:FW w l B X p b BASE k m v wr){g:Nat}
  (hown:w1.ownsRow BASE 3 1 (.slice (some ⟨g,0,none⟩) (k+1) c) (k+1) (JR l B (k+1))) (hgrow:wr.grownBy w1 v.ownBlock):
  FW w l B X p b BASE (k+1) m (.slice (some ⟨g,0,none⟩) (k+1) c) (w1.setCell ⟨X,1,none⟩ (.slice (some ⟨g,0,none⟩) (k+1) c)):=by
 have hX:X<wr.heap.size:=by have:=h.lt;have:=h.base;omega
 have t:AB (λi=>v.ownBlock=some i) wr w1:=DT hgrow _ (λk e _=>e);have t2:AB (λi=>i=X) w1 (w1.setCell ⟨X,1,none⟩ (.slice (some ⟨g,0,none⟩) (k+1) c)):=(AB.refl (λi=>i=X) w1).setCell (a:=⟨X,1,none⟩) (λ_=>rfl) _;have Y:∀i,i<BASE->v.ownBlock≠some i:=λi hi e=>by have:=(A9 h.own e).1;omega
 have e:∀o,w1.cell? ⟨X,o,none⟩=wr.cell? ⟨X,o,none⟩:=λo=>t.cell hX (Y X h.lt) o
 have o:∀o,o≠1->(w1.setCell ⟨X,1,none⟩ (.slice (some ⟨g,0,none⟩) (k+1) c)).cell? ⟨X,o,none⟩=wr.cell? ⟨X,o,none⟩:=λo ho=>by
  rw[ξG (h:=by simp_all),e o]
 have hp:=h.ltp;have hb:=h.ltb;have hl:=h.lt;refine⟨?_,?_,?_,(o 0 Ω).trans h.c0,?_,(o 2 Ω).trans h.c2,(o 3 Ω).trans h.c3,?_,h.lt,h.ltp,h.ltb,h.ge,ω h.base (ω t.size t2.size)⟩
 ·refine(((h.gr.touch (λ_=>False)).trans' t (λi hi e=>?_)).trans' t2 (λi hi e=>?_)).gr
  ·have:=(A9 h.own e).1;have:=h.ge;omega
  ·have:=h.ge;omega
 ·exact(h.vec.touch t (Y p Ω) (Y b Ω)).touch t2 Ω Ω
 ·refine AX hown t2 (λi hi e=>?_);have:=(A9 hown hi).1;omega
 ·exact ξu (h:=(e 1).trans h.c1) ..
 ·intro o;rw[ξh,t.frozen hX (Y X h.lt)];exact h.free o
theorem FW.count{X:Nat}{v:Value}(h:FW w l B X p b BASE k m v wr){z:Int}(hz:z=(EF l 0 (m' * B:Nat):Nat)):
  FW w l B X p b BASE k m' v (wr.setCell ⟨X,3,none⟩ (.int .i64 z)):=by
 have t2:AB (λi=>i=X) wr (wr.setCell ⟨X,3,none⟩ (.int .i64 z)):=(AB.refl (λi=>i=X) wr).setCell (a:=⟨X,3,none⟩) (λ_=>rfl) _;have hp:=h.ltp;have hb:=h.ltb;have hl:=h.lt
 have o:∀o,o≠3->(wr.setCell ⟨X,3,none⟩ (.int .i64 z)).cell? ⟨X,o,none⟩=wr.cell? ⟨X,o,none⟩:=λo ho=>by
  rw[ξG (h:=by simp_all)]
 refine⟨?_,h.vec.touch t2 Ω Ω,?_,(o 0 Ω).trans h.c0,(o 1 Ω).trans h.c1,(o 2 Ω).trans h.c2,?_,?_,h.lt,h.ltp,h.ltb,h.ge,ω h.base t2.size⟩
 ·refine((h.gr.touch (λ_=>False)).trans' t2 (λi hi e=>?_)).gr;have:=h.ge;omega
 ·refine AX h.own t2 (λi hi e=>?_);have:=(A9 h.own hi).1;omega
 ·rw[hz];exact ξu (h:=h.c3) ..
 ·intro o;rw[ξh];exact h.free o
theorem FW.done{X:Nat}{v:Value}(h:FW w l B X p b BASE k k v wr)(h1:1<=B)(h2:B<=1024)(hk:k=nbl l.length B)(hl:l.length<=k*B):
  ∃a,Idx wr X p b a l B/\w.heap.size<=a:=by
 have hn:=h.vec.n1;have Y:k≠0:=by grind
 obtain⟨g,c,rfl,hg1,hg2,hg3,Z⟩:=E6 h.own Y;have:=h.lt;refine⟨g,⟨h.vec,h1,h2,by omega,Z,h.c0,⟨c,by rw[h.c1,hk]⟩,h.c2,?_,λj hj=>?_⟩,by have:=h.ge;have:=h.ltp;omega⟩
 ·rw[h.c3,Vbb l Ω]
 ·refine BU h.own ?_;unfold JR
  simp_all
theorem JHa{T:TypeId}(hg:Gr w w1)(hV:BG w1 q r l)(h1:w.heap.size<=q)(h2:w.heap.size<=r):
  FW w l B w1.heap.size q r (w1.heap.size+1) 0 0 (.slice none 0 0) (w1.alloc (.cells #[.pointer (some ⟨q,0,none⟩),.slice none 0 0,.int .i64 B,.int .i64 0] T)):=by
 have hp:=hV.hp;have hb:=hV.hb;refine⟨hg.alloc _,hV.gr ((Gr.refl w1).alloc _),FD _ _ _ _,ζM ..,ζM ..,ζM ..,?_,λo=>ψk ..,by omega,hp,hb,⟨h1,h2⟩,by simp⟩;rw[show EF l 0 ((0*B:Nat):Int)=0 from VlR l (by simp)]
 simp_all
theorem XFA(hV:BG w p b l)(n:Int)(hn:BQ n=false)(hn2:n<=9223372036854775807):
  cQ 254 #[pP p,iI n] w (.tuple #[.pointer none,iI 5]):=by
 have n1:((l.length:Int)==0)=false:=by have:=hV.n1;grind
 have HV:=hV;rw[OA]at hn;cases hp:C0 n with
 | false=>
  go_enter func254,ntmps254
  go_wp2_with(first|(go_at_call 217;refine Qa (JJ HV) λw1 rfl=>?_)|(go_at_call 182;refine Qa (KY n hn2 _) λw1 rfl=>?_))
  go_ret2
  simp_all
 | true=>
  rw[hp]at hn;have d1:decide ((1024:Int)<n)=true:=by simp at hn;simp;omega
  go_enter func254,ntmps254
  go_wp2_with(first|(go_at_call 217;refine Qa (JJ HV) λw1 rfl=>?_)|(go_at_call 182;refine Qa (KY n hn2 _) λw1 rfl=>?_))
  go_ret2
  simp_all
theorem Zv3(hV:BG w p b l)(B:Nat)(hB:BQ B=true):Calls prog 254 #[pP p,iI B] w (ZQP w l B):=by
 have n1:((l.length:Int)==0)=false:=by have:=hV.n1;exact ζl.2 Ω
 have n2:=hV.n2;have hb:=DR hB;have Xh:1<=B:=Ω
 have Xt:B<=1024:=Ω
 have d1:decide ((1024:Int)<(B:Int))=false:=by simp;omega
 have HP:Hid (C0 B=true):=⟨by rw[OA]at hB;simp at hB;exact hB.1⟩;obtain⟨i0,hi,Xl,Xp,Xq⟩:=info_parts QTm;have HV:=hV;clear hV hB hb;go_in
 go_wp2_with(first|(go_at_call 217;refine(JJ HV).mono ?_;rintro e w1 ⟨rfl,rfl⟩)|(go_at_call 182;refine(KY B Ω _).mono ?_;rintro e w1 ⟨rfl,rfl⟩;rw[HP.o])|(go_at_call 289;refine(Z27 HV).mono ?_;rintro e w1 ⟨q,r,rfl,Xf,A,G,Xj⟩))
 have Xd:=ι (JHa (B:=B) (T:=362) Xf A G Xj);generalize w1.alloc (.cells #[.pointer (some ⟨q,0,none⟩),.slice none 0 0,.int .i64 B,.int .i64 0] 362)=W2 at *
 obtain⟨X,hX⟩:=ε w1.heap.size;rw[<-hX]at Xd⊢;clear hX;clear Xf A G Xj
 go_loopw [7] (λs7 wr=>∃k t v,Hid (FW w l B X q r (X+1) k k v wr)/\Hid (t=k*B)/\k<=t/\t<=1048576+1024/\Hid (∀i,i<k->i*B<l.length)/\s7=iI (t:Nat)) (λs7 _=>1048576+1025-(intOf s7).toNat)
 case atStart=>exact⟨0,0,_,Xd,⟨by simp⟩,by omega,by omega,⟨λi h=>by omega⟩,rfl⟩
 case round=>
  obtain⟨k,t,v,HN,ht,hkt,htb,D,rfl⟩:=hrel;by_cases Xk:t<l.length
  ·have Xo:Hid (∀i,i<k+1->i*B<l.length):=⟨λi h=>by
    rcases δ i k with h1|h1
    ·exact D.o i h1
    ·rw[show i=k by omega,<-ht.o];exact Xk⟩
   have Xi:Hid (t+B=(k+1)*B):=⟨by rw[ξd,ht.o]⟩;go_upto_region 9 with(go_at_call 217;refine(JJ (HV.gr HN.o.gr)).mono ?_;rintro e w1 ⟨rfl,rfl⟩);have c1:=HN.o.c1;obtain⟨c,hc⟩:=ε (EF l 0 (k*B:Nat));have c3:=HN.o.c3;have fr:=HN.o.free 1;rw[<-hc]at c3
   have Xa:JR l B (k+1)=JR l B k++[iI (c:Nat)]:=by
    rw[X5M,hc,XA l (by rw[<-ht.o];omega)]
   have Xr:=Xa;have HC:=ι hc;have HX:Hid (X<wr.heap.size):=⟨by have:=HN.o.base;omega⟩;clear Xa hc;have KS:Hid (∀W',Gr wr W'->W'.cell? ⟨X,1,none⟩=some v/\W'.cell? ⟨X,3,none⟩=some (iI (c:Nat))/\W'.frozen? ⟨X,1,none⟩=false):=⟨λW' h=>⟨(h.cell HX.o 1).trans c1,(h.cell HX.o 3).trans c3,(h.frozen HX.o 1).trans fr⟩⟩;obtain⟨S,hS⟩:=ε (λW'=>W'.cell? ⟨X,1,none⟩=some v/\W'.cell? ⟨X,3,none⟩=some (iI (c:Nat))/\W'.frozen? ⟨X,1,none⟩=false:World->Prop);have x1:∀p:AA S,p.w.cell? ⟨X,1,none⟩=some v:=λp=>(AA.get hS p).1;have x3:∀p:AA S,p.w.cell? ⟨X,3,none⟩=some (iI (c:Nat)):=λp=>(AA.get hS p).2.1;have Z:S wr.drew:=by rw[hS];exact KS.o _ (Gr.refl _).drew
   have HS:=ι hS;clear hS;have U:Inhabited (AA S):=⟨⟨_,Z⟩⟩;refine BI S 13 [([0,1,2,3,4,5,6,7,8],9),([],10),([11,12],13)] [] Z ?_;refine AL ?_;go_wp2;refine⟨.inr (AA.of (by rw[HS.o];exact KS.o _ ((Gr.refl _).alloc _).drew)),?_⟩;refine P4 ?_;simp only[AF,υ,ν];refine ζb ?_;go_wp2_with(at_builtin;refine wpList_append_lies _ rfl _ _ 42 rfl (X+1) 3 i0 _ 1 8 underlying42 hi Xl Xp Xq rfl Ω v k (JR l B k) rfl ((HN.o.own.alloc _).drew) ⟨wr.heap.size,0,none⟩ 1 1 [iI (c:Nat)] rfl rfl (ζY (cs:=#[iI (c:Nat)]) (t:=3) (fr:=(0,0)) (heap_alloc_new wr _)) (by simp[Value.oneCell']) Ω (by unfold maxLen;omega) Ω (by have:=HX.o;simp;omega) (wr.heap.size+1) (by simp) ?_;intro g cp w1 V Y Xm Xb)
   go_frame
   have I:Gr wr (wr.alloc (.cells #[.int .i64 (c:Nat)] 3)).drew:=((Gr.refl _).alloc _).drew
   have N:w1.cell? ⟨X,1,none⟩=some v/\w1.cell? ⟨X,3,none⟩=some (iI (c:Nat))/\w1.frozen? ⟨X,1,none⟩=false:=by
    have hz:=KS.o _ I
    exact⟨(Y.cell_far ⟨X,1,none⟩ (by have:=HX.o;simp;omega) (Ne.symm HN.o.far)).trans hz.1,(Y.cell_far ⟨X,3,none⟩ (by have:=HX.o;simp;omega) (Ne.symm HN.o.far)).trans hz.2.1,
     (Y.frozen_far ⟨X,1,none⟩ (by have:=HX.o;simp;omega) (Ne.symm HN.o.far)).trans hz.2.2⟩
   refine⟨.inr (AA.of (by rw[HS.o];exact N)),?_⟩;have HM:=((HN.o.grow I).append (by rw[Xr];exact V) Y);have k1:=N.1;have k3:=N.2.2;clear I V Y Xm Xb N;refine AL ?_;go_wp2;refine⟨.inl trivial,?_⟩;refine EM ?_;refine ζb ?_;refine ζx ?_;generalize w1.setCell ⟨X,1,none⟩ (.slice (some ⟨g,0,none⟩) (k+1) cp)=W3 at HM⊢;generalize (Value.slice (some ⟨g,0,none⟩) (k+1) cp)=v3 at HM⊢;clear x1 x3 Z HS U k1 k3 KS c1 c3 fr HX;clear S;obtain⟨tb,J⟩:=ε (t+B);obtain⟨d,hd⟩:=ε (EF l (t:Int) (tb:Int));obtain⟨e,he⟩:=ε (EF l 0 ((k+1)*B:Nat))
   have Xg:(c:Int)+(d:Int)=(e:Int):=by
    have:=V9n l (a:=0) (b:=(t:Int)) (c:=(tb:Int)) Ω Ω;rw[hd,he,HC.o,<-ht.o,<-Xi.o,<-J];exact this
   have hel:e<=l.length:=by rw[he];exact EY _ _
   have Xs:IntKind.i64.wrap ((t:Int)+(B:Int))=(tb:Int):=by rw[J,ζp _ Ω];omega
   have Xn:IntKind.i64.wrap ((c:Int)+(d:Int))=(e:Int):=by rw[Xg,ζp _ Ω]
   have HD:=ι hd;have HE:=ι he;have HTB:=ι J;have k3:W3.cell? ⟨X,3,none⟩=some (iI (c:Nat)):=by rw[HM.c3,HC.o]
   have fr:W3.frozen? ⟨X,3,none⟩=false:=HM.free 3;have HX:Hid (X<W3.heap.size):=⟨by have:=HM.base;omega⟩;clear Xg hd he J;go_upto_region 10 with(fail);obtain⟨S,hS⟩:=ε (λW'=>W'.cell? ⟨X,3,none⟩=some (iI (c:Nat)):World->Prop);have x3:∀p:AA S,p.w.cell? ⟨X,3,none⟩=some (iI (c:Nat)):=λp=>AA.get hS p;have Z:S W3.drew:=by rw[hS];exact k3
   have HS:=ι hS;clear hS;have U:Inhabited (AA S):=⟨⟨_,Z⟩⟩;refine BI S 13 [([0,1,2,3,4,5,6,7,8],9),([10,11,12],13)] [] Z ?_;refine AL ?_;go_wp2_with(go_at_call 290;refine(V7Z (HV.gr (HM.gr.drew)) (t:Int) (tb:Int) Ω).mono ?_;rintro e' W4 ⟨rfl,Xc⟩;rw[<-HD.o]);have M:Gr W3 W4:=(Gr.refl W3).drew.trans Xc;have q3:=(M.cell HX.o 3).trans k3;have qf:=(M.frozen HX.o 3).trans fr;have Xe:=ι ((HM.grow M).count (m':=k+1) (z:=(e:Nat)) (by rw[HE.o]));clear Xc M;refine⟨.inr (AA.of (by rw[HS.o];exact q3)),?_⟩;refine AL ?_;go_wp2;refine⟨.inl trivial,?_⟩;refine EM ?_;refine ζb ?_;refine ζx ?_;generalize W4.setCell ⟨X,3,none⟩ (.int .i64 (e:Nat))=W5 at Xe⊢;clear x3 Z HS U q3 qf k3 fr Xs Xn;clear S;go_wp2;go_roundw
   case rel=>exact⟨k+1,t+B,v3,Xe,Xi,by omega,by omega,Xo,by go_num⟩
   case measure=>simp[intOf];omega
  ·have E:=ι (QnL Xh (show l.length<=k*B by rw[<-ht.o];omega) D.o);have HF:=ι (HN.o.done Xh Xt E.o.symm (by rw[<-ht.o];omega));go_wp2_with(go_at_call 217;refine(JJ (HV.gr HN.o.gr)).mono ?_;rintro e w1 ⟨rfl,rfl⟩);go_ret2;obtain⟨a,hI,ha⟩:=HF.o;exact⟨X,q,r,a,BT rfl rfl,HN.o.gr,hI,by have:=HN.o.ge;have:=HN.o.ltp;omega,HN.o.ge.1,HN.o.ge.2,ha⟩
def C9(n:Nat)(L:List Ob):List Bool:=(List.range n).map (EA L)
theorem K0(n:Nat)(L:List Ob):(C9 n L).length=n:=by simp[C9]
theorem XY(h:AS n L)(i:Nat):at_ (C9 n L) i=EA L i:=by
 unfold C9;rw[KR];by_cases hi:i<n
 ·simp_all
 ·rw[ζ hi];cases hb:EA L i with
  | false=>rfl
  | true=>
   obtain⟨o,ho,h1,h2⟩:=PZ.1 hb;have:=h.sz o ho;omega
theorem Yht(h:AS n L)(f t:Int):((EF (C9 n L) f t:Nat):Int)=BC L f t:=by
 rw[<-T0 h,LA,K0];congr 1;exact ZVB (λi _=>by rw[XY h])
theorem VY(h:AS n L)(k:Nat)(hk:k<=n):((cnt (at_ (C9 n L)) k:Nat):Int)=BC L 0 k:=by
 rw[<-Yht h,XA _ (by grind [K0])]
theorem YKJ:∀{q k:Nat},EO L q=some k->∃j,∃hj:j<L.length,∃i,i<L[j].2/\q=AC (L.take j)+i/\k=L[j].1+i:=by
 induction L with
 | nil=>intro q k h;cases h
 | cons o r ih=>
  intro q k h;unfold EO at h;by_cases hq:q<o.2
  ·rw[θ hq]at h;exact⟨0,by simp,q,hq,by simp[AC],(Option.some.inj h).symm⟩
  ·rw[ψ hq]at h;obtain⟨j,hj,i,h1,h2,h3⟩:=ih h;exact⟨j+1,by simp_all,i,h1,by simp[AC];omega,h3⟩
theorem XUI(hj:j<L.length)(hi:i<L[j].2):EA L (L[j].1+i)=true:=PZ.2 ⟨_,χ hj,by omega,by omega⟩
theorem Qh2(h:AS n L)(q:Nat):(∀k,EO L q=some k->C4 (C9 n L) q=k/\k<n)/\(EO L q=none->C4 (C9 n L) q=n):=by
 refine⟨λk hk=>?_,λhn=>?_⟩
 ·obtain⟨j,hj,i,h1,rfl,rfl⟩:=YKJ hk;have hs:=h.sz _ (χ hj);have hc:=VY h (L[j].1+i) Ω;have ho:=Yhz h hj (i:=i) Ω;obtain⟨e1,e2⟩:=YTa (l:=C9 n L) (k:=L[j].1+i) (q:=AC (L.take j)+i) (by grind [XY,XUI]) (by grind);omega
 ·have hle:=Jkd.1 hn;have hc:=VY h n (μ n);rw[UK h]at hc;have:=Vit (f:=at_ (C9 n L)) (n:=n) (k:=q) Ω;unfold C4
  grind [K0]
theorem Zop(h:AS n L)(k:Int):LT (C9 n L) k=JQ L k/\OJ (C9 n L) k=YV L k:=by
 unfold LT OJ JQ YV;by_cases hk:k<0
 ·grind
 ·rw[ψ hk,ψ hk,φ Ω,K0];obtain⟨h1,h2⟩:=Qh2 h k.toNat;cases hw:EO L k.toNat with
  | none=>grind [O1]
  | some x=>grind [JK]
theorem Jw5(hj:j<L.length):C9 n (L.take (j+1))=CX (C9 n (L.take j)) (L[j].1:Nat) ((L[j].1:Int)+(L[j].2:Int)) true:=by
 refine JF (by grind [GC,K0]) (λi hi=>?_);rw[K0]at hi;rw[PH _ _ _ _ _ (by grind [K0])];unfold C9;rw[KR,KR,φ hi];unfold EA
 grind [ζK]
theorem ZPf(n:Nat):C9 n []=List.replicate n false:=by
 unfold C9;exact JF (by simp) (λi hi=>by rw[KR];simp[at_,ξz,EA];split <;> rfl)
def GR(w:World)(F t n B:Nat)(L:List Ob):Prop:=
 AS n L/\t<w.heap.size/\F<=t/\∃v vb x p b a,w.cell? ⟨t,0,none⟩=some (pP v)/\w.cell? ⟨t,1,none⟩=some (pP x)/\BG w v vb (C9 n L)/\Idx w x p b a (C9 n L) B ∧
  F<=v/\F<=vb/\F<=x/\F<=p/\F<=b/\F<=a
theorem GR.touch{F t:Nat}(h:GR w F t n B L)(ht:AB S w w')(hS:∀k,F<=k->k<w.heap.size->¬S k):GR w' F t n B L:=by
 obtain⟨hg,h1,h2,v,vb,x,p,b,a,c0,c1,hV,hX,k1,k2,k3,k4,k5,k6⟩:=h;exact⟨hg,ϑ h1 ht.size,h2,v,vb,x,p,b,a,(ht.cell h1 (hS t h2 h1) 0).trans c0,(ht.cell h1 (hS t h2 h1) 1).trans c1,hV.touch ht (hS v k1 hV.hp) (hS vb k2 hV.hb),hX.touch ht (hS x k3 hX.hx) (hS p k4 hX.vec.hp) (hS b k5 hX.vec.hb) (hS a k6 hX.ha),k1,k2,k3,k4,k5,k6⟩
theorem GR.gr{F t:Nat}(h:GR w F t n B L)(g:Gr w w'):GR w' F t n B L:=h.touch (g.touch (λ_=>False)) (λ_ _ _ h=>h)
section
variable{F t:Nat}
theorem VXx(hO:GR w F t n B L)(hT:AQ w)(k:Int):
  BB prog 303 #[pP t,iI k] w (.tuple #[iI (JQ L k),.bool (YV L k)]):=by
 obtain⟨hg,h1,h2,v,vb,x,p,b,a,c0,c1,hV,hX,-⟩:=hO;rw[<-(Zop hg k).1,<-(Zop hg k).2];have HT:=hT;go_enter func303,ntmps303;go_wp2_with(go_at_call 305;refine Qa (Qax hX HT k) λw1 hg1=>?_);go_ret2
 simp_all
theorem YWi(hO:GR w F t n B L)(i:Int):BB prog 209 #[pP t,iI i] w (iI (BC L 0 i)):=by
 obtain⟨hg,h1,h2,v,vb,x,p,b,a,c0,c1,hV,hX,-⟩:=hO;rw[<-Yht hg];go_enter func209,ntmps209;go_wp2_with(go_at_call 262;refine Qa (Zde hX i) λw1 hg1=>?_);go_ret
 simp_all
theorem ZaO(hO:GR w F t n B L)(i:Int):cQ 208 #[pP t,iI i] w (.bool (decide (0<=i)&&EA L i.toNat)):=by
 obtain⟨hg,h1,h2,v,vb,x,p,b,a,c0,c1,hV,hX,-⟩:=hO;rw[<-XY hg];go_enter func208,ntmps208;go_wp2_with(go_at_call 261;refine Qa (X89 hV i) λw1 rfl=>?_);go_ret
 simp_all
theorem XcN(hO:GR w F t n B L):cQ 201 #[pP t] w (iI (AC L:Nat)):=by
 obtain⟨hg,h1,h2,v,vb,x,p,b,a,c0,c1,hV,hX,-⟩:=hO
 have HL:Hid (cnt (at_ (C9 n L)) (C9 n L).length=AC L):=⟨by
  have:=VY hg n (μ n)
  grind [UK,K0]⟩
 go_enter func201,ntmps201;go_wp2_with(go_at_call 256;refine Qa (ZsP hX) λw1 rfl=>?_;rw[HL.o]);go_ret
 simp_all
end
open Go.Shelf
section
attribute [local go_sem] Oper.semAt_some
theorem JWx(k:Int)(w:World):cQ 199 #[.pointer none,iI k] w (.tuple #[.pointer none,iI 9]):=by
 refine(γ (n:=5)).1 ?_;refine callsIn_of_wp_marks func199 rfl trivial ?_ rfl;simp only[ntmps199,ζ3,ζD,ξf,Nat.reduceAdd,Nat.reduceSub,ζR,ζQ,ζ9,ζZ,ζ4,ζv];gi_wp2_with(refine⟨trivial,?_⟩;gi_at_call 151;refine(γ.2 (QOV _)).mono ?_;rintro e w1 ⟨rfl,rfl⟩);refine⟨.tuple #[.pointer none,iI 9],?_,rfl,rfl⟩;simp[results,f199,go_sem]
structure TV(W0:World)(v vb n:Nat)(L:List Ob)(j:Nat)(A:World):Prop where
 t:AB (λi=>i=vb\/W0.heap.size<=i) W0 A
 jl:j<=L.length
 vec:BG A v vb (C9 n (L.take j))
def V4V(w:World)(n:Nat)(L:List Ob)(k:Int)(e:Ending)(w':World):Prop:=
 Gr w w'/\((BQ k=false/\e=.returned (.tuple #[.pointer none,iI 5]))\/(BQ k=true/\∃t B:Nat,k=B/\e=.returned (.tuple #[pP t,iI 0])/\GR w' w.heap.size t n B L))
theorem UY{p1 b1 p2 b2:Nat}(hE:Ext w m p1 b1 p2 b2 n L)(hT:AQ w)(k:Int)(hk:k<=9223372036854775807):Calls prog 199 #[pP m,iI k] w (V4V w n L k):=by
 have HT:=hT;obtain⟨Xn,Xr⟩:=hE.nb;have hn0:((n:Int)==0)=false:=ζl.2 Ω;clear hT;refine(γ (n:=5)).1 ?_;refine callsIn_of_wp_marks func199 rfl trivial ?_ rfl;simp only[ntmps199,ζ3,ζD,ξf,Nat.reduceAdd,Nat.reduceSub,ζR,ζQ,ζ9,ζZ,ζ4,ζv]
 gi_wp2_with(first|(refine⟨trivial,?_⟩;gi_at_call 151;refine(γ.2 (F7 hE)).mono ?_;rintro e w1 ⟨rfl,rfl⟩)|(refine⟨trivial,?_⟩;gi_at_call 149;refine(γ.2 (XV n Xn Xr _)).mono ?_;rintro e w1 ⟨v,vb,rfl,G,Xd,hv,Xe⟩;have I:=Xd;have HP:=(ξ hv Xe);clear Xd hv Xe)|(refine⟨trivial,?_⟩;gi_at_call 135;refine(γ.2 (LO (some ⟨m,0,none⟩))).mono ?_;rintro e w2 ⟨rfl,rfl⟩))
 obtain⟨X,hX⟩:=ε w1.heap.size;obtain⟨W0,J⟩:=ε ((w1.alloc (.cells #[.pointer (some ⟨v,0,none⟩)] 223)).alloc (.cells #[.pointer (some ⟨m,0,none⟩)] 137));have N:Gr w1 W0:=by rw[J];exact((Gr.refl w1).alloc _).alloc _
 have hs0:W0.heap.size=X+2:=by rw[J,hX];simp
 have e0:W0.cell? ⟨X,0,none⟩=some (pP v):=by rw[J,hX];exact((Boxed.new w1 _ _).alloc _).cell
 have e1:W0.cell? ⟨X+1,0,none⟩=some (pP m):=by
  rw[J,hX];have:=Boxed.new (w1.alloc (.cells #[.pointer (some ⟨v,0,none⟩)] 223)) 137 (pP m);rw[π]at this;exact this.cell
 have Xo:=G.size;have Xq:=I.hp;have Xs:=I.hb;have hz4:=HP.1;have hz5:=HP.2;rw[<-hX]at Xo Xq Xs;have o1:=hE.hm;have o2:=hE.v1.hp;have o3:=hE.v1.hb;have o4:=hE.v2.hp;have o5:=hE.v2.hb;have o6:=HT.lt;have Xm:=(G.trans N);have Xv:=(hE.gr (G.trans N));have Xt:=(I.gr N);have V:=hE.good;have Xa:=(ξ e0 e1);rw[<-J,<-hX];clear J hX N e0 e1;have Xp:TV W0 v vb n L 0 W0:=⟨AB.refl _ _,ζe _,by show BG W0 v vb (C9 n []);rw[ZPf];exact Xt⟩
 have tI:∀j A B,TV W0 v vb n L j A->AB (λi=>W0.heap.size<=i) A B->TV W0 v vb n L j B:=λj A B h t=>
  ⟨h.t.trans (t.mono (λi _ h=>.inr h)),h.jl,h.vec.touch t Ω Ω⟩
 refine VK (s0:=0) rfl Ω (gf:=202) (lb:=#[pP (X+1)]) rfl trivial (enters_of func202 (by kernel_rfl) rfl)
  (Xix _ (X+1) m p1 b1 p2 b2 n L _) (λ_=>rfl)
  (TV W0 v vb n L) (λ_ _=>False) tI (λ_ _ _ h _=>h)
  (λj A h=>⟨Xv.touch h.t Ω Ω Ω Ω Ω,(Xm.tab HT.lt HT).touch' h.t Ω,(h.t.cell Ω Ω 0).trans Xa.2,h.jl⟩)
  Xp ?round ?done (λ_ _ _ _ h _=>h.elim)
 case round=>
  intro lp j x W3 hsz3 Y Z;dsimp only[IC];gi_wp2;refine⟨Gr.refl _,λW4 ht4 hI4=>?_⟩
  have E:j<L.length:=by
   rcases δ j L.length with h|h
   ·exact h
   ·unfold FE at Z;rw[ζz h]at Z;cases Z
  obtain rfl:x=L[j]:=by unfold FE at Z;rw[τ E]at Z;exact(Option.some.inj Z).symm
  have hsz':=V.sz _ (χ E);have Xx:=(Jw5 (n:=n) E);have c6:=(hI4.t.cell (b:=X) Ω Ω 0).trans Xa.1;clear Y ht4 Z;gi_wp2_with(refine⟨trivial,?_⟩;gi_at_call 253;refine(CallsIn.inRound lp (γ.2 (XBA hI4.vec _ _ Ω))).mono ?_;rintro e w5 ⟨rfl,Xg,Xl⟩);rw[<-Xx]at Xl;exact⟨Xg.mono (λi _ h=>by have h:i=vb:=h;omega),j+1,rfl,hI4.t.trans (Xg.mono (λi _ h=>.inl h)),by omega,Xl⟩
 case done=>
  rintro D j W3 hD rfl Y hK;have c6:=(Y.t.cell (b:=X) Ω Ω 0).trans Xa.1;have M:=Y.vec;rw[ζ0]at M;have HT3:=Y.t;have HK:=hK;have HD:=hD;have Xf:Gr w W3:=((Xm.touch (λ_=>False)).trans' Y.t (λi hi h=>by omega)).gr;have Xj:=Xf;have hz6:=Y.t.size;clear Y hK hD Xf;cases hb:BQ k with
  | false=>
   gi_wp2_with(refine⟨trivial,?_⟩;gi_at_call 254;refine(γ.2 (XFA M k hb hk)).mono ?_;rintro e w4 ⟨rfl,rfl⟩);refine⟨by simp,.inl ⟨_,_,rfl,run_takeDeferred HK,?_⟩⟩;refine⟨.tuple #[.pointer none,iI 5],?_,((Xj.touch (λ_=>False)).trans' (DW _ D _ (μ D)) (λi hi h=>by have:=HD;omega)).gr,.inl ⟨hb,rfl⟩⟩;simp[results,f199,go_sem]
  | true=>
   have hbp:=DR hb;obtain⟨B,rfl⟩:∃B:Nat,k=B:=⟨k.toNat,by omega⟩;gi_wp2_with(refine⟨trivial,?_⟩;gi_at_call 254;refine(γ.2 (Zv3 M B hb)).mono ?_;rintro e w4 ⟨x,p,b,a,rfl,U,Xk,Xi,Xc,Xb,Xh⟩;have c64:=(U.cell (A6 c6) 0).trans c6;have Xw:=Xk;have HZ4:=(ξ Xi (ξ Xc (ξ Xb Xh)));clear Xk Xi Xc Xb Xh)
   have Xu:(w4.alloc (.cells #[.pointer (some ⟨v,0,none⟩),.pointer (some ⟨x,0,none⟩)] 338)).heap[D]?=some (.deferred (some [])):=
    (((U.alloc _).block (ζq.1 HK).1)).trans HK
   have tt:=((Xj.trans (U.alloc (.cells #[.pointer (some ⟨v,0,none⟩),.pointer (some ⟨x,0,none⟩)] 338))).touch (λ_=>False)).trans' (DW _ D (.deferred none) (μ D)) (λi hi h=>by have:=HD;omega);refine⟨by simp,.inl ⟨_,_,rfl,run_takeDeferred Xu,?_⟩⟩;refine⟨.tuple #[pP w4.heap.size,iI 0],?_,tt.gr,.inr ⟨hb,w4.heap.size,B,rfl,rfl,?_⟩⟩
   ·simp[results,f199,go_sem]
   ·have t5:=EJ (w4.alloc (.cells #[.pointer (some ⟨v,0,none⟩),.pointer (some ⟨x,0,none⟩)] 338)) D (.deferred none);have hs4:=U.size;have hdl:=(ζq.1 HK).1;have hl:w4.heap.size<(w4.alloc (.cells #[.pointer (some ⟨v,0,none⟩),.pointer (some ⟨x,0,none⟩)] 338)).heap.size:=by rw[π];omega
    exact⟨V,ϑ hl t5.size,by omega,v,vb,x,p,b,a,(t5.cell (b:=w4.heap.size) hl Ω 0).trans (ζM ..),(t5.cell (b:=w4.heap.size) hl Ω 1).trans (ζM ..),
     ((M.gr U).gr ((Gr.refl _).alloc _)).touch t5 Ω Ω,(Xw.gr ((Gr.refl _).alloc _)).touch t5 Ω Ω Ω Ω,by omega,by omega,by omega,by omega,by omega,by omega⟩
end
def CC:List Ob->Nat->Nat
 | [],_=>0
 | o :: r,q=>if q<o.2 then 0 else CC r (q-o.2)+1
theorem VBJ:∀{q:Nat},q<AC L->∃hj:CC L q<L.length,∃i,i<(L[CC L q]'hj).2/\q=AC (L.take (CC L q))+i/\EO L q=some ((L[CC L q]'hj).1+i):=by
 induction L with
 | nil=>intro q h;simp[AC]at h
 | cons o r ih=>
  intro q h;by_cases hq:q<o.2
  ·have e:CC (o :: r) q=0:=θ hq;refine⟨by rw[e];simp,q,?_⟩;simp only[e];exact⟨hq,by simp[AC],by unfold EO;simp_all⟩
  ·have e:CC (o :: r) q=CC r (q-o.2)+1:=ψ hq;unfold AC at h;obtain⟨hj,i,h1,h2,h3⟩:=ih (q:=q-o.2) Ω;refine⟨by grind,i,?_⟩;simp only[e];exact⟨h1,by simp only[ξE,AC];omega,by unfold EO;grind⟩
theorem VNq(hj:j<L.length)(hi:i<L[j].2):CC L (AC (L.take j)+i)=j:=by
 induction L generalizing j with
 | nil=>simp at hj
 | cons o r ih=>
  cases j with
  | zero=>
   have hi:i<o.2:=hi;simp only[ψU,AC,ζ6,CC]
   simp_all
  | succ j=>
   have:=ih (j:=j) (by grind) (by simp_all);simp only[ξE,AC,CC]
   grind
theorem Zut(L:List Ob)(j:Nat):AC (L.take j)<=AC L:=by
 induction L generalizing j with
 | nil=>simp[AC]
 | cons o r ih=>
  cases j with
  | zero=>simp[AC]
  | succ j=>have:=ih j;simp only[ξE,AC];omega
theorem KZ(hj:j<L.length):AC (L.take j)+L[j].2<=AC L:=by
 rw[<-F4 hj];grind [Zut]
def toV(L:List Ob)(base a:Int):Int:=if BD L a<L.length then base+BC L 0 a else 0
def toE(L:List Ob)(a:Int):Int:=if BD L a<L.length then 0 else 6
theorem UF(h:AS n L)(hj:j<L.length)(h1:(L[j].1:Int)<=a)(h2:a<L[j].1+L[j].2):
  toV L base a=base+AC (L.take j)+a-(L[j].1:Nat)/\toE L a=0:=by
 have e:=QH h hj h1 h2;have hs:=Yhz h hj (i:=(a-L[j].1).toNat) Ω;rw[show (L[j].1:Int)+((a-L[j].1).toNat:Nat)=a by omega]at hs;unfold toV toE;omega
theorem QM(h:¬BD L a<L.length):toV L base a=0/\toE L a=6:=by
 unfold toV toE;omega
theorem JFq(a:Int):(decide (0<=a)&&EA L a.toNat)=decide (BD L a<L.length):=by
 grind [φ,Q5g,ζ,QX]
def inF(L:List Ob)(base b:Int):Bool:=decide (base<=b)&&decide (b<base+(AC L:Nat))
def CZ(L:List Ob)(base b:Int):Int:=if inF L base b then JQ L (b-base)else 0
def O2(L:List Ob)(base b:Int):Int:=if inF L base b then (CC L (b-base).toNat:Nat)else 0
def GN(L:List Ob)(base b:Int):Int:=if inF L base b then 0 else 11
theorem F6{b:Int}:inF L base b=true↔base<=b/\b<base+(AC L:Nat):=by simp[inF]
theorem W9{b:Int}(h:¬(base<=b/\b<base+(AC L:Nat))):inF L base b=false:=by
 cases e:inF L base b with
 | false=>rfl
 | true=>exact absurd (F6.1 e) h
theorem Z2d(hj:j<L.length)(hi:i<L[j].2):JQ L ((AC (L.take j)+i:Nat):Int)=(L[j].1+i:Nat):=by
 unfold JQ;rw[ψ Ω,β,XEK hj hi];rfl
theorem QCo{b:Int}(hj:j<L.length)(h1:base+(AC (L.take j):Nat)<=b)(h2:b<base+(AC (L.take j):Nat)+(L[j].2:Nat)):
  CZ L base b=(L[j].1:Nat)+b-(base+(AC (L.take j):Nat))/\O2 L base b=j/\GN L base b=0:=by
 have hm:=KZ hj;have Y:inF L base b=true:=F6.2 ⟨by omega,by omega⟩;obtain⟨i,hi⟩:∃i:Nat,b-base=((AC (L.take j)+i:Nat):Int):=⟨(b-base).toNat-AC (L.take j),by omega⟩;have X:i<L[j].2:=Ω
 unfold CZ O2 GN;rw[Y,θ rfl,θ rfl,θ rfl,hi,Z2d hj X,β,VNq hj X];omega
theorem N4{b:Int}(h:inF L base b=false):CZ L base b=0/\O2 L base b=0/\GN L base b=11:=by
 unfold CZ O2 GN;simp_all
theorem Zeb(h:AS n L){b:Int}(hb:inF L base b=true):∃j,∃hj:j<L.length,O2 L base b=j/\(L[j].1:Int)<=CZ L base b/\CZ L base b<L[j].1+L[j].2/\BD L (CZ L base b)=j/\GN L base b=0:=by
 obtain⟨h1,h2⟩:=F6.1 hb;obtain⟨hj,i,hi,e,-⟩:=VBJ (L:=L) (q:=(b-base).toNat) Ω;obtain⟨a1,a2,a3⟩:=QCo (base:=base) (b:=b) hj Ω Ω;refine⟨_,hj,a2,by omega,by omega,QH h hj Ω Ω,a3⟩
theorem Ye3{o:Ob}(h:∀y∈M,¬o.1<y.1):DS M o=M++[o]:=by
 induction M with
 | nil=>rfl
 | cons y r ih=>
  unfold DS
  grind
theorem Zne(h:AS n L)(hj:j<L.length):DC (L.take j) n (L[j].1:Nat) (L[j].2:Nat)=L.take (j+1):=by
 have hs:=h.sz _ (χ hj)
 have hle:∀o∈L.take j,o.1+o.2<=L[j].1:=λo ho=>by
  obtain⟨i,hi,X,rfl⟩:=P0 ho;exact h.at hi hj X
 have hc:IS (L.take j) (L[j].1:Nat) (L[j].2:Nat)=false:=by
  cases e:IS (L.take j) (L[j].1:Nat) (L[j].2:Nat)with
  | false=>rfl
  | true=>obtain⟨o,ho,h1,h2⟩:=T7.1 e;grind
 have he:DL (L.take j) n (L[j].1:Nat) (L[j].2:Nat)=0:=by
  unfold DL;grind
 unfold DC;rw[θ he,β,β,Ye3 (λy hy=>by grind),ζK hj]
end Go.Proofs.YtcihfnpokdbfpaaGreatDoor
