/- Part 8 of what QueueNobody leans on: my own lemmas, merged by shake.py. -/
import Derived.Test.YtggjoonlcjjgkaaGreatDoorQueueNobodyG
namespace Go.Proofs.YtggjoonlcjjgkaaGreatDoor
open _root_.Go.Proofs.Tryz
set_option maxRecDepth 100000
open Go.RowKit Word
variable{c:BT}{f w x:Nat}
def GE(a b t d s:Nat)(g:Gph):Gph:=((((g.clG a).clG b).clG t).clG d).clG s
def S8(r a d s:Nat)(g:Gph):Gph:=E9 s r a (C7 s a d g)
def SZ(a C f w:Nat)(g:Gph):Gph:=((g.alG C a ⟨2,1,1⟩).wrG a 2 2 f).wrG a 3 3 w
structure FZ(g:Gph)(r a b t d s:Nat)(R:BT):Prop where
 q:Q6 g r a b t d s
 hs:Has g r R
 sr:R.Sg
 nd:R.ids.Nodup
 hp:R.Hp
 z:∀j,j≠r->g.sv j=0
structure DrG(g:Gph)(r a b t d s:Nat)(R D:BT):Prop where
 q:Q6 g r a b t d s
 hs:Has g r R
 d:Has g d D
 sr:R.Sg
 nd:(R.ids++D.ids).Nodup
 hr:R.Hp
 hd:D.Hp
section
variable{g g':Gph}{r a b t d s j:Nat}{R D T:BT}
theorem XG{α:Type}[BEq α][LawfulBEq α]{R X D M:List α}(h:M.Perm (R++X)):(M++D).Perm (R++(X++D)):=
 List.perm_iff_count.2 λz=>by
  have:=h.count_eq z;simp only[List.count_append]at this⊢;omega
theorem DrG.step(h:DrG g r a b t d s R D)(hD:g.sv d≠0):∃R' D',D'.ids.length<D.ids.length/\DrG (S8 r a d s g) r a b t d s R' D'/\(R'.its++D'.its).Perm (R.its++D.its):=by
 have hn:=h.q.nd;simp at hn;obtain⟨⟨ra,rb,rt,rd,rs⟩,⟨ab,at_,ad,Y⟩,⟨bt,bd,bs⟩,⟨td,ts⟩,ds⟩:=hn;have la:=h.q.lt a (by simp);have ls:=h.q.lt s (by simp);have n1:=ζY.1 h.nd;obtain⟨X,K,sx,xa,kd,z1,f1,i1,j1,U,J,tx⟩:=SI h.d la ls ad Y ds n1.2.1 h.hd h.q.s0;have dj:∀z∈R.ids,¬z∈D.ids:=λz hz hz'=>n1.2.2 z hz z hz' rfl;have Z:=f1.has h.hs (by simp;exact⟨ra,rd,rs⟩) dj;unfold S8;generalize C7 s a d g=g1 at xa kd z1 f1 Z;rw[i1]at n1;have n2:=ζY.1 n1.2.1;obtain⟨m1,m2,z2,f2⟩:=S7 Z xa (by rw[f1.s];exact ls) ra rs Y h.sr sx n1.1 n2.1 (λz hz hz'=>n1.2.2 z hz z (ζw _ hz') rfl) z1;have V:=f2.has kd (by simp;exact⟨λe=>rd e.symm,λe=>ad e.symm,ds⟩) (λz hz hz'=>(ζf.1 hz').elim (λh=>n1.2.2 z h z (ζ0 _ hz) rfl) (λh=>n2.2.2 z h z hz rfl));obtain⟨p1,p2⟩:=BT.meld_ids h.sr sx;have q1:((R.meld X).ids++K.ids).Perm (R.ids++D.ids):=by rw[i1];exact XG p1
 have q2:((R.meld X).its++K.its).Perm (R.its++D.its):=by rw[j1];exact XG p2
 refine⟨R.meld X,K,?_,⟨(h.q.next f1 (λj hj=>by simp at hj⊢;omega) z1).next f2 (λj hj=>by simp at hj⊢;omega) z2,m1,V,BT.meld_sg h.sr sx,q1.nodup_iff.2 h.nd,BT.meld_hp h.sr sx h.hr U,J⟩,q2⟩;have e1:=congrArg List.length i1
 have e2:X.ids.length≠0:=by
  rcases sx with rfl|⟨x,f,w,c,rfl⟩
  ·exact absurd (h.d.sv.trans tx.symm) hD
  ·simp[BT.ids]
 simp at e1;omega
theorem ZDM(h:j<g.S.length):GFr g (g.clG j) [] [j]/\(g.clG j).sv j=0:=by
 obtain⟨l1,s1,v1⟩:=FV h;exact⟨⟨by rw[l1],s1,λz _=>CQ l1 z,λk hk=>by rw[v1,ψ (by simpa using hk)]⟩,by rw[v1,θ rfl]⟩
theorem XBu(h:Q6 g r a b t d s):GFr g (GE a b t d s g) [] [a,b,t,d,s]/\∀j∈[a,b,t,d,s],(GE a b t d s g).sv j=0:=by
 have la:=h.lt a (by simp);have lb:=h.lt b (by simp);have lt:=h.lt t (by simp);have ld:=h.lt d (by simp);have ls:=h.lt s (by simp);unfold GE;obtain⟨l1,s1,v1⟩:=FV la;generalize g.clG a=g1 at l1 s1 v1;obtain⟨l2,s2,v2⟩:=FV (g:=g1) (d:=b) (by rw[s1];exact lb);generalize g1.clG b=g2 at l2 s2 v2;obtain⟨l3,s3,v3⟩:=FV (g:=g2) (d:=t) (by rw[s2,s1];exact lt);generalize g2.clG t=g3 at l3 s3 v3;obtain⟨l4,s4,v4⟩:=FV (g:=g3) (d:=d) (by rw[s3,s2,s1];exact ld);generalize g3.clG d=g4 at l4 s4 v4;obtain⟨l5,s5,v5⟩:=FV (g:=g4) (d:=s) (by rw[s4,s3,s2,s1];exact ls);generalize g4.clG s=g5 at l5 s5 v5;have e:∀j,g5.sv j=if j∈[a,b,t,d,s]then 0 else g.sv j:=λj=>by rw[v5,v4,v3,v2,v1];simp;grind
 exact⟨⟨by rw[l5,l4,l3,l2,l1],by rw[s5,s4,s3,s2,s1],λz _=>CQ (by rw[l5,l4,l3,l2,l1]) z,λj hj=>by rw[e,ψ hj]⟩,λj hj=>by rw[e,θ hj]⟩
theorem DrG.rest(h:DrG g r a b t d s R D)(hD:g.sv d=0):FZ (GE a b t d s g) r a b t d s R/\D=.nil:=by
 obtain⟨f,z⟩:=XBu h.q;have hn:=h.q.nd;simp at hn;have e:D=.nil:=h.d.rep.top0.1 (h.d.sv.symm.trans hD);subst e;have nd:=h.nd;rw[show BT.nil.ids=[]from rfl,ξC]at nd;refine⟨⟨h.q.next f (λj hj=>ζl _ hj) (z s (by simp)),f.has h.hs (by simp;exact hn.1) (λ_ _ h=>by cases h),h.sr,nd,h.hr,λj hj=>?_⟩,rfl⟩;by_cases hm:j∈[a,b,t,d,s]
 ·exact z j hm
 ·rw[f.sv j hm];exact h.q.al j (λe=>(ζC.1 e).elim hj hm)
theorem FZ.popped(h:FZ g r a b t d s (.node x f w c .nil)):g.shE r=0/\g.fdV r 2 2=f/\g.fdV r 3 3=w/\PrG (g.loG t r 0) r a b t d s c .nil:=by
 have hn:=h.q.nd;simp at hn;obtain⟨⟨ra,rb,rt,rd,rs⟩,⟨ab,at_,ad,asx⟩,⟨bt,bd,bs⟩,⟨td,ts⟩,ds⟩:=hn;obtain⟨b0,rc,-⟩:=h.hs.rep;have e:g.sv r=x:=h.hs.sv;have lt:=h.q.lt t (by simp);obtain⟨⟨l1,s1,v1⟩,-⟩:=V4 (d:=t) lt h.hs.lt e b0;have q:=WK h.hs.lt e b0;have fr:GFr g (g.loG t r 0) [] [t]:=⟨by rw[l1],s1,λz _=>CQ l1 z,λj hj=>by rw[v1,ψ (by simpa using hj)]⟩;have nd:=h.nd;simp[BT.ids]at nd;refine⟨by rw[KB h.hs.lt,e,ψ b0.nz],q.2.1,q.2.2.2,h.q.next fr (by simp) (by rw[v1,ψ (λe=>ts e.symm)];exact h.q.s0),⟨by rw[s1];exact lt,by rw[v1,θ rfl],rc.of (by rw[l1];exact ϑ _) (λz _=>CQ l1 z)⟩,⟨by rw[s1];exact h.q.lt d (by simp),by rw[v1,ψ (λe=>td e.symm)];exact h.z d (λe=>rd e.symm),trivial⟩,by simpa[BT.ids]using nd.2,h.hp.2.1,trivial⟩
theorem PrG.drained(h:PrG g r a b t d s T D)(hT:g.sv t=0):T=.nil/\DrG (g.clG r) r a b t d s .nil D:=by
 have hn:=h.q.nd;simp at hn;obtain⟨⟨ra,rb,rt,rd,rs⟩,-⟩:=hn;have e:T=.nil:=h.t.rep.top0.1 (h.t.sv.symm.trans hT);subst e;obtain⟨f,z⟩:=ZDM (h.q.lt r (by simp));exact⟨rfl,h.q.next f (by simp) (by rw[f.sv s (by simp;exact λe=>rs e.symm)];exact h.q.s0),⟨by rw[f.s];exact h.q.lt r (by simp),z,trivial⟩,f.has h.d (by simp;exact λe=>rd e.symm) (λ_ _ h=>by cases h),.inl rfl,by simpa[BT.ids]using h.nd,trivial,h.hd⟩
theorem Rep.sizes:∀{T:BT},Rep g T->(T.ids.map λx=>(g.ob x).size).sum=5*T.ids.length
 | .nil,_=>rfl
 | .node x f w a b,⟨h1,h2,h3⟩=>by
  simp only[BT.ids,ξP,ζ2,List.sum_cons,List.sum_append,h2.sizes,h3.sizes,h1.ob,ζz,ζs]
  show 1+2+1+1+_=_
  omega
theorem Rep.rd:∀{T:BT},Rep g T->(T.top≠0->g.Rd T.top)->∀x∈T.ids,g.Rd x
 | .nil,_,_,_,hx=>by cases hx
 | .node y f w a b,⟨h1,h2,h3⟩,hy,x,hx=>by
  have hr:g.Rd y:=hy h1.nz;have hp:g.pts y=[a.top,b.top]:=by unfold Gph.pts;rw[h1.ob];rfl
  rcases ζC.1 hx with rfl|hx
  ·exact hr
  ·rcases ζf.1 hx with hx|hx
   ·exact h2.rd (λh0=>hr.step (by rw[hp];simp) h0) x hx
   ·exact h3.rd (λh0=>hr.step (by rw[hp];simp) h0) x hx
theorem BT.top_mem:∀{T:BT},T.top≠0->T.top∈T.ids
 | .nil,h=>absurd rfl h
 | .node _ _ _ _ _,_=>ζh ..
theorem Rep.shut:∀{T:BT},Rep g T->∀x∈T.ids,∀z∈g.pts x,z≠0->z∈T.ids
 | .nil,_,_,hx=>by cases hx
 | .node y f w a b,⟨h1,h2,h3⟩,x,hx=>by
  intro z hz h0;have hp:g.pts y=[a.top,b.top]:=by unfold Gph.pts;rw[h1.ob];rfl
  rcases ζC.1 hx with rfl|hx
  ·rw[hp]at hz;simp only[ζC,ξ0,or_false]at hz;rcases hz with rfl|rfl
   ·exact ζl _ (ζw _ (BT.top_mem h0))
   ·exact ζl _ (ζ0 _ (BT.top_mem h0))
  ·rcases ζf.1 hx with hx|hx
   ·exact ζl _ (ζw _ (h2.shut x hx z hz h0))
   ·exact ζl _ (ζ0 _ (h3.shut x hx z hz h0))
theorem Has.live(h:Has g r R)(hk:g.Ok)(nd:R.ids.Nodup)(z:∀j,j≠r->g.sv j=0):g.all.length=R.ids.length/\g.words=5*R.ids.length:=by
 have h1:∀x∈g.S,x≠0->x∈R.ids:=λx hx h0=>by
  obtain⟨j,hj,e⟩:=ψr.1 hx;have e2:g.sv j=x:=by unfold Gph.sv;rw[β,η hj];exact e
  by_cases ej:j=r
  ·subst ej;rw[h.sv]at e2;rw[<-e2]at h0⊢;exact BT.top_mem h0
  ·exact absurd (e2.symm.trans (z j ej)) h0
 have hr:R.top≠0->g.Rd R.top:=λh0=>by
  rw[<-h.sv]at h0⊢;exact Gph.Rd.root (by unfold Gph.sv;rw[β,η h.lt];exact κ _) h0
 obtain⟨p,q⟩:=Gph.all_of hk nd h1 h.rep.shut (h.rep.rd hr);rw[p,q,h.rep.sizes];exact⟨rfl,rfl⟩
theorem FZ.push(h:FZ g r a b t d s R){C:Nat}(he:g.alE C a ⟨2,1,1⟩=0):∃R',FZ (GE a b t d s (E9 s r a (SZ a C f w g))) r a b t d s R'/\R'.its.Perm ((f,w) :: R.its):=by
 have hn:=h.q.nd;simp at hn;obtain⟨⟨ra,rb,rt,rd,rs⟩,⟨ab,at_,ad,Y⟩,⟨bt,bd,bs⟩,⟨td,ts⟩,ds⟩:=hn;have la:=h.q.lt a (by simp);have ls:=h.q.lt s (by simp);unfold SZ;rw[show g.alG C a ⟨2,1,1⟩=g.add a 2 1 1 by unfold Gph.alG;rw[θ he];rfl];obtain⟨n,hn⟩:∃n,n=g.L.length+1:=⟨_,rfl⟩;have l1:(g.add a 2 1 1).L.length=n:=by show (g.L++[_]).length=n;rw[ζs,hn];rfl
 have s1:(g.add a 2 1 1).S.length=g.S.length:=ω ..;have v1:∀j,(g.add a 2 1 1).sv j=if j=a then n else g.sv j:=λj=>by rw[hn];exact NU la
 have o1:∀z,z<=g.L.length->(g.add a 2 1 1).ob z=g.ob z:=λz hz=>Gph.add_ob z hz;have b1:Bd (g.add a 2 1 1) n 0 0 0 0:=⟨by omega,ξn l1.symm,by rw[hn];exact Gph.add_new⟩;generalize g.add a 2 1 1=g1 at l1 s1 v1 o1 b1;obtain⟨⟨o2,l2,s2⟩,-⟩:=Y7 (by rw[s1];exact la) (by rw[v1,θ rfl]) b1 f;generalize g1.wrG a 2 2 f=g2 at o2 l2 s2;have v2:∀j,g2.sv j=g1.sv j:=λj=>by unfold Gph.sv;rw[s2]
 have b2:Bd g2 n 0 0 f 0:=⟨b1.h1,by rw[l2];exact b1.h2,by rw[o2,θ rfl]⟩;obtain⟨-,o3,l3,s3⟩:=Y7 (g:=g2) (s:=a) (by rw[s2,s1];exact la) (by rw[v2,v1,θ rfl]) b2 w;generalize g2.wrG a 3 3 w=g3 at o3 l3 s3;have v3:∀j,g3.sv j=if j=a then n else g.sv j:=λj=>by rw[<-v1,<-v2];unfold Gph.sv;rw[s3]
 have X:g3.S.length=g.S.length:=by rw[s3,s2,s1]
 have hl:g.L.length<=g3.L.length:=by rw[l3,l2,l1];omega
 have hm:∀z∈R.ids,z≠n:=λz hz e=>by have:=(h.hs.rep.mem z hz).2;omega
 have ho:∀z∈R.ids,g3.ob z=g.ob z:=λz hz=>by rw[o3,ψ (hm z hz),o2,ψ (hm z hz),o1 z (h.hs.rep.mem z hz).2]
 have U:Has g3 r R:=h.hs.of hl X (by rw[v3,ψ ra]) ho;have J:Has g3 a (.node n f w .nil .nil):=⟨by rw[X];exact la,by rw[v3,θ rfl];rfl,⟨b2.h1,by rw[l3];exact b2.h2,by rw[o3,θ rfl];rfl⟩,trivial,trivial⟩;have q3:Q6 g3 r a b t d s:=⟨h.q.nd,λj hj=>by rw[X];exact h.q.lt j hj,λj hj=>by rw[v3,ψ (λe=>hj (by simp[e]))];exact h.q.al j hj,by rw[v3,ψ (λe=>Y e.symm)];exact h.q.s0⟩;have sn:(BT.node n f w .nil .nil).Sg:=.inr ⟨_,_,_,_,rfl⟩;obtain⟨m1,m2,z4,f4⟩:=S7 U J (by rw[X];exact ls) ra rs Y h.sr sn h.nd (by simp[BT.ids]) (λz hz hz'=>hm z hz (by simpa[BT.ids]using hz')) (by rw[v3,ψ (λe=>Y e.symm)];exact h.q.s0);obtain⟨p1,p2⟩:=BT.meld_ids h.sr sn;have dj:(R.ids++(BT.node n f w .nil .nil).ids).Nodup:=ζY.2 ⟨h.nd,by simp[BT.ids],λx hx y hy e=>hm x hx (by rw[e];simpa[BT.ids]using hy)⟩;have Z:(E9 s r a g3).sv d=0:=by rw[f4.sv d (by simp;exact⟨λe=>rd e.symm,λe=>ad e.symm,ds⟩),v3,ψ (λe=>ad e.symm)];exact h.z d (λe=>rd e.symm)
 have dr:DrG (E9 s r a g3) r a b t d s (R.meld (.node n f w .nil .nil)) .nil:=⟨q3.next f4 (λj hj=>by simp at hj⊢;omega) z4,m1,⟨by rw[f4.s,X];exact h.q.lt d (by simp),Z,trivial⟩,BT.meld_sg h.sr sn,by rw[show BT.nil.ids=[]from rfl,ξC];exact p1.nodup_iff.2 dj,BT.meld_hp h.sr sn h.hp ⟨λp hp=>(by cases hp),trivial,trivial⟩,trivial⟩;refine⟨_,(dr.rest Z).1,p2.trans ?_⟩;rw[show (BT.node n f w .nil .nil).its=[(f,w)]from rfl];exact ψo
theorem BT.least(h:(BT.node x f w c .nil).Hp):∀p∈(BT.node x f w c .nil).its,leQ (f,w) p=true:=λp hp=>by
 simp only[BT.its,ξC,ζC]at hp;rcases hp with rfl|hp
 ·exact YLt _
 ·exact h.1 p hp
theorem Yf8{n:Nat}(hd:[r,a,b,t,d,s].Nodup)(hl:∀j∈[r,a,b,t,d,s],j<n):FZ ⟨[],List.replicate n 0⟩ r a b t d s .nil:=by
 have hz:∀j,(⟨[],List.replicate n 0⟩:Gph).sv j=0:=λj=>by
  show (List.replicate n 0).getD j 0=0
  rw[β,ξc]
  split <;> rfl
 have hs:(⟨[],List.replicate n 0⟩:Gph).S.length=n:=ζE ..;exact⟨⟨hd,λj hj=>by rw[hs];exact hl j hj,λj _=>hz j,hz s⟩,⟨by rw[hs];exact hl r (by simp),hz r,trivial⟩,.inl rfl,ξJ,trivial,λj _=>hz j⟩
end
end Go.Proofs.YtggjoonlcjjgkaaGreatDoor
