/- Part 5 of what SlideReads leans on: my own lemmas, merged by shake.py. -/
import Derived.Test.YthgdadohijgleaaGreatDoorSlideReadsD
import Derived.Maps.OwnSet
section
namespace Go.Proofs.YthgdadohijgleaaGreatDoor
open Go.RowKit Word
theorem tk_hdrW {p f c:Nat} (hs:p+f+c<=255):tkE (hdrW p f c)=0/\tkH (hdrW p f c)=⟨p,f,c⟩:=by
 have e:hdrW p f c=(4294967295-(p+256*f+65536*c+2768240640))*4294967296+(p+256*f+65536*c+2768240640):=rfl
 have a1:hdrW p f c%4294967296=p+256*f+65536*c+2768240640:=by rw [e];omega
 have a2:hdrW p f c/4294967296=4294967295-(p+256*f+65536*c+2768240640):=by rw [e];omega
 have a3:hdrW p f c%256=p:=by rw [e];omega
 have a4:hdrW p f c/256%256=f:=by rw [e];omega
 have a5:hdrW p f c/65536%256=c:=by rw [e];omega
 have hok:tkOk (hdrW p f c)=true:=by
  unfold tkOk
  rw [a1,a2,a3,a4,a5]
  simp only [Bool.and_eq_true,decide_eq_true_eq]
  exact ⟨⟨by omega,by first | trivial | rfl⟩,hs⟩
 unfold tkE tkH
 rw [if_pos hok,if_pos hok,a3,a4,a5]
 exact ⟨rfl,rfl⟩
theorem mkV_ldV {v:Vm} (h:VmOk v) (a:Int) {x:Nat} (hx:x<18446744073709551616) (m:Nat) (hm:∀ j:Nat,j<=m->v.ldE (a+j)=0) (b:Int):(mkV v a x m).ldV b=if b=a then x else if a<b/\b<=a+m then 0 else v.ldV b:=by
 induction m with
 | zero=>
  have h0:=hm 0 (Nat.le_refl _)
  rw [show a+((0:Nat):Int)=a by omega] at h0
  show (v.st a x).ldV b=_
  rw [h.st_ldV x h0]
  by_cases e:a=b
  ·rw [if_pos e,if_pos e.symm]
  ·rw [if_neg e,if_neg (fun h=>e h.symm),if_neg (by omega)]
 | succ m ih=>
  have ih:=ih (fun j hj=>hm j (by omega))
  have hok:=((Stays.refl h).mkV a hx m).ok
  have hl:(mkV v a x m).ldE (a+1+m)=0:=by
   rw [mkV_ldE,show a+1+(m:Int)=a+((m+1:Nat):Int) by omega]
   exact hm (m+1) (Nat.le_refl _)
  show ((mkV v a x m).st (a+1+m) 0).ldV b=_
  rw [hok.st_ldV 0 hl,ih]
  by_cases e:a+1+(m:Int)=b
  ·rw [if_pos e,if_neg (by omega),if_pos (by omega)]
  ·rw [if_neg e]
   by_cases e2:b=a
   ·rw [if_pos e2,if_pos e2]
   ·rw [if_neg e2,if_neg e2]
    by_cases e3:a<b/\b<=a+m
    ·rw [if_pos e3,if_pos (by omega)]
    ·rw [if_neg e3,if_neg (by omega)]
theorem mkE_all {v:Vm} {a:Int} {n:Nat} (h:∀ j:Nat,j<=n->v.ldE (a+j)=0):mkE v a n=0:=by
 induction n with
 | zero=>
  have:=h 0 (Nat.le_refl _)
  rwa [show a+((0:Nat):Int)=a by omega] at this
 | succ n ih=>
  show (if mkE v a n≠0 then mkE v a n else v.ldE (a+1+n))=0
  rw [if_neg (fun hn=>hn (ih (fun j hj=>h j (by omega)))),show a+1+(n:Int)=a+((n+1:Nat):Int) by omega]
  exact h (n+1) (Nat.le_refl _)
theorem mkVm_all {v:Vm} (h:VmOk v) {t p f c:Nat} (ht:0<t) (hs:p+f+c<=255) (hl:∀ j:Nat,j<=p+f+c->v.ldE ((t:Int)+j)=0):
  mkRes v t ⟨p,f,c⟩=0/\∀ b:Int,(mkVm v t ⟨p,f,c⟩).ldV b=if b=t then hdrW p f c else if (t:Int)<b/\b<=t+((p+f+c:Nat):Int) then 0 else v.ldV b:=by
 have e:((p:Int)+f+c).toNat=p+f+c:=by omega
 have h0:mkRes v t ⟨p,f,c⟩=0:=by
  unfold mkRes
  rw [if_neg (by omega),if_neg (by rw [hdrE_of hs];decide)]
  show mkE v t ((p:Int)+f+c).toNat=0
  rw [e]
  exact mkE_all hl
 refine ⟨h0,fun b=>?_⟩
 unfold mkVm
 rw [if_pos h0]
 show (mkV v t (hdrW p f c) ((p:Int)+f+c).toNat).ldV b=_
 rw [e]
 exact mkV_ldV h t (hdrW_lt hs) _ hl b
theorem fldC_ldV {v:Vm} (a p:Nat) {s:Vm × Nat × List Int} (h:Stays v s.1) (m:Nat) (hl:∀ j:Nat,j<m->v.ldE ((a+1+j:Nat):Int)=0) (b:Int) (hb:¬ ((a:Int)+1+p<=b/\b<a+1+m)):(fldC a p s m).1.ldV b=s.1.ldV b:=by
 induction m with
 | zero=>rfl
 | succ m ih=>
  have ih:=ih (fun j hj=>hl j (by omega)) (by omega)
  unfold fldC
  split
  ·exact ih
  ·rename_i hp
   have hs:=(h.fldC a p m).1
   have h1:(fldC a p s m).1.ldE ((a+1+m:Nat):Int)=0:=by rw [hs.sm.ldE];exact hl m (Nat.lt_succ_self m)
   show ((fldC a p s m).1.st _ _).ldV b=_
   rw [hs.ok.st_ldV _ h1,if_neg (by omega)]
   exact ih
theorem fldC_F (a p:Nat) (s:Vm × Nat × List Int) (m:Nat):∀ x∈(fldC a p s m).2.2,x∈s.2.2\/∃ j:Nat,j<m/\j<p/\x=((a+1+j:Nat):Int):=by
 induction m with
 | zero=>exact fun x hx=>.inl hx
 | succ m ih=>
  intro x hx
  unfold fldC at hx
  split at hx
  ·rename_i hp
   rcases List.mem_append.1 hx with hx | hx
   ·rcases ih x hx with h | ⟨j,h1,h2,h3⟩
    ·exact .inl h
    ·exact .inr ⟨j,by omega,h2,h3⟩
   ·exact .inr ⟨m,by omega,hp,List.mem_singleton.1 hx⟩
  ·rcases ih x hx with h | ⟨j,h1,h2,h3⟩
   ·exact .inl h
   ·exact .inr ⟨j,by omega,h2,h3⟩
def LaidC.at (x:LaidC) (j:Nat):Nat:=x.page+szC x.H j
def IsPut (x:LaidC) (y:Nat):Prop:=y=0\/∃ j,j<x.k/\y=x.at j
theorem put_is (x:LaidC) (i:Nat):IsPut x (x.put i):=by
 unfold LaidC.put
 split
 ·exact .inl rfl
 ·rename_i h
  exact .inr ⟨i%x.k,Nat.mod_lt _ (by omega),rfl⟩
structure LaidIn (x:LaidC) (v0 v:Vm) (k:Nat):Prop where
 st:Stays v0 v
 hd:∀ j,j<k->∀ p f c:Nat,hdC x.H j=⟨p,f,c⟩->v.ldV ((x.at j:Nat):Int)=hdrW p f c
 pt:∀ j,j<k->∀ p f c:Nat,hdC x.H j=⟨p,f,c⟩->∀ m:Nat,m<p->IsPut x (v.ldV ((x.at j+1+m:Nat):Int))
def InF (x:LaidC) (k:Nat) (F:List Int):Prop:=∀ a∈F,∃ j,j<k/\∃ p f c m:Nat,hdC x.H j=⟨p,f,c⟩/\m<p/\a=((x.at j+1+m:Nat):Int)
section
variable {x:LaidC} {v0:Vm}
theorem at_next {j p f c:Nat} (hj:j<x.k) (hh:hdC x.H j=⟨p,f,c⟩):x.at (j+1)=x.at j+(1+p+f+c)/\x.at (j+1)<=x.top/\p+f+c<=255/\x.page<=x.at j:=by
 obtain ⟨p',f',c',e,hs,-,h1,h2⟩:=kC_hd (H:=x.H) (j:=j) hj
 rw [hh] at e
 simp only [Hdr.mk.injEq] at e
 have:p=p'/\f=f'/\c=c':=by omega
 obtain ⟨rfl,rfl,rfl⟩:=this
 unfold LaidC.at LaidC.top LaidC.k
 omega
theorem at_mono {i j:Nat} (h:i<=j):x.at i<=x.at j:=by unfold LaidC.at;have:=szC_mono x.H h;omega
theorem hd_get {j:Nat} (hj:j<x.k):∃ p f c:Nat,hdC x.H j=⟨p,f,c⟩:=by
 obtain ⟨p,f,c,e,-⟩:=kC_hd (H:=x.H) (j:=j) hj
 exact ⟨p,f,c,e⟩
theorem laid_obj (hok:VmOk v0) (hl:∀ a:Nat,x.page<=a->a<x.top->v0.ldE a=0) {k:Nat} (hk:k<=x.k):LaidIn x v0 (objC x.page x.H v0 k).1 k/\InF x k (objC x.page x.H v0 k).2.2:=by
 induction k with
 | zero=>exact ⟨⟨Stays.refl hok,fun j hj=>absurd hj (Nat.not_lt_zero _),fun j hj=>absurd hj (Nat.not_lt_zero _)⟩,fun a ha=>by cases ha⟩
 | succ k ih=>
  obtain ⟨h1,h2⟩:=ih (by omega)
  obtain ⟨p,f,c,e⟩:=hd_get (x:=x) (j:=k) (by omega)
  obtain ⟨n1,n2,n3,n4⟩:=at_next (x:=x) (by omega) e
  have hp:=x.page_pos
  have hN:(hdrN (hdC x.H k)).toNat-1=p+f+c:=by rw [e,show hdrN ⟨p,f,c⟩=1+(p:Int)+f+c from if_pos (hdrE_of n3)];omega
  have hlm:∀ j:Nat,j<=p+f+c->v0.ldE (((x.at k:Nat):Int)+j)=0:=fun j hj=>by
   have:=hl (x.at k+j) (by omega) (by omega)
   rw [<-this];congr 1
  have hmk:=mkVm_all (v:=(objC x.page x.H v0 k).1) h1.st.ok (t:=x.at k) (by omega) n3 (fun j hj=>by rw [h1.st.sm.ldE];exact hlm j hj)
  have hsm:=h1.st.mkVm ((x.at k:Nat):Int) ⟨p,f,c⟩
  have hE:objC x.page x.H v0 (k+1)=fldC (x.at k) p (mkVm (objC x.page x.H v0 k).1 ((x.at k:Nat):Int) ⟨p,f,c⟩,(objC x.page x.H v0 k).2) (p+f+c):=by
   show fldC (x.page+szC x.H k) (hdC x.H k).p.toNat (mkVm (objC x.page x.H v0 k).1 ((x.page+szC x.H k:Nat):Int) (hdC x.H k),(objC x.page x.H v0 k).2) ((hdrN (hdC x.H k)).toNat-1)=_
   rw [hN,e]
   rfl
  have hst:=(hsm.fldC (s:=(mkVm (objC x.page x.H v0 k).1 ((x.at k:Nat):Int) ⟨p,f,c⟩,(objC x.page x.H v0 k).2)) (x.at k) p (p+f+c)).1
  have hfl:=fldC_ldV (x.at k) p (s:=(mkVm (objC x.page x.H v0 k).1 ((x.at k:Nat):Int) ⟨p,f,c⟩,(objC x.page x.H v0 k).2)) hsm (p+f+c) (fun j hj=>by
   have:=hlm (j+1) (by omega)
   rw [<-this];congr 1;omega)
  have hF:=fldC_F (x.at k) p (mkVm (objC x.page x.H v0 k).1 ((x.at k:Nat):Int) ⟨p,f,c⟩,(objC x.page x.H v0 k).2) (p+f+c)
  rw [hE]
  refine ⟨⟨hst,fun j hj p' f' c' hh=>?_,fun j hj p' f' c' hh m hm=>?_⟩,fun a ha=>?_⟩
  ·rcases Nat.lt_or_ge j k with hjk | hjk
   ·have hmo:=at_mono (x:=x) (i:=j+1) (j:=k) (by omega)
    have hnx:=at_next (x:=x) (by omega) hh
    rw [hfl _ (by omega),hmk.2,if_neg (by omega),if_neg (by omega)]
    exact h1.hd j hjk p' f' c' hh
   ·obtain rfl:j=k:=by omega
    rw [e] at hh
    simp only [Hdr.mk.injEq] at hh
    have:p=p'/\f=f'/\c=c':=by omega
    obtain ⟨rfl,rfl,rfl⟩:=this
    rw [hfl _ (by omega),hmk.2,if_pos rfl]
  ·rcases Nat.lt_or_ge j k with hjk | hjk
   ·have hmo:=at_mono (x:=x) (i:=j+1) (j:=k) (by omega)
    have hnx:=at_next (x:=x) (by omega) hh
    rw [hfl _ (by omega),hmk.2,if_neg (by omega),if_neg (by omega)]
    exact h1.pt j hjk p' f' c' hh m hm
   ·obtain rfl:j=k:=by omega
    rw [e] at hh
    simp only [Hdr.mk.injEq] at hh
    have:p=p'/\f=f'/\c=c':=by omega
    obtain ⟨rfl,rfl,rfl⟩:=this
    rw [hfl _ (by omega),hmk.2,if_neg (by omega),if_pos (by omega)]
    exact .inl rfl
  ·rcases hF a ha with h | ⟨j,hj1,hj2,rfl⟩
   ·obtain ⟨j,hj,r⟩:=h2 a h
    exact ⟨j,by omega,r⟩
   ·exact ⟨k,Nat.lt_succ_self k,p,f,c,j,e,hj2,rfl⟩
theorem laid_ptr {F:List Int} {v:Vm} (hl:∀ a:Nat,x.page<=a->a<x.top->v0.ldE a=0) (h:LaidIn x v0 v x.k) (hF:InF x x.k F) (hne:F≠[]) (n:Nat):LaidIn x v0 (ptrC x F v n) x.k:=by
 induction n with
 | zero=>exact h
 | succ n ih=>
  have hlen:0<F.length:=List.length_pos_iff.2 hne
  have hm:F.getD ((x.P.getD (2*n) 0+2*n)%F.length) 0∈F:=by
   have hlt:=Nat.mod_lt (x.P.getD (2*n) 0+2*n) hlen
   rw [List.getD_eq_getElem?_getD,List.getElem?_eq_getElem hlt]
   exact List.getElem_mem hlt
  obtain ⟨j0,hj0,p0,f0,c0,m0,e0,hm0,ha0⟩:=hF _ hm
  obtain ⟨q1,q2,q3,q4⟩:=at_next (x:=x) hj0 e0
  have hlv:(ptrC x F v n).ldE (F.getD ((x.P.getD (2*n) 0+2*n)%F.length) 0)=0:=by
   rw [ih.st.sm.ldE,ha0]
   exact hl _ (by omega) (by omega)
  have hst:=ih.st.ok.st_ldV (x.put (x.P.getD (2*n+1) 0)) hlv
  rw [ha0] at hst
  show LaidIn x v0 ((ptrC x F v n).st (F.getD ((x.P.getD (2*n) 0+2*n)%F.length) 0) (x.put (x.P.getD (2*n+1) 0))) x.k
  rw [ha0]
  refine ⟨ih.st.st _ (put_lt x _),fun j hj p f c hh=>?_,fun j hj p f c hh m hm=>?_⟩
  ·rw [hst,if_neg]
   ·exact ih.hd j hj p f c hh
   ·intro e
    rcases Nat.lt_or_ge j0 j with h' | h'
    ·have:=at_mono (x:=x) (i:=j0+1) (j:=j) (by omega);omega
    ·have:=at_mono (x:=x) h';omega
  ·rw [hst]
   split
   ·exact put_is x _
   ·exact ih.pt j hj p f c hh m hm
theorem laid_in (hok:VmOk v0) (hl:∀ a:Nat,x.page<=a->a<x.top->v0.ldE a=0):LaidIn x v0 (layC x v0) x.k:=by
 obtain ⟨h1,h2⟩:=laid_obj hok hl (Nat.le_refl x.k)
 unfold layC
 split
 ·exact h1
 ·rename_i hne
  exact laid_ptr hl h1 h2 hne _
theorem LaidIn.ob {v:Vm} (hl:∀ a:Nat,x.page<=a->a<x.top->v0.ldE a=0) (h:LaidIn x v0 v x.k) {j:Nat} (hj:j<x.k):∃ p f c:Nat,hdC x.H j=⟨p,f,c⟩/\v.rdE ((x.at j:Nat):Int)=0/\v.rdH ((x.at j:Nat):Int)=⟨p,f,c⟩/\v.osz ((x.at j:Nat):Int)=((1+p+f+c:Nat):Int):=by
 obtain ⟨p,f,c,e⟩:=hd_get (x:=x) hj
 obtain ⟨n1,n2,n3,n4⟩:=at_next (x:=x) hj e
 have hp:=x.page_pos
 have h0:v.ldE ((x.at j:Nat):Int)=0:=by rw [h.st.sm.ldE];exact hl _ n4 (by omega)
 have hv:=h.hd j hj p f c e
 obtain ⟨t1,t2⟩:=tk_hdrW n3
 have hH:v.rdH ((x.at j:Nat):Int)=⟨p,f,c⟩:=by unfold Vm.rdH;rw [if_pos ⟨by omega,h0⟩,hv,t2]
 refine ⟨p,f,c,e,?_,hH,?_⟩
 ·unfold Vm.rdE
  rw [if_neg (by omega),if_neg (by omega),if_pos h0,hv,t1]
 ·unfold Vm.osz
  rw [hH,show hdrN ⟨p,f,c⟩=1+(p:Int)+f+c from if_pos (hdrE_of n3)]
  push_cast;rfl
theorem LaidIn.ptr {v:Vm} (hl:∀ a:Nat,x.page<=a->a<x.top->v0.ldE a=0) (h:LaidIn x v0 v x.k) {j:Nat} (hj:j<x.k) {i:Nat} (hi:(i:Int)<(v.rdH ((x.at j:Nat):Int)).p):v.ptE ((x.at j:Nat):Int) i=0/\IsPut x (v.ptV ((x.at j:Nat):Int) i):=by
 obtain ⟨p,f,c,e,r1,r2,r3⟩:=h.ob hl hj
 obtain ⟨n1,n2,n3,n4⟩:=at_next (x:=x) hj e
 have ht:=x.top_le
 have hpp:=x.page_pos
 rw [r2] at hi
 have hi:(i:Int)<(p:Int):=hi
 have h0:v.ldE (((x.at j:Nat):Int)+1+i)=0:=by
  rw [h.st.sm.ldE,show ((x.at j:Nat):Int)+1+i=((x.at j+1+i:Nat):Int) by omega]
  exact hl _ (by omega) (by omega)
 have hq:=h.pt j hj p f c e i (by omega)
 rw [show ((x.at j+1+i:Nat):Int)=((x.at j:Nat):Int)+1+i by omega] at hq
 have hle:v.ldV (((x.at j:Nat):Int)+1+i)<=2147483647:=by
  rcases hq with hq | ⟨j',hj',hq⟩
  ·omega
  ·obtain ⟨p',f',c',e'⟩:=hd_get (x:=x) hj'
   have:=at_next (x:=x) hj' e'
   omega
 have hpt:=ptE_of (v:=v) (a:=((x.at j:Nat):Int)) (i:=i) r1 (by rw [r2];exact hi) h0 hle
 exact ⟨hpt.1,by rw [(ptV_of hpt.1).1];exact hq⟩
theorem rs_put {r:Int} (hr:r∈x.rs):∃ y:Nat,r=y/\IsPut x y:=by
 unfold LaidC.rs LaidC.rsN at hr
 obtain ⟨i,-,rfl⟩:=List.mem_map.1 hr
 split
 ·exact ⟨_,rfl,put_is x _⟩
 ·exact ⟨0,rfl,.inl rfl⟩
theorem LaidIn.rch {v:Vm} (hl:∀ a:Nat,x.page<=a->a<x.top->v0.ldE a=0) (h:LaidIn x v0 v x.k) {a:Int} (ha:Rch v x.rs a):∃ j,j<x.k/\a=((x.at j:Nat):Int):=by
 refine ha (fun a=>∃ j,j<x.k/\a=((x.at j:Nat):Int)) (fun r hr h0=>?_) ?_
 ·obtain ⟨y,rfl,hy | ⟨j,hj,hy⟩⟩:=rs_put hr
  ·exact absurd (by rw [hy];rfl) h0
  ·exact ⟨j,hj,by rw [hy]⟩
 ·rintro a b ⟨j,hj,rfl⟩ ⟨-,i,hi,-,h1,rfl⟩
  rcases (h.ptr hl hj hi).2 with h2 | ⟨j',hj',h2⟩
  ·exact absurd h2 h1
  ·exact ⟨j',hj',by rw [h2]⟩
theorem LaidIn.sound {v:Vm} (hl:∀ a:Nat,x.page<=a->a<x.top->v0.ldE a=0) (h:LaidIn x v0 v x.k):Sound v x.rs x.n:=by
 have ht:=x.top_le
 refine ⟨fun a ha=>?_,fun a ha i hi=>?_,fun a ha=>?_,fun a b ha hb=>?_⟩
 ·obtain ⟨j,hj,rfl⟩:=h.rch hl ha
  obtain ⟨p,f,c,-,r,-⟩:=h.ob hl hj
  exact r
 ·obtain ⟨j,hj,rfl⟩:=h.rch hl ha
  exact (h.ptr hl hj hi).1
 ·obtain ⟨j,hj,rfl⟩:=h.rch hl ha
  obtain ⟨p,f,c,e,-,-,r⟩:=h.ob hl hj
  have:=at_next (x:=x) hj e
  unfold LaidC.n
  omega
 ·obtain ⟨j,hj,rfl⟩:=h.rch hl ha
  obtain ⟨j',hj',rfl⟩:=h.rch hl hb
  obtain ⟨p,f,c,e,-,-,r⟩:=h.ob hl hj
  obtain ⟨p',f',c',e',-,-,r'⟩:=h.ob hl hj'
  have n1:=at_next (x:=x) hj e
  have n2:=at_next (x:=x) hj' e'
  rcases Nat.lt_trichotomy j j' with h1 | rfl | h1
  ·have:=at_mono (x:=x) (i:=j+1) (j:=j') (by omega);right;left;omega
  ·exact .inl rfl
  ·have:=at_mono (x:=x) (i:=j' + 1) (j:=j) (by omega);right;right;omega
theorem sizes_run {n:Nat} {L:List Ob} (hg:Good n L) {lo hi:Nat} (h:∀ o∈L,lo<=o.1/\o.1+o.2<=hi) (hlh:lo<=hi):sizes L+lo<=hi:=by
 have key:∀ (L:List Ob),L.Pairwise (fun o q=>o.1+o.2<=q.1)->∀ lo,lo<=hi->(∀ o∈L,lo<=o.1/\o.1+o.2<=hi)->sizes L+lo<=hi:=by
  intro L
  induction L with
  | nil=>intro _ lo h1 _;simpa [sizes] using h1
  | cons o r ih=>
   intro hp lo h1 h2
   obtain ⟨p1,p2⟩:=List.pairwise_cons.1 hp
   have ho:=h2 o (List.mem_cons_self ..)
   have:=ih p2 (o.1+o.2) ho.2 (fun q hq=>⟨p1 q hq,(h2 q (List.mem_cons_of_mem _ hq)).2⟩)
   simp only [sizes]
   omega
 exact key L (List.pairwise_iff_getElem.2 fun i j hi hj hij=>hg.at hi hj hij) lo hlh h
theorem LaidIn.marks {v:Vm} (hl:∀ a:Nat,x.page<=a->a<x.top->v0.ldE a=0) (h:LaidIn x v0 v x.k) {L:List Ob} (hM:Marks v x.rs x.n L):(∀ o∈L,x.page<=o.1/\o.1+o.2<=x.top)/\sizes L<=512/\FullOb v L:=by
 have ht:=x.top_le
 have hin:∀ o∈L,x.page<=o.1/\o.1+o.2<=x.top:=fun o ho=>by
  obtain ⟨h1,h2,h3⟩:=hM.mkd.ats o ho
  obtain ⟨j,hj,e⟩:=h.rch hl h1
  obtain ⟨p,f,c,e',-,-,r⟩:=h.ob hl hj
  have:=at_next (x:=x) hj e'
  rw [e,r] at h3
  omega
 refine ⟨hin,?_,fun o ho m hm=>?_⟩
 ·have:=sizes_run hM.mkd.good hin ht.1
  omega
 ·have:=hin o ho
  rw [h.st.sm.ldE,show (o.1:Int)+m=((o.1+m:Nat):Int) by omega]
  exact hl _ (by omega) (by omega)
end
end Go.Proofs.YthgdadohijgleaaGreatDoor
end
section
section
namespace Go.Proofs.YthgdadohijgleaaGreatDoor
open Go.RowKit Word
def IntsAt (w:World) (A:Option Addr) (l:List Int):Prop:=∀ i (h:i<l.length),∃ b o,A=some ⟨b,o,none⟩/\b<w.heap.size/\w.cell? ⟨b,o+i,none⟩=some (.int .i64 l[i])
def IntsOff (T:Nat->Prop) (w:World) (A:Option Addr) (l:List Int):Prop:=∀ i (h:i<l.length),∃ b o,A=some ⟨b,o,none⟩/\b<w.heap.size/\¬ T b/\w.cell? ⟨b,o+i,none⟩=some (.int .i64 l[i])
theorem IntsOff.touch {T S:Nat->Prop} {w w':World} {A:Option Addr} {l:List Int} (h:IntsOff T w A l) (t:Touch S w w') (hs:∀ b,b<w.heap.size->S b->T b):IntsOff T w' A l:=fun i hi=>by
 obtain ⟨b,o,e,hb,hT,hc⟩:=h i hi
 exact ⟨b,o,e,Nat.lt_of_lt_of_le hb t.size,hT,(t.cell hb (fun x=>hT (hs b hb x)) _).trans hc⟩
theorem IntsOff.gr {T:Nat->Prop} {w w':World} {A:Option Addr} {l:List Int} (h:IntsOff T w A l) (t:Gr w w'):IntsOff T w' A l:=h.touch (t.touch (fun _=>False)) (fun _ _ h=>h.elim)
theorem IntsOff.mono {T T':Nat->Prop} {w:World} {A:Option Addr} {l:List Int} (h:IntsOff T w A l) (hs:∀ b,b<w.heap.size->T' b->T b):IntsOff T' w A l:=fun i hi=>by
 obtain ⟨b,o,e,hb,hT,hc⟩:=h i hi
 exact ⟨b,o,e,hb,fun x=>hT (hs b hb x),hc⟩
def zs (l:List Int):List Value:=l.map fun x=>.int .i64 x
theorem zs_at {l:List Int} {i:Nat} (h:i<l.length):(zs l)[i]?=some (.int .i64 l[i]):=by simp [zs,h]
structure StkAt (w:World) (S:Nat->Prop) (s:Nat) (l:List Int) (R:Nat) (lost:Bool):Prop where
 ss:S s
 r1:1<=R/\R<=4096
 le:l.length<=R
 row:∃ vl hi,Rec w s 358 [vl,.int .i64 R,.int .i64 hi,.bool lost]/\w.ownsRow 0 3 1 vl l.length (zs l)/\∀ g,vl.ownBlock=some g->S g
theorem StkAt.touch {S T:Nat->Prop} {w w':World} {s:Nat} {l:List Int} {R:Nat} {b:Bool} (h:StkAt w S s l R b) (t:Touch T w w') (hS:∀ k,S k->k<w.heap.size->¬ T k):StkAt w' S s l R b:=by
 obtain ⟨h1,h2,h3,vl,hi,hr,ho,hs⟩:=h
 exact ⟨h1,h2,h3,vl,hi,hr.touch t (hS _ h1 hr.lt),own_touch ho t (fun g hg=>hS g (hs g hg) (own_lt ho hg).2),hs⟩
theorem StkAt.gr {S:Nat->Prop} {w w':World} {s:Nat} {l:List Int} {R:Nat} {b:Bool} (h:StkAt w S s l R b) (t:Gr w w'):StkAt w' S s l R b:=h.touch (t.touch (fun _=>False)) (fun _ _ _ h=>h)
theorem StkAt.mono {S T:Nat->Prop} {w:World} {s:Nat} {l:List Int} {R:Nat} {b:Bool} (h:StkAt w S s l R b) (hT:∀ k,S k->T k):StkAt w T s l R b:=by
 obtain ⟨h1,h2,h3,vl,hi,hr,ho,hs⟩:=h
 exact ⟨hT _ h1,h2,h3,vl,hi,hr,ho,fun g hg=>hT g (hs g hg)⟩
theorem StkAt.cut {S:Nat->Prop} {w:World} {s:Nat} {l:List Int} {R:Nat} {b:Bool} (h:StkAt w S s l R b):StkAt w (cutS S w) s l R b:=by
 obtain ⟨h1,h2,h3,vl,hi,hr,ho,hs⟩:=h
 exact ⟨⟨h1,hr.lt⟩,h2,h3,vl,hi,hr,ho,fun g hg=>⟨hs g hg,(own_lt ho hg).2⟩⟩
section
variable {w:World} {S:Nat->Prop} {s R:Nat} {l:List Int} {lost:Bool}
theorem stk_len (h:StkAt w S s l R lost):Calls Tryz.prog 369 #[.pointer (some ⟨s,0,none⟩)] w fun e w'=>e=.returned (.int .i64 (l.length:Nat))/\w=w':=by
 obtain ⟨h1,h2,h3,vl,hi,hr,ho,hs⟩:=h
 obtain ⟨A,c,rfl,hc1,hc2⟩:=own_shape ho
 have c0:=hr.cell (j:=0) rfl
 clear hr ho hs
 go_enter Tryz.func369,Tryz.ntmps369
 go_wp2
 go_ret
 exact ⟨rfl,rfl⟩
theorem stk_lost (h:StkAt w S s l R lost):Calls Tryz.prog 283 #[.pointer (some ⟨s,0,none⟩)] w fun e w'=>e=.returned (.bool lost)/\w=w':=by
 obtain ⟨h1,h2,h3,vl,hi,hr,ho,hs⟩:=h
 have c3:=hr.cell (j:=3) rfl
 clear hr ho hs
 go_enter Tryz.func283,Tryz.ntmps283
 go_wp2
 go_ret
 exact ⟨rfl,rfl⟩
theorem stk_found (h:StkAt w S s l R lost):Calls Tryz.prog 284 #[.pointer (some ⟨s,0,none⟩)] w fun e w'=>e=.returned (.tuple #[])/\Touch S w w'/\StkAt w' S s l R false:=by
 obtain ⟨h1,h2,h3,vl,hi,hr,ho,hs⟩:=h
 have c3:=hr.cell (j:=3) rfl
 have f3:=hr.free 3
 have HR:=hid hr
 have HO:=hid ho
 have HS:=hid hs
 clear hr ho hs
 go_enter Tryz.func284,Tryz.ntmps284
 go_wp2
 refine bodyPost_end (results_none rfl _ _ _) rfl ?_
 exact ⟨rfl,(Touch.refl S w).setCell (a:=⟨s,3,none⟩) (fun _=>h1) _,h1,h2,h3,vl,hi,Rec.set HR.out 3 _,own_set_other HO.out _ (fun g hg=>own_ne HO.out HR.out (by decide) hg rfl),HS.out⟩
def PopEnd (w:World) (S:Nat->Prop) (s:Nat) (l:List Int) (R:Nat) (lost:Bool) (e:Ending) (w':World):Prop:=
 (l=[]/\e=.returned (.tuple #[.int .i64 0,.bool false])/\w=w')\/(∃ l' a,l=l'++[a]/\e=.returned (.tuple #[.int .i64 a,.bool true])/\Touch S w w'/\StkAt w' S s l' R lost)
set_option maxRecDepth 100000 in
set_option maxHeartbeats 800000 in
theorem stk_pop (h:StkAt w S s l R lost):Calls Tryz.prog 342 #[.pointer (some ⟨s,0,none⟩)] w (PopEnd w S s l R lost):=by
 have HL:=hid (stk_len h)
 obtain ⟨h1,h2,h3,vl,hi,hr,ho,hs⟩:=h
 rcases List.eq_nil_or_concat l with rfl | ⟨l',a,rfl⟩
 ·clear hr ho hs
  go_enter Tryz.func342,Tryz.ntmps342
  go_wp2_with (go_at_call 369;refine HL.out.mono ?_;rintro e w1 ⟨rfl,rfl⟩)
  go_ret2
  exact .inl ⟨rfl,rfl,rfl⟩
 ·rw [List.concat_eq_append] at *
  have hlen:(l'++[a]).length=l'.length+1:=by simp
  rw [hlen] at HL ho h3
  obtain ⟨g,c,rfl,-,hc1,hc2,-⟩:=own_form ho (by omega)
  unfold maxLen at hc2
  have c0:=hr.cell (j:=0) rfl
  have f0:=hr.free 0
  have kb:=own_cell ho (j:=l'.length) (u:=.int .i64 a) (by simp [zs])
  have HR:=hid hr
  have HO:=hid ho
  have HS:=hid hs
  obtain ⟨N,hN⟩:∃ N,N=l'.length:=⟨_,rfl⟩
  rw [<-hN] at HL c0 kb h3 hc1
  have HN:=hid hN
  clear hr ho hs hlen hN
  go_enter Tryz.func342,Tryz.ntmps342
  go_wp2_with (go_at_call 369;refine HL.out.mono ?_;rintro e w1 ⟨rfl,rfl⟩)
  go_ret2
  refine .inr ⟨l',a,rfl,rfl,(Touch.refl S w).setCell (a:=⟨s,0,none⟩) (fun _=>h1) _,h1,h2,by have:=HN.out;omega,.slice (some ⟨g,0,none⟩) N c,hi,Rec.set HR.out 0 _,?_,fun g' hg=>HS.out g' hg⟩
  have ho':=HO.out
  rw [show zs (l'++[a])=zs l'++[.int .i64 a] by unfold zs;rw [List.map_append];rfl] at ho'
  have hp:=own_pop ho'
  rw [HN.out]
  exact own_set_other hp _ (fun g' hg=>own_ne hp HR.out (by decide) hg rfl)
def NewStk (w:World) (R:Int) (e:Ending) (w':World):Prop:=
 ((R<1\/4096<R)/\e=.returned (.tuple #[.pointer none,.int .i64 5])/\w=w') ∨
 (1<=R/\R<=4096/\e=.returned (.tuple #[.pointer (some ⟨w.heap.size,0,none⟩),.int .i64 0])/\Gr w w'/\StkAt w' (fun k=>w.heap.size<=k) w.heap.size [] R.toNat false)
set_option maxRecDepth 100000 in
theorem stk_new (R:Int) (w:World):Calls Tryz.prog 188 #[.int .i64 R] w (NewStk w R):=by
 rcases (by omega:R<1\/(1<=R/\4096<R)\/(1<=R/\R<=4096)) with h | h | h
 ·have d0:decide (R<1)=true:=decide_eq_true h
  go_enter Tryz.func188,Tryz.ntmps188
  go_wp2
  go_ret2
  exact .inl ⟨.inl h,rfl,rfl⟩
 ·have d0:decide (R<1)=false:=decide_eq_false (by omega)
  have d1:decide (4096<R)=true:=decide_eq_true h.2
  go_enter Tryz.func188,Tryz.ntmps188
  go_wp2
  go_ret2
  exact .inl ⟨.inr h.2,rfl,rfl⟩
 ·obtain ⟨m,rfl⟩:∃ m:Nat,R=m:=⟨R.toNat,by omega⟩
  have d0:decide ((m:Int)<1)=false:=decide_eq_false (by omega)
  have d1:decide (4096<(m:Int))=false:=decide_eq_false (by omega)
  go_enter Tryz.func188,Tryz.ntmps188
  go_wp2
  go_ret2
  refine .inr ⟨h.1,h.2,rfl,(Gr.refl w).alloc _,Nat.le_refl _,?_,Nat.zero_le _,.slice none 0 0,0,?_,own_nil _ _ _ _,(fun g hg=>by cases hg)⟩
  ·rw [Int.toNat_natCast];omega
  ·rw [Int.toNat_natCast];exact Rec.new w _ _
theorem infoIntV:(Tryz.prog.info? 3).map (fun i=>(i.zero,i.size,i.bytes))=some (some (.int .i64 0),1,8):=by kernel_rfl
def PushEnd (w:World) (S:Nat->Prop) (s:Nat) (l:List Int) (R:Nat) (lost:Bool) (a:Int) (e:Ending) (w':World):Prop:=
 (R<=l.length/\e=.returned (.bool false)/\Touch S w w'/\StkAt w' (plus S w) s l R true)\/(l.length<R/\e=.returned (.bool true)/\Touch S w w'/\StkAt w' (plus S w) s (l++[a]) R lost)
set_option maxRecDepth 100000 in
set_option maxHeartbeats 1600000 in
theorem stk_push (h:StkAt w S s l R lost) (a:Int):Calls Tryz.prog 341 #[.pointer (some ⟨s,0,none⟩),.int .i64 a] w (PushEnd w S s l R lost a):=by
 obtain ⟨h1,h2,h3,vl,hi,hr,ho,hs⟩:=h
 obtain ⟨A,c,rfl,hc1,hc2⟩:=own_shape ho
 unfold maxLen at hc2
 have hmax:=run_maxB2 Tryz.prog
 have c0:=hr.cell (j:=0) rfl
 have c1:=hr.cell (j:=1) rfl
 have c3:=hr.cell (j:=3) rfl
 have f3:=hr.free 3
 have hsl:=hr.lt
 have HR:=hid hr
 have HO:=hid ho
 have HS:=hid hs
 obtain ⟨N,hN⟩:∃ N,N=l.length:=⟨_,rfl⟩
 rw [<-hN] at c0 h3 hc1
 have HN:=hid hN
 have z0:∀ m,(w.drewN m).cell? ⟨s,0,none⟩=some (.slice A N c):=fun m=>c0
 have z1:∀ m,(w.drewN m).cell? ⟨s,1,none⟩=some (.int .i64 R):=fun m=>c1
 have z3:∀ m,(w.drewN m).cell? ⟨s,3,none⟩=some (.bool lost):=fun m=>c3
 have zf:∀ m,(w.drewN m).frozen? ⟨s,3,none⟩=false:=fun m=>f3
 clear hr ho hs hN
 by_cases hfull:R<=N
 ·have d0:decide (R<=N)=true:=decide_eq_true hfull
  go_enter Tryz.func341,Tryz.ntmps341
  go_wp2
  go_quiet (fail)
  go_wp2
  go_ret
  have hg:Gr w (w.drewN nq):=(Gr.refl w).drewN nq
  refine .inl ⟨by rw [<-HN.out];exact hfull,rfl,(hg.touch S).setCell (a:=⟨s,3,none⟩) (fun _=>h1) _,.inl h1,h2,by rw [<-HN.out];exact h3,_,hi,Rec.set (HR.out.gr hg) 3 _,own_set_other (own_gr HO.out hg) _ (fun g hg'=>own_ne HO.out HR.out (by decide) hg' rfl),fun g hg'=>.inl (HS.out g hg')⟩
 ·have d0:decide (R<=N)=false:=decide_eq_false hfull
  obtain ⟨ii,hii,hi0,hi1,hi2⟩:=info_parts infoIntV
  go_enter Tryz.func341,Tryz.ntmps341
  go_wp2
  go_quiet (fail)
  have hg:Gr w (w.drewN nq):=(Gr.refl w).drewN nq
  have HG:=hid hg
  have ho1:=own_gr HO.out hg
  rw [<-HN.out] at ho1
  have HO1:=hid ho1
  have HR1:=hid (HR.out.gr hg)
  clear hg ho1 z0 z1 z3 zf
  go_wp2_with (at_builtin;refine wpList_append_lies _ rfl _ _ 40 rfl 0 3 ii _ 1 8 Tryz.underlying40 hii hi0 hi1 hi2 rfl (by decide) (.slice A N c) N (zs l) rfl (HO1.out.alloc _) ⟨(w.drewN nq).heap.size,0,none⟩ 1 1 [.int .i64 a] rfl rfl (World.news_of_block (cs:=#[.int .i64 a]) (t:=3) (fr:=(0,0)) (heap_alloc_new (w.drewN nq) (.cells #[.int .i64 a] 3))) (by simp [Value.oneCell']) (by omega) (by unfold maxLen;omega) (by omega) (Nat.zero_le _) ((w.drewN nq).heap.size+1) (by simp) ?_;intro g2 c2 w2 hown2 hgrow2 hat2 hlt2;have t2:Touch (fun k=>(Value.slice A N c).ownBlock=some k) (w.drewN nq) w2:=(((Gr.refl _).alloc _).touch _).trans (grown_touch hgrow2 _ (fun k e _=>e));have HR2:=hid (HR1.out.touch t2 (fun e=>own_ne HO1.out HR1.out (by decide) e rfl rfl));have k0:=HR2.out.cell (j:=0) rfl;have kf:=HR2.out.free 0;have HT2:=hid t2;have HO2:=hid hown2;have HA2:=hid (And.intro hat2 hlt2);clear hown2 hgrow2 hat2 hlt2 t2)
  obtain ⟨W3,hW3⟩:∃ W3,W3=w2.setCell ⟨s,0,none⟩ (.slice (some ⟨g2,0,none⟩) (N+1) c2):=⟨_,rfl⟩
  rw [<-hW3]
  have R3:Rec W3 s 358 [.slice (some ⟨g2,0,none⟩) (N+1) c2,.int .i64 R,.int .i64 hi,.bool lost]:=by rw [hW3];exact Rec.set HR2.out 0 _
  have O3:=own_set_other (q:=s) (j:=0) HO2.out (.slice (some ⟨g2,0,none⟩) (N+1) c2) (fun g hg=>own_ne HO2.out HR2.out (by decide) hg rfl)
  rw [<-hW3] at O3
  have T3:Touch S w W3:=by
   rw [hW3]
   exact ((HG.out.touch S).trans (HT2.out.mono (fun k _ hk=>HS.out k (by rw [<-HN.out];exact hk)))).setCell (a:=⟨s,0,none⟩) (fun _=>h1) _
  have y0:=R3.cell (j:=0) rfl
  have y2:=R3.cell (j:=2) rfl
  have yf:=R3.free 2
  have HW3:=hid (And.intro R3 (And.intro O3 T3))
  have hsz:(w.drewN nq).heap.size=w.heap.size:=rfl
  clear hW3 R3 O3 T3 k0 kf c0 c1 c3 f3
  obtain ⟨Sx,hSx⟩:∃ Sx:World->Prop,Sx=fun W'=>W'.cell? ⟨s,0,none⟩=some (.slice (some ⟨g2,0,none⟩) (N+1) c2)/\W'.cell? ⟨s,2,none⟩=some (.int .i64 hi):=⟨_,rfl⟩
  have x0:∀ p':Held Sx,p'.w.cell? ⟨s,0,none⟩=some (.slice (some ⟨g2,0,none⟩) (N+1) c2):=fun p'=>(Held.get hSx p').1
  have x2:∀ p':Held Sx,p'.w.cell? ⟨s,2,none⟩=some (.int .i64 hi):=fun p'=>(Held.get hSx p').2
  have hS0:Sx W3.drew:=by rw [hSx];exact ⟨y0,y2⟩
  clear hSx
  have inst:Inhabited (Held Sx):=⟨⟨_,hS0⟩⟩
  refine wp_region_mixS Sx 13 [([0,1,2,3,4,5,6,7,8,9,10,11,12],13)] [] (by kernel_rfl) (by kernel_rfl) hS0 ?_
  refine segs_step ?_
  simp only [opsAt,List.getElem?_cons_zero,List.getElem?_cons_succ]
  repeat (go_big_quiet_step (fail))
  refine wpQuiet_nil ?_
  go_wp2
  refine ⟨.inl trivial,?_⟩
  refine segs_end ?_
  refine wpQuiet_nil ?_
  refine NoPanic.normal ?_
  clear x0 x2 hS0 inst
  clear Sx
  go_wp2
  go_ret
  obtain ⟨R3,O3,T3⟩:=HW3.out
  have hA2:=HA2.out
  refine .inr ⟨by rw [<-HN.out];omega,rfl,(T3.setCell (a:=⟨s,2,none⟩) (fun _=>h1) _).drew,.inl h1,h2,by rw [List.length_append,<-HN.out];simp;omega,.slice (some ⟨g2,0,none⟩) (N+1) c2,max hi ((N:Int)+1),Rec.gr (Rec.set R3 2 _) (Gr.refl _).drew,?_,fun g hg=>?_⟩
  ·rw [List.length_append,<-HN.out,show zs (l++[a])=zs l++[.int .i64 a] by unfold zs;rw [List.map_append];rfl]
   exact own_gr (own_set_other O3 _ (fun g hg=>own_ne O3 R3 (by decide) hg rfl)) (Gr.refl _).drew
  ·cases hg
   rcases hA2.1 with h | h
   ·exact .inl (HS.out _ (by rw [<-HN.out];exact h))
   ·right
    show w.heap.size<=g2
    omega
end
end Go.Proofs.YthgdadohijgleaaGreatDoor
end
section
namespace Go.Proofs.YthgdadohijgleaaGreatDoor
open Go.RowKit Word
structure RtAt (w:World) (r g:Nat) (rs:List Int):Prop where
 rcd:Rec w r 246 [.slice (some ⟨g,0,none⟩) rs.length rs.length]
 row:w.ownsRow 0 3 1 (.slice (some ⟨g,0,none⟩) rs.length rs.length) rs.length (zs rs)
 ne:rs≠[]
 le:rs.length<=64
theorem zs_set (l:List Int) (i:Nat) (a:Int):(zs l).set i (.int .i64 a)=zs (l.set i a):=by unfold zs;rw [List.map_set]
theorem RtAt.touch {S:Nat->Prop} {w w':World} {r g:Nat} {rs:List Int} (h:RtAt w r g rs) (t:Touch S w w') (h1:¬ S r) (h2:¬ S g):RtAt w' r g rs:=
 ⟨h.rcd.touch t h1,own_touch h.row t (fun g' hg=>by cases hg;exact h2),h.ne,h.le⟩
theorem RtAt.gr {w w':World} {r g:Nat} {rs:List Int} (h:RtAt w r g rs) (t:Gr w w'):RtAt w' r g rs:=⟨h.rcd.gr t,own_gr h.row t,h.ne,h.le⟩
theorem RtAt.lt {w:World} {r g:Nat} {rs:List Int} (h:RtAt w r g rs):r<w.heap.size/\g<w.heap.size:=⟨h.rcd.lt,(own_lt h.row rfl).2⟩
theorem RtAt.dif {w:World} {r g:Nat} {rs:List Int} (h:RtAt w r g rs):g≠r:=own_ne h.row h.rcd (by decide) rfl rfl
theorem RtAt.set {w:World} {r g:Nat} {rs:List Int} (h:RtAt w r g rs) (i:Nat) (a:Int):RtAt (w.setCell ⟨g,i,none⟩ (.int .i64 a)) r g (rs.set i a):=by
 have hl:(rs.set i a).length=rs.length:=List.length_set
 refine ⟨?_,?_,fun e=>h.ne ?_,by rw [hl];exact h.le⟩
 ·rw [hl]
  exact own_set_other h.rcd _ (fun g' hg e=>by cases hg;exact h.dif e.symm)
 ·rw [hl]
  have:=(World.ownsRow.stored h.row i (.int .i64 a)).1
  rw [zs_set] at this
  exact this
 ·have:(rs.set i a).length=0:=by rw [e];rfl
  rw [hl] at this
  exact List.eq_nil_of_length_eq_zero this
theorem RtAt.cell {w:World} {r g:Nat} {rs:List Int} (h:RtAt w r g rs) {i:Nat} (hi:i<rs.length):w.cell? ⟨g,i,none⟩=some (.int .i64 rs[i]):=own_cell h.row (zs_at hi)
section
variable {w:World} {r g:Nat} {rs:List Int}
def slE (rs:List Int) (i:Int):Int:=if 0<=i/\i<rs.length then 0 else 17
set_option maxRecDepth 100000 in
theorem rt_check (h:RtAt w r g rs) {b:Nat} {i:Int} (hc:w.cell? ⟨b,0,none⟩=some (.int .i64 i)):Calls Tryz.prog 211 #[.pointer (some ⟨r,0,none⟩),.slice (some ⟨b,0,none⟩) 1 1] w fun e w'=>e=.returned (.int .i64 (slE rs i))/\w=w':=by
 have c0:=h.rcd.cell (j:=0) rfl
 have hle:=h.le
 have hbl:=lt_cell hc
 clear h
 obtain ⟨n,hn⟩:∃ n,n=rs.length:=⟨_,rfl⟩
 unfold slE
 rw [<-hn] at c0 hle ⊢
 rcases (by omega:i<0\/(0<=i/\(n:Int)<=i)\/(0<=i/\i<n)) with h1 | h1 | h1
 ·have d0:decide (i<0)=true:=decide_eq_true h1
  have e0:(if 0<=i/\i<(n:Int) then (0:Int) else 17)=17:=if_neg (by omega)
  rw [e0]
  go_enter Tryz.func211,Tryz.ntmps211
  go_wp2
  go_loopw [11] (fun s11 wr=>wr=w/\s11=.int .i64 0) (fun _ _=>0)
  case atStart=>exact ⟨rfl,rfl⟩
  case round=>
   obtain ⟨rfl,rfl⟩:=hrel
   go_wp2
   go_ret
   exact ⟨rfl,rfl⟩
 ·obtain ⟨h1,h2⟩:=h1
  have d0:decide (i<0)=false:=decide_eq_false (by omega)
  have d1:decide ((n:Int)<=i)=true:=decide_eq_true h2
  have e0:(if 0<=i/\i<(n:Int) then (0:Int) else 17)=17:=if_neg (by omega)
  rw [e0]
  go_enter Tryz.func211,Tryz.ntmps211
  go_wp2
  go_loopw [11] (fun s11 wr=>wr=w/\s11=.int .i64 0) (fun _ _=>0)
  case atStart=>exact ⟨rfl,rfl⟩
  case round=>
   obtain ⟨rfl,rfl⟩:=hrel
   go_wp2
   go_ret
   exact ⟨rfl,rfl⟩
 ·obtain ⟨h1,h2⟩:=h1
  have d0:decide (i<0)=false:=decide_eq_false (by omega)
  have d1:decide ((n:Int)<=i)=false:=decide_eq_false (by omega)
  have e0:(if 0<=i/\i<(n:Int) then (0:Int) else 17)=0:=if_pos ⟨h1,h2⟩
  rw [e0]
  go_enter Tryz.func211,Tryz.ntmps211
  go_wp2
  go_loopw [11] (fun s11 wr=>∃ j:Nat,j<=1/\wr=w/\s11=.int .i64 j) (fun s11 _=>1-(intOf s11).toNat)
  case atStart=>exact ⟨0,by omega,by simp⟩
  case round=>
   obtain ⟨j,hj,rfl,rfl⟩:=hrel
   rcases (by omega:j=0\/j=1) with rfl | rfl
   ·go_wp2
    go_round
    case rel=>exact ⟨1,by omega,trivial,by go_num⟩
    case measure=>simp [intOf]
   ·go_wp2
    go_ret
    exact ⟨rfl,rfl⟩
theorem rt_len (h:RtAt w r g rs):Calls Tryz.prog 149 #[.pointer (some ⟨r,0,none⟩)] w fun e w'=>e=.returned (.int .i64 (rs.length:Nat))/\w=w':=by
 have c0:=h.rcd.cell (j:=0) rfl
 clear h
 go_enter Tryz.func149,Tryz.ntmps149
 go_wp2
 go_ret
 exact ⟨rfl,rfl⟩
set_option maxRecDepth 100000 in
theorem rt_get (h:RtAt w r g rs) {i:Nat} (hi:i<rs.length):Calls Tryz.prog 127 #[.pointer (some ⟨r,0,none⟩),.int .i64 i] w fun e w'=>e=.returned (.tuple #[.int .i64 rs[i],.int .i64 0])/\Gr w w':=by
 have HC:=hid (rt_check (h.gr ((Gr.refl w).alloc (.cells #[.int .i64 i] 3))) (b:=w.heap.size) (i:=i) ((Rec.new w 3 [.int .i64 i]).cell (j:=0) rfl))
 rw [show slE rs i=0 from if_pos ⟨by omega,by omega⟩] at HC
 have h':=h.gr ((Gr.refl w).alloc (.cells #[.int .i64 i] 3))
 have c0:=h'.rcd.cell (j:=0) rfl
 have c1:=h'.cell hi
 have hle:=h'.le
 obtain ⟨x,hx⟩:∃ x,x=rs[i]:=⟨_,rfl⟩
 rw [<-hx] at c1 ⊢
 obtain ⟨n,hn⟩:∃ n,n=rs.length:=⟨_,rfl⟩
 rw [<-hn] at c0 hle hi
 clear h h' hx hn
 go_enter Tryz.func127,Tryz.ntmps127
 go_wp2_with (go_at_call 211;refine HC.out.mono ?_;rintro e w1 ⟨rfl,rfl⟩)
 go_ret2
 exact ⟨rfl,(Gr.refl w).alloc _⟩
set_option maxRecDepth 100000 in
theorem rt_set (h:RtAt w r g rs) {i:Nat} (hi:i<rs.length) {a:Int} (ha:0<=a):Calls Tryz.prog 115 #[.pointer (some ⟨r,0,none⟩),.int .i64 i,.int .i64 a] w fun e w'=>e=.returned (.int .i64 0)/\Touch (fun k=>k=g) w w'/\RtAt w' r g (rs.set i a):=by
 have HC:=hid (rt_check (h.gr ((Gr.refl w).alloc (.cells #[.int .i64 i] 3))) (b:=w.heap.size) (i:=i) ((Rec.new w 3 [.int .i64 i]).cell (j:=0) rfl))
 rw [show slE rs i=0 from if_pos ⟨by omega,by omega⟩] at HC
 have h':=h.gr ((Gr.refl w).alloc (.cells #[.int .i64 i] 3))
 have HR:=hid h'
 have c0:=h'.rcd.cell (j:=0) rfl
 have c1:=h'.cell hi
 have cf:=own_free h'.row i
 have hle:=h'.le
 have d0:decide (a<0)=false:=decide_eq_false (by omega)
 obtain ⟨n,hn⟩:∃ n,n=rs.length:=⟨_,rfl⟩
 rw [<-hn] at c0 hle hi
 clear h h' hn
 go_enter Tryz.func115,Tryz.ntmps115
 go_wp2_with (go_at_call 211;refine HC.out.mono ?_;rintro e w1 ⟨rfl,rfl⟩)
 go_ret
 exact ⟨rfl,Touch.setCell (S:=fun k=>k=g) (((Gr.refl w).alloc _).touch _) (a:=⟨g,i,none⟩) (fun _=>rfl) _,HR.out.set i a⟩
theorem made_ints (n:Nat):(madeCells #[.int .i64 0] n).toList=zs (List.replicate n 0):=by
 unfold madeCells zs
 apply List.ext_getElem
 ·simp
 ·intro i h1 h2
  simp [Nat.mod_one]
theorem infoIntV':(Tryz.prog.info? 3).map (fun i=>(i.zero,i.size,i.bytes))=some (some (.int .i64 0),1,8):=by kernel_rfl
set_option maxRecDepth 100000 in
set_option maxHeartbeats 800000 in
theorem rt_new {n:Nat} (h1:1<=n) (h2:n<=64) (w:World):Calls Tryz.prog 73 #[.int .i64 n] w fun e w'=>∃ r g,e=.returned (.tuple #[.pointer (some ⟨r,0,none⟩),.int .i64 0])/\Gr w w'/\RtAt w' r g (List.replicate n 0)/\w.heap.size<=r/\w.heap.size<=g:=by
 obtain ⟨i0,hi,hz0,hz1,hz2⟩:=info_parts infoIntV'
 have HB:Hid (i0.bytes*n<=281474976710656):=⟨by rw [hz2];omega⟩
 have HM:Hid (n<=maxLen):=⟨by unfold maxLen;omega⟩
 have d0:decide ((n:Int)<1)=false:=decide_eq_false (by omega)
 have d1:decide (64<(n:Int))=false:=decide_eq_false (by omega)
 go_enter Tryz.func73,Tryz.ntmps73
 go_wp2_with (at_make;refine wpList_make_full _ rfl _ _ 40 rfl w.heap.size 3 i0 (.int .i64 0) 1 Tryz.underlying40 hi hz0 hz1 .i64 .i64 _ _ n rfl rfl ?h1 ?h2 HB.out HM.out (Nat.le_refl _) ?h3)
 case h1=>omega
 case h2=>omega
 case h3=>
  intro w1 hown hgrow
  have hg1:Gr w w1:=(grownBy_touch hgrow (fun _=>False) (fun k e _=>by cases e)).gr
  have HO:=hid hown
  have HG:=hid hg1
  clear hown hgrow hg1
  go_wp2
  go_ret2
  obtain ⟨g,c,hv,hg2,-,-⟩:=slice_of_own HO.out (by omega)
  simp only [Value.slice.injEq,Option.some.injEq,Addr.mk.injEq,and_true,true_and] at hv
  have hl:(List.replicate n (0:Int)).length=n:=List.length_replicate
  refine ⟨w1.heap.size,w.heap.size,ret2 rfl rfl,HG.out.alloc _,⟨?_,?_,fun e=>?_,by rw [hl];exact h2⟩,HG.out.size,Nat.le_refl _⟩
  ·rw [hl];exact Rec.new w1 _ _
  ·rw [hl]
   have:=own_gr (own_zero HO.out) ((Gr.refl w1).alloc (.cells #[.slice (some ⟨w.heap.size,0,none⟩) n n] 246))
   rw [made_ints] at this
   exact this
  ·have:=congrArg List.length e
   rw [hl] at this
   simp at this
   omega
set_option maxRecDepth 100000 in
set_option maxHeartbeats 800000 in
theorem clone_ints {n b cap:Nat} {l:List Int} (hn:n=l.length) (hn0:n≠0) (hb:b<w.heap.size) (hc:∀ i (h:i<l.length),w.cell? ⟨b,i,none⟩=some (.int .i64 l[i])) (hl:n<=64):
  Calls Tryz.prog 183 #[.slice (some ⟨b,0,none⟩) n cap] w fun e w'=>∃ g c,e=.returned (.slice (some ⟨g,0,none⟩) n c)/\Gr w w'/\w.heap.size<=g/\w'.ownsRow 0 3 1 (.slice (some ⟨g,0,none⟩) n c) n (zs l):=by
 obtain ⟨i0,hi,hz0,hz1,hz2⟩:=info_parts infoIntV'
 have hsn:=Lib.run_eql_slice_nil (P:=Tryz.prog) w 40 3 (some ⟨b,0,none⟩) n cap 0 0 Tryz.underlying40
 have hown:(w.alloc (.cells #[] 3)).ownsRow w.heap.size 3 1 (.slice (some ⟨w.heap.size,0,none⟩) 0 0) 0 []:=
  ⟨rfl,.inr ⟨w.heap.size,0,#[],rfl,Nat.le_refl _,heap_alloc_new w _,Nat.le_refl _,by unfold maxLen;omega,rfl,rfl⟩⟩
 have hcell:∀ (j:Nat) (u:Value),(zs l)[j]?=some u->(w.alloc (.cells #[] 3)).cell? (Addr.add ⟨b,0,none⟩ j)=some u:=fun j u hj=>by
  have hjl:j<l.length:=by
   rcases Nat.lt_or_ge j l.length with h | h
   ·exact h
   ·rw [List.getElem?_eq_none (by simpa [zs] using h)] at hj;cases hj
  rw [zs_at hjl] at hj
  cases hj
  have e:Addr.add ⟨b,0,none⟩ j=⟨b,j,none⟩:=by unfold Addr.add;split <;> simp_all
  rw [e,World.cell?_alloc_lt (h:=hb),hc j hjl]
 have h1c:∀ u∈zs l,u.oneCell'=true:=fun u hu=>by
  obtain ⟨i,_,rfl⟩:=List.mem_map.1 hu;rfl
 have HO:=hid hown
 have HC:=hid hcell
 have H1:=hid h1c
 have HL:=hid (show n=(zs l).length by rw [hn];simp [zs])
 have HN0:=hid hn0
 clear hown hcell h1c hn0 hc hn
 go_enter Tryz.func183,Tryz.ntmps183
 go_wp2_with (at_builtin;(refine wpList_append_own _ rfl _ _ 40 rfl w.heap.size 3 i0 (.int .i64 0) 1 8 Tryz.underlying40 hi hz0 hz1 hz2 rfl (by decide) _ _ _ rfl HO.out ⟨b,0,none⟩ n cap (zs l) rfl (by rw [<-HL.out];omega) HC.out H1.out (by unfold maxLen;omega) (by omega) (by simp) ?_);intro v' w1 hown1 hgrow _;obtain ⟨g,c,hv,hg1,hg2,hg3⟩:=slice_of_own hown1 (by have:=HN0.out;omega);subst hv)
 go_ret
 have hgrow':(w.alloc (.cells #[] 3)).grownBy w1 (some w.heap.size):=hgrow
 refine ⟨g,c,by simp,?_,hg1,by simpa using own_zero hown1⟩
 refine Touch.gr ((((Gr.refl w).alloc _).touch _).trans' (grownBy_touch hgrow' (fun k=>k=w.heap.size) (fun k e _=>by cases e;rfl)) ?_)
 rintro i hi rfl;omega
set_option maxRecDepth 100000 in
theorem rt_all (h:RtAt w r g rs):Calls Tryz.prog 84 #[.pointer (some ⟨r,0,none⟩)] w fun e w'=>∃ g c,e=.returned (.slice (some ⟨g,0,none⟩) rs.length c)/\Gr w w'/\w.heap.size<=g/\w'.ownsRow 0 3 1 (.slice (some ⟨g,0,none⟩) rs.length c) rs.length (zs rs):=by
 have c0:=h.rcd.cell (j:=0) rfl
 have HCL:=hid (clone_ints (w:=w) (b:=g) (cap:=rs.length) rfl (fun e=>h.ne (List.eq_nil_of_length_eq_zero e)) h.lt.2 (fun i hi=>h.cell hi) h.le)
 clear h
 go_enter Tryz.func84,Tryz.ntmps84
 go_wp2_with (go_at_call 183;refine HCL.out.mono ?_;rintro e w1 ⟨g1,c1,rfl,hg1,hg2,ho⟩;have HG1:=hid hg1;have HG2:=hid hg2;have HO1:=hid ho;clear hg1 hg2 ho)
 go_ret
 exact ⟨g1,c1,rfl,HG1.out,HG2.out,HO1.out⟩
end
end Go.Proofs.YthgdadohijgleaaGreatDoor
end
section
namespace Go.Proofs.YthgdadohijgleaaGreatDoor
open Go.RowKit Word
section
variable {w:World} {r g:Nat} {rs:List Int}
def TurnStep (g r:Nat) (rs:List Int) (i:Nat) (out:List Int) (J:Nat->World->List Int->Prop) (e:Ending) (W':World):Prop:=
 ∃ b:Int,e=.returned (.int .i64 b)/\RtAt W' r g (out++rs.drop i)/\∀ W'',Touch (fun k=>k=g) W' W''->J (i+1) W'' (out++[max b 0])
theorem rt_split {out rs:List Int} {i:Nat} (hi:i<rs.length) (ho:out.length=i) (b:Int):(out++rs.drop i).set i b=(out++[b])++rs.drop (i+1):=by
 subst ho
 rw [List.set_append_right _ _ (Nat.le_refl _),Nat.sub_self,List.drop_eq_getElem_cons hi,List.set_cons_zero,List.append_assoc]
 rfl
theorem rt_at {out rs:List Int} {i:Nat} (hi:i<rs.length) (ho:out.length=i) (h:i<(out++rs.drop i).length):(out++rs.drop i)[i]=rs[i]:=by
 subst ho
 simp
set_option maxRecDepth 100000 in
set_option maxHeartbeats 3200000 in
theorem rt_turn {F:Nat} {pre caps:Array Value} (J:Nat->World->List Int->Prop) (hcf:∀ args w,(callFunc F args).run Tryz.prog w=.ok (.enter F args) w)
  (h:RtAt w r g rs) (h0:J 0 w [])
  (hz:∀ i (hi:i<rs.length) W out,out.length=i->J i W out->rs[i]=0->J (i+1) W (out++[0]))
  (hF:∀ i (hi:i<rs.length) W out,out.length=i->J i W out->RtAt W r g (out++rs.drop i)->rs[i]≠0->∀ W0,Gr W W0->Calls Tryz.prog F (pre++#[.int .i64 rs[i]]++caps) W0 (TurnStep g r rs i out J)):
  Calls Tryz.prog 108 #[.pointer (some ⟨r,0,none⟩),.func (.func F) pre caps] w fun e w'=>e=.returned (.tuple #[])/\∃ out,out.length=rs.length/\J rs.length w' out/\RtAt w' r g out:=by
 have hle:=h.le
 obtain ⟨n,hn⟩:∃ n,n=rs.length:=⟨_,rfl⟩
 have c0:=h.rcd.cell (j:=0) rfl
 have HN:=hid hn
 have HR:=hid h
 have HJ0:=hid h0
 have HZ:=hid hz
 have HF:=hid hF
 rw [<-hn] at c0 hle ⊢
 clear h h0 hz hF hn
 go_enter Tryz.func108,Tryz.ntmps108
 go_wp2
 go_loopw [13] (fun s13 wr=>∃ (i:Nat) (out:List Int),i<=n/\Hid (out.length=i)/\Hid (J i wr out)/\Hid (RtAt wr r g (out++rs.drop i))/\s13=.int .i64 i) (fun s13 _=>n-(intOf s13).toNat)
 case atStart=>exact ⟨0,[],by omega,⟨rfl⟩,HJ0,HR,rfl⟩
 case round=>
  obtain ⟨i,out,hi,HO,HJ,HT,rfl⟩:=hrel
  clear c0
  by_cases hlast:i=n
  ·subst hlast
   go_wp2
   refine bodyPost_end (results_none rfl _ _ _) rfl ?_
   refine ⟨rfl,out,HO.out,HJ.out,?_⟩
   have:=HT.out
   rw [HN.out,List.drop_length,List.append_nil] at this
   exact this
  ·have hil:i<rs.length:=by have:=HN.out;omega
   have hlen:(out++rs.drop i).length=n:=by have:=HO.out;have:=HN.out;simp;omega
   have hiI:(i:Int)<(n:Int):=by omega
   have c1:=HT.out.cell (i:=i) (by rw [hlen];omega)
   rw [rt_at hil HO.out] at c1
   obtain ⟨a,ha⟩:∃ a,a=rs[i]:=⟨_,rfl⟩
   have HA:=hid ha
   have HIL:=hid hil
   have HLL:=hid hlen
   have HNL:=hid hlast
   rw [<-ha] at c1
   clear ha hlast
   by_cases ha0:a=0
   ·subst ha0
    clear hlen
    go_wp2
    go_round
    case rel=>
     refine ⟨i+1,out++[0],by have:=HNL.out;omega,⟨by have:=HO.out;simp [this]⟩,⟨HZ.out i HIL.out _ out HO.out HJ.out HA.out.symm⟩,⟨?_⟩,by go_num⟩
     have:=HT.out
     rw [List.drop_eq_getElem_cons HIL.out,<-HA.out] at this
     simpa using this
    case measure=>have:=HNL.out;simp [intOf];omega
   ·have d0:(a !=0)=true:=by simpa using ha0
    have HCALL:=hid (HF.out i HIL.out wr out HO.out HJ.out HT.out (by rw [<-HA.out];exact ha0) _ (Gr.refl wr).drew)
    rw [<-HA.out] at HCALL
    unfold TurnStep at HCALL
    have y0:=HT.out.rcd.cell (j:=0) rfl
    rw [hlen] at y0
    have hrl:=HT.out.lt
    clear hlen
    go_upto_region 5 with (fail)
    obtain ⟨Sx,hSx⟩:∃ Sx:World->Prop,Sx=fun W'=>W'.cell? ⟨r,0,none⟩=some (.slice (some ⟨g,0,none⟩) n n):=⟨_,rfl⟩
    have x0:∀ p':Held Sx,p'.w.cell? ⟨r,0,none⟩=some (.slice (some ⟨g,0,none⟩) n n):=fun p'=>Held.get hSx p'
    have hS0:Sx wr.drew:=by rw [hSx];exact y0
    have HSX:=hid hSx
    clear hSx
    have inst:Inhabited (Held Sx):=⟨⟨_,hS0⟩⟩
    have hmax:=run_maxB2 Tryz.prog
    refine wp_region_mixS Sx 10 [([0,1,2,3,4,5,6],7),([8,9],10)] [] (by kernel_rfl) (by kernel_rfl) hS0 ?_
    refine segs_step ?_
    simp only [opsAt,List.getElem?_cons_zero,List.getElem?_cons_succ]
    repeat (go_big_quiet_step (fail))
    refine wpQuiet_nil ?_
    go_wp2_with (refine HCALL.out.mono ?_;rintro e w3 ⟨b,rfl,hr3,hj3⟩;have HR3:=hid hr3;have HJ3:=hid hj3;have z0:=hr3.rcd.cell (j:=0) rfl;have z1:=hr3.cell (i:=i) (by rw [HLL.out];have:=HNL.out;omega);have zf:=own_free hr3.row i;rw [HLL.out] at z0;clear hr3 hj3)
    refine ⟨.inr (Held.of (by rw [HSX.out];exact z0)),?_⟩
    refine segs_step ?_
    simp only [opsAt,List.getElem?_cons_zero,List.getElem?_cons_succ]
    repeat (go_big_quiet_step (fail))
    refine wpQuiet_nil ?_
    go_wp2
    refine ⟨.inl trivial,?_⟩
    refine segs_end ?_
    refine wpQuiet_nil ?_
    refine NoPanic.normal ?_
    clear x0 hS0 inst
    go_wp2
    go_round
    case rel=>
     refine ⟨i+1,out++[max b 0],by have:=HNL.out;omega,⟨by have:=HO.out;simp [this]⟩,⟨HJ3.out _ ?_⟩,⟨?_⟩,by go_num⟩
     ·exact Touch.setCell (S:=fun k=>k=g) (Touch.refl _ _) (a:=⟨g,i,none⟩) (fun _=>rfl) _
     ·have:=HR3.out.set i (max b 0)
      rw [rt_split HIL.out HO.out] at this
      exact this
    case measure=>have:=HNL.out;simp [intOf];omega
end
end Go.Proofs.YthgdadohijgleaaGreatDoor
end
end
section
namespace Go.Proofs.YthgdadohijgleaaGreatDoor
open Go.RowKit Word
def LaidC.starts (x:LaidC) (k:Nat):List Int:=(List.range k).map fun j=>((x.at j:Nat):Int)
theorem LaidC.starts_at (x:LaidC) {k j:Nat} (h:j<k):(zs (x.starts k))[j]?=some (.int .i64 ((x.at j:Nat):Int)):=by
 unfold LaidC.starts zs
 rw [List.getElem?_map,List.getElem?_map,List.getElem?_range h];rfl
theorem LaidC.starts_succ (x:LaidC) (k:Nat):zs (x.starts (k+1))=zs (x.starts k)++[.int .i64 ((x.at k:Nat):Int)]:=by
 unfold LaidC.starts zs
 rw [List.range_succ,List.map_append,List.map_append];rfl
section
variable {w:World}
set_option maxRecDepth 100000 in
theorem lay_put {x:LaidC} {A:Option Addr} {cp K:Nat} (hO:w.ownsRow 0 3 1 (.slice A K cp) K (zs (x.starts K))) (hK:K=x.k) (hK2:K<=512) {i:Nat} (hi:i<256):
  Calls Tryz.prog 148 #[.slice A K cp,.int .u8 i] w fun e w'=>e=.returned (.int .i64 (x.put i:Nat))/\w=w':=by
 have g1:((i:Int)).tmod 8=((i%8:Nat):Int):=rfl
 have g1':((i:Int))%8=((i%8:Nat):Int):=rfl
 have hwr:IntKind.u8.wrap ((i%8:Nat):Int)=((i%8:Nat):Int):=by
  have:i%8<8:=Nat.mod_lt _ (by decide)
  exact IntWalk.u8_in _ (by omega)
 have hP:x.put i=if i%8=7\/K=0 then 0 else x.at (i%K):=by unfold LaidC.put LaidC.at;rw [hK]
 obtain ⟨r,hr⟩:∃ r,r=i%8:=⟨_,rfl⟩
 rw [<-hr] at g1 g1' hwr hP
 by_cases h7:r=7
 ·have d0:((r:Int)==7)=true:=by simp;omega
  rw [hP,if_pos (.inl h7)]
  clear hP hr hO hK
  go_enter Tryz.func148,Tryz.ntmps148
  go_wp2
  go_ret
  exact ⟨rfl,rfl⟩
 ·have d0:((r:Int)==7)=false:=by simp;omega
  by_cases h0:K=0
  ·have d1:((K:Int)==0)=true:=by simp;omega
   rw [hP,if_pos (.inr h0)]
   clear hP hr hO hK
   go_enter Tryz.func148,Tryz.ntmps148
   go_wp2
   go_ret
   exact ⟨rfl,rfl⟩
  ·have d1:((K:Int)==0)=false:=by simp;omega
   rw [hP,if_neg (fun h=>h.elim h7 h0)]
   obtain ⟨g,c',ea,-,-,-,hgl⟩:=own_form hO h0
   simp only [Value.slice.injEq] at ea
   obtain ⟨rfl,-,rfl⟩:=ea
   have hlt:i%K<K:=Nat.mod_lt _ (by omega)
   have kc:=own_cell hO (x.starts_at hlt)
   have m1:((i:Int)).tmod (K:Int)=((i%K:Nat):Int):=rfl
   have m1':((i:Int))%(K:Int)=((i%K:Nat):Int):=rfl
   obtain ⟨z,hz⟩:∃ z,z=i%K:=⟨_,rfl⟩
   rw [<-hz] at hlt kc m1 m1' ⊢
   generalize x.at z=y at *
   have hKz:(K:Int)≠0:=by omega
   have hzI:(z:Int)<(K:Int):=by omega
   have hwi:IntKind.i64.wrap (i:Int)=(i:Int):=IntWalk.i64_in _ (by omega)
   clear hP hr hO hK hz
   go_enter Tryz.func148,Tryz.ntmps148
   go_wp2
   go_ret
   exact ⟨rfl,rfl⟩
set_option maxRecDepth 100000 in
set_option maxHeartbeats 800000 in
theorem lay_room (x:LaidC) (w:World):Calls Tryz.prog 145 #[cfV x.cf,.int .i64 (x.page:Nat)] w fun e w'=>e=.returned (.int .i64 (x.room:Nat))/\Gr w w':=by
 have hpp:=x.page_pos
 have htop:=x.top_le
 have hrm:=x.room_le
 obtain ⟨fr,hfr⟩:∃ n,n=x.page:=⟨_,rfl⟩
 obtain ⟨tp,htp⟩:∃ n,n=x.top:=⟨_,rfl⟩
 obtain ⟨bk,hbk⟩:∃ n,n=2 ^ (x.bk%8):=⟨_,rfl⟩
 obtain ⟨ah,hah⟩:∃ n,n=x.ah%5:=⟨_,rfl⟩
 have hbk2:bk<=128:=by have:=pow8 x.bk;omega
 have hah2:ah<5:=by rw [hah];exact Nat.mod_lt _ (by decide)
 have hR:x.room=(tp-fr+fr-1)/fr+(ah+1)*max 1 (bk/fr)+1:=by rw [hfr,htp,hbk,hah];rfl
 have hC:cfV x.cf=.agg #[.int .i64 fr,.int .i64 tp,.int .i64 ((fr+512:Nat):Int),.int .i64 ((fr+1024:Nat):Int),.int .i64 bk,.int .i64 ((x.st%20+1:Nat):Int),.int .i64 ah]:=by rw [hfr,htp,hbk,hah];rfl
 obtain ⟨d,hd⟩:∃ d,d=(tp-fr+fr-1)/fr:=⟨_,rfl⟩
 obtain ⟨e,he⟩:∃ e,e=bk/fr:=⟨_,rfl⟩
 obtain ⟨m,hm⟩:∃ m,m=(ah+1)*max 1 e:=⟨_,rfl⟩
 rw [hC,hR,<-hd,<-he,<-hm,<-hfr]
 rw [<-hfr,<-htp] at htop
 rw [<-hfr] at hpp
 have hfr0:(fr:Int)≠0:=by omega
 have a1:(tp:Int)-(fr:Int)+(fr:Int)-1=((tp-fr+fr-1:Nat):Int):=by omega
 have a1':(tp:Int)-1=((tp-fr+fr-1:Nat):Int):=by omega
 have a2:((tp:Int)-1).tdiv (fr:Int)=(d:Int):=by rw [a1',hd];rfl
 have a3:((tp:Int)-1)/(fr:Int)=(d:Int):=by rw [a1',hd];rfl
 have b1:(bk:Int).tdiv (fr:Int)=(e:Int):=by rw [he];rfl
 have b2:(bk:Int)/(fr:Int)=(e:Int):=by rw [he];rfl
 have hmx:max 1 (e:Int)=((max 1 e:Nat):Int):=by omega
 have hm2:((ah:Int)+1)*((max 1 e:Nat):Int)=(m:Int):=by rw [hm];push_cast;rfl
 have hdb:d<=600:=by have:=Nat.div_le_self (tp-fr+fr-1) fr;omega
 have heb:e<=128:=by have:=Nat.div_le_self bk fr;omega
 have hmb:m<=640:=by rw [hm];exact Nat.le_trans (Nat.mul_le_mul (by omega:ah+1<=5) (by omega:max 1 e<=128)) (by decide)
 have hmb1:max 1 e<=128:=by omega
 have hmax:=run_maxB2 Tryz.prog
 obtain ⟨mx,hmxe⟩:∃ mx,mx=max 1 e:=⟨_,rfl⟩
 rw [<-hmxe] at hmx hm2 hmb1
 generalize ((x.st%20+1:Nat):Int)=st
 generalize ((fr+512:Nat):Int)=t1
 generalize ((fr+1024:Nat):Int)=t2
 have rb:=Rec.new w 106 [.int .i64 fr,.int .i64 tp,.int .i64 t1,.int .i64 t2,.int .i64 bk,.int .i64 st,.int .i64 ah]
 have z0:=rb.cell (j:=0) rfl
 have z1:=rb.cell (j:=1) rfl
 have z4:=rb.cell (j:=4) rfl
 have z6:=rb.cell (j:=6) rfl
 clear hR hC hd he hm hmxe hfr htp hbk hah hrm rb a1 a1'
 go_enter Tryz.func145,Tryz.ntmps145
 go_upto_region 1 with (fail)
 obtain ⟨W1,hW1⟩:∃ W1,W1=w.alloc (.cells #[.int .i64 fr,.int .i64 tp,.int .i64 t1,.int .i64 t2,.int .i64 bk,.int .i64 st,.int .i64 ah] 106):=⟨_,rfl⟩
 have HG:Hid (Gr w W1):=⟨by rw [hW1];exact (Gr.refl w).alloc _⟩
 rw [show w.alloc (.cells ([.int .i64 fr,.int .i64 tp,.int .i64 t1,.int .i64 t2,.int .i64 bk,.int .i64 st,.int .i64 ah]:List Value).toArray 106)=W1 from hW1.symm] at z0 z1 z4 z6
 rw [<-hW1]
 clear hW1
 obtain ⟨Sx,hSx⟩:∃ Sx:World->Prop,Sx=fun W'=>(W'.cell? ⟨w.heap.size,0,none⟩=some (.int .i64 fr)/\W'.cell? ⟨w.heap.size,1,none⟩=some (.int .i64 tp))/\W'.cell? ⟨w.heap.size,4,none⟩=some (.int .i64 bk)/\W'.cell? ⟨w.heap.size,6,none⟩=some (.int .i64 ah):=⟨_,rfl⟩
 have x0:∀ p:Held Sx,p.w.cell? ⟨w.heap.size,0,none⟩=some (.int .i64 fr):=fun p=>(Held.get hSx p).1.1
 have x1:∀ p:Held Sx,p.w.cell? ⟨w.heap.size,1,none⟩=some (.int .i64 tp):=fun p=>(Held.get hSx p).1.2
 have x4:∀ p:Held Sx,p.w.cell? ⟨w.heap.size,4,none⟩=some (.int .i64 bk):=fun p=>(Held.get hSx p).2.1
 have x6:∀ p:Held Sx,p.w.cell? ⟨w.heap.size,6,none⟩=some (.int .i64 ah):=fun p=>(Held.get hSx p).2.2
 have hS0:Sx W1.drew:=by rw [hSx];exact ⟨⟨z0,z1⟩,z4,z6⟩
 have inst:Inhabited (Held Sx):=⟨⟨_,hS0⟩⟩
 clear hSx z0 z1 z4 z6
 refine wp_region_mixS Sx 22 [] [0,1,2,3,4,5,6,7,8,9,10,11,12,13,14,15,16,17,18,19,20,21] (by kernel_rfl) (by kernel_rfl) hS0 ?_
 refine segs_end ?_
 simp only [opsAt,List.getElem?_cons_zero,List.getElem?_cons_succ]
 repeat (go_big_quiet_step (fail))
 refine wpQuiet_nil ?_
 refine NoPanic.normal ?_
 clear x0 x1 x4 x6 hS0 inst
 clear Sx
 go_wp2
 go_ret
 exact ⟨ret_int (by push_cast;rfl),HG.out.drew⟩
end
end Go.Proofs.YthgdadohijgleaaGreatDoor
end
section
section
namespace Go.Proofs.YthgdadohijgleaaGreatDoor
open Go.RowKit Word
def nbl (n B:Nat):Nat:=(n+B-1)/B
theorem nbl_eq {n B j:Nat} (hB:1<=B) (h1:n<=j*B) (h2:∀ i,i<j->i*B<n):nbl n B=j:=by
 unfold nbl
 refine Nat.div_eq_of_lt_le ?_ ?_
 ·cases j with
  | zero=>simp
  | succ i=>
   have:=h2 i (by omega)
   rw [Nat.succ_mul];omega
 ·rw [Nat.succ_mul];omega
theorem nbl_lt {n B j:Nat} (hB:1<=B):j<nbl n B↔j*B<n:=by
 unfold nbl
 constructor
 ·intro h
  have h2:=(Nat.le_div_iff_mul_le (by omega:0<B)).1 (show j+1<=(n+B-1)/B from h)
  rw [Nat.succ_mul] at h2;omega
 ·intro h
  show j+1<=_
  rw [Nat.le_div_iff_mul_le (by omega),Nat.succ_mul];omega
set_option maxRecDepth 100000 in
set_option maxHeartbeats 800000 in
theorem ref_may12 (n:Int) (w:World):Calls Tryz.prog 76 #[.int .i64 n] w fun e w'=>e=.returned (.bool (blockOk n))/\w=w':=by
 go_enter Tryz.func76,Tryz.ntmps76
 go_wp2
 go_loop [3] (fun i=>∃ k:Nat,k∈[1,2,4,8,16,32,64,128,256,512,1024,2048]/\Hid (∀ j:Nat,j<k->j∈[1,2,4,8,16,32,64,128,256,512,1024,2048]->n≠j)/\i=.int .i64 k) (fun i=>2049-(intOf i).toNat)
 case atStart=>exact ⟨1,by decide,⟨fun j h1 h2=>by simp at h2;omega⟩,rfl⟩
 case round=>
  obtain ⟨k,hk,hno,rfl⟩:=hrel
  have hk1:1<=k/\k<=2048:=by simp at hk;omega
  by_cases hle:k<=1024
  ·by_cases hn:n=k
   ·have hok:blockOk n=true:=by rw [hn];simp at hk;rcases hk with rfl | rfl | rfl | rfl | rfl | rfl | rfl | rfl | rfl | rfl | rfl | rfl <;> first | rfl | omega
    have hb:((k:Int)==n)=true:=by simp;omega
    subst hn
    have HK:=hid hok
    clear hok hno hk
    go_wp2
    go_ret
    exact ⟨ret_bool HK.out.symm,rfl⟩
   ·have hb:((k:Int)==n)=false:=by simp;omega
    have hn':(k:Int)≠n:=fun h=>hn h.symm
    have hk2:Hid (k*2∈[1,2,4,8,16,32,64,128,256,512,1024,2048]):=⟨by simp at hk ⊢;omega⟩
    have hno2:Hid (∀ j:Nat,j<k*2->j∈[1,2,4,8,16,32,64,128,256,512,1024,2048]->n≠j):=⟨fun j h1 h2=>by
     by_cases e:j<k
     ·exact hno.out j e h2
     ·have:j=k:=by simp at hk h2;omega
      rw [this];exact hn⟩
    clear hno hk hn
    go_wp2
    go_round
    case rel=>exact ⟨k*2,hk2.out,hno2,by go_num⟩
    case measure=>simp [intOf];omega
  ·have hok:Hid (blockOk n=false):=⟨by
    cases h:blockOk n with
    | false=>rfl
    | true=>
     have hp:=blockOk_pos h
     exact absurd (show n=(n.toNat:Int) by omega) (hno.out n.toNat (by simp at hk;omega) (by simp [blockOk] at h ⊢;omega))⟩
   clear hno hk
   go_wp2
   go_ret
   exact ⟨ret_bool hok.out.symm,rfl⟩
end Go.Proofs.YthgdadohijgleaaGreatDoor
end
section
namespace Go.Proofs.YthgdadohijgleaaGreatDoor
open Go.RowKit Word
end Go.Proofs.YthgdadohijgleaaGreatDoor
end
section
namespace Go.Proofs.YthgdadohijgleaaGreatDoor
open Go.RowKit Word
structure Idx (w:World) (x p b a:Nat) (l:List Bool) (B:Nat):Prop where
 vec:Vec w p b l
 b1:1<=B
 b2:B<=1024
 hx:x<w.heap.size
 ha:a<w.heap.size
 c0:w.cell? ⟨x,0,none⟩=some (.pointer (some ⟨p,0,none⟩))
 c1:∃ cap,w.cell? ⟨x,1,none⟩=some (.slice (some ⟨a,0,none⟩) (nbl l.length B) cap)
 c2:w.cell? ⟨x,2,none⟩=some (.int .i64 B)
 c3:w.cell? ⟨x,3,none⟩=some (.int .i64 (cnt (at_ l) l.length:Nat))
 ca:∀ j,j<nbl l.length B->w.cell? ⟨a,j,none⟩=some (.int .i64 (cnt (at_ l) (j*B):Nat))
theorem Idx.touch {S:Nat->Prop} {w w':World} {x p b a:Nat} {l:List Bool} {B:Nat} (h:Idx w x p b a l B) (t:Touch S w w') (h1:¬ S x) (h2:¬ S p) (h3:¬ S b) (h4:¬ S a):Idx w' x p b a l B:=by
 obtain ⟨cap,hc⟩:=h.c1
 exact ⟨h.vec.touch t h2 h3,h.b1,h.b2,Nat.lt_of_lt_of_le h.hx t.size,Nat.lt_of_lt_of_le h.ha t.size,by rw [t.cell h.hx h1];exact h.c0,⟨cap,by rw [t.cell h.hx h1];exact hc⟩,by rw [t.cell h.hx h1];exact h.c2,
  by rw [t.cell h.hx h1];exact h.c3,fun j hj=>by rw [t.cell h.ha h4];exact h.ca j hj⟩
theorem Idx.gr {w w':World} {x p b a:Nat} {l:List Bool} {B:Nat} (h:Idx w x p b a l B) (t:Gr w w'):Idx w' x p b a l B:=h.touch (t.touch (fun _=>False)) (fun h=>h) (fun h=>h) (fun h=>h) (fun h=>h)
theorem nbl_le {n B:Nat} (h:1<=B):nbl n B<=n:=by
 rcases Nat.lt_or_ge n (nbl n B) with h1 | h1
 ·have:=(nbl_lt h).1 h1
  have h2:n*1<=n*B:=Nat.mul_le_mul_left n h
  omega
 ·exact h1
theorem rank_ones {w:World} {x p b a:Nat} {l:List Bool} {B:Nat} (hX:Idx w x p b a l B):
  Calls Tryz.prog 325 #[.pointer (some ⟨x,0,none⟩)] w fun e w'=>e=.returned (.int .i64 (cnt (at_ l) l.length:Nat))/\w=w':=by
 have c3:=hX.c3
 have HX:=hid hX
 clear hX
 go_enter Tryz.func325,Tryz.ntmps325
 go_wp2
 go_ret
 exact ⟨rfl,rfl⟩
end Go.Proofs.YthgdadohijgleaaGreatDoor
end
section
namespace Go.Proofs.YthgdadohijgleaaGreatDoor
open Go.RowKit Word
theorem countL_none (l:List Bool) {b:Int} (h:b<=0):countL l 0 b=0:=by
 rw [countL_eq]
 unfold cntI
 have:cnt (fun i=>decide ((0:Int)<=(i:Nat)/\((i:Nat):Int)<b)&&at_ l i) l.length=cnt (fun _=>false) l.length:=cnt_congr (fun i _=>by rw [decide_eq_false (by omega)];rfl)
 rw [this]
 generalize l.length=n
 induction n with
 | zero=>rfl
 | succ n ih=>rw [cnt_succ,ih];rfl
set_option maxRecDepth 100000 in
set_option maxHeartbeats 1600000 in
theorem rank_before {w:World} {x p b a:Nat} {l:List Bool} {B:Nat} (hX:Idx w x p b a l B) (i:Int):
  Gets Tryz.prog 351 #[.pointer (some ⟨x,0,none⟩),.int .i64 i] w (.int .i64 (countL l 0 i:Nat)):=by
 have HX:=hid hX
 have k0:=hX.c0
 have k2:=hX.c2
 have k3:=hX.c3
 obtain ⟨cap,k1⟩:=hX.c1
 have n2:=hX.vec.n2
 clear hX
 unfold Gets
 by_cases h0:i<=0
 ·have d0:decide (i<=0)=true:=by simp [h0]
  rw [countL_none l h0]
  clear k0 k1 k2 k3
  go_enter Tryz.func351,Tryz.ntmps351
  go_wp2
  go_ret
  exact ⟨rfl,Gr.refl _⟩
 ·obtain ⟨r,rfl⟩:∃ r:Nat,i=r:=⟨i.toNat,by omega⟩
  have hr:0<r:=by omega
  have d0:decide ((r:Int)<=0)=false:=by simp;omega
  by_cases h1:l.length<=r
  ·have d1:decide (l.length<=r)=true:=by simp [h1]
   rw [countL_all l (by omega)]
   obtain ⟨N,hN⟩:∃ N,N=cnt (at_ l) l.length:=⟨_,rfl⟩
   rw [<-hN] at k3 ⊢
   clear hN k1 k2
   go_enter Tryz.func351,Tryz.ntmps351
   go_wp2_with (go_at_call 278;refine (len_vec HX.out.vec).mono ?_;rintro e w1 ⟨rfl,rfl⟩)
   go_ret
   exact ⟨rfl,Gr.refl _⟩
  ·have d1:decide (l.length<=r)=false:=by simp;omega
   obtain ⟨j,hj⟩:∃ j,j=r/B:=⟨_,rfl⟩
   have hB:=HX.out.b1
   have hB2:=HX.out.b2
   have hjr:j*B<=r:=by rw [hj];exact Nat.div_mul_le_self r B
   have hjn:j<nbl l.length B:=(nbl_lt hB).2 (by omega)
   have ka:=HX.out.ca j hjn
   have q1:((r:Int).tdiv (B:Int))=(j:Int):=by rw [hj];rfl
   have q2:((r:Int)/(B:Int))=(j:Int):=by rw [hj];rfl
   obtain ⟨t,ht⟩:∃ t,t=j*B:=⟨_,rfl⟩
   have ht':(j:Int)*(B:Int)=(t:Int):=by rw [ht,Int.natCast_mul]
   have hs:=countL_add l (a:=0) (b:=(t:Int)) (c:=(r:Int)) (by omega) (by omega)
   have hu:=countL_upto l (r:=t) (by omega)
   rw [<-ht] at ka
   rw [hu] at hs
   obtain ⟨c1,hc1⟩:∃ c,c=cnt (at_ l) t:=⟨_,rfl⟩
   obtain ⟨c2,hc2⟩:∃ c,c=countL l (t:Int) (r:Int):=⟨_,rfl⟩
   obtain ⟨c3,hc3⟩:∃ c,c=countL l 0 (r:Int):=⟨_,rfl⟩
   have hb1:c1<=1048576:=by have:=cnt_le (at_ l) t;omega
   have hb2:c2<=1048576:=by have:=cnt_le (inRun l (t:Int) (r:Int)) l.length;unfold countL at hc2;omega
   rw [<-hc1] at ka hs
   rw [<-hc2,<-hc3] at hs
   rw [<-hc3]
   obtain ⟨N,hN⟩:∃ N,N=nbl l.length B:=⟨_,rfl⟩
   rw [<-hN] at hjn k1
   have HNn:=hid hN
   have htb:(t:Int)<=1048576:=by omega
   have hBp:(B:Int)≠0:=by omega
   have H2:=hid hc2.symm
   have HS:=hid hs
   clear hc1 hc2 hc3 hN hj ht hu hs hjr k3
   have hjb:(j:Int)<N:=by omega
   have hjl:j<=1048576:=by have:=nbl_le (n:=l.length) hB;have:=HNn.out;omega
   have w3:IntKind.i64.wrap ((j:Int)*(B:Int))=(t:Int):=by rw [ht',IntWalk.i64_in _ (by omega)]
   have w4:IntKind.i64.wrap ((c1:Int)+(c2:Int))=(c3:Int):=by rw [HS.out,IntWalk.i64_in _ (by have:=HS.out;omega)]
   have z0:∀ xs m,(grow w xs m).cell? ⟨x,0,none⟩=some (.pointer (some ⟨p,0,none⟩)):=fun xs m=>((grown w xs m).cell HX.out.hx 0).trans k0
   have z1:∀ xs m,(grow w xs m).cell? ⟨x,1,none⟩=some (.slice (some ⟨a,0,none⟩) N cap):=fun xs m=>((grown w xs m).cell HX.out.hx 1).trans k1
   have z2:∀ xs m,(grow w xs m).cell? ⟨x,2,none⟩=some (.int .i64 B):=fun xs m=>((grown w xs m).cell HX.out.hx 2).trans k2
   have z4:∀ xs m,(grow w xs m).cell? ⟨a,j,none⟩=some (.int .i64 c1):=fun xs m=>((grown w xs m).cell HX.out.ha j).trans ka
   go_enter Tryz.func351,Tryz.ntmps351
   go_upto_region 6 with (go_at_call 278;refine (len_vec HX.out.vec).mono ?_;rintro e w1 ⟨rfl,rfl⟩)
   refine wp_region_by (by kernel_rfl) (by kernel_rfl) ?_
   repeat (go_big_quiet_step (first
    | (go_at_call 372;have hc:=fun xs m=>count_vec (HX.out.vec.gr (grown w xs m)) (t:Int) (r:Int) (by omega);simp only [H2.out] at hc;exact Gets.grown (hc _ _))))
   refine wpQuiet_nil ?_
   intro _ hw'
   obtain ⟨⟨xs,nq⟩,hw''⟩:=hw'
   subst hw''
   go_wp2
   go_ret
   exact ⟨by first | rfl | exact ret_int HS.out,grown w _ _⟩
end Go.Proofs.YthgdadohijgleaaGreatDoor
end
section
namespace Go.Proofs.YthgdadohijgleaaGreatDoor
open Go.RowKit Word
set_option maxRecDepth 100000 in
set_option maxHeartbeats 1600000 in
theorem search_any (g:FuncId) (b1 b2:Addr) (n:Nat) (hn:n<=1048576) (t:Nat->Bool) (w:World)
  (hg:∀ args W,(callFunc g args).run Tryz.prog W=.ok (.enter g args) W)
  (hm:∀ i j,i<=j->j<n->t i=true->t j=true)
  (hf:∀ i W,i<n->Gr w W->Calls Tryz.prog g #[.int .i64 (i:Nat),.pointer (some b1),.pointer (some b2)] W (fun e W'=>e=.returned (.bool (t i))/\Gr W W')):
  Gets Tryz.prog 361 #[.int .i64 n,.func (.func g) #[] #[.pointer (some b1),.pointer (some b2)]] w (.int .i64 (first t n:Nat)):=by
 have HF:=hid hf
 have HM:=hid hm
 clear hf hm
 unfold Gets
 go_enter Tryz.func361,Tryz.ntmps361
 go_wp2
 go_loopw [5,6] (fun x y wr=>∃ lo hi:Nat,lo<=hi/\hi<=n/\Hid (∀ i,i<lo->t i=false)/\Hid (hi<n->t hi=true)/\Hid (Gr w wr)/\x=.int .i64 lo/\y=.int .i64 hi) (fun x y _=>(intOf y).toNat-(intOf x).toNat)
 case atStart=>exact ⟨0,n,by omega,by omega,⟨fun i h=>by omega⟩,⟨fun h=>by omega⟩,⟨Gr.refl _⟩,rfl,rfl⟩
 case round=>
  obtain ⟨lo,hi,h1,h2,hl,hh,hG,rfl,rfl⟩:=hrel
  by_cases hlt:lo<hi
  ·obtain ⟨m,hmid⟩:∃ m,m=(lo+hi)/2:=⟨_,rfl⟩
   have hm1:lo<=m/\m<hi:=by omega
   have q1:((lo:Int)+(hi:Int))/2=(m:Int):=by omega
   clear hmid
   cases ht:t m with
   | false=>
    have HC:=hid (HF.out m wr (by omega) hG.out)
    have HN:=hid ht
    go_wp2_with (refine HC.out.mono ?_;rintro e W2 ⟨rfl,h2⟩;rw [HN.out];have HG2:=hid (hG.out.trans h2);clear h2)
    go_roundw
    case rel=>
     refine ⟨m+1,hi,by omega,by omega,⟨fun i hi'=>?_⟩,hh,HG2,by go_num,rfl⟩
     cases hti:t i with
     | false=>rfl
     | true=>have:=HM.out i m (by omega) (by omega) hti;rw [HN.out] at this;cases this
    case measure=>simp [intOf];omega
   | true=>
    have HC:=hid (HF.out m wr (by omega) hG.out)
    have HN:=hid ht
    go_wp2_with (refine HC.out.mono ?_;rintro e W2 ⟨rfl,h2⟩;rw [HN.out];have HG2:=hid (hG.out.trans h2);clear h2)
    go_roundw
    case rel=>exact ⟨lo,m,by omega,by omega,hl,⟨fun _=>HN.out⟩,HG2,rfl,by go_num⟩
    case measure=>simp [intOf];omega
  ·obtain rfl:lo=hi:=by omega
   have E:=hid (first_eq h2 hl.out hh.out)
   go_wp2
   go_ret
   exact ⟨ret_int (by rw [E.out]),hG.out⟩
end Go.Proofs.YthgdadohijgleaaGreatDoor
end
section
namespace Go.Proofs.YthgdadohijgleaaGreatDoor
open Go.RowKit Word
theorem next_pick (l:List Bool) {a q:Nat} (h:cnt (at_ l) a=q):nextL l (a:Int)=pickL l q:=by
 obtain ⟨j,hj⟩:∃ j,j=nextL l (a:Int):=⟨_,rfl⟩
 have hle:j<=l.length:=by rw [hj];exact first_le _ _
 have hno:∀ i,i<j->¬ (at_ l i=true/\a<=i):=fun i hi hc=>by
  have:=first_not (fun i=>at_ l i&&decide ((a:Int)<=i)) l.length i (by rw [hj] at hi;exact hi)
  simp [hc.1] at this;omega
 rw [<-hj]
 rcases Nat.lt_or_ge j l.length with hlt | hge
 ·have hat:=first_at (fun i=>at_ l i&&decide ((a:Int)<=i)) l.length (by rw [hj] at hlt;exact hlt)
  have hat':at_ l j=true/\(a:Int)<=j:=by
   have e:first (fun i=>at_ l i&&decide ((a:Int)<=i)) l.length=j:=hj.symm
   rw [e] at hat;simpa using hat
  have hc:cnt (at_ l) j=q:=by
   rw [<-h]
   exact cnt_ext (by omega) (fun i h1 h2=>by
    cases hi:at_ l i with
    | false=>rfl
    | true=>exact absurd ⟨hi,h1⟩ (hno i h2))
  exact (pickF_eq hlt hat'.1 hc).symm
 ·have:cnt (at_ l) l.length<=q:=by
   rw [<-h]
   rcases Nat.lt_or_ge a l.length with h1 | h1
   ·rw [cnt_ext (m:=a) (by omega) (fun i h2 h3=>by
     cases hi:at_ l i with
     | false=>rfl
     | true=>exact absurd ⟨hi,h2⟩ (hno i (by omega)))]
    exact Nat.le_refl _
   ·exact cnt_mono _ h1
  rw [pick_all_none this];omega
theorem next_after {l:List Bool} {q:Nat} (h:q<cnt (at_ l) l.length):nextL l ((pickL l q:Int)+1)=pickL l (q+1):=by
 obtain ⟨h1,h2,h3⟩:=pick_lt_all h
 have:=next_pick l (a:=pickL l q+1) (q:=q+1) (by rw [cnt_succ,h2,h3];rfl)
 rw [<-this];rfl
set_option maxRecDepth 100000 in
set_option maxHeartbeats 1600000 in
theorem rank_pick1 {w:World} {x p b a:Nat} {l:List Bool} {B:Nat} (hX:Idx w x p b a l B) (bx bk:Addr) (k:Nat) (hbx:w.cell? bx=some (.pointer (some ⟨x,0,none⟩))) (hbk:w.cell? bk=some (.int .i64 k))
  (i:Nat) (hi:i<nbl l.length B):
  Calls Tryz.prog 362 #[.int .i64 i,.pointer (some bx),.pointer (some bk)] w fun e w'=>e=.returned (.bool (decide (k<cnt (at_ l) (i*B))))/\Gr w w':=by
 obtain ⟨cap,c1⟩:=hX.c1
 have ca:=hX.ca i hi
 have n2:=hX.vec.n2
 have hN:=nbl_le (n:=l.length) hX.b1
 obtain ⟨N,hN'⟩:∃ N,N=nbl l.length B:=⟨_,rfl⟩
 obtain ⟨C,hC⟩:∃ C,C=cnt (at_ l) (i*B):=⟨_,rfl⟩
 rw [<-hN'] at c1 hi hN
 rw [<-hC] at ca ⊢
 have hi':(i:Int)<(N:Int):=by omega
 have hi0:(0:Int)<=(i:Int):=by omega
 have hN2:N<=1048576:=by omega
 clear hX hN' hC hN n2
 go_enter Tryz.func362,Tryz.ntmps362
 go_upto_region 1 with (fail)
 go_quiet (fail)
 go_wp2
 go_ret
 exact ⟨ret_bool (by simp),(Gr.refl w).drewN _⟩
end Go.Proofs.YthgdadohijgleaaGreatDoor
end
section
namespace Go.Proofs.YthgdadohijgleaaGreatDoor
open Go.RowKit Word
theorem block_of (l:List Bool) {B k:Nat} (hB:1<=B) (hk:k<cnt (at_ l) l.length):
  ∃ j,first (fun i=>decide (k<cnt (at_ l) (i*B))) (nbl l.length B)=j+1/\j<nbl l.length B/\cnt (at_ l) (j*B)<=k:=by
 obtain ⟨f,hf⟩:∃ f,f=first (fun i=>decide (k<cnt (at_ l) (i*B))) (nbl l.length B):=⟨_,rfl⟩
 have hle:f<=nbl l.length B:=by rw [hf];exact first_le _ _
 have hn:0<l.length:=by
  rcases Nat.eq_zero_or_pos l.length with h | h
  ·rw [h,cnt_zero] at hk;omega
  ·exact h
 have hN:0<nbl l.length B:=(nbl_lt hB).2 (by omega)
 have h0:f≠0:=fun h=>by
  have:=first_at (fun i=>decide (k<cnt (at_ l) (i*B))) (nbl l.length B) (by rw [<-hf,h];exact hN)
  rw [<-hf,h] at this
  simp [cnt_zero] at this
 obtain ⟨j,rfl⟩:∃ j,f=j+1:=⟨f-1,by omega⟩
 refine ⟨j,hf.symm,by omega,?_⟩
 have:=first_not (fun i=>decide (k<cnt (at_ l) (i*B))) (nbl l.length B) j (by rw [<-hf];omega)
 simpa using this
theorem box2 {w:World} (u v:Value) (T1 T2:TypeId):
  Gr w ((w.alloc (.cells #[u] T1)).alloc (.cells #[v] T2))/\((w.alloc (.cells #[u] T1)).alloc (.cells #[v] T2)).cell? ⟨w.heap.size,0,none⟩=some u/\((w.alloc (.cells #[u] T1)).alloc (.cells #[v] T2)).cell? ⟨w.heap.size+1,0,none⟩=some v:=by
 refine ⟨((Gr.refl w).alloc _).alloc _,?_,?_⟩
 ·rw [World.cell?_alloc_lt (h:=by simp)];exact World.cell?_alloc_new ..
 ·have h:=World.cell?_alloc_new (w:=w.alloc (.cells #[u] T1)) (c:=#[v]) (t:=T2) (i:=0)
  rw [World.size_alloc] at h
  exact h
set_option maxRecDepth 100000 in
set_option maxHeartbeats 1600000 in
theorem rank_pick_low {w:World} (x:Nat) (q:Int) (hq:q<0):Gets Tryz.prog 328 #[.pointer (some ⟨x,0,none⟩),.int .i64 q] w (.tuple #[.int .i64 0,.bool false]):=by
 have d0:decide (q<0)=true:=by simp [hq]
 unfold Gets
 go_enter Tryz.func328,Tryz.ntmps328
 go_upto_region 1 with (fail)
 obtain ⟨hg,c1,c2⟩:=box2 (w:=w) (.pointer (some ⟨x,0,none⟩)) (.int .i64 q) 397 3
 generalize (w.alloc (.cells #[.pointer (some ⟨x,0,none⟩)] 397)).alloc (.cells #[.int .i64 q] 3)=W2 at *
 go_quiet (fail)
 go_wp2
 go_ret2
 exact ⟨ret2 rfl rfl,hg.drewN _⟩
set_option maxRecDepth 100000 in
set_option maxHeartbeats 1600000 in
theorem rank_pick_high {w:World} {x p b a:Nat} {l:List Bool} {B:Nat} (hX:Idx w x p b a l B) (q:Nat) (hq:cnt (at_ l) l.length<=q):
  Gets Tryz.prog 328 #[.pointer (some ⟨x,0,none⟩),.int .i64 q] w (.tuple #[.int .i64 0,.bool false]):=by
 obtain ⟨N,hN⟩:∃ N,N=cnt (at_ l) l.length:=⟨_,rfl⟩
 have k3:=hX.c3
 rw [<-hN] at k3 hq
 have hx:=hX.hx
 have d0:decide ((q:Int)<0)=false:=by simp
 have d1:decide (N<=q)=true:=by simp [hq]
 clear hX hN hq
 unfold Gets
 go_enter Tryz.func328,Tryz.ntmps328
 go_upto_region 1 with (fail)
 obtain ⟨hg,c1,c2⟩:=box2 (w:=w) (.pointer (some ⟨x,0,none⟩)) (.int .i64 q) 397 3
 generalize (w.alloc (.cells #[.pointer (some ⟨x,0,none⟩)] 397)).alloc (.cells #[.int .i64 q] 3)=W2 at *
 have c3:=(hg.cell hx 3).trans k3
 go_quiet (fail)
 go_wp2
 go_ret2
 exact ⟨ret2 rfl rfl,hg.drewN _⟩
theorem call_pick1 (args:Array Value) (W:World):(callFunc 362 args).run Tryz.prog W=.ok (.enter 362 args) W:=by kernel_rfl
set_option maxRecDepth 100000 in
set_option maxHeartbeats 1600000 in
theorem rank_pick_in {w:World} {x p b a:Nat} {l:List Bool} {B:Nat} (hX:Idx w x p b a l B) (hT:TabAt w) (k:Nat) (hk:k<cnt (at_ l) l.length):
  Gets Tryz.prog 328 #[.pointer (some ⟨x,0,none⟩),.int .i64 k] w (.tuple #[.int .i64 (pickL l k:Nat),.bool true]):=by
 have HX:=hid hX
 have HT:=hid hT
 have HK:=hid hk
 obtain ⟨j,hj1,hj2,hj3⟩:=block_of l hX.b1 hk
 obtain ⟨N,hN⟩:∃ N,N=cnt (at_ l) l.length:=⟨_,rfl⟩
 have k0:=hX.c0
 have k2:=hX.c2
 have k3:=hX.c3
 obtain ⟨cap,k1⟩:=hX.c1
 have ka:=hX.ca j hj2
 have hx:=hX.hx
 have n2:=hX.vec.n2
 have hNb:=nbl_le (n:=l.length) hX.b1
 have hb2:=hX.b2
 rw [<-hN] at k3
 have hNk:k<N:=by rw [hN];exact hk
 have hNl:N<=l.length:=by rw [hN];exact cnt_le _ _
 have d0:decide ((k:Int)<0)=false:=by simp
 have d1:decide (N<=k)=false:=by simp;omega
 have hkb:k<=1048576:=by omega
 have hjl:j*B<l.length:=(nbl_lt hX.b1).1 hj2
 obtain ⟨t,ht⟩:∃ t,t=j*B:=⟨_,rfl⟩
 rw [<-ht] at hjl ka hj3
 obtain ⟨c,hc⟩:∃ c,c=cnt (at_ l) t:=⟨_,rfl⟩
 rw [<-hc] at ka hj3
 have hw3:IntKind.i64.wrap ((j:Int)*(B:Int))=(t:Int):=by rw [show (j:Int)*(B:Int)=(t:Int) by rw [ht,Int.natCast_mul],IntWalk.i64_in _ (by omega)]
 have HE0:=hid (next_pick l hc.symm)
 have HP:Hid (∀ n,n<=k->pickL l n<l.length):=⟨fun n hn=>(pick_lt_all (l:=l) (q:=n) (by omega)).1⟩
 have HNX:Hid (∀ n,n<=k->nextL l ((pickL l n:Int)+1)=pickL l (n+1)):=⟨fun n hn=>next_after (by omega)⟩
 obtain ⟨M,hM⟩:∃ M,M=nbl l.length B:=⟨_,rfl⟩
 have HFI:=hid hj1
 rw [<-hM] at k1 hj2 hNb
 have HM:=hid hM
 have hjM:(j:Int)<M:=by omega
 clear hX hk hN ht hc hj1 hM hT hNl
 unfold Gets
 go_enter Tryz.func328,Tryz.ntmps328
 go_upto_region 1 with (fail)
 obtain ⟨hg,c1,c2⟩:=box2 (w:=w) (.pointer (some ⟨x,0,none⟩)) (.int .i64 k) 397 3
 generalize (w.alloc (.cells #[.pointer (some ⟨x,0,none⟩)] 397)).alloc (.cells #[.int .i64 k] 3)=W2 at *
 have z0:=(hg.cell hx 0).trans k0
 have z1:=(hg.cell hx 1).trans k1
 have z2:=(hg.cell hx 2).trans k2
 have z3:=(hg.cell hx 3).trans k3
 have K1:=hid k1
 clear k0 k1 k2 k3
 have HG:=hid hg
 have HC:=hid (And.intro c1 c2)
 clear hg
 go_quiet (fail)
 have HS:=hid (search_any 362 ⟨w.heap.size,0,none⟩ ⟨w.heap.size+1,0,none⟩ M (by omega) (fun i=>decide (k<cnt (at_ l) (i*B))) (W2.drewN nq) call_pick1
  (fun i i' h1 h2 h3=>by
   have:=cnt_mono (at_ l) (Nat.mul_le_mul_right B h1)
   simp at h3 ⊢;omega)
  (fun i W hi hgW=>rank_pick1 (HX.out.gr ((HG.out.drewN nq).trans hgW)) _ _ k (by
    rw [hgW.cell (b:=w.heap.size) (by have:=lt_cell HC.out.1;exact this)];exact HC.out.1) (by
    rw [hgW.cell (b:=w.heap.size+1) (by have:=lt_cell HC.out.2;exact this)];exact HC.out.2) i (by rw [<-HM.out];exact hi)))
 rw [HM.out,HFI.out,<-HM.out] at HS
 have hmf:∀ (fn:Fn) (first cap:Array Value) (w:World),(Instr.makeFunc fn first cap).run Tryz.prog w=.ok (.func fn first cap) w:=fun _ _ _ _=>rfl
 go_upto_region 4 with (go_at_call 361;refine HS.out.mono ?_;rintro e W3 ⟨rfl,h3⟩;have HG3:=hid (HG.out.trans (((Gr.refl W2).drewN nq).trans h3));have y0:=(h3.cell (b:=w.heap.size) (lt_cell HC.out.1) 0).trans HC.out.1;have y1:=(h3.cell (b:=w.heap.size+1) (lt_cell HC.out.2) 0).trans HC.out.2;clear h3)
 have v0:=(HG3.out.cell hx 0).trans HX.out.c0
 have v2:=(HG3.out.cell hx 2).trans HX.out.c2
 have v1:W3.cell? ⟨x,1,none⟩=some (.slice (some ⟨a,0,none⟩) M cap):=by
  exact (HG3.out.cell hx 1).trans K1.out
 have va:W3.cell? ⟨a,j,none⟩=some (.int .i64 c):=(HG3.out.cell HX.out.ha j).trans ka
 have HV3:=hid (HX.out.vec.gr HG3.out)
 have HT3:=hid (HG3.out.tab HT.out.lt HT.out)
 have hc0:=HP.out c hj3
 have HN:Hid (∀ n,Calls Tryz.prog 330 #[.pointer (some ⟨p,0,none⟩),.int .i64 t] (W3.drewN n) fun e w'=>e=.returned (.tuple #[.int .i64 (pickL l c:Nat),.bool true])/\w'=W3.drewN n):=⟨fun n=>
  (next_vec (HV3.out.gr ((Gr.refl W3).drewN n)) (((Gr.refl W3).drewN n).tab HT3.out.lt HT3.out) t).mono fun e w' ⟨he,hw⟩=>⟨by rw [he,HE0.out,valN_yes hc0,decide_eq_true hc0],hw.symm⟩⟩
 clear z0 z1 z2 z3 ka HS
 go_quiet ((go_at_call 330;exact Calls.quiet_of_same (HN.out _)))
 go_wp2
 go_loop [7,9] (fun s7 s9=>∃ n:Nat,c<=n/\n<=k/\s7=.int .i64 (pickL l n:Nat)/\s9=.int .i64 n) (fun _ s9=>k-(intOf s9).toNat)
 case atStart=>exact ⟨c,Nat.le_refl _,hj3,rfl,rfl⟩
 case round=>
  obtain ⟨n,hn1,hn2,rfl,rfl⟩:=hrel
  have hp:=HP.out n hn2
  obtain ⟨r,hr⟩:∃ r,r=pickL l n:=⟨_,rfl⟩
  have HE:=HNX.out n hn2
  rw [<-hr] at hp HE ⊢
  by_cases hlt:n<k
  ·have hp':=HP.out (n+1) (by omega)
   have HE':=hid HE
   have HR:=hid (And.intro (valN_yes hp') (decide_eq_true hp'))
   clear hr HE hp'
   go_wp2_with (go_at_call 330;refine (next_vec (HV3.out.gr ((Gr.refl W3).drewN _)) (((Gr.refl W3).drewN _).tab HT3.out.lt HT3.out) _).mono ?_;rintro e w' ⟨rfl,rfl⟩;rw [HE'.out,HR.out.1,HR.out.2])
   go_round
   case rel=>exact ⟨n+1,by omega,by omega,rfl,by go_num⟩
   case measure=>simp [intOf];omega
  ·obtain rfl:n=k:=by omega
   have HR:=hid hr
   clear hr HE
   go_wp2
   go_ret2
   exact ⟨ret2 (by rw [HR.out];rfl) rfl,HG3.out.drewN _⟩
theorem rank_pick {w:World} {x p b a:Nat} {l:List Bool} {B:Nat} (hX:Idx w x p b a l B) (hT:TabAt w) (q:Int):
  Gets Tryz.prog 328 #[.pointer (some ⟨x,0,none⟩),.int .i64 q] w (.tuple #[.int .i64 (pickV l q),.bool (pickB l q)]):=by
 by_cases h:q<0
 ·have e1:pickV l q=0:=by unfold pickV;rw [if_pos h]
  have e2:pickB l q=false:=by unfold pickB;rw [decide_eq_false (by omega)];rfl
  rw [e1,e2]
  exact rank_pick_low x q h
 ·obtain ⟨k,rfl⟩:∃ k:Nat,q=k:=⟨q.toNat,by omega⟩
  have e1:pickV l k=valN l.length (pickL l k):=by unfold pickV;rw [if_neg h,Int.toNat_natCast]
  have e2:pickB l k=decide (pickL l k<l.length):=by unfold pickB;rw [decide_eq_true (by omega),Int.toNat_natCast];rfl
  rw [e1,e2]
  rcases Nat.lt_or_ge k (cnt (at_ l) l.length) with hk | hk
  ·have:=(pick_lt_all hk).1
   rw [valN_yes this,decide_eq_true this]
   exact rank_pick_in hX hT k hk
  ·have:=pick_all_none hk
   rw [this,valN_no (by omega),decide_eq_false (by omega)]
   exact rank_pick_high hX k hk
end Go.Proofs.YthgdadohijgleaaGreatDoor
end
section
namespace Go.Proofs.YthgdadohijgleaaGreatDoor
open Go.RowKit Word
theorem infoInt:(Tryz.prog.info? 3).map (fun i=>(i.zero,i.size,i.bytes))=some (some (.int .i64 0),1,8):=by kernel_rfl
def NewIdx (w:World) (l:List Bool) (B:Nat) (e:Ending) (w':World):Prop:=
 ∃ x p b a,e=.returned (.tuple #[.pointer (some ⟨x,0,none⟩),.int .i64 0])/\Gr w w'/\Idx w' x p b a l B/\w.heap.size<=x/\w.heap.size<=p/\w.heap.size<=b/\w.heap.size<=a
def aheads (l:List Bool) (B k:Nat):List Value:=(List.range k).map fun j=>Value.int .i64 (cnt (at_ l) (j*B):Nat)
theorem aheads_succ (l:List Bool) (B k:Nat):aheads l B (k+1)=aheads l B k++[.int .i64 (cnt (at_ l) (k*B):Nat)]:=by
 unfold aheads;rw [List.range_succ,List.map_append];rfl
structure NewAt (w:World) (l:List Bool) (B X p b BASE k m:Nat) (v:Value) (wr:World):Prop where
 gr:Gr w wr
 vec:Vec wr p b l
 own:wr.ownsRow BASE 3 1 v k (aheads l B k)
 c0:wr.cell? ⟨X,0,none⟩=some (.pointer (some ⟨p,0,none⟩))
 c1:wr.cell? ⟨X,1,none⟩=some v
 c2:wr.cell? ⟨X,2,none⟩=some (.int .i64 B)
 c3:wr.cell? ⟨X,3,none⟩=some (.int .i64 (countL l 0 (m*B:Nat):Nat))
 free:∀ o,wr.frozen? ⟨X,o,none⟩=false
 lt:X<BASE
 ltp:p<X
 ltb:b<X
 ge:w.heap.size<=p/\w.heap.size<=b
 base:BASE<=wr.heap.size
theorem NewAt.far {w:World} {l:List Bool} {B X p b BASE k m:Nat} {v:Value} {wr:World} (h:NewAt w l B X p b BASE k m v wr):v.ownBlock≠some X:=fun e=>by
 have:=(own_lt h.own e).1;have:=h.lt;omega
theorem NewAt.grow {w:World} {l:List Bool} {B X p b BASE k m:Nat} {v:Value} {wr wr':World} (h:NewAt w l B X p b BASE k m v wr) (g:Gr wr wr'):NewAt w l B X p b BASE k m v wr':=by
 have hX:X<wr.heap.size:=by have:=h.lt;have:=h.base;omega
 exact ⟨h.gr.trans g,h.vec.gr g,own_gr h.own g,(g.cell hX 0).trans h.c0,(g.cell hX 1).trans h.c1,(g.cell hX 2).trans h.c2,(g.cell hX 3).trans h.c3,fun o=>(g.frozen hX o).trans (h.free o),h.lt,h.ltp,h.ltb,h.ge,Nat.le_trans h.base g.size⟩
theorem NewAt.append {w:World} {l:List Bool} {B X p b BASE k m:Nat} {v:Value} {wr w1:World} (h:NewAt w l B X p b BASE k m v wr) {g c:Nat}
  (hown:w1.ownsRow BASE 3 1 (.slice (some ⟨g,0,none⟩) (k+1) c) (k+1) (aheads l B (k+1))) (hgrow:wr.grownBy w1 v.ownBlock):
  NewAt w l B X p b BASE (k+1) m (.slice (some ⟨g,0,none⟩) (k+1) c) (w1.setCell ⟨X,1,none⟩ (.slice (some ⟨g,0,none⟩) (k+1) c)):=by
 have hX:X<wr.heap.size:=by have:=h.lt;have:=h.base;omega
 have t:Touch (fun i=>v.ownBlock=some i) wr w1:=grown_touch hgrow _ (fun k e _=>e)
 have t2:Touch (fun i=>i=X) w1 (w1.setCell ⟨X,1,none⟩ (.slice (some ⟨g,0,none⟩) (k+1) c)):=(Touch.refl (fun i=>i=X) w1).setCell (a:=⟨X,1,none⟩) (fun _=>rfl) _
 have far:∀ i,i<BASE->v.ownBlock≠some i:=fun i hi e=>by have:=(own_lt h.own e).1;omega
 have hX1:X<w1.heap.size:=Nat.lt_of_lt_of_le hX t.size
 have e:∀ o,w1.cell? ⟨X,o,none⟩=wr.cell? ⟨X,o,none⟩:=fun o=>t.cell hX (far X h.lt) o
 have o:∀ o,o≠1->(w1.setCell ⟨X,1,none⟩ (.slice (some ⟨g,0,none⟩) (k+1) c)).cell? ⟨X,o,none⟩=wr.cell? ⟨X,o,none⟩:=fun o ho=>by
  rw [World.cell?_setCell_other (h:=by intro e2;injection e2 with _ e3;omega),e o]
 have hp:=h.ltp
 have hb:=h.ltb
 have hl:=h.lt
 refine ⟨?_,?_,?_,(o 0 (by omega)).trans h.c0,?_,(o 2 (by omega)).trans h.c2,(o 3 (by omega)).trans h.c3,?_,h.lt,h.ltp,h.ltb,h.ge,Nat.le_trans h.base (Nat.le_trans t.size t2.size)⟩
 ·refine (((h.gr.touch (fun _=>False)).trans' t (fun i hi e=>?_)).trans' t2 (fun i hi e=>?_)).gr
  ·have:=(own_lt h.own e).1;have:=h.ge;omega
  ·have e:i=X:=e;have:=h.ge;omega
 ·exact (h.vec.touch t (far p (by omega)) (far b (by omega))).touch t2 (by omega) (by omega)
 ·refine own_touch hown t2 (fun i hi e=>?_)
  have e:i=X:=e
  have:=(own_lt hown hi).1;omega
 ·exact World.cell?_setCell_same (h:=(e 1).trans h.c1) ..
 ·intro o
  rw [World.frozen?_setCell,t.frozen hX (far X h.lt)];exact h.free o
theorem NewAt.count {w:World} {l:List Bool} {B X p b BASE k m:Nat} {v:Value} {wr:World} (h:NewAt w l B X p b BASE k m v wr) {m':Nat} {z:Int} (hz:z=(countL l 0 (m' * B:Nat):Nat)):
  NewAt w l B X p b BASE k m' v (wr.setCell ⟨X,3,none⟩ (.int .i64 z)):=by
 have hX:X<wr.heap.size:=by have:=h.lt;have:=h.base;omega
 have t2:Touch (fun i=>i=X) wr (wr.setCell ⟨X,3,none⟩ (.int .i64 z)):=(Touch.refl (fun i=>i=X) wr).setCell (a:=⟨X,3,none⟩) (fun _=>rfl) _
 have hp:=h.ltp
 have hb:=h.ltb
 have hl:=h.lt
 have o:∀ o,o≠3->(wr.setCell ⟨X,3,none⟩ (.int .i64 z)).cell? ⟨X,o,none⟩=wr.cell? ⟨X,o,none⟩:=fun o ho=>by
  rw [World.cell?_setCell_other (h:=by intro e2;injection e2 with _ e3;omega)]
 refine ⟨?_,h.vec.touch t2 (by omega) (by omega),?_,(o 0 (by omega)).trans h.c0,(o 1 (by omega)).trans h.c1,(o 2 (by omega)).trans h.c2,?_,?_,h.lt,h.ltp,h.ltb,h.ge,Nat.le_trans h.base t2.size⟩
 ·refine ((h.gr.touch (fun _=>False)).trans' t2 (fun i hi e=>?_)).gr
  have e:i=X:=e;have:=h.ge;omega
 ·refine own_touch h.own t2 (fun i hi e=>?_)
  have e:i=X:=e
  have:=(own_lt h.own hi).1;omega
 ·rw [hz];exact World.cell?_setCell_same (h:=h.c3) ..
 ·intro o
  rw [World.frozen?_setCell];exact h.free o
theorem NewAt.done {w:World} {l:List Bool} {B X p b BASE k:Nat} {v:Value} {wr:World} (h:NewAt w l B X p b BASE k k v wr) (h1:1<=B) (h2:B<=1024) (hk:k=nbl l.length B) (hl:l.length<=k*B):
  ∃ a,Idx wr X p b a l B/\w.heap.size<=a:=by
 have hn:=h.vec.n1
 have hk0:k≠0:=by rintro rfl;omega
 obtain ⟨g,c,rfl,hg1,hg2,hg3,hg4⟩:=own_form h.own hk0
 have:=h.lt
 have hb:=h.base
 refine ⟨g,⟨h.vec,h1,h2,by omega,hg4,h.c0,⟨c,by rw [h.c1,hk]⟩,h.c2,?_,fun j hj=>?_⟩,by have:=h.ge;have:=h.ltp;omega⟩
 ·rw [h.c3,countL_all l (by omega)]
 ·refine own_cell h.own ?_
  unfold aheads
  rw [List.getElem?_map,List.getElem?_range (by omega)];rfl
set_option maxRecDepth 100000 in
set_option maxHeartbeats 800000 in
theorem new_start {w w1:World} {l:List Bool} {B q r:Nat} {T:TypeId} (hg:Gr w w1) (hV:Vec w1 q r l) (h1:w.heap.size<=q) (h2:w.heap.size<=r):
  NewAt w l B w1.heap.size q r (w1.heap.size+1) 0 0 (.slice none 0 0) (w1.alloc (.cells #[.pointer (some ⟨q,0,none⟩),.slice none 0 0,.int .i64 B,.int .i64 0] T)):=by
 have hp:=hV.hp
 have hb:=hV.hb
 refine ⟨hg.alloc _,hV.gr ((Gr.refl w1).alloc _),own_nil _ _ _ _,World.cell?_alloc_new ..,World.cell?_alloc_new ..,World.cell?_alloc_new ..,?_,fun o=>World.frozen?_alloc_new ..,by omega,hp,hb,⟨h1,h2⟩,by simp⟩
 rw [show countL l 0 ((0*B:Nat):Int)=0 from countL_none l (by simp)]
 exact World.cell?_alloc_new ..
set_option maxRecDepth 100000 in
set_option maxHeartbeats 800000 in
theorem rank_new_bad {w:World} {p b:Nat} {l:List Bool} (hV:Vec w p b l) (n:Int) (hn:blockOk n=false) (hn2:n<=9223372036854775807):
  Calls Tryz.prog 347 #[.pointer (some ⟨p,0,none⟩),.int .i64 n] w fun e w'=>e=.returned (.tuple #[.pointer none,.int .i64 5])/\w=w':=by
 have n1:((l.length:Int)==0)=false:=by have:=hV.n1;exact beq_eq_false_iff_ne.2 (by omega)
 have HV:=hid hV
 rw [blockOk_eq] at hn
 cases hp:powB n with
 | false=>
  have HP:=hid hp
  clear hp hn hV
  go_enter Tryz.func347,Tryz.ntmps347
  go_wp2_with (first
   | (go_at_call 278;refine (len_vec HV.out).mono ?_;rintro e w1 ⟨rfl,rfl⟩)
   | (go_at_call 173;refine (power_any n hn2 _).mono ?_;rintro e w1 ⟨rfl,rfl⟩;rw [HP.out]))
  go_ret2
  exact ⟨ret2 rfl rfl,rfl⟩
 | true=>
  rw [hp] at hn
  have d1:decide ((1024:Int)<n)=true:=by simp at hn;simp;omega
  have HP:=hid hp
  clear hp hn hV
  go_enter Tryz.func347,Tryz.ntmps347
  go_wp2_with (first
   | (go_at_call 278;refine (len_vec HV.out).mono ?_;rintro e w1 ⟨rfl,rfl⟩)
   | (go_at_call 173;refine (power_any n hn2 _).mono ?_;rintro e w1 ⟨rfl,rfl⟩;rw [HP.out]))
  go_ret2
  exact ⟨ret2 rfl rfl,rfl⟩
set_option maxRecDepth 100000 in
set_option maxHeartbeats 3200000 in
theorem rank_new_in {w:World} {p b:Nat} {l:List Bool} (hV:Vec w p b l) (B:Nat) (hB:blockOk B=true):
  Calls Tryz.prog 347 #[.pointer (some ⟨p,0,none⟩),.int .i64 B] w (NewIdx w l B):=by
 have n1:((l.length:Int)==0)=false:=by have:=hV.n1;exact beq_eq_false_iff_ne.2 (by omega)
 have n2:=hV.n2
 have hb:=blockOk_pos hB
 have hb1:1<=B:=by omega
 have hb2:B<=1024:=by omega
 have d1:decide ((1024:Int)<(B:Int))=false:=by simp;omega
 have HP:Hid (powB B=true):=⟨by rw [blockOk_eq] at hB;simp at hB;exact hB.1⟩
 obtain ⟨i0,hi,hz0,hz1,hz2⟩:=info_parts infoInt
 have HV:=hid hV
 clear hV hB hb
 go_enter Tryz.func347,Tryz.ntmps347
 go_wp2_with (first
  | (go_at_call 278;refine (len_vec HV.out).mono ?_;rintro e w1 ⟨rfl,rfl⟩)
  | (go_at_call 173;refine (power_any B (by omega) _).mono ?_;rintro e w1 ⟨rfl,rfl⟩;rw [HP.out])
  | (go_at_call 371;refine (copy_vec HV.out).mono ?_;rintro e w1 ⟨q,r,rfl,hg1,hV1,hq1,hq2⟩))
 have HN0:=hid (new_start (B:=B) (T:=430) hg1 hV1 hq1 hq2)
 generalize w1.alloc (.cells #[.pointer (some ⟨q,0,none⟩),.slice none 0 0,.int .i64 B,.int .i64 0] 430)=W2 at *
 obtain ⟨X,hX⟩:∃ X,X=w1.heap.size:=⟨_,rfl⟩
 rw [<-hX] at HN0 ⊢
 clear hX
 clear hg1 hV1 hq1 hq2
 go_loopw [7] (fun s7 wr=>∃ k t v,Hid (NewAt w l B X q r (X+1) k k v wr)/\Hid (t=k*B)/\k<=t/\t<=1048576+1024/\Hid (∀ i,i<k->i*B<l.length)/\s7=.int .i64 (t:Nat)) (fun s7 _=>1048576+1025-(intOf s7).toNat)
 case atStart=>exact ⟨0,0,_,HN0,⟨by simp⟩,by omega,by omega,⟨fun i h=>by omega⟩,rfl⟩
 case round=>
  obtain ⟨k,t,v,HN,ht,hkt,htb,hno,rfl⟩:=hrel
  by_cases hlt:t<l.length
  ·have HNo:Hid (∀ i,i<k+1->i*B<l.length):=⟨fun i h=>by
    rcases Nat.lt_or_ge i k with h1 | h1
    ·exact hno.out i h1
    ·rw [show i=k by omega,<-ht.out];exact hlt⟩
   have HT2:Hid (t+B=(k+1)*B):=⟨by rw [Nat.succ_mul,ht.out]⟩
   go_upto_region 9 with (go_at_call 278;refine (len_vec (HV.out.gr HN.out.gr)).mono ?_;rintro e w1 ⟨rfl,rfl⟩)
   have c1:=HN.out.c1
   obtain ⟨c,hc⟩:∃ c,c=countL l 0 (k*B:Nat):=⟨_,rfl⟩
   have c3:=HN.out.c3
   have fr:=HN.out.free 1
   rw [<-hc] at c3
   have hca:aheads l B (k+1)=aheads l B k++[.int .i64 (c:Nat)]:=by
    rw [aheads_succ,hc,countL_upto l (by rw [<-ht.out];omega)]
   have HCA:=hid hca
   have HC:=hid hc
   have HX:Hid (X<wr.heap.size):=⟨by have:=HN.out.base;omega⟩
   clear hca hc
   have KS:Hid (∀ W',Gr wr W'->W'.cell? ⟨X,1,none⟩=some v/\W'.cell? ⟨X,3,none⟩=some (.int .i64 (c:Nat))/\W'.frozen? ⟨X,1,none⟩=false):=⟨fun W' h=>⟨(h.cell HX.out 1).trans c1,(h.cell HX.out 3).trans c3,(h.frozen HX.out 1).trans fr⟩⟩
   obtain ⟨S,hS⟩:∃ S:World->Prop,S=fun W'=>W'.cell? ⟨X,1,none⟩=some v/\W'.cell? ⟨X,3,none⟩=some (.int .i64 (c:Nat))/\W'.frozen? ⟨X,1,none⟩=false:=⟨_,rfl⟩
   have x1:∀ p:Held S,p.w.cell? ⟨X,1,none⟩=some v:=fun p=>(Held.get hS p).1
   have x3:∀ p:Held S,p.w.cell? ⟨X,3,none⟩=some (.int .i64 (c:Nat)):=fun p=>(Held.get hS p).2.1
   have hS0:S wr.drew:=by rw [hS];exact KS.out _ (Gr.refl _).drew
   have HS:=hid hS
   clear hS
   have inst:Inhabited (Held S):=⟨⟨_,hS0⟩⟩
   refine wp_region_mixS S 13 [([0,1,2,3,4,5,6,7,8],9),([],10),([11,12],13)] [] (by kernel_rfl) (by kernel_rfl) hS0 ?_
   refine segs_step ?_
   simp only [opsAt,List.getElem?_cons_zero,List.getElem?_cons_succ]
   repeat (go_big_quiet_step (fail))
   refine wpQuiet_nil ?_
   go_wp2
   refine ⟨.inr (Held.of (by rw [HS.out];exact KS.out _ ((Gr.refl _).alloc _).drew)),?_⟩
   refine segs_step ?_
   simp only [opsAt,List.getElem?_cons_zero,List.getElem?_cons_succ]
   refine wpQuiet_nil ?_
   go_wp2_with (at_builtin;refine wpList_append_lies _ rfl _ _ 40 rfl (X+1) 3 i0 _ 1 8 Tryz.underlying40 hi hz0 hz1 hz2 rfl (by omega) v k (aheads l B k) rfl ((HN.out.own.alloc _).drew) ⟨wr.heap.size,0,none⟩ 1 1 [.int .i64 (c:Nat)] rfl rfl (World.news_of_block (cs:=#[.int .i64 (c:Nat)]) (t:=3) (fr:=(0,0)) (heap_alloc_new wr _)) (by simp [Value.oneCell']) (by omega) (by unfold maxLen;omega) (by omega) (by have:=HX.out;simp;omega) (wr.heap.size+1) (by simp) ?_;intro g cp w1 hown1 hgrow hat hlt1)
   go_frame
   have hg0:Gr wr (wr.alloc (.cells #[.int .i64 (c:Nat)] 3)).drew:=((Gr.refl _).alloc _).drew
   have hK1:w1.cell? ⟨X,1,none⟩=some v/\w1.cell? ⟨X,3,none⟩=some (.int .i64 (c:Nat))/\w1.frozen? ⟨X,1,none⟩=false:=by
    have hz:=KS.out _ hg0
    exact ⟨(hgrow.cell_far ⟨X,1,none⟩ (by have:=HX.out;simp;omega) (Ne.symm HN.out.far)).trans hz.1,(hgrow.cell_far ⟨X,3,none⟩ (by have:=HX.out;simp;omega) (Ne.symm HN.out.far)).trans hz.2.1,
     (hgrow.frozen_far ⟨X,1,none⟩ (by have:=HX.out;simp;omega) (Ne.symm HN.out.far)).trans hz.2.2⟩
   refine ⟨.inr (Held.of (by rw [HS.out];exact hK1)),?_⟩
   have HM:=hid ((HN.out.grow hg0).append (by rw [HCA.out];exact hown1) hgrow)
   have k1:=hK1.1
   have k3:=hK1.2.2
   clear hg0 hown1 hgrow hat hlt1 hK1
   refine segs_step ?_
   simp only [opsAt,List.getElem?_cons_zero,List.getElem?_cons_succ]
   repeat (go_big_quiet_step (fail))
   refine wpQuiet_nil ?_
   go_wp2
   refine ⟨.inl trivial,?_⟩
   refine segs_end ?_
   refine wpQuiet_nil ?_
   refine NoPanic.normal ?_
   generalize w1.setCell ⟨X,1,none⟩ (.slice (some ⟨g,0,none⟩) (k+1) cp)=W3 at HM ⊢
   generalize (Value.slice (some ⟨g,0,none⟩) (k+1) cp)=v3 at HM ⊢
   clear x1 x3 hS0 HS inst k1 k3 KS c1 c3 fr HX
   clear S
   obtain ⟨tb,htb2⟩:∃ tb,tb=t+B:=⟨_,rfl⟩
   obtain ⟨d,hd⟩:∃ d,d=countL l (t:Int) (tb:Int):=⟨_,rfl⟩
   obtain ⟨e,he⟩:∃ e,e=countL l 0 ((k+1)*B:Nat):=⟨_,rfl⟩
   have hcd:(c:Int)+(d:Int)=(e:Int):=by
    have:=countL_add l (a:=0) (b:=(t:Int)) (c:=(tb:Int)) (by omega) (by omega)
    rw [hd,he,HC.out,<-ht.out,<-HT2.out,<-htb2]
    exact this
   have hel:e<=l.length:=by rw [he];exact cnt_le _ _
   have hw1:IntKind.i64.wrap ((t:Int)+(B:Int))=(tb:Int):=by rw [htb2,IntWalk.i64_in _ (by omega)];omega
   have hw2:IntKind.i64.wrap ((c:Int)+(d:Int))=(e:Int):=by rw [hcd,IntWalk.i64_in _ (by omega)]
   have HD:=hid hd
   have HE:=hid he
   have HTB:=hid htb2
   have k3:W3.cell? ⟨X,3,none⟩=some (.int .i64 (c:Nat)):=by rw [HM.out.c3,HC.out]
   have fr:W3.frozen? ⟨X,3,none⟩=false:=HM.out.free 3
   have HX:Hid (X<W3.heap.size):=⟨by have:=HM.out.base;omega⟩
   clear hcd hd he htb2
   go_upto_region 10 with (fail)
   obtain ⟨S,hS⟩:∃ S:World->Prop,S=fun W'=>W'.cell? ⟨X,3,none⟩=some (.int .i64 (c:Nat)):=⟨_,rfl⟩
   have x3:∀ p:Held S,p.w.cell? ⟨X,3,none⟩=some (.int .i64 (c:Nat)):=fun p=>Held.get hS p
   have hS0:S W3.drew:=by rw [hS];exact k3
   have HS:=hid hS
   clear hS
   have inst:Inhabited (Held S):=⟨⟨_,hS0⟩⟩
   refine wp_region_mixS S 13 [([0,1,2,3,4,5,6,7,8],9),([10,11,12],13)] [] (by kernel_rfl) (by kernel_rfl) hS0 ?_
   refine segs_step ?_
   simp only [opsAt,List.getElem?_cons_zero,List.getElem?_cons_succ]
   repeat (go_big_quiet_step (fail))
   refine wpQuiet_nil ?_
   go_wp2_with (go_at_call 372;refine (count_vec (HV.out.gr (HM.out.gr.drew)) (t:Int) (tb:Int) (by omega)).mono ?_;rintro e' W4 ⟨rfl,hg4⟩;rw [<-HD.out])
   have hg5:Gr W3 W4:=(Gr.refl W3).drew.trans hg4
   have q3:=(hg5.cell HX.out 3).trans k3
   have qf:=(hg5.frozen HX.out 3).trans fr
   have HM4:=hid ((HM.out.grow hg5).count (m':=k+1) (z:=(e:Nat)) (by rw [HE.out]))
   clear hg4 hg5
   refine ⟨.inr (Held.of (by rw [HS.out];exact q3)),?_⟩
   refine segs_step ?_
   simp only [opsAt,List.getElem?_cons_zero,List.getElem?_cons_succ]
   repeat (go_big_quiet_step (fail))
   refine wpQuiet_nil ?_
   go_wp2
   refine ⟨.inl trivial,?_⟩
   refine segs_end ?_
   refine wpQuiet_nil ?_
   refine NoPanic.normal ?_
   generalize W4.setCell ⟨X,3,none⟩ (.int .i64 (e:Nat))=W5 at HM4 ⊢
   clear x3 hS0 HS inst q3 qf k3 fr hw1 hw2
   clear S
   go_wp2
   go_roundw
   case rel=>exact ⟨k+1,t+B,v3,HM4,HT2,by omega,by omega,HNo,by go_num⟩
   case measure=>simp [intOf];omega
  ·have E:=hid (nbl_eq hb1 (show l.length<=k*B by rw [<-ht.out];omega) hno.out)
   have HF:=hid (HN.out.done hb1 hb2 E.out.symm (by rw [<-ht.out];omega))
   go_wp2_with (go_at_call 278;refine (len_vec (HV.out.gr HN.out.gr)).mono ?_;rintro e w1 ⟨rfl,rfl⟩)
   go_ret2
   obtain ⟨a,hI,ha⟩:=HF.out
   exact ⟨X,q,r,a,ret2 rfl rfl,HN.out.gr,hI,by have:=HN.out.ge;have:=HN.out.ltp;omega,HN.out.ge.1,HN.out.ge.2,ha⟩
end Go.Proofs.YthgdadohijgleaaGreatDoor
end
section
namespace Go.Proofs.YthgdadohijgleaaGreatDoor
open Go.RowKit Word
end Go.Proofs.YthgdadohijgleaaGreatDoor
end
end
section
namespace Go.Proofs.YthgdadohijgleaaGreatDoor
open Word
def liveL (n:Nat) (L:List Ob):List Bool:=(List.range n).map (liveB L)
theorem liveL_len (n:Nat) (L:List Ob):(liveL n L).length=n:=by simp [liveL]
theorem at_live {n:Nat} {L:List Ob} (h:Good n L) (i:Nat):at_ (liveL n L) i=liveB L i:=by
 unfold liveL
 rw [at_map_range]
 by_cases hi:i<n
 ·rw [decide_eq_true hi];rfl
 ·rw [decide_eq_false hi]
  cases hb:liveB L i with
  | false=>rfl
  | true=>
   obtain ⟨o,ho,h1,h2⟩:=liveB_iff.1 hb
   have:=h.sz o ho
   omega
theorem countL_live {n:Nat} {L:List Ob} (h:Good n L) (f t:Int):((countL (liveL n L) f t:Nat):Int)=overs L f t:=by
 rw [<-liveN_eq h,countL_eq,liveL_len]
 congr 1
 exact cntI_congr (fun i _=>by rw [at_live h])
theorem cnt_live {n:Nat} {L:List Ob} (h:Good n L) (k:Nat) (hk:k<=n):((cnt (at_ (liveL n L)) k:Nat):Int)=overs L 0 k:=by
 rw [<-countL_live h,countL_upto _ (by rw [liveL_len];exact hk)]
theorem wordO_some {L:List Ob}:∀ {q k:Nat},wordO L q=some k->∃ j,∃ hj:j<L.length,∃ i,i<L[j].2/\q=sizes (L.take j)+i/\k=L[j].1+i:=by
 induction L with
 | nil=>intro q k h;cases h
 | cons o r ih=>
  intro q k h
  unfold wordO at h
  by_cases hq:q<o.2
  ·rw [if_pos hq] at h
   exact ⟨0,by simp,q,hq,by simp [sizes],(Option.some.inj h).symm⟩
  ·rw [if_neg hq] at h
   obtain ⟨j,hj,i,h1,h2,h3⟩:=ih h
   exact ⟨j+1,by simp;exact hj,i,h1,by simp [sizes];omega,h3⟩
theorem liveB_mid {L:List Ob} {j:Nat} (hj:j<L.length) {i:Nat} (hi:i<L[j].2):liveB L (L[j].1+i)=true:=liveB_iff.2 ⟨_,List.getElem_mem hj,by omega,by omega⟩
theorem pick_live {n:Nat} {L:List Ob} (h:Good n L) (q:Nat):(∀ k,wordO L q=some k->pickL (liveL n L) q=k/\k<n)/\(wordO L q=none->pickL (liveL n L) q=n):=by
 refine ⟨fun k hk=>?_,fun hn=>?_⟩
 ·obtain ⟨j,hj,i,h1,rfl,rfl⟩:=wordO_some hk
  have hs:=h.sz _ (List.getElem_mem hj)
  have hc:=cnt_live h (L[j].1+i) (by omega)
  have ho:=overs_upto h hj (i:=i) (by omega)
  obtain ⟨e1,e2⟩:=pickL_at (l:=liveL n L) (k:=L[j].1+i) (q:=sizes (L.take j)+i) (by rw [at_live h];exact liveB_mid hj h1) (by push_cast at hc;omega)
  exact ⟨e1,by omega⟩
 ·have hle:=wordO_none.1 hn
  have hc:=cnt_live h n (Nat.le_refl n)
  rw [overs_all h] at hc
  have:=pickF_none (f:=at_ (liveL n L)) (n:=n) (k:=q) (by omega)
  unfold pickL
  rw [liveL_len]
  exact this
theorem pickV_live {n:Nat} {L:List Ob} (h:Good n L) (k:Int):pickV (liveL n L) k=wordV L k/\pickB (liveL n L) k=wordY L k:=by
 unfold pickV pickB wordV wordY
 by_cases hk:k<0
 ·rw [if_pos hk,if_pos hk,decide_eq_false (by omega)];exact ⟨rfl,rfl⟩
 ·rw [if_neg hk,if_neg hk,decide_eq_true (by omega),liveL_len]
  obtain ⟨h1,h2⟩:=pick_live h k.toNat
  cases hw:wordO L k.toNat with
  | none=>rw [h2 hw,valN_no (by omega)];exact ⟨rfl,by simp⟩
  | some x=>obtain ⟨e1,e2⟩:=h1 x hw;rw [e1,valN_yes e2];exact ⟨rfl,by simp [e2]⟩
theorem live_take {n:Nat} {L:List Ob} {j:Nat} (hj:j<L.length):liveL n (L.take (j+1))=layL (liveL n (L.take j)) (L[j].1:Nat) ((L[j].1:Int)+(L[j].2:Int)) true:=by
 refine ext_at (by rw [layL_length,liveL_len,liveL_len]) (fun i hi=>?_)
 rw [liveL_len] at hi
 rw [layL_at _ _ _ _ _ (by rw [liveL_len];exact hi)]
 unfold liveL
 rw [at_map_range,at_map_range,decide_eq_true hi]
 unfold liveB
 rw [List.take_succ_eq_append_getElem hj,List.any_append]
 by_cases hin:(L[j].1:Int)<=i/\(i:Int)<(L[j].1:Int)+(L[j].2:Int)
 ·rw [if_pos hin]
  have:L[j].1<=i/\i<L[j].1+L[j].2:=by omega
  simp [this]
 ·rw [if_neg hin]
  have:¬ (L[j].1<=i/\i<L[j].1+L[j].2):=by omega
  simp [this]
theorem live_none (n:Nat):liveL n []=List.replicate n false:=by
 unfold liveL
 exact ext_at (by simp) (fun i hi=>by rw [at_map_range];simp [at_,List.getD_eq_getElem?_getD,List.getElem?_replicate,liveB];split <;> rfl)
end Go.Proofs.YthgdadohijgleaaGreatDoor
namespace Go.Proofs.YthgdadohijgleaaGreatDoor
open Go.RowKit Word
def OffT (w:World) (F t n B:Nat) (L:List Ob):Prop:=
 Good n L/\t<w.heap.size/\F<=t/\∃ v vb x p b a,w.cell? ⟨t,0,none⟩=some (.pointer (some ⟨v,0,none⟩))/\w.cell? ⟨t,1,none⟩=some (.pointer (some ⟨x,0,none⟩))/\Vec w v vb (liveL n L)/\Idx w x p b a (liveL n L) B ∧
  F<=v/\F<=vb/\F<=x/\F<=p/\F<=b/\F<=a
theorem OffT.touch {S:Nat->Prop} {w w':World} {F t n B:Nat} {L:List Ob} (h:OffT w F t n B L) (ht:Touch S w w') (hS:∀ k,F<=k->k<w.heap.size->¬ S k):OffT w' F t n B L:=by
 obtain ⟨hg,h1,h2,v,vb,x,p,b,a,c0,c1,hV,hX,k1,k2,k3,k4,k5,k6⟩:=h
 exact ⟨hg,Nat.lt_of_lt_of_le h1 ht.size,h2,v,vb,x,p,b,a,(ht.cell h1 (hS t h2 h1) 0).trans c0,(ht.cell h1 (hS t h2 h1) 1).trans c1,hV.touch ht (hS v k1 hV.hp) (hS vb k2 hV.hb),hX.touch ht (hS x k3 hX.hx) (hS p k4 hX.vec.hp) (hS b k5 hX.vec.hb) (hS a k6 hX.ha),k1,k2,k3,k4,k5,k6⟩
theorem OffT.gr {w w':World} {F t n B:Nat} {L:List Ob} (h:OffT w F t n B L) (g:Gr w w'):OffT w' F t n B L:=h.touch (g.touch (fun _=>False)) (fun _ _ _ h=>h)
section
variable {w:World} {F t n B:Nat} {L:List Ob}
theorem off_word (hO:OffT w F t n B L) (hT:TabAt w) (k:Int):
  Gets Tryz.prog 270 #[.pointer (some ⟨t,0,none⟩),.int .i64 k] w (.tuple #[.int .i64 (wordV L k),.bool (wordY L k)]):=by
 obtain ⟨hg,h1,h2,v,vb,x,p,b,a,c0,c1,hV,hX,-⟩:=hO
 rw [<-(pickV_live hg k).1,<-(pickV_live hg k).2]
 have HX:=hid hX
 have HT:=hid hT
 clear hX hT hV
 unfold Gets
 go_enter Tryz.func270,Tryz.ntmps270
 go_wp2_with (go_at_call 328;refine (rank_pick HX.out HT.out k).mono ?_;rintro e w1 ⟨rfl,hg1⟩)
 go_ret2
 exact ⟨rfl,hg1⟩
theorem off_before (hO:OffT w F t n B L) (i:Int):Gets Tryz.prog 297 #[.pointer (some ⟨t,0,none⟩),.int .i64 i] w (.int .i64 (overs L 0 i)):=by
 obtain ⟨hg,h1,h2,v,vb,x,p,b,a,c0,c1,hV,hX,-⟩:=hO
 rw [<-countL_live hg]
 have HX:=hid hX
 clear hX hV
 unfold Gets
 go_enter Tryz.func297,Tryz.ntmps297
 go_wp2_with (go_at_call 351;refine (rank_before HX.out i).mono ?_;rintro e w1 ⟨rfl,hg1⟩)
 go_ret
 exact ⟨rfl,hg1⟩
theorem off_is (hO:OffT w F t n B L) (i:Int):Calls Tryz.prog 296 #[.pointer (some ⟨t,0,none⟩),.int .i64 i] w fun e w'=>e=.returned (.bool (decide (0<=i)&&liveB L i.toNat))/\w=w':=by
 obtain ⟨hg,h1,h2,v,vb,x,p,b,a,c0,c1,hV,hX,-⟩:=hO
 rw [<-at_live hg]
 have HV:=hid hV
 clear hX hV
 go_enter Tryz.func296,Tryz.ntmps296
 go_wp2_with (go_at_call 350;refine (test_any HV.out i).mono ?_;rintro e w1 ⟨rfl,rfl⟩)
 go_ret
 exact ⟨rfl,rfl⟩
theorem off_live (hO:OffT w F t n B L):Calls Tryz.prog 262 #[.pointer (some ⟨t,0,none⟩)] w fun e w'=>e=.returned (.int .i64 (sizes L:Nat))/\w=w':=by
 obtain ⟨hg,h1,h2,v,vb,x,p,b,a,c0,c1,hV,hX,-⟩:=hO
 have HX:=hid hX
 have HL:Hid (cnt (at_ (liveL n L)) (liveL n L).length=sizes L):=⟨by
  have:=cnt_live hg n (Nat.le_refl n)
  rw [overs_all hg] at this
  rw [liveL_len];omega⟩
 clear hX hV
 go_enter Tryz.func262,Tryz.ntmps262
 go_wp2_with (go_at_call 325;refine (rank_ones HX.out).mono ?_;rintro e w1 ⟨rfl,rfl⟩;rw [HL.out])
 go_ret
 exact ⟨rfl,rfl⟩
end
end Go.Proofs.YthgdadohijgleaaGreatDoor
namespace Go.Proofs.YthgdadohijgleaaGreatDoor
open Go.RowKit Go.Shelf Word
attribute [local go_sem] Oper.semAt_some
structure OffI (W0:World) (v vb n:Nat) (L:List Ob) (j:Nat) (A:World):Prop where
 t:Touch (fun i=>i=vb\/W0.heap.size<=i) W0 A
 jl:j<=L.length
 vec:Vec A v vb (liveL n (L.take j))
def NewOff (w:World) (n:Nat) (L:List Ob) (k:Int) (e:Ending) (w':World):Prop:=
 Gr w w'/\((blockOk k=false/\e=.returned (.tuple #[.pointer none,.int .i64 5]))\/(blockOk k=true/\∃ t B:Nat,k=B/\e=.returned (.tuple #[.pointer (some ⟨t,0,none⟩),.int .i64 0])/\OffT w' w.heap.size t n B L))
set_option maxRecDepth 100000 in
set_option maxHeartbeats 3200000 in
theorem off_new {w:World} {m p1 b1 p2 b2 n:Nat} {L:List Ob} (hE:Ext w m p1 b1 p2 b2 n L) (hT:TabAt w) (k:Int) (hk:k<=9223372036854775807):
  Calls Tryz.prog 292 #[.pointer (some ⟨m,0,none⟩),.int .i64 k] w (NewOff w n L k):=by
 have HE:=hid hE
 have HT:=hid hT
 obtain ⟨hn1,hn2⟩:=hE.nb
 have hn0:((n:Int)==0)=false:=beq_eq_false_iff_ne.2 (by omega)
 clear hE hT
 refine (callsIn_wide (n:=5)).1 ?_
 refine callsIn_of_wp_marks Tryz.func292 rfl trivial ?_ rfl
 simp only [Tryz.ntmps292,List.size_toArray,List.length_cons,List.length_nil,Nat.reduceAdd,Nat.reduceSub,Array.replicate_succ,Array.replicate_zero,List.push_toArray,List.append_toArray,List.nil_append,List.cons_append]
 gi_wp2_with (first
  | (refine ⟨trivial,?_⟩;gi_at_call 187;refine (callsIn_wide.2 (ext_words HE.out)).mono ?_;rintro e w1 ⟨rfl,rfl⟩)
  | (refine ⟨trivial,?_⟩;gi_at_call 186;refine (callsIn_wide.2 (new_vec n hn1 hn2 _)).mono ?_;rintro e w1 ⟨v,vb,rfl,hg1,hV1,hv,hvb⟩;have HG1:=hid hg1;have HV1:=hid hV1;have HP:=hid (And.intro hv hvb);clear hg1 hV1 hv hvb)
  | (refine ⟨trivial,?_⟩;gi_at_call 203;refine (callsIn_wide.2 (all_call (some ⟨m,0,none⟩))).mono ?_;rintro e w2 ⟨rfl,rfl⟩))
 obtain ⟨X,hX⟩:∃ X,X=w1.heap.size:=⟨_,rfl⟩
 obtain ⟨W0,hW0⟩:∃ W0,W0=(w1.alloc (.cells #[.pointer (some ⟨v,0,none⟩)] 259)).alloc (.cells #[.pointer (some ⟨m,0,none⟩)] 155):=⟨_,rfl⟩
 have hg0:Gr w1 W0:=by rw [hW0];exact ((Gr.refl w1).alloc _).alloc _
 have hs0:W0.heap.size=X+2:=by rw [hW0,hX];simp
 have e0:W0.cell? ⟨X,0,none⟩=some (.pointer (some ⟨v,0,none⟩)):=by rw [hW0,hX];exact ((Boxed.new w1 _ _).alloc _).cell
 have e1:W0.cell? ⟨X+1,0,none⟩=some (.pointer (some ⟨m,0,none⟩)):=by
  rw [hW0,hX]
  have:=Boxed.new (w1.alloc (.cells #[.pointer (some ⟨v,0,none⟩)] 259)) 155 (.pointer (some ⟨m,0,none⟩))
  rw [World.size_alloc] at this
  exact this.cell
 have hz1:=HG1.out.size
 have hz2:=HV1.out.hp
 have hz3:=HV1.out.hb
 have hz4:=HP.out.1
 have hz5:=HP.out.2
 rw [<-hX] at hz1 hz2 hz3
 have o1:=HE.out.hm
 have o2:=HE.out.v1.hp
 have o3:=HE.out.v1.hb
 have o4:=HE.out.v2.hp
 have o5:=HE.out.v2.hb
 have o6:=HT.out.lt
 have HG0:=hid (HG1.out.trans hg0)
 have HE0:=hid (HE.out.gr (HG1.out.trans hg0))
 have HV0:=hid (HV1.out.gr hg0)
 have hgood:=HE.out.good
 have HC0:=hid (And.intro e0 e1)
 rw [<-hW0,<-hX]
 clear hW0 hX hg0 e0 e1
 have h00:OffI W0 v vb n L 0 W0:=⟨Touch.refl _ _,Nat.zero_le _,by show Vec W0 v vb (liveL n []);rw [live_none];exact HV0.out⟩
 have tI:∀ j A B,OffI W0 v vb n L j A->Touch (fun i=>W0.heap.size<=i) A B->OffI W0 v vb n L j B:=fun j A B h t=>
  ⟨h.t.trans (t.mono (fun i _ h=>.inr h)),h.jl,h.vec.touch t (by omega) (by omega)⟩
 refine range_lawT (s0:=0) rfl (by omega) (gf:=294) (lb:=#[.pointer (some ⟨X+1,0,none⟩)]) rfl trivial (enters_of Tryz.func294 (by kernel_rfl) rfl)
  (all_seq _ (X+1) m p1 b1 p2 b2 n L _) (fun _=>rfl)
  (OffI W0 v vb n L) (fun _ _=>False) tI (fun _ _ _ h _=>h)
  (fun j A h=>⟨HE0.out.touch h.t (by omega) (by omega) (by omega) (by omega) (by omega),(HG0.out.tab HT.out.lt HT.out).touch' h.t (by omega),(h.t.cell (by omega) (by omega) 0).trans HC0.out.2,h.jl⟩)
  h00 ?round ?done (fun _ _ _ _ h _=>h.elim)
 case round=>
  intro lp j x W3 hsz3 hI3 hgv
  dsimp only [encO]
  gi_wp2
  refine ⟨Gr.refl _,fun W4 ht4 hI4=>?_⟩
  have hjl:j<L.length:=by
   rcases Nat.lt_or_ge j L.length with h | h
   ·exact h
   ·unfold AllGives at hgv;rw [List.getElem?_eq_none h] at hgv;cases hgv
  obtain rfl:x=L[j]:=by unfold AllGives at hgv;rw [List.getElem?_eq_getElem hjl] at hgv;exact (Option.some.inj hgv).symm
  have hsz':=hgood.sz _ (List.getElem_mem hjl)
  have HLV:=hid (live_take (n:=n) hjl)
  have c6:=(hI4.t.cell (b:=X) (by omega) (by omega) 0).trans HC0.out.1
  have HI4:=hid hI4
  clear hI4 hI3 ht4 hgv
  gi_wp2_with (refine ⟨trivial,?_⟩;gi_at_call 346;refine (CallsIn.inRound lp (callsIn_wide.2 (fill_vec HI4.out.vec _ _ (by omega)))).mono ?_;rintro e w5 ⟨rfl,ht5,hv5⟩)
  rw [<-HLV.out] at hv5
  exact ⟨ht5.mono (fun i _ h=>by have h:i=vb:=h;omega),j+1,rfl,HI4.out.t.trans (ht5.mono (fun i _ h=>.inl h)),by omega,hv5⟩
 case done=>
  rintro D j W3 hD rfl hI3 hK
  have c6:=(hI3.t.cell (b:=X) (by omega) (by omega) 0).trans HC0.out.1
  have hV3:=hI3.vec
  rw [List.take_length] at hV3
  have HV3:=hid hV3
  have HT3:=hid hI3.t
  have HK:=hid hK
  have HD:=hid hD
  have hg3:Gr w W3:=((HG0.out.touch (fun _=>False)).trans' hI3.t (fun i hi h=>by omega)).gr
  have HG3:=hid hg3
  have hz6:=hI3.t.size
  clear hV3 hI3 hK hD hg3
  cases hb:blockOk k with
  | false=>
   have HB:=hid hb
   gi_wp2_with (refine ⟨trivial,?_⟩;gi_at_call 347;refine (callsIn_wide.2 (rank_new_bad HV3.out k HB.out hk)).mono ?_;rintro e w4 ⟨rfl,rfl⟩)
   refine ⟨by simp,.inl ⟨_,_,rfl,run_takeDeferred HK.out,?_⟩⟩
   refine ⟨.tuple #[.pointer none,.int .i64 5],?_,((HG3.out.touch (fun _=>False)).trans' (touch_putObj _ D _ (Nat.le_refl D)) (fun i hi h=>by have:=HD.out;omega)).gr,.inl ⟨HB.out,rfl⟩⟩
   simp [results,Tryz.f292,go_sem]
  | true=>
   have hbp:=blockOk_pos hb
   obtain ⟨B,rfl⟩:∃ B:Nat,k=B:=⟨k.toNat,by omega⟩
   have HB:=hid hb
   gi_wp2_with (refine ⟨trivial,?_⟩;gi_at_call 347;refine (callsIn_wide.2 (rank_new_in HV3.out B HB.out)).mono ?_;rintro e w4 ⟨x,p,b,a,rfl,hg4,hX4,hx1,hx2,hx3,hx4⟩;have c64:=(hg4.cell (lt_cell c6) 0).trans c6;have HG4:=hid hg4;have HX4:=hid hX4;have HZ4:=hid (And.intro hx1 (And.intro hx2 (And.intro hx3 hx4)));clear hg4 hX4 hx1 hx2 hx3 hx4)
   have hD5:(w4.alloc (.cells #[.pointer (some ⟨v,0,none⟩),.pointer (some ⟨x,0,none⟩)] 399)).heap[D]?=some (.deferred (some [])):=
    (((HG4.out.alloc _).block (Array.getElem?_eq_some_iff.1 HK.out).1)).trans HK.out
   have tt:=((HG3.out.trans (HG4.out.alloc (.cells #[.pointer (some ⟨v,0,none⟩),.pointer (some ⟨x,0,none⟩)] 399))).touch (fun _=>False)).trans' (touch_putObj _ D (.deferred none) (Nat.le_refl D)) (fun i hi h=>by have:=HD.out;omega)
   refine ⟨by simp,.inl ⟨_,_,rfl,run_takeDeferred hD5,?_⟩⟩
   refine ⟨.tuple #[.pointer (some ⟨w4.heap.size,0,none⟩),.int .i64 0],?_,tt.gr,.inr ⟨HB.out,w4.heap.size,B,rfl,rfl,?_⟩⟩
   ·simp [results,Tryz.f292,go_sem]
   ·have t5:=touch_put1 (w4.alloc (.cells #[.pointer (some ⟨v,0,none⟩),.pointer (some ⟨x,0,none⟩)] 399)) D (.deferred none)
    have hs4:=HG4.out.size
    have hz:=HZ4.out
    have hdl:=(Array.getElem?_eq_some_iff.1 HK.out).1
    have hd:=HD.out
    have hl:w4.heap.size<(w4.alloc (.cells #[.pointer (some ⟨v,0,none⟩),.pointer (some ⟨x,0,none⟩)] 399)).heap.size:=by rw [World.size_alloc];omega
    exact ⟨hgood,Nat.lt_of_lt_of_le hl t5.size,by omega,v,vb,x,p,b,a,(t5.cell (b:=w4.heap.size) hl (by omega) 0).trans (World.cell?_alloc_new ..),(t5.cell (b:=w4.heap.size) hl (by omega) 1).trans (World.cell?_alloc_new ..),
     ((HV3.out.gr HG4.out).gr ((Gr.refl _).alloc _)).touch t5 (by omega) (by omega),(HX4.out.gr ((Gr.refl _).alloc _)).touch t5 (by omega) (by omega) (by omega) (by omega),by omega,by omega,by omega,by omega,by omega,by omega⟩
end Go.Proofs.YthgdadohijgleaaGreatDoor
end
section
namespace Go.Proofs.YthgdadohijgleaaGreatDoor
open Word
def placeO:List Ob->Nat->Nat
 | [],_=>0
 | o :: r,q=>if q<o.2 then 0 else placeO r (q-o.2)+1
theorem placeO_spec {L:List Ob}:∀ {q:Nat},q<sizes L->∃ hj:placeO L q<L.length,∃ i,i<(L[placeO L q]'hj).2/\q=sizes (L.take (placeO L q))+i/\wordO L q=some ((L[placeO L q]'hj).1+i):=by
 induction L with
 | nil=>intro q h;simp [sizes] at h
 | cons o r ih=>
  intro q h
  by_cases hq:q<o.2
  ·have e:placeO (o :: r) q=0:=if_pos hq
   refine ⟨by rw [e];simp,q,?_⟩
   simp only [e]
   exact ⟨hq,by simp [sizes],by unfold wordO;rw [if_pos hq];rfl⟩
  ·have e:placeO (o :: r) q=placeO r (q-o.2)+1:=if_neg hq
   unfold sizes at h
   obtain ⟨hj,i,h1,h2,h3⟩:=ih (q:=q-o.2) (by omega)
   refine ⟨by rw [e];simpa using hj,i,?_⟩
   simp only [e]
   exact ⟨h1,by simp only [List.take_succ_cons,sizes];omega,by unfold wordO;rw [if_neg hq];exact h3⟩
theorem placeO_at {L:List Ob} {j i:Nat} (hj:j<L.length) (hi:i<L[j].2):placeO L (sizes (L.take j)+i)=j:=by
 induction L generalizing j with
 | nil=>simp at hj
 | cons o r ih=>
  cases j with
  | zero=>
   have hi:i<o.2:=hi
   simp only [List.take_zero,sizes,Nat.zero_add,placeO]
   rw [if_pos hi]
  | succ j=>
   have:=ih (j:=j) (by simpa using hj) (by simpa using hi)
   simp only [List.take_succ_cons,sizes,placeO]
   rw [if_neg (by omega),show o.2+sizes (List.take j r)+i-o.2=sizes (List.take j r)+i by omega,this]
theorem sizes_take_le (L:List Ob) (j:Nat):sizes (L.take j)<=sizes L:=by
 induction L generalizing j with
 | nil=>simp [sizes]
 | cons o r ih=>
  cases j with
  | zero=>simp [sizes]
  | succ j=>have:=ih j;simp only [List.take_succ_cons,sizes];omega
theorem sizes_mid {L:List Ob} {j:Nat} (hj:j<L.length):sizes (L.take j)+L[j].2<=sizes L:=by
 rw [<-sizes_take hj];exact sizes_take_le L (j+1)
def toV (L:List Ob) (base a:Int):Int:=if findO L a<L.length then base+overs L 0 a else 0
def toE (L:List Ob) (a:Int):Int:=if findO L a<L.length then 0 else 6
theorem toV_at {n:Nat} {L:List Ob} (h:Good n L) {base a:Int} {j:Nat} (hj:j<L.length) (h1:(L[j].1:Int)<=a) (h2:a<L[j].1+L[j].2):
  toV L base a=base+sizes (L.take j)+a-(L[j].1:Nat)/\toE L a=0:=by
 have e:=findO_eq h hj h1 h2
 have hs:=overs_upto h hj (i:=(a-L[j].1).toNat) (by omega)
 rw [show (L[j].1:Int)+((a-L[j].1).toNat:Nat)=a by omega] at hs
 unfold toV toE
 rw [if_pos (by omega),if_pos (by omega),hs]
 exact ⟨by omega,rfl⟩
theorem toV_no {L:List Ob} {base a:Int} (h:¬ findO L a<L.length):toV L base a=0/\toE L a=6:=by
 unfold toV toE;rw [if_neg h,if_neg h];exact ⟨rfl,rfl⟩
theorem live_find {L:List Ob} (a:Int):(decide (0<=a)&&liveB L a.toNat)=decide (findO L a<L.length):=by
 by_cases h:0<=a
 ·rw [decide_eq_true h,liveB_find,show ((a.toNat:Nat):Int)=a by omega];rfl
 ·rw [decide_eq_false h]
  rw [findO_none (fun o _=>by omega)]
  simp
def inF (L:List Ob) (base b:Int):Bool:=decide (base<=b)&&decide (b<base+(sizes L:Nat))
def fromV (L:List Ob) (base b:Int):Int:=if inF L base b then wordV L (b-base) else 0
def fromI (L:List Ob) (base b:Int):Int:=if inF L base b then (placeO L (b-base).toNat:Nat) else 0
def fromE (L:List Ob) (base b:Int):Int:=if inF L base b then 0 else 11
theorem inF_iff {L:List Ob} {base b:Int}:inF L base b=true↔base<=b/\b<base+(sizes L:Nat):=by simp [inF]
theorem inF_false {L:List Ob} {base b:Int} (h:¬ (base<=b/\b<base+(sizes L:Nat))):inF L base b=false:=by
 cases e:inF L base b with
 | false=>rfl
 | true=>exact absurd (inF_iff.1 e) h
theorem wordV_at {L:List Ob} {j i:Nat} (hj:j<L.length) (hi:i<L[j].2):wordV L ((sizes (L.take j)+i:Nat):Int)=(L[j].1+i:Nat):=by
 unfold wordV
 rw [if_neg (by omega),Int.toNat_natCast,wordO_take hj hi];rfl
theorem from_at {L:List Ob} {base b:Int} {j:Nat} (hj:j<L.length) (h1:base+(sizes (L.take j):Nat)<=b) (h2:b<base+(sizes (L.take j):Nat)+(L[j].2:Nat)):
  fromV L base b=(L[j].1:Nat)+b-(base+(sizes (L.take j):Nat))/\fromI L base b=j/\fromE L base b=0:=by
 have hm:=sizes_mid hj
 have hin:inF L base b=true:=inF_iff.2 ⟨by omega,by omega⟩
 obtain ⟨i,hi⟩:∃ i:Nat,b-base=((sizes (L.take j)+i:Nat):Int):=⟨(b-base).toNat-sizes (L.take j),by omega⟩
 have hlt:i<L[j].2:=by omega
 unfold fromV fromI fromE
 rw [hin,if_pos rfl,if_pos rfl,if_pos rfl,hi,wordV_at hj hlt,Int.toNat_natCast,placeO_at hj hlt]
 exact ⟨by omega,rfl,rfl⟩
theorem from_no {L:List Ob} {base b:Int} (h:inF L base b=false):fromV L base b=0/\fromI L base b=0/\fromE L base b=11:=by
 unfold fromV fromI fromE;rw [h];exact ⟨rfl,rfl,rfl⟩
theorem from_in {n:Nat} {L:List Ob} (h:Good n L) {base b:Int} (hb:inF L base b=true):∃ j,∃ hj:j<L.length,fromI L base b=j/\(L[j].1:Int)<=fromV L base b/\fromV L base b<L[j].1+L[j].2/\findO L (fromV L base b)=j/\fromE L base b=0:=by
 obtain ⟨h1,h2⟩:=inF_iff.1 hb
 obtain ⟨hj,i,hi,e,-⟩:=placeO_spec (L:=L) (q:=(b-base).toNat) (by omega)
 obtain ⟨a1,a2,a3⟩:=from_at (base:=base) (b:=b) hj (by omega) (by omega)
 refine ⟨_,hj,a2,by omega,by omega,findO_eq h hj (by omega) (by omega),a3⟩
theorem insO_end {M:List Ob} {o:Ob} (h:∀ y∈M,¬ o.1<y.1):insO M o=M++[o]:=by
 induction M with
 | nil=>rfl
 | cons y r ih=>
  unfold insO
  rw [if_neg (h y (List.mem_cons_self ..)),ih (fun z hz=>h z (List.mem_cons_of_mem _ hz))];rfl
theorem add_next {n:Nat} {L:List Ob} (h:Good n L) {j:Nat} (hj:j<L.length):addL (L.take j) n (L[j].1:Nat) (L[j].2:Nat)=L.take (j+1):=by
 have hs:=h.sz _ (List.getElem_mem hj)
 have hle:∀ o∈L.take j,o.1+o.2<=L[j].1:=fun o ho=>by
  obtain ⟨i,hi,hij,rfl⟩:=mem_take_lt ho
  exact h.at hi hj hij
 have hc:clashB (L.take j) (L[j].1:Nat) (L[j].2:Nat)=false:=by
  cases e:clashB (L.take j) (L[j].1:Nat) (L[j].2:Nat) with
  | false=>rfl
  | true=>obtain ⟨o,ho,h1,h2⟩:=clash_iff.1 e;have:=hle o ho;omega
 have he:addE (L.take j) n (L[j].1:Nat) (L[j].2:Nat)=0:=by
  unfold addE;rw [if_neg (by omega),if_neg (by omega),hc];rfl
 unfold addL
 rw [if_pos he,Int.toNat_natCast,Int.toNat_natCast,insO_end (fun y hy=>by have:=hle y hy;omega),List.take_succ_eq_append_getElem hj]
end Go.Proofs.YthgdadohijgleaaGreatDoor
end
section
namespace Go.Proofs.YthgdadohijgleaaGreatDoor
open Go.RowKit Word
def Fwd (w:World) (F f n B:Nat) (base:Nat) (L:List Ob):Prop:=
 f<w.heap.size/\F<=f/\base<2147483648/\∃ t o p1 b1 p2 b2,w.cell? ⟨f,0,none⟩=some (.pointer (some ⟨t,0,none⟩))/\w.cell? ⟨f,1,none⟩=some (.pointer (some ⟨o,0,none⟩))/\w.cell? ⟨f,2,none⟩=some (.int .i64 base) ∧
  OffT w F t n B L/\Ext w o p1 b1 p2 b2 n L/\F<=o/\F<=p1/\F<=b1/\F<=p2/\F<=b2
theorem Fwd.touch {S:Nat->Prop} {w w':World} {F f n B base:Nat} {L:List Ob} (h:Fwd w F f n B base L) (t:Touch S w w') (hS:∀ k,F<=k->k<w.heap.size->¬ S k):Fwd w' F f n B base L:=by
 obtain ⟨h1,h2,h3,tt,o,p1,b1,p2,b2,c0,c1,c2,hO,hE,k1,k2,k3,k4,k5⟩:=h
 exact ⟨Nat.lt_of_lt_of_le h1 t.size,h2,h3,tt,o,p1,b1,p2,b2,(t.cell h1 (hS f h2 h1) 0).trans c0,(t.cell h1 (hS f h2 h1) 1).trans c1,(t.cell h1 (hS f h2 h1) 2).trans c2,hO.touch t hS,hE.touch t (hS _ k1 hE.hm) (hS _ k2 hE.v1.hp) (hS _ k3 hE.v1.hb) (hS _ k4 hE.v2.hp) (hS _ k5 hE.v2.hb),k1,k2,k3,k4,k5⟩
theorem Fwd.gr {w w':World} {F f n B base:Nat} {L:List Ob} (h:Fwd w F f n B base L) (g:Gr w w'):Fwd w' F f n B base L:=h.touch (g.touch (fun _=>False)) (fun _ _ _ h=>h)
theorem Fwd.good {w:World} {F f n B base:Nat} {L:List Ob} (h:Fwd w F f n B base L):Good n L/\n<=1048576:=by
 obtain ⟨_,_,_,_,_,_,_,_,_,_,_,_,hO,hE,_⟩:=h
 exact ⟨hE.good,hE.nb.2⟩
theorem overs_to {n:Nat} {L:List Ob} (h:Good n L) (hn:n<=1048576) (a:Int):0<=overs L 0 a/\overs L 0 a<=1048576:=by
 rw [<-liveN_eq h]
 have:liveN L n 0 a<=n:=cnt_le _ _
 omega
section
variable {w:World} {F f n B base:Nat} {L:List Ob}
set_option maxRecDepth 100000 in
set_option maxHeartbeats 800000 in
theorem fwd_to (hF:Fwd w F f n B base L) (a:Int):Gets Tryz.prog 206 #[.pointer (some ⟨f,0,none⟩),.int .i64 a] w (.tuple #[.int .i64 (toV L base a),.int .i64 (toE L a)]):=by
 obtain ⟨hg,hn⟩:=hF.good
 obtain ⟨h1,h2,h3,t,o,p1,b1,p2,b2,c0,c1,c2,hO,hE,-⟩:=hF
 have HO:=hid hO
 have hov:=overs_to hg hn a
 have hl:=live_find (L:=L) a
 clear hO hE hg
 by_cases hf:findO L a<L.length
 ·have HV:Hid (toV L base a=base+overs L 0 a/\toE L a=0):=⟨by unfold toV toE;rw [if_pos hf,if_pos hf];exact ⟨rfl,rfl⟩⟩
  have HL:Hid ((decide (0<=a)&&liveB L a.toNat)=true):=⟨by rw [hl,decide_eq_true hf]⟩
  rw [HV.out.1,HV.out.2]
  obtain ⟨ov,hov2⟩:∃ ov,ov=overs L 0 a:=⟨_,rfl⟩
  rw [<-hov2] at hov ⊢
  have HOV:=hid hov2.symm
  have z0:∀ xs m,(grow w xs m).cell? ⟨f,0,none⟩=some (.pointer (some ⟨t,0,none⟩)):=fun xs m=>((grown w xs m).cell h1 0).trans c0
  have z2:∀ xs m,(grow w xs m).cell? ⟨f,2,none⟩=some (.int .i64 base):=fun xs m=>((grown w xs m).cell h1 2).trans c2
  have hwr:IntKind.i64.wrap ((base:Int)+ov)=(base:Int)+ov:=IntWalk.i64_in _ (by omega)
  clear hl hf hov2
  unfold Gets
  go_enter Tryz.func206,Tryz.ntmps206
  go_wp2_with (go_at_call 296;refine (off_is HO.out a).mono ?_;rintro e w1 ⟨rfl,rfl⟩;rw [HL.out])
  refine wp_region_by (by kernel_rfl) (by kernel_rfl) ?_
  repeat (go_big_quiet_step ((go_at_call 297;have hc:=fun xs m=>off_before (HO.out.gr (grown w xs m)) a;simp only [HOV.out] at hc;exact Gets.grown (hc _ _))))
  refine wpQuiet_nil ?_
  intro _ hw'
  obtain ⟨⟨xs,nq⟩,hw''⟩:=hw'
  subst hw''
  go_wp2
  go_ret2
  exact ⟨rfl,grown w _ _⟩
 ·have HV:=hid (toV_no (base:=base) hf)
  have HL:Hid ((decide (0<=a)&&liveB L a.toNat)=false):=⟨by rw [hl,decide_eq_false hf]⟩
  rw [HV.out.1,HV.out.2]
  clear hl hf
  unfold Gets
  go_enter Tryz.func206,Tryz.ntmps206
  go_wp2_with (go_at_call 296;refine (off_is HO.out a).mono ?_;rintro e w1 ⟨rfl,rfl⟩;rw [HL.out])
  go_ret2
  exact ⟨rfl,Gr.refl _⟩
theorem fwd_base (hF:Fwd w F f n B base L):Calls Tryz.prog 269 #[.pointer (some ⟨f,0,none⟩)] w fun e w'=>e=.returned (.int .i64 base)/\w=w':=by
 obtain ⟨h1,h2,h3,t,o,p1,b1,p2,b2,c0,c1,c2,-⟩:=hF
 go_enter Tryz.func269,Tryz.ntmps269
 go_wp2
 go_ret
 exact ⟨rfl,rfl⟩
theorem fwd_words (hF:Fwd w F f n B base L):Calls Tryz.prog 252 #[.pointer (some ⟨f,0,none⟩)] w fun e w'=>e=.returned (.int .i64 (sizes L:Nat))/\w=w':=by
 obtain ⟨h1,h2,h3,t,o,p1,b1,p2,b2,c0,c1,c2,hO,-⟩:=hF
 have HO:=hid hO
 clear hO
 go_enter Tryz.func252,Tryz.ntmps252
 go_wp2_with (go_at_call 262;refine (off_live HO.out).mono ?_;rintro e w1 ⟨rfl,rfl⟩)
 go_ret
 exact ⟨rfl,rfl⟩
set_option maxHeartbeats 800000 in
theorem fwd_top (hF:Fwd w F f n B base L):Gets Tryz.prog 158 #[.pointer (some ⟨f,0,none⟩)] w (.int .i64 ((base:Int)+(sizes L:Nat))):=by
 obtain ⟨hg,hn⟩:=hF.good
 have hs:=sizes_le hg
 obtain ⟨h1,h2,h3,t,o,p1,b1,p2,b2,c0,c1,c2,hO,-⟩:=hF
 have HO:=hid hO
 clear hO hg
 have z0:∀ xs m,(grow w xs m).cell? ⟨f,0,none⟩=some (.pointer (some ⟨t,0,none⟩)):=fun xs m=>((grown w xs m).cell h1 0).trans c0
 have z2:∀ xs m,(grow w xs m).cell? ⟨f,2,none⟩=some (.int .i64 base):=fun xs m=>((grown w xs m).cell h1 2).trans c2
 have hwr:IntKind.i64.wrap ((base:Int)+(sizes L:Nat))=(base:Int)+(sizes L:Nat):=IntWalk.i64_in _ (by omega)
 unfold Gets
 go_enter Tryz.func158,Tryz.ntmps158
 go_wp2
 refine wp_region_by (by kernel_rfl) (by kernel_rfl) ?_
 repeat (go_big_quiet_step ((go_at_call 262;have hc:=fun xs m=>off_live (HO.out.gr (grown w xs m));exact Gets.grown_same (hc _ _))))
 refine wpQuiet_nil ?_
 intro _ hw'
 obtain ⟨⟨xs,nq⟩,hw''⟩:=hw'
 subst hw''
 go_wp2
 go_ret
 exact ⟨rfl,grown w _ _⟩
set_option maxRecDepth 100000 in
set_option maxHeartbeats 800000 in
theorem fwd_from (hF:Fwd w F f n B base L) (hT:TabAt w) (b:Int) (_hb:b<=9223372036854775807):Gets Tryz.prog 167 #[.pointer (some ⟨f,0,none⟩),.int .i64 b] w (.tuple #[.int .i64 (fromV L base b),.int .i64 (fromE L base b)]):=by
 obtain ⟨hg,hn⟩:=hF.good
 have hs:=sizes_le hg
 have HF:=hid hF
 have HT:=hid hT
 obtain ⟨h1,h2,h3,t,o,p1,b1,p2,b2,c0,c1,c2,hO,-⟩:=hF
 have HO:=hid hO
 clear hO hg hT
 by_cases hb1:b<base
 ·have E:=hid (from_no (inF_false (L:=L) (base:=base) (b:=b) (by omega)))
  rw [E.out.1,E.out.2.2]
  unfold Gets
  go_enter Tryz.func167,Tryz.ntmps167
  go_wp2
  go_ret2
  exact ⟨rfl,Gr.refl _⟩
 ·by_cases hb2:(base:Int)+(sizes L:Nat)<=b
  ·have E:=hid (from_no (inF_false (L:=L) (base:=base) (b:=b) (by omega)))
   rw [E.out.1,E.out.2.2]
   have d1:decide (b<(base:Int))=false:=decide_eq_false hb1
   have d2:decide ((base:Int)+(sizes L:Nat)<=b)=true:=decide_eq_true hb2
   unfold Gets
   go_enter Tryz.func167,Tryz.ntmps167
   go_wp2_with (go_at_call 158;refine (fwd_top HF.out).mono ?_;rintro e w1 ⟨rfl,hg1⟩)
   go_ret2
   exact ⟨rfl,hg1⟩
  ·have hin:inF L base b=true:=inF_iff.2 ⟨by omega,by omega⟩
   have E:Hid (fromV L base b=wordV L (b-base)/\fromE L base b=0):=⟨by unfold fromV fromE;rw [hin];exact ⟨rfl,rfl⟩⟩
   rw [E.out.1,E.out.2]
   obtain ⟨q,hq⟩:∃ q,q=b-(base:Int):=⟨_,rfl⟩
   have HQ:=hid hq
   have hq2:(0:Int)<=b-base:=by omega
   have d1:decide (b<(base:Int))=false:=decide_eq_false hb1
   have d2:decide ((base:Int)+(sizes L:Nat)<=b)=false:=decide_eq_false hb2
   have hwr:IntKind.i64.wrap (b-(base:Int))=b-(base:Int):=IntWalk.i64_in _ (by omega)
   clear hin hq
   unfold Gets
   go_enter Tryz.func167,Tryz.ntmps167
   go_wp2_with (go_at_call 158;refine (fwd_top HF.out).mono ?_;rintro e w1 ⟨rfl,hg1⟩)
   have HG1:=hid hg1
   have z0:∀ xs m,(grow w1 xs m).cell? ⟨f,0,none⟩=some (.pointer (some ⟨t,0,none⟩)):=fun xs m=>((HG1.out.trans (grown w1 xs m)).cell h1 0).trans c0
   have z2:∀ xs m,(grow w1 xs m).cell? ⟨f,2,none⟩=some (.int .i64 base):=fun xs m=>((HG1.out.trans (grown w1 xs m)).cell h1 2).trans c2
   clear hg1
   refine wp_region_by (by kernel_rfl) (by kernel_rfl) ?_
   repeat (go_big_quiet_step ((go_at_call 270;have hc:=fun xs m=>off_word (HO.out.gr (HG1.out.trans (grown w1 xs m))) ((HG1.out.trans (grown w1 xs m)).tab HT.out.lt HT.out) (b-(base:Int));exact Gets.grown (hc _ _))))
   refine wpQuiet_nil ?_
   intro _ hw'
   obtain ⟨⟨xs,nq⟩,hw''⟩:=hw'
   subst hw''
   go_wp2
   go_ret2
   exact ⟨rfl,HG1.out.trans (grown w1 _ _)⟩
end
end Go.Proofs.YthgdadohijgleaaGreatDoor
end
section
namespace Go.Proofs.YthgdadohijgleaaGreatDoor
open Go.RowKit Go.Shelf Word
attribute [local go_sem] Oper.semAt_some
structure FwdI (W0:World) (o p1 b1 p2 b2 n:Nat) (L:List Ob) (j:Nat) (A:World):Prop where
 t:Touch (fun i=>mine o b1 b2 i\/W0.heap.size<=i) W0 A
 jl:j<=L.length
 ext:Ext A o p1 b1 p2 b2 n (L.take j)
def baseOk (b:Int):Bool:=decide (0<=b)&&decide (b<2147483648)
def NewFwd (w:World) (n:Nat) (L:List Ob) (k b:Int) (e:Ending) (w':World):Prop:=
 Gr w w'/\(((blockOk k&&baseOk b)=false/\e=.returned (.tuple #[.pointer none,.int .i64 5]))\/((blockOk k&&baseOk b)=true/\∃ f B base:Nat,k=B/\b=base/\e=.returned (.tuple #[.pointer (some ⟨f,0,none⟩),.int .i64 0])/\Fwd w' w.heap.size f n B base L))
theorem fwd_new_bad {w:World} {m p1 b1 p2 b2 n:Nat} {L:List Ob} (hE:Ext w m p1 b1 p2 b2 n L) (hT:TabAt w) (k b:Int) (hk:k<=9223372036854775807) (hbad:(blockOk k&&baseOk b)=false):
  Calls Tryz.prog 202 #[.pointer (some ⟨m,0,none⟩),.int .i64 k,.int .i64 b] w (NewFwd w n L k b):=by
 have HE:=hid hE
 have HT:=hid hT
 clear hE hT
 have HB:=hid hbad
 refine (callsIn_wide (n:=5)).1 ?_
 refine callsIn_of_wp_marks Tryz.func202 rfl trivial ?_ rfl
 simp only [Tryz.ntmps202,List.size_toArray,List.length_cons,List.length_nil,Nat.reduceAdd,Nat.reduceSub,Array.replicate_succ,Array.replicate_zero,List.push_toArray,List.append_toArray,List.nil_append,List.cons_append]
 cases hok:blockOk k with
 | false=>
  have HO:=hid hok
  clear hbad hok
  gi_wp2_with (refine ⟨trivial,?_⟩;gi_at_call 292;refine (callsIn_wide.2 (off_new HE.out HT.out k hk)).mono ?_;rintro e w1 ⟨hg1,⟨-,rfl⟩ | ⟨hb,-⟩⟩;rotate_left;(rw [HO.out] at hb;cases hb);have HG1:=hid hg1;clear hg1)
  refine ⟨.tuple #[.pointer none,.int .i64 5],?_,HG1.out,.inl ⟨HB.out,rfl⟩⟩
  simp [results,Tryz.f202,go_sem]
 | true=>
  rw [hok,Bool.true_and] at hbad
  have HO:=hid hok
  clear hok
  by_cases h0:b<0
  ·have d0:decide (b<0)=true:=decide_eq_true h0
   clear hbad
   gi_wp2_with (refine ⟨trivial,?_⟩;gi_at_call 292;refine (callsIn_wide.2 (off_new HE.out HT.out k hk)).mono ?_;rintro e w1 ⟨hg1,⟨hb,-⟩ | ⟨-,t,B,hkB,rfl,hO⟩⟩;(rw [HO.out] at hb;cases hb);have HG1:=hid hg1;clear hg1 hO hkB)
   refine ⟨.tuple #[.pointer none,.int .i64 5],?_,HG1.out,.inl ⟨HB.out,rfl⟩⟩
   simp [results,Tryz.f202,go_sem]
  ·have h1:2147483648<=b:=by
    unfold baseOk at hbad
    rw [decide_eq_true (by omega),Bool.true_and] at hbad
    have:=of_decide_eq_false hbad
    omega
   have d0:decide (b<0)=false:=decide_eq_false h0
   have d1:decide ((2147483648:Int)<=b)=true:=decide_eq_true h1
   clear hbad
   gi_wp2_with (refine ⟨trivial,?_⟩;gi_at_call 292;refine (callsIn_wide.2 (off_new HE.out HT.out k hk)).mono ?_;rintro e w1 ⟨hg1,⟨hb,-⟩ | ⟨-,t,B,hkB,rfl,hO⟩⟩;(rw [HO.out] at hb;cases hb);have HG1:=hid hg1;clear hg1 hO hkB)
   refine ⟨.tuple #[.pointer none,.int .i64 5],?_,HG1.out,.inl ⟨HB.out,rfl⟩⟩
   simp [results,Tryz.f202,go_sem]
set_option maxRecDepth 100000 in
set_option maxHeartbeats 3200000 in
theorem fwd_new {w:World} {m p1 b1 p2 b2 n:Nat} {L:List Ob} (hE:Ext w m p1 b1 p2 b2 n L) (hT:TabAt w) (k b:Int) (hk:k<=9223372036854775807):
  Calls Tryz.prog 202 #[.pointer (some ⟨m,0,none⟩),.int .i64 k,.int .i64 b] w (NewFwd w n L k b):=by
 cases hgo:(blockOk k&&baseOk b) with
 | false=>exact fwd_new_bad hE hT k b hk hgo
 | true=>
  have HGO:=hid hgo
  obtain ⟨hok,hbo⟩:=Bool.and_eq_true_iff.1 hgo
  have hb01:0<=b/\b<2147483648:=by unfold baseOk at hbo;simpa using hbo
  obtain ⟨base,rfl⟩:∃ base:Nat,b=base:=⟨b.toNat,by omega⟩
  obtain ⟨hb0,hb1⟩:=hb01
  have d0:decide ((base:Int)<0)=false:=decide_eq_false (by omega)
  have d1:decide ((2147483648:Int)<=(base:Int))=false:=decide_eq_false (by omega)
  have HO:=hid hok
  have HE:=hid hE
  have HT:=hid hT
  obtain ⟨hn1,hn2⟩:=hE.nb
  have hTl:=hT.lt
  clear hE hT hok hbo hgo
  refine (callsIn_wide (n:=5)).1 ?_
  refine callsIn_of_wp_marks Tryz.func202 rfl trivial ?_ rfl
  simp only [Tryz.ntmps202,List.size_toArray,List.length_cons,List.length_nil,Nat.reduceAdd,Nat.reduceSub,Array.replicate_succ,Array.replicate_zero,List.push_toArray,List.append_toArray,List.nil_append,List.cons_append]
  gi_wp2_with (first
   | (refine ⟨trivial,?_⟩;gi_at_call 292;refine (callsIn_wide.2 (off_new HE.out HT.out k hk)).mono ?_;rintro e w1 ⟨hg1,⟨hb,-⟩ | ⟨-,t,B,hkB,rfl,hO⟩⟩;(rw [HO.out] at hb;cases hb);have HG1:=hid hg1;have HOT:=hid hO;have HKB:=hid hkB;clear hg1 hO hkB)
   | (refine ⟨trivial,?_⟩;gi_at_call 187;refine (callsIn_wide.2 (ext_words (HE.out.gr HG1.out))).mono ?_;rintro e w2 ⟨rfl,rfl⟩)
   | (refine ⟨trivial,?_⟩;gi_at_call 89;refine (callsIn_wide.2 (ext_new n hn1 hn2 _)).mono ?_;rintro e w2 ⟨o,q1,r1,q2,r2,rfl,hg2,hE2,hx1,hx2,hx3,hx4,hx5⟩;have HG2:=hid hg2;have HE2:=hid hE2;have HX:=hid (And.intro hx1 (And.intro hx2 (And.intro hx3 (And.intro hx4 hx5))));clear hg2 hE2 hx1 hx2 hx3 hx4 hx5)
   | (refine ⟨trivial,?_⟩;gi_at_call 203;refine (callsIn_wide.2 (all_call (some ⟨m,0,none⟩))).mono ?_;rintro e w3 ⟨rfl,rfl⟩))
  obtain ⟨X,hX⟩:∃ X,X=w2.heap.size:=⟨_,rfl⟩
  obtain ⟨W0,hW0⟩:∃ W0,W0=(w2.alloc (.cells #[.pointer (some ⟨o,0,none⟩)] 155)).alloc (.cells #[.pointer (some ⟨m,0,none⟩)] 155):=⟨_,rfl⟩
  have hg0:Gr w2 W0:=by rw [hW0];exact ((Gr.refl w2).alloc _).alloc _
  have hs0:W0.heap.size=X+2:=by rw [hW0,hX];simp
  have e0:W0.cell? ⟨X,0,none⟩=some (.pointer (some ⟨o,0,none⟩)):=by rw [hW0,hX];exact ((Boxed.new w2 _ _).alloc _).cell
  have e1:W0.cell? ⟨X+1,0,none⟩=some (.pointer (some ⟨m,0,none⟩)):=by
   rw [hW0,hX]
   have:=Boxed.new (w2.alloc (.cells #[.pointer (some ⟨o,0,none⟩)] 155)) 155 (.pointer (some ⟨m,0,none⟩))
   rw [World.size_alloc] at this
   exact this.cell
  have hz1:=HG1.out.size
  have hz2:=HG2.out.size
  have o1:=HE.out.hm
  have o2:=HE.out.v1.hp
  have o3:=HE.out.v1.hb
  have o4:=HE.out.v2.hp
  have o5:=HE.out.v2.hb
  have j1:=HE2.out.hm
  have j2:=HE2.out.v1.hp
  have j3:=HE2.out.v1.hb
  have j4:=HE2.out.v2.hp
  have j5:=HE2.out.v2.hb
  have hx:=HX.out
  rw [<-hX] at hz2 j1 j2 j3 j4 j5
  have HG0:=hid ((HG1.out.trans HG2.out).trans hg0)
  have HE0:=hid (HE.out.gr HG0.out)
  have HEO:=hid (HE2.out.gr hg0)
  have HOG:=hid (HG2.out.trans hg0)
  have hgood:=HE.out.good
  have HC0:=hid (And.intro e0 e1)
  have HW1:=hid (show w.heap.size<=w1.heap.size from hz1)
  rw [<-hW0,<-hX]
  clear hW0 hX hg0 e0 e1
  have hml:∀ i,mine o r1 r2 i->w1.heap.size<=i/\i<X:=fun i h=>by rcases h with rfl | rfl | rfl <;> omega
  have h00:FwdI W0 o q1 r1 q2 r2 n L 0 W0:=⟨Touch.refl _ _,Nat.zero_le _,HEO.out⟩
  have tI:∀ j A B,FwdI W0 o q1 r1 q2 r2 n L j A->Touch (fun i=>W0.heap.size<=i) A B->FwdI W0 o q1 r1 q2 r2 n L j B:=fun j A B h t=>
   ⟨h.t.trans (t.mono (fun i _ h=>.inr h)),h.jl,h.ext.touch t (by omega) (by omega) (by omega) (by omega) (by omega)⟩
  refine range_lawT (s0:=0) rfl (by omega) (gf:=294) (lb:=#[.pointer (some ⟨X+1,0,none⟩)]) rfl trivial (enters_of Tryz.func294 (by kernel_rfl) rfl)
   (all_seq _ (X+1) m p1 b1 p2 b2 n L _) (fun _=>rfl)
   (FwdI W0 o q1 r1 q2 r2 n L) (fun _ _=>False) tI (fun _ _ _ h _=>h)
   (fun j A h=>⟨HE0.out.touch h.t (fun h=>by rcases h with h | h;have:=hml _ h;omega;omega) (fun h=>by rcases h with h | h;have:=hml _ h;omega;omega) (fun h=>by rcases h with h | h;have:=hml _ h;omega;omega) (fun h=>by rcases h with h | h;have:=hml _ h;omega;omega) (fun h=>by rcases h with h | h;have:=hml _ h;omega;omega),
    (HG0.out.tab HT.out.lt HT.out).touch' h.t (fun h=>by rcases h with h | h;have:=hml _ h;omega;omega),(h.t.cell (by omega) (fun h=>by rcases h with h | h;have:=hml _ h;omega;omega) 0).trans HC0.out.2,h.jl⟩)
   h00 ?round ?done (fun _ _ _ _ h _=>h.elim)
  case round=>
   intro lp j x W3 hsz3 hI3 hgv
   dsimp only [encO]
   gi_wp2
   refine ⟨Gr.refl _,fun W4 ht4 hI4=>?_⟩
   have hjl:j<L.length:=by
    rcases Nat.lt_or_ge j L.length with h | h
    ·exact h
    ·unfold AllGives at hgv;rw [List.getElem?_eq_none h] at hgv;cases hgv
   obtain rfl:x=L[j]:=by unfold AllGives at hgv;rw [List.getElem?_eq_getElem hjl] at hgv;exact (Option.some.inj hgv).symm
   have hsz':=hgood.sz _ (List.getElem_mem hjl)
   have HLV:=hid (add_next hgood hjl)
   have c6:=(hI4.t.cell (b:=X) (by omega) (fun h=>by rcases h with h | h;have:=hml _ h;omega;omega) 0).trans HC0.out.1
   have HTA:=hid ((HG0.out.tab HT.out.lt HT.out).touch' hI4.t (fun h=>by rcases h with h | h;have:=hml _ h;omega;omega))
   have HI4:=hid hI4
   clear hI4 hI3 ht4 hgv
   gi_wp2_with (refine ⟨trivial,?_⟩;gi_at_call 293;refine (CallsIn.inRound lp (callsIn_wide.2 (ext_add HI4.out.ext HTA.out _ _))).mono ?_;rintro e w5 ⟨rfl,ht5,hv5⟩)
   rw [HLV.out] at hv5
   exact ⟨ht5.mono (fun i _ h=>by have:=hml _ h;omega),j+1,rfl,HI4.out.t.trans (ht5.mono (fun i _ h=>.inl h)),by omega,hv5⟩
  case done=>
   rintro D j W3 hD rfl hI3 hK
   have c6:=(hI3.t.cell (b:=X) (by omega) (fun h=>by rcases h with h | h;have:=hml _ h;omega;omega) 0).trans HC0.out.1
   have hE3:=hI3.ext
   rw [List.take_length] at hE3
   have HE3:=hid hE3
   have HS3:=hid ((HOG.out.touch (fun i=>w1.heap.size<=i)).trans' hI3.t (fun i hi h=>by rcases h with h | h;exact (hml _ h).1;omega))
   have HK:=hid hK
   have HD:=hid hD
   have hg3:Gr w W3:=((HG0.out.touch (fun _=>False)).trans' hI3.t (fun i hi h=>by rcases h with h | h;have:=hml _ h;omega;omega)).gr
   have HG3:=hid hg3
   have hz6:=hI3.t.size
   clear hE3 hI3 hK hD hg3
   gi_wp2
   obtain ⟨O,hO⟩:∃ O:Obj,O=.cells #[.pointer (some ⟨t,0,none⟩),.pointer (some ⟨o,0,none⟩),.int .i64 base] 336:=⟨_,rfl⟩
   rw [<-hO]
   have hD5:(W3.alloc O).heap[D]?=some (.deferred (some [])):=(((Gr.refl W3).alloc _).block (Array.getElem?_eq_some_iff.1 HK.out).1).trans HK.out
   have tt:=((HG3.out.alloc O).touch (fun _=>False)).trans' (touch_putObj _ D (.deferred none) (Nat.le_refl D)) (fun i hi h=>by have:=HD.out;have:=HG0.out.size;omega)
   refine ⟨by simp,.inl ⟨_,_,rfl,run_takeDeferred hD5,?_⟩⟩
   refine ⟨.tuple #[.pointer (some ⟨W3.heap.size,0,none⟩),.int .i64 0],?_,tt.gr,.inr ⟨HGO.out,W3.heap.size,B,base,HKB.out,rfl,rfl,?_⟩⟩
   ·simp [results,Tryz.f202,go_sem]
   ·have t5:=touch_put1 (W3.alloc O) D (.deferred none)
    have hdl:=(Array.getElem?_eq_some_iff.1 HK.out).1
    have hd:=HD.out
    have hl:W3.heap.size<(W3.alloc O).heap.size:=by rw [World.size_alloc];omega
    subst hO
    exact ⟨Nat.lt_of_lt_of_le hl t5.size,by omega,by omega,t,o,q1,r1,q2,r2,(t5.cell (b:=W3.heap.size) hl (by omega) 0).trans (World.cell?_alloc_new ..),(t5.cell (b:=W3.heap.size) hl (by omega) 1).trans (World.cell?_alloc_new ..),(t5.cell (b:=W3.heap.size) hl (by omega) 2).trans (World.cell?_alloc_new ..),
     HOT.out.touch ((HS3.out.trans (((Gr.refl W3).alloc _).touch _)).trans' t5 (fun i hi h=>by omega)) (fun k _ h1 h2=>by omega),(HE3.out.gr ((Gr.refl _).alloc _)).touch t5 (by omega) (by omega) (by omega) (by omega) (by omega),by omega,by omega,by omega,by omega,by omega⟩
end Go.Proofs.YthgdadohijgleaaGreatDoor
end
section
namespace Go.Proofs.YthgdadohijgleaaGreatDoor
open Go.RowKit
def heldR (v:Value):Option (DataW Value × List MemPlace):=some (.held v,[])
def MapI (P:Program) (K:TypeId) (w:World) (b n:Nat) (f:Int->Option Value):Prop:=
 ∃ D:DataW Value,w.ownsMap P K heldR b n D/\∀ x:Int,(Lit.int .i64 x).wf=true->Maps.has D (.int .i64 x)=(f x).isSome/\∀ v,f x=some v->∀ z,D.atKey (.int .i64 x) z=.held v
section
variable {P:Program} {K:TypeId} {w:World} {b n:Nat} {f:Int->Option Value}
theorem MapI.made (w:World):MapI P K (w.alloc (.map #[] 0)) w.heap.size 0 (fun _=>none):=
 ⟨.map [],World.ownsMap_made _ _ _ _,fun _ _=>⟨rfl,fun _ h=>by cases h⟩⟩
theorem MapI.lt (h:MapI P K w b n f):b<w.heap.size:=by obtain ⟨D,h,-⟩:=h;exact h.lt
theorem MapI.touch {S:Nat->Prop} {w':World} (h:MapI P K w b n f) (t:Touch S w w') (hS:¬ S b):MapI P K w' b n f:=by
 obtain ⟨D,h,hf⟩:=h
 have hlt:=h.lt
 obtain ⟨es,clock,hb,r⟩:=h
 exact ⟨D,⟨es,clock,(t.block b hlt hS).trans hb,r⟩,hf⟩
theorem MapI.gr {w':World} (h:MapI P K w b n f) (t:Gr w w'):MapI P K w' b n f:=h.touch (t.touch (fun _=>False)) (fun h=>h)
theorem MapI.ne {T:Nat} (h:MapI P K w b n f) {q:Nat} (hq:∃ cs fr,w.heap[q]?=some (.cells cs T fr)):b≠q:=by
 rintro rfl
 obtain ⟨D,⟨es,clock,hb,-⟩,-⟩:=h
 obtain ⟨cs,fr,hq⟩:=hq
 rw [hb] at hq
 cases hq
theorem MapI.look (h:MapI P K w b n f) (KI:Maps.Keyed P K) {t e:TypeId} (ht:P.underlying t=some (.map K e)) (hk:P.underlying K=some (.int .i64)) {z:Value} (hz:(zeroValue e).run P w=.ok z w) {x:Int} (hx:(Lit.int .i64 x).wf=true):
  (Instr.lookup t (.map (some b)) (.int .i64 x) false).run P w=.ok ((f x).getD z) w:=by
 obtain ⟨D,hD,hf⟩:=h
 obtain ⟨v,ps,hr,hv⟩:=hD.lookup KI ht hz (zd:=.held z) (zp:=[]) rfl (Maps.keyOf_int_mk hk hx)
 obtain ⟨h1,h2⟩:=hf x hx
 rw [hr]
 unfold heldR at hv
 simp only [Option.some.injEq,Prod.mk.injEq] at hv
 cases hfx:f x with
 | none=>
  rw [hfx] at h1
  have:=hv.1
  rw [Maps.atKey_of_not_has h1] at this
  simp only [DataW.held.injEq] at this
  rw [this];rfl
 | some u=>
  have:=hv.1
  rw [h2 u hfx] at this
  simp only [DataW.held.injEq] at this
  rw [this];rfl
end
theorem wpList_mapI {P:Program} (w:World) {ops:Array Oper} {rest:List Oper} {o:Oper} {a:Act} {Q:Exit->Act->World->Prop}
  (hg:o.guard=none) (m x v:Operand) (t:TypeId) (hop:o.op=Op.mapUpdate t m x v)
  (k e:TypeId) (K:Maps.Keyed P k) (ht:P.underlying t=some (.map k e)) (hk:P.underlying k=some (.int .i64)) (b n:Nat) (f:Int->Option Value)
  (hm:a.eval m=.map (some b)) (hown:MapI P k w b n f) (hn:n<maxLen) (key:Int) (val:Value) (hx:a.eval x=.int .i64 key) (hv:a.eval v=val) (hw:(Lit.int .i64 key).wf=true)
  (hK:∀ w',MapI P k w' b (n+1) (fun y=>if y=key then some val else f y)->Touch (fun i=>i=b) w w'->wpList P ops Q rest (a.put o.dst undef) w'):
  wpList P ops Q (o :: rest) a w:=by
 obtain ⟨D,hD,hf⟩:=hown
 have hkey:=Maps.keyOf_int_mk (P:=P) hk hw
 refine wpList_mapUpdate_own w hg m x v t hop k e K ht heldR b n D hm hD hn (.int .i64 key) val _ hx hv hkey (.held val) [] rfl fun w' h1 h2=>?_
 refine hK w' ⟨_,h1,fun y hy=>?_⟩ (grown_touch h2 _ (fun i hi _=>by cases hi;rfl))
 by_cases e:y=key
 ·subst e
  dsimp only
  rw [if_pos rfl]
  refine ⟨Maps.has_put_same hD.isMap (K.key hkey) _,fun v hv z=>?_⟩
  cases hv
  exact Maps.atKey_put_same hD.isMap (K.key hkey) _ _
 ·dsimp only
  rw [if_neg e]
  have hne:(Lit.int .i64 y)≠.int .i64 key:=fun h=>e (by injection h)
  exact ⟨(Maps.has_put_other hne _).trans (hf y hy).1,fun v hv z=>(Maps.atKey_put_other hne _ _).trans ((hf y hy).2 v hv z)⟩
end Go.Proofs.YthgdadohijgleaaGreatDoor
end
section
namespace Go.Proofs.YthgdadohijgleaaGreatDoor
open Go.RowKit Word
theorem zero_int (w:World):(zeroValue 3).run Tryz.prog w=.ok (.int .i64 0) w:=by kernel_rfl
theorem keyed_int:Maps.Keyed Tryz.prog 3:=Maps.int_keyed Tryz.underlying3
theorem rec_cells {w:World} {q T:Nat} {xs:List Value} (h:Rec w q T xs):∃ cs fr,w.heap[q]?=some (.cells cs T fr):=by
 obtain ⟨cur,h1⟩:=own_type h rfl
 exact ⟨cur,_,h1⟩
section
variable {w:World} {S:Nat->Prop} {K M q:Nat} {v v':Vm} {rs:List Int} {L:List Ob} {to:Nat} {O:List Int} {k i:Nat}
end
end Go.Proofs.YthgdadohijgleaaGreatDoor
end
section
namespace Go.Proofs.YthgdadohijgleaaGreatDoor
open Go.RowKit Word
theorem take_snoc {l:List Int} {i:Nat} (h:i<l.length):l.take (i+1)=l.take i++[l[i]]:=by rw [List.take_add_one,List.getElem?_eq_getElem h];rfl
section
variable {w:World} {S:Nat->Prop} {K M q:Nat} {v v':Vm} {rs:List Int} {L:List Ob} {to:Nat} {O:List Int} {k i:Nat}
end
end Go.Proofs.YthgdadohijgleaaGreatDoor
end
section
namespace Go.Proofs.YthgdadohijgleaaGreatDoor
open Go.RowKit
inductive MixT where
 | fin (qs:List Nat)
 | one (qs:List Nat) (k:Nat) (t:MixT)
 | two (qs:List Nat) (k1:Nat) (t1:MixT) (k2:Nat) (t2:MixT)
def MixT.len:MixT->Nat
 | .fin qs=>qs.length
 | .one qs _ t=>qs.length+(t.len+1)
 | .two qs _ t1 _ _=>qs.length+(t1.len+1)
def readsB (md:Region.Mode) (ops:Array Oper):List Nat->Array Bool->Option (Array Bool)
 | [],listed=>some listed
 | k :: r,listed=>if (Region.ready md ops listed).contains k&&Region.free md ops listed k&&((ops[k]?).any quietB) then readsB md ops r (listed.setIfInBounds k true) else none
def mixTB (md:Region.Mode) (ops:Array Oper):MixT->Array Bool->Bool
 | .fin qs,listed=>match readsB md ops qs listed with
  | some l=>(Region.ready md ops l).isEmpty
  | none=>false
 | .one qs k t,listed=>match readsB md ops qs listed with
  | some l=>decide (Region.ready md ops l=[k])&&mixTB md ops t (l.setIfInBounds k true)
  | none=>false
 | .two qs k1 t1 k2 t2,listed=>match readsB md ops qs listed with
  | some l=>decide (Region.ready md ops l=[k1,k2])&&decide (t1.len=t2.len)&&mixTB md ops t1 (l.setIfInBounds k1 true)&&mixTB md ops t2 (l.setIfInBounds k2 true)
  | none=>false
def wpMixT (P:Program) (l:List Oper) (S:World->Prop) (Q:Exit->Act->World->Prop):MixT->Act->World->Prop
 | .fin qs,a,w=>wpQuiet P l.toArray S (fun a'=>Q .normal a' w) (opsAt l qs) a
 | .one qs k t,a,w=>wpQuiet P l.toArray S (fun a'=>wpList P l.toArray (Exit.then (fun a2 w2=>S w2/\wpMixT P l S Q t a2 w2) Q) (opsAt l [k]) a' w) (opsAt l qs) a
 | .two qs k1 t1 k2 t2,a,w=>wpQuiet P l.toArray S (fun a'=>wpList P l.toArray (Exit.then (fun a2 w2=>S w2/\wpMixT P l S Q t1 a2 w2) Q) (opsAt l [k1]) a' w/\wpList P l.toArray (Exit.then (fun a2 w2=>S w2/\wpMixT P l S Q t2 a2 w2) Q) (opsAt l [k2]) a' w) (opsAt l qs) a
section
variable {P:Program} {l:List Oper} {Q:Exit->Act->World->Prop} {md:Region.Mode} {S:World->Prop} {z:Nat}
theorem reads_quiet (hsel:Region.noSelect l.toArray=true) (hQ:∀ c a b w,Q (.panic c) b w->Q (.panic c) a w) (hz:sinkZ md l.toArray z=true) {w:World} (hS:S w) {K:Act->Prop} {f:Nat} {l':Array Bool}
  (hK:∀ a,Closed md l.toArray l'->K a->wpAnyZ P md l.toArray Q S z f l' a w):
  ∀ (qs:List Nat) (listed:Array Bool) (a:Act),readsB md l.toArray qs listed=some l'->Closed md l.toArray listed->wpQuiet P l.toArray S K (opsAt l qs) a →
   wpAnyZ P md l.toArray Q S z (qs.length+f) listed a w
 | [],listed,a,hB,hc,h=>by
  simp only [readsB,Option.some.injEq] at hB
  subst hB
  simpa using hK a hc h
 | k :: qs,listed,a,hB,hc,h=>by
  simp only [readsB] at hB
  split at hB
  ·rename_i hb
   simp only [Bool.and_eq_true] at hb
   obtain ⟨⟨hr,hf⟩,hq⟩:=hb
   cases ho:l.toArray[k]? with
   | none=>rw [ho] at hq;cases hq
   | some o=>
    rw [ho] at hq
    have hq:quietB o=true:=hq
    have hr':k∈Region.ready md l.toArray listed:=by simpa using hr
    rw [opsAt_cons ho] at h
    simp only [wpQuiet] at h
    have hy:∃ v,YieldsIf P l.toArray S o v a/\wpQuiet P l.toArray S K (opsAt l qs) (a.put o.dst v):=by
     split at h
     ·rename_i hw
      obtain ⟨v,h1,h2⟩:=h
      exact ⟨v,yields_of_quiet hq hw h1,h2⟩
     ·rename_i hw
      exact ⟨undef,.inr ⟨by simpa using hw,rfl⟩,h⟩
    obtain ⟨v,hy,hK'⟩:=hy
    have hlen:(k :: qs).length+f=(qs.length+f)+1:=by simp;omega
    rw [hlen]
    exact wpAnyZ_first ho (Region.noSelect_spec hsel) (fun c a w h=>hQ c a _ w h) hz _ listed a w hc (Region.free_spec ho hf) hr' hy hS (reads_quiet hsel hQ hz hS hK qs _ _ hB (hc.set hr') hK')
  ·cases hB
theorem mixT_all (hsel:Region.noSelect l.toArray=true) (hQ:∀ c a b w,Q (.panic c) b w->Q (.panic c) a w) (hz:sinkZ md l.toArray z=true):
  ∀ (t:MixT) (listed:Array Bool) (a:Act) (w:World),mixTB md l.toArray t listed=true->Closed md l.toArray listed->S w->wpMixT P l S Q t a w->wpAnyZ P md l.toArray Q S z t.len listed a w
 | .fin qs,listed,a,w,hB,hc,hS,h=>by
  simp only [mixTB] at hB
  split at hB
  ·rename_i l' hl
   exact reads_quiet (f:=0) (K:=fun a'=>Q .normal a' w) hsel hQ hz hS (fun a _ h=>⟨by simpa using hB,h⟩) qs listed a hl hc h
  ·cases hB
 | .one qs k t,listed,a,w,hB,hc,hS,h=>by
  simp only [mixTB] at hB
  split at hB
  ·rename_i l' hl
   simp only [Bool.and_eq_true,decide_eq_true_eq] at hB
   obtain ⟨hr,hB'⟩:=hB
   refine reads_quiet hsel hQ hz hS (fun a hc h=>?_) qs listed a hl hc h
   have hkr:k∈Region.ready md l.toArray l':=by rw [hr];simp
   refine ⟨fun h0=>(by rw [hr] at h0;cases h0),fun i hi=>?_⟩
   rw [hr] at hi
   obtain rfl:i=k:=by simpa using hi
   obtain ⟨_,o,ho,_⟩:=mem_ready.1 hkr
   rw [opsAt_cons ho] at h
   exact wpOp_then ho (fun a2 w2 h2=>⟨.inr h2.1,mixT_all hsel hQ hz t _ a2 w2 hB' (hc.set hkr) h2.1 h2.2⟩) h
  ·cases hB
 | .two qs k1 t1 k2 t2,listed,a,w,hB,hc,hS,h=>by
  simp only [mixTB] at hB
  split at hB
  ·rename_i l' hl
   simp only [Bool.and_eq_true,decide_eq_true_eq] at hB
   obtain ⟨⟨⟨hr,hlen⟩,hB1⟩,hB2⟩:=hB
   refine reads_quiet hsel hQ hz hS (fun a hc h=>?_) qs listed a hl hc h
   refine ⟨fun h0=>(by rw [hr] at h0;cases h0),fun i hi=>?_⟩
   have hkr:i∈Region.ready md l.toArray l':=hi
   rw [hr] at hi
   obtain ⟨_,o,ho,_⟩:=mem_ready.1 hkr
   have hi:i=k1\/i=k2:=by simpa using hi
   rcases hi with rfl | rfl
   ·have h:=h.1
    rw [opsAt_cons ho] at h
    exact wpOp_then ho (fun a2 w2 h2=>⟨.inr h2.1,mixT_all hsel hQ hz t1 _ a2 w2 hB1 (hc.set hkr) h2.1 h2.2⟩) h
   ·have h:=h.2
    rw [opsAt_cons ho] at h
    rw [hlen]
    exact wpOp_then ho (fun a2 w2 h2=>⟨.inr h2.1,mixT_all hsel hQ hz t2 _ a2 w2 hB2 (hc.set hkr) h2.1 h2.2⟩) h
  ·cases hB
theorem wp_region_mixT {id:Nat} {a:Act} {w:World} (S:World->Prop) (t:MixT) (hm:P.follows .mixedOrders=true)
  (hB:(Region.noSelect l.toArray&&mixTB .any l.toArray t (Array.replicate l.toArray.size false)&&t.len==l.toArray.size)=true) (hS:S w.drew)
  (h:wpMixT P l (fun w'=>∃ p:Held S,w'=p.w) (NoPanic Q) t a w.drew):(Code.region id l.toArray true).wp P Q a w:=by
 simp only [Bool.and_eq_true,beq_iff_eq] at hB
 obtain ⟨⟨hsel,hB⟩,hlen⟩:=hB
 refine wp_region_noPanic (wp_region_any hm ?_)
 have hz:sinkZ .any l.toArray l.toArray.size=true:=by unfold sinkZ;simp
 have:=mixT_all (P:=P) (Q:=NoPanic Q) (S:=fun w'=>∃ p:Held S,w'=p.w) (md:=.any) hsel (fun c a b w h=>h) hz t _ a w.drew hB (Closed.none .any l.toArray) (Held.of hS) h
 rw [hlen] at this
 exact wpAny_of_Z _ _ _ _ this
end
section
variable {F:Fence} {n:Nat}
def wpMixTIn (F:Fence) (n:Nat) (P:Program) (l:List Oper) (S:World->Prop) (Q:Exit->Act->World->Prop):MixT->Act->World->Prop
 | .fin qs,a,w=>wpQuiet P l.toArray S (fun a'=>Q .normal a' w) (opsAt l qs) a
 | .one qs k t,a,w=>wpQuiet P l.toArray S (fun a'=>wpListIn F n P l.toArray (Exit.then (fun a2 w2=>S w2/\wpMixTIn F n P l S Q t a2 w2) Q) (opsAt l [k]) a' w) (opsAt l qs) a
 | .two qs k1 t1 k2 t2,a,w=>wpQuiet P l.toArray S (fun a'=>wpListIn F n P l.toArray (Exit.then (fun a2 w2=>S w2/\wpMixTIn F n P l S Q t1 a2 w2) Q) (opsAt l [k1]) a' w/\wpListIn F n P l.toArray (Exit.then (fun a2 w2=>S w2/\wpMixTIn F n P l S Q t2 a2 w2) Q) (opsAt l [k2]) a' w) (opsAt l qs) a
section
variable {P:Program} {l:List Oper} {Q:Exit->Act->World->Prop} {md:Region.Mode} {S:World->Prop} {z:Nat}
theorem reads_quietIn (hF:∀ f,F.fn f) (hnd:noDefer l.toArray=true) (hsel:Region.noSelect l.toArray=true) (hQ:∀ c a b w,Q (.panic c) b w->Q (.panic c) a w) (hz:sinkZ md l.toArray z=true) {w:World} (hS:S w) {K:Act->Prop} {f:Nat} {l':Array Bool}
  (hK:∀ a,Closed md l.toArray l'->K a->wpAnyZIn F n P md l.toArray Q S z f l' a w):
  ∀ (qs:List Nat) (listed:Array Bool) (a:Act),readsB md l.toArray qs listed=some l'->Closed md l.toArray listed->wpQuiet P l.toArray S K (opsAt l qs) a →
   wpAnyZIn F n P md l.toArray Q S z (qs.length+f) listed a w
 | [],listed,a,hB,hc,h=>by
  simp only [readsB,Option.some.injEq] at hB
  subst hB
  simpa using hK a hc h
 | k :: qs,listed,a,hB,hc,h=>by
  simp only [readsB] at hB
  split at hB
  ·rename_i hb
   simp only [Bool.and_eq_true] at hb
   obtain ⟨⟨hr,hf⟩,hq⟩:=hb
   cases ho:l.toArray[k]? with
   | none=>rw [ho] at hq;cases hq
   | some o=>
    rw [ho] at hq
    have hq:quietB o=true:=hq
    have hr':k∈Region.ready md l.toArray listed:=by simpa using hr
    rw [opsAt_cons ho] at h
    simp only [wpQuiet] at h
    have hy:∃ v,YieldsIf P l.toArray S o v a/\wpQuiet P l.toArray S K (opsAt l qs) (a.put o.dst v):=by
     split at h
     ·rename_i hw
      obtain ⟨v,h1,h2⟩:=h
      exact ⟨v,yields_of_quiet hq hw h1,h2⟩
     ·rename_i hw
      exact ⟨undef,.inr ⟨by simpa using hw,rfl⟩,h⟩
    obtain ⟨v,hy,hK'⟩:=hy
    have hlen:(k :: qs).length+f=(qs.length+f)+1:=by simp;omega
    rw [hlen]
    exact wpAnyZIn_first hF hnd ho (Region.noSelect_spec hsel) (fun c a w h=>hQ c a _ w h) hz _ listed a w hc (Region.free_spec ho hf) hr' hy hS (reads_quietIn hF hnd hsel hQ hz hS hK qs _ _ hB (hc.set hr') hK')
  ·cases hB
theorem mixT_allIn (hF:∀ f,F.fn f) (hnd:noDefer l.toArray=true) (hsel:Region.noSelect l.toArray=true) (hQ:∀ c a b w,Q (.panic c) b w->Q (.panic c) a w) (hz:sinkZ md l.toArray z=true):
  ∀ (t:MixT) (listed:Array Bool) (a:Act) (w:World),mixTB md l.toArray t listed=true->Closed md l.toArray listed->S w->wpMixTIn F n P l S Q t a w->wpAnyZIn F n P md l.toArray Q S z t.len listed a w
 | .fin qs,listed,a,w,hB,hc,hS,h=>by
  simp only [mixTB] at hB
  split at hB
  ·rename_i l' hl
   exact reads_quietIn (n:=n) (f:=0) (K:=fun a'=>Q .normal a' w) hF hnd hsel hQ hz hS (fun a _ h=>⟨by simpa using hB,h⟩) qs listed a hl hc h
  ·cases hB
 | .one qs k t,listed,a,w,hB,hc,hS,h=>by
  simp only [mixTB] at hB
  split at hB
  ·rename_i l' hl
   simp only [Bool.and_eq_true,decide_eq_true_eq] at hB
   obtain ⟨hr,hB'⟩:=hB
   refine reads_quietIn hF hnd hsel hQ hz hS (fun a hc h=>?_) qs listed a hl hc h
   have hkr:k∈Region.ready md l.toArray l':=by rw [hr];simp
   refine ⟨fun h0=>(by rw [hr] at h0;cases h0),fun i hi=>?_⟩
   rw [hr] at hi
   obtain rfl:i=k:=by simpa using hi
   obtain ⟨_,o,ho,_⟩:=mem_ready.1 hkr
   rw [opsAt_cons ho] at h
   exact wpOpIn_then ho (fun a2 w2 h2=>⟨.inr h2.1,mixT_allIn hF hnd hsel hQ hz t _ a2 w2 hB' (hc.set hkr) h2.1 h2.2⟩) h
  ·cases hB
 | .two qs k1 t1 k2 t2,listed,a,w,hB,hc,hS,h=>by
  simp only [mixTB] at hB
  split at hB
  ·rename_i l' hl
   simp only [Bool.and_eq_true,decide_eq_true_eq] at hB
   obtain ⟨⟨⟨hr,hlen⟩,hB1⟩,hB2⟩:=hB
   refine reads_quietIn hF hnd hsel hQ hz hS (fun a hc h=>?_) qs listed a hl hc h
   refine ⟨fun h0=>(by rw [hr] at h0;cases h0),fun i hi=>?_⟩
   have hkr:i∈Region.ready md l.toArray l':=hi
   rw [hr] at hi
   obtain ⟨_,o,ho,_⟩:=mem_ready.1 hkr
   have hi:i=k1\/i=k2:=by simpa using hi
   rcases hi with rfl | rfl
   ·have h:=h.1
    rw [opsAt_cons ho] at h
    exact wpOpIn_then ho (fun a2 w2 h2=>⟨.inr h2.1,mixT_allIn hF hnd hsel hQ hz t1 _ a2 w2 hB1 (hc.set hkr) h2.1 h2.2⟩) h
   ·have h:=h.2
    rw [opsAt_cons ho] at h
    rw [hlen]
    exact wpOpIn_then ho (fun a2 w2 h2=>⟨.inr h2.1,mixT_allIn hF hnd hsel hQ hz t2 _ a2 w2 hB2 (hc.set hkr) h2.1 h2.2⟩) h
  ·cases hB
theorem wpIn_region_mixT {id:Nat} {a:Act} {w:World} (S:World->Prop) (t:MixT) (hF:∀ f,F.fn f) (hm:P.follows .mixedOrders=true)
  (hB:(noDefer l.toArray&&Region.noSelect l.toArray&&mixTB .any l.toArray t (Array.replicate l.toArray.size false)&&t.len==l.toArray.size)=true) (hS:S w.drew)
  (h:wpMixTIn F n P l (fun w'=>∃ p:Held S,w'=p.w) (NoPanic Q) t a w.drew):(Code.region id l.toArray true).wpIn F n P Q a w:=by
 simp only [Bool.and_eq_true,beq_iff_eq] at hB
 obtain ⟨⟨⟨hnd,hsel⟩,hB⟩,hlen⟩:=hB
 refine wpIn_mono (wpIn_region_any hm ?_) NoPanic.imp
 have hz:sinkZ .any l.toArray l.toArray.size=true:=by unfold sinkZ;simp
 have:=mixT_allIn (F:=F) (n:=n) (P:=P) (Q:=NoPanic Q) (S:=fun w'=>∃ p:Held S,w'=p.w) (md:=.any) hF hnd hsel (fun c a b w h=>h) hz t _ a w.drew hB (Closed.none .any l.toArray) (Held.of hS) h
 rw [hlen] at this
 exact wpAnyIn_of_Z _ _ _ _ this
theorem mixTIn_fin {qs:List Nat} {a:Act} {w:World} (h:wpQuiet P l.toArray S (fun a'=>Q .normal a' w) (opsAt l qs) a):wpMixTIn F n P l S Q (.fin qs) a w:=h
theorem mixTIn_one {qs:List Nat} {k:Nat} {t:MixT} {a:Act} {w:World} (h:wpQuiet P l.toArray S (fun a'=>wpListIn F n P l.toArray (Exit.then (fun a2 w2=>S w2/\wpMixTIn F n P l S Q t a2 w2) Q) (opsAt l [k]) a' w) (opsAt l qs) a):wpMixTIn F n P l S Q (.one qs k t) a w:=h
theorem mixTIn_two {qs:List Nat} {k1 k2:Nat} {t1 t2:MixT} {a:Act} {w:World} (h:wpQuiet P l.toArray S (fun a'=>wpListIn F n P l.toArray (Exit.then (fun a2 w2=>S w2/\wpMixTIn F n P l S Q t1 a2 w2) Q) (opsAt l [k1]) a' w/\wpListIn F n P l.toArray (Exit.then (fun a2 w2=>S w2/\wpMixTIn F n P l S Q t2 a2 w2) Q) (opsAt l [k2]) a' w) (opsAt l qs) a):wpMixTIn F n P l S Q (.two qs k1 t1 k2 t2) a w:=h
end
end
end Go.Proofs.YthgdadohijgleaaGreatDoor
end
