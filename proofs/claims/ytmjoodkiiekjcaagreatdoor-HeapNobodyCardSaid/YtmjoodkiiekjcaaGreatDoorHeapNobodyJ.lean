/- Part 10 of what HeapNobody leans on: my own lemmas, merged by shake.py. -/
import Derived.Test.YtmjoodkiiekjcaaGreatDoorHeapNobodyI
namespace Go.Proofs.YtmjoodkiiekjcaaGreatDoor
set_option maxRecDepth 100000
section
section
open Go.RowKit Word
def V4X (v:Vm) (c:Cf) (L:List Ob):Sl:=
 { n:=v.n,pg:=v.pl.pg,cf:=c,L:=L,hd:=fun a=>v.rdH (a:Nat),c:=fun i=>cvH L c.to (v.rdH ((L.getD (XEF L i) (0,0)).1:Nat)) (i-Qd4 (L.take (XEF L i))) (v.ldV (Vjz L i:Nat)),mv:=List.replicate (nbl (Qd4 L) c.bk) false }
structure Vdg (s:Sl) (v v':Vm) (q0 j:Nat):Prop where
 ok:ZAR v'
 n:v'.n=v.n
 pg:v'.pl.pg=v.pl.pg
 rm:v'.pl.rm=v.pl.rm
 map:∀ p,p<v.pt.length->(v'.pt.getD p 0≠0↔v.pt.getD p 0≠0/\¬ ((q0<=p/\p<q0+j)/\s.on (fun _=>true) p=0))
 val:∀ a:Nat,a<v.n->¬ ((q0<=a/v.pl.pg/\a/v.pl.pg<q0+j)/\s.on (fun _=>true) (a/v.pl.pg)=0)->v'.ldE a=v.ldE a/\v'.ldV a=v.ldV a
theorem Pln.touch {T:Nat->Prop} {w w':World} {F p n B base:Nat} {L:List Ob} (h:Pln w F p n B base L) (t:XF4 T w w') (hT:∀ k,F<=k->k<w.heap.size->¬ T k):Pln w' F p n B base L:=by
 obtain ⟨h1,h2,h3,f,c0,c1,hF⟩:=h;exact ⟨Nat.lt_of_lt_of_le h1 t.size,h2,h3,f,(t.cell h1 (hT _ h2 h1) 0).trans c0,(t.cell h1 (hT _ h2 h1) 1).trans c1,hF.touch t hT⟩
section
variable {s:Sl} {v v':Vm} {q0 j:Nat}
theorem Vdg.zero (h:ZAR v) (q0:Nat):Vdg s v v q0 0:=
 ⟨h,rfl,rfl,rfl,fun p _=>⟨fun h=>⟨h,fun h'=>by omega⟩,fun h=>h.1⟩,fun _ _ _=>⟨rfl,rfl⟩⟩
theorem Vdg.keep (h:Vdg s v v' q0 j) (hz:s.on (fun _=>true) (q0+j)≠0):Vdg s v v' q0 (j+1):=by
 refine ⟨h.ok,h.n,h.pg,h.rm,fun p hp=>(h.map p hp).trans (and_congr_right fun _=>not_congr ⟨fun ⟨⟨a,b⟩,c⟩=>⟨⟨a,by omega⟩,c⟩,fun ⟨⟨a,b⟩,c⟩=>⟨⟨a,?_⟩,c⟩⟩),fun a ha hn=>h.val a ha (fun ⟨⟨x,y⟩,c⟩=>hn ⟨⟨x,by omega⟩,c⟩)⟩;rcases Nat.lt_or_ge p (q0+j) with h1 | h1
 ·exact h1
 ·obtain rfl:p=q0+j:=by omega
  exact absurd c hz
theorem Vdg.drop (h:Vdg s v v' q0 j) (hz:s.on (fun _=>true) (q0+j)=0):Vdg s v (v'.um ((q0+j:Nat):Int)) q0 (j+1):=by
 obtain ⟨s1,s2,s3,s4⟩:=Jz0 v' ((q0+j:Nat):Int);by_cases hf:frE v'.pt ((q0+j:Nat):Int)=0
 ·refine ⟨h.ok.um _,s1.trans h.n,s2.trans h.pg,s3.trans h.rm,fun p hp=>?_,fun a ha hn=>?_⟩
  ·rw [ZdX hf,h.map p hp,and_assoc];refine and_congr_right fun _=>?_;constructor
   ·rintro ⟨g1,g2⟩ ⟨⟨a,b⟩,c⟩;exact g1 ⟨⟨a,by omega⟩,c⟩
   ·intro g;exact ⟨fun ⟨⟨a,b⟩,c⟩=>g ⟨⟨a,by omega⟩,c⟩,fun e=>g ⟨by omega,by rw [e];exact hz⟩⟩
  ·have hne:a/v.pl.pg≠q0+j:=fun e=>hn ⟨by omega,by rw [e];exact hz⟩;have ha':a<v'.n:=by rw [h.n];exact ha
   have hne':a/v'.pl.pg≠q0+j:=by rw [h.pg];exact hne
   rw [h.ok.um_ldE hf ha',if_neg hne',h.ok.um_ldV hf ha' hne'];exact h.val a ha (fun ⟨⟨x,y⟩,c⟩=>hn ⟨⟨x,by omega⟩,c⟩)
 ·rw [V4M hf];refine ⟨h.ok,h.n,h.pg,h.rm,fun p hp=>?_,fun a ha hn=>h.val a ha (fun ⟨⟨x,y⟩,c⟩=>hn ⟨⟨x,by omega⟩,c⟩)⟩;rw [h.map p hp];refine and_congr_right fun hv=>not_congr ⟨fun ⟨⟨a,b⟩,c⟩=>⟨⟨a,by omega⟩,c⟩,fun ⟨⟨a,b⟩,c⟩=>⟨⟨a,?_⟩,c⟩⟩;rcases Nat.lt_or_ge p (q0+j) with h1 | h1
  ·exact h1
  ·exfalso;obtain rfl:p=q0+j:=by omega
   have h2:=(h.map _ hp).2 ⟨hv,fun ⟨⟨_,y⟩,_⟩=>by omega⟩
   have h3:q0+j<v'.pt.length:=by
    rcases Nat.lt_or_ge (q0+j) v'.pt.length with h | h
    ·exact h
    ·rw [List.getD_eq_getElem?_getD,List.getElem?_eq_none h] at h2;exact absurd rfl h2
   rw [VP8 h3,if_neg h2] at hf;exact hf rfl
end
theorem JVN (n k:Nat):at_ (List.replicate n false) k=false:=by
 unfold at_;rw [List.getD_eq_getElem?_getD,List.getElem?_replicate]
 split <;> rfl
section
variable {v v':Vm} {c:Cf} {L:List Ob} {rs:List Int}
theorem JZl (v:Vm) (c:Cf) (L:List Ob) (i:Nat):(V4X v c L).is i=false:=JVN _ _
theorem ZPv (v:Vm) (c:Cf) (L:List Ob):(V4X v c L).mvd=0:=Z6o fun _ _=>JVN _ _
theorem Q20 (v:Vm) (c:Cf) (L:List Ob):(V4X v c L).ft=0:=XFN (Nat.zero_le _) (fun _ h=>absurd h (Nat.not_lt_zero _)) (fun _=>by show (!at_ (List.replicate _ false) 0)=true;rw [JVN];rfl)
theorem JnF (v:Vm) (c:Cf) (L:List Ob):(V4X v c L).lf=nbl (Qd4 L) c.bk:=by
 unfold Sl.lf;rw [ZPv];exact List.length_replicate
theorem J4T (hok:ZAR v) (hcf:VeB v.pl.pg v.n c) (hI:Jx2 v rs c.fr c.tp L) (hfit:Qd4 L<=c.lm-c.to):Jdn (V4X v c L):=by
 refine ⟨hok.page,hok.n2,hcf,hI.1.mkd.good,fun o ho=>?_,?_,fun j hj=>?_,List.length_replicate⟩
 ·have:=hI.2 o ho
  show c.fr<=o.1/\o.1+o.2<=c.tp
  omega
 ·show c.to+Qd4 L<=c.lm
  have:=hcf.lm;omega
 ·have hj':j<L.length:=hj;obtain ⟨h1,h2,h3⟩:=hI.1.mkd.ats _ (List.getElem_mem hj');obtain ⟨b,p,f,k,he,-,hh,hs,-,-,hz,-⟩:=Jsc hI.1.sound h1;have h4:(L[j].2:Int)=1+(p:Int)+f+k:=h3.trans hz;exact ⟨p,f,k,hh,hs,by show L[j].2=1+p+f+k;omega⟩
theorem YRh {i:Nat} (hi:i<Qd4 L):(V4X v c L).on (fun _=>true) (Vjz L i/v.pl.pg)≠0:=by
 have:1<=(V4X v c L).on (fun _=>true) (Vjz L i/v.pl.pg):=Sl.on_pos (s:=V4X v c L) (i:=i) hi rfl rfl;omega
theorem QHD (hok:ZAR v) (hcf:VeB v.pl.pg v.n c) (hI:Jx2 v rs c.fr c.tp L) (hfit:Qd4 L<=c.lm-c.to) (hfull:XKC v L) {q0 j:Nat} (hU:Vdg (V4X v c L) v v' q0 j):ZEw (V4X v c L) v':=by
 have hst:=J4T hok hcf hI hfit;refine ⟨hst,hU.ok,hU.n,hU.pg,fun i hi _=>?_,fun i hi hd=>?_⟩
 ·have hi':i<Qd4 L:=hi;obtain ⟨h1,h2,h3⟩:=hst.srcs hi;obtain ⟨jo,hj,m,p,f,k,e1,e2,e3,e4,e5,e6,e7,e8,e9⟩:=hst.obj hi;have hj':jo<L.length:=hj;have hv:=hU.val (Vjz L i) h3 (fun h=>YRh hi' h.2);have e4':Vjz L i=L[jo].1+m:=e4;have e2':m<L[jo].2:=e2;have hl:=hfull _ (List.getElem_mem hj') m e2';rw [show ((L[jo].1:Nat):Int)+(m:Int)=(Vjz L i:Nat) by omega] at hl;refine ⟨hv.1.trans hl,?_,fun hp=>?_⟩
  ·show (V4X v c L).cv i (v'.ldV (Vjz L i:Nat))=_
   rw [hv.2];rfl
  ·show v'.ldV (Vjz L i:Nat)<=_
   rw [hv.2];obtain ⟨hp1,hp2⟩:=hp;rw [e5] at hp1 hp2;rw [e6,e7] at hp2;obtain ⟨hr,-,-⟩:=hI.1.mkd.ats _ (List.getElem_mem hj');obtain ⟨b,p',f',k',he,-,hh,hs,-,-,hz,hpp⟩:=Jsc hI.1.sound hr;have e7':v.rdH (L[jo].1:Nat)=⟨p,f,k⟩:=e7;rw [hh] at e7';have hpe:(p':Int)=p:=by injection e7'
   have hp2':(m:Int)<=(p:Int):=hp2;have:=hpp (m-1) (by omega);rw [show ((L[jo].1:Nat):Int)+1+((m-1:Nat):Int)=(Vjz L i:Nat) by omega] at this;exact this.2.1
 ·have:(V4X v c L).is i=true:=hd;rw [JZl] at this;cases this
theorem JlU (hok:ZAR v) (hcf:VeB v.pl.pg v.n c) (hI:Jx2 v rs c.fr c.tp L) (hfit:Qd4 L<=c.lm-c.to) (hfull:XKC v L) {j:Nat} (hU:Vdg (V4X v c L) v v' (c.fr/v.pl.pg) j) (hj:c.tp<=(c.fr/v.pl.pg+j)*v.pl.pg)
  (hm:∀ p,p<v.pt.length->v.pt.getD p 0≠0->c.fr/v.pl.pg<=p/\p*v.pl.pg<c.tp):XU7 (V4X v c L) v':=by
 have hst:=J4T hok hcf hI hfit;have hS:=QHD hok hcf hI hfit hfull hU
 have hlen:v'.pt.length=v.pt.length:=by
  have a1:=hok.np;have a2:=hU.ok.np;rw [hU.n,hU.pg,a1] at a2;exact (Nat.mul_right_cancel (by have:=hok.page;omega) a2).symm
 intro p hp;have hp':p<v.pt.length:=by omega
 rw [hU.map p hp'];constructor
 ·rintro ⟨h1,h2⟩;obtain ⟨g1,g2⟩:=hm p hp' h1;left
  have hpl:p<c.fr/v.pl.pg+j:=by
   refine Nat.lt_of_not_le fun h=>?_;have:=Nat.mul_le_mul_right v.pl.pg h;omega
  have hon:(V4X v c L).on (fun _=>true) p≠0:=fun h=>h2 ⟨⟨g1,hpl⟩,h⟩;refine Classical.byContradiction fun hno=>hon (Sl.on_iff.2 fun i hi _ e=>hno ⟨i,hi,e,JZl v c L i⟩)
 ·rintro (⟨i,hi,rfl,-⟩ | ⟨i,-,-,h⟩)
  ·have hi':i<Qd4 L:=hi;have hld:=(hS.mid.src i hi (by show (!(V4X v c L).is i)=true;rw [JZl];rfl)).1;have hv:=hU.val (Vjz L i) (hst.srcs hi).2.2 (fun h=>YRh hi' h.2);have hld':v.ldE (Vjz L i:Nat)=0:=hv.1.symm.trans hld;obtain ⟨a,e,h1,h2⟩:=ZAR.hit hld';obtain rfl:Vjz L i=a:=by omega
   exact ⟨h2,fun h=>YRh hi' h.2⟩
  ·rw [JZl] at h;cases h
end
section
variable {w:World} {R:Nat->Prop} {y q r g:Nat} {z:ZH1} {s:Sl} {U:Nat->Bool} {ml:List Bool} {lf ft ah:Nat} {rs:List Int}
theorem X9b (hC:∀ W,XF4 (fun b=>b=g) w W->YNO W R y q z s U ml lf ft ah) (hst:Jdn s) (hR:V5d w r g rs):
  Calls Tryz.prog 87 #[.pointer (some ⟨r,0,none⟩),.func (.func 198) #[.pointer (some ⟨y,0,none⟩)] #[]] w fun e w'=>e=.returned (.tuple #[])/\XF4 (fun b=>b=g) w w'/\V5d w' r g (rs.map (toV s.L s.cf.to)):=by
 have h0:toV s.L s.cf.to 0=0:=by
  have h:¬ ZH8 s.L 0<s.L.length:=fun h=>by
   have h1:=JBb h;have h2:=(hst.inn _ (List.getElem_mem h)).1;have:=hst.cf.fr;have:=hst.pg;omega
  exact (YPG h).1
 refine (ZOv (F:=198) (pre:=#[.pointer (some ⟨y,0,none⟩)]) (caps:=#[]) (fun i W out=>XF4 (fun b=>b=g) w W/\out=(rs.take i).map (toV s.L s.cf.to)) (fun _ _=>by kernel_rfl) hR ⟨XF4.refl _ _,rfl⟩ ?_ ?_).mono ?_
 ·rintro i hi W out ho ⟨t,e⟩ hz;refine ⟨t,?_⟩;rw [V37 hi,List.map_append,<-e,hz]
  show out++[0]=out++[toV s.L s.cf.to 0]
  rw [h0]
 ·rintro i hi W out ho ⟨t,e⟩ hrt hne W0 hg0;refine (XLA (hC W0 (t.trans (hg0.touch _))) rs[i]).mono ?_;rintro e' W' ⟨rfl,hg'⟩;have hb:=Xxa s.L s.cf.to rs[i];refine ⟨_,rfl,(hrt.gr hg0).gr hg',fun W'' t''=>⟨((t.trans (hg0.touch _)).trans (hg'.touch _)).trans t'',?_⟩⟩;rw [V37 hi,List.map_append,<-e,Int.max_eq_left hb];rfl
 ·rintro e w' ⟨rfl,out,-,⟨t,e⟩,hrt⟩;rw [List.take_length] at e;subst e;exact ⟨rfl,t,hrt⟩
end
end
end
section
section
open Go.RowKit Word
theorem Y4o {f g:Nat->Bool} {n:Nat} (P:Nat->Nat) (hg:∀ p,g p=true->f p=true):∀ K:Nat,(∀ j,j<K->P j<n/\f (P j)=true/\g (P j)=false)->(∀ i j,i<j->j<K->P i<P j)->cnt g n+K<=cnt f n:=fun K h hm=>by
 have key:∀ k,k<=K->cnt (fun p=>g p||(List.range k).any fun j=>P j==p) n=cnt g n+k:=by
  intro k
  induction k with
  | zero=>intro _;exact XmU fun p _=>by simp
  | succ k ih=>
   intro hk;have h1:=h k (by omega)
   have h2:=VXp (f:=fun p=>g p||(List.range k).any fun j=>P j==p) (i:=P k) h1.1 (by
    rw [Bool.or_eq_false_iff];refine ⟨h1.2.2,?_⟩;rw [List.any_eq_false];intro j hj;have:=hm j k (List.mem_range.1 hj) (by omega);simp only [beq_iff_eq]
    omega)
   rw [<-Nat.add_assoc,<-ih (by omega),<-h2];refine XmU fun p _=>?_;rw [List.range_succ,List.any_append,<-Bool.or_assoc];congr 1;by_cases e:P k=p
   ·simp [e]
   ·have e':¬ p=P k:=fun h=>e h.symm;simp only [List.any_cons,List.any_nil,Bool.or_false];rw [beq_eq_false_iff_ne.2 e,beq_eq_false_iff_ne.2 e']
 rw [<-key K (Nat.le_refl _)];refine Vj4 fun p _ hp=>?_;rcases Bool.or_eq_true_iff.1 hp with h1 | h1
 ·exact hg p h1
 ·obtain ⟨j,hj,e⟩:=List.any_eq_true.1 h1;rw [<-beq_iff_eq.1 e];exact (h j (List.mem_range.1 hj)).2.1
def Sl.pS (s:Sl) (m:Nat->Bool) (p:Nat):Bool:=(List.range (Qd4 s.L)).any fun i=>!m (i/s.cf.bk)&&(Vjz s.L i/s.pg==p)
def Sl.pT (s:Sl) (top:Nat) (m:Nat->Bool) (p:Nat):Bool:=((List.range (Qd4 s.L)).any fun i=>m (i/s.cf.bk)&&((s.cf.to+i)/s.pg==p))||((List.range (top-(s.cf.to+Qd4 s.L))).any fun j=>(s.cf.to+Qd4 s.L+j)/s.pg==p)
def Sl.np (s:Sl):Nat:=s.n/s.pg
def Sl.U (s:Sl) (top:Nat) (m:Nat->Bool):Nat:=cnt (s.pS m) s.np+cnt (s.pT top m) s.np
def Sl.q (s:Sl):Nat:=max 1 (s.cf.bk/s.pg)
section
variable {s:Sl} {top:Nat} {m m':Nat->Bool} {p:Nat}
theorem Sl.pS_iff:s.pS m p=true↔∃ i,i<Qd4 s.L/\m (i/s.cf.bk)=false/\Vjz s.L i/s.pg=p:=by
 unfold Sl.pS;rw [List.any_eq_true];constructor
 ·rintro ⟨i,hi,h⟩;rw [Bool.and_eq_true,beq_iff_eq,Bool.not_eq_true'] at h;exact ⟨i,List.mem_range.1 hi,h⟩
 ·rintro ⟨i,hi,h⟩;exact ⟨i,List.mem_range.2 hi,by rw [Bool.and_eq_true,beq_iff_eq,Bool.not_eq_true'];exact h⟩
theorem Sl.pT_iff:s.pT top m p=true↔(∃ i,i<Qd4 s.L/\m (i/s.cf.bk)=true/\(s.cf.to+i)/s.pg=p)\/∃ a,s.cf.to+Qd4 s.L<=a/\a<top/\a/s.pg=p:=by
 unfold Sl.pT;rw [Bool.or_eq_true,List.any_eq_true,List.any_eq_true];refine or_congr ⟨?_,?_⟩ ⟨?_,?_⟩
 ·rintro ⟨i,hi,h⟩;rw [Bool.and_eq_true,beq_iff_eq] at h;exact ⟨i,List.mem_range.1 hi,h⟩
 ·rintro ⟨i,hi,h⟩;exact ⟨i,List.mem_range.2 hi,by rw [Bool.and_eq_true,beq_iff_eq];exact h⟩
 ·rintro ⟨j,hj,h⟩;have:=List.mem_range.1 hj;exact ⟨_,Nat.le_add_right _ _,by omega,beq_iff_eq.1 h⟩
 ·rintro ⟨a,h1,h2,h3⟩;exact ⟨a-(s.cf.to+Qd4 s.L),List.mem_range.2 (by omega),beq_iff_eq.2 (by rw [<-h3];congr 1;omega)⟩
theorem Sl.U_congr (h:∀ k,k<s.mv.length->m k=m' k) (hs:Jdn s):s.U top m=s.U top m':=by
 have hb:=hs.bk.1;have e:∀ i,i<Qd4 s.L->m (i/s.cf.bk)=m' (i/s.cf.bk):=fun i hi=>h _ (hs.blk hi);unfold Sl.U;congr 1
 ·refine XmU fun p _=>Bool.eq_iff_iff.2 ?_;rw [Sl.pS_iff,Sl.pS_iff];exact ⟨fun ⟨i,h1,h2,h3⟩=>⟨i,h1,by rw [<-e i h1];exact h2,h3⟩,fun ⟨i,h1,h2,h3⟩=>⟨i,h1,by rw [e i h1];exact h2,h3⟩⟩
 ·refine XmU fun p _=>Bool.eq_iff_iff.2 ?_;rw [Sl.pT_iff,Sl.pT_iff];exact or_congr_left ⟨fun ⟨i,h1,h2,h3⟩=>⟨i,h1,by rw [<-e i h1];exact h2,h3⟩,fun ⟨i,h1,h2,h3⟩=>⟨i,h1,by rw [e i h1];exact h2,h3⟩⟩
theorem Y27 {n:Nat} {L:List Ob} (hg:Q4l n L) {i:Nat}:∀ d,i+d<Qd4 L->Vjz L i+d<=Vjz L (i+d)
 | 0,_=>Nat.le_refl _
 | d+1,h=>by
  have h1:=Y27 hg d (show i+d<Qd4 L by omega);have h2:=YYc hg (show i+d<i+(d+1) by omega) h;omega
theorem Jp1 {n:Nat} {L:List Ob} (hg:Q4l n L) {i k:Nat} (hik:i<=k) (hk:k<Qd4 L):Vjz L i<=Vjz L k:=by
 have:=Y27 hg (i:=i) (k-i) (by omega);rw [show i+(k-i)=k by omega] at this;omega
theorem Xra {x d g:Nat} (hg:1<=g):(x+d)/g<x/g+d/g+2:=by
 rw [Nat.div_lt_iff_lt_mul (by omega),Nat.add_mul,Nat.add_mul];have h1:=Nat.div_add_mod x g;have h2:=Nat.mod_lt x (show 0<g by omega);have h3:=Nat.div_add_mod d g;have h4:=Nat.mod_lt d (show 0<g by omega);rw [Nat.mul_comm] at h1 h3;omega
theorem Sl.U_run (hs:Jdn s) (hn:s.np*s.pg=s.n) {a b:Nat} (hab:a<b) (hb:b<=s.mv.length) (hm:∀ k,a<=k->k<b->m k=false) (hm':∀ k,m' k=(m k||decide (a<=k/\k<b))):s.U top m'<=s.U top m+3:=by
 have hbk:=hs.bk.1;have hpg:=hs.pg.1;have hg:=hs.good;obtain ⟨i0,h0⟩:∃ i0,i0=a*s.cf.bk:=⟨_,rfl⟩;obtain ⟨i1,h1⟩:∃ i1,i1=min (b*s.cf.bk) (Qd4 s.L):=⟨_,rfl⟩
 have h01:i0<i1:=by
  have h2:a*s.cf.bk<Qd4 s.L:=by rw [<-VjL hbk,<-hs.len];omega
  have h3:(a+1)*s.cf.bk<=b*s.cf.bk:=Nat.mul_le_mul_right _ hab;rw [Nat.succ_mul] at h3;omega
 have hin:∀ i,i<Qd4 s.L->((a<=i/s.cf.bk/\i/s.cf.bk<b)↔(i0<=i/\i<i1)):=fun i hi=>by
  rw [Nat.le_div_iff_mul_le (by omega),Nat.div_lt_iff_lt_mul (by omega)];omega
 obtain ⟨J,hJ⟩:∃ J,J=(i1-1-i0)/s.pg:=⟨_,rfl⟩;have hJm:J*s.pg<=i1-1-i0:=by rw [hJ];exact Nat.div_mul_le_self _ _
 have hat:∀ j,j<=J->i0+j*s.pg<i1:=fun j hj=>by
  have:=Nat.mul_le_mul_right s.pg hj;omega
 have hst:∀ j,j+1<=J->Vjz s.L (i0+j*s.pg)/s.pg<Vjz s.L (i0+(j+1)*s.pg)/s.pg:=fun j hj=>by
  have h2:=hat (j+1) hj;have h3:=Y27 hg (i:=i0+j*s.pg) s.pg (by rw [Nat.succ_mul] at h2;omega);rw [show i0+j*s.pg+s.pg=i0+(j+1)*s.pg by rw [Nat.succ_mul];omega] at h3;have h4:=Nat.div_le_div_right (c:=s.pg) h3;rw [Nat.add_div_right _ (show 0<s.pg by omega)] at h4;omega
 have hmo:∀ d i,i+d<=J->Vjz s.L (i0+i*s.pg)/s.pg+d<=Vjz s.L (i0+(i+d)*s.pg)/s.pg:=fun d=>by
  induction d with
  | zero=>intro i _;exact Nat.le_refl _
  | succ d ih=>
   intro i hi;have h2:=ih i (by omega);have h3:=hst (i+d) (by omega);rw [show i+(d+1)=i+d+1 by omega];omega
 have hS:cnt (s.pS m') s.np+(J-1)<=cnt (s.pS m) s.np:=by
  refine Y4o (fun j=>Vjz s.L (i0+(j+1)*s.pg)/s.pg) (fun p hp=>?_) _ (fun j hj=>?_) (fun i j hij hj=>?_)
  ·obtain ⟨i,hi,h2,h3⟩:=Sl.pS_iff.1 hp;rw [hm',Bool.or_eq_false_iff] at h2;exact Sl.pS_iff.2 ⟨i,hi,h2.1,h3⟩
  ·have h2:=hat (j+1) (by omega);have hN:i0+(j+1)*s.pg<Qd4 s.L:=by omega
   have h3:=(hin _ hN).2 ⟨Nat.le_add_right _ _,h2⟩;refine ⟨?_,Sl.pS_iff.2 ⟨_,hN,hm _ h3.1 h3.2,rfl⟩,?_⟩
   ·have h4:=(hs.srcs hN).2.2;rw [Nat.div_lt_iff_lt_mul (by omega),hn];exact h4
   ·refine Bool.eq_false_iff.2 fun hp=>?_;obtain ⟨i,hi,h4,h5⟩:=Sl.pS_iff.1 hp;rw [hm',Bool.or_eq_false_iff,decide_eq_false_iff_not,hin i hi] at h4;rcases Nat.lt_or_ge i i0 with h6 | h6
    ·have h7:=Nat.div_le_div_right (c:=s.pg) (Jp1 hg (Nat.le_of_lt h6) (by omega));have h8:=hmo (j+1) 0 (by omega);rw [Nat.zero_mul,Nat.add_zero,Nat.zero_add] at h8;omega
    ·have h7:=hat J (Nat.le_refl _);have h8:=Nat.div_le_div_right (c:=s.pg) (Jp1 hg (show i0+J*s.pg<=i by omega) hi);have h9:=hmo (J-(j+1)) (j+1) (by omega);rw [show j+1+(J-(j+1))=J by omega] at h9;omega
  ·have:=hmo (j-i) (i+1) (by omega);rw [show i+1+(j-i)=j+1 by omega] at this
   show Vjz s.L (i0+(i+1)*s.pg)/s.pg<Vjz s.L (i0+(j+1)*s.pg)/s.pg
   omega
 have hT:cnt (s.pT top m') s.np<=cnt (s.pT top m) s.np+(J+2):=by
  refine Nat.le_trans (Vj4 (g:=fun p=>s.pT top m p||decide ((s.cf.to+i0)/s.pg<=p/\p<(s.cf.to+i0)/s.pg+(J+2))) fun p _ hp=>?_) (Nat.le_trans (ZKe _ _ _) (Nat.add_le_add_left (Nat.le_trans (ZH7 _ _ _) (by omega)) _));rw [Bool.or_eq_true,decide_eq_true_eq];rcases Sl.pT_iff.1 hp with ⟨i,hi,h2,h3⟩ | h2
  ·rw [hm',Bool.or_eq_true,decide_eq_true_eq,hin i hi] at h2;rcases h2 with h2 | h2
   ·exact .inl (Sl.pT_iff.2 (.inl ⟨i,hi,h2,h3⟩))
   ·right;rw [<-h3];refine ⟨Nat.div_le_div_right (by omega),?_⟩;have h4:=Xra (x:=s.cf.to+i0) (d:=i-i0) hpg;rw [show s.cf.to+i0+(i-i0)=s.cf.to+i by omega] at h4;have h5:=Nat.div_le_div_right (c:=s.pg) (show i-i0<=i1-1-i0 by omega);omega
  ·exact .inl (Sl.pT_iff.2 (.inr h2))
 unfold Sl.U;omega
def Vsx (m:Nat->Bool) (f t:Nat) (k:Nat):Bool:=m k||decide (f<=k/\k<t)
theorem Sl.U_fill (hs:Jdn s) (hn:s.np*s.pg=s.n) (f:Nat):∀ d,f+d<=s.mv.length->s.U top (Vsx m f (f+d))<=s.U top m+3*(cnt (fun j=>m (f+j)) d+1):=fun d hd=>by
 have run:∀ a b,f<=a->a<=b->b<=s.mv.length->(∀ k,a<=k->k<b->m k=false)->s.U top (Vsx m f b)<=s.U top (Vsx m f a)+3:=fun a b h1 h2 h3 h4=>by
  rcases Nat.eq_or_lt_of_le h2 with rfl | h2
  ·omega
  ·refine Sl.U_run hs hn h2 h3 (fun k h5 h6=>?_) (fun k=>?_)
   ·unfold Vsx;rw [h4 k h5 h6,decide_eq_false (by omega)];rfl
   ·unfold Vsx;rw [Bool.or_assoc];congr 1;rw [<-Bool.decide_or];exact decide_eq_decide.2 (by omega)
 have key:∀ d,f+d<=s.mv.length->∃ a,f<=a/\a<=f+d/\(∀ k,a<=k->k<f+d->m k=false)/\s.U top (Vsx m f a)<=s.U top m+3*cnt (fun j=>m (f+j)) d:=by
  intro d
  induction d with
  | zero=>
   intro _;refine ⟨f,Nat.le_refl _,Nat.le_refl _,fun k h1 h2=>by omega,?_⟩;rw [Sl.U_congr (m':=m) (fun k _=>by unfold Vsx;rw [decide_eq_false (by omega),Bool.or_false]) hs];omega
  | succ d ih=>
   intro h;obtain ⟨a,h1,h2,h3,h4⟩:=ih (by omega);rw [Z10];cases hmk:m (f+d) with
   | false=>
    refine ⟨a,h1,by omega,fun k h5 h6=>?_,by simpa using h4⟩;rcases Nat.lt_or_ge k (f+d) with h7 | h7
    ·exact h3 k h5 h7
    ·rw [show k=f+d by omega];exact hmk
   | true=>
    refine ⟨f+(d+1),by omega,Nat.le_refl _,fun k h5 h6=>by omega,?_⟩;have h5:=run a (f+d) h1 h2 (by omega) h3
    rw [Sl.U_congr (m:=Vsx m f (f+(d+1))) (m':=Vsx m f (f+d)) (fun k _=>by
     unfold Vsx;by_cases e:k=f+d
     ·rw [e,hmk];rfl
     ·congr 1
      exact decide_eq_decide.2 (by omega)) hs]
    simp only [Bool.toNat_true];omega
 obtain ⟨a,h1,h2,h3,h4⟩:=key d hd;have:=run a (f+d) h1 h2 hd h3;omega
theorem Sl.U_more (hs:Jdn s) (hpb:Y1d s.pg=true) (h:∀ k,m k=true->m' k=true) (l:List Nat) (hl:∀ k,k<s.mv.length->m' k=true->m k=true\/k∈l):s.U top m'<=s.U top m+l.length*s.q:=by
 have hpg:=hs.pg.1;obtain ⟨b0,hb0⟩:s.pg ∣ s.cf.to:=Nat.dvd_of_mod_eq_zero hs.cf.at_
 have hdst:∀ i,(s.cf.to+i)/s.pg=b0+i/s.pg:=fun i=>by
  rw [hb0,Nat.mul_comm,Nat.add_comm,Nat.add_mul_div_right _ _ (by omega)];omega
 have hS:cnt (s.pS m') s.np<=cnt (s.pS m) s.np:=Vj4 fun p _ hp=>by
  obtain ⟨i,hi,h2,h3⟩:=Sl.pS_iff.1 hp;refine Sl.pS_iff.2 ⟨i,hi,?_,h3⟩;cases hm:m (i/s.cf.bk) with
  | false=>rfl
  | true=>rw [h _ hm] at h2;cases h2
 have hT:cnt (s.pT top m') s.np<=cnt (s.pT top m) s.np+l.length*s.q:=by
  let g:Nat->Nat->Bool:=fun j p=>(List.range (Qd4 s.L)).any fun i=>(i/s.cf.bk==j)&&((s.cf.to+i)/s.pg==p)
  have hg:∀ j,cnt (g j) s.np<=s.q:=fun j=>by
   obtain ⟨a,ha⟩:=Zs5 hs.cf.bk hpb j;refine Nat.le_trans (Vj4 (g:=fun p=>decide (b0+a<=p/\p<b0+a+s.q)) fun p _ hp=>?_) (Nat.le_trans (ZH7 _ _ _) (by omega));obtain ⟨i,_,hi⟩:=List.any_eq_true.1 hp;obtain ⟨e1,e2⟩:=Bool.and_eq_true_iff.1 hi;have e1:i/s.cf.bk=j:=by simpa using e1
   have e2:(s.cf.to+i)/s.pg=p:=by simpa using e2
   have:=ha i e1;rw [hdst] at e2;unfold Sl.q;exact decide_eq_true (by omega)
  refine Nat.le_trans (Vj4 (g:=fun p=>s.pT top m p||l.any fun j=>g j p) fun p _ hp=>?_) (Nat.le_trans (ZKe _ _ _) (Nat.add_le_add_left (JuW l g fun k _=>hg k) _));rw [Bool.or_eq_true];rcases Sl.pT_iff.1 hp with ⟨i,hi,h2,h3⟩ | h2
  ·rcases hl _ (hs.blk hi) h2 with h4 | h4
   ·exact .inl (Sl.pT_iff.2 (.inl ⟨i,hi,h4,h3⟩))
   ·refine .inr (List.any_eq_true.2 ⟨_,h4,List.any_eq_true.2 ⟨i,List.mem_range.2 hi,?_⟩⟩);rw [Bool.and_eq_true,beq_iff_eq,beq_iff_eq];exact ⟨rfl,h3⟩
  ·exact .inl (Sl.pT_iff.2 (.inr h2))
 unfold Sl.U;omega
theorem Sl.U_grow (hs:Jdn s) (hn:s.np*s.pg=s.n) (hpb:Y1d s.pg=true) {l l':List Bool} (h1:l.length=s.mv.length) (h2:l'.length=s.mv.length) (hll:∀ k,at_ l k=true->at_ l' k=true) (ha:XRM l-ftL l<=s.cf.ah) (ha':XRM l' - ftL l'<=s.cf.ah):s.U top (at_ l')+s.q<=s.U top (at_ l)+(s.cf.ah+2)*(s.q+3):=by
 have hf:ftL l<=ftL l':=by
  refine Nat.le_of_not_lt fun h=>?_;have h3:ftL l' < l'.length:=Nat.lt_of_lt_of_le h (by rw [h2,<-h1];exact Xgi _ _);have h4:(!at_ l' (ftL l'))=true:=JyT (fun k=>!at_ l' k) l'.length h3;rw [hll _ (X6K h)] at h4;cases h4
 have hf2:ftL l'<=s.mv.length:=by rw [<-h2];exact Xgi _ _
 have hF:=Sl.U_fill (top:=top) (m:=at_ l) hs hn (ftL l) (ftL l' - ftL l) (by omega);rw [show ftL l+(ftL l' - ftL l)=ftL l' by omega] at hF
 have hc:cnt (fun j=>at_ l (ftL l+j)) (ftL l' - ftL l)<=s.cf.ah:=by
  have e1:=Y37 (l:=l) (m:=ftL l) (Xgi _ _) (fun i hi=>X6K hi)
  have e2:∀ d,ftL l+d<=l.length->cnt (fun j=>at_ l (ftL l+j)) d<=cnt (fun k=>decide (ftL l<=k)&&at_ l k) (ftL l+d):=by
   intro d
   induction d with
   | zero=>intro _;exact Nat.zero_le _
   | succ d ih=>
    intro h;rw [show ftL l+(d+1)=ftL l+d+1 by omega,Z10,Z10,decide_eq_true (show ftL l<=ftL l+d by omega),Bool.true_and];have:=ih (by omega);omega
  have e3:=e2 (ftL l' - ftL l) (by omega);have e4:=ZoC (f:=fun k=>decide (ftL l<=k)&&at_ l k) (show ftL l+(ftL l' - ftL l)<=l.length by omega);unfold XRM at ha;omega
 obtain ⟨W,hW⟩:∃ W:List Nat,W=(List.range l'.length).filter fun j=>decide (ftL l'<=j)&&at_ l' j:=⟨_,rfl⟩
 have hWl:W.length+ftL l'=XRM l':=by
  have:=Y37 (l:=l') (m:=ftL l') (Xgi _ _) (fun i hi=>X6K hi);unfold XRM;rw [<-this,hW,<-List.countP_eq_length_filter];rfl
 have hM:=Sl.U_more (top:=top) (m:=Vsx (at_ l) (ftL l) (ftL l')) (m':=at_ l') hs hpb (fun k hk=>by
  unfold Vsx at hk;rw [Bool.or_eq_true,decide_eq_true_eq] at hk;rcases hk with hk | hk
  ·exact hll k hk
  ·exact X6K hk.2) W (fun k hk h=>by
  rcases Nat.lt_or_ge k (ftL l') with h3 | h3
  ·left;unfold Vsx;rw [Bool.or_eq_true,decide_eq_true_eq];rcases Nat.lt_or_ge k (ftL l) with h4 | h4
   ·exact .inl (X6K h4)
   ·exact .inr ⟨h4,h3⟩
  ·right;rw [hW,List.mem_filter,List.mem_range,h,decide_eq_true h3]
   exact ⟨by omega,rfl⟩)
 have hWq:W.length*s.q<=s.cf.ah*s.q:=Nat.mul_le_mul_right _ (by omega);rw [Nat.add_mul,Nat.mul_add,Nat.mul_add];omega
end
end
end
section
section
open Go.RowKit Word
structure HpA (top:Nat) (u:Vm) (s:Sl) (v:Vm):Prop where
 pg:∀ p,p<v.pt.length->(v.pt.getD p 0≠0↔s.pS (at_ s.mv) p=true\/s.pT top (at_ s.mv) p=true)
 ah:s.mvd-s.ft<=s.cf.ah
 fr:∃ l:List Bool,l.length=s.mv.length/\(∀ k,at_ l k=true->at_ s.mv k=true)/\XRM l-ftL l<=s.cf.ah/\s.U top (at_ l)+(s.cf.ah+2)*(s.q+3)<=v.pl.rm
 lm:s.cf.to+Qd4 s.L<=top/\top<=s.cf.lm
 ok:ZAR u
 un:∀ a:Nat,a<s.n->u.ldE a=0
 c:∀ i,i<Qd4 s.L->u.ldV (s.cf.to+i:Nat)=s.c i
 x:∀ a:Nat,s.cf.to+Qd4 s.L<=a->a<top->v.ldE a=0/\v.ldV a=u.ldV a
theorem ZmX (v:Vm) (p0 k:Nat):(Jfy v p0 k).length<=k:=by
 induction k with
 | zero=>exact Nat.le_refl _
 | succ k ih=>
  rw [Q1f]
  split
  ·rw [List.length_append,List.length_singleton];omega
  ·omega
section
variable {s:Sl} {v v' u:Vm} {k top:Nat}
theorem ZEw.np (h:ZEw s v):s.np=v.pt.length/\s.np*s.pg=s.n:=by
 have h1:=h.mid.ok.len;have h2:=h.mid.ok.np;rw [h.mid.n,h.mid.pg] at h1;rw [h.mid.n,h.mid.pg] at h2;exact ⟨h1.symm,by rw [show s.np=v.pt.length from h1.symm];exact h2.symm⟩
theorem Sl.pST (hs:Jdn s) (hlm:top<=s.cf.lm) {m:Nat->Bool} {p:Nat} (h1:s.pS m p=true) (h2:s.pT top m p=true):False:=by
 obtain ⟨i,hi,-,e⟩:=Sl.pS_iff.1 h1;have h3:=hs.srcs hi;rcases Sl.pT_iff.1 h2 with ⟨j,hj,-,e2⟩ | ⟨a,a1,a2,e2⟩
 ·exact hs.apart ⟨h3.1,h3.2.1⟩ ⟨Nat.le_add_right _ j,(hs.dsts hj).1⟩ (e.trans e2.symm)
 ·exact hs.apart ⟨h3.1,h3.2.1⟩ ⟨by omega,by omega⟩ (e.trans e2.symm)
theorem HpA.used (hO:ZEw s v) (h:HpA top u s v):v.pl.used=s.U top (at_ s.mv):=by
 rw [hO.mid.ok.us];unfold Sl.U
 rw [hO.np.1,<-Jjp (fun p=>by
  cases e1:s.pS (at_ s.mv) p with
  | false=>rfl
  | true=>
   cases e2:s.pT top (at_ s.mv) p with
   | false=>rfl
   | true=>exact absurd (Sl.pST hO.st h.lm.2 e1 e2) id)]
 refine XmU fun p hp=>Bool.eq_iff_iff.2 ?_;rw [Bool.or_eq_true,<-h.pg p hp,bne_iff_ne]
theorem HpA.room (hO:ZEw s v) (h:HpA top u s v):v.pl.used+s.q<=v.pl.rm:=by
 obtain ⟨l,h1,h2,h3,h4⟩:=h.fr;have hpb:Y1d s.pg=true:=by rw [<-hO.mid.pg];exact hO.mid.ok.pl.pg
 have:=Sl.U_grow (top:=top) hO.st hO.np.2 hpb h1 rfl h2 h3 h.ah;rw [h.used hO];omega
theorem HpA.need (hO:ZEw s v) (h:HpA top u s v) (hk:k<s.mv.length):Jsl v ((s.cf.to+s.lo k:Nat):Int) ((s.cf.to+s.hi k:Nat):Int)=0:=by
 have hs:=hO.st;have hok:=hO.mid.ok;have hpg:=hs.pg.1;have hpgv:=hO.mid.pg;have hlh:=hs.lohi hk;have hto:s.cf.to+s.hi k<=v.n:=by have:=hs.fit;have:=hs.cf.ln;rw [hO.mid.n];omega
 have hpb:Y1d s.pg=true:=by rw [<-hpgv];exact hok.pl.pg
 obtain ⟨p0,hp0⟩:∃ p0,p0=(s.cf.to+s.lo k)/s.pg:=⟨_,rfl⟩;obtain ⟨p1,hp1⟩:∃ p1,p1=(s.cf.to+s.hi k-1)/s.pg:=⟨_,rfl⟩;have hp01:p0<=p1:=by rw [hp0,hp1];exact Nat.div_le_div_right (by omega)
 have hp1l:p1<v.pt.length:=by rw [hp1,<-hpgv];exact (hok.split (a:=s.cf.to+s.hi k-1) (by omega)).1
 have eA:(((s.cf.to+s.lo k:Nat):Int)/(v.pl.pg:Int)).toNat=p0:=by
  rw [hpgv,show ((s.cf.to+s.lo k:Nat):Int)/(s.pg:Int)=(((s.cf.to+s.lo k)/s.pg:Nat):Int) from rfl,Int.toNat_natCast,hp0]
 have eB:XZs v ((s.cf.to+s.lo k:Nat):Int) ((s.cf.to+s.hi k:Nat):Int)=p1+1-p0:=by
  unfold XZs;rw [hpgv,show ((s.cf.to+s.hi k:Nat):Int)-1=((s.cf.to+s.hi k-1:Nat):Int) by omega,show ((s.cf.to+s.hi k-1:Nat):Int)/(s.pg:Int)=(((s.cf.to+s.hi k-1)/s.pg:Nat):Int) from rfl,show ((s.cf.to+s.lo k:Nat):Int)/(s.pg:Int)=(((s.cf.to+s.lo k)/s.pg:Nat):Int) from rfl,<-hp0,<-hp1];omega
 obtain ⟨b0,hb0⟩:s.pg ∣ s.cf.to:=Nat.dvd_of_mod_eq_zero hs.cf.at_
 have hdst:∀ i,(s.cf.to+i)/s.pg=b0+i/s.pg:=fun i=>by
  rw [hb0,Nat.mul_comm,Nat.add_comm,Nat.add_mul_div_right _ _ (by omega)];omega
 obtain ⟨a,ha⟩:=Zs5 hs.cf.bk hpb k
 have hw:p1+1-p0<=s.q:=by
  have h1:=ha (s.lo k) (beq_iff_eq.1 ((hs.inB (by omega)).2 ⟨Nat.le_refl _,hlh.1⟩));have h2:=ha (s.hi k-1) (beq_iff_eq.1 ((hs.inB (by omega)).2 ⟨by omega,by omega⟩));rw [hdst] at hp0;rw [show s.cf.to+s.hi k-1=s.cf.to+(s.hi k-1) by omega,hdst] at hp1;unfold Sl.q;omega
 have hrm:=h.room hO;unfold Jsl;rw [if_neg (by omega),if_neg (by omega),eA,eB,if_pos];have h3:=ZmX v p0 (p1+1-p0);omega
theorem HpA.step (hO:ZEw s v) (h:HpA top u s v) (hk:k<s.mv.length) (hm:at_ s.mv k=false) (hc:k=s.ft\/s.mvd-s.ft<s.cf.ah) (hM:YJW s k v v'):HpA top u { s with mv:=s.mv.set k true } v':=by
 have hs:=hO.st;have hlen:v'.pt.length=v.pt.length:=by rw [hM.ok.mid.ok.len,hO.mid.ok.len,hM.ok.mid.n,hM.ok.mid.pg,hO.mid.n,hO.mid.pg]
 have hlh:=hs.lohi hk;have his:∀ i,at_ (s.mv.set k true) (i/s.cf.bk)=(s.is i||s.inB k i):=Sl.is_put hk
 have h1:({ s with mv:=s.mv.set k true }:Sl).mvd=s.mvd+1:=by
  unfold Sl.mvd;rw [List.length_set];exact Jso hk hm
 refine ⟨fun p hp=>?_,?_,?_,h.lm,h.ok,h.un,h.c,fun a a1 a2=>?_⟩
 ·rw [hlen] at hp;rw [hM.map p hp,h.pg p hp]
  have hT:({ s with mv:=s.mv.set k true }:Sl).pT top (at_ (s.mv.set k true)) p=true↔s.pT top (at_ s.mv) p=true\/((s.cf.to+s.lo k)/s.pg<=p/\p<=(s.cf.to+s.hi k-1)/s.pg):=by
   show s.pT top (at_ (s.mv.set k true)) p=true↔_
   rw [Sl.pT_iff,Sl.pT_iff];constructor
   ·rintro (⟨i,hi,e1,e2⟩ | e)
    ·rw [his,Bool.or_eq_true] at e1;rcases e1 with e1 | e1
     ·exact .inl (.inl ⟨i,hi,e1,e2⟩)
     ·have:=(hs.inB hi).1 e1;right;rw [<-e2];exact ⟨Nat.div_le_div_right (by omega),Nat.div_le_div_right (by omega)⟩
    ·exact .inl (.inr e)
   ·rintro ((⟨i,hi,e1,e2⟩ | e) | ⟨e1,e2⟩)
    ·exact .inl ⟨i,hi,by rw [his,show s.is i=true from e1];rfl,e2⟩
    ·exact .inr e
    ·left;have hpg:=hs.pg.1
     obtain ⟨i,hi1,hi2,hi3⟩:∃ i,s.lo k<=i/\i<s.hi k/\(s.cf.to+i)/s.pg=p:=by
      rcases Nat.lt_or_ge (s.cf.to+s.lo k) (p*s.pg) with g | g
      ·refine ⟨p*s.pg-s.cf.to,by omega,?_,?_⟩
       ·have:=(Nat.le_div_iff_mul_le (by omega)).1 e2;omega
       ·rw [show s.cf.to+(p*s.pg-s.cf.to)=p*s.pg by omega,Nat.mul_div_cancel _ (by omega)]
      ·refine ⟨s.lo k,Nat.le_refl _,hlh.1,?_⟩;have:=(Nat.le_div_iff_mul_le (show 0<s.pg by omega)).2 g;omega
     have hiN:i<Qd4 s.L:=by omega
     exact ⟨i,hiN,by rw [his,(hs.inB hiN).2 ⟨hi1,hi2⟩,Bool.or_true],hi3⟩
  have hS:({ s with mv:=s.mv.set k true }:Sl).pS (at_ (s.mv.set k true)) p=true↔s.pS (at_ s.mv) p=true/\¬ ∃ i,i<Qd4 s.L/\s.inB k i=true/\Vjz s.L i/s.pg=p/\∀ j,j<Qd4 s.L->Vjz s.L j/s.pg=p->s.is j=true\/s.inB k j=true:=by
   show s.pS (at_ (s.mv.set k true)) p=true↔_
   rw [Sl.pS_iff,Sl.pS_iff];constructor
   ·rintro ⟨i,hi,e1,e2⟩;rw [his,Bool.or_eq_false_iff] at e1;refine ⟨⟨i,hi,e1.1,e2⟩,fun ⟨j,_,_,_,g⟩=>?_⟩;rcases g i hi e2 with g | g
    ·rw [e1.1] at g;cases g
    ·rw [e1.2] at g;cases g
   ·rintro ⟨⟨i,hi,e1,e2⟩,g⟩;have e1:s.is i=false:=e1;refine Classical.byContradiction fun hno=>?_
    have hall:∀ j,j<Qd4 s.L->Vjz s.L j/s.pg=p->s.is j=true\/s.inB k j=true:=fun j hj he=>by
     refine Classical.byContradiction fun hn=>hno ⟨j,hj,?_,he⟩;rw [his];cases ea:s.is j <;> cases eb:s.inB k j <;> simp_all
    rcases hall i hi e2 with e | e
    ·rw [e1] at e;cases e
    ·exact g ⟨i,hi,e,e2,hall⟩
  show _↔({ s with mv:=s.mv.set k true }:Sl).pS (at_ (s.mv.set k true)) p=true\/({ s with mv:=s.mv.set k true }:Sl).pT top (at_ (s.mv.set k true)) p=true
  rw [hS,hT];constructor
  ·rintro ⟨(e | e) | e,g⟩
   ·exact .inl ⟨e,g⟩
   ·exact .inr (.inl e)
   ·exact .inr (.inr e)
  ·rintro (⟨e,g⟩ | e)
   ·exact ⟨.inl (.inl e),g⟩
   ·refine ⟨e.elim (fun e=>.inl (.inr e)) .inr,fun ⟨i,hi,hb,e2,_⟩=>?_⟩;have h5:s.pT top (at_ (s.mv.set k true)) p=true:=hT.2 e;refine Sl.pST hs h.lm.2 (m:=fun _=>false) (p:=p) (Sl.pS_iff.2 ⟨i,hi,rfl,e2⟩) ?_;exfalso;have h3:=hs.srcs hi;rcases Sl.pT_iff.1 h5 with ⟨j,hj,-,e3⟩ | ⟨a,a1,a2,e3⟩
    ·exact hs.apart ⟨h3.1,h3.2.1⟩ ⟨Nat.le_add_right _ j,(hs.dsts hj).1⟩ (e2.trans e3.symm)
    ·exact hs.apart ⟨h3.1,h3.2.1⟩ ⟨by omega,by have:=h.lm;omega⟩ (e2.trans e3.symm)
 ·have hah:=h.ah
  show ({ s with mv:=s.mv.set k true }:Sl).mvd-({ s with mv:=s.mv.set k true }:Sl).ft<=s.cf.ah
  rw [h1]
  have h2:s.ft<=({ s with mv:=s.mv.set k true }:Sl).ft:=by
   refine Nat.le_of_not_lt fun h=>?_
   have h3:({ s with mv:=s.mv.set k true }:Sl).ft<(s.mv.set k true).length:=by
    rw [List.length_set];have:=s.ft_le;omega
   have h4:=({ s with mv:=s.mv.set k true }:Sl).ft_off h3
   have h6:at_ (s.mv.set k true) ({ s with mv:=s.mv.set k true }:Sl).ft=true:=by
    rw [QXV hk]
    split
    ·rfl
    ·exact s.ft_on h
   rw [h6] at h4;cases h4
  rcases hc with rfl | hc
  ·have h3:=Vhb (l:=s.mv) hk;unfold V65 at h3;rw [if_pos (show ftL s.mv<s.mv.length from hk)] at h3;have h4:s.ft<({ s with mv:=s.mv.set s.ft true }:Sl).ft:=h3;omega
  ·omega
 ·obtain ⟨l,a1,a2,a3,a4⟩:=h.fr;refine ⟨l,by rw [a1];exact (List.length_set ..).symm,fun j hj=>?_,a3,by rw [hM.rm];exact a4⟩
  show at_ (s.mv.set k true) j=true
  rw [QXV hk]
  split
  ·rfl
  ·exact a2 j hj
 ·have a1:s.cf.to+Qd4 s.L<=a:=a1;have hlm:=h.lm;have hln:=hs.cf.ln;obtain ⟨x1,x2⟩:=h.x a a1 a2;obtain ⟨o1,o2⟩:=hM.oth a (by omega) (.inr (by omega)) (fun i hi=>hs.apart ⟨(hs.srcs hi).1,(hs.srcs hi).2.1⟩ ⟨by omega,by omega⟩);exact ⟨o2 x1,o1.trans x2⟩
end
end
end
section
section
open Go.RowKit Word
theorem Zig {m:Nat} (h1:1<=m) (h2:m<=2048) {f:Nat->Nat} (hf:∀ a,f a<18446744073709551616):∃ u:Vm,JKh (m*256) u/\∀ a:Nat,a<m*256->u.ldV a=f a:=by
 have hok:ZAR (Vm.new (m*256) 256 m):=ZAR.new (by unfold Y4M;simp;omega) (by decide) (by omega) (by omega) (Nat.mul_mod_left _ _);have hd:m*256/256=m:=Nat.mul_div_cancel _ (by decide);have hlen:(Vm.new (m*256) 256 m).pt.length=m:=by show (List.replicate (m*256/256) 0).length=m;rw [List.length_replicate,hd]
 have hm:=ZqK hok rfl (fun p hp=>by show (List.replicate (m*256/256) 0).getD p 0=0;exact VBu _ _) (by rw [hlen];exact Nat.le_refl _) (k:=m) (by rw [hlen];exact Nat.le_refl _);have hn:(mpN (Vm.new (m*256) 256 m) m).n=m*256:=hm.n
 have hl:∀ a:Nat,a<m*256->(mpN (Vm.new (m*256) 256 m) m).ldE a=0:=fun a ha=>by
  rw [hm.ldE hok (show a<(Vm.new (m*256) 256 m).n from ha),if_pos];rw [List.mem_range]
  show a/256<m
  omega
 have hs:=VYd hm.ok (fun a ha=>hl a (by rw [hn] at ha;exact ha)) hf (k:=m*256) (by rw [hn];exact Nat.le_refl _);exact ⟨_,⟨hs.ok,hs.sm.n.trans hn,fun a ha=>by rw [hs.sm.ldE];exact hl a ha,by omega⟩,hs.vl⟩
end
end
section
section
open Go.RowKit Word
section
variable {s:Sl} {v v1 v' u:Vm} {k top:Nat}
theorem HpA.ld (hO:ZEw s v) (h:HpA top u s v) {a:Nat} (h1:s.cf.to<=a) (h2:a<top) (hm:∀ i,i<Qd4 s.L->a=s.cf.to+i->s.is i=true):v.ldE a=0/\v.ldV a=u.ldV a:=by
 rcases Nat.lt_or_ge a (s.cf.to+Qd4 s.L) with h3 | h3
 ·obtain ⟨i,rfl⟩:∃ i,a=s.cf.to+i:=⟨a-s.cf.to,by omega⟩;obtain ⟨d1,d2⟩:=hO.mid.dst i (by omega) (hm i (by omega) rfl);exact ⟨d1,by rw [d2,h.c i (by omega)]⟩
 ·exact h.x a h3 h2
theorem HpA.done (hO:ZEw s v) (h:HpA top u s v) (hall:∀ i,i<Qd4 s.L->s.is i=true):(∀ p,p<v.pt.length->(v.pt.getD p 0≠0↔∃ a,s.cf.to<=a/\a<top/\a/s.pg=p))/\∀ a:Nat,s.cf.to<=a->a<top->v.ldE a=0/\v.ldV a=u.ldV a:=by
 have hlm:=h.lm;refine ⟨fun p hp=>?_,fun a h1 h2=>h.ld hO h1 h2 (fun i hi _=>hall i hi)⟩;rw [h.pg p hp,Sl.pS_iff,Sl.pT_iff];constructor
 ·rintro (⟨i,hi,e1,e2⟩ | ⟨i,hi,e1,e2⟩ | ⟨a,a1,a2,a3⟩)
  ·have:=hall i hi;rw [show s.is i=false from e1] at this;cases this
  ·exact ⟨_,Nat.le_add_right _ i,by omega,e2⟩
  ·exact ⟨a,by omega,a2,a3⟩
 ·rintro ⟨a,a1,a2,a3⟩;rcases Nat.lt_or_ge a (s.cf.to+Qd4 s.L) with h3 | h3
  ·exact .inr (.inl ⟨a-s.cf.to,by omega,hall _ (by omega),by rw [<-a3];congr 1;omega⟩)
  ·exact .inr (.inr ⟨a,h3,a2,a3⟩)
theorem XeJ (hO:ZEw s v) (hlm:top<=s.cf.lm) (hp:∀ p,p<v.pt.length->(v.pt.getD p 0≠0↔s.pS (at_ s.mv) p=true\/s.pT top (at_ s.mv) p=true)):v.pl.used=s.U top (at_ s.mv):=by
 rw [hO.mid.ok.us];unfold Sl.U
 rw [hO.np.1,<-Jjp (fun p=>by
  cases e1:s.pS (at_ s.mv) p with
  | false=>rfl
  | true=>
   cases e2:s.pT top (at_ s.mv) p with
   | false=>rfl
   | true=>exact absurd (Sl.pST hO.st hlm e1 e2) id)]
 refine XmU fun p hp'=>Bool.eq_iff_iff.2 ?_;rw [Bool.or_eq_true,<-hp p hp',bne_iff_ne]
theorem QHK {n:Nat} (hn:n<=524288) {f:Nat->Nat} (hf:∀ a,f a<18446744073709551616):∃ u:Vm,ZAR u/\(∀ a:Nat,a<n->u.ldE a=0)/\∀ a:Nat,a<n->u.ldV a=f a:=by
 obtain ⟨u,h1,h2⟩:=Zig (m:=2048) (by omega) (Nat.le_refl _) hf;exact ⟨u,h1.ok,fun a ha=>h1.al a (by omega),fun a ha=>h2 a (by omega)⟩
theorem Jap {c:Cf} {L:List Ob} {rs:List Int} {j:Nat} (hok:ZAR v) (hcf:VeB v.pl.pg v.n c) (hI:Jx2 v rs c.fr c.tp L) (hfit:Qd4 L<=c.lm-c.to) (hfull:XKC v L) (hU:Vdg (V4X v c L) v v' (c.fr/v.pl.pg) j) (hj:c.tp<=(c.fr/v.pl.pg+j)*v.pl.pg)
  (hm:∀ p,p<v.pt.length->v.pt.getD p 0≠0->c.fr/v.pl.pg<=p/\p*v.pl.pg<c.tp) (hrm:v.pl.used+(c.ah+2)*(max 1 (c.bk/v.pl.pg)+3)<=v.pl.rm):ZEw (V4X v c L) v'/\∃ u,HpA (c.to+Qd4 L) u (V4X v c L) v':=by
 have hst:=J4T hok hcf hI hfit;have hO:=QHD hok hcf hI hfit hfull hU;have hP:=JlU hok hcf hI hfit hfull hU hj hm;have hlm:=hcf.lm;refine ⟨hO,?_⟩
 obtain ⟨u,u1,u2,u3⟩:=QHK (n:=v.n) hok.n2 (f:=fun a=>if c.to<=a/\a<c.to+Qd4 L then (V4X v c L).c (a-c.to) else 0) (fun a=>by
  split
  ·exact hst.cv_lt _ (hok.ldV_lt _)
  ·omega)
 have hpg:∀ p,p<v'.pt.length->(v'.pt.getD p 0≠0↔(V4X v c L).pS (at_ (V4X v c L).mv) p=true\/(V4X v c L).pT (c.to+Qd4 L) (at_ (V4X v c L).mv) p=true):=fun p hp=>by
  rw [hP p hp,Sl.pS_iff,Sl.pT_iff];refine or_congr ⟨fun ⟨i,h1,h2,h3⟩=>⟨i,h1,h3,h2⟩,fun ⟨i,h1,h2,h3⟩=>⟨i,h1,h3,h2⟩⟩ ⟨fun ⟨i,h1,h2,h3⟩=>.inl ⟨i,h1,h3,h2⟩,?_⟩;rintro (⟨i,h1,h2,h3⟩ | ⟨a,a1,a2,-⟩)
  ·exact ⟨i,h1,h3,h2⟩
  ·have a1:c.to+Qd4 L<=a:=a1;omega
 have hlen:v'.pt.length=v.pt.length:=by rw [hU.ok.len,hok.len,hU.n,hU.pg]
 have hus:v'.pl.used<=v.pl.used:=by
  rw [hU.ok.us,hok.us];unfold nz;rw [hlen];refine Vj4 fun p hp h=>?_;rw [bne_iff_ne] at h ⊢;exact ((hU.map p hp).1 h).1
 have hlm2:c.to+Qd4 L<=c.lm:=by omega
 refine ⟨u,hpg,by rw [ZPv,Nat.zero_sub];exact Nat.zero_le _,⟨(V4X v c L).mv,rfl,fun _ h=>h,?_,?_⟩,⟨Nat.le_refl _,hlm2⟩,u1,u2,fun i hi=>?_,fun a a1 a2=>?_⟩
 ·show (V4X v c L).mvd-(V4X v c L).ft<=c.ah
  rw [ZPv,Nat.zero_sub];exact Nat.zero_le _
 ·rw [<-XeJ hO hlm2 hpg,hU.rm]
  show v'.pl.used+(c.ah+2)*(max 1 (c.bk/v.pl.pg)+3)<=v.pl.rm
  omega
 ·have hi:i<Qd4 L:=hi
  show u.ldV ((c.to+i:Nat):Int)=_
  rw [u3 _ (by have:=hcf.ln;omega),if_pos ⟨by omega,by omega⟩,Nat.add_sub_cancel_left]
 ·have a1:c.to+Qd4 L<=a:=a1;omega
theorem HpA.alloc (hO:ZEw s v) (h:HpA top u s v) {p f k n:Nat} (hs255:p+f+k<=255) (hn:n=1+p+f+k) (hlm:top+n<=s.cf.lm) (he:Jsl v top ((top+n:Nat):Int)=0) (hG:Ji4 v v1 (J5L v top ((top+n:Nat):Int))) (hu:v.pl.used+(n/s.pg+2+(s.cf.ah+2)*(s.q+3))<=v.pl.rm):
  Y3I v1 top ⟨p,f,k⟩=0/\ZEw s (mkVm v1 top ⟨p,f,k⟩)/\∃ u',HpA (top+n) u' s (mkVm v1 top ⟨p,f,k⟩)/\(∀ a:Nat,a<top->u'.ldV a=u.ldV a)/\u'.ldV top=YsO p f k/\∀ i:Nat,i<p+f+k->u'.ldV ((top+1+i:Nat):Int)=0:=by
 have hs:=hO.st;have hok:=hO.mid.ok;have hpg1:=hs.pg.1;have hln:=hs.cf.ln;have htop:=h.lm;have hto:=hs.cf.to;have hvn:=hO.mid.n;have hvp:=hO.mid.pg
 have hF:∀ b,b∈J5L v top ((top+n:Nat):Int)↔(top/s.pg<=b/\b<=(top+n-1)/s.pg)/\v.pt.getD b 0=0:=fun b=>by
  unfold J5L;rw [if_pos ⟨he,by omega⟩,VWG hok (by omega) (by omega),hvp]
 have hld:∀ a:Nat,top<=a->a<top+n->v1.ldE a=0:=fun a a1 a2=>by
  rw [hG.ldE hok (by omega)]
  split
  ·rfl
  ·rename_i hno;rw [hvp,hF] at hno;have h1:v.pt.getD (a/s.pg) 0≠0:=fun e=>hno ⟨⟨Nat.div_le_div_right a1,Nat.div_le_div_right (by omega)⟩,e⟩;have h2:=(hok.split (a:=a) (by omega)).1;unfold Vm.ldE;rw [if_pos ⟨by omega,by omega⟩,show ((a:Nat):Int)/(v.pl.pg:Int)=((a/v.pl.pg:Nat):Int) from rfl,VP8 h2,hvp,if_neg h1]
 obtain ⟨m1,m2⟩:=JER (v:=v1) hG.ok (t:=top) (p:=p) (f:=f) (c:=k) (by omega) hs255 (fun j hj=>by
  rw [show (top:Int)+(j:Int)=((top+j:Nat):Int) by omega]
  exact hld _ (by omega) (by omega))
 obtain ⟨v2,hv2⟩:∃ v2,v2=mkVm v1 top ⟨p,f,k⟩:=⟨_,rfl⟩;have hS1:ZTP s s.is (fun i=>!s.is i) v1:=hO.mid.grow hs hG;have hsame:Z1d v1 v2:=by rw [hv2];exact (Z1d.refl hG.ok).mkVm _ _
 rw [<-hv2] at m2 ⊢;have hE2:∀ b:Int,v2.ldE b=v1.ldE b:=fun b=>hsame.sm.ldE b
 have hO2:ZEw s v2:=by
  refine ⟨hs,hsame.ok,hsame.sm.n.trans hS1.n,hsame.sm.pg.trans hS1.pg,fun i hi hu=>?_,fun i hi hd=>?_⟩
  ·have h3:=hs.srcs hi;have hne:∀ b:Nat,top<=b->b<top+n->Vjz s.L i≠b:=fun b b1 b2 e=>hs.apart ⟨h3.1,h3.2.1⟩ ⟨show s.cf.to<=b by omega,by omega⟩ (by rw [e]);have h4:=hS1.src i hi hu;rw [hE2,m2,if_neg (fun e=>hne top (Nat.le_refl _) (by omega) (by omega)),if_neg (fun e=>hne (Vjz s.L i) (by omega) (by omega) rfl)];exact h4
  ·have h3:=hs.dsts hi;rw [hE2,m2,if_neg (by omega),if_neg (by omega)];exact hS1.dst i hi hd
 refine ⟨m1,hO2,?_⟩
 obtain ⟨u',u1,u2,u3⟩:=QHK (n:=s.n) hs.n2 (f:=fun a=>if a<top then u.ldV a else v2.ldV a) (fun a=>by
  split
  ·exact h.ok.ldV_lt _
  ·exact hsame.ok.ldV_lt _)
 have hlen:v2.pt.length=v.pt.length:=by rw [hsame.sm.pt,hG.len hok]
 have hpg:∀ b,b<v2.pt.length->(v2.pt.getD b 0≠0↔s.pS (at_ s.mv) b=true\/s.pT (top+n) (at_ s.mv) b=true):=fun b hb=>by
  rw [hlen] at hb;rw [hsame.sm.pt,hG.ma b hb,hF,h.pg b hb]
  have hT:s.pT (top+n) (at_ s.mv) b=true↔s.pT top (at_ s.mv) b=true\/(top/s.pg<=b/\b<=(top+n-1)/s.pg):=by
   rw [Sl.pT_iff,Sl.pT_iff,or_assoc];refine or_congr_right ⟨?_,?_⟩
   ·rintro ⟨a,a1,a2,rfl⟩;rcases Nat.lt_or_ge a top with h3 | h3
    ·exact .inl ⟨a,a1,h3,rfl⟩
    ·exact .inr ⟨Nat.div_le_div_right h3,Nat.div_le_div_right (by omega)⟩
   ·rintro (⟨a,a1,a2,e⟩ | ⟨e1,e2⟩)
    ·exact ⟨a,a1,by omega,e⟩
    ·rcases Nat.lt_or_ge top (b*s.pg) with g | g
     ·refine ⟨b*s.pg,by omega,?_,Nat.mul_div_cancel _ (by omega)⟩;have:=(Nat.le_div_iff_mul_le (show 0<s.pg by omega)).1 e2;omega
     ·refine ⟨top,by omega,by omega,?_⟩;have:=(Nat.le_div_iff_mul_le (show 0<s.pg by omega)).2 g;omega
  rw [hT];by_cases e:v.pt.getD b 0=0
  ·have hno:=mt (h.pg b hb).2 (fun hh=>hh e);constructor
   ·rintro (g | g)
    ·exact absurd g hno
    ·exact .inr (.inr g.1)
   ·rintro (g | g | g)
    ·exact absurd (.inl g) hno
    ·exact absurd (.inr g) hno
    ·exact .inr ⟨g,e⟩
  ·have hy:=(h.pg b hb).1 e;exact ⟨fun _=>hy.imp id .inl,fun _=>.inl hy⟩
 have hlm2:top+n<=s.cf.lm:=hlm;refine ⟨u',⟨hpg,h.ah,⟨s.mv,rfl,fun _ h=>h,h.ah,?_⟩,⟨by omega,hlm⟩,u1,u2,fun i hi=>?_,fun a a1 a2=>?_⟩,fun a ha=>?_,?_,fun i hi=>?_⟩
 ·rw [<-XeJ hO2 hlm2 hpg,hsame.sm.rm,hG.rm]
  have hus:v2.pl.used=v.pl.used+(J5L v top ((top+n:Nat):Int)).length:=by
   rw [<-hG.us,hsame.ok.us,hG.ok.us,hsame.sm.pt]
  have hFl:(J5L v top ((top+n:Nat):Int)).length<=n/s.pg+2:=by
   unfold J5L;rw [if_pos ⟨he,by omega⟩];refine Nat.le_trans (ZmX _ _ _) ?_;unfold XZs;rw [hvp,show ((top+n:Nat):Int)-1=((top+n-1:Nat):Int) by omega,show ((top+n-1:Nat):Int)/(s.pg:Int)=(((top+n-1)/s.pg:Nat):Int) from rfl,show (top:Int)/(s.pg:Int)=((top/s.pg:Nat):Int) from rfl];have h3:=Xra (x:=top) (d:=n-1) hpg1;have h4:=Nat.div_le_div_right (c:=s.pg) (show n-1<=n by omega);rw [show top+(n-1)=top+n-1 by omega] at h3;generalize (top+n-1)/s.pg=x1 at h3 ⊢;generalize top/s.pg=x2 at h3 ⊢;generalize (n-1)/s.pg=x3 at h3 h4;generalize n/s.pg=x4 at h4 ⊢;omega
  generalize n/s.pg=x4 at hFl hu;omega
 ·rw [u3 _ (by have:=(hs.dsts hi).2;omega),if_pos (by omega)];exact h.c i hi
 ·have hb:a<s.n:=by omega
  rw [hE2];rcases Nat.lt_or_ge a top with h3 | h3
  ·obtain ⟨x1,x2⟩:=h.x a a1 h3;rw [m2,if_neg (by omega),if_neg (by omega),u3 a hb,if_pos h3,hG.ldV_all hok (by omega),hG.ldE hok (by omega)];exact ⟨by split <;> first | rfl | exact x1,x2⟩
  ·rw [u3 a hb,if_neg (by omega)];exact ⟨hld a h3 a2,rfl⟩
 ·rw [u3 a (by omega),if_pos ha]
 ·rw [u3 top (by omega),if_neg (by omega),m2,if_pos rfl]
 ·rw [u3 _ (by omega),if_neg (by omega),m2,if_neg (by omega),if_pos (by omega)]
end
end
end
section
section
open Go.RowKit Go.Shelf Word
attribute [local go_sem] Oper.semAt_some
theorem XWt {w:World} {m p1 b1 p2 b2 n:Nat} {L:List Ob} (hE:Ext w m p1 b1 p2 b2 n L) (hT:VRW w) {f:Nat} (hf:f<2147483648):
  Calls Tryz.prog 140 #[.pointer (some ⟨m,0,none⟩),.int .i64 64,.int .i64 f] w fun e w'=>∃ ff B,e=.returned (.tuple #[.pointer (some ⟨ff,0,none⟩),.int .i64 0])/\Gr w w'/\Fwd w' w.heap.size ff n B f L:=by
 refine (XRP hE hT 64 f (by decide)).mono ?_;have hb:ZZx (f:Int)=true:=by unfold ZZx;rw [decide_eq_true (by omega),decide_eq_true (by omega)];rfl
 have hk:Y1d 64=true:=by decide
 rintro e w' ⟨hg,(⟨h,-⟩ | ⟨-,ff,B,base,hB,hbase,rfl,hF⟩)⟩
 ·rw [hk,hb] at h;cases h
 ·obtain rfl:f=base:=by omega
  exact ⟨ff,B,rfl,hg,hF⟩
structure UmP (w8 wx:World) (S5:Nat->Prop) (q r g:Nat) (v2:Vm) (out:List Int) (qs q0 j pg tp:Nat):Prop where
 t:XF4 S5 w8 wx
 vm:∃ Sj,(∀ b,Sj b->plus S5 w8 b)/\QXZ wx Sj q (umN v2 qs (q0+j-qs))
 rt:V5d wx r g out
 q1:∀ i,i<j->(q0+i)*pg<tp
section
variable {w:World} {S:Nat->Prop} {q r g:Nat} {v:Vm} {rs:List Int}
set_option maxHeartbeats 12800000 in
theorem JZL (hV:QXZ w S q v) (hn:v.n≠0) (hR:V5d w r g rs) (hT:VRW w) (htS:¬ S 1) (hrS:¬ S r) (hgS:¬ S g) (fr tp room:Int):
  Calls Tryz.prog 63 #[.pointer (some ⟨q,0,none⟩),.pointer (some ⟨r,0,none⟩),.int .i64 fr,.int .i64 tp,.int .i64 room] w (YYf w S q r g v rs fr tp room):=by
 have HV:=hid hV.cut;have HR:=hid hR;have HT:=hid hT;have HNO:=hid (And.intro htS (And.intro hrS hgS));have htl:=hT.lt;have hrl:=hR.lt;have hn2:=hV.ok.n2;have hpg:=hV.ok.page;have HOK:=hid hV.ok;have HG1:=hid ((Gr.refl w).alloc (.cells #[.pointer (some ⟨q,0,none⟩)] 87));have hrb:=Rec.new w 87 [.pointer (some ⟨q,0,none⟩)];obtain ⟨W0,hW0⟩:∃ W0,W0=w.alloc (.cells #[.pointer (some ⟨q,0,none⟩)] 87):=⟨_,rfl⟩;have hsz0:W0.heap.size=w.heap.size+1:=by rw [hW0,World.size_alloc]
 rw [show w.alloc (.cells ([.pointer (some ⟨q,0,none⟩)]:List Value).toArray 87)=W0 from hW0.symm] at hrb;rw [<-hW0] at HG1;have HRB:=hid hrb;have HCK:=hid (JGL (HV.o.gr HG1.o) hn (HR.o.gr HG1.o) fr tp room);obtain ⟨ce,hce⟩:∃ ce:Int,ce=if JKs v.n fr tp room then 0 else 5:=⟨_,rfl⟩
 rw [<-hce] at HCK;have HCE:=hid hce;have c0:=hrb.cell (j:=0) rfl;have cl:=hrb.lt;have HNZ:=hid hn;clear hV hR hT htS hrS hgS hrb hce hn;have hmf:∀ (fn:Fn) (first cap:Array Value) (w:World),(Instr.makeFunc fn first cap).run Tryz.prog w=.ok (.func fn first cap) w:=fun _ _ _ _=>rfl;refine (callsIn_wide (n:=5)).1 ?_;refine callsIn_of_wp_marks Tryz.func63 rfl trivial ?_ rfl;simp only [Tryz.ntmps63,List.size_toArray,List.length_cons,List.length_nil,Nat.reduceAdd,Nat.reduceSub,Array.replicate_succ,Array.replicate_zero,List.push_toArray,List.append_toArray,List.nil_append,List.cons_append];gi_upto_region 1 with (fail);rw [<-hW0];clear hW0;by_cases hag:JKs v.n fr tp room=true
 ·obtain ⟨h1,h2,h3,h4,h5⟩:=YMk.1 hag;obtain rfl:ce=0:=by rw [HCE.o,if_pos hag]
  have HAG:=hid hag;obtain ⟨f,rfl⟩:∃ f:Nat,fr=f:=⟨fr.toNat,by omega⟩;obtain ⟨t,rfl⟩:∃ t:Nat,tp=t:=⟨tp.toNat,by omega⟩;obtain ⟨k,rfl⟩:∃ k:Nat,room=k:=⟨room.toNat,by omega⟩;have HRC:=hid (Jf0 (HV.o.gr HG1.o) HNZ.o (HR.o.gr HG1.o) (HG1.o.tab htl HT.o) (fun h=>HNO.o.1 h.1) f t k (by omega) (by omega) (by omega));clear hag
  gi_upto_region 5 with (first
   | (refine ⟨trivial,?_⟩;gi_at_call 138;refine (callsIn_wide.2 (HCK.o)).mono ?_;rintro e w1 ⟨rfl,rfl⟩)
   | (refine ⟨trivial,?_⟩;gi_at_call 139;refine (callsIn_wide.2 (HRC.o)).mono ?_;rintro e w1 ⟨ht1,hv1,(⟨L,m,p1,b1,p2,b2,hI,rfl,hE,hm1,hm2,hm3,hm4,hm5⟩ | ⟨hno,rfl⟩)⟩ <;> (have HT1:=hid ht1;have HV1:=hid hv1;have HB1:=hid (HRB.o.touch ht1 (fun h=>by have:=h.2;omega));have HR1:=hid ((HR.o.gr HG1.o).touch ht1 (fun h=>HNO.o.2.1 h.1) (fun h=>HNO.o.2.2 h.1));have y0:=HB1.o.cell (j:=0) rfl;have yl:=HB1.o.lt;clear ht1 hv1)))
  ·have HI:=hid hI;have hw1:=HT1.o.size;have HT1':=hid (HT.o.touch' ((HG1.o.touch _).trans HT1.o) (fun h=>HNO.o.1 h.1));have HFN:=hid (XWt hE HT1'.o (f:=f) (by omega));have HX:=hid hE;have HXM:=hid (And.intro hm1 (And.intro hm2 (And.intro hm3 (And.intro hm4 hm5))));clear hI hE hm1 hm2 hm3 hm4 hm5;gi_upto_region 8 with (refine ⟨trivial,?_⟩;gi_at_call 140;refine (callsIn_wide.2 (HFN.o)).mono ?_;rintro e w2 ⟨ff,B,rfl,hg2,hF⟩;have HG2:=hid hg2;have HFW:=hid hF;clear hg2 hF);obtain ⟨w3,hw3⟩:∃ w3,w3=w2.alloc (.cells #[.pointer (some ⟨ff,0,none⟩)] 208):=⟨_,rfl⟩;have hfc:=Rec.new w2 208 [.pointer (some ⟨ff,0,none⟩)];obtain ⟨fb,hfb⟩:∃ fb,fb=w2.heap.size:=⟨_,rfl⟩;have hg3:Gr w2 w3:=by rw [hw3];exact (Gr.refl w2).alloc _
   have hsz3:w3.heap.size=fb+1:=by rw [hw3,World.size_alloc,hfb]
   rw [show w2.alloc (.cells ([.pointer (some ⟨ff,0,none⟩)]:List Value).toArray 208)=w3 from hw3.symm] at hfc;rw [<-hfb] at hfc ⊢;rw [<-hw3];have hz2:=HG2.o.size;have HFZ:Hid (w1.heap.size<=fb/\fb+1=w3.heap.size/\w2.heap.size=fb):=⟨by omega,hsz3.symm,hfb.symm⟩;have HFC:=hid hfc;have HG13:=hid (HG2.o.trans hg3);have HG23:=hid hg3;have HB3:=hid (HB1.o.gr HG13.o);have HV3:=hid (HV1.o.gr HG13.o);have HTP:=hid (fun (W:World) (g:Gr w3 W)=>ZMu (HFW.o.gr (HG23.o.trans g)));have HALL:Hid (∀ j (hj:j<L.length),f+Qd4 (L.take j)<=L[j].1):=⟨fun j hj=>YnY HI.o.1.mkd.good (fr:=f) (fun o ho=>by have:=HI.o.2 o ho;omega) hj⟩;clear hw3 hfb hfc hg3 y0 yl c0 cl
   have hft:f+Qd4 L<=t:=by
    have hI:=HI.o;rcases Nat.eq_zero_or_pos L.length with h0 | h0
    ·have:L=[]:=List.eq_nil_of_length_eq_zero h0;subst this;simp only [Qd4];omega
    ·have hj:L.length-1<L.length:=by omega
     have e1:=HALL.o _ hj;have e2:=hI.2 _ (List.getElem_mem hj);have e3:=Qsm hj;rw [show L.length-1+1=L.length by omega,List.take_length] at e3;omega
   have HND:=hid (fun (W:World) (g:Gr w3 W)=>YrC (HV3.o.gr g) f (f+Qd4 L) (by omega) (by omega));obtain ⟨nn,hnn⟩:∃ nn,nn=Qd4 L:=⟨_,rfl⟩;have HNN:=hid hnn;obtain ⟨E,hE⟩:∃ E,E=Jsl v f ((f+nn:Nat):Int):=⟨_,rfl⟩;rw [<-hnn] at HND HTP hft;rw [<-hE] at HND;have HE:=hid hE;have hcast:((f+nn:Nat):Int)=(f:Int)+(nn:Int):=by push_cast;rfl
   rw [hcast] at HND;have HCAST:=hid hcast;clear hnn hE hcast;have p0:=HB3.o.cell (j:=0) rfl;have p1':=HFC.o.cell (j:=0) rfl;obtain ⟨Sx,hSx⟩:∃ Sx:World->Prop,Sx=fun W'=>W'.cell? ⟨w.heap.size,0,none⟩=some (.pointer (some ⟨q,0,none⟩))/\W'.cell? ⟨fb,0,none⟩=some (.pointer (some ⟨ff,0,none⟩)):=⟨_,rfl⟩;have x1:∀ p:ZJV Sx,p.w.cell? ⟨w.heap.size,0,none⟩=some (.pointer (some ⟨q,0,none⟩)):=fun p=>by have h:=ZJV.get hSx p;exact h.1
   have x2:∀ p:ZJV Sx,p.w.cell? ⟨fb,0,none⟩=some (.pointer (some ⟨ff,0,none⟩)):=fun p=>by have h:=ZJV.get hSx p;exact h.2
   have HS:Hid (∀ W',W'.cell? ⟨w.heap.size,0,none⟩=some (.pointer (some ⟨q,0,none⟩))/\W'.cell? ⟨fb,0,none⟩=some (.pointer (some ⟨ff,0,none⟩))->Sx W'):=⟨fun W' h=>by rw [hSx];exact h⟩;have hS0:=HS.o (w3.drew) (⟨p0,p1'⟩);have inst:Inhabited (ZJV Sx):=⟨⟨_,hS0⟩⟩;clear hSx;refine V0Y Sx 6 [([0,1,2],3),([],4)] [5] JBz (by kernel_rfl) (by kernel_rfl) hS0 ?_;refine QgQ ?_
   try simp only [XZy,List.getElem?_cons_zero,List.getElem?_cons_succ]
   repeat (go_big_quiet_step (fail))
   refine wpQuiet_nil ?_;gi_wp2_with ((refine ⟨trivial,?_⟩;gi_at_call 141;refine (callsIn_wide.2 (HTP.o _ (Gr.refl w3).drew)).mono ?_;rintro e w4 ⟨rfl,hg4⟩;have HG4:=hid ((Gr.refl w3).drew.trans hg4);have HB4:=hid (HB3.o.gr HG4.o);have HFC4:=hid (HFC.o.gr HG4.o);clear hg4));refine ⟨.inr (ZJV.of (HS.o _ (⟨HB4.o.cell (j:=0) rfl,HFC4.o.cell (j:=0) rfl⟩))),?_⟩;refine QgQ ?_
   try simp only [XZy,List.getElem?_cons_zero,List.getElem?_cons_succ]
   repeat (go_big_quiet_step (fail))
   refine wpQuiet_nil ?_;gi_wp2_with ((refine ⟨trivial,?_⟩;gi_at_call 133;refine (callsIn_wide.2 (HND.o _ HG4.o)).mono ?_;rintro e w5 ⟨rfl,ht5,hg5⟩;have HT5:=hid ht5;have HGW5:=hid hg5;have HB5:=hid (HB4.o.touch ht5 (fun h=>by have:=h.1.2;omega));have HFC5:=hid (HFC4.o.touch ht5 (fun h=>by have:=h.1.2;have:=HFZ.o;omega));clear ht5 hg5));refine ⟨.inr (ZJV.of (HS.o _ (⟨HB5.o.cell (j:=0) rfl,HFC5.o.cell (j:=0) rfl⟩))),?_⟩;refine X0q ?_
   try simp only [XZy,List.getElem?_cons_zero,List.getElem?_cons_succ]
   repeat (go_big_quiet_step (fail))
   refine wpQuiet_nil ?_;refine NoPanic.normal ?_;clear x1 x2 hS0 inst;clear HS Sx;clear p0 p1';have HR5:=hid ((HR1.o.gr (HG13.o.trans HG4.o)).touch HT5.o (fun h=>HNO.o.2.1 h.1.1) (fun h=>HNO.o.2.2 h.1.1));have HTW5:Hid (XF4 S w w5):=⟨(((HG1.o.touch _).trans (HT1.o.mono (fun i _ h=>h.1))).trans ((HG13.o.trans HG4.o).touch _)).trans (HT5.o.mono (fun i _ h=>h.1.1))⟩;by_cases hE0:E=0
   ·subst hE0;obtain ⟨v1,hg1,hv1⟩:=HGW5.o;rw [<-HCAST.o] at hg1;have hnd:=HE.o;rw [HNN.o] at hg1 hnd;obtain ⟨cx,-⟩:=YNw HOK.o HI.o (by omega) (by omega) (by omega) hnd.symm hg1;have HCX:=hid cx;have HGR:=hid hg1;have HND0:=hid hnd;obtain ⟨S5,hS5⟩:∃ S5,S5=ZOk (plus (ZOk (ZOk S w) W0) w4) w5:=⟨_,rfl⟩;have hz4:=HG4.o.size;have hz5:=HT5.o.size
    have HS5:Hid (∀ b,S5 b->(S b/\b<w.heap.size\/w4.heap.size<=b)/\b<w5.heap.size):=⟨fun b hb=>by
     rw [hS5] at hb
     exact ⟨hb.1.imp (fun h=>h.1) id,hb.2⟩⟩
    have HV5:Hid (QXZ w5 S5 q v1):=⟨by rw [hS5];exact hv1.cut⟩;have c13l:=HX.o.hm;have hx5:Ext w5 m p1 b1 p2 b2 v.n L:=(HX.o.gr (HG13.o.trans HG4.o)).touch HT5.o (fun h=>by have:=h.1.2;have:=HXM.o.1;omega) (fun h=>by have:=h.1.2;have:=HXM.o.2.1;omega) (fun h=>by have:=h.1.2;have:=HXM.o.2.2.1;omega) (fun h=>by have:=h.1.2;have:=HXM.o.2.2.2.1;omega) (fun h=>by have:=h.1.2;have:=HXM.o.2.2.2.2;omega);have HX5:=hid hx5;have HTB5:=hid (HT.o.touch' HTW5.o HNO.o.1);have hFX:XF4 (fun i=>i<w.heap.size\/w3.heap.size<=i) w2 w5:=((HG23.o.trans HG4.o).touch _).trans (HT5.o.mono (fun i _ h=>.inl h.1.2));have HFX:=hid hFX;clear hg1 hnd hv1 cx hS5 hx5 hFX;gi_upto_region 11 with (fail);gi_wp2_with (refine ⟨trivial,?_⟩;gi_at_call 142;refine (callsIn_wide.2 (JMu (some ⟨m,0,none⟩))).mono ?_;rintro e w6 ⟨rfl,rfl⟩);obtain ⟨W6,hW6⟩:∃ W6,W6=w5.alloc (.cells #[.pointer (some ⟨m,0,none⟩)] 100):=⟨_,rfl⟩;have hg6:Gr w5 W6:=by rw [hW6];exact (Gr.refl w5).alloc _
    have hs6:W6.heap.size=w5.heap.size+1:=by rw [hW6,World.size_alloc]
    have k6:W6.cell? ⟨w5.heap.size,0,none⟩=some (.pointer (some ⟨m,0,none⟩)):=by rw [hW6];exact (Boxed.new w5 100 (.pointer (some ⟨m,0,none⟩))).cell
    rw [<-hW6];clear hW6;have hfz:=HFZ.o;have HFW6:Hid (∀ W,XF4 (fun i=>i<w.heap.size\/w3.heap.size<=i) W6 W->Fwd W w1.heap.size ff v.n B f L):=⟨fun W tt=>HFW.o.touch ((HFX.o.trans (hg6.touch _)).trans tt) (fun kk h1 h2 h=>by omega)⟩
    have HNS5:Hid (∀ b,w.heap.size<=b->b<w4.heap.size->¬ (S5 b\/W6.heap.size<=b)):=⟨fun b h1 h2 h=>by
     rcases h with h | h
     ·have:=(HS5.o b h).1;omega
     ·omega⟩
    have HNR5:Hid (∀ b,¬ S b->b<w.heap.size->¬ (S5 b\/W6.heap.size<=b)):=⟨fun b h1 h2 h=>by
     rcases h with h | h
     ·rcases (HS5.o b h).1 with h' | h'
      ·exact h1 h'.1
      ·omega
     ·omega⟩
    have HLO:Hid (∀ b,S5 b\/W6.heap.size<=b->b<w.heap.size\/w3.heap.size<=b):=⟨fun b h=>by
     rcases h with h | h
     ·have:=(HS5.o b h).1;omega
     ·omega⟩
    have hml:=HX.o.hm;have hp1l:=HX.o.v1.hp;have hb1l:=HX.o.v1.hb;have hp2l:=HX.o.v2.hp;have hb2l:=HX.o.v2.hb;obtain ⟨hm1,hm2,hm3,hm4,hm5⟩:=HXM.o;have HB6:=hid (HB5.o.gr hg6);have HFC6:=hid (HFC5.o.gr hg6);have HR6:=hid (HR5.o.gr hg6);have htl5:=HTB5.o.lt;have HG6:=hid hg6;have HK6:=hid k6;clear k6 hg6
    have tI:∀ (j:Nat) A B',(XF4 (fun i=>S5 i\/W6.heap.size<=i) W6 A/\j<=L.length/\∃ v'',QXZ A S5 q v''/\Pkd v1 v'' L f (Qd4 (L.take j)))->XF4 (fun i=>W6.heap.size<=i/\i<W6.heap.size+2+4) A B'->(XF4 (fun i=>S5 i\/W6.heap.size<=i) W6 B'/\j<=L.length/\∃ v'',QXZ B' S5 q v''/\Pkd v1 v'' L f (Qd4 (L.take j))):=fun j A B' h tt=>by
     obtain ⟨h1,h2,v'',h3,h4⟩:=h;exact ⟨h1.trans (tt.mono (fun i _ h=>.inr h.1)),h2,v'',h3.touch tt (fun i hi _ h=>by have:=(HS5.o i hi).2;omega),h4⟩
    refine JYJ (K:=4) (s0:=0) rfl (by omega) (gf:=210) (lb:=#[.pointer (some ⟨w5.heap.size,0,none⟩)]) rfl trivial (enters_of Tryz.func210 (by kernel_rfl) rfl)
     (Yd3 _ w5.heap.size m p1 b1 p2 b2 v.n L _) (fun _=>rfl)
     (fun (j:Nat) A=>XF4 (fun i=>S5 i\/W6.heap.size<=i) W6 A/\j<=L.length/\∃ v'',QXZ A S5 q v''/\Pkd v1 v'' L f (Qd4 (L.take j))) (fun _ _=>False) tI (fun _ _ _ h _=>h)
     (fun j A h=>⟨(HX5.o.gr HG6.o).touch h.1 (HNS5.o _ (by omega) (by omega)) (HNS5.o _ (by omega) (by omega)) (HNS5.o _ (by omega) (by omega)) (HNS5.o _ (by omega) (by omega)) (HNS5.o _ (by omega) (by omega)),(HG6.o.tab htl5 HTB5.o).touch' h.1 (HNR5.o _ HNO.o.1 (by omega)),(h.1.cell (by omega) (fun h=>by
      rcases h with h | h
      ·have:=(HS5.o _ h).2;omega
      ·omega) 0).trans HK6.o,h.2.1⟩)
     ⟨XF4.refl _ _,Nat.zero_le _,v1,HV5.o.gr HG6.o,by simpa [Qd4] using Pkd.zero HCX.o.ok L f⟩ ?round ?done (fun _ _ _ _ h _=>h.elim)
    case round=>
     intro lp j x W7 hsz7 hI7 hgv;dsimp only [VYF];gi_wp2;refine ⟨Gr.refl _,fun W8 ht8 hI8=>?_⟩
     have hjl:j<L.length:=by
      rcases Nat.lt_or_ge j L.length with h | h
      ·exact h
      ·unfold YdH at hgv;rw [List.getElem?_eq_none h] at hgv;cases hgv
     obtain rfl:x=L[j]:=by unfold YdH at hgv;rw [List.getElem?_eq_getElem hjl] at hgv;exact (Option.some.inj hgv).symm
     obtain ⟨hT8,-,vx,hvx,hpx⟩:=hI8;have c5:=(HB6.o.touch hT8 (HNS5.o _ (by omega) (by omega))).cell (j:=0) rfl;have c15:=(HFC6.o.touch hT8 (HNS5.o _ (by omega) (by omega))).cell (j:=0) rfl;have HMV:=hid (Q2p hvx (fun W tt=>HFW6.o W ((hT8.mono (fun i _ h=>HLO.o i h)).trans (tt.mono (fun i _ h=>HLO.o i (.inl h.1))))) HCX.o hjl hpx);have HT8:=hid hT8;have HSZ:=hid (Qsm hjl);clear hI7 hgv ht8 hT8 hvx hpx;gi_wp2_with (refine ⟨trivial,?_⟩;gi_at_call 143;refine (CallsIn.inRound lp (callsIn_wide.2 (HMV.o))).mono ?_;rintro e w7 ⟨rfl,ht7,v7,hv7,hp7⟩);refine ⟨ht7.mono (fun i _ h=>.inl (by have:=(HS5.o i h.1).2;omega)),j+1,rfl,HT8.o.trans (ht7.mono (fun i _ h=>.inl h.1)),hjl,v7,hv7.mono (fun b h=>h.1),?_⟩;rw [HSZ.o];exact hp7
    case done=>
     rintro D j W7 hD rfl hI7 hK;obtain ⟨hT7,-,v2,hv2,hp2⟩:=hI7;rw [List.take_length] at hp2;have c5:=(HB6.o.touch hT7 (HNS5.o _ (by omega) (by omega))).cell (j:=0) rfl;have c15:=(HFC6.o.touch hT7 (HNS5.o _ (by omega) (by omega))).cell (j:=0) rfl;have hHFW7:∀ W,XF4 (fun i=>i<w.heap.size\/w3.heap.size<=i) W7 W->Fwd W w1.heap.size ff v.n B f L:=fun W tt=>HFW6.o W ((hT7.mono (fun i _ h=>HLO.o i h)).trans tt);have HTU:=hid (ZKw (fun W tt=>hHFW7 W (tt.mono (fun i _ h=>.inl (by omega)))) c15 (by omega) (HR6.o.touch hT7 (HNR5.o r HNO.o.2.1 (by omega)) (HNR5.o g HNO.o.2.2 (by omega))) (Vco HCX.o));have HB7:=hid (HB6.o.touch hT7 (HNS5.o _ (by omega) (by omega)));have HFC7:=hid (HFC6.o.touch hT7 (HNS5.o _ (by omega) (by omega)));have HFW7:=hid hHFW7;have HT7:=hid hT7;have HV2:=hid hv2;have HP2:=hid hp2;have HK:=hid hK;have HD:=hid hD;have hz7:=hT7.size;clear c5 c15 hHFW7 hT7 hv2 hp2 hK hD;gi_upto_region 16 with (refine ⟨trivial,?_⟩;gi_at_call 87;refine (callsIn_wide.2 (HTU.o)).mono ?_;rintro e w8 ⟨rfl,ht8,hr8⟩;have HT8:=hid ht8;have HR8:=hid hr8;have HB8:=hid (HB7.o.touch ht8 (fun h=>by omega));have HFC8:=hid (HFC7.o.touch ht8 (fun h=>by omega));have hz8:=ht8.size;clear ht8 hr8);have HFW8:Hid (∀ W,XF4 (fun i=>i<w.heap.size\/w3.heap.size<=i) w8 W->Fwd W w1.heap.size ff v.n B f L):=⟨fun W tt=>HFW7.o W ((HT8.o.mono (fun i _ h=>.inl (by omega))).trans tt)⟩;have hgS5:¬ S5 g:=fun h=>HNR5.o g HNO.o.2.2 (by omega) (.inl h);have HV8:=hid (HV2.o.touch HT8.o (fun b hb _ h=>hgS5 (h ▸ hb)));have HGS5:=hid hgS5;clear hgS5;have HD5:Hid (D=W6.heap.size/\D<W7.heap.size/\D≠g/\¬ S5 D):=⟨HD.o,(Array.getElem?_eq_some_iff.1 HK.o).1,by rw [HD.o];omega,fun h=>by rw [HD.o] at h;have:=(HS5.o _ h).2;omega⟩;have HK8:Hid (w8.heap[D]?=some (.deferred (some []))):=⟨(HT8.o.block D HD5.o.2.1 HD5.o.2.2.1).trans HK.o⟩;have hpgv:v2.pl.pg=v.pl.pg:=HP2.o.sm.pg.trans HGR.o.pg;have HVP:=hid (fun (W:World) (g':Gr w8 W)=>VML (HV8.o.gr g'));rw [hpgv] at HVP;obtain ⟨pg,hpge⟩:∃ pg,pg=v.pl.pg:=⟨_,rfl⟩;have HPGE:=hid hpge;rw [<-hpge] at HVP hpg;have HPV:Hid (v2.pl.pg=pg):=⟨by rw [hpgv,hpge]⟩;obtain ⟨q0,hq0⟩:∃ q0,q0=f/pg:=⟨_,rfl⟩;have hq0m:q0*pg<=f:=by rw [hq0];exact Nat.div_mul_le_self f pg
     have HQ0:=hid hq0;have g1:((f:Int).tdiv (pg:Int))=(q0:Int):=by rw [hq0];rfl
     have g2:((f:Int)/(pg:Int))=(q0:Int):=by rw [hq0];rfl
     have hpg0:(pg:Int)≠0:=by omega
     have hq0n:q0<=524288:=by have:=Nat.div_le_self f pg;omega
     have HQM:=hid hq0m;obtain ⟨qs,hqs⟩:∃ qs,qs=Ym5 (f+nn) pg:=⟨_,rfl⟩;have HQS:=hid hqs
     have hqs0:q0<=qs:=by
      rcases Nat.lt_or_ge qs q0 with h | h
      ·exfalso;have h1:=(YmI (nt:=f+nn) (q:=qs) hpg.1).2 (by rw [hqs];exact Nat.le_refl _);have h2:(qs+1)*pg<=q0*pg:=Nat.mul_le_mul_right _ (by omega);rw [Nat.add_mul,Nat.one_mul] at h2;omega
      ·exact h
     have HQL:=hid hqs0;have hft2:f+nn<=1048576:=by omega
     have HUM:Hid (UmP w8 w8 S5 q r g v2 (rs.map (toV L f)) qs q0 0 pg t):=⟨XF4.refl _ _,⟨S5,fun b h=>.inl h,by rw [show q0+0-qs=0 by omega];exact HV8.o⟩,HR8.o,fun i hi=>absurd hi (Nat.not_lt_zero _)⟩;have u5:=HB8.o.cell (j:=0) rfl;have u5l:=HB8.o.lt;clear hpge hq0 hpgv hq0m hqs hqs0;gi_wp2_with (refine ⟨trivial,?_⟩;gi_at_call 136;refine (callsIn_wide.2 (HVP.o _ (Gr.refl w8))).mono ?_;rintro e w9 ⟨rfl,rfl⟩);clear u5 u5l
     gi_loopw [20] (fun s20 wx=>∃ j:Nat,Hid (UmP w8 wx S5 q r g v2 (rs.map (toV L f)) qs q0 j pg t)/\s20=.int .i64 ((q0+j:Nat):Int)) (fun s20 _=>t-(intOf s20).toNat*pg)
     case atStart=>exact ⟨0,HUM,rfl⟩
     case round=>
      clear HUM;obtain ⟨j,HU,rfl⟩:=hrel;obtain ⟨Sj,hsj,hvj⟩:=HU.o.vm;have hVP:=fun (W:World) (g':Gr wr W)=>VML (hvj.gr g');rw [(Jow v2 qs _).2.1,HPV.o] at hVP;have HVP2:=hid hVP;have HVJ:=hid hvj;have HSJ:=hid hsj;have HBX:=hid (HB8.o.touch HU.o.t (fun h=>HNS5.o _ (Nat.le_refl _) (by omega) (.inl h)));have HFX8:=hid (HFC8.o.touch HU.o.t (fun h=>HNS5.o fb (by omega) (by omega) (.inl h)));have HTPX:=hid (fun (W:World) (g':Gr wr W)=>ZMu (HFW8.o W ((HU.o.t.mono (fun i _ h=>HLO.o i (.inl h))).trans (g'.touch _))));rw [<-HNN.o] at HTPX;obtain ⟨qq,hqq⟩:∃ qq,qq=q0+j:=⟨_,rfl⟩;obtain ⟨pp,hpp⟩:∃ pp,pp=qq*pg:=⟨_,rfl⟩
      have hppb:pp<=1048576:=by
       rcases Nat.eq_zero_or_pos j with h0 | h0
       ·rw [hpp,hqq,h0,Nat.add_zero];have:=HQM.o;omega
       ·have:=HU.o.q1 (j-1) (by omega);have e:pp=(q0+(j-1))*pg+pg:=by rw [hpp,hqq,show q0+j=(q0+(j-1))+1 by omega,Nat.add_mul,Nat.one_mul]
        omega
      have hqb:qq<=pp:=by rw [hpp];exact Nat.le_mul_of_pos_right _ (by omega)
      have hmul:((qq:Int)*(pg:Int))=(pp:Int):=by rw [hpp];push_cast;rfl
      have HQQ:=hid (And.intro hqq hpp);rw [<-hqq];clear hVP hvj hsj hqq hpp;have u5:=HBX.o.cell (j:=0) rfl;have u5l:=HBX.o.lt;have u15:=HFX8.o.cell (j:=0) rfl;have u15l:=HFX8.o.lt;by_cases hlt:pp<t
      ·have e1:decide ((pp:Int)<(t:Int))=true:=decide_eq_true (by omega);have e2:decide (pp<t)=true:=decide_eq_true hlt;have HLT:=hid hlt;clear hlt;by_cases hge:f+nn<=pp
       ·have e3:decide ((f:Int)+(nn:Int)<=(pp:Int))=true:=decide_eq_true (by omega);have HGE:=hid hge;clear hge;gi_upto_region 19 with (refine ⟨trivial,?_⟩;gi_at_call 136;refine (callsIn_wide.2 (HVP2.o _ (Gr.refl wr))).mono ?_;rintro e w10 ⟨rfl,rfl⟩);obtain ⟨Sx,hSx⟩:∃ Sx:World->Prop,Sx=fun W'=>W'.cell? ⟨w.heap.size,0,none⟩=some (.pointer (some ⟨q,0,none⟩))/\W'.cell? ⟨fb,0,none⟩=some (.pointer (some ⟨ff,0,none⟩)):=⟨_,rfl⟩;have x1:∀ p:ZJV Sx,p.w.cell? ⟨w.heap.size,0,none⟩=some (.pointer (some ⟨q,0,none⟩)):=fun p=>by have h:=ZJV.get hSx p;exact h.1
        have x2:∀ p:ZJV Sx,p.w.cell? ⟨fb,0,none⟩=some (.pointer (some ⟨ff,0,none⟩)):=fun p=>by have h:=ZJV.get hSx p;exact h.2
        have HS:Hid (∀ W',W'.cell? ⟨w.heap.size,0,none⟩=some (.pointer (some ⟨q,0,none⟩))/\W'.cell? ⟨fb,0,none⟩=some (.pointer (some ⟨ff,0,none⟩))->Sx W'):=⟨fun W' h=>by rw [hSx];exact h⟩;have hS0:=HS.o (wr.drew) (⟨u5,u15⟩);have inst:Inhabited (ZJV Sx):=⟨⟨_,hS0⟩⟩;clear hSx;refine V0Y Sx 7 [([0,1,4],2),([3],5)] [6] JBz (by kernel_rfl) (by kernel_rfl) hS0 ?_;refine QgQ ?_
        try simp only [XZy,List.getElem?_cons_zero,List.getElem?_cons_succ]
        repeat (go_big_quiet_step (fail))
        refine wpQuiet_nil ?_;gi_wp2_with ((refine ⟨trivial,?_⟩;gi_at_call 136;refine (callsIn_wide.2 (HVP2.o _ (Gr.refl wr).drew)).mono ?_;rintro e w10 ⟨rfl,rfl⟩));refine ⟨.inr (ZJV.of (HS.o _ (⟨u5,u15⟩))),?_⟩;refine QgQ ?_
        try simp only [XZy,List.getElem?_cons_zero,List.getElem?_cons_succ]
        repeat (go_big_quiet_step (fail))
        refine wpQuiet_nil ?_;gi_wp2_with ((refine ⟨trivial,?_⟩;gi_at_call 141;refine (callsIn_wide.2 (HTPX.o _ (Gr.refl wr).drew)).mono ?_;rintro e w10 ⟨rfl,hg10⟩;have HG10:=hid ((Gr.refl wr).drew.trans hg10);have z5:=(HBX.o.gr HG10.o).cell (j:=0) rfl;have z5l:=(HBX.o.gr HG10.o).lt;have z15:=(HFX8.o.gr HG10.o).cell (j:=0) rfl;clear hg10));refine ⟨.inr (ZJV.of (HS.o _ (⟨z5,z15⟩))),?_⟩;refine X0q ?_
        try simp only [XZy,List.getElem?_cons_zero,List.getElem?_cons_succ]
        repeat (go_big_quiet_step (fail))
        refine wpQuiet_nil ?_;refine NoPanic.normal ?_;clear x1 x2 hS0 inst;clear HS Sx;clear u5 u5l u15 u15l z15;gi_wp2_with (refine ⟨trivial,?_⟩;gi_at_call 137;refine (callsIn_wide.2 (JYA (HVJ.o.gr HG10.o) (qq:Int))).mono ?_;rintro e w11 ⟨rfl,ht11,hv11⟩;have HT11:=hid ht11;have HV11:=hid hv11;clear ht11 hv11);go_roundw
        case rel=>
         have hzx:=HU.o.t.size;have hzy:=HG10.o.size;refine ⟨j+1,⟨⟨?_,⟨plus Sj w10,fun b hb=>?_,?_⟩,?_,fun i hi=>?_⟩⟩,?_⟩
         ·exact (HU.o.t.trans (HG10.o.touch _)).trans' HT11.o (fun b hb h=>(HSJ.o b h).elim id (fun h=>by omega))
         ·rcases hb with h | h
          ·exact HSJ.o b h
          ·right;omega
         ·have h1:=HV11.o;have h2:=(YmI (nt:=f+nn) (q:=qq) hpg.1).1 (by rw [<-HQQ.o.2];exact HGE.o);rw [<-HQS.o] at h2;have e:q0+(j+1)-qs=(q0+j-qs)+1:=by have:=HQQ.o.1;omega
          rw [e]
          show QXZ _ _ _ ((umN v2 qs (q0+j-qs)).um ((qs+(q0+j-qs):Nat):Int))
          rw [show qs+(q0+j-qs)=qq by have:=HQQ.o.1;omega];exact h1
         ·refine (HU.o.rt.gr HG10.o).touch HT11.o (fun h=>?_) (fun h=>?_)
          ·exact (HSJ.o _ h).elim (fun h=>HNR5.o r HNO.o.2.1 (by omega) (.inl h)) (fun h=>by omega)
          ·exact (HSJ.o _ h).elim HGS5.o (fun h=>by omega)
         ·rcases Nat.lt_or_ge i j with h | h
          ·exact HU.o.q1 i h
          ·obtain rfl:i=j:=by omega
           rw [<-HQQ.o.1,<-HQQ.o.2];exact HLT.o
         ·rw [show q0+(j+1)=qq+1 by rw [HQQ.o.1];omega]
          go_num
        case measure=>
         have h1:=HLT.o;have h2:=HQQ.o.2;simp only [intOf];rw [show ((qq:Int)+1).toNat=qq+1 by omega,Int.toNat_natCast,Nat.add_mul,Nat.one_mul,<-h2];omega
       ·have e3:decide ((f:Int)+(nn:Int)<=(pp:Int))=false:=decide_eq_false (by omega);have HGE:=hid hge;clear hge;gi_upto_region 19 with (refine ⟨trivial,?_⟩;gi_at_call 136;refine (callsIn_wide.2 (HVP2.o _ (Gr.refl wr))).mono ?_;rintro e w10 ⟨rfl,rfl⟩);obtain ⟨Sx,hSx⟩:∃ Sx:World->Prop,Sx=fun W'=>W'.cell? ⟨w.heap.size,0,none⟩=some (.pointer (some ⟨q,0,none⟩))/\W'.cell? ⟨fb,0,none⟩=some (.pointer (some ⟨ff,0,none⟩)):=⟨_,rfl⟩;have x1:∀ p:ZJV Sx,p.w.cell? ⟨w.heap.size,0,none⟩=some (.pointer (some ⟨q,0,none⟩)):=fun p=>by have h:=ZJV.get hSx p;exact h.1
        have x2:∀ p:ZJV Sx,p.w.cell? ⟨fb,0,none⟩=some (.pointer (some ⟨ff,0,none⟩)):=fun p=>by have h:=ZJV.get hSx p;exact h.2
        have HS:Hid (∀ W',W'.cell? ⟨w.heap.size,0,none⟩=some (.pointer (some ⟨q,0,none⟩))/\W'.cell? ⟨fb,0,none⟩=some (.pointer (some ⟨ff,0,none⟩))->Sx W'):=⟨fun W' h=>by rw [hSx];exact h⟩;have hS0:=HS.o (wr.drew) (⟨u5,u15⟩);have inst:Inhabited (ZJV Sx):=⟨⟨_,hS0⟩⟩;clear hSx;refine V0Y Sx 7 [([0,1,4],2),([3],5)] [6] JBz (by kernel_rfl) (by kernel_rfl) hS0 ?_;refine QgQ ?_
        try simp only [XZy,List.getElem?_cons_zero,List.getElem?_cons_succ]
        repeat (go_big_quiet_step (fail))
        refine wpQuiet_nil ?_;gi_wp2_with ((refine ⟨trivial,?_⟩;gi_at_call 136;refine (callsIn_wide.2 (HVP2.o _ (Gr.refl wr).drew)).mono ?_;rintro e w10 ⟨rfl,rfl⟩));refine ⟨.inr (ZJV.of (HS.o _ (⟨u5,u15⟩))),?_⟩;refine QgQ ?_
        try simp only [XZy,List.getElem?_cons_zero,List.getElem?_cons_succ]
        repeat (go_big_quiet_step (fail))
        refine wpQuiet_nil ?_;gi_wp2_with ((refine ⟨trivial,?_⟩;gi_at_call 141;refine (callsIn_wide.2 (HTPX.o _ (Gr.refl wr).drew)).mono ?_;rintro e w10 ⟨rfl,hg10⟩;have HG10:=hid ((Gr.refl wr).drew.trans hg10);have z5:=(HBX.o.gr HG10.o).cell (j:=0) rfl;have z5l:=(HBX.o.gr HG10.o).lt;have z15:=(HFX8.o.gr HG10.o).cell (j:=0) rfl;clear hg10));refine ⟨.inr (ZJV.of (HS.o _ (⟨z5,z15⟩))),?_⟩;refine X0q ?_
        try simp only [XZy,List.getElem?_cons_zero,List.getElem?_cons_succ]
        repeat (go_big_quiet_step (fail))
        refine wpQuiet_nil ?_;refine NoPanic.normal ?_;clear x1 x2 hS0 inst;clear HS Sx;clear u5 u5l u15 u15l z15;gi_wp2;go_roundw
        case rel=>
         refine ⟨j+1,⟨⟨HU.o.t.trans (HG10.o.touch _),⟨Sj,HSJ.o,?_⟩,HU.o.rt.gr HG10.o,fun i hi=>?_⟩⟩,?_⟩
         ·have h1:=HVJ.o.gr HG10.o
          have h2:¬ qs<=qq:=fun h=>HGE.o (by
           rw [HQQ.o.2]
           exact (YmI hpg.1).2 (by rw [<-HQS.o];exact h))
          have e:q0+(j+1)-qs=q0+j-qs:=by have:=HQQ.o.1;omega
          rw [e];exact h1
         ·rcases Nat.lt_or_ge i j with h | h
          ·exact HU.o.q1 i h
          ·obtain rfl:i=j:=by omega
           rw [<-HQQ.o.1,<-HQQ.o.2];exact HLT.o
         ·rw [show q0+(j+1)=qq+1 by rw [HQQ.o.1];omega]
          go_num
        case measure=>
         have h1:=HLT.o;have h2:=HQQ.o.2;simp only [intOf];rw [show ((qq:Int)+1).toNat=qq+1 by omega,Int.toNat_natCast,Nat.add_mul,Nat.one_mul,<-h2];omega
      ·have e1:decide ((pp:Int)<(t:Int))=false:=decide_eq_false (by omega);have e2:decide (pp<t)=false:=decide_eq_false hlt;have HLT:=hid hlt;clear hlt
       gi_wp2_with (first
        | (refine ⟨trivial,?_⟩;gi_at_call 136;refine (callsIn_wide.2 (HVP2.o _ (Gr.refl wr))).mono ?_;rintro e w10 ⟨rfl,rfl⟩)
        | (refine ⟨trivial,?_⟩;gi_at_call 141;refine (callsIn_wide.2 (HTPX.o _ (Gr.refl wr))).mono ?_;rintro e w10 ⟨rfl,hg10⟩;have HG10:=hid hg10;clear hg10))
       have hD5:w10.heap[D]?=some (.deferred (some [])):=by
        have h1:=HU.o.t.size;rw [HG10.o.block (by have:=HD5.o.2.1;omega),HU.o.t.block D (by have:=HD5.o.2.1;omega) HD5.o.2.2.2];exact HK8.o
       refine ⟨by simp,.inl ⟨_,_,rfl,run_takeDeferred hD5,?_⟩⟩;have tt:=Vx3 w10 D (.deferred none);have hd:=HD5.o;have h8x:=HU.o.t.size;refine ⟨.tuple #[.int .i64 ((f:Int)+(nn:Int)),.int .i64 0],?_,?_,.inr ⟨HAG.o,.inr ⟨L,f,t,HI.o,rfl,rfl,.inr ⟨HND0.o.symm,?_,v1,v2,j,⟨HGR.o,HCX.o,HP2.o,?_,?_⟩,?_,?_⟩⟩⟩⟩
       ·simp [results,Tryz.f63,go_sem]
       ·have a1:=HTW5.o.trans (HG6.o.touch S)
        have a2:=a1.trans' HT7.o (fun b hb h=>by
         rcases h with h | h
         ·rcases (HS5.o b h).1 with h' | h'
          ·exact h'.1
          ·omega
         ·omega)
        have a3:=(a2.mono (T:=fun b=>b=g\/S b) (fun _ _ h=>.inr h)).trans (HT8.o.mono (fun i _ h=>.inl h))
        have a4:=a3.trans' HU.o.t (fun b hb h=>by
         rcases (HS5.o b h).1 with h' | h'
         ·exact .inr h'.1
         ·omega)
        exact (a4.trans (HG10.o.touch _)).trans' tt (fun b hb h=>by omega)
       ·rw [<-HNN.o];push_cast;rfl
       ·intro i hi;rw [<-HPGE.o,<-HQ0.o];exact HU.o.q1 i hi
       ·rw [<-HPGE.o,<-HQ0.o,<-HQQ.o.1,<-HQQ.o.2];have:=HLT.o;omega
       ·unfold VYG;rw [<-HNN.o,<-HPGE.o,<-HQS.o,<-HQ0.o];refine ((HVJ.o.gr HG10.o).touch tt (fun b hb _ h=>?_)).mono (fun b hb=>?_)
        ·rcases HSJ.o b hb with h' | h'
         ·exact hd.2.2.2 (h ▸ h')
         ·omega
        ·rcases HSJ.o b hb with h' | h'
         ·exact (HS5.o b h').1.imp (fun h=>h.1) (fun h=>by omega)
         ·right;omega
       ·exact (HU.o.rt.gr HG10.o).touch tt (fun h=>by omega) (fun h=>hd.2.2.1 h.symm)
   ·have d0:(E !=0)=true:=by simpa using hE0
    have HE0:=hid hE0;clear hE0;gi_wp2;refine ⟨.tuple #[.int .i64 0,.int .i64 E],?_,HTW5.o.mono (fun i _ h=>.inr h),.inr ⟨HAG.o,.inr ⟨L,f,t,HI.o,rfl,rfl,.inl ⟨?_,?_,?_,HR5.o⟩⟩⟩⟩
    ·simp [results,Tryz.f63,go_sem]
    ·rw [<-HNN.o,<-HE.o];exact HE0.o
    ·rw [<-HNN.o,<-HE.o]
    ·have hF:J5L v f ((f+nn:Nat):Int)=[]:=by unfold J5L;rw [if_neg (fun h=>HE0.o (HE.o.trans h.1))]
     obtain ⟨v',hg,hv⟩:=HGW5.o;rw [<-HCAST.o,hF] at hg;have h1:=HT1.o.size;have h2:=(HG13.o.trans HG4.o).size;exact ⟨v',hg,hv.mono (fun b hb=>hb.elim (fun h=>.inl h.1.1) (fun h=>.inr (by omega)))⟩
  ·have HNOL:=hid hno;clear hno;gi_wp2;refine ⟨.tuple #[.int .i64 0,.int .i64 25],?_,?_,.inr ⟨HAG.o,.inl ⟨HNOL.o,rfl,?_,?_⟩⟩⟩
   ·simp [results,Tryz.f63,go_sem]
   ·exact (HG1.o.touch _).trans (HT1.o.mono (fun i _ h=>.inr h.1))
   ·exact HV1.o.mono (fun b h=>h.1.1)
   ·exact HR1.o
 ·obtain rfl:ce=5:=by rw [HCE.o,if_neg hag]
  have HAG:=hid hag;clear hag;gi_wp2_with (refine ⟨trivial,?_⟩;gi_at_call 138;refine (callsIn_wide.2 (HCK.o)).mono ?_;rintro e w1 ⟨rfl,rfl⟩);refine ⟨.tuple #[.int .i64 0,.int .i64 5],?_,?_,.inl ⟨by simpa using HAG.o,rfl,?_,?_⟩⟩
  ·simp [results,Tryz.f63,go_sem]
  ·exact HG1.o.touch _
  ·exact (HV.o.gr HG1.o).mono (fun b h=>h.1)
  ·exact HR.o.gr HG1.o
end
end
end
section
section
open Go.RowKit Word
section
variable {w:World} {A0 A:Option Addr} {cp cr M:Nat} {v:Vm} {rs O:List Int} {L:List Ob}
end
def us (l:List Nat):List Value:=l.map fun x=>.int .u64 (x:Nat)
section
variable {w:World} {A0 A:Option Addr} {cp cr M:Nat} {v:Vm} {rs O:List Int} {L:List Ob}
end
end
end
section
section
open Go.RowKit Word
theorem Qst {v v1:Vm} (h:ZAR v) {f t:Nat} (_ht:t<=v.n) (hE:Jsl v f t=0) (hG:Ji4 v v1 (J5L v f t)) {a:Nat} (ha:a<v.n):
  v1.ldE a=0↔v.ldE a=0\/(f<t/\f/v.pl.pg<=a/v.pl.pg/\a/v.pl.pg<=(t-1)/v.pl.pg):=by
 have hp:=h.page;rw [hG.ldE h ha];rcases Nat.lt_or_ge f t with hft | hft
 ·have hF:J5L v f t=Jfy v ((f:Int)/v.pl.pg).toNat (XZs v f t):=by unfold J5L;rw [if_pos ⟨hE,by omega⟩]
  have e1:((f:Int)/(v.pl.pg:Int)).toNat=f/v.pl.pg:=by rw [<-Int.natCast_ediv];exact Int.toNat_natCast _
  have e2:XZs v f t=(t-1)/v.pl.pg+1-f/v.pl.pg:=by
   unfold XZs;rw [show (t:Int)-1=((t-1:Nat):Int) by omega,<-Int.natCast_ediv,<-Int.natCast_ediv];have:f/v.pl.pg<=(t-1)/v.pl.pg:=Nat.div_le_div_right (by omega);omega
  have g0:f/v.pl.pg<=(t-1)/v.pl.pg:=Nat.div_le_div_right (by omega);rw [hF];have hmem:a/v.pl.pg∈Jfy v ((f:Int)/v.pl.pg).toNat (XZs v f t)↔(f/v.pl.pg<=a/v.pl.pg/\a/v.pl.pg<f/v.pl.pg+((t-1)/v.pl.pg+1-f/v.pl.pg))/\v.pt.getD (a/v.pl.pg) 0=0:=by rw [YYE,e1,e2]
  by_cases h0:v.pt.getD (a/v.pl.pg) 0=0
  ·have hl:v.ldE a=12:=by rw [h.ldE_of ha,if_pos h0]
   rw [hl];constructor
   ·intro hx
    split at hx
    ·rename_i hc;have:=hmem.1 hc;exact .inr ⟨hft,by omega⟩
    ·cases hx
   ·rintro (hx | hx)
    ·cases hx
    ·rw [if_pos (hmem.2 ⟨by omega,h0⟩)]
  ·have hl:v.ldE a=0:=by rw [h.ldE_of ha,if_neg h0]
   rw [if_neg (fun hc=>h0 (hmem.1 hc).2),hl];exact ⟨fun _=>.inl rfl,fun _=>rfl⟩
 ·have hF:J5L v f t=[]:=by unfold J5L;rw [if_neg (fun hc=>by have:=hc.2;omega)]
  rw [hF,if_neg (by simp)];exact ⟨.inl,fun hx=>hx.elim id (fun hx=>by omega)⟩
section
variable {v v1 v2:Vm} {rs:List Int} {f t j:Nat} {L:List Ob}
theorem JyP.base (d:JyP v rs f t L v1 v2 j):(VYG v v2 f (f+Qd4 L) j).n=v.n/\(VYG v v2 f (f+Qd4 L) j).pl.pg=v.pl.pg/\(VYG v v2 f (f+Qd4 L) j).pl.rm=v.pl.rm/\ZAR (VYG v v2 f (f+Qd4 L) j)/\v2.n=v.n/\v2.pl.pg=v.pl.pg:=by
 obtain ⟨e1,e2,e3,-⟩:=Jow v2 (Ym5 (f+Qd4 L) v.pl.pg) (f/v.pl.pg+j-Ym5 (f+Qd4 L) v.pl.pg);have n2:v2.n=v.n:=d.st.sm.n.trans d.gr.n;have p2:v2.pl.pg=v.pl.pg:=d.st.sm.pg.trans d.gr.pg;exact ⟨e1.trans n2,e2.trans p2,e3.trans (d.st.sm.rm.trans d.gr.rm),JjA d.st.ok _ _,n2,p2⟩
theorem JyP.ldE (d:JyP v rs f t L v1 v2 j) (h:ZAR v) (hE:Jsl v f ((f+Qd4 L:Nat):Int)=0) (hn:f+Qd4 L<=v.n) {a:Nat} (ha:a<v.n):
  (VYG v v2 f (f+Qd4 L) j).ldE a=0↔(v.ldE a=0\/(0<Qd4 L/\f/v.pl.pg<=a/v.pl.pg/\a/v.pl.pg<=(f+Qd4 L-1)/v.pl.pg))/\¬ (Ym5 (f+Qd4 L) v.pl.pg<=a/v.pl.pg/\a/v.pl.pg<f/v.pl.pg+j):=by
 obtain ⟨-,-,-,-,n2,p2⟩:=d.base;have h1:=Qst h hn hE d.gr ha;unfold VYG;rw [X0U d.st.ok _ _ (by rw [n2];exact ha),p2,d.st.sm.ldE];rw [show (0<Qd4 L/\f/v.pl.pg<=a/v.pl.pg/\a/v.pl.pg<=(f+Qd4 L-1)/v.pl.pg)↔(f<f+Qd4 L/\f/v.pl.pg<=a/v.pl.pg/\a/v.pl.pg<=(f+Qd4 L-1)/v.pl.pg) from ⟨fun h=>⟨by omega,h.2⟩,fun h=>⟨by omega,h.2⟩⟩];rw [<-h1];by_cases hx:Ym5 (f+Qd4 L) v.pl.pg<=a/v.pl.pg/\a/v.pl.pg<Ym5 (f+Qd4 L) v.pl.pg+(f/v.pl.pg+j-Ym5 (f+Qd4 L) v.pl.pg)
 ·rw [if_pos hx];exact ⟨(fun h=>by cases h),fun h=>absurd (show Ym5 (f+Qd4 L) v.pl.pg<=a/v.pl.pg/\a/v.pl.pg<f/v.pl.pg+j by omega) h.2⟩
 ·rw [if_neg hx];exact ⟨fun h=>⟨h,fun h'=>hx (by omega)⟩,fun h=>h.1⟩
theorem JyP.ldV (d:JyP v rs f t L v1 v2 j) {a:Nat} (ha:a<v.n) (hl:¬ (Ym5 (f+Qd4 L) v.pl.pg<=a/v.pl.pg/\a/v.pl.pg<f/v.pl.pg+j)):(VYG v v2 f (f+Qd4 L) j).ldV a=v2.ldV a:=by
 obtain ⟨-,-,-,-,n2,p2⟩:=d.base;exact VIn d.st.ok _ _ (by rw [n2];exact ha) (by rw [p2];omega)
theorem JyP.word (d:JyP v rs f t L v1 v2 j) (h:ZAR v) (hn:f+Qd4 L<=v.n) {i:Nat} (hi:i<Qd4 L):(VYG v v2 f (f+Qd4 L) j).ldV ((f+i:Nat):Int)=(QRw v1 L f L).getD i 0:=by
 have hp:=h.page
 rw [d.ldV (by omega) (fun hx=>by
  have h1:=(YmI (nt:=f+Qd4 L) (pg:=v.pl.pg) hp.1).2 hx.1;have:=Nat.div_mul_le_self (f+i) v.pl.pg
  omega)]
 exact d.st.row i hi
end
theorem VRx {q0 pg tp j:Nat} (h1:∀ i,i<j->(q0+i)*pg<tp) (h2:tp<=(q0+j)*pg) (q:Nat) (hq:q0<=q):q<q0+j↔q*pg<tp:=by
 constructor
 ·intro h;have:=h1 (q-q0) (by omega)
  rwa [show q0+(q-q0)=q by omega] at this
 ·intro h;rcases Nat.lt_or_ge q (q0+j) with h' | h'
  ·exact h'
  ·exfalso;have:=Nat.mul_le_mul_right pg h';omega
end
end
section
section
open Go.RowKit Word
theorem Qx9 (L:List Ob) {i j:Nat} (h:i<=j):Qd4 (L.take i)<=Qd4 (L.take j):=by
 induction j with
 | zero=>rw [Nat.le_zero.1 h];exact Nat.le_refl _
 | succ j ih=>
  rcases Nat.lt_or_ge j i with h' | h'
  ·obtain rfl:i=j+1:=by omega
   exact Nat.le_refl _
  ·refine Nat.le_trans (ih h') ?_;rcases Nat.lt_or_ge j L.length with hj | hj
   ·rw [Qsm hj];omega
   ·rw [List.take_of_length_le (by omega),List.take_of_length_le (by omega)];exact Nat.le_refl _
structure Vpy (u a:Vm) (rs:List Int) (L:List Ob) (f n:Nat):Prop where
 mks:Zx6 u rs n L
 un:u.n=n
 ok:ZAR u
 f1:1<=f
 top:f+Qd4 L<=n
 n2:n<=524288
 ge:∀ o∈L,f<=o.1
 ld:∀ i,i<Qd4 L->a.ldE ((f+i:Nat):Int)=0
 wd:∀ i,i<Qd4 L->a.ldV ((f+i:Nat):Int)=(QRw u L f L).getD i 0
section
variable {u a:Vm} {rs:List Int} {L:List Ob} {f n:Nat}
theorem Vpy.to (h:Vpy u a rs L f n) {b:Int} (hb:Hs L b):∃ j,∃ hj:j<L.length,(L[j].1:Int)=b/\toV L f b=((f+Qd4 (L.take j):Nat):Int):=by
 obtain ⟨o,ho,he⟩:=hb;obtain ⟨j,hj,rfl⟩:=List.getElem_of_mem ho;refine ⟨j,hj,he,?_⟩;have h1:=(h.mks.mkd.good.sz _ (List.getElem_mem hj)).1;have:=(YXt h.mks.mkd.good (base:=f) hj (a:=b) (by omega) (by omega)).1;rw [this];omega
theorem Vpy.zero (h:Vpy u a rs L f n):toV L f 0=0:=by
 have hn:¬ ZH8 L 0<L.length:=fun hx=>by
  have h1:=JBb hx;have h2:=h.ge _ (List.getElem_mem hx);have:=h.f1;omega
 exact (YPG hn).1
theorem Vpy.word (h:Vpy u a rs L f n) {j m:Nat} (hj:j<L.length) (hm:m<L[j].2):a.ldE ((f+Qd4 (L.take j)+m:Nat):Int)=0/\a.ldV ((f+Qd4 (L.take j)+m:Nat):Int)=pkW u L f L[j].1 m:=by
 have h2:=VfC hj;have e:f+Qd4 (L.take j)+m=f+(Qd4 (L.take j)+m):=by omega
 rw [e];exact ⟨h.ld _ (by omega),by rw [h.wd _ (by omega),Ywe u L f L hj hm]⟩
end
end
end
section
section
open Go.RowKit Word
theorem QDj {u a:Vm} {rs:List Int} {L:List Ob} {f n:Nat} (h:Vpy u a rs L f n):XhE u a (Rch u rs) (toV L f) f (f+Qd4 L):=by
 have hM:=h.mks;have hn2:=h.n2;have hsz:∀ {j:Nat} (hj:j<L.length),u.osz ((L[j].1:Nat):Int)=(L[j].2:Nat):=fun hj=>((hM.mkd.ats _ (List.getElem_mem hj)).2.2).symm;refine ⟨h.zero,fun b hb m hm=>?_,fun b hb=>?_,fun b b' hb hb'=>?_⟩
 ·obtain ⟨j,hj,rfl,e⟩:=h.to (hM.all _ hb);rw [hsz hj] at hm;obtain ⟨x1,x2⟩:=h.word hj (m:=m) (by omega);rw [e,show ((f+Qd4 (L.take j):Nat):Int)+(m:Int)=((f+Qd4 (L.take j)+m:Nat):Int) by omega];refine ⟨x1,?_⟩;rw [x2,YfZ u L f L[j].1 m rfl,show ((L[j].1:Nat):Int)+(m:Int)=((L[j].1+m:Nat):Int) by omega];by_cases hT:1<=m/\(m:Int)<=(u.rdH ((L[j].1:Nat):Int)).p
  ·rw [if_pos hT];by_cases h0:u.ldV ((L[j].1+m:Nat):Int)=0
   ·rw [if_neg (fun hh=>hh.2 h0),h0];exact h.zero.symm
   ·rw [if_pos ⟨hT,h0⟩];have:=ZEN hM.mkd.good (by omega) f (u.ldV ((L[j].1+m:Nat):Int):Nat);omega
  ·rw [if_neg hT,if_neg (fun hh=>hT hh.1)]
 ·obtain ⟨j,hj,rfl,e⟩:=h.to (hM.all _ hb);have h1:=VfC hj;rw [e,hsz hj];omega
 ·obtain ⟨j,hj,rfl,e⟩:=h.to (hM.all _ hb);obtain ⟨i,hi,rfl,e'⟩:=h.to (hM.all _ hb');have s1:=Qsm hj;have s2:=Qsm hi;rw [e,e',hsz hj,hsz hi];rcases Nat.lt_trichotomy j i with hl | hl | hl
  ·have:=Qx9 L (show j+1<=i by omega);exact .inr (.inl (by omega))
  ·subst hl;exact .inl rfl
  ·have:=Qx9 L (show i+1<=j by omega);exact .inr (.inr (by omega))
end
end
section
section
open Go.RowKit Word
structure ShA (base top:Nat) (v:Vm):Prop where
 ok:ZAR v
 al:base%v.pl.pg=0
 bt:base<=top/\top<=v.n
 pg:∀ a:Nat,a<v.n->(v.ldE a=0↔base<=a/\a/v.pl.pg*v.pl.pg<top)
section
variable {v v1 v2 v':Vm} {base top W:Nat}
theorem ShA.ld (h:ShA base top v) {a:Nat} (h1:base<=a) (h2:a<top):v.ldE a=0:=(h.pg a (by have:=h.bt;omega)).2 ⟨h1,Nat.lt_of_le_of_lt (Nat.div_mul_le_self _ _) h2⟩
theorem Vod {b p g:Nat} (hg:1<=g) (hb:b%g=0):b<=p*g↔b/g<=p:=by
 have h1:=Nat.div_add_mod b g;rw [hb,Nat.add_zero,Nat.mul_comm] at h1;constructor
 ·intro h;exact Nat.le_of_mul_le_mul_right (by omega) (show 0<g by omega)
 ·intro h;have:=Nat.mul_le_mul_right g h;omega
theorem ShA.map (h:ShA base top v) {p:Nat} (hp:p<v.pt.length):v.pt.getD p 0≠0↔base/v.pl.pg<=p/\p*v.pl.pg<top:=by
 have hpg:=h.ok.page.1
 have hn:p*v.pl.pg<v.n:=by
  have h1:=h.ok.np;have h2:=Nat.mul_lt_mul_of_pos_right hp (show 0<v.pl.pg by omega);omega
 have h1:=h.pg _ hn;have e:p*v.pl.pg/v.pl.pg=p:=Nat.mul_div_cancel _ (by omega);rw [h.ok.ldE_of hn,e,Vod hpg h.al] at h1;rw [<-h1];constructor
 ·intro hh;rw [if_neg hh]
 ·intro hh e2;rw [if_pos e2] at hh;cases hh
theorem Y5B {base W top p g:Nat} (hg:1<=g) (h1:base%g=0) (h2:W%g=0) (ht:top<=base+W) (hp:p*g<top):p<base/g+W/g:=by
 have e1:=Nat.div_add_mod base g;have e2:=Nat.div_add_mod W g;rw [h1,Nat.add_zero,Nat.mul_comm] at e1;rw [h2,Nat.add_zero,Nat.mul_comm] at e2;refine Nat.lt_of_mul_lt_mul_right (a:=g) ?_;rw [Nat.add_mul];omega
theorem ShA.used (h:ShA base top v) (hW:W%v.pl.pg=0) (ht:top<=base+W):v.pl.used<=W/v.pl.pg:=by
 have hpg:=h.ok.page.1;rw [h.ok.us];refine Nat.le_trans (Vj4 (g:=fun p=>decide (base/v.pl.pg<=p/\p<base/v.pl.pg+W/v.pl.pg)) fun p hp hh=>?_) (Nat.le_trans (ZH7 _ _ _) (Nat.le_of_eq (Nat.add_sub_cancel_left ..)));rw [bne_iff_ne,h.map hp] at hh;exact decide_eq_true ⟨hh.1,Y5B hpg h.al hW ht hh.2⟩
theorem ShA.need (h:ShA base top v) {n:Nat} (hn:1<=n) (hW:W%v.pl.pg=0) (ht:top+n<=base+W) (hb:base+W<=v.n) (hrm:W/v.pl.pg<=v.pl.rm):Jsl v top ((top+n:Nat):Int)=0:=by
 have hpg:=h.ok.page.1;have hbt:=h.bt;obtain ⟨p0,hp0⟩:∃ p0,p0=top/v.pl.pg:=⟨_,rfl⟩;obtain ⟨p1,hp1⟩:∃ p1,p1=(top+n-1)/v.pl.pg:=⟨_,rfl⟩;have hp01:p0<=p1:=by rw [hp0,hp1];exact Nat.div_le_div_right (by omega)
 have hp1l:p1<v.pt.length:=by rw [hp1];exact (h.ok.split (a:=top+n-1) (by omega)).1
 have eA:((top:Int)/(v.pl.pg:Int)).toNat=p0:=by
  rw [show (top:Int)/(v.pl.pg:Int)=((top/v.pl.pg:Nat):Int) from rfl,Int.toNat_natCast,hp0]
 have eB:XZs v top ((top+n:Nat):Int)=p1+1-p0:=by
  unfold XZs;rw [show ((top+n:Nat):Int)-1=((top+n-1:Nat):Int) by omega,show ((top+n-1:Nat):Int)/(v.pl.pg:Int)=(((top+n-1)/v.pl.pg:Nat):Int) from rfl,show (top:Int)/(v.pl.pg:Int)=((top/v.pl.pg:Nat):Int) from rfl,<-hp0,<-hp1];omega
 unfold Jsl;rw [if_neg (by omega),if_neg (by omega),eA,eB,if_pos];rw [<-Y0i h.ok (by omega)];refine Nat.le_trans (Vj4 (g:=fun p=>decide (base/v.pl.pg<=p/\p<base/v.pl.pg+W/v.pl.pg)) fun p hp hh=>?_) (Nat.le_trans (ZH7 _ _ _) (Nat.le_trans (Nat.le_of_eq (Nat.add_sub_cancel_left ..)) hrm));rw [Bool.or_eq_true,bne_iff_ne,decide_eq_true_eq] at hh;refine decide_eq_true ?_;rcases hh with hh | hh
 ·rw [h.map hp] at hh;exact ⟨hh.1,Y5B hpg h.al hW (by omega) hh.2⟩
 ·have h1:base/v.pl.pg<=p0:=by rw [hp0];exact Nat.div_le_div_right hbt.1
  refine ⟨by omega,Y5B hpg h.al hW ht ?_⟩;have h2:=Nat.mul_le_mul_right v.pl.pg (show p<=p1 by omega);have h3:=Nat.div_mul_le_self (top+n-1) v.pl.pg;rw [<-hp1] at h3;omega
theorem ShA.alloc (h:ShA base top v) {p f k n:Nat} (hs255:p+f+k<=255) (hn:n=1+p+f+k) (h0:0<top) (hle:top+n<=v.n) (he:Jsl v top ((top+n:Nat):Int)=0) (hG:Ji4 v v1 (J5L v top ((top+n:Nat):Int))):
  Y3I v1 top ⟨p,f,k⟩=0/\ShA base (top+n) (mkVm v1 top ⟨p,f,k⟩)/\Z1d v1 (mkVm v1 top ⟨p,f,k⟩)/\(∀ a:Nat,a<top->(mkVm v1 top ⟨p,f,k⟩).ldV a=v.ldV a)/\(mkVm v1 top ⟨p,f,k⟩).ldV top=YsO p f k/\∀ i:Nat,i<p+f+k->(mkVm v1 top ⟨p,f,k⟩).ldV ((top+1+i:Nat):Int)=0:=by
 have hpg:=h.ok.page.1;have hbt:=h.bt
 have hl:∀ a:Nat,a<v.n->(v1.ldE a=0↔base<=a/\a/v.pl.pg*v.pl.pg<top+n):=fun a ha=>by
  rw [Qst h.ok hle he hG ha,h.pg a ha];have q1:=Nat.div_mul_le_self a v.pl.pg;have q2:=Nat.div_add_mod a v.pl.pg;have q3:=Nat.mod_lt a (show 0<v.pl.pg by omega);rw [Nat.mul_comm] at q2;constructor
  ·rintro (⟨a1,a2⟩ | ⟨-,a1,a2⟩)
   ·exact ⟨a1,by omega⟩
   ·have h1:base/v.pl.pg<=a/v.pl.pg:=Nat.le_trans (Nat.div_le_div_right hbt.1) a1;have h2:=(Vod hpg h.al).2 h1;have h3:=Nat.mul_le_mul_right v.pl.pg a2;have h4:=Nat.div_mul_le_self (top+n-1) v.pl.pg;exact ⟨by omega,by omega⟩
  ·rintro ⟨a1,a2⟩;rcases Nat.lt_or_ge (a/v.pl.pg*v.pl.pg) top with h1 | h1
   ·exact .inl ⟨a1,h1⟩
   ·refine .inr ⟨by omega,?_,?_⟩
    ·exact Nat.div_le_div_right (by omega)
    ·rw [Nat.le_div_iff_mul_le (by omega)];omega
 obtain ⟨m1,m2⟩:=JER (v:=v1) hG.ok (t:=top) (p:=p) (f:=f) (c:=k) h0 hs255 (fun j hj=>by
  rw [show (top:Int)+(j:Int)=((top+j:Nat):Int) by omega]
  exact (hl _ (by omega)).2 ⟨by omega,by have:=Nat.div_mul_le_self (top+j) v.pl.pg;omega⟩)
 have hsame:Z1d v1 (mkVm v1 top ⟨p,f,k⟩):=(Z1d.refl hG.ok).mkVm _ _;refine ⟨m1,⟨hsame.ok,by rw [hsame.sm.pg,hG.pg];exact h.al,⟨by omega,by rw [hsame.sm.n,hG.n];exact hle⟩,fun a ha=>?_⟩,hsame,fun a ha=>?_,?_,fun i hi=>?_⟩
 ·rw [hsame.sm.n,hG.n] at ha;rw [hsame.sm.ldE,hsame.sm.pg,hG.pg];exact hl a ha
 ·rw [m2,if_neg (by omega),if_neg (by omega)];exact hG.ldV_all h.ok (by omega)
 ·rw [m2,if_pos rfl]
 ·rw [m2,if_neg (by omega),if_pos (by omega)]
theorem HpA.shut {s:Sl} {u:Vm} (hO:ZEw s v) (h:HpA top u s v) (hall:∀ i,i<Qd4 s.L->s.is i=true):ShA s.cf.to top v/\∀ a:Nat,s.cf.to<=a->a<top->v.ldE a=0/\v.ldV a=u.ldV a:=by
 obtain ⟨h1,h2⟩:=h.done hO hall;have hs:=hO.st;have hvp:=hO.mid.pg;have hpg:=hs.pg.1;have hlm:=h.lm;refine ⟨⟨hO.mid.ok,by rw [hvp];exact hs.cf.at_,⟨by omega,by have:=hs.cf.ln;rw [hO.mid.n];omega⟩,fun a ha=>?_⟩,h2⟩;rw [hO.mid.ok.ldE_of ha,hvp];have h3:=h1 (a/s.pg) (by rw [<-hvp];exact (hO.mid.ok.split ha).1);have q1:=Nat.div_mul_le_self a s.pg;have q2:=Nat.div_add_mod a s.pg;have q3:=Nat.mod_lt a (show 0<s.pg by omega);rw [Nat.mul_comm] at q2;constructor
 ·intro hh;have hne:v.pt.getD (a/s.pg) 0≠0:=fun e=>by rw [if_pos e] at hh;cases hh
  obtain ⟨b,b1,b2,b3⟩:=h3.1 hne;have h4:s.cf.to/s.pg<=a/s.pg:=by rw [<-b3];exact Nat.div_le_div_right b1
  have h5:=(Vod hpg hs.cf.at_).2 h4;have h6:=Nat.div_mul_le_self b s.pg;rw [b3] at h6;exact ⟨by omega,by omega⟩
 ·rintro ⟨a1,a2⟩;have h4:s.cf.to<=a/s.pg*s.pg:=(Vod hpg hs.cf.at_).2 (Nat.div_le_div_right a1);exact if_neg (h3.2 ⟨a/s.pg*s.pg,h4,a2,Nat.mul_div_cancel _ (by omega)⟩)
end
end
end
section
section
open Go.RowKit Word
section
variable {v v1 v2 v':Vm} {base top W:Nat} {g:Gph} {F:Nat->Nat} {c:Cf} {L:List Ob} {rs:List Int}
theorem Img.grown (h:Img v g F base top) (hv:ZAR v) (hG:∃ E,Ji4 v v1 E) (ht:top<=v.n):Img v1 g F base top:=by
 obtain ⟨E,hG⟩:=hG;refine h.mem fun a h1 h2 hl=>⟨?_,hG.ldV_all hv (by omega)⟩
 rw [hG.ldE hv (by omega)]
 split
 ·rfl
 ·exact hl
theorem Img.roots (h:Img v g F base top) {T:Int->Int} {lo hi:Nat} (hm:XhE v v' (Rch v (g.S.map fun x=>(F x:Int))) T lo hi):(g.S.map fun x=>(F x:Int)).map T=g.S.map fun x=>(((T (F x)).toNat:Nat):Int):=by
 rw [List.map_map];refine List.map_congr_left fun x hx=>?_
 show T (F x)=_
 by_cases h0:x=0
 ·subst h0;rw [h.z]
  show T 0=_
  rw [show (((0:Nat):Int))=0 from rfl,hm.z];rfl
 ·have:=(hm.lo _ (h.rch_of (Gph.Rd.root hx h0))).1;omega
theorem ShA.needC (h:ShA base top v) (hW:W%v.pl.pg=0) (ht:top<=base+W) {t0 N:Nat} (hto:t0%v.pl.pg=0) (hN:N<=W) (hb:t0+N<=v.n) (hrm:2*(W/v.pl.pg)<=v.pl.rm):Jsl v t0 ((t0+N:Nat):Int)=0:=by
 have hpg:=h.ok.page.1;have hbt:=h.bt;rcases Nat.eq_zero_or_pos N with rfl | hN0
 ·unfold Jsl;rw [if_neg (by omega),if_pos (by omega)]
 obtain ⟨p0,hp0⟩:∃ p0,p0=t0/v.pl.pg:=⟨_,rfl⟩;obtain ⟨p1,hp1⟩:∃ p1,p1=(t0+N-1)/v.pl.pg:=⟨_,rfl⟩;have hp01:p0<=p1:=by rw [hp0,hp1];exact Nat.div_le_div_right (by omega)
 have eA:((t0:Int)/(v.pl.pg:Int)).toNat=p0:=by
  rw [show (t0:Int)/(v.pl.pg:Int)=((t0/v.pl.pg:Nat):Int) from rfl,Int.toNat_natCast,hp0]
 have eB:XZs v t0 ((t0+N:Nat):Int)=p1+1-p0:=by
  unfold XZs;rw [show ((t0+N:Nat):Int)-1=((t0+N-1:Nat):Int) by omega,show ((t0+N-1:Nat):Int)/(v.pl.pg:Int)=(((t0+N-1)/v.pl.pg:Nat):Int) from rfl,show (t0:Int)/(v.pl.pg:Int)=((t0/v.pl.pg:Nat):Int) from rfl,<-hp0,<-hp1];omega
 have hu:=h.used hW ht;have hl:=ZmX v p0 (p1+1-p0)
 have hp1W:p1<p0+W/v.pl.pg:=by
  rw [hp0];refine Y5B hpg hto hW (show t0+N<=t0+W by omega) ?_;have:=Nat.div_mul_le_self (t0+N-1) v.pl.pg;rw [<-hp1] at this;omega
 unfold Jsl;rw [if_neg (by omega),if_neg (by omega),eA,eB,if_pos (by omega)]
theorem ShA.copied (h:ShA c.fr c.tp v) (hcf:VeB v.pl.pg v.n c) (hfit:c.to+Qd4 L<=c.lm) (hE:Jsl v c.to ((c.to+Qd4 L:Nat):Int)=0) {k kq:Nat} (hD:Qgx v rs c L v1 v2 k kq):
  ShA c.to (c.to+Qd4 L) (umN v2 (c.fr/v.pl.pg) kq)/\(umN v2 (c.fr/v.pl.pg) kq).n=v.n/\(umN v2 (c.fr/v.pl.pg) kq).pl.pg=v.pl.pg/\(umN v2 (c.fr/v.pl.pg) kq).pl.rm=v.pl.rm/\∀ a:Nat,c.to<=a->a<c.to+Qd4 L->¬ (c.fr/v.pl.pg<=a/v.pl.pg/\a/v.pl.pg<c.fr/v.pl.pg+kq):=by
 have hpg:=h.ok.page.1;have hln:=hcf.ln;have hlm:=hcf.lm;obtain ⟨e1,e2,e3,-⟩:=Jow v2 (c.fr/v.pl.pg) kq;have n2:v2.n=v.n:=hD.st.cp.sm.n.trans hD.gr.n;have p2:v2.pl.pg=v.pl.pg:=hD.st.cp.sm.pg.trans hD.gr.pg;have hq:∀ q,c.fr/v.pl.pg<=q->(q<c.fr/v.pl.pg+kq↔q*v.pl.pg<c.tp):=fun q hq=>VRx hD.q1 hD.q2 q hq
 have hap:∀ a:Nat,c.to<=a->a<c.lm->¬ (c.fr/v.pl.pg<=a/v.pl.pg/\a/v.pl.pg<c.fr/v.pl.pg+kq):=fun a a1 a2 hh=>by
  have h1:=(hq _ hh.1).1 hh.2;have h2:=(Vod hpg hcf.af).2 hh.1;have h3:=Nat.div_mul_le_self a v.pl.pg;have hu:=XSg (n:=c.tp) hpg
  have hn:c.lm<=c.fr\/upN c.tp v.pl.pg<=c.to:=by
   have:=hcf.ap;omega
  rcases hn with e | e
  ·omega
  ·have h4:=(Vod (b:=c.to) hpg hcf.at_).2 (Nat.div_le_div_right a1);omega
 refine ⟨⟨JjA hD.st.cp.ok _ _,?_,⟨Nat.le_add_right _ _,?_⟩,fun a ha=>?_⟩,e1.trans n2,e2.trans p2,e3.trans (hD.st.cp.sm.rm.trans hD.gr.rm),fun a a1 a2=>hap a a1 (by omega)⟩
 ·rw [e2,p2];exact hcf.at_
 ·rw [e1,n2];omega
 ·rw [e1,n2] at ha;rw [e2,p2,X0U hD.st.cp.ok _ _ (by rw [n2];exact ha),p2,hD.st.cp.sm.ldE];have h1:=Qst h.ok (by omega) hE hD.gr ha;rw [h.pg a ha] at h1;have q1:=Nat.div_mul_le_self a v.pl.pg;have q2:=Nat.div_add_mod a v.pl.pg;have q3:=Nat.mod_lt a (show 0<v.pl.pg by omega);rw [Nat.mul_comm] at q2;by_cases hx:c.fr/v.pl.pg<=a/v.pl.pg/\a/v.pl.pg<c.fr/v.pl.pg+kq
  ·rw [if_pos hx];refine ⟨(fun hh=>by cases hh),fun ⟨a1,a2⟩=>absurd hx ?_⟩;have h4:=(Vod (b:=c.to) hpg hcf.at_).2 (Nat.div_le_div_right a1);have:=hap (a/v.pl.pg*v.pl.pg) h4 (by omega);rw [Nat.mul_div_cancel _ (show 0<v.pl.pg by omega)] at this;exact this
  ·rw [if_neg hx,h1];constructor
   ·rintro (⟨a1,a2⟩ | ⟨a0,a1,a2⟩)
    ·have h2:c.fr/v.pl.pg<=a/v.pl.pg:=Nat.div_le_div_right a1;exact absurd ⟨h2,(hq _ h2).2 a2⟩ hx
    ·have h4:=(Vod (b:=c.to) hpg hcf.at_).2 a1;have h5:=Nat.mul_le_mul_right v.pl.pg a2;have h6:=Nat.div_mul_le_self (c.to+Qd4 L-1) v.pl.pg;exact ⟨by omega,by omega⟩
   ·rintro ⟨a1,a2⟩;refine .inr ⟨?_,Nat.div_le_div_right a1,?_⟩
    ·have h4:=(Vod (b:=c.to) hpg hcf.at_).2 (Nat.div_le_div_right a1);omega
    ·rw [Nat.le_div_iff_mul_le (by omega)];omega
theorem ShA.packed (h:ShA base top v) {j:Nat} (hfit:base+Qd4 L<=top) (hE:Jsl v base ((base+Qd4 L:Nat):Int)=0) (hD:JyP v rs base top L v1 v2 j):
  ShA base (base+Qd4 L) (VYG v v2 base (base+Qd4 L) j)/\(VYG v v2 base (base+Qd4 L) j).n=v.n/\(VYG v v2 base (base+Qd4 L) j).pl.pg=v.pl.pg/\(VYG v v2 base (base+Qd4 L) j).pl.rm=v.pl.rm:=by
 have hpg:=h.ok.page.1;have hbt:=h.bt;obtain ⟨b1,b2,b3,b4,-,-⟩:=hD.base;refine ⟨⟨b4,by rw [b2];exact h.al,⟨Nat.le_add_right _ _,by rw [b1];omega⟩,fun a ha=>?_⟩,b1,b2,b3⟩;rw [b1] at ha;rw [b2,hD.ldE h.ok hE (by omega) ha,h.pg a ha];have q1:=Nat.div_mul_le_self a v.pl.pg;have q2:=Nat.div_add_mod a v.pl.pg;have q3:=Nat.mod_lt a (show 0<v.pl.pg by omega);rw [Nat.mul_comm] at q2;rw [<-YmI (nt:=base+Qd4 L) (pg:=v.pl.pg) (q:=a/v.pl.pg) hpg];constructor
 ·rintro ⟨h1 | ⟨a0,a1,a2⟩,h2⟩
  ·refine ⟨h1.1,Nat.lt_of_not_le fun h3=>h2 ⟨h3,(VRx hD.q1 hD.q2 _ (Nat.div_le_div_right h1.1)).2 h1.2⟩⟩
  ·have h4:=(Vod (b:=base) hpg h.al).2 a1;have h5:=Nat.mul_le_mul_right v.pl.pg a2;have h6:=Nat.div_mul_le_self (base+Qd4 L-1) v.pl.pg;exact ⟨by omega,by omega⟩
 ·rintro ⟨a1,a2⟩;exact ⟨.inl ⟨a1,by omega⟩,fun hh=>by omega⟩
theorem YxV (hv:ZAR v) (hM:Zx6 v rs v.n L) (hE:Jsl v base ((base+Qd4 L:Nat):Int)=0) (hn:base+Qd4 L<=v.n) {j:Nat} (hD:JyP v rs base top L v1 v2 j):XhE v1 (VYG v v2 base (base+Qd4 L) j) (Rch v1 rs) (toV L base) base (base+Qd4 L):=by
 have hw:=hD.gr.wider hv;have hpg:=hv.page;refine QDj (n:=v.n) ⟨hw.marks hM,hD.gr.n,hD.gr.ok,hD.cx.fr1,hn,hv.n2,fun o ho=>(hD.cx.inn o ho).1,fun i hi=>?_,fun i hi=>hD.word hv hn hi⟩;refine (hD.ldE hv hE hn (by omega)).2 ⟨.inr ⟨by omega,Nat.div_le_div_right (by omega),Nat.div_le_div_right (by omega)⟩,fun hx=>?_⟩;have h1:=(YmI (nt:=base+Qd4 L) (pg:=v.pl.pg) hpg.1).2 hx.1;have:=Nat.div_mul_le_self (base+i) v.pl.pg;omega
end
end
end
section
section
open Go.RowKit Word
theorem XUb {v gv:Vm} {rs:List Int} {c:Cf} {L:List Ob} {n:Nat} (hM:Zx6 v rs n L) (hn:n<=524288)
  (hg:∀ i,i<Qd4 L->gv.ldE ((c.to+i:Nat):Int)=0/\gv.ldV ((c.to+i:Nat):Int)=(V4X v c L).c i):XhE v gv (Rch v rs) (toV L c.to) c.to (c.to+Qd4 L):=by
 have hG:=hM.mkd.good
 have hpos:∀ {j:Nat} (hj:j<L.length),0<L[j].1/\v.osz ((L[j].1:Nat):Int)=(L[j].2:Nat):=fun hj=>by
  obtain ⟨-,h2,h3⟩:=hM.mkd.ats _ (List.getElem_mem hj);have:=(QXB h2).1;exact ⟨by omega,h3.symm⟩
 have hz:toV L c.to 0=0:=by
  refine (YPG fun hx=>?_).1;have h1:=JBb hx;have h2:=(hpos hx).1;omega
 have hin:∀ a,Rch v rs a->∃ (j:Nat) (hj:j<L.length),(L[j].1:Int)=a/\toV L c.to a=((c.to+Qd4 (L.take j):Nat):Int):=fun a ha=>by
  obtain ⟨o,ho,he⟩:=hM.all a ha;obtain ⟨j,hj,rfl⟩:=List.getElem_of_mem ho;have hs:=(hG.sz _ (List.getElem_mem hj)).1;have:=(YXt hG (base:=(c.to:Int)) hj (a:=a) (by omega) (by omega)).1;exact ⟨j,hj,he,by rw [this];omega⟩
 refine ⟨hz,fun b hb m hm=>?_,fun b hb=>?_,fun b b' hb hb'=>?_⟩
 ·obtain ⟨j,hj,rfl,e⟩:=hin b hb;rw [(hpos hj).2] at hm;have hmj:m<L[j].2:=by omega
  have hmid:=VfC hj;obtain ⟨x1,x2⟩:=hg (Qd4 (L.take j)+m) (by omega);rw [e,show ((c.to+Qd4 (L.take j):Nat):Int)+(m:Int)=((c.to+(Qd4 (L.take j)+m):Nat):Int) by omega];refine ⟨x1,?_⟩
  have hc:(V4X v c L).c (Qd4 (L.take j)+m)=cvH L c.to (v.rdH ((L[j].1:Nat):Int)) m (v.ldV ((L[j].1+m:Nat):Int)):=by
   show cvH L c.to (v.rdH ((L.getD (XEF L (Qd4 (L.take j)+m)) (0,0)).1:Nat)) (Qd4 (L.take j)+m-Qd4 (L.take (XEF L (Qd4 (L.take j)+m)))) (v.ldV (Vjz L (Qd4 (L.take j)+m):Nat))=_
   rw [VNq hj hmj,YZF hj hmj,Nat.add_sub_cancel_left,List.getD_eq_getElem?_getD,List.getElem?_eq_getElem hj];rfl
  rw [x2,hc,show ((L[j].1:Nat):Int)+(m:Int)=((L[j].1+m:Nat):Int) by omega];unfold cvH;by_cases hT:1<=m/\(m:Int)<=(v.rdH ((L[j].1:Nat):Int)).p
  ·rw [if_pos hT];by_cases h0:v.ldV ((L[j].1+m:Nat):Int)=0
   ·rw [if_neg (fun hh=>hh.2 h0),h0];exact hz.symm
   ·rw [if_pos ⟨hT,h0⟩];have:=ZEN hG (by omega) c.to (v.ldV ((L[j].1+m:Nat):Int):Nat);omega
  ·rw [if_neg hT,if_neg (fun hh=>hT hh.1)]
 ·obtain ⟨j,hj,rfl,e⟩:=hin b hb;have h1:=VfC hj;rw [e,(hpos hj).2];omega
 ·obtain ⟨j,hj,rfl,e⟩:=hin b hb;obtain ⟨i,hi,rfl,e'⟩:=hin b' hb';have s1:=Qsm hj;have s2:=Qsm hi;rw [e,e',(hpos hj).2,(hpos hi).2];rcases Nat.lt_trichotomy j i with hl | hl | hl
  ·have:=Qx9 L (show j+1<=i by omega);exact .inr (.inl (by omega))
  ·subst hl;exact .inl rfl
  ·have:=Qx9 L (show i+1<=j by omega);exact .inr (.inr (by omega))
end
end
section
section
open Go.RowKit Word
def rnL (q base top lim:Nat):List Value:=[.pointer (some ⟨q,0,none⟩),.int .i64 base,.int .i64 top,.int .i64 lim]
abbrev Joi (w:World) (rn q base top lim:Nat):Prop:=Rec w rn 181 (rnL q base top lim)
section
variable {w:World} {S:Nat->Prop} {q rn base top lim:Nat} {v:Vm}
set_option maxHeartbeats 1600000 in
theorem YN8 (hV:QXZ w S q v) (hn:v.n≠0) (h1:base<=lim) (h2:lim<=v.n):Calls Tryz.prog 49 #[.pointer (some ⟨q,0,none⟩),.int .i64 base,.int .i64 lim] w fun e w'=>∃ rn,e=.returned (.tuple #[.pointer (some ⟨rn,0,none⟩),.int .i64 0])/\Gr w w'/\w.heap.size<=rn/\Joi w' rn q base base lim:=by
 have HW:=hid (Xwn hV);have hn2:=hV.ok.n2;have d0:((v.n:Int)==0)=false:=by simp;omega
 have d1:decide ((base:Int)<0)=false:=decide_eq_false (by omega);have d2:decide ((lim:Int)<(base:Int))=false:=decide_eq_false (by omega);have d3:decide ((v.n:Int)<(lim:Int))=false:=decide_eq_false (by omega);have HR:=hid (Rec.new w 181 (rnL q base base lim));clear hV;go_enter Tryz.func49,Tryz.ntmps49;go_wp2_with (go_at_call 52;refine (HW.o).mono ?_;rintro e w1 ⟨rfl,rfl⟩);go_ret2;exact ⟨w.heap.size,rfl,(Gr.refl w).alloc _,Nat.le_refl _,HR.o⟩
theorem JWq (h:Joi w rn q base top lim):Calls Tryz.prog 146 #[.pointer (some ⟨rn,0,none⟩)] w fun e w'=>e=.returned (.bool false)/\w=w':=by
 have c0:=h.cell (j:=0) rfl;clear h;go_enter Tryz.func146,Tryz.ntmps146;go_wp2;go_ret;exact ⟨rfl,rfl⟩
theorem JFl (h:Joi w rn q base top lim):Calls Tryz.prog 64 #[.pointer (some ⟨rn,0,none⟩)] w fun e w'=>e=.returned (.int .i64 base)/\w=w':=by
 have HN:=hid (JWq h);have c0:=h.cell (j:=1) rfl;clear h;go_enter Tryz.func64,Tryz.ntmps64;go_wp2_with (go_at_call 146;refine (HN.o).mono ?_;rintro e w1 ⟨rfl,rfl⟩);go_ret;exact ⟨rfl,rfl⟩
theorem Vkj (h:Joi w rn q base top lim):Calls Tryz.prog 65 #[.pointer (some ⟨rn,0,none⟩)] w fun e w'=>e=.returned (.int .i64 top)/\w=w':=by
 have HN:=hid (JWq h);have c0:=h.cell (j:=2) rfl;clear h;go_enter Tryz.func65,Tryz.ntmps65;go_wp2_with (go_at_call 146;refine (HN.o).mono ?_;rintro e w1 ⟨rfl,rfl⟩);go_ret;exact ⟨rfl,rfl⟩
set_option maxHeartbeats 1600000 in
theorem JDi (h:Joi w rn q base top lim) {t:Nat} (h1:base<=t) (h2:t<=lim):Calls Tryz.prog 66 #[.pointer (some ⟨rn,0,none⟩),.int .i64 t] w fun e w'=>e=.returned (.int .i64 0)/\XF4 (fun k=>k=rn) w w'/\Joi w' rn q base t lim:=by
 have HN:=hid (JWq h);have c1:=h.cell (j:=1) rfl;have c2:=h.cell (j:=2) rfl;have c3:=h.cell (j:=3) rfl;have cf:=h.free 2;have cl:=h.lt;have HS:=hid (h.set 2 (.int .i64 t));have HT:Hid (XF4 (fun k=>k=rn) w (w.setCell ⟨rn,2,none⟩ (.int .i64 t))):=⟨(XF4.refl (fun k=>k=rn) w).setCell (a:=⟨rn,2,none⟩) (fun _=>rfl) _⟩;have d1:decide ((t:Int)<(base:Int))=false:=decide_eq_false (by omega);have d2:decide ((lim:Int)<(t:Int))=false:=decide_eq_false (by omega);clear h;go_enter Tryz.func66,Tryz.ntmps66;go_wp2_with (go_at_call 146;refine (HN.o).mono ?_;rintro e w1 ⟨rfl,rfl⟩);go_ret;exact ⟨rfl,HT.o,HS.o⟩
def VhE (w:World) (S:Nat->Prop) (q rn base top lim n:Nat) (v:Vm) (e:Ending) (w':World):Prop:=
 (lim<top+n/\e=.returned (.tuple #[.int .i64 0,.int .i64 21])/\Gr w w') ∨
 (top+n<=lim/\e=.returned (.tuple #[.int .i64 top,.int .i64 0])/\XF4 (fun k=>k=rn\/S k) w w'/\Y1U w' (plus S w) q v (J5L v top ((top+n:Nat):Int))/\Joi w' rn q base (top+n) lim)
set_option maxHeartbeats 1600000 in
theorem Xej (h:Joi w rn q base top lim) (hV:QXZ w S q v) (hS:¬ S rn) {n:Nat} (hn:1<=n) (htl:top<=lim) (hlv:lim<=v.n) (hE:top+n<=lim->Jsl v top ((top+n:Nat):Int)=0):Calls Tryz.prog 89 #[.pointer (some ⟨rn,0,none⟩),.int .i64 n] w (VhE w S q rn base top lim n v):=by
 have HN:=hid (JWq h);have hn2:=hV.ok.n2;have c0:=h.cell (j:=0) rfl;have c2:=h.cell (j:=2) rfl;have c3:=h.cell (j:=3) rfl;have cl:=h.lt;have d0:decide ((n:Int)<1)=false:=decide_eq_false (by omega);rcases Nat.lt_or_ge lim (top+n) with hlt | hle
 ·have d1:decide ((lim:Int)-(top:Int)<(n:Int))=true:=decide_eq_true (by omega);have HL:=hid hlt;clear h hV hE hn hlt;go_enter Tryz.func89,Tryz.ntmps89;go_upto_region 5 with (go_at_call 146;refine (HN.o).mono ?_;rintro e w1 ⟨rfl,rfl⟩);go_quiet (fail);go_wp2;go_ret2;exact .inl ⟨HL.o,rfl,(Gr.refl w).drewN _⟩
 ·have d1:decide ((lim:Int)-(top:Int)<(n:Int))=false:=decide_eq_false (by omega);have HNE:=hid (fun (W:World) (g:Gr w W)=>VfQ (hV.gr g) top (top+n) (by omega) (by omega));rw [hE hle] at HNE;have HL:=hid hle;have HR:=hid h;have HSR:=hid hS;have e1:(((top+n:Nat)):Int)=(top:Int)+n:=by omega
  rw [e1] at HNE;have HE1:=hid e1;clear h hV hE hS e1;go_enter Tryz.func89,Tryz.ntmps89;go_upto_region 5 with (go_at_call 146;refine (HN.o).mono ?_;rintro e w1 ⟨rfl,rfl⟩);go_quiet (fail);go_upto_region 7 with (fail);clear c0 c2 c3;obtain ⟨Sx,hSx⟩:∃ Sx:World->Prop,Sx=fun W'=>Joi W' rn q base top lim:=⟨_,rfl⟩;have c0:∀ p:ZJV Sx,p.w.cell? ⟨rn,0,none⟩=some (.pointer (some ⟨q,0,none⟩)):=fun p=>by have h:=ZJV.get hSx p;exact h.cell (j:=0) rfl
  have c2:∀ p:ZJV Sx,p.w.cell? ⟨rn,2,none⟩=some (.int .i64 top):=fun p=>by have h:=ZJV.get hSx p;exact h.cell (j:=2) rfl
  have HS:Hid (∀ W',Joi W' rn q base top lim->Sx W'):=⟨fun W' h=>by rw [hSx];exact h⟩;have hS0:=HS.o _ (HR.o.gr ((Gr.refl w).drewN nq).drew);have inst:Inhabited (ZJV Sx):=⟨⟨_,hS0⟩⟩;clear hSx;refine Vv2 Sx 16 [([0,1,2,3,4,5,6,7,8,9,10,11,12,13],14)] [15] (by kernel_rfl) (by kernel_rfl) hS0 ?_;refine XGW ?_
  try simp only [XZy,List.getElem?_cons_zero,List.getElem?_cons_succ]
  repeat (go_big_quiet_step (fail))
  refine wpQuiet_nil ?_;go_wp2_with ((go_at_call 133;refine (HNE.o _ ((Gr.refl w).drewN _)).mono ?_;rintro e w2 ⟨rfl,ht,hg⟩;have HT:=hid ht;have HG:=hid hg;have r2:=(HR.o.gr ((Gr.refl w).drewN (nq+1))).touch ht HSR.o;have k2:=r2.cell (j:=2) rfl;have kf:=r2.free 2;have HR2:=hid r2;clear ht hg r2));refine ⟨.inr (ZJV.of (HS.o _ (HR2.o))),?_⟩;refine Z9U ?_
  try simp only [XZy,List.getElem?_cons_zero,List.getElem?_cons_succ]
  repeat (go_big_quiet_step (fail))
  refine wpQuiet_nil ?_;refine NoPanic.normal ?_;clear c0 c2 hS0 inst;clear HS Sx;go_wp2;go_ret2;refine .inr ⟨HL.o,rfl,?_,?_,?_⟩
  ·exact ((((Gr.refl w).drewN _).touch _).trans (HT.o.mono (fun _ _ h=>.inr h))).setCell (a:=⟨rn,2,none⟩) (fun _=>.inl rfl) _
  ·obtain ⟨v',h1,h2⟩:=HG.o;rw [HE1.o];refine ⟨v',h1,h2.touch ((XF4.refl (fun k=>k=rn) _).setCell (a:=⟨rn,2,none⟩) (fun _=>rfl) _) (fun k hk _ e=>?_)⟩;have:=HR.o.lt;rcases hk with hk | hk
   ·exact HSR.o (e ▸ hk)
   ·have:w.heap.size<=k:=hk;omega
  ·have:=HR2.o.set 2 (.int .i64 ((top:Int)+n))
   show Rec _ rn _ (rnL q base (top+n) lim)
   unfold rnL at this ⊢;rw [HE1.o];exact this
end
end
end
section
section
open Go.RowKit Word
theorem QGs {l:List Bool} (hf:ftL l<l.length):XRM (V65 l)=XRM l+1/\XRM l+1<=l.length:=by
 have hz:at_ l (ftL l)=false:=by
  have h1:(!at_ l (ftL l))=true:=JyT (fun k=>!at_ l k) _ hf;simpa using h1
 have h1:=Jso hf hz;have h2:cnt (at_ (l.set (ftL l) true)) l.length<=l.length:=QMh _ _
 have h3:XRM (V65 l)=XRM l+1:=by
  unfold XRM V65;rw [if_pos hf,List.length_set];exact h1
 refine ⟨h3,?_⟩;unfold XRM;omega
theorem Sl.lf_step {s:Sl} (h:s.ft<s.mv.length):s.step.lf+1=s.lf:=by
 obtain ⟨h1,h2⟩:=QGs (l:=s.mv) h
 show (V65 s.mv).length-XRM (V65 s.mv)+1=s.mv.length-XRM s.mv
 rw [Xb3,h1];omega
end
end
section
section
open Go.RowKit Word
structure HCf where
 kd:Nat
 pg:Nat
 bk:Nat
 wd:Nat
 sl:Nat
 st:Nat
 ah:Nat
 tr:Nat
def HCf.q (c:HCf):Nat:=max 1 (c.bk/c.pg)
def HCf.spare (c:HCf):Nat:=(c.ah+2)*(c.q+3)
def HCf.fr (c:HCf):Nat:=if c.kd=1 then c.wd/c.pg+c.spare else if c.kd=2 then 2*(c.wd/c.pg) else c.wd/c.pg
def HCf.n (c:HCf):Nat:=if c.kd=3 then c.pg+c.wd else c.pg+c.wd+c.wd
structure HCf.Ok (c:HCf):Prop where
 kd:1<=c.kd/\c.kd<=3
 pg:Jnk c.pg=true
 bk:Y1d c.bk=true
 wd:16<=c.wd/\c.wd<=131072
 dv:c.wd%c.pg=0
 pw:c.pg<=c.wd
 sl:1<=c.sl/\c.sl<=64
 st:1<=c.st/\c.st<=4096
 ah:c.ah<=16
 fr:c.fr<=4096
def X2H (c:HCf):List Value:=[.int .i64 c.kd,.int .i64 c.pg,.int .i64 c.bk,.int .i64 c.wd,.int .i64 c.sl,.int .i64 c.st,.int .i64 c.ah,.float .f64 c.tr]
def Jdq (c:HCf):Value:=.agg (X2H c).toArray
structure HAd where
 hp:Nat
 q:Nat
 r:Nat
 g:Nat
 rn:Nat
def hpL (c:HCf) (A:HAd) (cy:Option Nat) (cyc blk:Int):List Value:=
 [.int .i64 c.kd,.int .i64 c.pg,.int .i64 c.bk,.int .i64 c.wd,.int .i64 c.sl,.int .i64 c.st,.int .i64 c.ah,.float .f64 c.tr,
  .pointer (some ⟨A.q,0,none⟩),.pointer (some ⟨A.r,0,none⟩),.pointer (some ⟨A.rn,0,none⟩),.pointer (cy.map fun y=>⟨y,0,none⟩),.int .i64 cyc,.int .i64 blk]
structure XL4 (w:World) (X:Nat->Prop) (A:HAd) (c:HCf) (base top:Nat) (rs:List Int) (cy:Option Nat) (cyc blk:Int):Prop where
 row:Rec w A.hp 92 (hpL c A cy cyc blk)
 rn:Joi w A.rn A.q base top (base+c.wd)
 rt:V5d w A.r A.g rs
 tab:VRW w
 n1:A.hp≠A.r/\A.hp≠A.g/\A.hp≠A.rn/\A.hp≠1
 n2:A.r≠A.g/\A.r≠A.rn/\A.r≠1
 n3:A.g≠A.rn/\A.g≠1/\A.rn≠1
 x:¬ X A.hp/\¬ X A.r/\¬ X A.g/\¬ X A.rn/\¬ X 1
section
variable {w w':World} {X S T:Nat->Prop} {A:HAd} {c:HCf} {base top:Nat} {rs:List Int} {cy:Option Nat} {cyc blk:Int}
theorem XL4.lt (h:XL4 w X A c base top rs cy cyc blk):A.hp<w.heap.size/\A.r<w.heap.size/\A.g<w.heap.size/\A.rn<w.heap.size/\1<w.heap.size:=⟨h.row.lt,h.rt.lt.1,h.rt.lt.2,h.rn.lt,h.tab.lt⟩
theorem XL4.touch (h:XL4 w X A c base top rs cy cyc blk) (t:XF4 T w w') (hT:¬ T A.hp/\¬ T A.r/\¬ T A.g/\¬ T A.rn/\¬ T 1):XL4 w' X A c base top rs cy cyc blk:=
 ⟨h.row.touch t hT.1,h.rn.touch t hT.2.2.2.1,h.rt.touch t hT.2.1 hT.2.2.1,t.tab h.tab.lt hT.2.2.2.2 h.tab,h.n1,h.n2,h.n3,h.x⟩
theorem XL4.gr (h:XL4 w X A c base top rs cy cyc blk) (g:Gr w w'):XL4 w' X A c base top rs cy cyc blk:=h.touch (g.touch (fun _=>False)) ⟨id,id,id,id,id⟩
theorem XL4.mem (h:XL4 w X A c base top rs cy cyc blk) (t:XF4 X w w'):XL4 w' (plus X w) A c base top rs cy cyc blk:=by
 obtain ⟨l1,l2,l3,l4,l5⟩:=h.lt;obtain ⟨x1,x2,x3,x4,x5⟩:=h.x;have k:=h.touch t h.x;exact ⟨k.row,k.rn,k.rt,k.tab,k.n1,k.n2,k.n3,fun e=>e.elim x1 (fun e=>by omega),fun e=>e.elim x2 (fun e=>by omega),fun e=>e.elim x3 (fun e=>by omega),fun e=>e.elim x4 (fun e=>by omega),fun e=>e.elim x5 (fun e=>by omega)⟩
theorem XL4.sub {X':Nat->Prop} (h:XL4 w X A c base top rs cy cyc blk) (hx:∀ k,k<w.heap.size->X' k->X k):XL4 w X' A c base top rs cy cyc blk:=by
 obtain ⟨l1,l2,l3,l4,l5⟩:=h.lt;obtain ⟨x1,x2,x3,x4,x5⟩:=h.x;exact ⟨h.row,h.rn,h.rt,h.tab,h.n1,h.n2,h.n3,fun e=>x1 (hx _ l1 e),fun e=>x2 (hx _ l2 e),fun e=>x3 (hx _ l3 e),fun e=>x4 (hx _ l4 e),fun e=>x5 (hx _ l5 e)⟩
theorem XL4.root {rs':List Int} (h:XL4 w X A c base top rs cy cyc blk) (t:XF4 (fun k=>k=A.g) w w') (hr:V5d w' A.r A.g rs'):XL4 w' X A c base top rs' cy cyc blk:=
 ⟨h.row.touch t h.n1.2.1,h.rn.touch t (fun e=>h.n3.1 e.symm),hr,t.tab h.tab.lt (fun e=>h.n3.2.1 e.symm) h.tab,h.n1,h.n2,h.n3,h.x⟩
theorem XL4.turn {top':Nat} (h:XL4 w X A c base top rs cy cyc blk) (t:XF4 (fun k=>k=A.rn) w w') (hr:Joi w' A.rn A.q base top' (base+c.wd)):XL4 w' X A c base top' rs cy cyc blk:=
 ⟨h.row.touch t h.n1.2.2.1,hr,h.rt.touch t h.n2.2.1 h.n3.1,t.tab h.tab.lt (fun e=>h.n3.2.2 e.symm) h.tab,h.n1,h.n2,h.n3,h.x⟩
end
structure HVm (c:HCf) (v:Vm):Prop where
 n:v.n=c.n
 pg:v.pl.pg=c.pg
 rm:v.pl.rm=c.fr
def YLQ (c:HCf) (fr tp t0:Nat):Cf:=⟨fr,tp,t0,t0+c.wd,c.bk,c.st,c.ah⟩
def HpB (rm top:Nat) (u:Vm) (s:Sl) (v:Vm):Prop:=HpA top u s v/\v.pl.rm=rm
theorem Qyf (rm top:Nat) (u:Vm):SlJ (HpB rm top u):=⟨fun _ _ _ hO hA hk _ _=>hA.1.need hO hk,fun _ _ _ _ hO hA hk hm hc hM=>⟨hA.1.step hO hk hm hc hM,hM.rm.trans hA.2⟩⟩
structure Zvh (w:World) (X:Nat->Prop) (A:HAd) (c:HCf) (base top:Nat) (u:Vm) (y:Nat) (z:ZH1) (s:Sl) (v:Vm) (R Sv:Nat->Prop):Prop where
 cy:Cyc w R y A.q z s
 vm:QXZ w Sv A.q v
 hv:HVm c v
 ok:ZEw s v
 a:HpA top u s v
 x:∀ k,R k\/Sv k->X k
 d:∀ k,R k->¬ Sv k
 tab:VRW w
 t1:¬ R 1
 t2:¬ Sv 1
 bs:s.cf.to=base
 lm:s.cf.lm=base+c.wd
 bk:s.cf.bk=c.bk
 ah:s.cf.ah=c.ah
 kd:c.kd=1
def V2z (w:World) (X:Nat->Prop) (A:HAd) (c:HCf) (base top:Nat) (u:Vm):Option Nat->Nat->Nat->Prop
 | none,lf,_=>QXZ w X A.q u/\HVm c u/\ShA base top u/\lf=0
 | some y,lf,nb=>∃ z s v R Sv,Zvh w X A c base top u y z s v R Sv/\s.lf=lf/\s.mv.length=nb
section
variable {w w':World} {X X' T:Nat->Prop} {A:HAd} {c:HCf} {base top:Nat} {u:Vm} {o:Option Nat} {lf nb:Nat}
theorem V2z.touch (h:V2z w X A c base top u o lf nb) (t:XF4 T w w') (hT:∀ k,k<w.heap.size->T k->¬ X k/\k≠1) (hx:∀ k,X k->X' k):V2z w' X' A c base top u o lf nb:=by
 match o,h with
 | none,⟨h1,h2,h3,h4⟩=>exact ⟨(h1.touch t (fun k hk hl ht=>(hT k hl ht).1 hk)).mono hx,h2,h3,h4⟩
 | some y,⟨z,s,v,R,Sv,h,e1,e2⟩=>
  have hl:=h.cy.od.lt;exact ⟨z,s,v,R,Sv,⟨h.cy.touch t (fun k hk ht=>(hT k (hl k hk) ht).1 (h.x k (.inl hk))),h.vm.touch t (fun k hk hl ht=>(hT k hl ht).1 (h.x k (.inr hk))),h.hv,h.ok,h.a,fun k hk=>hx k (h.x k hk),h.d,t.tab h.tab.lt (fun ht=>(hT _ h.tab.lt ht).2 rfl) h.tab,h.t1,h.t2,h.bs,h.lm,h.bk,h.ah,h.kd⟩,e1,e2⟩
theorem V2z.gr (h:V2z w X A c base top u o lf nb) (g:Gr w w'):V2z w' X A c base top u o lf nb:=h.touch (g.touch (fun _=>False)) (fun _ _ h=>h.elim) (fun _ h=>h)
theorem V2z.cut (h:V2z w X A c base top u o lf nb):V2z w (ZOk X w) A c base top u o lf nb:=by
 match o,h with
 | none,⟨h1,h2,h3,h4⟩=>exact ⟨h1.cut,h2,h3,h4⟩
 | some y,⟨z,s,v,R,Sv,h,e1,e2⟩=>
  exact ⟨z,s,v,R,ZOk Sv w,⟨h.cy,h.vm.cut,h.hv,h.ok,h.a,fun k hk=>hk.elim (fun hk=>⟨h.x k (.inl hk),h.cy.od.lt k hk⟩) (fun hk=>⟨h.x k (.inr hk.1),hk.2⟩),fun k hk hk2=>h.d k hk hk2.1,h.tab,h.t1,fun hk=>h.t2 hk.1,h.bs,h.lm,h.bk,h.ah,h.kd⟩,e1,e2⟩
end
section
variable {w w':World} {X:Nat->Prop} {A:HAd} {c:HCf} {base top:Nat} {u:Vm} {o:Option Nat} {lf nb:Nat}
end
end
end
section
section
open Go.RowKit Go.Shelf Word
structure HSt where
 A:HAd
 X:Nat->Prop
 base:Nat
 top:Nat
 u:Vm
 F:Nat->Nat
 o:Option Nat
 lf:Nat
 nb:Nat
 cyc:Int
 blk:Int
def HSt.rs (s:HSt) (g:Gph):List Int:=g.S.map fun x=>(s.F x:Int)
def HSt.S (s:HSt) (k:Nat):Prop:=s.X k\/k=s.A.hp\/k=s.A.g\/k=s.A.r\/k=s.A.rn
structure HIn (w:World) (c:HCf) (g:Gph) (s:HSt):Prop where
 com:XL4 w s.X s.A c s.base s.top (s.rs g) s.o s.cyc s.blk
 mem:V2z w s.X s.A c s.base s.top s.u s.o s.lf s.nb
 img:Img s.u g s.F s.base s.top
 gok:g.Ok
 cok:c.Ok
 bt:s.base<=s.top/\s.top<=s.base+c.wd
 bs:s.base=c.pg\/(s.base=c.pg+c.wd/\c.kd≠3)
 sl:g.S.length=c.sl
section
variable {w w':World} {c:HCf} {g:Gph} {s:HSt}
theorem HIn.gr (h:HIn w c g s) (gr:Gr w w'):HIn w' c g s:=⟨h.com.gr gr,h.mem.gr gr,h.img,h.gok,h.cok,h.bt,h.bs,h.sl⟩
theorem HIn.cell (h:HIn w c g s) {j:Nat} {x:Value} (hj:(hpL c s.A s.o s.cyc s.blk)[j]?=some x):w.cell? ⟨s.A.hp,j,none⟩=some x:=h.com.row.cell hj
theorem XuX (h:HIn w c g s):Calls Tryz.prog 50 #[.pointer (some ⟨s.A.hp,0,none⟩)] w fun e w'=>e=.returned (.bool false)/\w=w':=by
 have c8:=h.cell (j:=8) rfl;have cl:=h.com.row.lt;clear h;go_enter Tryz.func50,Tryz.ntmps50;go_wp2;go_ret;exact ⟨rfl,rfl⟩
theorem Jvl (w:World):Calls Tryz.prog 50 #[.pointer none] w fun e w'=>e=.returned (.bool true)/\w=w':=by
 go_enter Tryz.func50,Tryz.ntmps50;go_wp2;go_ret;exact ⟨rfl,rfl⟩
structure HKp (s s':HSt):Prop where
 F:s'.F=s.F
 base:s'.base=s.base
 top:s'.top=s.top
theorem HKp.refl (s:HSt):HKp s s:=⟨rfl,rfl,rfl⟩
theorem HKp.trans {s1 s2 s3:HSt} (h:HKp s1 s2) (k:HKp s2 s3):HKp s1 s3:=⟨k.F.trans h.F,k.base.trans h.base,k.top.trans h.top⟩
structure XBF (w:World) (c:HCf) (g:Gph) (s s':HSt) (w':World):Prop where
 t:XF4 (fun k=>k=s.A.hp) w w'
 i:HIn w' c g s'
 A:s'.A=s.A
 lf:s'.lf=s.lf
 o:s'.o=none↔s'.lf=0
 cyc:s'.cyc=if s.o≠none/\s.lf=0 then wrap64 (s.cyc+1) else s.cyc
 X:∀ k,s'.X k->s.X k
 K:HKp s s'
set_option maxHeartbeats 1600000 in
theorem VFm (h:HIn w c g s):Calls Tryz.prog 72 #[.pointer (some ⟨s.A.hp,0,none⟩)] w fun e w'=>e=.returned (.tuple #[])/\∃ s',XBF w c g s s' w':=by
 have H:=hid h;have c11:=h.cell (j:=11) rfl;have cl:=h.com.row.lt;cases ho:s.o with
 | none=>
  rw [ho] at c11;simp only [Option.map_none] at c11;have hlf:s.lf=0:=by have:=h.mem;rw [ho] at this;exact this.2.2.2
  have HO:=hid ho;have HLF:=hid hlf;clear h ho hlf;go_enter Tryz.func72,Tryz.ntmps72;go_wp2;refine bodyPost_end (results_none rfl _ _ _) rfl ?_;exact ⟨rfl,s,XF4.refl _ _,H.o,rfl,rfl,⟨fun _=>HLF.o,fun _=>HO.o⟩,by rw [if_neg (fun hh=>hh.1 HO.o)],fun _ h=>h,HKp.refl _⟩
 | some y=>
  rw [ho] at c11;simp only [Option.map_some] at c11;have hm:=h.mem;rw [ho] at hm;obtain ⟨z,sl,v,R,Sv,hop,e1,e2⟩:=hm;have HDN:=hid (JiW hop.cy);have HOP:=hid hop;by_cases h0:sl.lf=0
  ·have hrow:=h.com.row;unfold hpL at hrow;rw [ho] at hrow;simp only [Option.map_some] at hrow;have HRW:=hid hrow;have HBL:=hid (fun (W:World) (gg:Gr w W)=>QXi (hop.cy.gr gg));rw [decide_eq_true h0] at HDN
   have hnb:sl.mv.length<=1048576:=by
    rw [hop.ok.st.len];have h1:=hop.ok.st.N_le;have h2:=hop.ok.st.n2;have h3:=hop.ok.st.bk.1
    have h4:nbl (Qd4 sl.L) sl.cf.bk<=Qd4 sl.L:=by
     refine Nat.le_of_not_lt fun h5=>?_;have h6:=(VjL h3).1 h5;have:=Nat.le_mul_of_pos_right (Qd4 sl.L) (show 0<sl.cf.bk by omega);omega
    omega
   obtain ⟨m,hmm⟩:∃ m,m=sl.mv.length:=⟨_,rfl⟩;rw [<-hmm] at HBL hnb;have HM:=hid hmm;have H0:=hid h0;have HE:=hid (And.intro ho (And.intro e1 e2));obtain ⟨x,hx⟩:∃ x,x=s.cyc:=⟨_,rfl⟩;obtain ⟨b,hbb⟩:∃ b,b=s.blk:=⟨_,rfl⟩;obtain ⟨ap,hp⟩:∃ ap,ap=s.A.hp:=⟨_,rfl⟩;rw [<-hx,<-hbb] at HRW;rw [<-hp] at HRW c11 cl;have HXB:=hid (And.intro hx (And.intro hbb hp));rw [<-hp];clear h h0 hop hrow ho e1 e2 hx hbb hmm hp;go_enter Tryz.func72,Tryz.ntmps72;go_upto_region 1 with (go_at_call 150;refine (HDN.o).mono ?_;rintro e w1 ⟨rfl,rfl⟩);clear c11;have z0:=HRW.o.free 13;have z1:=HRW.o.cell (j:=13) rfl;obtain ⟨Sx,hSx⟩:∃ Sx:World->Prop,Sx=fun W'=>Gr w W':=⟨_,rfl⟩;have y11:∀ p:ZJV Sx,p.w.cell? ⟨ap,11,none⟩=some (.pointer (some ⟨y,0,none⟩)):=fun p=>by have h:=ZJV.get hSx p;exact (HRW.o.gr h).cell (j:=11) rfl
   have y13:∀ p:ZJV Sx,p.w.cell? ⟨ap,13,none⟩=some (.int .i64 b):=fun p=>by have h:=ZJV.get hSx p;exact (HRW.o.gr h).cell (j:=13) rfl
   have HS:Hid (∀ W',Gr w W'->Sx W'):=⟨fun W' h=>by rw [hSx];exact h⟩;have hS0:=HS.o _ ((Gr.refl w).drew);have inst:Inhabited (ZJV Sx):=⟨⟨_,hS0⟩⟩;clear hSx;refine Vv2 Sx 12 [([0,1,2,3,4,5,6,7],8),([9,10,11],12)] [] (by kernel_rfl) (by kernel_rfl) hS0 ?_;refine XGW ?_
   try simp only [XZy,List.getElem?_cons_zero,List.getElem?_cons_succ]
   repeat (go_big_quiet_step (fail))
   refine wpQuiet_nil ?_;go_wp2_with ((go_at_call 70;refine (HBL.o _ (Gr.refl w).drew).mono ?_;rintro e w1 ⟨rfl,rfl⟩));refine ⟨.inr (ZJV.of (HS.o _ ((Gr.refl w).drew))),?_⟩;refine XGW ?_
   try simp only [XZy,List.getElem?_cons_zero,List.getElem?_cons_succ]
   repeat (go_big_quiet_step (fail))
   refine wpQuiet_nil ?_;go_wp2;refine ⟨.inl trivial,?_⟩;refine Z9U ?_;refine wpQuiet_nil ?_;refine NoPanic.normal ?_;clear y11 y13 hS0 inst;clear HS Sx;have z2:=HRW.o.cell (j:=11) rfl;have z3:=HRW.o.cell (j:=12) rfl;have zf:=HRW.o.free;go_wp2;refine bodyPost_end (results_none rfl _ _ _) rfl ?_;obtain ⟨rfl,rfl,rfl⟩:=HXB.o;have HO:=HOP.o;have hI:=H.o;have hst:=HO.ok.st;have hr:=HRW.o
   obtain ⟨S1,S2⟩:=HO.a.shut HO.ok (fun i hi=>by
    have hf:¬ sl.ft<sl.mv.length:=sl.lf_zero.1 H0.o;have hb:=hst.blk hi;unfold Sl.is
    exact sl.ft_on (by omega))
   rw [HO.bs] at S1 S2;refine ⟨rfl,{ s with u:=v,X:=Sv,o:=none,lf:=0,nb:=0,cyc:=wrap64 (s.cyc+1),blk:=wrap64 (s.blk+m) },?_,?_,rfl,?_,⟨fun _=>rfl,fun _=>rfl⟩,?_,fun k hk=>HO.x k (.inr hk),⟨rfl,rfl,rfl⟩⟩
   ·exact ((((XF4.refl (fun k=>k=s.A.hp) w).setCell (a:=⟨s.A.hp,13,none⟩) (fun _=>rfl) _).drew).setCell (a:=⟨s.A.hp,11,none⟩) (fun _=>rfl) _).setCell (a:=⟨s.A.hp,12,none⟩) (fun _=>rfl) _
   ·have t:XF4 (fun k=>k=s.A.hp) w (((w.setCell ⟨s.A.hp,13,none⟩ (.int .i64 (wrap64 (s.blk+m)))).drew.setCell ⟨s.A.hp,11,none⟩ (.pointer none)).setCell ⟨s.A.hp,12,none⟩ (.int .i64 (wrap64 (s.cyc+1)))):=
     ((((XF4.refl (fun k=>k=s.A.hp) w).setCell (a:=⟨s.A.hp,13,none⟩) (fun _=>rfl) _).drew).setCell (a:=⟨s.A.hp,11,none⟩) (fun _=>rfl) _).setCell (a:=⟨s.A.hp,12,none⟩) (fun _=>rfl) _
    have hc:=hI.com;have hx:=hc.x;refine ⟨⟨(((hr.set 13 (.int .i64 (wrap64 (s.blk+m)))).gr (Gr.refl _).drew).set 11 (.pointer none)).set 12 (.int .i64 (wrap64 (s.cyc+1))),hc.rn.touch t (fun e=>hc.n1.2.2.1 e.symm),hc.rt.touch t (fun e=>hc.n1.1 e.symm) (fun e=>hc.n1.2.1 e.symm),t.tab hc.tab.lt (fun e=>hc.n1.2.2.2 e.symm) hc.tab,hc.n1,hc.n2,hc.n3,fun e=>hx.1 (HO.x _ (.inr e)),fun e=>hx.2.1 (HO.x _ (.inr e)),fun e=>hx.2.2.1 (HO.x _ (.inr e)),fun e=>hx.2.2.2.1 (HO.x _ (.inr e)),HO.t2⟩,⟨HO.vm.touch t (fun k hk _ e=>hx.1 (by subst e;exact HO.x _ (.inr hk))),HO.hv,S1,rfl⟩,?_,hI.gok,hI.cok,hI.bt,hI.bs,hI.sl⟩;exact hI.img.mem fun a a1 a2 _=>S2 a a1 a2
   ·rw [<-HE.o.2.1,H0.o]
   ·rw [if_pos ⟨by rw [HE.o.1];simp,by rw [<-HE.o.2.1];exact H0.o⟩]
  ·have HL:=hid h0;have HE:=hid (And.intro ho (And.intro e1 e2));rw [decide_eq_false h0] at HDN;clear h h0 hop ho e1 e2;go_enter Tryz.func72,Tryz.ntmps72;go_wp2_with (go_at_call 150;refine (HDN.o).mono ?_;rintro e w1 ⟨rfl,rfl⟩);refine bodyPost_end (results_none rfl _ _ _) rfl ?_;have hne:s.lf≠0:=by rw [<-HE.o.2.1];exact HL.o
   exact ⟨rfl,s,XF4.refl _ _,H.o,rfl,rfl,⟨(fun e=>by rw [HE.o.1] at e;cases e),fun e=>absurd e hne⟩,by rw [if_neg (fun hh=>hne hh.2)],fun _ h=>h,HKp.refl _⟩
def HCf.ot (c:HCf) (base:Nat):Nat:=2*c.pg+c.wd-base
theorem HIn.ot (h:HIn w c g s):(c.ot s.base=c.pg+c.wd/\s.base=c.pg)\/(c.ot s.base=c.pg/\s.base=c.pg+c.wd):=by
 unfold HCf.ot;rcases h.bs with e | ⟨e,-⟩
 ·exact .inl ⟨by omega,e⟩
 ·exact .inr ⟨by omega,e⟩
set_option maxHeartbeats 800000 in
theorem VrP (h:HIn w c g s):Calls Tryz.prog 131 #[.pointer (some ⟨s.A.hp,0,none⟩)] w fun e w'=>e=.returned (.int .i64 (c.ot s.base))/\Gr w w':=by
 have hot:=h.ot;have hpw:=h.cok.pw;have hwd:=h.cok.wd;have HC:=hid (fun (W:World) (gg:Gr w W)=>(h.com.gr gg).row);have HB:=hid (fun (W:World) (gg:Gr w W)=>JFl (h.com.gr gg).rn);obtain ⟨ap,hp⟩:∃ ap,ap=s.A.hp:=⟨_,rfl⟩;rw [<-hp] at HC ⊢;have hv:(2*(c.pg:Int)+c.wd-s.base)=(c.ot s.base:Nat):=by omega
 have HV:=hid hv;obtain ⟨b,hb⟩:∃ b,b=s.base:=⟨_,rfl⟩;rw [<-hb] at HB HV hot ⊢;clear h hp hv hb;go_enter Tryz.func131,Tryz.ntmps131;go_upto_region 1 with (fail);obtain ⟨Sx,hSx⟩:∃ Sx:World->Prop,Sx=fun W'=>Gr w W':=⟨_,rfl⟩;have y1:∀ p:ZJV Sx,p.w.cell? ⟨ap,1,none⟩=some (.int .i64 c.pg):=fun p=>by have h:=ZJV.get hSx p;exact (HC.o _ h).cell (j:=1) rfl
 have y3:∀ p:ZJV Sx,p.w.cell? ⟨ap,3,none⟩=some (.int .i64 c.wd):=fun p=>by have h:=ZJV.get hSx p;exact (HC.o _ h).cell (j:=3) rfl
 have y10:∀ p:ZJV Sx,p.w.cell? ⟨ap,10,none⟩=some (.pointer (some ⟨s.A.rn,0,none⟩)):=fun p=>by have h:=ZJV.get hSx p;exact (HC.o _ h).cell (j:=10) rfl
 have HS:Hid (∀ W',Gr w W'->Sx W'):=⟨fun W' h=>by rw [hSx];exact h⟩;have hS0:=HS.o _ ((Gr.refl w).drew);have inst:Inhabited (ZJV Sx):=⟨⟨_,hS0⟩⟩;clear hSx;refine Vv2 Sx 19 [([0,1,2,3,4,5,6,7,8,9,10,11,12,13,14,15],16)] [17,18] (by kernel_rfl) (by kernel_rfl) hS0 ?_;refine XGW ?_
 try simp only [XZy,List.getElem?_cons_zero,List.getElem?_cons_succ]
 repeat (go_big_quiet_step (fail))
 refine wpQuiet_nil ?_;go_wp2_with ((go_at_call 64;refine (HB.o _ (Gr.refl w).drew).mono ?_;rintro e w1 ⟨rfl,rfl⟩));refine ⟨.inr (ZJV.of (HS.o _ ((Gr.refl w).drew))),?_⟩;refine Z9U ?_
 try simp only [XZy,List.getElem?_cons_zero,List.getElem?_cons_succ]
 repeat (go_big_quiet_step (fail))
 refine wpQuiet_nil ?_;refine NoPanic.normal ?_;clear y1 y3 y10 hS0 inst;clear HS Sx;go_wp2;go_ret;exact ⟨ZzN HV.o,(Gr.refl w).drew⟩
theorem QHg (W:World) (b:Nat) (x0 x1 x2 x3 x4 x5 x6:Value) (h:Rec W b 116 [x0,x1,x2,x3,x4,x5,x6]):(loadVar 116 ⟨b,0,none⟩).run Tryz.prog W=.ok (.agg #[x0,x1,x2,x3,x4,x5,x6]) W:=by
 have a1:(isAgg 116).run Tryz.prog W=.ok true W:=by kernel_rfl
 have a2:(sizeOf 116).run Tryz.prog W=.ok 7 W:=by kernel_rfl
 have c0:=h.cell (j:=0) rfl;have c1:=h.cell (j:=1) rfl;have c2:=h.cell (j:=2) rfl;have c3:=h.cell (j:=3) rfl;have c4:=h.cell (j:=4) rfl;have c5:=h.cell (j:=5) rfl;have c6:=h.cell (j:=6) rfl;simp [loadVar,Sem.run_bind,a1,a2,Result.andThen,loadCells,go_sem,c0,c1,c2,c3,c4,c5,c6]
set_option maxHeartbeats 1600000 in
theorem VZS (h:HIn w c g s):Calls Tryz.prog 60 #[.pointer (some ⟨s.A.hp,0,none⟩)] w fun e w'=>e=.returned (cfV (YLQ c s.base s.top (c.ot s.base)))/\Gr w w':=by
 have hot:=h.ot;have hpw:=h.cok.pw;have hwd:=h.cok.wd;have hga:=(Gr.refl w).alloc (.cells #[.int .i64 0,.int .i64 0,.int .i64 0,.int .i64 0,.int .i64 0,.int .i64 0,.int .i64 0] 116);have HO:=hid (VrP (h.gr hga));have HC:=hid (fun (W:World) (gg:Gr w W)=>(h.com.gr gg).row);have HB:=hid (fun (W:World) (gg:Gr w W)=>JFl (h.com.gr gg).rn);have HT:=hid (fun (W:World) (gg:Gr w W)=>Vkj (h.com.gr gg).rn);have HR:=hid (Rec.new w 116 [.int .i64 0,.int .i64 0,.int .i64 0,.int .i64 0,.int .i64 0,.int .i64 0,.int .i64 0]);unfold cfV YLQ;dsimp only;obtain ⟨ap,hp⟩:∃ ap,ap=s.A.hp:=⟨_,rfl⟩;rw [<-hp] at HC HO ⊢;obtain ⟨d,hd⟩:∃ d,d=c.ot s.base:=⟨_,rfl⟩;rw [<-hd] at HO hot ⊢;have HL:=hid h.com.row.lt;rw [<-hp] at HL;clear h hp hd;go_enter Tryz.func60,Tryz.ntmps60;go_upto_region 2 with (go_at_call 131;refine (HO.o).mono ?_;rintro e w1 ⟨rfl,hg1⟩;have HG1:=hid (hga.trans hg1);have r1:=HR.o.gr hg1;have HR1:=hid r1;clear hg1);have hd1:Gr w w1.drew:=HG1.o.drew;have z0:=r1.cell (j:=0) rfl;have z1:=r1.cell (j:=1) rfl;have z2:=r1.cell (j:=2) rfl;have z3:=r1.cell (j:=3) rfl;have z4:=r1.cell (j:=4) rfl;have z5:=r1.cell (j:=5) rfl;have z6:=r1.cell (j:=6) rfl;have zf:=r1.free;clear r1;obtain ⟨Sx,hSx⟩:∃ Sx:World->Prop,Sx=fun W'=>Gr w W':=⟨_,rfl⟩;have y2:∀ p:ZJV Sx,p.w.cell? ⟨ap,2,none⟩=some (.int .i64 c.bk):=fun p=>by have h:=ZJV.get hSx p;exact (HC.o _ h).cell (j:=2) rfl
 have y3:∀ p:ZJV Sx,p.w.cell? ⟨ap,3,none⟩=some (.int .i64 c.wd):=fun p=>by have h:=ZJV.get hSx p;exact (HC.o _ h).cell (j:=3) rfl
 have y5:∀ p:ZJV Sx,p.w.cell? ⟨ap,5,none⟩=some (.int .i64 c.st):=fun p=>by have h:=ZJV.get hSx p;exact (HC.o _ h).cell (j:=5) rfl
 have y6:∀ p:ZJV Sx,p.w.cell? ⟨ap,6,none⟩=some (.int .i64 c.ah):=fun p=>by have h:=ZJV.get hSx p;exact (HC.o _ h).cell (j:=6) rfl
 have y10:∀ p:ZJV Sx,p.w.cell? ⟨ap,10,none⟩=some (.pointer (some ⟨s.A.rn,0,none⟩)):=fun p=>by have h:=ZJV.get hSx p;exact (HC.o _ h).cell (j:=10) rfl
 have HS:Hid (∀ W',Gr w W'->Sx W'):=⟨fun W' h=>by rw [hSx];exact h⟩;have hS0:=HS.o _ (hd1);have inst:Inhabited (ZJV Sx):=⟨⟨_,hS0⟩⟩;clear hSx;refine Vv2 Sx 34 [([0,1,2,3,5,6,7,8,10,11,12,13,14,15,16,17,18,19,20,21,22,23,24,25,26,27,28,29,30,31,32],4),([],9),([33],34)] [] (by kernel_rfl) (by kernel_rfl) hS0 ?_;refine XGW ?_
 try simp only [XZy,List.getElem?_cons_zero,List.getElem?_cons_succ]
 repeat (go_big_quiet_step (fail))
 refine wpQuiet_nil ?_;go_wp2_with ((go_at_call 64;refine (HB.o _ hd1).mono ?_;rintro e w2 ⟨rfl,rfl⟩));refine ⟨.inr (ZJV.of (HS.o _ (hd1))),?_⟩;refine XGW ?_
 try simp only [XZy,List.getElem?_cons_zero,List.getElem?_cons_succ]
 repeat (go_big_quiet_step (fail))
 refine wpQuiet_nil ?_;go_wp2_with ((go_at_call 65;refine (HT.o _ hd1).mono ?_;rintro e w2 ⟨rfl,rfl⟩));refine ⟨.inr (ZJV.of (HS.o _ (hd1))),?_⟩;refine XGW ?_
 try simp only [XZy,List.getElem?_cons_zero,List.getElem?_cons_succ]
 repeat (go_big_quiet_step (fail))
 refine wpQuiet_nil ?_;go_wp2;refine ⟨.inl trivial,?_⟩;refine Z9U ?_;refine wpQuiet_nil ?_;refine NoPanic.normal ?_;clear y2 y3 y5 y6 y10 hS0 inst;clear HS Sx;go_wp2;have R:=(((((((HR1.o.set 0 (.int .i64 s.base)).set 1 (.int .i64 s.top)).set 2 (.int .i64 d)).set 3 (.int .i64 ((d:Int)+c.wd))).set 4 (.int .i64 c.bk)).set 5 (.int .i64 c.st)).set 6 (.int .i64 c.ah)).gr (Gr.refl _).drew;have hl:=QHg _ _ _ _ _ _ _ _ _ R;refine bodyPost_ret (v:=.agg #[.int .i64 s.base,.int .i64 s.top,.int .i64 d,.int .i64 ((d:Int)+c.wd),.int .i64 c.bk,.int .i64 c.st,.int .i64 c.ah]) ?_ rfl ⟨rfl,?_⟩
 ·simp [results,Tryz.results60,asAddr,hl]
 ·have t:XF4 (fun k=>w.heap.size<=k) w w1:=HG1.o.touch _;exact (((((((t.setCell (a:=⟨w.heap.size,0,none⟩) (fun _=>Nat.le_refl _) _).setCell (a:=⟨w.heap.size,1,none⟩) (fun _=>Nat.le_refl _) _).setCell (a:=⟨w.heap.size,2,none⟩) (fun _=>Nat.le_refl _) _).setCell (a:=⟨w.heap.size,3,none⟩) (fun _=>Nat.le_refl _) _).setCell (a:=⟨w.heap.size,4,none⟩) (fun _=>Nat.le_refl _) _).setCell (a:=⟨w.heap.size,5,none⟩) (fun _=>Nat.le_refl _) _).setCell (a:=⟨w.heap.size,6,none⟩) (fun _=>Nat.le_refl _) _ |>.mono (fun k hk h=>by omega)).gr.drew
end
end
end
section
section
open Go.RowKit Go.Shelf Word
section
variable {w w':World} {X Sv:Nat->Prop} {A:HAd} {c:HCf} {b0 t0 b t:Nat} {rs:List Int} {cy:Option Nat} {cyc blk:Int} {v:Vm}
set_option maxHeartbeats 1600000 in
theorem XQQ (h:XL4 w X A c b0 t0 rs cy cyc blk) (hV:QXZ w Sv A.q v) (h1:b<=t) (h2:t<=b+c.wd) (h3:b+c.wd<=v.n) (hn:v.n≠0) (hX:∀ k,X k->k<w.heap.size):Calls Tryz.prog 62 #[.pointer (some ⟨A.hp,0,none⟩),.int .i64 b,.int .i64 t] w fun e w'=>e=.returned (.tuple #[])/\∃ rn,w.heap.size<=rn/\XF4 (fun k=>k=A.hp) w w'/\XL4 w' X { A with rn:=rn } c b t rs cy cyc blk:=by
 have hn2:=hV.ok.n2;have HNW:=hid (fun (W:World) (g:Gr w W)=>YN8 (base:=b) (lim:=b+c.wd) (hV.gr g) hn (Nat.le_add_right _ _) h3);rw [show (((b+c.wd:Nat)):Int)=(b:Int)+c.wd by omega] at HNW;have HC:=hid (fun (W:World) (g:Gr w W)=>(h.gr g).row);have H:=hid h;have HX:=hid hX;have HB:=hid (And.intro h1 h2);obtain ⟨ap,hap⟩:∃ ap,ap=A.hp:=⟨_,rfl⟩;rw [<-hap] at HC;have HA:=hid hap;have hlt:=h.row.lt;rw [<-hap] at hlt ⊢;have hbw:b+c.wd<=524288:=by omega
 clear h hV h1 h2 h3 hn hX hap;go_enter Tryz.func62,Tryz.ntmps62;go_upto_region 0 with (fail);obtain ⟨Sx,hSx⟩:∃ Sx:World->Prop,Sx=fun W'=>(∃ r:Nat,Rec W' ap 92 (hpL c { A with rn:=r } cy cyc blk)):=⟨_,rfl⟩;have y3:∀ p:ZJV Sx,p.w.cell? ⟨ap,3,none⟩=some (.int .i64 c.wd):=fun p=>by have h:=ZJV.get hSx p;exact by obtain ⟨r,h⟩:=h;exact h.cell (j:=3) rfl
 have y8:∀ p:ZJV Sx,p.w.cell? ⟨ap,8,none⟩=some (.pointer (some ⟨A.q,0,none⟩)):=fun p=>by have h:=ZJV.get hSx p;exact by obtain ⟨r,h⟩:=h;exact h.cell (j:=8) rfl
 have HS:Hid (∀ W',(∃ r:Nat,Rec W' ap 92 (hpL c { A with rn:=r } cy cyc blk))->Sx W'):=⟨fun W' h=>by rw [hSx];exact h⟩;have hS0:=HS.o _ (⟨A.rn,HC.o _ (Gr.refl w).drew⟩);have inst:Inhabited (ZJV Sx):=⟨⟨_,hS0⟩⟩;clear hSx;refine Vv2 Sx 20 [([0,1,2,3,4,5,6,7,8,9,10,11,12],13),([14,15,16,17,18],19)] [] (by kernel_rfl) (by kernel_rfl) hS0 ?_;refine XGW ?_
 try simp only [XZy,List.getElem?_cons_zero,List.getElem?_cons_succ]
 repeat (go_big_quiet_step (fail))
 refine wpQuiet_nil ?_;go_wp2_with ((go_at_call 49;refine (HNW.o _ (Gr.refl w).drew).mono ?_;rintro e w1 ⟨rn,rfl,hg1,hrn,hr1⟩;have HG1:=hid ((Gr.refl w).drew.trans hg1);have HRN:=hid (And.intro hrn hr1);have z10:=(HC.o _ ((Gr.refl w).drew.trans hg1)).cell (j:=10) rfl;have zf:=(HC.o _ ((Gr.refl w).drew.trans hg1)).free 10;clear hg1 hrn hr1));refine ⟨.inr (ZJV.of (HS.o _ (⟨A.rn,HC.o _ HG1.o⟩))),?_⟩;refine XGW ?_
 try simp only [XZy,List.getElem?_cons_zero,List.getElem?_cons_succ]
 repeat (go_big_quiet_step (fail))
 refine wpQuiet_nil ?_;go_wp2_with (fail);refine ⟨.inr (ZJV.of (HS.o _ (⟨rn,(HC.o _ HG1.o).set 10 (.pointer (some ⟨rn,0,none⟩))⟩))),?_⟩;refine Z9U ?_
 try simp only [XZy]
 repeat (go_big_quiet_step (fail))
 refine wpQuiet_nil ?_;refine NoPanic.normal ?_;clear y3 y8 hS0 inst;clear HS Sx;have hr1:=HRN.o.2;have hrl:=HRN.o.1;have hsz:w.drew.heap.size=w.heap.size:=rfl;have hne:rn≠ap:=by omega
 have tp:XF4 (fun k=>k=ap) w1 (w1.setCell ⟨ap,10,none⟩ (.pointer (some ⟨rn,0,none⟩))):=(XF4.refl (fun k=>k=ap) w1).setCell (a:=⟨ap,10,none⟩) (fun _=>rfl) _;have HST:=hid (JDi (hr1.touch tp hne) HB.o.1 HB.o.2);have HTP:=hid tp;have hr4:=Rec.set (HC.o _ HG1.o) 10 (.pointer (some ⟨rn,0,none⟩));have HR4:=hid hr4;clear z10 zf;have z10:=hr4.cell (j:=10) rfl;clear hr4 hr1 hne tp;go_wp2_with (go_at_call 66;refine (HST.o).mono ?_;rintro e w3 ⟨rfl,ht3,hr3⟩;have HT3:=hid ht3;have HR3:=hid hr3;clear ht3 hr3);refine bodyPost_end (results_none rfl _ _ _) rfl ?_;have hc:=H.o;obtain ⟨l1,l2,l3,l4,l5⟩:=hc.lt;have eA:=HA.o;subst eA;have k:=hc.gr HG1.o;have t3:=HT3.o;refine ⟨rfl,rn,by omega,((HG1.o.touch (fun k=>k=A.hp)).trans HTP.o).trans' t3 (fun i hi e=>by omega),⟨?_,HR3.o,?_,?_,⟨hc.n1.1,hc.n1.2.1,by show A.hp≠rn;omega,hc.n1.2.2.2⟩,⟨hc.n2.1,by show A.r≠rn;omega,hc.n2.2.2⟩,⟨by show A.g≠rn;omega,hc.n3.2.1,by show rn≠_;omega⟩,⟨hc.x.1,hc.x.2.1,hc.x.2.2.1,fun e=>by have:=HX.o _ e;show False;have:rn<w.heap.size:=this;omega,hc.x.2.2.2.2⟩⟩⟩
 ·exact (HR4.o.touch t3 (by show A.hp≠rn;omega))
 ·exact (k.rt.touch HTP.o (fun e=>hc.n1.1 e.symm) (fun e=>hc.n1.2.1 e.symm)).touch t3 (by show A.r≠rn;omega) (by show A.g≠rn;omega)
 ·exact t3.tab (HTP.o.tab k.tab.lt (fun e=>hc.n1.2.2.2 e.symm) k.tab).lt (by show _≠rn;omega) (HTP.o.tab k.tab.lt (fun e=>hc.n1.2.2.2 e.symm) k.tab)
end
section
variable {w w':World} {c:HCf} {g:Gph} {s:HSt}
theorem HSt.len (s:HSt) (g:Gph):(s.rs g).length=g.S.length:=List.length_map ..
theorem YGy (s:HSt) (g:Gph) (i:Int):slE (s.rs g) i=if g.sl i then 0 else 17:=by
 unfold slE Gph.sl;rw [s.len];by_cases h:0<=i/\i<g.S.length
 ·rw [if_pos h,decide_eq_true h.1,decide_eq_true h.2];rfl
 ·rw [if_neg h];rcases (by omega:¬ 0<=i\/¬ i<g.S.length) with h1 | h1
  ·rw [decide_eq_false h1];rfl
  ·rw [decide_eq_false h1,Bool.and_false];rfl
theorem XdH {g:Gph} {i:Int} (h:g.sl i=true):∃ n:Nat,i=n/\n<g.S.length/\g.at i=g.S.getD n 0:=by
 unfold Gph.sl at h;rw [Bool.and_eq_true,decide_eq_true_eq,decide_eq_true_eq] at h;exact ⟨i.toNat,by omega,by omega,rfl⟩
end
end
end
section
section
open Go.RowKit Go.Shelf Word
section
variable {w w':World} {X:Nat->Prop} {A:HAd} {c:HCf} {base top:Nat} {u:Vm} {o:Option Nat} {lf nb:Nat}
end
section
variable {w w':World} {c:HCf} {g g':Gph} {s:HSt}
theorem HIn.hi (h:HIn w c g s):s.base+c.wd<=2147483647:=by
 have h1:=h.cok.wd;have h2:=h.cok.pw;rcases h.bs with e | ⟨e,-⟩ <;> omega
structure Xfw (w:World) (c:HCf) (s:HSt) (g':Gph) (s':HSt) (w':World):Prop where
 t:XF4 s.S w w'
 i:HIn w' c g' s'
 hp:s'.A.hp=s.A.hp
 S:∀ k,s'.S k->plus s.S w k
 o:s'.o=none↔s'.lf=0
end
end
end
section
section
open Go.RowKit Go.Shelf Word
section
variable {w w':World} {c:HCf} {g g':Gph} {s:HSt}
def HSt.cut (s:HSt) (w:World):HSt:={ s with X:=ZOk s.X w }
theorem HIn.cut (h:HIn w c g s):HIn w c g (s.cut w):=⟨h.com.sub (fun _ _ hk=>hk.1),h.mem.cut,h.img,h.gok,h.cok,h.bt,h.bs,h.sl⟩
structure Xwk (s s':HSt):Prop where
 lf:s'.lf<=s.lf
 cyc:s'.cyc=if s.lf≠0/\s'.lf=0 then wrap64 (s.cyc+1) else s.cyc
theorem Xwk.same (s:HSt):Xwk s s:=⟨Nat.le_refl _,by rw [if_neg (fun h=>h.1 h.2)]⟩
def HOp (w:World) (c:HCf) (s:HSt) (g':Gph) (w':World):Prop:=∃ s',Xfw w c s g' s' w'/\Xwk s s'
end
end
end
section
section
open Go.RowKit Go.Shelf Word
section
variable {w w':World} {c:HCf} {g g':Gph} {s:HSt}
theorem Gph.Ro.le (ho:g.Ok) {y:Nat} (hy:g.Ro y):y<=g.L.length:=by
 rcases hy with rfl | hy
 ·omega
 ·exact (ho.rd hy).2
theorem JQG (h:HIn w c g s) {a:Int} (ha:g.sl a=true) {y:Nat} (hy:g.Ro y):Calls Tryz.prog 94 #[.pointer (some ⟨s.A.r,0,none⟩),.int .i64 a,.int .i64 (s.F y:Nat)] w fun e w'=>e=.returned (.int .i64 0)/\XF4 (fun k=>k=s.A.g) w w'/\HIn w' c (g.setSl a y) s:=by
 obtain ⟨n,rfl,h1,h2⟩:=XdH ha;refine (VHr h.com.rt (i:=n) (by rw [s.len];exact h1) (Int.natCast_nonneg _)).mono ?_;rintro e w' ⟨rfl,t,hr⟩
 have ers:s.rs (g.setSl n y)=(s.rs g).set n (s.F y:Nat):=by
  unfold HSt.rs Gph.setSl;rw [Int.toNat_natCast,List.map_set]
 refine ⟨rfl,t,?_,h.mem.touch t (fun k hk e=>⟨fun hx=>h.com.x.2.2.1 (by rw [<-e];exact hx),fun e2=>h.com.n3.2.1 (by rw [<-e,e2])⟩) (fun _ h=>h),h.img.slot hy,h.gok.slot (hy.le h.gok),h.cok,h.bt,h.bs,?_⟩
 ·rw [ers];exact h.com.root t hr
 ·show (g.S.set _ _).length=c.sl
  rw [List.length_set];exact h.sl
theorem HIn.rcell (h:HIn w c g s):w.cell? ⟨s.A.hp,9,none⟩=some (.pointer (some ⟨s.A.r,0,none⟩)):=h.com.row.cell (j:=9) rfl
theorem HIn.adr (h:HIn w c g s) {y:Nat} (hy:g.Ro y):s.F y<=2147483647:=by
 rcases hy with rfl | hy
 ·rw [h.img.z];omega
 ·have h1:=h.img.lo y hy;have:=h.hi;have:=h.bt;omega
end
end
end
section
section
open Go.RowKit Go.Shelf Word
section
variable {w w':World} {c:HCf} {g g':Gph} {s:HSt}
theorem HOp.of (hn:s.o=none↔s.lf=0) (t:XF4 (fun k=>k=s.A.g) w w') (hi:HIn w' c g' s):HOp w c s g' w':=
 ⟨s,⟨t.mono (fun _ _ e=>.inr (.inr (.inl e))),hi,rfl,fun _ h=>.inl h,hn⟩,Xwk.same s⟩
theorem HIn.rclr (h:HIn w c g s) (a:Int):Calls Tryz.prog 94 #[.pointer (some ⟨s.A.r,0,none⟩),.int .i64 a,.int .i64 0] w fun e w'=>e=.returned (.int .i64 (g.slE a))/\XF4 (fun k=>k=s.A.g) w w'/\HIn w' c (g.clG a) s:=by
 unfold Gph.slE Gph.clG;cases ha:g.sl a with
 | false=>
  refine (QST h.com.rt (i:=a) (by rw [YGy,ha];decide) 0).mono ?_;rintro e w' ⟨rfl,gr⟩;exact ⟨rfl,gr.touch _,by simpa using h.gr gr⟩
 | true=>
  have:=JQG h ha (y:=0) (.inl rfl);rw [h.img.z] at this;refine this.mono ?_;rintro e w' ⟨rfl,t,hi⟩;exact ⟨rfl,t,by simpa using hi⟩
set_option maxHeartbeats 1600000 in
theorem JfK (h:HIn w c g s) (hn:s.o=none↔s.lf=0) (a:Int):Calls Tryz.prog 44 #[.pointer (some ⟨s.A.hp,0,none⟩),.int .i64 a] w fun e w'=>e=.returned (.int .i64 (g.slE a))/\HOp w c s (g.clG a) w':=by
 have HN:=hid (XuX h);have HC:=hid (h.rclr a);have HO:=hid hn;have c9:=h.rcell;generalize s.A.hp=ap at HN c9 ⊢;clear h hn;go_enter Tryz.func44,Tryz.ntmps44;go_upto_region 3 with (go_at_call 50;refine (HN.o).mono ?_;rintro e w1 ⟨rfl,rfl⟩);go_wp2_with (go_at_call 94;refine (HC.o).mono ?_;rintro e w1 ⟨rfl,ht,hi⟩;have HT:=hid (And.intro ht hi);clear ht hi);go_ret;exact ⟨rfl,HOp.of HO.o HT.o.1 HT.o.2⟩
end
end
end
section
section
open Go.RowKit Go.Shelf Word
section
variable {w w':World} {c:HCf} {g g':Gph} {s:HSt}
theorem Xfw.trans {g1 g2:Gph} {s1 s2:HSt} {w1 w2:World} (h:Xfw w c s g1 s1 w1) (k:Xfw w1 c s1 g2 s2 w2):Xfw w c s g2 s2 w2:=
 ⟨h.t.trans' k.t (fun b hb e=>(h.S b e).elim id (fun h2=>by omega)),k.i,k.hp.trans h.hp,fun b hb=>by
  rcases k.S b hb with h1 | h1
  ·exact h.S b h1
  ·exact .inr (Nat.le_trans h.t.size h1),k.o⟩
theorem Xfw.gr {s':HSt} (h:Xfw w c s g' s' w') {w2:World} (gr:Gr w' w2):Xfw w c s g' s' w2:=⟨h.t.trans (gr.touch _),h.i.gr gr,h.hp,h.S,h.o⟩
theorem Xfw.refl (h:HIn w c g s) (hn:s.o=none↔s.lf=0):Xfw w c s g s w:=⟨XF4.refl _ _,h,rfl,fun _ h=>.inl h,hn⟩
theorem Xwk.trans {s1 s2:HSt} (h:Xwk s s1) (k:Xwk s1 s2):Xwk s s2:=by
 have h1:=h.lf;have h2:=k.lf;refine ⟨Nat.le_trans h2 h1,?_⟩;rw [k.cyc,h.cyc];by_cases e0:s.lf=0
 ·rw [if_neg (fun hh=>hh.1 (by omega)),if_neg (fun hh=>hh.1 e0),if_neg (fun hh=>hh.1 e0)]
 ·by_cases e1:s1.lf=0
  ·rw [if_neg (fun hh=>hh.1 e1),if_pos ⟨e0,e1⟩,if_pos ⟨e0,by omega⟩]
  ·by_cases e2:s2.lf=0
   ·rw [if_pos ⟨e1,e2⟩,if_neg (fun hh=>e1 hh.2),if_pos ⟨e0,e2⟩]
   ·rw [if_neg (fun hh=>e2 hh.2),if_neg (fun hh=>e1 hh.2),if_neg (fun hh=>e2 hh.2)]
theorem Zvh.stp {X:Nat->Prop} {A:HAd} {base top:Nat} {u:Vm} {y:Nat} {z:ZH1} {sl:Sl} {v v':Vm} {R Sv:Nat->Prop} (h:Zvh w X A c base top u y z sl v R Sv) (hf:Q1M w w' R Sv y A.q z (HpB c.fr top u) sl.step v'):Zvh w' (plus X w) A c base top u y z sl.step v' R (plus Sv w):=by
 have hl:=h.cy.od.lt;have htl:=h.tab.lt;have hok:=hf.ok;refine ⟨hf.cy,hf.vm,⟨?_,?_,?_⟩,hf.ok,hf.j.1,fun k hk=>?_,fun k hk hk2=>?_,hf.t.tab htl (fun hk=>hk.elim h.t1 h.t2) h.tab,h.t1,fun hk=>hk.elim h.t2 (fun hk=>by omega),h.bs,h.lm,h.bk,h.ah,h.kd⟩
 ·rw [hok.mid.n,<-h.hv.n,h.ok.mid.n];rfl
 ·rw [hok.mid.pg,<-h.hv.pg,h.ok.mid.pg];rfl
 ·exact hf.j.2
 ·rcases hk with hk | hk | hk
  ·exact .inl (h.x k (.inl hk))
  ·exact .inl (h.x k (.inr hk))
  ·exact .inr hk
 ·rcases hk2 with hk2 | hk2
  ·exact h.d k hk hk2
  ·have:=hl k hk;omega
def YF5 (w:World) (c:HCf) (g:Gph) (s:HSt) (w':World):Prop:=∃ s',Xfw w c s g s' w'/\Xwk s s'/\HKp s s'/\s'.lf+1=s.lf
theorem HIn.stp (h:HIn w c g s) (hn:s.o=none↔s.lf=0) (hl:s.lf≠0):∃ y,s.o=some y/\Calls Tryz.prog 71 #[.pointer (some ⟨y,0,none⟩)] w fun e w1=>e=.returned (.tuple #[.bool true,.int .i64 0]) ∧
  Calls Tryz.prog 72 #[.pointer (some ⟨s.A.hp,0,none⟩)] w1 fun e w'=>e=.returned (.tuple #[])/\YF5 w c g s w':=by
 have hm:=h.mem;cases ho:s.o with
 | none=>exact absurd (hn.1 ho) hl
 | some y=>
  rw [ho] at hm;obtain ⟨z,sl,v,R,Sv,hop,e1,e2⟩:=hm;refine ⟨y,rfl,(J5c (Qyf c.fr s.top s.u) hop.cy hop.ok ⟨hop.a,hop.hv.rm⟩ hop.tab hop.t2 hop.t1 hop.vm hop.d).mono ?_⟩;rintro e w1 ⟨v',rfl,hf⟩
  have hft:sl.ft<sl.mv.length:=by
   refine Decidable.byContradiction fun hh=>hl ?_;rw [<-e1];exact sl.lf_zero.2 hh
  have hlf:=Sl.lf_step hft;rw [decide_eq_true hft];refine ⟨rfl,?_⟩;have t1:XF4 s.X w w1:=hf.t.mono (fun k _ hk=>hop.x k hk)
  have hI:HIn w1 c g { s with X:=plus s.X w,lf:=sl.step.lf }:=by
   refine ⟨h.com.mem t1,?_,h.img,h.gok,h.cok,h.bt,h.bs,h.sl⟩
   show V2z w1 (plus s.X w) s.A c s.base s.top s.u s.o sl.step.lf s.nb
   rw [ho];exact ⟨z,sl.step,v',R,plus Sv w,hop.stp hf,rfl,by show (V65 sl.mv).length=s.nb;rw [Xb3];exact e2⟩
  refine (VFm hI).mono ?_;rintro e w2 ⟨rfl,s',h1⟩;refine ⟨rfl,s',⟨?_,h1.i,by rw [h1.A],fun k hk=>?_,h1.o⟩,⟨?_,?_⟩,⟨h1.K.F,h1.K.base,h1.K.top⟩,?_⟩
  ·exact (t1.mono (fun k _ hk=>.inl hk)).trans' h1.t (fun k _ hk=>.inr (.inl hk))
  ·rcases hk with hk | hk | hk | hk | hk
   ·rcases h1.X k hk with h2 | h2
    ·exact .inl (.inl h2)
    ·exact .inr h2
   ·rw [h1.A] at hk;exact .inl (.inr (.inl hk))
   ·rw [h1.A] at hk;exact .inl (.inr (.inr (.inl hk)))
   ·rw [h1.A] at hk;exact .inl (.inr (.inr (.inr (.inl hk))))
   ·rw [h1.A] at hk;exact .inl (.inr (.inr (.inr (.inr hk))))
  ·rw [h1.lf,<-e1];show sl.step.lf<=sl.lf;omega
  ·rw [h1.cyc,h1.lf]
   show (if s.o≠none/\sl.step.lf=0 then wrap64 (s.cyc+1) else s.cyc)=if s.lf≠0/\sl.step.lf=0 then wrap64 (s.cyc+1) else s.cyc
   by_cases h0:sl.step.lf=0
   ·rw [if_pos ⟨by rw [ho];simp,h0⟩,if_pos ⟨hl,h0⟩]
   ·rw [if_neg (fun hh=>h0 hh.2),if_neg (fun hh=>h0 hh.2)]
  ·rw [h1.lf,<-e1];exact hlf
set_option maxHeartbeats 1600000 in
theorem YFI (h:HIn w c g s) (hn:s.o=none↔s.lf=0) (hl:s.lf≠0):Calls Tryz.prog 19 #[.pointer (some ⟨s.A.hp,0,none⟩)] w fun e w'=>e=.returned (.bool true)/\YF5 w c g s w':=by
 have HN:=hid (XuX h);obtain ⟨y,hy,hs⟩:=h.stp hn hl;have HS1:=hid hs;have c11:=h.cell (j:=11) rfl;rw [hy] at c11;simp only [Option.map_some] at c11;obtain ⟨ap,hp⟩:∃ ap,ap=s.A.hp:=⟨_,rfl⟩;rw [<-hp] at HN HS1 c11 ⊢;clear h hn hl hs hy hp;go_enter Tryz.func19,Tryz.ntmps19;go_upto_region 3 with (go_at_call 50;refine (HN.o).mono ?_;rintro e w1 ⟨rfl,rfl⟩);go_upto_region 4 with (go_at_call 71;refine (HS1.o).mono ?_;rintro e w1 ⟨rfl,he⟩;have HE:=hid he;clear he);go_wp2_with (go_at_call 72;refine (HE.o).mono ?_;rintro e w2 ⟨rfl,h2⟩;have HH:=hid h2;clear h2);go_ret;exact ⟨rfl,HH.o⟩
set_option maxHeartbeats 1600000 in
theorem QNw (h:HIn w c g s) (hn:s.o=none↔s.lf=0) (hl:s.lf=0):Calls Tryz.prog 19 #[.pointer (some ⟨s.A.hp,0,none⟩)] w fun e w'=>e=.returned (.bool false)/\w=w':=by
 have HN:=hid (XuX h);have c11:=h.cell (j:=11) rfl;rw [hn.2 hl] at c11;simp only [Option.map_none] at c11;obtain ⟨ap,hp⟩:∃ ap,ap=s.A.hp:=⟨_,rfl⟩;rw [<-hp] at HN c11 ⊢;clear h hn hl hp;go_enter Tryz.func19,Tryz.ntmps19;go_wp2_with (go_at_call 50;refine (HN.o).mono ?_;rintro e w1 ⟨rfl,rfl⟩);go_ret;exact ⟨rfl,rfl⟩
def XUL (w:World) (ap:Nat):Nat:=match w.cell? ⟨ap,11,none⟩ with
 | some (.pointer (some a))=>YNn w a.block 11
 | _=>0
theorem HIn.left (h:HIn w c g s):XUL w s.A.hp=s.lf:=by
 have c11:=h.cell (j:=11) rfl;have hm:=h.mem;unfold XUL;cases ho:s.o with
 | none=>
  rw [ho] at c11 hm;simp only [Option.map_none] at c11;rw [c11];exact hm.2.2.2.symm
 | some y=>
  rw [ho] at c11 hm;simp only [Option.map_some] at c11;obtain ⟨z,sl,v,R,Sv,hop,e1,e2⟩:=hm;have c:=hop.cy.rc.cell (j:=11) rfl;rw [c11]
  show YNn w y 11=s.lf
  unfold YNn;rw [c,<-e1];rfl
set_option maxHeartbeats 1600000 in
theorem ZtQ (h:HIn w c g s) (hn:s.o=none↔s.lf=0):Calls Tryz.prog 58 #[.pointer (some ⟨s.A.hp,0,none⟩)] w fun e w'=>e=.returned (.tuple #[])/\∃ s',Xfw w c s g s' w'/\Xwk s s'/\HKp s s'/\s'.lf=0:=by
 have H0:Hid (Xfw w c s g s w/\Xwk s s/\HKp s s):=⟨Xfw.refl h hn,Xwk.same s,HKp.refl s⟩;obtain ⟨ap,hp⟩:∃ ap,ap=s.A.hp:=⟨_,rfl⟩;have HP:=hid hp;rw [<-hp];clear h hn hp;go_enter Tryz.func58,Tryz.ntmps58;go_wp2
 go_loopw [] (fun wr=>∃ s',Hid (Xfw w c s g s' wr/\Xwk s s'/\HKp s s')) (fun wr=>XUL wr ap)
 case atStart=>exact ⟨s,H0⟩
 case round=>
  obtain ⟨s',HR⟩:=hrel;have hhp:ap=s'.A.hp:=HP.o.trans HR.o.1.hp.symm;by_cases hl:s'.lf=0
  ·have HZ:=hid (QNw HR.o.1.i HR.o.1.o hl);rw [<-hhp] at HZ;have HL:=hid hl;clear hl hhp;go_wp2_with (go_at_call 19;refine (HZ.o).mono ?_;rintro e w1 ⟨rfl,rfl⟩);refine bodyPost_end (results_none rfl _ _ _) rfl ?_;exact ⟨rfl,s',HR.o.1,HR.o.2.1,HR.o.2.2,HL.o⟩
  ·have HZ:=hid (YFI HR.o.1.i HR.o.1.o hl);have HL:=hid (HR.o.1.i.left);rw [<-hhp] at HZ HL;have HHP:=hid hhp;clear hl hhp;go_wp2_with (go_at_call 19;refine (HZ.o).mono ?_;rintro e w1 ⟨rfl,s2,h1,h2,h3,h4⟩;have HS2:=hid (And.intro h1 (And.intro h2 (And.intro h3 h4)));clear h1 h2 h3 h4);go_round
   case rel=>exact ⟨s2,⟨HR.o.1.trans HS2.o.1,HR.o.2.1.trans HS2.o.2.1,HR.o.2.2.trans HS2.o.2.2.1⟩⟩
   case measure=>
    have e1:=HS2.o.1.i.left;rw [HS2.o.1.hp,<-HHP.o] at e1;have:=HL.o;have:=HS2.o.2.2.2;omega
end
end
end
end Go.Proofs.YtmjoodkiiekjcaaGreatDoor
