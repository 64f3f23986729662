/- Part 13 of what ListNobody leans on: my own lemmas, merged by shake.py. -/
import Derived.Test.YteihjlcmjecmfaaGreatDoorListNobodyL
import Derived.Laws.FloatArith
namespace Go.Proofs.YteihjlcmjecmfaaGreatDoor
open _root_.Go.Proofs.Tryz
set_option maxHeartbeats 12800000
set_option maxRecDepth 100000
section
open Go.RowKit Go.Shelf Word
attribute [local go_sem] Oper.semAt_some
theorem Qkw{w:World}{m p1 b1 p2 b2 n:Nat}{L:List Ob}(hE:Ext w m p1 b1 p2 b2 n L)(hT:VRW w){B base:Nat}(hB:Y1d B=true)(hb:base<2147483648):
  Calls prog 155 #[.pointer (some ⟨m,0,none⟩),.int .i64 B,.int .i64 base] w λe w'=>∃p,e=.returned (.tuple #[.pointer (some ⟨p,0,none⟩),.int .i64 0])/\Gr w w'/\Pln w' w.heap.size p n B base L:=by
 have hbp:=Quq hB;refine(YGs hE hT (B:Int) (base:Int) Ω).mono ?_;have Z:ZZx (base:Int)=true:=by unfold ZZx;rw[κ Ω,κ Ω];rfl
 rintro e w' ⟨hg,(⟨h,-⟩|⟨-,p,B',Y,e1,e2,rfl,hP⟩)⟩
 ·rw[hB,Z]at h;cases h
 ·obtain rfl:B=B':=Ω
  obtain rfl:base=Y:=Ω
  exact⟨p,rfl,hg,hP⟩
def QOD(w:World)(S:Nat->Prop)(q r g:Nat)(v:Vm)(rs:List Int)(c:Cf)(e:Ending)(w':World):Prop:=
 XF4 (λb=>b=g\/S b) w w' ∧
  (((∀L,¬Jx2 v rs c.fr c.tp L)/\e=.returned (.tuple #[.pointer none,.int .i64 25])/\QXZ w' S q v/\V5d w' r g rs) ∨
  ∃L,Jx2 v rs c.fr c.tp L ∧
   ((c.lm-c.to<sizes L/\e=.returned (.tuple #[.pointer none,.int .i64 21])/\QXZ w' S q v/\V5d w' r g rs) ∨
   (sizes L<=c.lm-c.to/\∃(y:Nat) (z:ZH1) (R S':Nat->Prop) (v':Vm) (j:Nat),e=.returned (.tuple #[.pointer (some ⟨y,0,none⟩),.int .i64 0])/\Cyc w' R y q z (V4X v c L)/\QXZ w' S' q v'/\(∀b,S' b->S b\/w.heap.size<=b)/\(∀b,R b->w.heap.size<=b/\¬S' b) ∧
    Vdg (V4X v c L) v v' (c.fr/v.pl.pg) j/\c.tp<=(c.fr/v.pl.pg+j)*v.pl.pg/\(∀i,i<j->(c.fr/v.pl.pg+i)*v.pl.pg<c.tp)/\V5d w' r g (rs.map (toV L c.to)))))
theorem ZHF:(prog.info? 4).map (λi=>(i.zero,i.size,i.bytes))=some (some (.bool false),1,1):=by kernel_rfl
structure OpJ(wa w:World)(D:Nat->Bool)(q p m nb:Nat)(c:Cf)(v55 v56 v57 v58 v59 v60 v61 v62 v63 v64 v65 v66 v67 v13:Value):Prop where
 e55:v55=.pointer (some ⟨q,0,none⟩)
 e56:v56=.agg #[.int .i64 c.fr,.int .i64 c.tp,.int .i64 c.to,.int .i64 c.lm,.int .i64 c.bk,.int .i64 c.st,.int .i64 c.ah]
 e57:v57=.pointer (some ⟨p,0,none⟩)
 e58:v58=.pointer (some ⟨m,0,none⟩)
 e59:v59=.pointer (some ⟨p,0,none⟩)
 e62:v62=.pointer (some ⟨p,0,none⟩)
 e60:D 5=true->v60=.int .i64 nb
 e61:D 6=true->∃b,v61=.slice (some ⟨b,0,none⟩) nb nb/\w.ownsRow 0 4 1 v61 nb (List.replicate nb (.bool false))/\wa.heap.size<=b
 e63:D 8=true->v63=.int .i64 nb
 e64:D 9=true->∃b,v64=.map (some b)/\YER prog 3 w b 0 (λ_=>none)/\wa.heap.size<=b
 e65:D 10=true->∃b,v65=.map (some b)/\YER prog 3 w b 0 (λ_=>none)/\wa.heap.size<=b
 ne:D 9=true->D 10=true->v64≠v65
 e66:D 11=true->D 6=true/\D 8=true/\D 9=true/\D 10=true/\v66=.agg #[v55,.int .i64 c.fr,.int .i64 c.tp,.int .i64 c.to,.int .i64 c.lm,.int .i64 c.bk,.int .i64 c.st,.int .i64 c.ah,v57,v58,v61,v63,.int .i64 0,.int .i64 0,v64,v65]
 e67:D 12=true->D 11=true/\∃b,v67=.pointer (some ⟨b,0,none⟩)/\wa.heap.size<=b/\Rec w b 220 [v55,.int .i64 c.fr,.int .i64 c.tp,.int .i64 c.to,.int .i64 c.lm,.int .i64 c.bk,.int .i64 c.st,.int .i64 c.ah,v57,v58,v61,v63,.int .i64 0,.int .i64 0,v64,v65]
 e13:D 13=true->∃b,v13=.pointer (some ⟨b,0,none⟩)/\wa.heap.size<=b/\Rec w b 90 [if D 14 then v67 else .pointer none]
 d14:D 14=true->D 12=true/\D 13=true
 t:XF4 (λi=>wa.heap.size<=i) wa w
theorem OpJ.gr{wa w w':World}{D:Nat->Bool}{q p m nb:Nat}{c:Cf}{v55 v56 v57 v58 v59 v60 v61 v62 v63 v64 v65 v66 v67 v13:Value}(h:OpJ wa w D q p m nb c v55 v56 v57 v58 v59 v60 v61 v62 v63 v64 v65 v66 v67 v13)(g:Gr w w'):OpJ wa w' D q p m nb c v55 v56 v57 v58 v59 v60 v61 v62 v63 v64 v65 v66 v67 v13:=
 ⟨h.e55,h.e56,h.e57,h.e58,h.e59,h.e62,h.e60,λd=>by obtain⟨b,h1,h2,h3⟩:=h.e61 d;exact⟨b,h1,Y9I h2 g,h3⟩,h.e63,λd=>by obtain⟨b,h1,h2,h3⟩:=h.e64 d;exact⟨b,h1,h2.gr g,h3⟩,λd=>by obtain⟨b,h1,h2,h3⟩:=h.e65 d;exact⟨b,h1,h2.gr g,h3⟩,h.ne,h.e66,
  λd=>by obtain⟨h0,b,h1,h2,h3⟩:=h.e67 d;exact⟨h0,b,h1,h2,h3.gr g⟩,λd=>by obtain⟨b,h1,h2,h3⟩:=h.e13 d;exact⟨b,h1,h2,h3.gr g⟩,h.d14,h.t.trans (g.touch _)⟩
def OpI(wa:World)(q p m nb:Nat)(c:Cf)(a0:Act)(D:Nat->Bool)(a:Act)(w:World):Prop:=
 ∃v55 v56 v57 v58 v59 v60 v61 v62 v63 v64 v65 v66 v67 v13:Value,a=(((((((((((((a0.put (some 55) v55).put (some 56) v56).put (some 57) v57).put (some 58) v58).put (some 59) v59).put (some 60) v60).put (some 61) v61).put (some 62) v62).put (some 63) v63).put (some 64) v64).put (some 65) v65).put (some 66) v66).put (some 67) v67).put (some 13) v13/\OpJ wa w D q p m nb c v55 v56 v57 v58 v59 v60 v61 v62 v63 v64 v65 v66 v67 v13
theorem Sl.on_next(s:Sl){mm:Nat}(hm:mm<sizes s.L)(q:Nat):s.on (λi=>decide (i<mm+1)) q=s.on (λi=>decide (i<mm)) q+(if Vjz s.L mm/s.pg=q then 1 else 0):=by
 have h:=Sl.on_but (s:=s) (U:=λi=>decide (i<mm+1)) (i:=mm) (q:=q) hm (by simp)
 have e:s.on (but (λi=>decide (i<mm+1)) mm) q=s.on (λi=>decide (i<mm)) q:=Sl.on_congr λj _=>by
  unfold but;by_cases h1:j=mm
  ·subst h1;simp
  ·have e1:(j==mm)=false:=ζy.2 h1;rw[e1,Bool.not_false,ξP];exact ζK.2 Ω
 rw[e]at h;exact h.symm
theorem Y0x{n:Nat}{L:List Ob}(hg:Q4l n L):L.length<=sizes L:=by
 have:∀l:List Ob,(∀o∈l,1<=o.2)->l.length<=sizes l:=λl=>by
  induction l with
  | nil=>intro _;exact π _
  | cons o r ih=>
   intro h;have h1:=ih (λx hx=>h x (ζo _ hx));have h2:=h o (ζg ..);simp only[ζU,sizes];omega
 exact this L (λo ho=>(hg.sz o ho).1)
structure OpA(W5 A:World)(b64 b65:Nat)(v:Vm)(s:Sl)(j mm:Nat):Prop where
 t:XF4 (λi=>(i=b64\/i=b65)\/W5.heap.size<=i) W5 A
 sh:∃n f,YER prog 3 A b65 n f/\n<=j/\∀i (h:i<s.L.length),i<j->f (s.L[i].1:Nat)=some (X79 (v.rdH (s.L[i].1:Nat)))
 wd:∃n f,YER prog 3 A b64 n f/\n<=mm/\∀q:Nat,(f (q:Nat)).getD (.int .i64 0)=.int .i64 (s.on (λi=>decide (i<mm)) q:Nat)
theorem OpA.win{W5 A B:World}{b64 b65:Nat}{v:Vm}{s:Sl}{j mm K:Nat}(h:OpA W5 A b64 b65 v s j mm)(h4:b64<W5.heap.size)(h5:b65<W5.heap.size)(t:XF4 (λk=>W5.heap.size<=k/\k<K) A B):OpA W5 B b64 b65 v s j mm:=by
 obtain⟨n1,f1,a1,a2,a3⟩:=h.sh;obtain⟨n2,f2,c1,c2,c3⟩:=h.wd;exact⟨h.t.trans (t.mono (λi _ h=>.inr h.1)),⟨n1,f1,a1.touch t (λh=>by omega),a2,a3⟩,⟨n2,f2,c1.touch t (λh=>by omega),c2,c3⟩⟩
theorem OpA.zero{W5:World}{b64 b65:Nat}{v:Vm}{s:Sl}(h4:YER prog 3 W5 b64 0 (λ_=>none))(h5:YER prog 3 W5 b65 0 (λ_=>none)):OpA W5 W5 b64 b65 v s 0 0:=
 ⟨XF4.refl _ _,⟨0,_,h5,π _,λi _ h=>absurd h (ζV _)⟩,⟨0,_,h4,π _,λq=>by
  have:s.on (λi=>decide (i<0)) q=0:=Sl.on_iff.2 (λj _ h=>by simp at h)
  rw[this];rfl⟩⟩
theorem OpA.hdr{W5 A B:World}{b64 b65 n:Nat}{v:Vm}{s:Sl}{j mm:Nat}{f:Int->Option Value}(h:OpA W5 A b64 b65 v s j mm)(hj:j<s.L.length)(hne:b64≠b65)(hn:n<=j)(hf:∀i (h:i<s.L.length),i<j->f (s.L[i].1:Nat)=some (X79 (v.rdH (s.L[i].1:Nat))))(hg:Q4l s.n s.L)
  (hm:YER prog 3 B b65 (n+1) (λy=>if y=((s.L[j].1:Nat):Int)then some (X79 (v.rdH (s.L[j].1:Nat)))else f y)) (t:XF4 (λi=>i=b65) A B):OpA W5 B b64 b65 v s (j+1) mm:=by
 obtain⟨n2,f2,c1,c2,c3⟩:=h.wd;refine⟨h.t.trans (t.mono (λi _ h=>.inl (.inr h))),⟨n+1,_,hm,by omega,λi hi hij=>?_⟩,⟨n2,f2,c1.touch t hne,c2,c3⟩⟩;by_cases e:i=j
 ·subst e;exact μ rfl
 ·have h1:=hg.at hi hj Ω;have h2:=(hg.sz _ (χ hi)).1;rw[ϑ Ω];exact hf i hi Ω
theorem OpA.word{W5 A B:World}{b64 b65 n x:Nat}{v:Vm}{s:Sl}{j mm:Nat}{f:Int->Option Value}(h:OpA W5 A b64 b65 v s j mm)(hm:mm<sizes s.L)(hne:b64≠b65)(hn:n<=mm)(hf:∀q:Nat,(f (q:Nat)).getD (.int .i64 0)=.int .i64 (s.on (λi=>decide (i<mm)) q:Nat))
  (hx:x=s.on (λi=>decide (i<mm)) (Vjz s.L mm/s.pg)+1) (hM:YER prog 3 B b64 (n+1) (λy=>if y=((Vjz s.L mm/s.pg:Nat):Int)then some (.int .i64 x)else f y)) (t:XF4 (λi=>i=b64) A B):OpA W5 B b64 b65 v s j (mm+1):=by
 obtain⟨n1,f1,a1,a2,a3⟩:=h.sh;refine⟨h.t.trans (t.mono (λi _ h=>.inl (.inl h))),⟨n1,f1,a1.touch t (λe=>hne e.symm),a2,a3⟩,⟨n+1,_,hM,by omega,λq=>?_⟩⟩;rw[s.on_next hm q];by_cases e:Vjz s.L mm/s.pg=q
 ·subst e;rw[μ rfl,μ rfl,hx];rfl
 ·rw[ϑ e,ϑ Ω,hf q];rfl
theorem VLI{w2 w3 W5 W7:World}{q m p1 b1 p2 b2 p y b61 b64 b65 nb lo:Nat}{v:Vm}{c:Cf}{L:List Ob}{T:Nat->Prop}
  (hE2:Ext w2 m p1 b1 p2 b2 v.n L) (hg:Gr w2 w3) (hP:Pln w3 w2.heap.size p v.n c.bk c.to L) (hlo:lo<=w2.heap.size/\lo<=m/\lo<=p1/\lo<=b1/\lo<=p2/\lo<=b2)
  (t3:XF4 (λi=>w3.heap.size<=i) w3 W5) (hge:w3.heap.size<=y/\w3.heap.size<=b61/\w3.heap.size<=b64/\w3.heap.size<=b65) (hnb:nb=nbl (sizes L) c.bk)
  (hY:Rec W5 y 220 [.pointer (some ⟨q,0,none⟩),.int .i64 c.fr,.int .i64 c.tp,.int .i64 c.to,.int .i64 c.lm,.int .i64 c.bk,.int .i64 c.st,.int .i64 c.ah,.pointer (some ⟨p,0,none⟩),.pointer (some ⟨m,0,none⟩),.slice (some ⟨b61,0,none⟩) nb nb,.int .i64 nb,.int .i64 0,.int .i64 0,.map (some b64),.map (some b65)])
  (hO:W5.ownsRow 0 4 1 (.slice (some ⟨b61,0,none⟩) nb nb) nb (List.replicate nb (.bool false))) (h4:YER prog 3 W5 b64 0 (λ_=>none)) (h5:YER prog 3 W5 b65 0 (λ_=>none)) (hne:b64≠b65)
  (hA:OpA W5 W7 b64 b65 v (V4X v c L) L.length (sizes L)) (hT:∀i,i<W5.heap.size->i≠b64->i≠b65->¬T i) (t7:XF4 T W5 W7):
  Cyc W7 (λb=>lo<=b/\b<W5.heap.size) y q ⟨w2.heap.size,w3.heap.size,p,m,p1,b1,p2,b2,b65,b61,nb,b64⟩ (V4X v c L):=by
 obtain⟨l1,l2,l3,l4,l5,l6⟩:=hlo;obtain⟨g1,g2,g3,g4⟩:=hge;have D:=hg.size;have s35:=t3.size;have s57:=t7.size;have hm:=hE2.hm;have O:=hE2.v1.hp;have B:=hE2.v1.hb;have E:=hE2.v2.hp;have I:=hE2.v2.hb;have M:=hY.lt;have Y:=(Vvr hO rfl).2;have U:=h4.lt;have V:=h5.lt;have n1:b61≠y:=YnK hO hY (by decide) rfl rfl;have n2:=h4.ne (JME hY);have n3:=h5.ne (JME hY);obtain⟨J,Z⟩:=QiW hO rfl;have n4:=h4.ne (q:=b61) ⟨J,_,Z⟩;have n5:=h5.ne (q:=b61) ⟨J,_,Z⟩;have N:Gr w3 W5:=(t3.mono (T:=λ_=>False) (λi hi h=>absurd hi (ξi h))).gr;obtain⟨nh,fh,a1,a2,a3⟩:=hA.sh;obtain⟨nw,fw,d1,d2,d3⟩:=hA.wd;refine⟨⟨hm,O,B,E,I,D,by show w3.heap.size<=_;omega,g1,g2,g3,g4,n1.symm,n2.symm,n3.symm,n4.symm,n5.symm,hne,⟨by omega,M⟩,⟨by show lo<=b61;omega,Y⟩,⟨by show lo<=b64;omega,U⟩,⟨by show lo<=b65;omega,V⟩,⟨l2,by show m<_;omega⟩,⟨l3,by show p1<_;omega⟩,⟨l4,by show b1<_;omega⟩,⟨l5,by show p2<_;omega⟩,⟨l6,by show b2<_;omega⟩,λk h1 h2=>⟨by have:w2.heap.size<=k:=h1;omega,by have:k<w3.heap.size:=h2;omega⟩,λk hk=>by omega⟩,?_,λW tW=>hP.touch ((t3.mono (λi _ h=>.inr h)).trans ((t7.mono (λi hi h=>?_)).trans tW)) (λk h1 h2 h=>by rcases h with h|h;(have:k<w2.heap.size:=h;omega);(have:w3.heap.size<=k:=h;omega)),?_,⟨nh,fh,a1,λj hj=>a3 j hj hj⟩,⟨nw,fw,d1,?_,λqq=>?_⟩,?_⟩
 ·have h:=hY.touch t7 (hT _ M n2.symm n3.symm)
  show Rec W7 y _ (Qa0 q c _ (V4X v c L).mv.length (V4X v c L).lf (V4X v c L).ft ((V4X v c L).mvd-(V4X v c L).ft))
  rw[JnF,Q20,ZPv];have hl:(V4X v c L).mv.length=nb:=by rw[hnb];exact ζC
  rw[hl,<-hnb];exact h
 ·right
  show w3.heap.size<=i
  refine ξ3 λh'=>?_;exact hT i Ω Ω Ω h
 ·exact(((hE2.gr hg).gr N).touch t7 (hT _ Ω Ω Ω) (hT _ Ω Ω Ω) (hT _ Ω Ω Ω) (hT _ Ω Ω Ω) (hT _ Ω Ω Ω))
 ·have h1:cnt (λi=>!(V4X v c L).is i) (sizes (V4X v c L).L)<=sizes (V4X v c L).L:=QMh _ _;have h2:nw<=sizes (V4X v c L).L:=d2;omega
 ·rw[d3 qq]
  have:(V4X v c L).on (λi=>decide (i<sizes L)) qq=(V4X v c L).on (λi=>!(V4X v c L).is i) qq:=Sl.on_congr λi hi=>by
   have G:i<sizes L:=hi;rw[JZl,κ G];rfl
  rw[this]
 ·have h:=Zs2 hO t7 (λg hg=>by cases hg;exact hT _ Y n4.symm n5.symm);have hl:(V4X v c L).mv.length=nb:=by rw[hnb];exact ζC
  have hb:bls (V4X v c L).mv=List.replicate nb (.bool false):=by
   show (List.replicate (nbl (sizes L) c.bk) false).map Value.bool=_
   rw[ψq,hnb]
  rw[hl,hb];exact h
structure UmO(w8 wx:World)(S5:Nat->Prop)(q:Nat)(s:Sl)(v:Vm)(q0 j pg tp:Nat):Prop where
 t:XF4 S5 w8 wx
 vm:∃Sj v',(∀b,Sj b->plus S5 w8 b)/\QXZ wx Sj q v'/\Vdg s v v' q0 j
 q1:∀i,i<j->(q0+i)*pg<tp
section
variable {w:World} {S:Nat->Prop} {q r g:Nat} {v:Vm} {rs:List Int} {c:Cf}
theorem VBz(hV:QXZ w S q v)(hR:V5d w r g rs)(hT:VRW w)(htS:¬S 1)(hrS:¬S r)(hgS:¬S g)(hcf:VeB v.pl.pg v.n c)(htr:1≠g):
  Calls prog 107 #[.pointer (some ⟨q,0,none⟩),.pointer (some ⟨r,0,none⟩),cfV c] w (QOD w S q r g v rs c):=by
 have HV:=hid hV.cut;have HR:=hid hR;have HT:=hid hT;have Xy:=hid (ν htS (ν hrS (ν hgS htr)));have Mx:=hT.lt;have hrl:=hR.lt;have hn2:=hV.ok.n2;have Nx:=hV.ok.page;have Mq:=hid hV.ok;have Vh:=hid hcf;have Ex:1<=v.n:=by have:=hcf.fr;have:=hcf.tp;have:=hcf.tn;omega
 have Ve:rs.length≠0:=λe=>hR.ne (ζv e);have Ec:=hR.le;have hcb:c.lm<=v.n/\c.to<=c.lm/\c.fr<=c.tp/\c.tp<=v.n:=⟨hcf.ln,hcf.lm,hcf.tp,hcf.tn⟩;have Ud:=hid (λ(W:World) (gW:Gr w W)=>YeU (hR.gr gW));have Nw:=hid (λ(W:World) (gW:Gr w W)=>QzK (hV.gr gW) hcf);have Oo:=hid (λ(W:World) (gW:Gr w W)=>YeD (c:=c) (hV.cut.gr gW) Ex (hR.gr gW) (gW.tab Mx hT) (λh=>htS h.1) hcf.st);unfold cfV at Nw Oo⊢;obtain⟨n,Ma⟩:∃n,n=rs.length:=⟨_,rfl⟩;have HN:=hid Ma;rw[<-Ma]at Ve Ec Ud;have d0:((n:Int)==0)=false:=by simp;omega
 have Nh:=hid (((Gr.refl w).alloc (.cells #[.pointer (some ⟨q,0,none⟩)] 87)).alloc (.cells #[.int .i64 c.fr,.int .i64 c.tp,.int .i64 c.to,.int .i64 c.lm,.int .i64 c.bk,.int .i64 c.st,.int .i64 c.ah] 156));have Mo:=(Rec.new w 87 [.pointer (some ⟨q,0,none⟩)]).gr ((Gr.refl _).alloc (.cells #[.int .i64 c.fr,.int .i64 c.tp,.int .i64 c.to,.int .i64 c.lm,.int .i64 c.bk,.int .i64 c.st,.int .i64 c.ah] 156));have Me:=VOf w (.cells #[.pointer (some ⟨q,0,none⟩)] 87) 156 [.int .i64 c.fr,.int .i64 c.tp,.int .i64 c.to,.int .i64 c.lm,.int .i64 c.bk,.int .i64 c.st,.int .i64 c.ah];obtain⟨W0,Zj⟩:∃W0,W0=(w.alloc (.cells #[.pointer (some ⟨q,0,none⟩)] 87)).alloc (.cells #[.int .i64 c.fr,.int .i64 c.tp,.int .i64 c.to,.int .i64 c.lm,.int .i64 c.bk,.int .i64 c.st,.int .i64 c.ah] 156):=⟨_,rfl⟩;have Up:W0.heap.size=w.heap.size+2:=by rw[Zj];simp only[η]
 have Vf:Hid (Rec W0 w.heap.size 87 [.pointer (some ⟨q,0,none⟩)]):=⟨by rw[Zj];exact Mo⟩;have Yf:Hid (Rec W0 (w.heap.size+1) 156 [.int .i64 c.fr,.int .i64 c.tp,.int .i64 c.to,.int .i64 c.lm,.int .i64 c.bk,.int .i64 c.st,.int .i64 c.ah]):=⟨by rw[Zj];exact Me⟩;have Vu:Hid (Gr w W0):=⟨by rw[Zj];exact Nh.o⟩;have HS0:=hid Up;clear hV hR hT htS hrS hgS htr hcf Ma Mo Me Nh Up;refine(ζa (n:=5)).1 ?_;refine callsIn_of_wp_marks func107 rfl trivial ?_ rfl;simp only[ntmps107,ξa,ζU,ξq,Nat.reduceAdd,Nat.reduceSub,ζ2,ζ1,ξf,ζ7,ξb,ζL];gi_upto_region 1 with(fail);rw[<-Zj];clear Zj;have z3:=Vf.o.cc 0;have Jg:=Yf.o.cc 0;have Jp:=Yf.o.cc 1;have Zm:=Yf.o.cc 2;have Jj:=Yf.o.cc 3;have Zk:=Yf.o.cc 4;have Jl:=Yf.o.cc 5;have Jm:=Yf.o.cc 6;have Jh:=Vf.o.lt;have Zi:=Yf.o.lt
 gi_upto_region 6 with(first
  | (refine⟨trivial,?_⟩;gi_at_call 152;refine(ζa.2 (Ud.o _ Vu.o)).mono ?_;rintro e w1 ⟨rfl,rfl⟩)
  | (refine⟨trivial,?_⟩;gi_at_call 153;refine(ζa.2 (Nw.o _ Vu.o)).mono ?_;rintro e w1 ⟨rfl,Jq⟩;have Xq:=hid (Vu.o.trans Jq);have Zp:=hid (Vf.o.gr Jq);have Xp:=hid (Yf.o.gr Jq);clear Jq))
 clear z3 Jg Jp Zm Jj Zk Jl Jm Jh Zi;have z3:=Zp.o.cc 0;have Jg:=Xp.o.cc 0;have Jp:=Xp.o.cc 1;have Zm:=Xp.o.cc 2;have Jj:=Xp.o.cc 3;have Zk:=Xp.o.cc 4;have Jl:=Xp.o.cc 5;have Jm:=Xp.o.cc 6;have Jh:=Zp.o.lt;have Zi:=Xp.o.lt;have Id:=Xq.o.size;gi_upto_region 7 with(refine⟨trivial,?_⟩;gi_at_call 154;refine(ζa.2 (Oo.o _ Xq.o)).mono ?_;rintro e w2 ⟨If,Oe,(⟨L,m,p1,b1,p2,b2,hI,rfl,hE,Nf,Or,Nj,Zf,Je⟩|⟨Ow,rfl⟩)⟩ <;> (have Yb:=hid If;have Uz:=hid Oe;clear If Oe))
 ·clear z3 Jg Jp Zm Jj Zk Jl Jm Jh Zi;have HI:=hid hI;have HX:=hid hE;have Zx:=hid (ν Nf (ν Or (ν Nj (ν Zf Je))));clear hI hE Nf Or Nj Zf Je;have Ut:=hid (Zp.o.touch Yb.o (λh=>by have:=h.2;omega));have Yw:=hid (Xp.o.touch Yb.o (λh=>by have:=h.2;omega));have Ym:Hid (VRW w2):=⟨(Xq.o.tab Mx HT.o).touch' Yb.o (λh=>Xy.o.1 h.1)⟩;have Li:=hid (Qkw HX.o Ym.o Vh.o.bk (base:=c.to) Ω);have z3:=Ut.o.cc 0;have Zm:=Yw.o.cc 2;have Zk:=Yw.o.cc 4;have Zi:=Yw.o.lt;have Ey:=Yb.o.size;gi_upto_region 10 with(refine⟨trivial,?_⟩;gi_at_call 155;refine(ζa.2 (Li.o)).mono ?_;rintro e w3 ⟨p,rfl,Mv,hP⟩;have Xt:=hid Mv;have Vc:=hid hP;clear Mv hP);clear z3 Zm Zk Zi;have Ye:=hid (Ut.o.gr Xt.o);have E:=hid (Yw.o.gr Xt.o);obtain⟨Ux,Eg,El,f,c0,c1,hF⟩:=Vc.o;have Mr:=hid (λ(W:World) (gW:Gr w3 W)=>YY0 ((gW.cell Ux 0).trans c0));have Uy:=hid (λ(W:World) (gW:Gr w3 W)=>Q14 (hF.gr gW));obtain⟨N,hN⟩:∃N,N=sizes L:=⟨_,rfl⟩;have Jr:=hid hN;have hNb:N<=1048576:=by rw[hN];have:=XY5 HX.o.good;omega
  rw[<-hN]at Uy;have x3:=E.o.cc 3;have x2:=E.o.cc 2;have xl:=E.o.lt;have hpl:=Ux;clear Ux Eg El c0 c1 hF hN;by_cases Yv:c.lm-c.to<N
  ·have d9:decide ((c.lm:Int)-(c.to:Int)<(N:Int))=true:=κ Ω;have Zb:=hid Yv;clear Yv;obtain⟨Sx,Z,HS⟩:=ZJV.start λW'=>W'.cell? ⟨w.heap.size+1,3,none⟩=some (.int .i64 c.lm)/\W'.cell? ⟨w.heap.size+1,2,none⟩=some (.int .i64 c.to);have y1:=ZJV.fact Z λ_ h=>h.1;have y2:=ZJV.fact Z λ_ h=>h.2;have U:=HS.o (w3.drew) (⟨x3,x2⟩);have O:Inhabited (ZJV Sx):=⟨⟨_,U⟩⟩;clear Z;refine V0Y Sx 9 [([0,3,4,5,6,7],1),([],2)] [8] JBz (by kernel_rfl) (by kernel_rfl) U ?_;refine QgQ ?_
   try simp only[XZy,ζ,ξ]
   repeat(go_big_quiet_step (fail))
   refine θ ?_;gi_wp2_with((refine⟨trivial,?_⟩;gi_at_call 156;refine(ζa.2 (Mr.o _ (Gr.refl w3).drew)).mono ?_;rintro e w4 ⟨rfl,rfl⟩));refine⟨.inr (ZJV.of (HS.o _ (⟨x3,x2⟩))),?_⟩;refine QgQ ?_
   try simp only[XZy,ζ,ξ]
   repeat(go_big_quiet_step (fail))
   refine θ ?_;gi_wp2_with((refine⟨trivial,?_⟩;gi_at_call 157;refine(ζa.2 (Uy.o _ (Gr.refl w3).drew)).mono ?_;rintro e w4 ⟨rfl,rfl⟩));refine⟨.inr (ZJV.of (HS.o _ (⟨x3,x2⟩))),?_⟩;refine X0q ?_
   try simp only[XZy,ζ,ξ]
   repeat(go_big_quiet_step (fail))
   refine θ ?_;refine β ?_;clear y1 y2 U O;clear HS Sx;clear x3 x2 xl;gi_wp2;have Ik:=((HR.o.gr Xq.o).touch Yb.o (λh=>Xy.o.2.1 h.1) (λh=>Xy.o.2.2.1 h.1)).gr Xt.o;refine⟨.tuple #[.pointer none,.int .i64 21],?_,?_,.inr ⟨L,HI.o,.inl ⟨by rw[<-Jr.o];exact Zb.o,rfl,((Uz.o.gr Xt.o).gr (Gr.refl w3).drew).mono (λb hb=>hb.1.1),Ik.gr (Gr.refl w3).drew⟩⟩⟩
   ·simp[results,f107,go_sem]
   ·have a1:XF4 (λb=>b=g\/S b) w w1:=Xq.o.touch _;have a2:=a1.trans (Yb.o.mono (λi _ h=>.inr h.1));exact a2.trans ((Xt.o.trans (Gr.refl w3).drew).touch _)
  ·have d9:decide ((c.lm:Int)-(c.to:Int)<(N:Int))=false:=ψ Ω;have Zb:=hid Yv;clear Yv;obtain⟨Sx,Z,HS⟩:=ZJV.start λW'=>W'.cell? ⟨w.heap.size+1,3,none⟩=some (.int .i64 c.lm)/\W'.cell? ⟨w.heap.size+1,2,none⟩=some (.int .i64 c.to);have y1:=ZJV.fact Z λ_ h=>h.1;have y2:=ZJV.fact Z λ_ h=>h.2;have U:=HS.o (w3.drew) (⟨x3,x2⟩);have O:Inhabited (ZJV Sx):=⟨⟨_,U⟩⟩;clear Z;refine V0Y Sx 9 [([0,3,4,5,6,7],1),([],2)] [8] JBz (by kernel_rfl) (by kernel_rfl) U ?_;refine QgQ ?_
   try simp only[XZy,ζ,ξ]
   repeat(go_big_quiet_step (fail))
   refine θ ?_;gi_wp2_with((refine⟨trivial,?_⟩;gi_at_call 156;refine(ζa.2 (Mr.o _ (Gr.refl w3).drew)).mono ?_;rintro e w4 ⟨rfl,rfl⟩));refine⟨.inr (ZJV.of (HS.o _ (⟨x3,x2⟩))),?_⟩;refine QgQ ?_
   try simp only[XZy,ζ,ξ]
   repeat(go_big_quiet_step (fail))
   refine θ ?_;gi_wp2_with((refine⟨trivial,?_⟩;gi_at_call 157;refine(ζa.2 (Uy.o _ (Gr.refl w3).drew)).mono ?_;rintro e w4 ⟨rfl,rfl⟩));refine⟨.inr (ZJV.of (HS.o _ (⟨x3,x2⟩))),?_⟩;refine X0q ?_
   try simp only[XZy,ζ,ξ]
   repeat(go_big_quiet_step (fail))
   refine θ ?_;refine β ?_;clear y1 y2 U O;clear HS Sx;clear x3 x2 xl;gi_upto_region 12 with(fail);obtain⟨nb,Vg⟩:∃nb,nb=nbl (sizes L) c.bk:=⟨_,rfl⟩;have Lc:=hid Vg
   have hnbb:nb<=1048576:=by
    have:=Vh.o.bk;have h1:=Quq this;have h2:=J5D (n:=sizes L) (B:=c.bk) Ω;have h3:=Jr.o;omega
   have Zo:=hid (λ(W:World) (gW:Gr w3 W)=>Ynh (Vc.o.gr gW));rw[<-Vg]at Zo;clear Vg;have HTW:Hid (∀(W:World),XF4 (λi=>w3.drew.heap.size<=i) w3.drew W->Gr w3 W):=⟨λW t=>(Gr.refl w3).drew.trans (t.mono (T:=λ_=>False) (λi hi h=>absurd hi (ξi h))).gr⟩;have x3:=Ye.o.cc 0;have Nc:=E.o.cc 0;have Nm:=E.o.cc 1;have Oi:=E.o.cc 2;have Ok:=E.o.cc 3;have Ib:=E.o.cc 4;have Mt:=E.o.cc 5;have Mw:=E.o.cc 6;obtain⟨Sx,Z⟩:∃Sx:World->Prop,Sx=λW'=>(W'.cell? ⟨w.heap.size,0,none⟩=some (.pointer (some ⟨q,0,none⟩))/\W'.cell? ⟨w.heap.size+1,0,none⟩=some (.int .i64 c.fr))/\(W'.cell? ⟨w.heap.size+1,1,none⟩=some (.int .i64 c.tp)/\W'.cell? ⟨w.heap.size+1,2,none⟩=some (.int .i64 c.to))/\(W'.cell? ⟨w.heap.size+1,3,none⟩=some (.int .i64 c.lm)/\W'.cell? ⟨w.heap.size+1,4,none⟩=some (.int .i64 c.bk))/\W'.cell? ⟨w.heap.size+1,5,none⟩=some (.int .i64 c.st)/\W'.cell? ⟨w.heap.size+1,6,none⟩=some (.int .i64 c.ah):=⟨_,rfl⟩;have y3:∀p':ZJV Sx,p'.w.cell? ⟨w.heap.size,0,none⟩=some (.pointer (some ⟨q,0,none⟩)):=λp=>(ZJV.get Z p).1.1;have Ep:∀p':ZJV Sx,p'.w.cell? ⟨w.heap.size+1,0,none⟩=some (.int .i64 c.fr):=λp=>(ZJV.get Z p).1.2;have Eu:∀p':ZJV Sx,p'.w.cell? ⟨w.heap.size+1,1,none⟩=some (.int .i64 c.tp):=λp=>(ZJV.get Z p).2.1.1;have Lk:∀p':ZJV Sx,p'.w.cell? ⟨w.heap.size+1,2,none⟩=some (.int .i64 c.to):=λp=>(ZJV.get Z p).2.1.2;have Ip:∀p':ZJV Sx,p'.w.cell? ⟨w.heap.size+1,3,none⟩=some (.int .i64 c.lm):=λp=>(ZJV.get Z p).2.2.1.1;have Eb:∀p':ZJV Sx,p'.w.cell? ⟨w.heap.size+1,4,none⟩=some (.int .i64 c.bk):=λp=>(ZJV.get Z p).2.2.1.2;have Ix:∀p':ZJV Sx,p'.w.cell? ⟨w.heap.size+1,5,none⟩=some (.int .i64 c.st):=λp=>(ZJV.get Z p).2.2.2.1;have Iy:∀p':ZJV Sx,p'.w.cell? ⟨w.heap.size+1,6,none⟩=some (.int .i64 c.ah):=λp=>(ZJV.get Z p).2.2.2.2;have Lh:=hid Z
   have Va:Hid (∀W,Gr w3 W->∃p:ZJV Sx,W=p.w):=⟨λW gW=>by
    have l3:=Ye.o.lt;have l5:=E.o.lt;refine ZJV.of ?_;rw[Lh.o]
    exact⟨⟨(gW.cell l3 0).trans x3,(gW.cell l5 0).trans Nc⟩,⟨(gW.cell l5 1).trans Nm,(gW.cell l5 2).trans Oi⟩,⟨(gW.cell l5 3).trans Ok,(gW.cell l5 4).trans Ib⟩,(gW.cell l5 5).trans Mt,(gW.cell l5 6).trans Mw⟩⟩
   have Yi:Hid (∀W,XF4 (λi=>w3.heap.size<=i) w3 W->∃p:ZJV Sx,W=p.w):=⟨λW tW=>Va.o W ((tW.mono (T:=λ_=>False) (λi hi h=>absurd hi (ξi h))).gr)⟩;have Xc:Hid (∀W,XF4 (λi=>w3.heap.size<=i) w3 W->Gr w3 W):=⟨λW tW=>(tW.mono (T:=λ_=>False) (λi hi h=>absurd hi (ξi h))).gr⟩;obtain⟨i0,Ez,In,Id,Nz⟩:=info_parts ZHF;have Ej:Hid (i0.bytes*nb<=281474976710656):=⟨by rw[Nz];omega⟩;have Im:Hid (nb<=maxLen):=⟨by unfold maxLen;omega⟩;have Ie:Hid (nb*1<=16777216):=⟨by omega⟩;have U:Sx w3.drew:=by obtain⟨p,hp⟩:=Va.o _ (Gr.refl w3).drew;rw[hp];exact p.h
   have O:Inhabited (ZJV Sx):=⟨⟨_,U⟩⟩;have Of:Sx w3.drew.drew:=by obtain⟨p,hp⟩:=Va.o _ ((Gr.refl w3).drew.drew);rw[hp];exact p.h
   clear Z x3 Nc Nm Oi Ok Ib Mt Mw;refine VMF Sx [0,1,2,3,4,7] #[true,true,true,true,true,false,false,true,false,false,false,false,false,false,false] [(5,[]),(6,[5]),(8,[5]),(9,[]),(10,[]),(11,[6,8,9,10]),(12,[11]),(13,[]),(14,[12,13])] (OpI w3 q p m nb c) JBz (by kernel_rfl) (by kernel_rfl) Of ?_ ⟨?_,?_,?_,?_,?_,?_,?_,?_,?_,trivial⟩ ?_
   ·simp only[XZy,ζ,ξ]
    repeat(go_big_quiet_step (fail))
    refine θ ?_;refine⟨.pointer (some ⟨q,0,none⟩),.agg #[.int .i64 c.fr,.int .i64 c.tp,.int .i64 c.to,.int .i64 c.lm,.int .i64 c.bk,.int .i64 c.st,.int .i64 c.ah],.pointer (some ⟨p,0,none⟩),.pointer (some ⟨m,0,none⟩),.pointer (some ⟨p,0,none⟩),undef,undef,.pointer (some ⟨p,0,none⟩),undef,undef,undef,undef,undef,undef,by simp only[Act.put,ζi,ζw,ζz],?_⟩;refine⟨rfl,rfl,rfl,rfl,rfl,rfl,(λh=>by cases h),(λh=>by cases h),(λh=>by cases h),(λh=>by cases h),(λh=>by cases h),(λh=>by cases h),(λh=>by cases h),(λh=>by cases h),(λh=>by cases h),(λh=>by cases h),?_⟩;exact((Gr.refl w3).drew.drew).touch _
   ·rintro D a W ⟨Xh,Xd,Xk,Xg,Xb,Xj,Xl,G,Xn,Xm,Xo,Xe,Xi,Xf,rfl,hJ⟩ I hk hd;clear I;simp only[XZy,ζ,ξ,Act.put,ζi,ζw,ζz];have HJ:=hid hJ;have HK:=hid hk;have HD:=hid hd;have Xr:=hid (Xc.o W hJ.t);obtain rfl:=hJ.e59;clear hJ hk hd;gi_wp2_with(refine⟨trivial,?_⟩;gi_at_call 158;refine(ζa.2 (Zo.o W Xr.o)).mono ?_;rintro e w4 ⟨rfl,Xa⟩);refine⟨Yi.o _ ?_,Xh,Xd,Xk,Xg,.pointer (some ⟨p,0,none⟩),.int .i64 nb,Xl,G,Xn,Xm,Xo,Xe,Xi,Xf,by simp only[Act.put,ζi,ζw,ζz],?_⟩
    ·exact HJ.o.t.trans (Xa.touch _)
    ·have Y:=HJ.o.gr Xa;have hk:=HK.o;have hd:=HD.o;exact⟨Y.e55,Y.e56,Y.e57,Y.e58,Y.e59,Y.e62,(λ_=>rfl),Y.e61,Y.e63,Y.e64,Y.e65,Y.ne,Y.e66,Y.e67,Y.e13,Y.d14,Y.t⟩
   ·rintro D a W ⟨Xh,Xd,Xk,Xg,Xb,Xj,Xl,G,Xn,Xm,Xo,Xe,Xi,Xf,rfl,hJ⟩ I hk hd;clear I;simp only[XZy,ζ,ξ,Act.put,ζi,ζw,ζz];have HJ:=hid hJ;have HK:=hid hk;have HD:=hid hd;have Xr:=hid (Xc.o W hJ.t);obtain rfl:=hJ.e60 (hd 5 (by simp));clear hJ hk hd;gi_wp2_with(gi_at_make;refine V63 _ rfl _ _ 198 rfl 0 4 i0 (.bool false) 1 underlying198 Ez In Id .i64 .i64 nb rfl rfl Ie.o Ej.o Im.o (ζh _) ?_;intro w4 Zq Zy);have Xa:Gr W w4:=(JEA Zy (λ_=>False) (λk e _=>by cases e)).gr;rw[show (Value.bool false).cells=#[.bool false]from rfl,J0U,ξz]at Zq;have Ld:=hid Zq;clear Zq Zy;gi_wp2;refine⟨Yi.o _ ?_,Xh,Xd,Xk,Xg,Xb,.int .i64 nb,.slice (some ⟨W.heap.size,0,none⟩) nb nb,G,Xn,Xm,Xo,Xe,Xi,Xf,by simp only[Act.put,ζi,ζw,ζz],?_⟩
    ·exact HJ.o.t.trans (Xa.touch _)
    ·have Y:=HJ.o.gr Xa;have hk:=HK.o;have hd:=HD.o;exact⟨Y.e55,Y.e56,Y.e57,Y.e58,Y.e59,Y.e62,Y.e60,(λ_=>⟨W.heap.size,rfl,Ld.o,Xr.o.size⟩),Y.e63,Y.e64,Y.e65,Y.ne,(λd=>by have h:=(HJ.o.e66 d).1;rw[hk]at h;cases h),(λd=>by have h:=(HJ.o.e66 (HJ.o.e67 d).1).1;rw[hk]at h;cases h),Y.e13,Y.d14,Y.t⟩
   ·rintro D a W ⟨Xh,Xd,Xk,Xg,Xb,Xj,Xl,G,Xn,Xm,Xo,Xe,Xi,Xf,rfl,hJ⟩ I hk hd;clear I;simp only[XZy,ζ,ξ,Act.put,ζi,ζw,ζz];have HJ:=hid hJ;have HK:=hid hk;have HD:=hid hd;have Xr:=hid (Xc.o W hJ.t);obtain rfl:=hJ.e62;clear hJ hk hd;gi_wp2_with(refine⟨trivial,?_⟩;gi_at_call 158;refine(ζa.2 (Zo.o W Xr.o)).mono ?_;rintro e w4 ⟨rfl,Xa⟩);refine⟨Yi.o _ ?_,Xh,Xd,Xk,Xg,Xb,Xj,Xl,.pointer (some ⟨p,0,none⟩),.int .i64 nb,Xm,Xo,Xe,Xi,Xf,by simp only[Act.put,ζi,ζw,ζz],?_⟩
    ·exact HJ.o.t.trans (Xa.touch _)
    ·have Y:=HJ.o.gr Xa;have hk:=HK.o;have hd:=HD.o;exact⟨Y.e55,Y.e56,Y.e57,Y.e58,Y.e59,Y.e62,Y.e60,Y.e61,(λ_=>rfl),Y.e64,Y.e65,Y.ne,(λd=>by have h:=(HJ.o.e66 d).2.1;rw[hk]at h;cases h),(λd=>by have h:=(HJ.o.e66 (HJ.o.e67 d).1).2.1;rw[hk]at h;cases h),Y.e13,Y.d14,Y.t⟩
   ·rintro D a W ⟨Xh,Xd,Xk,Xg,Xb,Xj,Xl,G,Xn,Xm,Xo,Xe,Xi,Xf,rfl,hJ⟩ I hk hd;clear I;simp only[XZy,ζ,ξ,Act.put,ζi,ζw,ζz];have HJ:=hid hJ;have HK:=hid hk;have HD:=hid hd;have Xr:=hid (Xc.o W hJ.t);clear hJ hk hd;refine Ya9 W rfl _ rfl ?_;gi_wp2;have Xa:Gr W (W.alloc (.map #[] 0)):=(Gr.refl W).alloc _;refine⟨Yi.o _ ?_,Xh,Xd,Xk,Xg,Xb,Xj,Xl,G,Xn,.map (some W.heap.size),Xo,Xe,Xi,Xf,by simp only[Act.put,ζi,ζw,ζz],?_⟩
    ·exact HJ.o.t.trans (Xa.touch _)
    ·have Y:=HJ.o.gr Xa;have hk:=HK.o;have hd:=HD.o;exact⟨Y.e55,Y.e56,Y.e57,Y.e58,Y.e59,Y.e62,Y.e60,Y.e61,Y.e63,(λ_=>⟨W.heap.size,rfl,YER.made W,Xr.o.size⟩),Y.e65,(λ_ d e=>by obtain⟨b,h1,h2,-⟩:=HJ.o.e65 d;rw[h1]at e;have:=h2.lt;simp only[Value.map.injEq,Option.some.injEq]at e;omega),(λd=>by have h:=(HJ.o.e66 d).2.2.1;rw[hk]at h;cases h),(λd=>by have h:=(HJ.o.e66 (HJ.o.e67 d).1).2.2.1;rw[hk]at h;cases h),Y.e13,Y.d14,Y.t⟩
   ·rintro D a W ⟨Xh,Xd,Xk,Xg,Xb,Xj,Xl,G,Xn,Xm,Xo,Xe,Xi,Xf,rfl,hJ⟩ I hk hd;clear I;simp only[XZy,ζ,ξ,Act.put,ζi,ζw,ζz];have HJ:=hid hJ;have HK:=hid hk;have HD:=hid hd;have Xr:=hid (Xc.o W hJ.t);clear hJ hk hd;refine Ya9 W rfl _ rfl ?_;gi_wp2;have Xa:Gr W (W.alloc (.map #[] 0)):=(Gr.refl W).alloc _;refine⟨Yi.o _ ?_,Xh,Xd,Xk,Xg,Xb,Xj,Xl,G,Xn,Xm,.map (some W.heap.size),Xe,Xi,Xf,by simp only[Act.put,ζi,ζw,ζz],?_⟩
    ·exact HJ.o.t.trans (Xa.touch _)
    ·have Y:=HJ.o.gr Xa;have hk:=HK.o;have hd:=HD.o;exact⟨Y.e55,Y.e56,Y.e57,Y.e58,Y.e59,Y.e62,Y.e60,Y.e61,Y.e63,Y.e64,(λ_=>⟨W.heap.size,rfl,YER.made W,Xr.o.size⟩),(λd _ e=>by obtain⟨b,h1,h2,-⟩:=HJ.o.e64 d;rw[h1]at e;have:=h2.lt;simp only[Value.map.injEq,Option.some.injEq]at e;omega),(λd=>by have h:=(HJ.o.e66 d).2.2.2.1;rw[hk]at h;cases h),(λd=>by have h:=(HJ.o.e66 (HJ.o.e67 d).1).2.2.2.1;rw[hk]at h;cases h),Y.e13,Y.d14,Y.t⟩
   ·rintro D a W ⟨Xh,Xd,Xk,Xg,Xb,Xj,Xl,G,Xn,Xm,Xo,Xe,Xi,Xf,rfl,hJ⟩ I hk hd;clear I;simp only[XZy,ζ,ξ,Act.put,ζi,ζw,ζz];have HJ:=hid hJ;have HK:=hid hk;have HD:=hid hd;have Xr:=hid (Xc.o W hJ.t);obtain rfl:=hJ.e56;obtain rfl:=hJ.e55;obtain rfl:=hJ.e57;obtain rfl:=hJ.e58;obtain rfl:=hJ.e63 (hd 8 (by simp));obtain⟨Yg,rfl,-,-⟩:=hJ.e61 (hd 6 (by simp));obtain⟨J,rfl,-,-⟩:=hJ.e64 (hd 9 (by simp));obtain⟨V,rfl,-,-⟩:=hJ.e65 (hd 10 (by simp));clear hJ hk hd;gi_wp2;have Xa:Gr W W:=Gr.refl W;refine⟨Yi.o _ ?_,.pointer (some ⟨q,0,none⟩),.agg #[.int .i64 c.fr,.int .i64 c.tp,.int .i64 c.to,.int .i64 c.lm,.int .i64 c.bk,.int .i64 c.st,.int .i64 c.ah],.pointer (some ⟨p,0,none⟩),.pointer (some ⟨m,0,none⟩),Xb,Xj,.slice (some ⟨Yg,0,none⟩) nb nb,G,.int .i64 nb,.map (some J),.map (some V),.agg #[.pointer (some ⟨q,0,none⟩),.int .i64 c.fr,.int .i64 c.tp,.int .i64 c.to,.int .i64 c.lm,.int .i64 c.bk,.int .i64 c.st,.int .i64 c.ah,.pointer (some ⟨p,0,none⟩),.pointer (some ⟨m,0,none⟩),.slice (some ⟨Yg,0,none⟩) nb nb,.int .i64 nb,.int .i64 0,.int .i64 0,.map (some J),.map (some V)],Xi,Xf,by simp only[Act.put,ζi,ζw,ζz],?_⟩
    ·exact HJ.o.t.trans (Xa.touch _)
    ·have Y:=HJ.o.gr Xa;have hk:=HK.o;have hd:=HD.o;exact⟨Y.e55,Y.e56,Y.e57,Y.e58,Y.e59,Y.e62,Y.e60,Y.e61,Y.e63,Y.e64,Y.e65,Y.ne,(λ_=>⟨hd 6 (by simp),hd 8 (by simp),hd 9 (by simp),hd 10 (by simp),rfl⟩),(λd=>by have h:=(HJ.o.e67 d).1;rw[hk]at h;cases h),Y.e13,Y.d14,Y.t⟩
   ·rintro D a W ⟨Xh,Xd,Xk,Xg,Xb,Xj,Xl,G,Xn,Xm,Xo,Xe,Xi,Xf,rfl,hJ⟩ I hk hd;clear I;simp only[XZy,ζ,ξ,Act.put,ζi,ζw,ζz];have HJ:=hid hJ;have HK:=hid hk;have HD:=hid hd;have Xr:=hid (Xc.o W hJ.t);obtain⟨d6,d8,Nk,Ii,rfl⟩:=hJ.e66 (hd 11 (by simp));obtain rfl:=hJ.e56;obtain rfl:=hJ.e55;obtain rfl:=hJ.e57;obtain rfl:=hJ.e58;obtain rfl:=hJ.e63 d8;obtain⟨Yg,rfl,-,-⟩:=hJ.e61 d6;obtain⟨J,rfl,-,-⟩:=hJ.e64 Nk;obtain⟨V,rfl,-,-⟩:=hJ.e65 Ii;have Uv:=hid (Rec.new W 220 [.pointer (some ⟨q,0,none⟩),.int .i64 c.fr,.int .i64 c.tp,.int .i64 c.to,.int .i64 c.lm,.int .i64 c.bk,.int .i64 c.st,.int .i64 c.ah,.pointer (some ⟨p,0,none⟩),.pointer (some ⟨m,0,none⟩),.slice (some ⟨Yg,0,none⟩) nb nb,.int .i64 nb,.int .i64 0,.int .i64 0,.map (some J),.map (some V)]);have Zv:=hid ((Gr.refl W).alloc (.cells #[.pointer (some ⟨q,0,none⟩),.int .i64 c.fr,.int .i64 c.tp,.int .i64 c.to,.int .i64 c.lm,.int .i64 c.bk,.int .i64 c.st,.int .i64 c.ah,.pointer (some ⟨p,0,none⟩),.pointer (some ⟨m,0,none⟩),.slice (some ⟨Yg,0,none⟩) nb nb,.int .i64 nb,.int .i64 0,.int .i64 0,.map (some J),.map (some V)] 220));clear d6 d8 Nk Ii;clear hJ hk hd;gi_wp2;refine⟨Yi.o _ ?_,.pointer (some ⟨q,0,none⟩),.agg #[.int .i64 c.fr,.int .i64 c.tp,.int .i64 c.to,.int .i64 c.lm,.int .i64 c.bk,.int .i64 c.st,.int .i64 c.ah],.pointer (some ⟨p,0,none⟩),.pointer (some ⟨m,0,none⟩),Xb,Xj,.slice (some ⟨Yg,0,none⟩) nb nb,G,.int .i64 nb,.map (some J),.map (some V),.agg #[.pointer (some ⟨q,0,none⟩),.int .i64 c.fr,.int .i64 c.tp,.int .i64 c.to,.int .i64 c.lm,.int .i64 c.bk,.int .i64 c.st,.int .i64 c.ah,.pointer (some ⟨p,0,none⟩),.pointer (some ⟨m,0,none⟩),.slice (some ⟨Yg,0,none⟩) nb nb,.int .i64 nb,.int .i64 0,.int .i64 0,.map (some J),.map (some V)],.pointer (some ⟨W.heap.size,0,none⟩),Xf,by simp only[Act.put,ζi,ζw,ζz],?_⟩
    ·exact HJ.o.t.trans (Zv.o.touch _)
    ·have Y:=HJ.o.gr Zv.o;have hk:=HK.o;have hd:=HD.o;exact⟨Y.e55,Y.e56,Y.e57,Y.e58,Y.e59,Y.e62,Y.e60,Y.e61,Y.e63,Y.e64,Y.e65,Y.ne,Y.e66,(λ_=>⟨hd 11 (by simp),W.heap.size,rfl,Xr.o.size,Uv.o⟩),(λd=>by obtain⟨b,h1,h2,h3⟩:=Y.e13 d;refine⟨b,h1,h2,?_⟩;cases h14:D 14 with|true=>(have:=(HJ.o.d14 h14).1;rw[hk]at this;cases this)|false=>(have e:upD D 12 14=false:=h14;rw[h14]at h3;rw[e];exact h3)),(λd=>⟨rfl,(Y.d14 d).2⟩),Y.t⟩
   ·rintro D a W ⟨Xh,Xd,Xk,Xg,Xb,Xj,Xl,G,Xn,Xm,Xo,Xe,Xi,Xf,rfl,hJ⟩ I hk hd;clear I;simp only[XZy,ζ,ξ,Act.put,ζi,ζw,ζz];have HJ:=hid hJ;have HK:=hid hk;have HD:=hid hd;have Xr:=hid (Xc.o W hJ.t);have Uv:=hid (Rec.new W 90 [.pointer none]);have Zv:=hid ((Gr.refl W).alloc (.cells #[.pointer none] 90));clear hJ hk hd;gi_wp2;refine⟨Yi.o _ ?_,Xh,Xd,Xk,Xg,Xb,Xj,Xl,G,Xn,Xm,Xo,Xe,Xi,.pointer (some ⟨W.heap.size,0,none⟩),by simp only[Act.put,ζi,ζw,ζz],?_⟩
    ·exact HJ.o.t.trans (Zv.o.touch _)
    ·have Y:=HJ.o.gr Zv.o;have hk:=HK.o;have hd:=HD.o;exact⟨Y.e55,Y.e56,Y.e57,Y.e58,Y.e59,Y.e62,Y.e60,Y.e61,Y.e63,Y.e64,Y.e65,Y.ne,Y.e66,Y.e67,(λ_=>⟨W.heap.size,rfl,Xr.o.size,by cases h14:D 14 with|true=>(have:=(HJ.o.d14 h14).2;rw[hk]at this;cases this)|false=>(have e:upD D 13 14=false:=h14;rw[e];exact Uv.o)⟩),(λd=>⟨(Y.d14 d).1,rfl⟩),Y.t⟩
   ·rintro D a W ⟨Xh,Xd,Xk,Xg,Xb,Xj,Xl,G,Xn,Xm,Xo,Xe,Xi,Xf,rfl,hJ⟩ I hk hd;clear I;simp only[XZy,ζ,ξ,Act.put,ζi,ζw,ζz];have HJ:=hid hJ;have HK:=hid hk;have HD:=hid hd;obtain⟨Yt,rfl,Ub,Yd⟩:=hJ.e13 (hd 13 (by simp));obtain⟨Ei,Jk,rfl,Mh,Nb⟩:=hJ.e67 (hd 12 (by simp));have Yp:=hid Yd;rw[hk]at Yd;have q0:=Yd.cc 0;have qf:=Yd.free 0;have ql:=Yd.lt;have Jv:=hid Ub;clear hJ hk hd Yd Nb Ei Mh Ub;gi_wp2;have tS:XF4 (λi=>i=Yt) W (W.setCell ⟨Yt,0,none⟩ (.pointer (some ⟨Jk,0,none⟩))):=(XF4.refl (λi=>i=Yt) W).setCell (a:=⟨Yt,0,none⟩) (λ_=>rfl) _;have Iu:=Yp.o.set 0 (.pointer (some ⟨Jk,0,none⟩));have tT:XF4 (λi=>w3.heap.size<=i) w3 (W.setCell ⟨Yt,0,none⟩ (.pointer (some ⟨Jk,0,none⟩))):=HJ.o.t.trans (tS.mono (λi _ h=>by rw[h];exact Jv.o));have hJ:=HJ.o;refine⟨Yi.o _ tT,Xh,Xd,Xk,Xg,Xb,Xj,Xl,G,Xn,Xm,Xo,Xe,.pointer (some ⟨Jk,0,none⟩),.pointer (some ⟨Yt,0,none⟩),by simp only[Act.put,ζi,ζw,ζz],?_⟩;exact⟨hJ.e55,hJ.e56,hJ.e57,hJ.e58,hJ.e59,hJ.e62,hJ.e60,(λd=>by obtain⟨b,h1,h2,h3⟩:=hJ.e61 d;exact⟨b,h1,Zs2 h2 tS (λg' hg=>by rw[h1]at hg;cases hg;exact YnK (by rw[h1]at h2;exact h2) Yp.o (by decide) rfl rfl),h3⟩),hJ.e63,(λd=>by obtain⟨b,h1,h2,h3⟩:=hJ.e64 d;exact⟨b,h1,h2.touch tS (h2.ne (JME Yp.o)),h3⟩),(λd=>by obtain⟨b,h1,h2,h3⟩:=hJ.e65 d;exact⟨b,h1,h2.touch tS (h2.ne (JME Yp.o)),h3⟩),hJ.ne,hJ.e66,(λd=>by obtain⟨h0,b,h1,h2,h3⟩:=hJ.e67 d;exact⟨h0,b,h1,h2,h3.touch tS (YnK h3 Yp.o (by decide) rfl rfl)⟩),(λ_=>⟨Yt,rfl,Jv.o,Iu⟩),(λ_=>⟨HD.o 12 (by simp),HD.o 13 (by simp)⟩),tT⟩
   ·rintro D a W ⟨Xh,Xd,Xk,Xg,Xb,Xj,Xl,G,Xn,Xm,Xo,Xe,Xi,Xf,rfl,hJ⟩ I Um;clear I;have M:∀j,j<15->D j=true:=Um;obtain⟨Yg,rfl,Ug,Uo⟩:=hJ.e61 (M 6 Ω);obtain rfl:=hJ.e60 (M 5 Ω);obtain rfl:=hJ.e63 (M 8 Ω);obtain⟨J,rfl,Uu,Ur⟩:=hJ.e64 (M 9 Ω);obtain⟨V,rfl,Ul,Us⟩:=hJ.e65 (M 10 Ω);obtain⟨-,-,-,-,rfl⟩:=hJ.e66 (M 11 Ω);obtain⟨-,y,rfl,Mz,Oy⟩:=hJ.e67 (M 12 Ω);obtain⟨bx,rfl,Ns,Vw⟩:=hJ.e13 (M 13 Ω);rw[M 14 Ω]at Vw;obtain rfl:=hJ.e55;obtain rfl:=hJ.e56;obtain rfl:=hJ.e57;obtain rfl:=hJ.e58;obtain rfl:=hJ.e59;obtain rfl:=hJ.e62;have Uf:J≠V:=λe=>hJ.ne (M 9 Ω) (M 10 Ω) (by rw[e]);have Ji:=hid hJ.t;have Ni:=hid Ug;have Yk:=hid Uu;have Yo:=hid Ul;have Zu:=hid Oy;have Ys:=hid Vw;have Ir:=hid (ν Uo (ν Ur (ν Us (ν Mz (ν Ns Uf)))));clear hJ Um M Ug Uo Uu Ur Ul Us Mz Oy Ns Vw Uf;refine β ?_;simp only[Act.put,ζi,ζw,ζz];clear y3 Ep Eu Lk Ip Eb Ix Iy U O Of;have hzW:=Ji.o.size;have HG3W:Hid (Gr w3 W):=⟨Xc.o W Ji.o⟩;have Vv:=Ys.o.cc 0;have Vp:=Ys.o.lt;gi_wp2_with(refine⟨trivial,?_⟩;gi_at_call 132;refine(ζa.2 (JMu (some ⟨m,0,none⟩))).mono ?_;rintro e w5 ⟨rfl,rfl⟩);obtain⟨W5,Zw⟩:∃W5,W5=W.alloc (.cells #[.pointer (some ⟨m,0,none⟩)] 103):=⟨_,rfl⟩;have Xu:Gr W W5:=by rw[Zw];exact(Gr.refl W).alloc _
    have hs5:W5.heap.size=W.heap.size+1:=by rw[Zw,η]
    have k5:W5.cell? ⟨W.heap.size,0,none⟩=some (.pointer (some ⟨m,0,none⟩)):=by rw[Zw];exact(Boxed.new W 103 (.pointer (some ⟨m,0,none⟩))).cell
    rw[<-Zw];clear Zw Vv Vp;obtain⟨Ea,En,Ll,gy,gx,Ve⟩:=Ir.o;have l64:=Yk.o.lt;have l65:=Yo.o.lt;have ly:=Zu.o.lt;have lx:=Ys.o.lt;have n64y:=Yk.o.ne (JME Zu.o);have n65y:=Yo.o.ne (JME Zu.o);have n64x:=Yk.o.ne (JME Ys.o);have n65x:=Yo.o.ne (JME Ys.o);have hml:=HX.o.hm;have hp1l:=HX.o.v1.hp;have hb1l:=HX.o.v1.hb;have hp2l:=HX.o.v2.hp;have hb2l:=HX.o.v2.hb;have hz3:=Xt.o.size;obtain⟨s,Zn⟩:∃s,s=V4X v c L:=⟨_,rfl⟩;have Vt:s.L=L:=by rw[Zn];rfl
    have Ue:s.pg=v.pl.pg:=by rw[Zn];rfl
    have Vi:s.n=v.n:=by rw[Zn];rfl
    have Zl:=hid (ν Vt (ν Ue (ν Vi Zn)));have Op:Hid (Q4l s.n s.L):=⟨by rw[Vi,Vt];exact HX.o.good⟩;have Il:=hid (Uz.o.gr Xt.o);have Yu:Hid (∀A,XF4 (λi=>(i=J\/i=V)\/W5.heap.size<=i) W5 A->XF4 (λi=>w3.heap.size<=i) w3 A):=⟨λA t=>(Ji.o.trans (Xu.touch _)).trans (t.mono (λi _ h=>by omega))⟩
    have HK:Hid (∀A,XF4 (λi=>(i=J\/i=V)\/W5.heap.size<=i) W5 A->((A.cell? ⟨bx,0,none⟩=some (.pointer (some ⟨y,0,none⟩))/\A.cell? ⟨y,14,none⟩=some (.map (some J)))/\A.cell? ⟨y,15,none⟩=some (.map (some V))/\A.cell? ⟨w.heap.size,0,none⟩=some (.pointer (some ⟨q,0,none⟩)))):=⟨λA t=>by
     have r1:=(Ys.o.gr Xu).touch t Ω;have r2:=(Zu.o.gr Xu).touch t Ω;have g3:=Xc.o A (Yu.o A t)
     exact⟨⟨r1.cc 0,r2.cc 14⟩,r2.cc 15,(g3.cell Ye.o.lt 0).trans (Ye.o.cc 0)⟩⟩
    have Vo:Hid (∀A,XF4 (λi=>(i=J\/i=V)\/W5.heap.size<=i) W5 A->QXZ A (ZOk (ZOk S w) w1) q v):=⟨λA t=>Il.o.gr (Xc.o A (Yu.o A t))⟩
    have Mu:Hid (∀A,XF4 (λi=>(i=J\/i=V)\/W5.heap.size<=i) W5 A->Ext A m p1 b1 p2 b2 v.n L/\VRW A):=⟨λA t=>by
     have g3:=Xc.o A (Yu.o A t)
     exact⟨(HX.o.gr Xt.o).gr g3,g3.tab (Xt.o.tab Ym.o.lt Ym.o).lt (Xt.o.tab Ym.o.lt Ym.o)⟩⟩
    have Ek:Hid (OpA W5 W5 J V v s 0 0):=⟨OpA.zero (Yk.o.gr Xu) (Yo.o.gr Xu)⟩;have Yq:Hid (J<W5.heap.size/\V<W5.heap.size/\J≠V):=⟨by omega⟩;have HZ0:Hid (sizes (L.take 0)=0):=⟨rfl⟩;have Iq:=hid k5;have hwl:w.heap.size<w3.heap.size:=Ye.o.lt;clear Zn Vt Ue Vi k5
    refine JYJ (K:=4) (s0:=0) rfl Ω (gf:=173) (lb:=#[.pointer (some ⟨W.heap.size,0,none⟩)]) rfl trivial (enters_of func173 (by kernel_rfl) rfl)
     (Yd3 _ W.heap.size m p1 b1 p2 b2 v.n L _) (λ_=>rfl)
     (λ(j:Nat) A=>j<=L.length/\OpA W5 A J V v s j (sizes (L.take j))) (λ_ _=>False) (λj A B h t=>⟨h.1,h.2.win Yq.o.1 Yq.o.2.1 t⟩) (λ_ _ _ h _=>h)
     (λj A h=>⟨(Mu.o A h.2.t).1,(Mu.o A h.2.t).2,(h.2.t.cell Ω Ω 0).trans Iq.o,h.1⟩)
     ⟨ζh _,Ek.o⟩ ?round ?done (λ_ _ _ _ h _=>h.elim)
    case round=>
     intro lp j x W6 Ic Ij Yr;dsimp only[VYF];gi_wp2;refine⟨Gr.refl _,λW7 ht7 Ze=>?_⟩
     have Ya:j<L.length:=by
      rcases γ j L.length with h|h
      ·exact h
      ·unfold YdH at Yr;rw[ζf h]at Yr;cases Yr
     obtain rfl:x=L[j]:=by unfold YdH at Yr;rw[δ Ya]at Yr;exact(Option.some.inj Yr).symm
     obtain⟨Ng,Jb,-⟩:=HI.o.1.mkd.ats _ (χ Ya);obtain⟨-,-,Em,Eo,La,Vq,Lj⟩:=J7F Jb;have Yj:=hid Ze.2;have Vl:=(HX.o.good.sz _ (χ Ya)).2;have Xz:=hid (Qsm Ya);have Mi:j<s.L.length:=by rw[Zl.o.1];exact Ya
     have Lf:=hid Mi;have Mn:s.L[j]=L[j]:=by simp only[Zl.o.1]
     have Za:Hid (∀t,t<L[j].2->Vjz s.L (sizes (L.take j)+t)=L[j].1+t/\sizes (L.take j)+t<sizes s.L):=⟨λt ht=>by
      have h1:=VfC Ya;rw[Zl.o.1]
      exact⟨YZF Ya ht,by omega⟩⟩
     obtain⟨n5,f5,Je,Nn,Oq⟩:=Ze.2.sh;have Iw:=hid Je;have Nq:=hid (ν Nn Oq);have Zz:∀B,YER prog 3 B V (n5+1) (λy=>if y=((L[j].1:Nat):Int)then some (X79 (v.rdH (L[j].1:Nat)))else f5 y)->XF4 (λi=>i=V) W7 B->OpA W5 B J V v s (j+1) (sizes (L.take j)):=λB hm t=>Yj.o.hdr Lf.o Yq.o.2.2 Nq.o.1 Nq.o.2 Op.o (by rw[Mn];exact hm) t;rw[Vq]at Zz;have Jc:=hid Zz;have Zr:=hid (λ(W:World) (gW:Gr W7 W)=>ZkF ((Vo.o W7 Yj.o.t).gr gW) ((L[j].1:Nat):Int));rw[Jb,Vq]at Zr;unfold X79 at Zr;unfold spV at Zr
     have hn5b:n5<=1048576:=by
      have h2:=XY5 HX.o.good;have h4:=Y0x HX.o.good;omega
     have Mf:Hid (n5<maxLen):=⟨by unfold maxLen;omega⟩;have Zs:Hid (sizes (L.take j)+L[j].2<=1048576):=⟨by have h1:=VfC Ya;have h2:=XY5 HX.o.good;omega⟩;obtain⟨sa,Uw⟩:∃sa,sa=L[j].1:=⟨_,rfl⟩;obtain⟨sz,Jn⟩:∃sz,sz=L[j].2:=⟨_,rfl⟩;obtain⟨mm,Vz⟩:∃mm,mm=sizes (L.take j):=⟨_,rfl⟩;have HSA:=hid (ν Uw (ν Jn Vz));rw[<-Uw]at Zr Za Jc Vl⊢;rw[<-Jn]at Za Vl Xz Zs⊢;rw[<-Vz]at Za Jc Xz Zs Yj;have Ov:Hid ((Lit.int .i64 (sa:Int)).wf=true):=⟨WalkArith.wf_i64 Ω⟩;have Mp:=hid (ν Ic ht7.size);have HJL:=hid Ya;have hsab:sa+sz<=524288:=Ω
     clear Ij Ze Yr ht7 Uw Jn Vz Mi Mn Ng Jb Vq Lj Je Nn Oq Zz Vl;have kk:=HK.o _ Yj.o.t;have k1:=kk.1.1;have k3:=kk.2.1;have k4:=kk.2.2;clear kk
     have Ig:Hid (∀W',Gr W7 W'->W'.cell? ⟨bx,0,none⟩=some (.pointer (some ⟨y,0,none⟩))/\W'.cell? ⟨y,15,none⟩=some (.map (some V))/\W'.cell? ⟨w.heap.size,0,none⟩=some (.pointer (some ⟨q,0,none⟩))):=⟨λW' gW=>by
      have h:=HK.o W' (Yj.o.t.trans (gW.touch _))
      exact⟨h.1.1,h.2⟩⟩
     gi_upto_region 16 with(fail);obtain⟨Sx,Z,HS⟩:=ZJV.start λW'=>W'.cell? ⟨bx,0,none⟩=some (.pointer (some ⟨y,0,none⟩))/\W'.cell? ⟨y,15,none⟩=some (.map (some V))/\W'.cell? ⟨w.heap.size,0,none⟩=some (.pointer (some ⟨q,0,none⟩));have y1:=ZJV.fact Z λ_ h=>h.1;have y2:=ZJV.fact Z λ_ h=>h.2.1;have y3:=ZJV.fact Z λ_ h=>h.2.2;have U:=HS.o (W7.drew) (Ig.o _ (Gr.refl W7).drew);have O:Inhabited (ZJV Sx):=⟨⟨_,U⟩⟩;clear Z;refine V0Y Sx 13 [([0,1,2,3,4,5,6,7],8),([9,10,11],12)] [] (λ_=>trivial) (by kernel_rfl) (by kernel_rfl) U ?_;refine QgQ ?_
     try simp only[XZy,ζ,ξ]
     repeat(go_big_quiet_step (fail))
     refine θ ?_;gi_wp2_with((refine⟨trivial,?_⟩;gi_at_call 69;refine(CallsIn.inRound lp (ζa.2 (Zr.o _ (Gr.refl W7).drew))).mono ?_;rintro e w8 ⟨rfl,Oh⟩;have Ja:=hid ((Gr.refl W7).drew.trans Oh);clear Oh));refine⟨.inr (ZJV.of (HS.o _ (Ig.o _ Ja.o))),?_⟩;refine QgQ ?_
     try simp only[XZy,ζ,ξ]
     repeat(go_big_quiet_step (fail))
     refine θ ?_;gi_wp2_with((gi_at_mapUpdate;refine Y7w _ rfl _ _ _ 218 rfl 3 63 JKr underlying218 underlying3 V n5 f5 rfl (Iw.o.gr Ja.o) Mf.o (sa:Int) (.agg #[.int .i64 Em,.int .i64 Eo,.int .i64 La]) rfl rfl Ov.o ?_;intro w9 Ne Od;have Ef:=hid Ne;have Vb:=hid Od;clear Ne Od));refine⟨.inr (ZJV.of (HS.o _ ((by have h:=HK.o w9 (Yj.o.t.trans ((Ja.o.touch _).trans (Vb.o.mono (λi _ h=>.inl (.inr h)))));exact⟨h.1.1,h.2⟩)))),?_⟩;refine X0q ?_
     try simp only[XZy]
     repeat(go_big_quiet_step (fail))
     refine θ ?_;refine β ?_;clear y1 y2 y3 U O;clear HS Sx;clear k1 k3 k4;have Lm:Hid (OpA W5 w9 J V v s (j+1) (mm+0)):=⟨Jc.o w9 Ef.o ((Ja.o.touch _).trans Vb.o)⟩;have Oc:Hid (XF4 (λi=>i=J\/i=V) W7 w9):=⟨(Ja.o.touch _).trans (Vb.o.mono (λi _ h=>.inr h))⟩;gi_wp2
     gi_loopw [16] (λs16 wr=>∃t A:Nat,t<=sz/\Hid (A=sa+t)/\Hid (OpA W5 wr J V v s (j+1) (mm+t))/\Hid (XF4 (λi=>i=J\/i=V) W7 wr)/\s16=.int .i64 A) (λs16 _=>sa+sz-(intOf s16).toNat)
     case atStart=>exact⟨0,sa,ζh _,⟨rfl⟩,Lm,Oc,rfl⟩
     case round=>
      obtain⟨t,A,ht,Zh,HA,Ih,rfl⟩:=hrel;by_cases Xx:t<sz
      ·have Yh:=hid Xx;have Le:(A:Int)<(sa:Int)+(sz:Int):=by have:=Zh.o;omega
       have Ew:A<=1048576:=by have:=Zh.o;omega
       obtain⟨e1,e2⟩:=Za.o t Xx;obtain⟨n4,f4,Zf,Ml,Vy⟩:=HA.o.wd;have Oa:=hid (λ(W:World) (gW:Gr wr W)=>VML ((Vo.o wr HA.o.t).gr gW));obtain⟨pg,Xv⟩:∃pg,pg=v.pl.pg:=⟨_,rfl⟩;rw[<-Xv]at Oa Nx;obtain⟨Q,hQ⟩:∃Q,Q=A/pg:=⟨_,rfl⟩;have g1:((A:Int).tdiv (pg:Int))=(Q:Int):=by rw[hQ];rfl
       have g2:((A:Int)/(pg:Int))=(Q:Int):=by rw[hQ];rfl
       have Nr:(pg:Int)≠0:=Ω
       have hQb:Q<=1048576:=by rw[hQ];exact ζb (ζ8 _ _) Ew
       have Vx:Vjz s.L (mm+t)/s.pg=Q:=by rw[e1,hQ,Zh.o,Xv,Zl.o.2.1]
       obtain⟨N1,Yl⟩:∃N1,N1=s.on (λi=>decide (i<mm+t)) Q:=⟨_,rfl⟩
       have hN1b:N1<=1048576:=by
        rw[Yl];have h1:=s.on_le (λi=>decide (i<mm+t)) Q;have h2:=XY5 Op.o;have h3:=Zl.o.2.2.1;omega
       have Vs:Hid (∀W',Gr wr W'->(Instr.lookup 119 (.map (some J)) (.int .i64 Q) false).run prog W'=.ok (.int .i64 N1) W'):=⟨λW' gW=>by
        rw[(Zf.gr gW).look JKr underlying119 underlying3 (YqT W') (WalkArith.wf_i64 Ω),Vy Q,Yl]⟩
       have Mj:Hid (∀B,YER prog 3 B J (n4+1) (λy=>if y=(Q:Int)then some (.int .i64 ((N1+1:Nat):Int))else f4 y)->XF4 (λi=>i=J) wr B->OpA W5 B J V v s (j+1) (mm+(t+1))):=⟨λB hmB tB=>by
        have:=HA.o.word e2 Yq.o.2.2 Ml Vy (x:=N1+1) (B:=B) (by rw[Vx,Yl]) (by rw[Vx];exact hmB) tB
        rw[<-ξO];exact this⟩
       have Is:=hid Zf;have Nl:Hid (n4<maxLen):=⟨by have:=Zs.o;unfold maxLen;omega⟩;have Os:Hid ((Lit.int .i64 (Q:Int)).wf=true):=⟨WalkArith.wf_i64 Ω⟩;have Eq:(N1:Int)+1=((N1+1:Nat):Int):=by push_cast;rfl
       obtain⟨N2,Uk⟩:∃N2,N2=N1+1:=⟨_,rfl⟩;rw[<-Uk]at Eq Mj
       have Np:Hid (∀W',Gr wr W'->(W'.cell? ⟨bx,0,none⟩=some (.pointer (some ⟨y,0,none⟩))/\W'.cell? ⟨y,14,none⟩=some (.map (some J)))/\W'.cell? ⟨w.heap.size,0,none⟩=some (.pointer (some ⟨q,0,none⟩))/\(Instr.lookup 119 (.map (some J)) (.int .i64 Q) false).run prog W'=.ok (.int .i64 N1) W'):=⟨λW' gW=>by
        have h:=HK.o W' (HA.o.t.trans (gW.touch _))
        exact⟨h.1,h.2.2,Vs.o W' gW⟩⟩
       clear e1 e2 Zf Ml Vy Xv hQ Vx Yl Uk Xx;gi_upto_region 20 with(fail);obtain⟨Sx,Z,HS⟩:=ZJV.start λW'=>(W'.cell? ⟨bx,0,none⟩=some (.pointer (some ⟨y,0,none⟩))/\W'.cell? ⟨y,14,none⟩=some (.map (some J)))/\W'.cell? ⟨w.heap.size,0,none⟩=some (.pointer (some ⟨q,0,none⟩))/\(Instr.lookup 119 (.map (some J)) (.int .i64 Q) false).run prog W'=.ok (.int .i64 N1) W';have y1:=ZJV.fact Z λ_ h=>h.1.1;have y2:=ZJV.fact Z λ_ h=>h.1.2;have y3:=ZJV.fact Z λ_ h=>h.2.1;have y4:∀p:ZJV Sx,(Instr.lookup 119 (.map (some J)) (.int .i64 Q) false).run prog p.w=.ok (.int .i64 N1) p.w:=λp=>by have h:=ZJV.get Z p;exact h.2.2
       have U:=HS.o (wr.drew) (Np.o _ (Gr.refl wr).drew);have O:Inhabited (ZJV Sx):=⟨⟨_,U⟩⟩;clear Z;refine V0Y Sx 10 [([0,1,2,3,4,5],6),([7,8,9],10)] [] (λ_=>trivial) (by kernel_rfl) (by kernel_rfl) U ?_;refine QgQ ?_
       try simp only[XZy,ζ,ξ]
       repeat(go_big_quiet_step (fail))
       refine θ ?_;gi_wp2_with((refine⟨trivial,?_⟩;gi_at_call 126;refine(CallsIn.inRound lp (ζa.2 (Oa.o _ (Gr.refl wr).drew))).mono ?_;rintro e w8 ⟨rfl,rfl⟩));refine⟨.inr (ZJV.of (HS.o _ (Np.o _ (Gr.refl wr).drew))),?_⟩;refine QgQ ?_
       try simp only[XZy,ζ,ξ]
       repeat(go_big_quiet_step (fail))
       refine θ ?_;gi_wp2_with((gi_at_mapUpdate;refine Y7w _ rfl _ _ _ 119 rfl 3 3 JKr underlying119 underlying3 J n4 f4 rfl (Is.o.gr (Gr.refl wr).drew) Nl.o (Q:Int) (.int .i64 N2) rfl rfl Os.o ?_;intro Js Un Uq;have No:=hid Un;have Nv:=hid Uq;clear Un Uq));refine⟨.inl trivial,?_⟩;refine X0q ?_
       try simp only[XZy]
       repeat(go_big_quiet_step (fail))
       refine θ ?_;refine β ?_;clear y1 y2 y3 y4 U O;clear HS Sx;have Yy:Hid (XF4 (λi=>i=J) wr Js):=⟨((Gr.refl wr).drew.touch _).trans Nv.o⟩;gi_wp2;go_roundw
       case rel=>exact⟨t+1,A+1,Yh.o,⟨by have:=Zh.o;omega⟩,⟨Mj.o Js No.o Yy.o⟩,⟨Ih.o.trans (Yy.o.mono (λi _ h=>.inl h))⟩,by go_num⟩
       case measure=>have:=Zh.o;have:=Yh.o;simp[intOf];omega
      ·obtain rfl:t=sz:=Ω
       have Le:¬(A:Int)<(sa:Int)+(t:Int):=by have:=Zh.o;omega
       clear Xx;gi_wp2;have Jn:=Mp.o;have l4:=Yq.o;refine⟨Ih.o.mono (λi _ h=>.inl (by rcases h with rfl|rfl <;> omega)),j+1,rfl,Ya,?_⟩;rw[Xz.o];exact HA.o
    case done=>
     rintro D j W7 hD rfl Ze hK;have Xw:=Ze.2;rw[ζT]at Xw;have Yj:=hid Xw;have HKK:=hid (HK.o W7 Xw.t);have hz7:=Xw.t.size;have Et:=hid Zl.o.2.2.2
     have Om:Hid (Cyc W7 (λb=>w1.heap.size<=b/\b<W5.heap.size) y q ⟨w2.heap.size,w3.heap.size,p,m,p1,b1,p2,b2,V,Yg,nb,J⟩ (V4X v c L)):=⟨by
      have hA:=Xw;rw[Et.o]at hA
      exact VLI HX.o Xt.o Vc.o ⟨Ey,Zx.o.1,Zx.o.2.1,Zx.o.2.2.1,Zx.o.2.2.2.1,Zx.o.2.2.2.2⟩ (Ji.o.trans (Xu.touch _)) ⟨gy,Ea,En,Ll⟩ Lc.o (Zu.o.gr Xu) (Y9I Ni.o Xu) (Yk.o.gr Xu) (Yo.o.gr Xu) Ve hA (λi h1 h2 h3 h=>by omega) hA.t⟩
     have Ee:Hid (V5d W7 r g rs):=⟨by
      have h1:=(HR.o.gr Xq.o).touch Yb.o (λh=>Xy.o.2.1 h.1) (λh=>Xy.o.2.2.1 h.1)
      exact(h1.gr Xt.o).gr (Xc.o W7 (Yu.o W7 Xw.t))⟩
     have Er:=hid (J4T Mq.o Vh.o HI.o (by rw[<-Jr.o];exact ξ3 Zb.o));have hgl:g<w1.heap.size:=Ω
     have Ev:=hid (X9b (λW tW=>Om.o.touch tW (λk hk e=>by have:=hk.1;omega)) Er.o Ee.o);have hmf:∀(fn:Fn) (first cap:Array Value) (w:World),(Instr.makeFunc fn first cap).run prog w=.ok (.func fn first cap) w:=λ_ _ _ _=>rfl;have Uj:=Vo.o W7 Xw.t;have Lb:=hid Uj;have Ju:=(Ye.o.gr (Xc.o W7 (Yu.o W7 Xw.t)));have Jy:=(E.o.gr (Xc.o W7 (Yu.o W7 Xw.t)));have Zc:=(Ys.o.gr Xu).touch Xw.t Ω;have It:=hid (ν Ju (ν Jy Zc));have Vv:=Zc.cc 0;have Vp:=Zc.lt;have Nu:=hid hK;have Ou:Hid (D=W5.heap.size):=⟨hD⟩;clear Xw Ze Uj Ju Jy Zc hK hD;gi_upto_region 22 with(refine⟨trivial,?_⟩;gi_at_call 123;refine(ζa.2 (Ev.o)).mono ?_;rintro e w8 ⟨rfl,Ia,Mm⟩;have Yn:=hid Ia;have Iz:=hid Mm;clear Ia Mm);clear Vv Vp;obtain⟨My,Mg,Nt⟩:=It.o;have Jx:=hid (My.touch Yn.o (λh=>by omega));have Ua:=hid (Mg.touch Yn.o (λh=>by omega));have Iv:=hid (Nt.touch Yn.o (λh=>by omega));have Md:=hid (Om.o.touch Yn.o (λk hk e=>by have:=hk.1;omega));have hz8:=Yn.o.size;obtain⟨S5,Vd⟩:∃S5,S5=ZOk (ZOk S w) w1:=⟨_,rfl⟩;have Yc:Hid (∀b,S5 b->S b/\b<w.heap.size):=⟨λb hb=>by rw[Vd]at hb;exact hb.1⟩;have Ms:QXZ w8 S5 q v:=by rw[Vd];exact Lb.o.touch Yn.o (λb hb _ h=>Xy.o.2.2.1 (h▸hb.1.1))
     have Oz:=hid Ms
     have Jo:Hid (w8.heap[D]?=some (.deferred (some []))/\D<w8.heap.size/\W5.heap.size<=D):=⟨by
      have h1:=(ζn.1 Nu.o).1;have h2:=Ou.o
      exact⟨(Yn.o.block D h1 Ω).trans Nu.o,by omega,by omega⟩⟩
     have Ot:=hid (λ(W:World) (g':Gr w8 W)=>VML (Oz.o.gr g'));obtain⟨pg,Xv⟩:∃pg,pg=v.pl.pg:=⟨_,rfl⟩;have Zd:=hid Xv;rw[<-Xv]at Ot Nx;obtain⟨q0,Jf⟩:∃q0,q0=c.fr/pg:=⟨_,rfl⟩;have Jw:q0*pg<=c.fr:=by rw[Jf];exact ζm c.fr pg
     have Vn:=hid Jf;have Io:=hid Jw;have g1:((c.fr:Int).tdiv (pg:Int))=(q0:Int):=by rw[Jf];rfl
     have g2:((c.fr:Int)/(pg:Int))=(q0:Int):=by rw[Jf];rfl
     have Nr:(pg:Int)≠0:=Ω
     have hq0n:q0<=524288:=by have:=ζ8 c.fr pg;omega
     have Ox:Hid (UmO w8 w8.drew S5 q (V4X v c L) v q0 0 pg c.tp):=⟨(Gr.refl w8).drew.touch _,⟨S5,v,λb h=>.inl h,Oz.o.gr (Gr.refl w8).drew,Vdg.zero Mq.o q0⟩,λi hi=>absurd hi (ζV _)⟩;have u1:=Jx.o.cc 0;have u2:=Ua.o.cc 0;clear My Mg Nt Ms Xv Jf Jw Vd;obtain⟨Sx,Z,HS⟩:=ZJV.start λW'=>W'.cell? ⟨w.heap.size,0,none⟩=some (.pointer (some ⟨q,0,none⟩))/\W'.cell? ⟨w.heap.size+1,0,none⟩=some (.int .i64 c.fr);have x1:=ZJV.fact Z λ_ h=>h.1;have x2:=ZJV.fact Z λ_ h=>h.2;have U:=HS.o (w8.drew) (⟨u1,u2⟩);have O:Inhabited (ZJV Sx):=⟨⟨_,U⟩⟩;clear Z;refine V0Y Sx 6 [([0,1,2],3)] [4,5] JBz (by kernel_rfl) (by kernel_rfl) U ?_;refine QgQ ?_
     try simp only[XZy,ζ,ξ]
     repeat(go_big_quiet_step (fail))
     refine θ ?_;gi_wp2_with((refine⟨trivial,?_⟩;gi_at_call 126;refine(ζa.2 (Ot.o _ (Gr.refl w8).drew)).mono ?_;rintro e w9 ⟨rfl,rfl⟩));refine⟨.inr (ZJV.of (HS.o _ (⟨u1,u2⟩))),?_⟩;refine X0q ?_
     try simp only[XZy,ζ,ξ]
     repeat(go_big_quiet_step (fail))
     refine θ ?_;refine β ?_;clear x1 x2 U O;clear HS Sx;clear u1 u2;gi_wp2
     gi_loopw [17] (λs17 wx=>∃j:Nat,Hid (UmO w8 wx S5 q (V4X v c L) v q0 j pg c.tp)/\s17=.int .i64 ((q0+j:Nat):Int)) (λs17 _=>c.tp-(intOf s17).toNat*pg)
     case atStart=>exact⟨0,Ox,rfl⟩
     case round=>
      clear Ox;obtain⟨j,HU,rfl⟩:=hrel;obtain⟨Sj,v',Na,Mb,Mc⟩:=HU.o.vm;have Vr:=λ(W:World) (g':Gr wr W)=>VML (Mb.gr g');rw[Mc.pg,<-Zd.o]at Vr;have Ui:=hid Vr;have Vk:=hid Mb;have Xz:=hid Na;have Vj:=hid Mc;have Jt:=hid (Jx.o.touch HU.o.t (λh=>by have:=(Yc.o _ h).2;omega));have Ny:=hid (Ua.o.touch HU.o.t (λh=>by have:=(Yc.o _ h).2;omega));have Yz:=hid (Iv.o.touch HU.o.t (λh=>by have:=(Yc.o _ h).2;omega));have Yx:=hid (Md.o.touch HU.o.t (λk hk h=>by have:=hk.1;have:=(Yc.o _ h).2;omega));obtain⟨qq,Zt⟩:∃qq,qq=q0+j:=⟨_,rfl⟩;obtain⟨pp,Zg⟩:∃pp,pp=qq*pg:=⟨_,rfl⟩
      have hppb:pp<=1048576:=by
       rcases ζE j with h0|h0
       ·rw[Zg,Zt,h0,ξj];have:=Io.o;omega
       ·have:=HU.o.q1 (j-1) Ω;have e:pp=(q0+(j-1))*pg+pg:=by rw[Zg,Zt,show q0+j=(q0+(j-1))+1 by omega,ξc,ξy]
        omega
      have hqb:qq<=pp:=by rw[Zg];exact ψa _ Ω
      have hmul:((qq:Int)*(pg:Int))=(pp:Int):=by rw[Zg];push_cast;rfl
      have Xs:=hid (ν Zt Zg);rw[<-Zt];have u1:=Jt.o.cc 0;have u2:=Ny.o.cc 1;clear Vr Mb Na Zt Zg Mc;by_cases Xx:pp<c.tp
      ·have e1:decide ((pp:Int)<(c.tp:Int))=true:=κ Ω;have e2:decide (pp<c.tp)=true:=κ Xx;have Yh:=hid Xx;have Jd:=Jfv (Yx.o.gr (Gr.refl wr).drew).wd (q:=qq) Ω;have On:(V4X v c L).on (λi=>!(V4X v c L).is i) qq=(V4X v c L).on (λ_=>true) qq:=Sl.on_congr λi _=>by rw[JZl];rfl
       rw[On]at Jd;obtain⟨N1,Yl⟩:∃N1,N1=(V4X v c L).on (λ_=>true) qq:=⟨_,rfl⟩;have Ol:=hid Yl;rw[<-Yl]at Jd;have Vs:=hid Jd;clear Xx Yl On Jd;gi_upto_region 23 with(fail);obtain⟨Sx,Z,HS⟩:=ZJV.start λW'=>W'.cell? ⟨w.heap.size,0,none⟩=some (.pointer (some ⟨q,0,none⟩))/\W'.cell? ⟨w.heap.size+1,1,none⟩=some (.int .i64 c.tp);have x1:=ZJV.fact Z λ_ h=>h.1;have x2:=ZJV.fact Z λ_ h=>h.2;have U:=HS.o (wr.drew) (⟨u1,u2⟩);have O:Inhabited (ZJV Sx):=⟨⟨_,U⟩⟩;clear Z;refine V0Y Sx 7 [([0,1,4,5],2)] [3,6] JBz (by kernel_rfl) (by kernel_rfl) U ?_;refine QgQ ?_
       try simp only[XZy,ζ,ξ]
       repeat(go_big_quiet_step (fail))
       refine θ ?_;gi_wp2_with((refine⟨trivial,?_⟩;gi_at_call 126;refine(ζa.2 (Ui.o _ (Gr.refl wr).drew)).mono ?_;rintro e Js ⟨rfl,rfl⟩));refine⟨.inr (ZJV.of (HS.o _ (⟨u1,u2⟩))),?_⟩;refine X0q ?_
       try simp only[XZy,ζ,ξ]
       repeat(go_big_quiet_step (fail))
       refine θ ?_;refine β ?_;clear x1 x2 U O;clear HS Sx;have z1:=(Yz.o.gr (Gr.refl wr).drew).cell (j:=0) rfl;have zl:=(Yz.o.gr (Gr.refl wr).drew).lt;have z2:=(Yx.o.gr (Gr.refl wr).drew).rc.cell (j:=14) rfl;have zl2:=(Yx.o.gr (Gr.refl wr).drew).rc.lt;have Jd:=Vs.o;have u3:=Jt.o.lt;have Eh:=(Gr.refl wr).drew.size;have Es:=HU.o.t.size;by_cases hz:N1=0
       ·have d0:((N1:Int)==0)=true:=by simp[hz]
        have HZ:=hid hz;clear hz;gi_wp2_with(refine⟨trivial,?_⟩;gi_at_call 127;refine(ζa.2 (JYA (Vk.o.gr (Gr.refl wr).drew) (qq:Int))).mono ?_;rintro e w11 ⟨rfl,Jz,Uc⟩;have Yy:=hid Jz;have Og:=hid Uc;clear Jz Uc);go_roundw
        case rel=>
         refine⟨j+1,⟨⟨?_,⟨plus Sj wr.drew,_,λb hb=>?_,Og.o,?_⟩,λi hi=>?_⟩⟩,?_⟩
         ·exact(HU.o.t.trans ((Gr.refl wr).drew.touch _)).trans' Yy.o (λb hb h=>(Xz.o b h).elim id (λh=>by omega))
         ·rcases hb with h|h
          ·exact Xz.o b h
          ·right;omega
         ·have:=Vj.o.drop (j:=j) (by rw[<-Xs.o.1,<-Ol.o];exact HZ.o);rw[<-Xs.o.1]at this;exact this
         ·rcases γ i j with h|h
          ·exact HU.o.q1 i h
          ·obtain rfl:i=j:=Ω
           rw[<-Xs.o.1,<-Xs.o.2];exact Yh.o
         ·rw[show q0+(j+1)=qq+1 by rw[Xs.o.1];omega]
          go_num
        case measure=>
         have h1:=Yh.o;have h2:=Xs.o.2;simp only[intOf];rw[show ((qq:Int)+1).toNat=qq+1 by omega,τ,ξc,ξy,<-h2];omega
       ·have d0:((N1:Int)==0)=false:=by simp;exact hz
        have HZ:=hid hz;clear hz;gi_wp2;go_roundw
        case rel=>
         refine⟨j+1,⟨⟨HU.o.t.trans ((Gr.refl wr).drew.touch _),⟨Sj,_,Xz.o,Vk.o.gr (Gr.refl wr).drew,?_⟩,λi hi=>?_⟩⟩,?_⟩
         ·exact Vj.o.keep (j:=j) (by rw[<-Xs.o.1,<-Ol.o];exact HZ.o)
         ·rcases γ i j with h|h
          ·exact HU.o.q1 i h
          ·obtain rfl:i=j:=Ω
           rw[<-Xs.o.1,<-Xs.o.2];exact Yh.o
         ·rw[show q0+(j+1)=qq+1 by rw[Xs.o.1];omega]
          go_num
        case measure=>
         have h1:=Yh.o;have h2:=Xs.o.2;simp only[intOf];rw[show ((qq:Int)+1).toNat=qq+1 by omega,τ,ξc,ξy,<-h2];omega
      ·have e1:decide ((pp:Int)<(c.tp:Int))=false:=ψ Ω;have e2:decide (pp<c.tp)=false:=ψ Xx;have Yh:=hid Xx;clear Xx;gi_upto_region 23 with(fail);obtain⟨Sx,Z,HS⟩:=ZJV.start λW'=>W'.cell? ⟨w.heap.size,0,none⟩=some (.pointer (some ⟨q,0,none⟩))/\W'.cell? ⟨w.heap.size+1,1,none⟩=some (.int .i64 c.tp);have x1:=ZJV.fact Z λ_ h=>h.1;have x2:=ZJV.fact Z λ_ h=>h.2;have U:=HS.o (wr.drew) (⟨u1,u2⟩);have O:Inhabited (ZJV Sx):=⟨⟨_,U⟩⟩;clear Z;refine V0Y Sx 7 [([0,1,4,5],2)] [3,6] JBz (by kernel_rfl) (by kernel_rfl) U ?_;refine QgQ ?_
       try simp only[XZy,ζ,ξ]
       repeat(go_big_quiet_step (fail))
       refine θ ?_;gi_wp2_with((refine⟨trivial,?_⟩;gi_at_call 126;refine(ζa.2 (Ui.o _ (Gr.refl wr).drew)).mono ?_;rintro e Js ⟨rfl,rfl⟩));refine⟨.inr (ZJV.of (HS.o _ (⟨u1,u2⟩))),?_⟩;refine X0q ?_
       try simp only[XZy,ζ,ξ]
       repeat(go_big_quiet_step (fail))
       refine θ ?_;refine β ?_;clear x1 x2 U O;clear HS Sx;clear u1 u2;have z1:=(Yz.o.gr (Gr.refl wr).drew).cell (j:=0) rfl;have zl:=(Yz.o.gr (Gr.refl wr).drew).lt;gi_wp2;have Es:=HU.o.t.size;have Eh:=(Gr.refl wr).drew.size;have Uh:¬S5 D:=λh=>by have:=(Yc.o _ h).2;have:=Jo.o.2.2;omega
       have Ed:wr.drew.heap[D]?=some (.deferred (some [])):=by
        have h2:=Jo.o.2.1;rw[(Gr.refl wr).drew.block Ω,HU.o.t.block D h2 Uh];exact Jo.o.1
       refine⟨by simp,.inl ⟨_,_,rfl,run_takeDeferred Ed,?_⟩⟩;have tt:=Vx3 wr.drew D (.deferred none);have hD0:=Ou.o;refine⟨.tuple #[.pointer (some ⟨y,0,none⟩),.int .i64 0],?_,?_,.inr ⟨L,HI.o,.inr ⟨by have h1:=Zb.o;have h2:=Jr.o;omega,y,_,_,Sj,v',j,rfl,(Yx.o.gr (Gr.refl wr).drew).touch tt (λk hk e=>by have:=hk.2;omega),(Vk.o.gr (Gr.refl wr).drew).touch tt (λb hb _ h=>?_),λb hb=>?_,λb hb=>⟨?_,λh=>?_⟩,?_,?_,?_,?_⟩⟩⟩
       ·simp[results,f107,go_sem]
       ·have a1:XF4 (λb=>b=g\/S b) w w1:=Xq.o.touch _;have a2:=a1.trans (Yb.o.mono (λi _ h=>.inr h.1));have a3:=a2.trans ((Xt.o.trans (Xc.o W7 (Yu.o W7 Yj.o.t))).touch _);have a4:=a3.trans (Yn.o.mono (λi _ h=>.inl h));have a5:=a4.trans (HU.o.t.mono (λi _ h=>.inr (Yc.o i h).1));exact(a5.trans ((Gr.refl wr).drew.touch _)).trans' tt (λb hb h=>by omega)
       ·rcases Xz.o b hb with h'|h'
        ·exact Uh (h▸h')
        ·have:=Jo.o.2.1;omega
       ·rcases Xz.o b hb with h'|h'
        ·exact .inl (Yc.o b h').1
        ·right;omega
       ·have:=hb.1;omega
       ·rcases Xz.o b h with h'|h'
        ·have:=(Yc.o b h').2;have:=hb.1;omega
        ·have:=hb.2;omega
       ·rw[<-Zd.o,<-Vn.o];exact Vj.o
       ·rw[<-Zd.o,<-Vn.o,<-Xs.o.1,<-Xs.o.2];have:=Yh.o;omega
       ·intro i hi;rw[<-Zd.o,<-Vn.o];exact HU.o.q1 i hi
       ·exact((Iz.o.touch HU.o.t (λh=>Xy.o.2.1 (Yc.o r h).1) (λh=>Xy.o.2.2.1 (Yc.o g h).1)).gr (Gr.refl wr).drew).touch tt (λh=>by omega) (λh=>by omega)
 ·clear z3 Jg Jp Zm Jj Zk Jl Jm Jh Zi;have Oj:=hid Ow;clear Ow;gi_wp2;refine⟨.tuple #[.pointer none,.int .i64 25],?_,?_,.inl ⟨Oj.o,rfl,Uz.o.mono (λb hb=>hb.1.1),(HR.o.gr Xq.o).touch Yb.o (λh=>Xy.o.2.1 h.1) (λh=>Xy.o.2.2.1 h.1)⟩⟩
  ·simp[results,f107,go_sem]
  ·have a1:XF4 (λb=>b=g\/S b) w w1:=Xq.o.touch _;exact a1.trans (Yb.o.mono (λi _ h=>.inr h.1))
end
end
section
open Go.RowKit Go.Shelf Word
theorem VsG{n B m:Nat}(hB:1<=B)(h:n<=m)(hm:m%B=0):upN n B<=m:=by
 have e:m=m/B*B:=by have:=ζx m B;rw[ζJ]at this;omega
 have h1:(n+B-1)/B<m/B+1:=by
  rw[ζ4 Ω,ξc,ξy,<-e];omega
 have h2:=ζl B (Nat.le_of_lt_succ h1)
 show (n+B-1)/B*B<=m
 omega
theorem Vdb{n fr tp:Nat}{L:List Ob}(hg:Q4l n L)(h:∀o∈L,fr<=o.1/\o.1+o.2<=tp)(h2:fr<=tp):fr+sizes L<=tp:=by
 rcases ζE L.length with h0|h0
 ·have:L=[]:=ζv h0;subst this;simp only[sizes];omega
 ·have hj:L.length-1<L.length:=Ω
  have h1:=YnY hg (λo ho=>(h o ho).1) hj;have h3:=h _ (χ hj);have h4:=Qsm (L:=L) (j:=L.length-1) hj;rw[show L.length-1+1=L.length by omega,ζT]at h4;omega
theorem HCf.Ok.pg1{c:HCf}(h:c.Ok):1<=c.pg:=by
 have h1:=h.pg;unfold Jnk at h1;rw[ζd]at h1;have:=Quq h1.1;omega
section
variable {w w':World} {c:HCf} {g g':Gph} {s:HSt}
theorem HIn.cf(h:HIn w c g s)(hk:c.kd≠3){v:Vm}(hv:HVm c v):VeB v.pl.pg v.n (YLQ c s.base s.top (c.ot s.base)):=by
 have k:=h.cok;have Y:=h.ot;have U:=h.bt;have hn:v.n=c.pg+c.wd+c.wd:=by rw[hv.n];exact ϑ hk
 have J:=hv.pg;have Z:=k.pg1;have d0:c.pg%c.pg=0:=Nat.mod_self _;have d1:(c.pg+c.wd)%c.pg=0:=by rw[Nat.add_mod,d0,k.dv];simp
 have d2:(c.pg+c.wd+c.wd)%c.pg=0:=by rw[Nat.add_mod,d1,k.dv];simp
 rw[J,hn];unfold YLQ;refine⟨k.bk,k.st,k.ah,?_,U.1,?_,?_,ζS _ _,?_,?_,?_,?_,?_⟩ <;> dsimp only
 ·rcases Y with⟨-,e⟩|⟨-,e⟩ <;> omega
 ·rcases Y with⟨-,e⟩|⟨-,e⟩ <;> omega
 ·rcases Y with⟨e,-⟩|⟨e,-⟩ <;> omega
 ·rcases Y with⟨e,-⟩|⟨e,-⟩ <;> omega
 ·rcases Y with⟨-,e⟩|⟨-,e⟩ <;> rw[e] <;> assumption
 ·rcases Y with⟨e,-⟩|⟨e,-⟩ <;> rw[e] <;> assumption
 ·rcases Y with⟨e,-⟩|⟨e,-⟩ <;> rw[e] <;> assumption
 ·rcases Y with⟨e,e2⟩|⟨e,e2⟩
  ·rw[e,e2];have:=VsG (n:=s.top) (m:=c.pg+c.wd) Z Ω d1;omega
  ·rw[e,e2];omega
theorem HIn.rch(h:HIn w c g s){n:Nat}(hn:s.top<=n):∃L,Zx6 s.u (s.rs g) n L/\(∀o∈L,s.base<=o.1/\o.1+o.2<=s.top)/\XKC s.u L/\s.base+sizes L<=s.top/\sizes L=g.words/\L.length=g.all.length:=by
 obtain⟨L,hM⟩:=h.img.marks h.gok hn;have Y:=h.img.inn h.gok hM;exact⟨L,hM,Y,h.img.full h.gok hM,Vdb hM.mkd.good Y h.bt.1,h.img.words h.gok hM,h.img.count h.gok hM⟩
theorem HIn.opnd(h:HIn w c g s)(hk:c.kd=1){v v':Vm}(hv:HVm c v)(hok:ZAR v)(hsh:ShA s.base s.top v)(hu:v=s.u){L:List Ob}(hI:Jx2 v (s.rs g) s.base s.top L){j:Nat}
  (hU:Vdg (V4X v (YLQ c s.base s.top (c.ot s.base)) L) v v' (s.base/v.pl.pg) j) (hj:s.top<=(s.base/v.pl.pg+j)*v.pl.pg):
  sizes L=g.words/\ZEw (V4X v (YLQ c s.base s.top (c.ot s.base)) L) v'/\c.ot s.base+sizes L<=c.ot s.base+c.wd/\∃u,HpA (c.ot s.base+sizes L) u (V4X v (YLQ c s.base s.top (c.ot s.base)) L) v' ∧
   Img u g (λx=>(toV L (c.ot s.base) (s.F x)).toNat) (c.ot s.base) (c.ot s.base+sizes L)/\(s.rs g).map (toV L (c.ot s.base))=g.S.map (λx=>(((toV L (c.ot s.base) (s.F x)).toNat:Nat):Int)):=by
 have U:=h.cf Ω hv;have hM:Zx6 v (s.rs g) v.n L:=hI.1;have I:∀o∈L,s.base<=o.1/\o.1+o.2<=s.top:=λo ho=>by have:=hI.2 o ho;omega
 have Y:Img v g s.F s.base s.top:=by rw[hu];exact h.img
 have J:=Y.full h.gok hM;have hle:=Vdb hM.mkd.good I h.bt.1;have D:=h.bt
 have N:sizes L<=(YLQ c s.base s.top (c.ot s.base)).lm-(YLQ c s.base s.top (c.ot s.base)).to:=by
  show sizes L<=c.ot s.base+c.wd-c.ot s.base
  omega
 have Z:=hv.pg;have E:=hsh.used (W:=c.wd) (by rw[Z];exact h.cok.dv) D.2
 have O:v.pl.used+(c.ah+2)*(max 1 (c.bk/v.pl.pg)+3)<=v.pl.rm:=by
  have e:v.pl.rm=c.wd/c.pg+(c.ah+2)*(max 1 (c.bk/c.pg)+3):=by
   rw[hv.rm];unfold HCf.fr;rw[μ hk];rfl
  rw[e,Z];rw[Z]at E;omega
 obtain⟨hO,u,hA⟩:=Jap hok U hI N J hU hj (λp hp hne=>(hsh.map hp).1 hne) O
 ·have V:=XUb (v:=v) (gv:=u) (c:=YLQ c s.base s.top (c.ot s.base)) hM hok.n2 (λi hi=>⟨hA.un _ (by have h1:c.ot s.base+c.wd<=v.n:=U.ln;show c.ot s.base+i<v.n;omega),hA.c i hi⟩);have M:1<=c.ot s.base:=by have:=h.cok.pg1;rcases h.ot with⟨e,-⟩|⟨e,-⟩ <;> omega
  refine⟨Y.words h.gok hM,hO,by omega,u,hA,Y.moved h.gok V M ?_,Y.roots V⟩;have:=h.cok.wd;have:=h.cok.pw;rcases h.ot with⟨e,-⟩|⟨e,-⟩ <;> omega
def QZz(w:World)(c:HCf)(g:Gph)(s:HSt)(w':World):Prop:=∃s',Xfw w c s g s' w'/\s'.cyc=(if s'.lf=0 then wrap64 (s.cyc+1)else s.cyc)/\s'.top=s'.base+g.words/\s'.lf=nbl g.words c.bk
theorem HIn.opn{w1 w2:World}(h:HIn w c g s)(hn:s.o=none)(hk:c.kd=1)(hg1:Gr w w1){e:Ending}(hO:QOD w1 (ZOk s.X w) s.A.q s.A.r s.A.g s.u (s.rs g) (YLQ c s.base s.top (c.ot s.base)) e w2):
  ∃y,e=.returned (.tuple #[.pointer (some ⟨y,0,none⟩),.int .i64 0])/\Rec w2 s.A.hp 92 (hpL c s.A none s.cyc s.blk) ∧
   (∀w3,w3=w2.setCell ⟨s.A.hp,11,none⟩ (.pointer (some ⟨y,0,none⟩)) →
    (∀W,Gr w3 W->Calls prog 108 #[.pointer (some ⟨y,0,none⟩)] W λe W'=>e=.returned (.int .i64 ((c.ot s.base+g.words:Nat):Int))/\Gr W W') ∧
    (∀W,Gr w3 W->Calls prog 86 #[.pointer (some ⟨s.A.hp,0,none⟩),.int .i64 (c.ot s.base:Nat),.int .i64 ((c.ot s.base+g.words:Nat):Int)] W λe W'=>e=.returned (.tuple #[]) ∧
     Calls prog 71 #[.pointer (some ⟨s.A.hp,0,none⟩)] W' λe w'=>e=.returned (.tuple #[])/\QZz w c g s w')):=by
 have hm:=h.mem;rw[hn]at hm;obtain⟨hV,hv,Xd,hlf⟩:=hm;obtain⟨hT,hO⟩:=hO;have Xg:=h.rch (n:=s.u.n) (by have:=Xd.bt;omega);obtain⟨L0,Xi,G,-,hle0,hw0,-⟩:=Xg;have Xo:=h.bt;obtain⟨l1,l2,l3,l4,l5⟩:=h.com.lt;have Xa:=hg1.size;have hS:∀k,k<w1.heap.size->(k=s.A.g\/ZOk s.X w k)->k=s.A.g\/s.X k:=λk _ hk=>hk.imp id (λh=>h.1);have Z:XF4 (λk=>k=s.A.g\/s.X k) w w2:=(hg1.touch _).trans (hT.mono hS);have hx:=h.com.x
 have V:Rec w2 s.A.hp 92 (hpL c s.A none s.cyc s.blk):=by
  have:=h.com.row;rw[hn]at this;exact this.touch Z (λhk=>hk.elim h.com.n1.2.1 hx.1)
 rcases hO with⟨Xk,-⟩|⟨L,hI,⟨E,-⟩|⟨hfit,y,z,R,S',v',j,rfl,Xb,Xh,Xl,hR,hU,hj,-,Xn⟩⟩
 ·exact absurd (⟨Xi,λo ho=>by have:=G o ho;show (s.base:Int)<=_/\_<=(s.top:Int);omega⟩:Jx2 s.u (s.rs g) s.base s.top L0) (Xk L0)
 ·exfalso;have h1:=Vdb hI.1.mkd.good (fr:=s.base) (tp:=s.top) (λo ho=>by have h2:(s.base:Int)<=(o.1:Int)/\(o.1:Int)+o.2<=(s.top:Int):=hI.2 o ho;omega) Xo.1;have h2:c.ot s.base+c.wd-c.ot s.base<sizes L:=E;omega
 ·obtain⟨hw,hO,hle,u,hA,B,U⟩:=h.opnd hk hv hV.ok Xd rfl hI hU hj;refine⟨y,rfl,V,λw3 e3=>?_⟩;have hz2:=Z.size;have Xm:=Xb.od.lt;have t3:XF4 (λk=>k=s.A.hp) w2 w3:=by rw[e3];exact(XF4.refl (λk=>k=s.A.hp) w2).setCell (a:=⟨s.A.hp,11,none⟩) (λ_=>rfl) _
  have hz3:=t3.size;have Xe:∀k,R k->w1.heap.size<=k:=λk hk=>(hR k hk).1;have Xf:∀k,S' k->(s.X k/\k<w.heap.size)\/w1.heap.size<=k:=λk hk=>Xl k hk
  have Y:∀k,k<w.heap.size->¬s.X k->¬(R k\/ZOk S' w2 k):=λk hk hn h2=>by
   rcases h2 with h2|h2
   ·have:=Xe k h2;omega
   ·rcases Xf k h2.1 with h3|h3
    ·exact hn h3.1
    ·omega
  have O:Rec w3 s.A.hp 92 (hpL c s.A (some y) s.cyc s.blk):=by
   rw[e3];exact V.set 11 (.pointer (some ⟨y,0,none⟩))
  have n1:=h.com.n1;have n2:=h.com.n2;have n3:=h.com.n3
  have I:XL4 w3 (λk=>R k\/ZOk S' w2 k) s.A c s.base s.top ((s.rs g).map (toV L (c.ot s.base))) (some y) s.cyc s.blk:=
   ⟨O,(h.com.rn.touch Z (λhk=>hk.elim (λe=>n3.1 e.symm) hx.2.2.2.1)).touch t3 (λe=>n1.2.2.1 e.symm),Xn.touch t3 (λe=>n1.1 e.symm) (λe=>n1.2.1 e.symm),
    t3.tab (Z.tab l5 (λhk=>hk.elim (λe=>n3.2.1 e.symm) hx.2.2.2.2) h.com.tab).lt (λe=>n1.2.2.2 e.symm) (Z.tab l5 (λhk=>hk.elim (λe=>n3.2.1 e.symm) hx.2.2.2.2) h.com.tab),n1,n2,n3,Y _ l1 hx.1,Y _ l2 hx.2.1,Y _ l3 hx.2.2.1,Y _ l4 hx.2.2.2.1,Y _ l5 hx.2.2.2.2⟩
  have N:QXZ w3 (ZOk S' w2) s.A.q v':=Xh.cut.touch t3 (λk hk _ e=>Y _ l1 hx.1 (.inr (e▸hk)));have M:Cyc w3 R y s.A.q z (V4X s.u (YLQ c s.base s.top (c.ot s.base)) L):=Xb.touch t3 (λk hk e=>Y _ l1 hx.1 (.inl (e▸hk)));have Xj:HVm c v':=⟨hU.n.trans hv.n,hU.pg.trans hv.pg,hU.rm.trans hv.rm⟩;have D:c.ot s.base+c.wd<=v'.n:=by rw[hU.n];exact(h.cf Ω hv).ln
  have hwd:=h.cok.wd;refine⟨λW gW=>?_,λW gW=>?_⟩
  ·have k:V4y prog 108 #[.pointer (some ⟨y,0,none⟩)] W (.int .i64 (((c.ot s.base:Nat):Int)+(sizes L:Nat))):=YCd (M.gr gW);rw[hw,show ((c.ot s.base:Nat):Int)+(g.words:Nat)=((c.ot s.base+g.words:Nat):Int)by omega]at k;exact k
  ·refine(XQQ (b:=c.ot s.base) (t:=c.ot s.base+g.words) (I.gr gW) (N.gr gW) (ζS _ _) Ω D Ω (λk hk=>?_)).mono ?_
   ·have:=gW.size;rcases hk with hk|hk
    ·have:=Xm k hk;omega
    ·have:=hk.2;omega
   ·rintro e W' ⟨rfl,rn,hrn,t4,J⟩;refine⟨rfl,?_⟩;have hgs:=gW.size;have t5:XF4 (λk=>k=s.A.hp) w2 W':=(t3.trans (gW.touch _)).trans t4;have Xc:∀k,R k\/ZOk S' w2 k->k≠s.A.hp:=λk hk e=>Y _ l1 hx.1 (e▸hk);have t6:XF4 (λk=>k=s.A.hp) w3 W':=(gW.touch _).trans t4
    have hI:HIn W' c g {A:={s.A with rn:=rn},X:=λk=>R k\/ZOk S' w2 k,base:=c.ot s.base,top:=c.ot s.base+g.words,u:=u,F:=λx=>(toV L (c.ot s.base) (s.F x)).toNat,o:=some y,lf:=(V4X s.u (YLQ c s.base s.top (c.ot s.base)) L).lf,nb:=(V4X s.u (YLQ c s.base s.top (c.ot s.base)) L).mv.length,cyc:=s.cyc,blk:=s.blk}:=by
     refine⟨?_,⟨z,V4X s.u (YLQ c s.base s.top (c.ot s.base)) L,v',R,ZOk S' w2,⟨M.touch t6 (λk hk=>Xc k (.inl hk)),N.touch t6 (λk hk _=>Xc k (.inr hk)),Xj,hO,?_,λ_ h=>h,λk hk hk2=>(hR k hk).2 hk2.1,J.tab,λhk=>Y _ l5 hx.2.2.2.2 (.inl hk),λhk=>Y _ l5 hx.2.2.2.2 (.inr hk),rfl,rfl,rfl,rfl,hk⟩,rfl,rfl⟩,?_,h.gok,h.cok,?_,?_,h.sl⟩
     ·rw[U]at J;exact J
     ·rw[<-hw];exact hA
     ·rw[<-hw];exact B
     ·show c.ot s.base<=c.ot s.base+g.words/\c.ot s.base+g.words<=c.ot s.base+c.wd
      omega
     ·show c.ot s.base=c.pg\/(c.ot s.base=c.pg+c.wd/\c.kd≠3)
      rcases h.ot with⟨e,-⟩|⟨e,-⟩
      ·exact .inr ⟨e,by omega⟩
      ·exact .inl e
    refine(VFm hI).mono ?_;rintro e w' ⟨rfl,s',h1⟩;refine⟨rfl,s',⟨?_,h1.i,by rw[h1.A],λk hk=>?_,h1.o⟩,?_,?_,by rw[h1.lf,<-hw];exact JnF _ _ _⟩
    ·exact((Z.mono (λk _ hk=>hk.elim (λe=>.inr (.inr (.inl e))) .inl)).trans' t5 (λk _ e=>.inr (.inl e))).trans' h1.t (λk _ e=>.inr (.inl e))
    ·have hq:∀k,R k\/ZOk S' w2 k->plus s.S w k:=λk hk=>by
      rcases hk with hk|hk
      ·exact .inr (ζb Xa (Xe k hk))
      ·rcases Xf k hk.1 with h3|h3
       ·exact .inl (.inl h3.1)
       ·exact .inr (ζb Xa h3)
     rcases hk with hk|hk|hk|hk|hk
     ·exact hq k (h1.X k hk)
     ·rw[h1.A]at hk;exact .inl (.inr (.inl hk))
     ·rw[h1.A]at hk;exact .inl (.inr (.inr (.inl hk)))
     ·rw[h1.A]at hk;exact .inl (.inr (.inr (.inr (.inl hk))))
     ·rw[h1.A]at hk;refine .inr ?_;have:k=rn:=hk;have:=Z.size;omega
    ·rw[h1.cyc,h1.lf];by_cases h0:(V4X s.u (YLQ c s.base s.top (c.ot s.base)) L).lf=0
     ·exact(μ ⟨by simp,h0⟩).trans (μ h0).symm
     ·exact(ϑ (λhh=>h0 hh.2)).trans (ϑ h0).symm
    ·rw[h1.K.top,h1.K.base]
theorem JG2(h:HIn w c g s)(hn:s.o=none)(hk:c.kd=1):Calls prog 62 #[.pointer (some ⟨s.A.hp,0,none⟩)] w λe w'=>e=.returned (.tuple #[])/\QZz w c g s w':=by
 have N:=hid (VZS h);have hm:=h.mem;rw[hn]at hm;obtain⟨hV,hv,Xt,Xh⟩:=hm;obtain⟨l1,l2,l3,l4,l5⟩:=h.com.lt;have hx:=h.com.x;have E:=hid (λ(W:World) (gg:Gr w W)=>VBz (hV.cut.gr gg) (h.com.rt.gr gg) (gg.tab l5 h.com.tab) (λhk=>hx.2.2.2.2 hk.1) (λhk=>hx.2.1 hk.1) (λhk=>hx.2.2.1 hk.1) (h.cf Ω hv) (λe=>h.com.n3.2.1 e.symm));have L:=hid (λ(W1 W2:World) (gg:Gr w W1) (e:Ending) (hO:QOD W1 (ZOk s.X w) s.A.q s.A.r s.A.g s.u (s.rs g) (YLQ c s.base s.top (c.ot s.base)) e W2)=>h.opn hn hk gg hO);have HC:=hid (λ(W:World) (gg:Gr w W)=>(h.com.gr gg).row);have c0:=h.com.row.lt;simp only[hn]at HC;obtain⟨ap,hp⟩:∃ap,ap=s.A.hp:=⟨_,rfl⟩;rw[<-hp]at N L HC c0⊢;obtain⟨d,hd⟩:∃d,d=c.ot s.base:=⟨_,rfl⟩;rw[<-hd]at N L E;have G:Hid (Calls prog 84 #[.pointer (some ⟨ap,0,none⟩)] w λe w'=>e=.returned (.agg #[.int .i64 s.base,.int .i64 s.top,.int .i64 d,.int .i64 ((d+c.wd:Nat):Int),.int .i64 c.bk,.int .i64 c.st,.int .i64 c.ah])/\Gr w w'):=N;have Xg:Hid (∀W,Gr w W->Calls prog 107 #[.pointer (some ⟨s.A.q,0,none⟩),.pointer (some ⟨s.A.r,0,none⟩),.agg #[.int .i64 s.base,.int .i64 s.top,.int .i64 d,.int .i64 ((d+c.wd:Nat):Int),.int .i64 c.bk,.int .i64 c.st,.int .i64 c.ah]] W (QOD W (ZOk s.X w) s.A.q s.A.r s.A.g s.u (s.rs g) (YLQ c s.base s.top d))):=E;clear N E;have Xo:=hid (ν hp l3);clear h hn hk hV hv Xt Xh l1 l2 l3 l4 l5 hx hp hd;go_enter func62,ntmps62;go_upto_region 1 with(go_at_call 84;refine(G.o).mono ?_;rintro e w1 ⟨rfl,Xd⟩;have V:=hid Xd;clear Xd);have B:=(Gr.refl w1).alloc (.cells #[.int .i64 s.base,.int .i64 s.top,.int .i64 d,.int .i64 ((d+c.wd:Nat):Int),.int .i64 c.bk,.int .i64 c.st,.int .i64 c.ah] 156);have Xf:=hid (Rec.new w1 156 [.int .i64 s.base,.int .i64 s.top,.int .i64 d,.int .i64 ((d+c.wd:Nat):Int),.int .i64 c.bk,.int .i64 c.st,.int .i64 c.ah]);have HGA:=hid B.drew;have I:=hid (V.o.trans B).drew;obtain⟨Sx,Y,HS⟩:=ZJV.start λW'=>(Rec W' ap 92 (hpL c s.A none s.cyc s.blk)/\Rec W' w1.heap.size 156 [.int .i64 s.base,.int .i64 s.top,.int .i64 d,.int .i64 ((d+c.wd:Nat):Int),.int .i64 c.bk,.int .i64 c.st,.int .i64 c.ah])
 have y8:∀p:ZJV Sx,p.w.cell? ⟨ap,8,none⟩=some (.pointer (some ⟨s.A.q,0,none⟩)):=λp=>by have h:=ZJV.get Y p;exact h.1.cell (j:=8) rfl
 have y9:∀p:ZJV Sx,p.w.cell? ⟨ap,9,none⟩=some (.pointer (some ⟨s.A.r,0,none⟩)):=λp=>by have h:=ZJV.get Y p;exact h.1.cell (j:=9) rfl
 have Xu:∀p:ZJV Sx,p.w.cell? ⟨w1.heap.size,0,none⟩=some (.int .i64 s.base):=λp=>by have h:=ZJV.get Y p;exact h.2.cell (j:=0) rfl
 have Xp:∀p:ZJV Sx,p.w.cell? ⟨w1.heap.size,1,none⟩=some (.int .i64 s.top):=λp=>by have h:=ZJV.get Y p;exact h.2.cell (j:=1) rfl
 have Xs:∀p:ZJV Sx,p.w.cell? ⟨w1.heap.size,2,none⟩=some (.int .i64 d):=λp=>by have h:=ZJV.get Y p;exact h.2.cell (j:=2) rfl
 have Xj:∀p:ZJV Sx,p.w.cell? ⟨w1.heap.size,3,none⟩=some (.int .i64 ((d+c.wd:Nat):Int)):=λp=>by have h:=ZJV.get Y p;exact h.2.cell (j:=3) rfl
 have Xn:∀p:ZJV Sx,p.w.cell? ⟨w1.heap.size,4,none⟩=some (.int .i64 c.bk):=λp=>by have h:=ZJV.get Y p;exact h.2.cell (j:=4) rfl
 have Xm:∀p:ZJV Sx,p.w.cell? ⟨w1.heap.size,5,none⟩=some (.int .i64 c.st):=λp=>by have h:=ZJV.get Y p;exact h.2.cell (j:=5) rfl
 have Xr:∀p:ZJV Sx,p.w.cell? ⟨w1.heap.size,6,none⟩=some (.int .i64 c.ah):=λp=>by have h:=ZJV.get Y p;exact h.2.cell (j:=6) rfl
 have Z:=HS.o _ (⟨HC.o _ I.o,Xf.o.gr (Gr.refl _).drew⟩);have J:Inhabited (ZJV Sx):=⟨⟨_,Z⟩⟩;clear Y;refine Vv2 Sx 15 [([0,1,2,3,4,5,6,7,8],9)] [10,11,12,13,14] (by kernel_rfl) (by kernel_rfl) Z ?_;refine XGW ?_
 try simp only[XZy,ζ,ξ]
 repeat(go_big_quiet_step (fail))
 refine θ ?_;go_wp2_with((go_at_call 107;refine(Xg.o _ I.o).mono ?_;rintro e w2 hO;obtain⟨y,rfl,O,U⟩:=L.o _ _ I.o _ hO;have M:=hid O;have Xq:=hid U;have Xa:=hid ((Xf.o.gr (Gr.refl _).drew).touch hO.1 (λhk=>hk.elim (λe=>by have:=Xo.o.2;have:=V.o.size;omega) (λhk=>by have:=hk.2;have:=V.o.size;omega)));clear O U hO));refine⟨.inr (ZJV.of (HS.o _ (⟨M.o,Xa.o⟩))),?_⟩;refine Z9U ?_
 try simp only[XZy,ζ,ξ]
 repeat(go_big_quiet_step (fail))
 refine θ ?_;refine β ?_;clear y8 y9 Xu Xp Xs Xj Xn Xm Xr Z J;clear HS Sx;have Xl:=M.o.cc 11;have zf:=M.o.free 11;have Xk:=M.o.lt;go_upto_region 4 with(fail);clear Xl zf;generalize hw3:w2.setCell ⟨ap,11,none⟩ (.pointer (some ⟨y,0,none⟩))=w3;obtain⟨hT,hL⟩:=Xq.o w3 hw3.symm;have HT:=hid hT;have HL:=hid hL
 have Xb:w3.cell? ⟨w1.heap.size,2,none⟩=some (.int .i64 d):=by
  rw[<-hw3];exact(Xa.o.touch ((XF4.refl (λk=>k=ap) w2).setCell (a:=⟨ap,11,none⟩) (λ_=>rfl) _) (λe=>by have:=V.o.size;omega)).cell (j:=2) rfl
 have D:=hid Xb;clear hT hL Xb hw3 Xk;obtain⟨Sx,Y,HS⟩:=ZJV.start λW'=>W'.cell? ⟨w1.heap.size,2,none⟩=some (.int .i64 d);have y2:=ZJV.fact Y λ_ h=>h;have Z:=HS.o (w3.drew) (D.o);have J:Inhabited (ZJV Sx):=⟨⟨_,Z⟩⟩;clear Y;refine Vv2 Sx 5 [([0,1,2,3],4),([],5)] [] (by kernel_rfl) (by kernel_rfl) Z ?_;refine XGW ?_
 try simp only[XZy,ζ,ξ]
 repeat(go_big_quiet_step (fail))
 refine θ ?_;go_wp2_with((go_at_call 108;refine(HT.o _ (Gr.refl w3).drew).mono ?_;rintro e w4 ⟨rfl,Xe⟩;have Xc:=hid ((Gr.refl w3).drew.trans Xe);clear Xe));refine⟨.inr (ZJV.of (HS.o _ ((Xc.o.cell (ZQf D.o) 2).trans D.o))),?_⟩;refine XGW ?_
 try simp only[XZy,ζ,ξ]
 repeat(go_big_quiet_step (fail))
 refine θ ?_;go_wp2_with((go_at_call 86;refine(HL.o _ Xc.o).mono ?_;rintro e w5 ⟨rfl,he⟩;have HE:=hid he;clear he));refine⟨.inl trivial,?_⟩;refine Z9U ?_
 try simp only[XZy]
 repeat(go_big_quiet_step (fail))
 refine θ ?_;refine β ?_;clear y2 Z J;clear HS Sx;go_wp2_with(go_at_call 71;refine(HE.o).mono ?_;rintro e w6 ⟨rfl,ho⟩;have Xi:=hid ho;clear ho);exact ζF (ζr rfl _ _ _) rfl ⟨rfl,Xi.o⟩
end
end
section
open Go.RowKit Go.Shelf Word
theorem ShA.needP{base top:Nat}{v:Vm}(h:ShA base top v){N:Nat}(hN:base+N<=top)(hu:v.pl.used<=v.pl.rm):Jsl v base ((base+N:Nat):Int)=0:=by
 have hpg:=h.ok.page.1;have hbt:=h.bt;rcases ζE N with rfl|hN0
 ·unfold Jsl;rw[ϑ Ω,μ Ω]
 obtain⟨p0,Y⟩:∃p0,p0=base/v.pl.pg:=⟨_,rfl⟩;obtain⟨p1,Z⟩:∃p1,p1=(base+N-1)/v.pl.pg:=⟨_,rfl⟩;have hp01:p0<=p1:=by rw[Y,Z];exact ζc Ω
 have hp1l:p1<v.pt.length:=by rw[Z];exact(h.ok.split (a:=base+N-1) Ω).1
 have eA:((base:Int)/(v.pl.pg:Int)).toNat=p0:=by
  rw[show (base:Int)/(v.pl.pg:Int)=((base/v.pl.pg:Nat):Int)from rfl,τ,Y]
 have eB:XZs v base ((base+N:Nat):Int)=p1+1-p0:=by
  unfold XZs;rw[show ((base+N:Nat):Int)-1=((base+N-1:Nat):Int)by omega,show ((base+N-1:Nat):Int)/(v.pl.pg:Int)=(((base+N-1)/v.pl.pg:Nat):Int)from rfl,show (base:Int)/(v.pl.pg:Int)=((base/v.pl.pg:Nat):Int)from rfl,<-Y,<-Z];omega
 have e0:Jfy v p0 (p1+1-p0)=[]:=by
  refine List.eq_nil_iff_forall_not_mem.2 λp hp=>?_;obtain⟨⟨h1,h2⟩,h3⟩:=YYE.1 hp;refine(h.map (p:=p) Ω).2 ⟨by rw[<-Y];exact h1,?_⟩ h3;have h4:=ζl v.pl.pg (show p<=p1 by omega);have h5:=ζm (base+N-1) v.pl.pg;rw[<-Z]at h5;omega
 unfold Jsl;rw[ϑ Ω,ϑ Ω,eA,eB,e0,μ (by simpa using hu)]
section
variable {w w':World} {c:HCf} {g g':Gph} {s:HSt}
def ZOs(w:World)(c:HCf)(g:Gph)(s:HSt)(w':World):Prop:=∃s',Xfw w c s g s' w'/\s'.lf=0/\s'.top=s'.base+g.words
structure Vej(w:World)(c:HCf)(g:Gph)(s:HSt)(A:HAd)(b t:Nat)(v:Vm)(F:Nat->Nat)(S2:Nat->Prop)(w3:World):Prop where
 tc:XF4 s.S w w3
 com:XL4 w3 S2 A c b t (g.S.map λx=>(F x:Int)) none s.cyc s.blk
 vm:QXZ w3 S2 A.q v
 hv:HVm c v
 sh:ShA b t v
 img:Img v g F b t
 sub:∀k,S2 k->s.X k\/w.heap.size<=k
 eA:A.hp=s.A.hp/\A.q=s.A.q/\A.g=s.A.g/\A.r=s.A.r
 rn:A.rn=s.A.rn\/w.heap.size<=A.rn
 bt:b<=t/\t<=b+c.wd
 bs:b=c.pg\/(b=c.pg+c.wd/\c.kd≠3)
theorem Vej.fin{A:HAd}{b t:Nat}{v:Vm}{F:Nat->Nat}{S2:Nat->Prop}{w3:World}(h:Vej w c g s A b t v F S2 w3)(h0:HIn w c g s)(ht:t=b+g.words):ZOs w c g s (w3.setCell ⟨s.A.hp,12,none⟩ (.int .i64 (wrap64 (s.cyc+1)))):=by
 obtain⟨a1,a2,a3,a4⟩:=h.eA;have tp:XF4 (λk=>k=s.A.hp) w3 (w3.setCell ⟨s.A.hp,12,none⟩ (.int .i64 (wrap64 (s.cyc+1)))):=(XF4.refl (λk=>k=s.A.hp) w3).setCell (a:=⟨s.A.hp,12,none⟩) (λ_=>rfl) _;have hc:=h.com;have Y:XF4 (λk=>k=A.hp) w3 (w3.setCell ⟨s.A.hp,12,none⟩ (.int .i64 (wrap64 (s.cyc+1)))):=(XF4.refl (λk=>k=A.hp) w3).setCell (a:=⟨s.A.hp,12,none⟩) (λ_=>a1.symm) _;refine⟨{A:=A,X:=S2,base:=b,top:=t,u:=v,F:=F,o:=none,lf:=0,nb:=0,cyc:=wrap64 (s.cyc+1),blk:=s.blk},⟨h.tc.trans' tp (λk _ e=>.inr (.inl e)),⟨?_,⟨h.vm.touch Y (λk hk _ e=>hc.x.1 (e▸hk)),h.hv,h.sh,rfl⟩,h.img,h0.gok,h0.cok,h.bt,h.bs,h0.sl⟩,a1,λk hk=>?_,⟨λ_=>rfl,λ_=>rfl⟩⟩,rfl,ht⟩
 ·have Z:=hc.row.set 12 (.int .i64 (wrap64 (s.cyc+1)));rw[a1]at Z;refine⟨by rw[a1];exact Z,hc.rn.touch Y (λe=>hc.n1.2.2.1 e.symm),hc.rt.touch Y (λe=>hc.n1.1 e.symm) (λe=>hc.n1.2.1 e.symm),Y.tab hc.tab.lt (λe=>hc.n1.2.2.2 e.symm) hc.tab,hc.n1,hc.n2,hc.n3,hc.x⟩
 ·rcases hk with hk|hk|hk|hk|hk
  ·exact(h.sub k hk).imp .inl id
  ·exact .inl (.inr (.inl (hk.trans a1)))
  ·exact .inl (.inr (.inr (.inl (hk.trans a3))))
  ·exact .inl (.inr (.inr (.inr (.inl (hk.trans a4)))))
  ·rcases h.rn with e|e
   ·exact .inl (.inr (.inr (.inr (.inr (hk.trans e)))))
   ·refine .inr ?_;have:k=A.rn:=hk;omega
theorem HIn.ran(h:HIn w c g s)(hn:s.o=none){w1 w2:World}(hg1:Gr w w1)(hT:XF4 (λb=>b=s.A.g\/ZOk s.X w b) w1 w2){v:Vm}{F:Nat->Nat}(hV:QXZ w2 (plus (ZOk s.X w) w1) s.A.q v)(hR:V5d w2 s.A.r s.A.g (g.S.map λx=>(F x:Int))):
  XF4 (λk=>k=s.A.g\/s.X k) w w2/\XL4 w2 (ZOk (plus (ZOk s.X w) w1) w2) s.A c s.base s.top (g.S.map λx=>(F x:Int)) none s.cyc s.blk/\QXZ w2 (ZOk (plus (ZOk s.X w) w1) w2) s.A.q v/\(∀k,ZOk (plus (ZOk s.X w) w1) w2 k->(s.X k\/w.heap.size<=k)/\k<w2.heap.size):=by
 obtain⟨l1,l2,l3,l4,l5⟩:=h.com.lt;have hz1:=hg1.size;have hx:=h.com.x;have n1:=h.com.n1;have n2:=h.com.n2;have n3:=h.com.n3;have Z:XF4 (λk=>k=s.A.g\/s.X k) w w2:=(hg1.touch _).trans (hT.mono (λk _ hk=>hk.imp id (λh=>h.1)))
 have Y:∀k,k<w.heap.size->¬s.X k->¬ZOk (plus (ZOk s.X w) w1) w2 k:=λk hk hn h2=>by
  rcases h2.1 with h3|h3
  ·exact hn h3.1
  ·omega
 have J:Rec w2 s.A.hp 92 (hpL c s.A none s.cyc s.blk):=by
  have:=h.com.row;rw[hn]at this;exact this.touch Z (λhk=>hk.elim n1.2.1 hx.1)
 refine⟨Z,⟨J,h.com.rn.touch Z (λhk=>hk.elim (λe=>n3.1 e.symm) hx.2.2.2.1),hR,Z.tab l5 (λhk=>hk.elim (λe=>n3.2.1 e.symm) hx.2.2.2.2) h.com.tab,n1,n2,n3,Y _ l1 hx.1,Y _ l2 hx.2.1,Y _ l3 hx.2.2.1,Y _ l4 hx.2.2.2.1,Y _ l5 hx.2.2.2.2⟩,hV.cut,λk hk=>⟨?_,hk.2⟩⟩;rcases hk.1 with h3|h3
 ·exact .inl h3.1
 ·exact .inr Ω
theorem HIn.cpd(h:HIn w c g s)(hn:s.o=none)(hk:c.kd=2):(∀W,Gr w W->Calls prog 85 #[.pointer (some ⟨s.A.q,0,none⟩),.pointer (some ⟨s.A.r,0,none⟩),cfV (YLQ c s.base s.top (c.ot s.base))] W λe w2=>
  e=.returned (.tuple #[.int .i64 ((c.ot s.base+g.words:Nat):Int),.int .i64 0])/\Rec w2 s.A.hp 92 (hpL c s.A none s.cyc s.blk)/\XF4 (λk=>k=s.A.g\/ZOk s.X w k) W w2 ∧
   ∀W2,Gr w2 W2->Calls prog 86 #[.pointer (some ⟨s.A.hp,0,none⟩),.int .i64 (c.ot s.base:Nat),.int .i64 ((c.ot s.base+g.words:Nat):Int)] W2 λe w3=>e=.returned (.tuple #[]) ∧
    ∃r,Rec w3 s.A.hp 92 (hpL c {s.A with rn:=r} none s.cyc s.blk)/\ZOs w c g s (w3.setCell ⟨s.A.hp,12,none⟩ (.int .i64 (wrap64 (s.cyc+1))))):=λW gW=>by
 have hm:=h.mem;rw[hn]at hm;obtain⟨hV,hv,Z,hlf⟩:=hm;obtain⟨l1,l2,l3,l4,l5⟩:=h.com.lt;have hx:=h.com.x;have Xb:=h.bt;have hwd:=h.cok.wd;obtain⟨L0,Xd,hin0,hfl0,hle0,hw0,-⟩:=h.rch (n:=s.u.n) (by have:=Z.bt;omega);have Y:=h.cf Ω hv;have Xh:c.ot s.base+c.wd<=s.u.n:=Y.ln;have G:1<=c.ot s.base:=by have:=h.cok.pg1;rcases h.ot with⟨e,-⟩|⟨e,-⟩ <;> omega
 have hot2:c.ot s.base+c.wd<=2147483647:=by
  have:=h.cok.pw;rcases h.ot with⟨e,-⟩|⟨e,-⟩ <;> omega
 have V:∀L,Zx6 s.u (s.rs g) s.u.n L->(∀o∈L,s.base<=o.1/\o.1+o.2<=s.top)/\s.base+sizes L<=s.top/\sizes L=g.words:=λL hM=>by
  have O:=h.img.inn h.gok hM;exact⟨O,Vdb hM.mkd.good O Xb.1,h.img.words h.gok hM⟩
 have Xi:JQF s.u (s.rs g) (YLQ c s.base s.top (c.ot s.base)):=⟨Y,Xd.sound,λL hM=>by
  obtain⟨q1,q2,-⟩:=V L hM;refine⟨q1,?_⟩
  show c.ot s.base+sizes L<=c.ot s.base+c.wd
  omega⟩
 refine(Qj5 (hV.cut.gr gW) (h.com.rt.gr gW) (gW.tab l5 h.com.tab) (λhk=>hx.2.2.2.2 hk.1) (λhk=>hx.2.1 hk.1) (λhk=>hx.2.2.1 hk.1) Xi (λa a1 a2=>Z.ld a1 a2) (λa ha=>?_)).mono ?_
 ·obtain⟨x,Xg,rfl⟩:=ξp.1 ha;refine⟨ψr _,?_⟩
  have h1:g.Ro x:=by
   by_cases h0:x=0
   ·exact .inl h0
   ·exact .inr (Gph.Rd.root Xg h0)
  have:=h.adr h1;omega
 ·rintro e w2 ⟨L,hM,hT,N⟩;obtain⟨q1,q2,hw⟩:=V L hM;have J:=hv.pg
  have hE:Jsl s.u (c.ot s.base:Nat) ((c.ot s.base+sizes L:Nat):Int)=0:=Z.needC (W:=c.wd) (by rw[J];exact h.cok.dv) Xb.2 Y.at_ Ω Ω (by
   rw[J,hv.rm];unfold HCf.fr
   rw[ϑ Ω,μ hk];exact π _)
  rcases N with⟨Xf,-⟩|⟨-,rfl,v1,v2,k,kq,hD,Xc,Xj⟩
  ·exact absurd hE Xf
  ·obtain⟨k1,k2,k3,k4,k5⟩:=ShA.copied (c:=YLQ c s.base s.top (c.ot s.base)) Z Y (by show c.ot s.base+sizes L<=c.ot s.base+c.wd;omega) hE hD;have D:=JW8 hV.ok hM (h.img.full h.gok hM) hD k5;have U:=h.img.moved h.gok D G (by show c.ot s.base+sizes L<=_;omega);have I:V5d w2 s.A.r s.A.g ((g.S.map λx=>(s.F x:Int)).map (ZQE v1 (QnE v1 (s.rs g) k) (YLQ c s.base s.top (c.ot s.base)).to)):=Xj;rw[h.img.roots D]at I;obtain⟨t2,Xa,E,B⟩:=h.ran hn (gW) hT Xc I;have Xe:((c.ot s.base+sizes L:Nat):Int)=((c.ot s.base+g.words:Nat):Int):=by rw[hw]
   refine⟨by rw[<-Xe];rfl,Xa.row,hT,λW2 gW2=>?_⟩;refine(XQQ (b:=c.ot s.base) (t:=c.ot s.base+g.words) (Xa.gr gW2) (E.gr gW2) (ζS _ _) Ω (by rw[k2];exact Xh) (by rw[k2];omega) (λk hk=>ω (B k hk).2 gW2.size)).mono ?_;rintro e w3 ⟨rfl,rn,hrn,t3,M⟩;have hz:=t2.size;have hz2:=gW2.size;rw[hw]at k1 U
   have hP:Vej w c g s {s.A with rn:=rn} (c.ot s.base) (c.ot s.base+g.words) _ _ _ w3:=⟨((t2.mono (λk _ hk=>hk.elim (λe=>.inr (.inr (.inl e))) .inl)).trans (gW2.touch _)).trans' t3 (λk _ e=>.inr (.inl e)),M,(E.gr gW2).touch t3 (λk hk _ e=>M.x.1 (e▸hk)),⟨k2.trans hv.n,k3.trans hv.pg,k4.trans hv.rm⟩,k1,U,λk hk=>(B k hk).1,⟨rfl,rfl,rfl,rfl⟩,.inr (by show w.heap.size<=rn;omega),by omega,by
    rcases h.ot with⟨e,-⟩|⟨e,-⟩
    ·exact .inr ⟨e,by omega⟩
    ·exact .inl e⟩
   exact⟨rfl,rn,M.row,hP.fin h rfl⟩
theorem HIn.pkd(h:HIn w c g s)(hn:s.o=none)(hk:c.kd=3):∀W,Gr w W->Calls prog 87 #[.pointer (some ⟨s.A.q,0,none⟩),.pointer (some ⟨s.A.r,0,none⟩),.int .i64 s.base,.int .i64 s.top,.int .i64 c.st] W λe w2=>
  e=.returned (.tuple #[.int .i64 ((s.base+g.words:Nat):Int),.int .i64 0])/\Rec w2 s.A.hp 92 (hpL c s.A none s.cyc s.blk) ∧
   ∀W2,Gr w2 W2->Calls prog 90 #[.pointer (some ⟨s.A.rn,0,none⟩),.int .i64 ((s.base+g.words:Nat):Int)] W2 λe w3=>e=.returned (.int .i64 0) ∧
    Rec w3 s.A.hp 92 (hpL c s.A none s.cyc s.blk)/\ZOs w c g s (w3.setCell ⟨s.A.hp,12,none⟩ (.int .i64 (wrap64 (s.cyc+1)))):=λW gW=>by
 have hm:=h.mem;rw[hn]at hm;obtain⟨hV,hv,Z,hlf⟩:=hm;obtain⟨l1,l2,l3,l4,l5⟩:=h.com.lt;have hx:=h.com.x;have Xc:=h.bt;have hwd:=h.cok.wd;have hst:=h.cok.st;have J:=hv.pg;have hsb:=Z.bt;obtain⟨L0,Xe,G,hfl0,hle0,hw0,-⟩:=h.rch (n:=s.u.n) Ω;have hb:s.base=c.pg:=h.bs.elim id (λe=>absurd hk e.2);have hp1:=h.cok.pg1;have hpw:=h.cok.pw;have hnn:s.u.n=c.pg+c.wd:=by rw[hv.n];exact μ hk
 have D:s.u.pl.used<=s.u.pl.rm:=by
  have:=Z.used (W:=c.wd) (by rw[J];exact h.cok.dv) Xc.2;rw[J]at this;rw[hv.rm];unfold HCf.fr;rw[ϑ Ω,ϑ Ω];exact this
 refine(JZL (hV.cut.gr gW) Ω (h.com.rt.gr gW) (gW.tab l5 h.com.tab) (λhk=>hx.2.2.2.2 hk.1) (λhk=>hx.2.1 hk.1) (λhk=>hx.2.2.1 hk.1) s.base s.top c.st).mono ?_;rintro e w2 ⟨hT,O⟩;rcases O with⟨ha,-⟩|⟨-,(⟨M,-⟩|⟨L,f,t,hI,hf,ht,Xk⟩)⟩
 ·rw[YMk.2 ⟨by omega,by omega,by omega,by omega,by omega⟩]at ha;cases ha
 ·exact absurd (⟨Xe,λo ho=>by have:=G o ho;omega⟩:Jx2 s.u (s.rs g) s.base s.top L0) (M L0)
 ·obtain rfl:f=s.base:=Ω
  obtain rfl:t=s.top:=Ω
  have hM:=hI.1;have Xd:=h.img.inn h.gok hM;have N:=Vdb hM.mkd.good Xd Xc.1;have hw:=h.img.words h.gok hM;have hE:=Z.needP N D;rcases Xk with⟨M,-⟩|⟨-,rfl,v1,v2,j,hD,B,Xj⟩
  ·exact absurd hE M
  ·have Xg:∃E,Ji4 s.u v1 E:=⟨_,hD.gr⟩;have Y:=h.img.grown hV.ok Xg Ω;have Xb:=YxV hV.ok hM hE Ω hD;obtain⟨k1,k2,k3,k4⟩:=Z.packed N hE hD;have U:=Y.moved h.gok Xb Ω Ω;have Xa:V5d w2 s.A.r s.A.g ((g.S.map λx=>(s.F x:Int)).map (toV L s.base)):=Xj;rw[Y.roots Xb]at Xa;rw[hw]at k1 k2 k3 k4 U N B;obtain⟨t2,I,Xh,Xi⟩:=h.ran hn gW hT B Xa;refine⟨by rw[hw],I.row,λW2 gW2=>?_⟩;refine(JDi (I.gr gW2).rn (t:=s.base+g.words) (ζS _ _) Ω).mono ?_;rintro e w3 ⟨rfl,t3,Xf⟩;have V:=(I.gr gW2).turn t3 Xf;have hP:Vej w c g s s.A s.base (s.base+g.words) _ _ _ w3:=⟨((t2.mono (λk _ hk=>hk.elim (λe=>.inr (.inr (.inl e))) .inl)).trans (gW2.touch _)).trans' t3 (λk _ e=>.inr (.inr (.inr (.inr e)))),V,(Xh.gr gW2).touch t3 (λk hk _ e=>V.x.2.2.2.1 (e▸hk)),⟨k2.trans hv.n,k3.trans hv.pg,k4.trans hv.rm⟩,k1,U,λk hk=>(Xi k hk).1,⟨rfl,rfl,rfl,rfl⟩,.inl rfl,by omega,h.bs⟩;exact⟨rfl,V.row,hP.fin h rfl⟩
theorem QPI(h:HIn w c g s)(hn:s.o=none↔s.lf=0)(hk:c.kd=1):Calls prog 46 #[.pointer (some ⟨s.A.hp,0,none⟩)] w λe w'=>e=.returned (.tuple #[])/\ZOs w c g s w':=by
 have HN:=hid (XuX h);have HF:=hid (ZtQ h hn);have O:=hid (λ(W:World) (s1:HSt) (h:HIn W c g s1) (hn:s1.o=none↔s1.lf=0)=>ZtQ h hn);have HO:=hid (λ(W:World) (s1:HSt) (h:HIn W c g s1) (hn:s1.o=none)=>JG2 h hn hk);have c0:=h.cc 0;have cl:=h.com.row.lt;obtain⟨ap,hp⟩:∃ap,ap=s.A.hp:=⟨_,rfl⟩;have HP:=hid hp;rw[<-hp]at HN HF c0 cl⊢;rw[hk]at c0;clear h hn hk hp;go_enter func46,ntmps46;go_upto_region 1 with(go_at_call 50;refine JmE (HN.o) ?_);go_upto_region 7 with(go_at_call 83;refine(HF.o).mono ?_;rintro e w1 ⟨rfl,s1,h1,h2,h3,h4⟩;have J:=hid h1;have HL1:=hid h4;have Z:=hid (HO.o _ _ h1.i (h1.o.2 h4));rw[h1.hp,<-HP.o]at Z;clear h1 h2 h3 h4);go_upto_region 8 with(go_at_call 62;refine(Z.o).mono ?_;rintro e w2 ⟨rfl,s2,h1,h2,h3,h4⟩;have V:=hid (J.o.trans h1);have N:=hid h3;have U:=hid (O.o _ _ h1.i h1.o);rw[h1.hp,J.o.hp,<-HP.o]at U;clear h1 h2 h3 h4);go_wp2_with(go_at_call 83;refine(U.o).mono ?_;rintro e w3 ⟨rfl,s3,h1,h2,h3,h4⟩;have M:=hid (V.o.trans h1);have Y:=hid (ν h3 h4);clear h1 h2 h3 h4);refine ζR (ζr rfl _ _ _) rfl ⟨rfl,s3,M.o,Y.o.2,?_⟩;rw[Y.o.1.top,Y.o.1.base];exact N.o
theorem ZAF(h:HIn w c g s)(hn:s.o=none)(hk:c.kd=3):Calls prog 46 #[.pointer (some ⟨s.A.hp,0,none⟩)] w λe w'=>e=.returned (.tuple #[])/\ZOs w c g s w':=by
 have HN:=hid (XuX h);have N:=hid (h.pkd hn hk);have HB:=hid (λ(W:World) (gg:Gr w W)=>JFl (h.com.gr gg).rn);have HT:=hid (λ(W:World) (gg:Gr w W)=>Vkj (h.com.gr gg).rn);have HC:=hid (λ(W:World) (gg:Gr w W)=>(h.com.gr gg).row);have c0:=h.cc 0;have cl:=h.com.row.lt;simp only[hn]at HC;obtain⟨ap,hp⟩:∃ap,ap=s.A.hp:=⟨_,rfl⟩;rw[<-hp]at HN N HC c0 cl⊢;rw[hk]at c0;clear h hn hk hp;go_enter func46,ntmps46;go_upto_region 1 with(go_at_call 50;refine JmE (HN.o) ?_);go_upto_region 2 with(fail);clear c0;obtain⟨Sx,Z,HS⟩:=ZJV.start λW'=>Rec W' ap 92 (hpL c s.A none s.cyc s.blk);have y5:∀p:ZJV Sx,p.w.cell? ⟨ap,5,none⟩=some (.int .i64 c.st):=λp=>by have h:=ZJV.get Z p;exact h.cc 5
 have y8:∀p:ZJV Sx,p.w.cell? ⟨ap,8,none⟩=some (.pointer (some ⟨s.A.q,0,none⟩)):=λp=>by have h:=ZJV.get Z p;exact h.cc 8
 have y9:∀p:ZJV Sx,p.w.cell? ⟨ap,9,none⟩=some (.pointer (some ⟨s.A.r,0,none⟩)):=λp=>by have h:=ZJV.get Z p;exact h.cc 9
 have E:∀p:ZJV Sx,p.w.cell? ⟨ap,10,none⟩=some (.pointer (some ⟨s.A.rn,0,none⟩)):=λp=>by have h:=ZJV.get Z p;exact h.cc 10
 have V:=HS.o _ (HC.o _ (Gr.refl w).drew);have M:Inhabited (ZJV Sx):=⟨⟨_,V⟩⟩;clear Z;refine Vv2 Sx 29 [([0,1,2,3,4,5,6,7,8,9,10,11,13,14,15,16,18,19,20,21,22],12),([],17),([],23)] [24,25,26,27,28] (by kernel_rfl) (by kernel_rfl) V ?_;refine XGW ?_
 try simp only[XZy,ζ,ξ]
 repeat(go_big_quiet_step (fail))
 refine θ ?_;go_wp2_with((go_at_call 88;refine JmE (HB.o _ (Gr.refl w).drew) ?_));refine⟨.inr (ZJV.of (HS.o _ (HC.o _ (Gr.refl w).drew))),?_⟩;refine XGW ?_
 try simp only[XZy,ζ,ξ]
 repeat(go_big_quiet_step (fail))
 refine θ ?_;go_wp2_with((go_at_call 89;refine JmE (HT.o _ (Gr.refl w).drew) ?_));refine⟨.inr (ZJV.of (HS.o _ (HC.o _ (Gr.refl w).drew))),?_⟩;refine XGW ?_
 try simp only[XZy,ζ,ξ]
 repeat(go_big_quiet_step (fail))
 refine θ ?_;go_wp2_with((go_at_call 87;refine(N.o _ (Gr.refl w).drew).mono ?_;rintro e w2 ⟨rfl,hr,Y⟩;have J:=hid hr;have I:=hid Y;clear hr Y));refine⟨.inr (ZJV.of (HS.o _ (J.o))),?_⟩;refine Z9U ?_
 try simp only[XZy,ζ,ξ]
 repeat(go_big_quiet_step (fail))
 refine θ ?_;refine β ?_;clear y5 y8 y9 E V M;clear HS Sx;have z10:=J.o.cc 10;have zl:=J.o.lt;go_upto_region 14 with(go_at_call 90;refine(I.o _ (Gr.refl _)).mono ?_;rintro e w3 ⟨rfl,hr,Y⟩;have U:=hid hr;have O:=hid Y;clear hr Y);have z12:=U.o.cc 12;have zf:=U.o.free 12;have zl3:=U.o.lt;go_wp2;exact ζF (ζr rfl _ _ _) rfl ⟨rfl,O.o⟩
theorem J1o(h:HIn w c g s)(hn:s.o=none)(hk:c.kd=2):Calls prog 46 #[.pointer (some ⟨s.A.hp,0,none⟩)] w λe w'=>e=.returned (.tuple #[])/\ZOs w c g s w':=by
 have HN:=hid (XuX h);have U:=hid (VZS h);have J:=hid (h.cpd hn hk);have HC:=hid (λ(W:World) (gg:Gr w W)=>(h.com.gr gg).row);have c0:=h.cc 0;have cl:=h.com.row.lt;have l3:=h.com.lt.2.2.1;simp only[hn]at HC;obtain⟨ap,hp⟩:∃ap,ap=s.A.hp:=⟨_,rfl⟩;rw[<-hp]at HN J U HC c0 cl⊢;rw[hk]at c0;obtain⟨d,hd⟩:∃d,d=c.ot s.base:=⟨_,rfl⟩;rw[<-hd]at U J;have Xg:=hid l3;have O:Hid (Calls prog 84 #[.pointer (some ⟨ap,0,none⟩)] w λe w'=>e=.returned (.agg #[.int .i64 s.base,.int .i64 s.top,.int .i64 d,.int .i64 ((d+c.wd:Nat):Int),.int .i64 c.bk,.int .i64 c.st,.int .i64 c.ah])/\Gr w w'):=U
 have B:Hid (∀W,Gr w W->Calls prog 85 #[.pointer (some ⟨s.A.q,0,none⟩),.pointer (some ⟨s.A.r,0,none⟩),.agg #[.int .i64 s.base,.int .i64 s.top,.int .i64 d,.int .i64 ((d+c.wd:Nat):Int),.int .i64 c.bk,.int .i64 c.st,.int .i64 c.ah]] W λe w2=>
  e=.returned (.tuple #[.int .i64 ((d+g.words:Nat):Int),.int .i64 0])/\Rec w2 ap 92 (hpL c s.A none s.cyc s.blk)/\XF4 (λk=>k=s.A.g\/ZOk s.X w k) W w2 ∧
   ∀W2,Gr w2 W2->Calls prog 86 #[.pointer (some ⟨ap,0,none⟩),.int .i64 d,.int .i64 ((d+g.words:Nat):Int)] W2 λe w3=>e=.returned (.tuple #[]) ∧
    ∃r,Rec w3 ap 92 (hpL c {s.A with rn:=r} none s.cyc s.blk)/\ZOs w c g s (w3.setCell ⟨ap,12,none⟩ (.int .i64 (wrap64 (s.cyc+1))))):=J
 clear U J;clear h hn hk hp hd l3;go_enter func46,ntmps46;go_upto_region 1 with(go_at_call 50;refine JmE (HN.o) ?_);go_upto_region 11 with(go_at_call 84;refine(O.o).mono ?_;rintro e w1 ⟨rfl,G⟩;have M:=hid G;clear G);have E:=(Gr.refl w1).alloc (.cells #[.int .i64 s.base,.int .i64 s.top,.int .i64 d,.int .i64 ((d+c.wd:Nat):Int),.int .i64 c.bk,.int .i64 c.st,.int .i64 c.ah] 156);have Xa:=hid (Rec.new w1 156 [.int .i64 s.base,.int .i64 s.top,.int .i64 d,.int .i64 ((d+c.wd:Nat):Int),.int .i64 c.bk,.int .i64 c.st,.int .i64 c.ah]);have D:=hid (M.o.trans E).drew;clear c0 E;obtain⟨Sx,Y,HS⟩:=ZJV.start λW'=>(Rec W' ap 92 (hpL c s.A none s.cyc s.blk)/\Rec W' w1.heap.size 156 [.int .i64 s.base,.int .i64 s.top,.int .i64 d,.int .i64 ((d+c.wd:Nat):Int),.int .i64 c.bk,.int .i64 c.st,.int .i64 c.ah])
 have y8:∀p:ZJV Sx,p.w.cell? ⟨ap,8,none⟩=some (.pointer (some ⟨s.A.q,0,none⟩)):=λp=>by have h:=ZJV.get Y p;exact h.1.cell (j:=8) rfl
 have y9:∀p:ZJV Sx,p.w.cell? ⟨ap,9,none⟩=some (.pointer (some ⟨s.A.r,0,none⟩)):=λp=>by have h:=ZJV.get Y p;exact h.1.cell (j:=9) rfl
 have Xl:∀p:ZJV Sx,p.w.cell? ⟨w1.heap.size,0,none⟩=some (.int .i64 s.base):=λp=>by have h:=ZJV.get Y p;exact h.2.cell (j:=0) rfl
 have Xh:∀p:ZJV Sx,p.w.cell? ⟨w1.heap.size,1,none⟩=some (.int .i64 s.top):=λp=>by have h:=ZJV.get Y p;exact h.2.cell (j:=1) rfl
 have Xk:∀p:ZJV Sx,p.w.cell? ⟨w1.heap.size,2,none⟩=some (.int .i64 d):=λp=>by have h:=ZJV.get Y p;exact h.2.cell (j:=2) rfl
 have Xb:∀p:ZJV Sx,p.w.cell? ⟨w1.heap.size,3,none⟩=some (.int .i64 ((d+c.wd:Nat):Int)):=λp=>by have h:=ZJV.get Y p;exact h.2.cell (j:=3) rfl
 have Xf:∀p:ZJV Sx,p.w.cell? ⟨w1.heap.size,4,none⟩=some (.int .i64 c.bk):=λp=>by have h:=ZJV.get Y p;exact h.2.cell (j:=4) rfl
 have Xe:∀p:ZJV Sx,p.w.cell? ⟨w1.heap.size,5,none⟩=some (.int .i64 c.st):=λp=>by have h:=ZJV.get Y p;exact h.2.cell (j:=5) rfl
 have Xi:∀p:ZJV Sx,p.w.cell? ⟨w1.heap.size,6,none⟩=some (.int .i64 c.ah):=λp=>by have h:=ZJV.get Y p;exact h.2.cell (j:=6) rfl
 have N:=HS.o _ (⟨HC.o _ D.o,Xa.o.gr (Gr.refl _).drew⟩);have I:Inhabited (ZJV Sx):=⟨⟨_,N⟩⟩;clear Y;refine Vv2 Sx 15 [([0,1,2,3,4,5,6,7,8],9)] [10,11,12,13,14] (by kernel_rfl) (by kernel_rfl) N ?_;refine XGW ?_
 try simp only[XZy,ζ,ξ]
 repeat(go_big_quiet_step (fail))
 refine θ ?_;go_wp2_with((go_at_call 85;refine(B.o _ D.o).mono ?_;rintro e w2 ⟨rfl,hr,ht,Z⟩;have Xj:=hid hr;have Xc:=hid Z;have L:=hid ((Xa.o.gr (Gr.refl _).drew).touch ht (λhk=>hk.elim (λe=>by have:=Xg.o;have:=M.o.size;omega) (λhk=>by have:=hk.2;have:=M.o.size;omega)));clear hr Z ht));refine⟨.inr (ZJV.of (HS.o _ (⟨Xj.o,L.o⟩))),?_⟩;refine Z9U ?_
 try simp only[XZy,ζ,ξ]
 repeat(go_big_quiet_step (fail))
 refine θ ?_;refine β ?_;clear y8 y9 Xl Xh Xk Xb Xf Xe Xi N I;clear HS Sx;have zc2:=L.o.cc 2;go_upto_region 14 with(go_at_call 86;refine(Xc.o _ (Gr.refl _)).mono ?_;rintro e w3 ⟨rfl,r,hr,Z⟩;have V:=hid hr;have Xd:=hid Z;clear hr Z);have z12:=V.o.cc 12;have zf:=V.o.free 12;have zl3:=V.o.lt;go_wp2;exact ζF (ζr rfl _ _ _) rfl ⟨rfl,Xd.o⟩
theorem Vn4(h:HIn w c g s)(hn:s.o=none↔s.lf=0):Calls prog 46 #[.pointer (some ⟨s.A.hp,0,none⟩)] w λe w'=>e=.returned (.tuple #[])/\ZOs w c g s w':=by
 by_cases h1:c.kd=1
 ·exact QPI h hn h1
 ·have ho:s.o=none:=by
   have hm:=h.mem;cases ho:s.o with
   | none=>rfl
   | some y=>
    rw[ho]at hm;obtain⟨z,sl,v,R,Sv,Y,-⟩:=hm;exact absurd Y.kd h1
  by_cases h2:c.kd=2
  ·exact J1o h ho h2
  ·exact ZAF h ho (by have:=h.cok.kd;omega)
end
end
section
open Go.RowKit Go.Shelf Word
section
variable {w w':World} {c:HCf} {g g':Gph} {s:HSt}
theorem HCf.q_in(hbk:Y1d c.bk=true)(hah:c.ah<=16):1<=c.q/\c.q<=1024/\c.spare<=18*1027:=by
 have hb:=Quq hbk;have h1:c.bk/c.pg<=c.bk:=ζ8 _ _;have hq:1<=c.q/\c.q<=1024:=by unfold HCf.q;omega
 refine⟨hq.1,hq.2,?_⟩;unfold HCf.spare;exact ψD Ω Ω
theorem HCf.Ok.q(h:c.Ok):1<=c.q/\c.q<=1024/\c.spare<=18*1027:=HCf.q_in h.bk h.ah
theorem Yny(hbk:Y1d c.bk=true)(hp:1<=c.pg)(hah:c.ah<=16)(w:World):Calls prog 82 #[Jdq c] w λe w'=>e=.returned (.int .i64 c.spare)/\Gr w w':=by
 obtain⟨V,M,J⟩:=HCf.q_in hbk hah;have hb:=Quq hbk;have hmax:=V9O prog;have q1:((c.bk:Int).tdiv (c.pg:Int))=((c.bk/c.pg:Nat):Int):=rfl;have hm:max ((c.bk/c.pg:Nat):Int) 1=(c.q:Int):=by unfold HCf.q;omega
 have Y:((c.ah:Int)+2)*((c.q:Int)+3)=(c.spare:Int):=by unfold HCf.spare;exact_mod_cast rfl
 have U:c.bk/c.pg<=c.bk:=ζ8 _ _;have HR:=hid (Rec.new w 41 (X2H c));have Z:=hid Y;generalize c.spare=sp at J Y Z⊢;generalize c.q=qq at V M hm Y Z;generalize c.bk/c.pg=dd at q1 hm U;unfold Jdq X2H at *
 have r:=HR.o;have c1:=r.cc 1;have c2:=r.cc 2;have c6:=r.cc 6;clear r hbk;go_enter func82,ntmps82;go_upto_region 1 with(fail);go_quiet (fail);go_wp2;go_ret;exact⟨rfl,((Gr.refl w).alloc _).drewN _⟩
theorem Zvh.gr{X:Nat->Prop}{A:HAd}{base top:Nat}{u:Vm}{y:Nat}{z:ZH1}{sl:Sl}{v:Vm}{R Sv:Nat->Prop}(h:Zvh w X A c base top u y z sl v R Sv)(g:Gr w w'):Zvh w' X A c base top u y z sl v R Sv:=by
 have t:=g.touch (λ_=>False);exact⟨h.cy.touch t (λ_ _ h=>h),h.vm.touch t (λ_ _ _ h=>h),h.hv,h.ok,h.a,h.x,h.d,t.tab h.tab.lt (λh=>h) h.tab,h.t1,h.t2,h.bs,h.lm,h.bk,h.ah,h.kd⟩
def Xbc(w:World)(c:HCf)(s:HSt)(n:Nat):Prop:=∀y,s.o=some y->∃z sl v R Sv,Zvh w s.X s.A c s.base s.top s.u y z sl v R Sv/\sl.lf=s.lf/\sl.mv.length=s.nb/\v.pl.used+(n/c.pg+2+c.spare)<=v.pl.rm
def VQ6(w:World)(c:HCf)(g:Gph)(s:HSt)(n:Nat)(w':World):Prop:=∃s',Xfw w c s g s' w'/\Xwk s s'/\HKp s s'/\Xbc w' c s' n
theorem V0L(h:HIn w c g s)(hn:s.o=none↔s.lf=0){n:Nat}(hn2:n<=256):Calls prog 102 #[.pointer (some ⟨s.A.hp,0,none⟩),.int .i64 n] w λe w'=>e=.returned (.tuple #[])/\VQ6 w c g s n w':=by
 have H0:Hid (Xfw w c s g s w/\Xwk s s/\HKp s s):=⟨Xfw.refl h hn,Xwk.same s,HKp.refl s⟩;have c1:=h.cc 1;have cl:=h.com.row.lt;have Xa:=h.cok;have Xk:=Xa.pg1;obtain⟨-,-,Xo⟩:=Xa.q;have Xb:=hid (λ(W:World)=>Yny Xa.bk Xk Xa.ah W);obtain⟨ap,hp⟩:∃ap,ap=s.A.hp:=⟨_,rfl⟩;have HP:=hid hp;rw[<-hp]at c1 cl⊢;have q1:((n:Int).tdiv (c.pg:Int))=((n/c.pg:Nat):Int):=rfl;have Xl:n/c.pg<=n:=ζ8 _ _;obtain⟨k,hk⟩:∃k,k=n/c.pg:=⟨_,rfl⟩;have HK:=hid hk;rw[<-hk]at q1 Xl;obtain⟨sp,D⟩:∃sp,sp=c.spare:=⟨_,rfl⟩;have Xj:=hid D;rw[<-D]at Xo Xb;clear h hn hp hk Xa D;unfold Jdq X2H at Xb;go_enter func102,ntmps102;go_wp2;clear c1
 go_loopw [] (λwr=>∃s',Hid (Xfw w c s g s' wr/\Xwk s s'/\HKp s s')) (λwr=>XUL wr ap)
 case atStart=>exact⟨s,H0⟩
 case round=>
  obtain⟨s',HR⟩:=hrel;have G:ap=s'.A.hp:=HP.o.trans HR.o.1.hp.symm;have Xi:=hid G;have Z:=HR.o.1.i.com.row;rw[<-G]at Z;cases ho:s'.o with
  | none=>
   rw[ho]at Z;have HO:=hid ho;have HC:=hid (λ(W:World) (gg:Gr wr W)=>Z.gr gg);clear ho Z G H0;go_upto_region 1 with(fail);obtain⟨Sx,Y,HS⟩:=ZJV.start λW'=>Rec W' ap 92 (hpL c s'.A none s'.cyc s'.blk);have I:∀p:ZJV Sx,p.w.cell? ⟨ap,11,none⟩=some (.pointer none):=λp=>by have h:=ZJV.get Y p;exact h.cc 11
   have J:=HS.o _ (HC.o _ (Gr.refl wr).drew);have U:Inhabited (ZJV Sx):=⟨⟨_,J⟩⟩;clear Y;refine Vv2 Sx 30 [([0,1,2,3,4,5,6,7,8,9,11,12,13,14,17,18,19,20,21],10),([],15),([16],22),([23,24,25,26,27],28)] [29] (by kernel_rfl) (by kernel_rfl) J ?_;refine XGW ?_
   try simp only[XZy,ζ,ξ]
   repeat(go_big_quiet_step (fail))
   refine θ ?_;go_wp2_with(fail);refine⟨.inr (ZJV.of (HS.o _ (HC.o _ (Gr.refl wr).drew))),?_⟩;refine XGW ?_
   try simp only[XZy,ζ,ξ]
   repeat(go_big_quiet_step (fail))
   refine θ ?_;go_wp2_with(fail);refine⟨.inr (ZJV.of (HS.o _ (HC.o _ (Gr.refl wr).drew))),?_⟩;refine XGW ?_
   try simp only[XZy,ζ,ξ]
   repeat(go_big_quiet_step (fail))
   refine θ ?_;go_wp2_with(fail);refine⟨.inr (ZJV.of (HS.o _ (HC.o _ (Gr.refl wr).drew))),?_⟩;refine XGW ?_
   try simp only[XZy,ζ,ξ]
   repeat(go_big_quiet_step (fail))
   refine θ ?_;go_wp2_with(fail);refine⟨.inr (ZJV.of (HS.o _ (HC.o _ (Gr.refl wr).drew))),?_⟩;refine Z9U ?_
   try simp only[XZy,ζ,ξ]
   repeat(go_big_quiet_step (fail))
   refine θ ?_;refine β ?_;clear I J U;clear HS Sx;go_wp2;refine ζF (ζr rfl _ _ _) rfl ?_;exact⟨rfl,s',HR.o.1.gr (Gr.refl wr).drew,HR.o.2.1,HR.o.2.2,λy hy=>by rw[HO.o]at hy;cases hy⟩
  | some y=>
   have hm:=HR.o.1.i.mem;rw[ho]at hm;obtain⟨z,sl,v,R,Sv,V,e1,e2⟩:=hm;have Xd:=hid (λ(W:World) (gg:Gr wr W)=>JXO (V.vm.gr gg));have Xe:=hid (λ(W:World) (gg:Gr wr W)=>XOa (V.vm.gr gg));have Xm:v.pl.rm<=4096:=by rw[V.hv.rm];exact HR.o.1.i.cok.fr
   have Xn:=V.a.room V.ok;have hl:s'.lf≠0:=λe=>by rw[HR.o.1.o.2 e]at ho;cases ho
   have Xc:=hid (λ(W:World) (gg:Gr wr W)=>YFI (HR.o.1.i.gr gg) HR.o.1.o hl);have B:=hid (ν V (ν e1 e2));rw[ho]at Z;rw[<-G]at Xc;have HO:=hid ho;have HC:=hid (λ(W:World) (gg:Gr wr W)=>Z.gr gg);have Xh:v.pl.used<=v.pl.rm:=Ω
   obtain⟨rm,L⟩:∃rm,rm=v.pl.rm:=⟨_,rfl⟩;obtain⟨us,O⟩:∃us,us=v.pl.used:=⟨_,rfl⟩;have Xg:=hid (ν L O);rw[<-L]at Xd Xm Xh;rw[<-O]at Xe Xh;clear ho Z G H0 V e1 e2 Xn hl L O;by_cases Xf:rm<us+(k+2+sp)
   ·have d0:decide ((rm:Int)-(us:Int)<(k:Int)+2+(sp:Int))=true:=κ Ω;clear Xf;go_upto_region 1 with(fail);obtain⟨Sx,Y,HS⟩:=ZJV.start λW'=>Rec W' ap 92 (hpL c s'.A (some y) s'.cyc s'.blk);have y0:∀p:ZJV Sx,p.w.cell? ⟨ap,0,none⟩=some (.int .i64 c.kd):=λp=>by have h:=ZJV.get Y p;exact h.cc 0
    have y1:∀p:ZJV Sx,p.w.cell? ⟨ap,1,none⟩=some (.int .i64 c.pg):=λp=>by have h:=ZJV.get Y p;exact h.cc 1
    have y2:∀p:ZJV Sx,p.w.cell? ⟨ap,2,none⟩=some (.int .i64 c.bk):=λp=>by have h:=ZJV.get Y p;exact h.cc 2
    have y3:∀p:ZJV Sx,p.w.cell? ⟨ap,3,none⟩=some (.int .i64 c.wd):=λp=>by have h:=ZJV.get Y p;exact h.cc 3
    have y4:∀p:ZJV Sx,p.w.cell? ⟨ap,4,none⟩=some (.int .i64 c.sl):=λp=>by have h:=ZJV.get Y p;exact h.cc 4
    have y5:∀p:ZJV Sx,p.w.cell? ⟨ap,5,none⟩=some (.int .i64 c.st):=λp=>by have h:=ZJV.get Y p;exact h.cc 5
    have y6:∀p:ZJV Sx,p.w.cell? ⟨ap,6,none⟩=some (.int .i64 c.ah):=λp=>by have h:=ZJV.get Y p;exact h.cc 6
    have y7:∀p:ZJV Sx,p.w.cell? ⟨ap,7,none⟩=some (.float .f64 c.tr):=λp=>by have h:=ZJV.get Y p;exact h.cc 7
    have y8:∀p:ZJV Sx,p.w.cell? ⟨ap,8,none⟩=some (.pointer (some ⟨s'.A.q,0,none⟩)):=λp=>by have h:=ZJV.get Y p;exact h.cc 8
    have I:∀p:ZJV Sx,p.w.cell? ⟨ap,11,none⟩=some (.pointer (some ⟨y,0,none⟩)):=λp=>by have h:=ZJV.get Y p;exact h.cc 11
    have J:=HS.o _ (HC.o _ (Gr.refl wr).drew);have U:Inhabited (ZJV Sx):=⟨⟨_,J⟩⟩;clear Y;refine YvE Sx 28 [([0,1,2,3,4,5,6,7,8,9,11,12,13,14,17,18,19,20,21],10),([],15),([16],22),([23,24,25,26,27],28),([],29)] [] (by kernel_rfl) (by kernel_rfl) J ?_;refine Xw6 ?_
    try simp only[XZy,ζ,ξ]
    repeat(go_big_quiet_step (fail))
    refine θ ?_;go_wp2_with((go_at_call 148;refine JmE (Xd.o _ (Gr.refl wr).drew) ?_));refine⟨.inr (ZJV.of (HS.o _ (HC.o _ (Gr.refl wr).drew))),?_⟩;refine Xw6 ?_
    try simp only[XZy,ζ,ξ]
    repeat(go_big_quiet_step (fail))
    refine θ ?_;go_wp2_with((go_at_call 149;refine JmE (Xe.o _ (Gr.refl wr).drew) ?_));refine⟨.inr (ZJV.of (HS.o _ (HC.o _ (Gr.refl wr).drew))),?_⟩;refine Xw6 ?_
    try simp only[XZy,ζ,ξ]
    repeat(go_big_quiet_step (fail))
    refine θ ?_;go_wp2_with((go_at_call 82;refine(Xb.o _).mono ?_;rintro e w1 ⟨rfl,E⟩;have M:=hid ((Gr.refl wr).drew.trans E);clear E));refine⟨.inr (ZJV.of (HS.o _ (HC.o _ M.o))),?_⟩;refine Xw6 ?_
    try simp only[XZy,ζ,ξ]
    repeat(go_big_quiet_step (fail))
    refine θ ?_;go_wp2_with((go_at_call 47;refine(Xc.o _ M.o).mono ?_;rintro e w2 ⟨rfl,s2,h1,h2,h3,h4⟩;have N:=hid (ν h1 (ν h2 (ν h3 h4)));clear h1 h2 h3 h4));refine⟨.inl (by first|exact trivial|decide),?_⟩;refine Xw6 ?_
    try simp only[XZy,ζ,ξ]
    repeat(go_big_quiet_step (fail))
    refine θ ?_;go_wp2_with(fail);refine⟨.inl (by first|exact trivial|decide),?_⟩;refine YqX ?_
    try simp only[XZy]
    repeat(go_big_quiet_step (fail))
    refine θ ?_;refine β ?_;clear y0 y1 y2 y3 y4 y5 y6 y7 y8 I J U;clear HS Sx;go_wp2;go_round
    case rel=>exact⟨s2,⟨(HR.o.1.gr M.o).trans N.o.1,HR.o.2.1.trans N.o.2.1,HR.o.2.2.trans N.o.2.2.1⟩⟩
    case measure=>
     have e1:=N.o.1.i.left;have e2:=HR.o.1.i.left;rw[N.o.1.hp,<-Xi.o]at e1;rw[<-Xi.o]at e2;have:=N.o.2.2.2;omega
   ·have d0:decide ((rm:Int)-(us:Int)<(k:Int)+2+(sp:Int))=false:=ψ Ω;have Xp:=hid Xf;clear Xf;go_upto_region 1 with(fail);obtain⟨Sx,Y,HS⟩:=ZJV.start λW'=>Rec W' ap 92 (hpL c s'.A (some y) s'.cyc s'.blk);have y0:∀p:ZJV Sx,p.w.cell? ⟨ap,0,none⟩=some (.int .i64 c.kd):=λp=>by have h:=ZJV.get Y p;exact h.cc 0
    have y1:∀p:ZJV Sx,p.w.cell? ⟨ap,1,none⟩=some (.int .i64 c.pg):=λp=>by have h:=ZJV.get Y p;exact h.cc 1
    have y2:∀p:ZJV Sx,p.w.cell? ⟨ap,2,none⟩=some (.int .i64 c.bk):=λp=>by have h:=ZJV.get Y p;exact h.cc 2
    have y3:∀p:ZJV Sx,p.w.cell? ⟨ap,3,none⟩=some (.int .i64 c.wd):=λp=>by have h:=ZJV.get Y p;exact h.cc 3
    have y4:∀p:ZJV Sx,p.w.cell? ⟨ap,4,none⟩=some (.int .i64 c.sl):=λp=>by have h:=ZJV.get Y p;exact h.cc 4
    have y5:∀p:ZJV Sx,p.w.cell? ⟨ap,5,none⟩=some (.int .i64 c.st):=λp=>by have h:=ZJV.get Y p;exact h.cc 5
    have y6:∀p:ZJV Sx,p.w.cell? ⟨ap,6,none⟩=some (.int .i64 c.ah):=λp=>by have h:=ZJV.get Y p;exact h.cc 6
    have y7:∀p:ZJV Sx,p.w.cell? ⟨ap,7,none⟩=some (.float .f64 c.tr):=λp=>by have h:=ZJV.get Y p;exact h.cc 7
    have y8:∀p:ZJV Sx,p.w.cell? ⟨ap,8,none⟩=some (.pointer (some ⟨s'.A.q,0,none⟩)):=λp=>by have h:=ZJV.get Y p;exact h.cc 8
    have I:∀p:ZJV Sx,p.w.cell? ⟨ap,11,none⟩=some (.pointer (some ⟨y,0,none⟩)):=λp=>by have h:=ZJV.get Y p;exact h.cc 11
    have J:=HS.o _ (HC.o _ (Gr.refl wr).drew);have U:Inhabited (ZJV Sx):=⟨⟨_,J⟩⟩;clear Y;refine YvE Sx 28 [([0,1,2,3,4,5,6,7,8,9,11,12,13,14,17,18,19,20,21],10),([],15),([16],22),([23,24,25,26,27],28),([],29)] [] (by kernel_rfl) (by kernel_rfl) J ?_;refine Xw6 ?_
    try simp only[XZy,ζ,ξ]
    repeat(go_big_quiet_step (fail))
    refine θ ?_;go_wp2_with((go_at_call 148;refine JmE (Xd.o _ (Gr.refl wr).drew) ?_));refine⟨.inr (ZJV.of (HS.o _ (HC.o _ (Gr.refl wr).drew))),?_⟩;refine Xw6 ?_
    try simp only[XZy,ζ,ξ]
    repeat(go_big_quiet_step (fail))
    refine θ ?_;go_wp2_with((go_at_call 149;refine JmE (Xe.o _ (Gr.refl wr).drew) ?_));refine⟨.inr (ZJV.of (HS.o _ (HC.o _ (Gr.refl wr).drew))),?_⟩;refine Xw6 ?_
    try simp only[XZy,ζ,ξ]
    repeat(go_big_quiet_step (fail))
    refine θ ?_;go_wp2_with((go_at_call 82;refine(Xb.o _).mono ?_;rintro e w1 ⟨rfl,E⟩;have M:=hid ((Gr.refl wr).drew.trans E);clear E));refine⟨.inr (ZJV.of (HS.o _ (HC.o _ M.o))),?_⟩;refine Xw6 ?_
    try simp only[XZy,ζ,ξ]
    repeat(go_big_quiet_step (fail))
    refine θ ?_;go_wp2_with(fail);refine⟨.inl (by first|exact trivial|decide),?_⟩;refine Xw6 ?_
    try simp only[XZy,ζ,ξ]
    repeat(go_big_quiet_step (fail))
    refine θ ?_;go_wp2_with(fail);refine⟨.inl (by first|exact trivial|decide),?_⟩;refine YqX ?_
    try simp only[XZy]
    repeat(go_big_quiet_step (fail))
    refine θ ?_;refine β ?_;clear y0 y1 y2 y3 y4 y5 y6 y7 y8 I J U;clear HS Sx;go_wp2;refine ζF (ζr rfl _ _ _) rfl ?_;refine⟨rfl,s',HR.o.1.gr M.o,HR.o.2.1,HR.o.2.2,λy' hy=>?_⟩;obtain rfl:y'=y:=by rw[HO.o]at hy;exact(Option.some.inj hy).symm
    refine⟨z,sl,v,R,Sv,B.o.1.gr M.o,B.o.2.1,B.o.2.2,?_⟩;rw[<-HK.o,<-Xj.o,<-Xg.o.1,<-Xg.o.2];have:=Xp.o;omega
end
end
section
open Go.RowKit Go.Shelf Word
section
variable {w w' w1 w2:World} {c:HCf} {g g':Gph} {s:HSt} {X:Nat->Prop} {A:HAd} {base top n:Nat} {u:Vm} {o:Option Nat} {lf nb:Nat}
def XQ3(w:World)(X:Nat->Prop)(A:HAd)(c:HCf)(base top:Nat)(u:Vm)(n:Nat):Option Nat->Nat->Nat->Prop
 | none,lf,_=>∃v1,QXZ w X A.q v1/\HVm c u/\ShA base top u/\Ji4 u v1 (J5L u top ((top+n:Nat):Int))/\Jsl u top ((top+n:Nat):Int)=0/\top+n<=u.n/\lf=0
 | some y,lf,nb=>∃z sl v R Sv v1,(Cyc w R y A.q z sl/\QXZ w Sv A.q v1/\HVm c v/\ZEw sl v/\HpA top u sl v/\(∀k,R k\/Sv k->X k)/\(∀k,R k->¬Sv k)/\VRW w/\¬R 1/\¬Sv 1 ∧
   sl.cf.to=base/\sl.cf.lm=base+c.wd/\sl.cf.bk=c.bk/\sl.cf.ah=c.ah/\c.kd=1)/\sl.lf=lf/\sl.mv.length=nb/\Ji4 v v1 (J5L v top ((top+n:Nat):Int))/\Jsl v top ((top+n:Nat):Int)=0/\v.pl.used+(n/c.pg+2+c.spare)<=v.pl.rm/\top+n<=base+c.wd
theorem HVm.of{v v':Vm}(h:HVm c v)(h1:v'.n=v.n)(h2:v'.pl.pg=v.pl.pg)(h3:v'.pl.rm=v.pl.rm):HVm c v':=⟨h1.trans h.n,h2.trans h.pg,h3.trans h.rm⟩
theorem XQ3.made(h:XQ3 w X A c base top u n o lf nb)(h0:0<top){p f k:Nat}(hs:p+f+k<=255)(hn:n=1+p+f+k):∃v1 Sv,QXZ w Sv A.q v1/\(∀k,Sv k->X k)/\Y3I v1 top ⟨p,f,k⟩=0 ∧
  ∃u',(∀w2,XF4 Sv w w2->QXZ w2 (plus Sv w) A.q (mkVm v1 top ⟨p,f,k⟩)->V2z w2 (plus X w) A c base (top+n) u' o lf nb) ∧
   (∀a:Nat,a<top->u.ldE a=0->u'.ldE a=0/\u'.ldV a=u.ldV a)/\(∀a:Nat,top<=a->a<top+n->u'.ldE a=0)/\u'.ldV top=YsO p f k/\∀i:Nat,i<p+f+k->u'.ldV ((top+1+i:Nat):Int)=0:=by
 match o,h with
 | none,⟨v1,hV,hv,hsh,hG,hE,hle,e0⟩=>
  obtain⟨m1,m2,m3,m4,m5,m6⟩:=hsh.alloc hs hn h0 hle hE hG;refine⟨v1,X,hV,λ_ h=>h,m1,mkVm v1 top ⟨p,f,k⟩,λw2 t hV2=>⟨hV2,hv.of (m3.sm.n.trans hG.n) (m3.sm.pg.trans hG.pg) (m3.sm.rm.trans hG.rm),m2,e0⟩,λa a1 a2=>⟨?_,m4 a a1⟩,λa a1 a2=>m2.ld (by have:=hsh.bt;omega) a2,m5,m6⟩;rw[m3.sm.ldE,hG.ldE hsh.ok (by have:=hsh.bt;omega)]
  split
  ·rfl
  ·exact a2
 | some y,⟨z,sl,v,R,Sv,v1,⟨hcy,hV,hv,hok,hA,hX,hd,hT,t1,t2,b1,b2,b3,b4,hk⟩,e1,e2,hG,hE,hrm,hfit⟩=>
  have hq:sl.q=c.q:=by
   show max 1 (sl.cf.bk/sl.pg)=max 1 (c.bk/c.pg)
   rw[b3,<-hok.mid.pg,hv.pg]
  have V:sl.pg=c.pg:=by rw[<-hok.mid.pg];exact hv.pg
  obtain⟨m1,m2,u',m3,m4,m5,m6⟩:=hA.alloc hok hs hn (by rw[b2];exact hfit) hE hG (by rw[V,b4,hq];exact hrm);have U:=hok.st;have hln:=U.cf.ln;have hlm:=m3.lm
  have J:(mkVm v1 top ⟨p,f,k⟩).n=v.n/\(mkVm v1 top ⟨p,f,k⟩).pl.pg=v.pl.pg/\(mkVm v1 top ⟨p,f,k⟩).pl.rm=v.pl.rm:=by
   have Y:Z1d v1 (mkVm v1 top ⟨p,f,k⟩):=(Z1d.refl hG.ok).mkVm _ _;exact⟨Y.sm.n.trans hG.n,Y.sm.pg.trans hG.pg,Y.sm.rm.trans hG.rm⟩
  refine⟨v1,Sv,hV,λk hk=>hX k (.inr hk),m1,u',λw2 t hV2=>⟨z,sl,mkVm v1 top ⟨p,f,k⟩,R,plus Sv w,⟨hcy.touch t (λk hk Z=>hd k hk Z),hV2,hv.of J.1 J.2.1 J.2.2,m2,m3,λk hk=>?_,λk hk Z=>?_,t.tab hT.lt t2 hT,t1,λhk=>hk.elim t2 (λhk=>by have:=hT.lt;omega),b1,b2,b3,b4,hk⟩,e1,e2⟩,λa a1 a2=>⟨m3.un a Ω,m4 a a1⟩,λa a1 a2=>m3.un a Ω,m5,m6⟩
  ·rcases hk with hk|hk|hk
   ·exact .inl (hX k (.inl hk))
   ·exact .inl (hX k (.inr hk))
   ·exact .inr hk
  ·rcases Z with Z|Z
   ·exact hd k hk Z
   ·have:=hcy.od.lt k hk;omega
theorem XQ3.gr(h:XQ3 w X A c base top u n o lf nb)(g:Gr w w'):XQ3 w' X A c base top u n o lf nb:=by
 match o,h with
 | none,⟨v1,hV,hr⟩=>exact⟨v1,hV.gr g,hr⟩
 | some y,⟨z,sl,v,R,Sv,v1,⟨hcy,hV,hv,hok,hA,hX,hd,hT,hr⟩,hr2⟩=>exact⟨z,sl,v,R,Sv,v1,⟨hcy.gr g,hV.gr g,hv,hok,hA,hX,hd,g.tab hT.lt hT,hr⟩,hr2⟩
structure HAl(w:World)(c:HCf)(g:Gph)(s:HSt)(n:Nat)(w1:World):Prop where
 t:XF4 (λk=>k=s.A.rn\/s.X k) w w1
 com:XL4 w1 (plus s.X w) s.A c s.base (s.top+n) (s.rs g) s.o s.cyc s.blk
 gw:XQ3 w1 (plus s.X w) s.A c s.base s.top s.u n s.o s.lf s.nb
 fit:s.top+n<=s.base+c.wd
theorem HAl.gr(h:HAl w c g s n w1)(gr:Gr w1 w2):HAl w c g s n w2:=⟨h.t.trans (gr.touch _),h.com.gr gr,h.gw.gr gr,h.fit⟩
theorem HIn.bal(h:HIn w c g s)(hr:Xbc w c s n)(hn1:1<=n)(hn2:n<=256):Calls prog 103 #[.pointer (some ⟨s.A.rn,0,none⟩),.int .i64 n] w λe w1=>
  (s.base+c.wd<s.top+n/\e=.returned (.tuple #[.int .i64 0,.int .i64 21])/\Gr w w1)\/(s.top+n<=s.base+c.wd/\e=.returned (.tuple #[.int .i64 s.top,.int .i64 0])/\HAl w c g s n w1):=by
 have hx:=h.com.x;have D:=h.bt;have Z:=h.cok;have Xe:=h.com.lt
 have hcn:s.base+c.wd<=c.n:=by
  unfold HCf.n;rcases h.bs with e|⟨e,e3⟩
  ·split <;> omega
  ·rw[ϑ e3];omega
 have E:c.wd/c.pg<=c.fr:=by
  unfold HCf.fr
  split
  ·omega
  ·split <;> omega
 have N:∀{S:Nat->Prop} {w1:World},(∀k,S k->s.X k)->XF4 (λk=>k=s.A.rn\/S k) w w1->Joi w1 s.A.rn s.A.q s.base (s.top+n) (s.base+c.wd)->XL4 w1 (plus s.X w) s.A c s.base (s.top+n) (s.rs g) s.o s.cyc s.blk:=λ{S w1} hS t U=>by
  obtain⟨l1,l2,l3,l4,l5⟩:=Xe;have k:=h.com;have V:∀k,¬s.X k->¬S k:=λk hk hs=>hk (hS k hs);have J:∀k,k<w.heap.size->¬s.X k->¬plus s.X w k:=λk hk hn hp=>hp.elim hn (λe=>by omega);exact⟨k.row.touch t (λe=>e.elim k.n1.2.2.1 (V _ hx.1)),U,k.rt.touch t (λe=>e.elim k.n2.2.1 (V _ hx.2.1)) (λe=>e.elim k.n3.1 (V _ hx.2.2.1)),t.tab l5 (λe=>e.elim (λe=>k.n3.2.2 e.symm) (V _ hx.2.2.2.2)) k.tab,k.n1,k.n2,k.n3,J _ l1 hx.1,J _ l2 hx.2.1,J _ l3 hx.2.2.1,J _ l4 hx.2.2.2.1,J _ l5 hx.2.2.2.2⟩
 cases ho:s.o with
 | none=>
  have hm:=h.mem;rw[ho]at hm;obtain⟨hV,hv,I,G⟩:=hm;have Xa:s.u.n=c.n:=hv.n;refine(Xej h.com.rn hV hx.2.2.2.1 hn1 D.2 Ω (λhle=>I.need (W:=c.wd) hn1 (by rw[hv.pg];exact Z.dv) hle Ω (by rw[hv.pg,hv.rm];exact E))).mono ?_;rintro e w1 (⟨h1,rfl,h3⟩|⟨h1,rfl,t,⟨v1,hG,O⟩,U⟩)
  ·exact .inl ⟨h1,rfl,h3⟩
  ·refine .inr ⟨h1,rfl,t,N (λ_ h=>h) t U,?_,h1⟩;rw[ho];exact⟨v1,O,hv,I,hG,I.need (W:=c.wd) hn1 (by rw[hv.pg];exact Z.dv) h1 Ω (by rw[hv.pg,hv.rm];exact E),by omega,G⟩
 | some y=>
  obtain⟨z,sl,v,R,Sv,Y,e1,e2,Xc⟩:=hr y ho;have Xa:v.n=c.n:=Y.hv.n
  have hE:s.top+n<=s.base+c.wd->Jsl v s.top ((s.top+n:Nat):Int)=0:=λhle=>by
   have B:=Y.hv.pg;have hp1:=Z.pg1
   have hb:XZs v s.top ((s.top+n:Nat):Int)<=n/c.pg+2:=by
    unfold XZs;rw[show ((s.top+n:Nat):Int)-1=((s.top+n-1:Nat):Int)by omega,B,show ((s.top+n-1:Nat):Int)/(c.pg:Int)=(((s.top+n-1)/c.pg:Nat):Int)from rfl,show ((s.top:Nat):Int)/(c.pg:Int)=((s.top/c.pg:Nat):Int)from rfl]
    have h1:(s.top+n-1)/c.pg<=s.top/c.pg+n/c.pg+1:=by
     have q1:=ζx s.top c.pg;have q2:=ξC s.top (show 0<c.pg by omega);have q3:=ζx n c.pg;have q4:=ξC n (show 0<c.pg by omega);refine Nat.le_of_lt_succ ((ζ4 Ω).2 ?_)
     have q5:(s.top/c.pg+n/c.pg+1+1)*c.pg=c.pg*(s.top/c.pg)+c.pg*(n/c.pg)+c.pg+c.pg:=by
      rw[ξc,ξc,ξc,ξy,ζJ (s.top/c.pg),ζJ (n/c.pg)]
     show s.top+n-1<(s.top/c.pg+n/c.pg+1+1)*c.pg
     rw[q5];generalize c.pg*(s.top/c.pg)=P1 at *
     generalize c.pg*(n/c.pg)=P2 at *
     omega
    generalize (s.top+n-1)/c.pg=P1 at *
    generalize s.top/c.pg=P2 at *
    generalize n/c.pg=P3 at *
    omega
   unfold Jsl;rw[ϑ Ω,ϑ Ω,μ];have:=ZmX v ((s.top:Int)/(v.pl.pg:Int)).toNat (XZs v s.top ((s.top+n:Nat):Int));omega
  refine(Xej h.com.rn Y.vm (λhk=>hx.2.2.2.1 (Y.x _ (.inr hk))) hn1 D.2 Ω hE).mono ?_;rintro e w1 (⟨h1,rfl,h3⟩|⟨h1,rfl,t,⟨v1,hG,O⟩,U⟩)
  ·exact .inl ⟨h1,rfl,h3⟩
  ·have L:∀k,Sv k->s.X k:=λk hk=>Y.x k (.inr hk);have Xd:=Y.tab.lt;refine .inr ⟨h1,rfl,t.mono (λk _ hk=>hk.imp id (L k)),N L t U,?_,h1⟩;rw[ho];have Xb:∀k,R k->¬(k=s.A.rn\/Sv k):=λk hk e=>e.elim (λe=>hx.2.2.2.1 (by rw[<-e];exact Y.x k (.inl hk))) (Y.d k hk);refine⟨z,sl,v,R,plus Sv w,v1,⟨Y.cy.touch t Xb,O,Y.hv,Y.ok,Y.a,λk hk=>?_,λk hk M=>?_,t.tab Xd (λhk=>hk.elim (λe=>h.com.n3.2.2 e.symm) Y.t2) Y.tab,Y.t1,λhk=>hk.elim Y.t2 (λhk=>by omega),Y.bs,Y.lm,Y.bk,Y.ah,Y.kd⟩,e1,e2,hG,hE h1,Xc,h1⟩
   ·rcases hk with hk|hk|hk
    ·exact .inl (Y.x k (.inl hk))
    ·exact .inl (Y.x k (.inr hk))
    ·exact .inr hk
   ·rcases M with M|M
    ·exact Y.d k hk M
    ·have:=Y.cy.od.lt k hk;omega
end
end
section
open Go.RowKit Go.Shelf Word
section
variable {w w' w1 w2:World} {c:HCf} {g g':Gph} {s:HSt} {n:Nat}
theorem HIn.bal0(h:HIn w c g s)(hr:Xbc w c s n)(hn1:1<=n)(hn2:n<=256)(hf:¬s.top+n<=s.base+c.wd):Calls prog 103 #[.pointer (some ⟨s.A.rn,0,none⟩),.int .i64 n] w λe w1=>e=.returned (.tuple #[.int .i64 0,.int .i64 21])/\Gr w w1:=
 (h.bal hr hn1 hn2).mono λ_ _ hh=>by
  rcases hh with⟨-,h2,h3⟩|⟨h1,-⟩
  ·exact⟨h2,h3⟩
  ·exact absurd h1 hf
theorem HIn.bal1(h:HIn w c g s)(hr:Xbc w c s n)(hn1:1<=n)(hn2:n<=256)(hf:s.top+n<=s.base+c.wd):Calls prog 103 #[.pointer (some ⟨s.A.rn,0,none⟩),.int .i64 n] w λe w1=>e=.returned (.tuple #[.int .i64 s.top,.int .i64 0])/\HAl w c g s n w1:=
 (h.bal hr hn1 hn2).mono λ_ _ hh=>by
  rcases hh with⟨h1,-⟩|⟨-,h2,h3⟩
  ·omega
  ·exact⟨h2,h3⟩
theorem Xbc.none(h:s.o=none):Xbc w c s n:=λy hy=>by rw[h]at hy;cases hy
theorem HIn.fits(h:HIn w c g s):s.base+g.words<=s.top:=by
 have hm:=h.rch (n:=s.top) (π _);obtain⟨L,-,-,-,h1,h2,-⟩:=hm;omega
def QAH(w:World)(c:HCf)(g:Gph)(s:HSt)(n:Nat)(e:Ending)(w':World):Prop:=
 (c.wd<g.words+n/\e=.returned (.tuple #[.int .i64 0,.int .i64 21])/\∃s',Xfw w c s g s' w') ∨
 (g.words+n<=c.wd/\∃s' w1,Xfw w c s g s' w1/\e=.returned (.tuple #[.int .i64 s'.top,.int .i64 0])/\HAl w1 c g s' n w')
theorem QAH.ok{s1:HSt}(h:Xfw w c s g s1 w1)(ha:HAl w1 c g s1 n w'):QAH w c g s n (.returned (.tuple #[.int .i64 s1.top,.int .i64 0])) w':=.inr ⟨by have:=h.i.fits;have:=ha.fit;omega,s1,w1,h,rfl,ha⟩
theorem Xfw.rnc{s1:HSt}(h:Xfw w c s g' s1 w1){ap:Nat}(hp:ap=s.A.hp):w1.cell? ⟨ap,10,none⟩=some (.pointer (some ⟨s1.A.rn,0,none⟩)):=by
 have:=h.i.cc 10;rw[h.hp,<-hp]at this;exact this
theorem XLK(h:HIn w c g s)(hn:s.o=none↔s.lf=0)(hn1:1<=n)(hn2:n<=256):Calls prog 57 #[.pointer (some ⟨s.A.hp,0,none⟩),.int .i64 n] w (QAH w c g s n):=by
 have L:=hid (V0L h hn hn2);have HN:=hid (ν hn1 hn2);obtain⟨ap,hp⟩:∃ap,ap=s.A.hp:=⟨_,rfl⟩;have HP:=hid hp;rw[<-hp]at L⊢;have cl:=h.com.row.lt;rw[<-hp]at cl;clear h hn hp hn1 hn2;go_enter func57,ntmps57;go_upto_region 2 with(go_at_call 102;refine(L.o).mono ?_;rintro e w1 ⟨rfl,s1,h1,h2,h3,h4⟩;have Z:=hid (ν h1 h4);clear h1 h2 h3 h4);have U:=Z.o.1.rnc HP.o;have yl:=ZQf U;by_cases hf:s1.top+n<=s1.base+c.wd
 ·have HA:=hid (Z.o.1.i.bal1 Z.o.2 HN.o.1 HN.o.2 hf);clear hf;go_wp2_with(go_at_call 103;refine(HA.o).mono ?_;rintro e w2 ⟨rfl,ha⟩;have V:=hid ha;clear ha);go_ret2;exact QAH.ok Z.o.1 V.o
 ·have HA:=hid (Z.o.1.i.bal0 Z.o.2 HN.o.1 HN.o.2 hf);have HF:=hid (λ(W:World) (gg:Gr w1 W)=>ZtQ (Z.o.1.i.gr gg) Z.o.1.o);have M:s1.A.hp=ap:=Z.o.1.hp.trans HP.o.symm;rw[M]at HF;clear hf M;go_upto_region 5 with(go_at_call 103;refine(HA.o).mono ?_;rintro e w2 ⟨rfl,D⟩;have I:=hid D;clear D);clear U yl;go_upto_region 6 with(go_at_call 83;refine(HF.o _ I.o).mono ?_;rintro e w3 ⟨rfl,s2,h1,h2,h3,h4⟩;have Y:=hid (ν ((Z.o.1.gr I.o).trans h1) h4);clear h1 h2 h3 h4);have U:=Y.o.1.rnc HP.o;have yl:=ZQf U;have N:=Y.o.1.o.2 Y.o.2;have HO2:=hid N;by_cases hf:s2.top+n<=s2.base+c.wd
  ·have HA:=hid (Y.o.1.i.bal1 (Xbc.none N) HN.o.1 HN.o.2 hf);clear hf N;go_wp2_with(go_at_call 103;refine(HA.o).mono ?_;rintro e w4 ⟨rfl,ha⟩;have V:=hid ha;clear ha);go_ret2;exact QAH.ok Y.o.1 V.o
  ·have HA:=hid (Y.o.1.i.bal0 (Xbc.none N) HN.o.1 HN.o.2 hf);have HC:=hid (λ(W:World) (gg:Gr w3 W)=>Vn4 (Y.o.1.i.gr gg) Y.o.1.o);have M:s2.A.hp=ap:=Y.o.1.hp.trans HP.o.symm;rw[M]at HC;clear hf M N;go_upto_region 9 with(go_at_call 103;refine(HA.o).mono ?_;rintro e w4 ⟨rfl,G⟩;have B:=hid G;clear G);clear U yl;go_upto_region 10 with(go_at_call 46;refine(HC.o _ B.o).mono ?_;rintro e w5 ⟨rfl,s3,h1,h2,h3⟩;have J:=hid (ν ((Y.o.1.gr B.o).trans h1) (ν h2 h3));clear h1 h2 h3);have U:=J.o.1.rnc HP.o;have yl:=ZQf U;have O:=J.o.1.o.2 J.o.2.1;by_cases hf:s3.top+n<=s3.base+c.wd
   ·have HA:=hid (J.o.1.i.bal1 (Xbc.none O) HN.o.1 HN.o.2 hf);clear hf O;go_wp2_with(go_at_call 103;refine(HA.o).mono ?_;rintro e w6 ⟨rfl,ha⟩;have V:=hid ha;clear ha);go_ret2;exact QAH.ok J.o.1 V.o
   ·have HA:=hid (J.o.1.i.bal0 (Xbc.none O) HN.o.1 HN.o.2 hf);have HF:=hid hf;clear hf O;go_wp2_with(go_at_call 103;refine(HA.o).mono ?_;rintro e w6 ⟨rfl,E⟩;have Xa:=hid E;clear E);go_ret2;exact .inl ⟨by have:=HF.o;have:=J.o.2.2;omega,rfl,s3,J.o.1.gr Xa.o⟩
end
end
section
open Go.RowKit Go.Shelf Word
theorem ZnB(t:TypeId)(x y:Nat):(∃r,∀w,(binOp .mul t (.float .f64 x) (.float .f64 y)).run prog w=.ok (.float .f64 r) w)\/(∀w,∃r,(binOp .mul t (.float .f64 x) (.float .f64 y)).run prog w=.ok (.float .f64 r) w.drew):=by
 cases h:floatBits .mul .f64 x y with
 | some r=>exact .inl ⟨r,λw=>run_float_arith w .mul t .f64 x y r h⟩
 | none=>
  refine .inr λw=>?_;unfold floatBits at h;simp only at h;have hf:(Question.nanBits FloatKind.f64 x y).forced=false:=rfl;simp[binOp,Op.floatArith,h,choose,Sem.run,hf]
section
variable {w w' w1 w2:World} {c:HCf} {g g':Gph} {s:HSt} {n:Nat}
theorem Y88(h:HIn w c g s):Calls prog 61 #[.pointer (some ⟨s.A.hp,0,none⟩)] w λe w'=>∃b,e=.returned (.bool b)/\Gr w w':=by
 have HC:=hid (λ(W:World) (gg:Gr w W)=>(h.com.gr gg).row);have HB:=hid (λ(W:World) (gg:Gr w W)=>JFl (h.com.gr gg).rn);have HT:=hid (λ(W:World) (gg:Gr w W)=>Vkj (h.com.gr gg).rn);have hbt:=h.bt;have hhi:=h.hi;obtain⟨ap,hp⟩:∃ap,ap=s.A.hp:=⟨_,rfl⟩;rw[<-hp]at HC⊢;have E:=underlying3;have M:=underlying31;have hcv:∀(n:Int) (w:World),(convert 3 31 (.int .i64 n)).run prog w=.ok (.float .f64 (floatOfInt .f64 n)) w:=λn w=>run_convert_int_float w _ _ _ _ n (by rw[E];rfl) M;clear E M;clear h hp;go_enter func61,ntmps61;go_upto_region 1 with(fail);obtain⟨Sx,J,HS⟩:=ZJV.start λW'=>Rec W' ap 92 (hpL c s.A s.o s.cyc s.blk);have D:∀p:ZJV Sx,p.w.cell? ⟨ap,10,none⟩=some (.pointer (some ⟨s.A.rn,0,none⟩)):=λp=>by have h:=ZJV.get J p;exact h.cc 10
 have Y:=HS.o _ (HC.o _ (Gr.refl w).drew);have U:Inhabited (ZJV Sx):=⟨⟨_,Y⟩⟩;clear J;refine Vv2 Sx 13 [([0,1,2,3,5,6,7,8],4),([],9)] [10,11,12] (by kernel_rfl) (by kernel_rfl) Y ?_;refine XGW ?_
 try simp only[XZy,ζ,ξ]
 repeat(go_big_quiet_step (fail))
 refine θ ?_;go_wp2_with((go_at_call 89;refine JmE (HT.o _ (Gr.refl w).drew) ?_));refine⟨.inr (ZJV.of (HS.o _ (HC.o _ (Gr.refl w).drew))),?_⟩;refine XGW ?_
 try simp only[XZy,ζ,ξ]
 repeat(go_big_quiet_step (fail))
 refine θ ?_;go_wp2_with((go_at_call 88;refine JmE (HB.o _ (Gr.refl w).drew) ?_));refine⟨.inr (ZJV.of (HS.o _ (HC.o _ (Gr.refl w).drew))),?_⟩;refine Z9U ?_
 try simp only[XZy,ζ,ξ]
 repeat(go_big_quiet_step (fail))
 refine θ ?_;refine β ?_;clear D Y U;clear HS Sx;generalize floatOfInt .f64 ((s.top:Int)-s.base)=fu at *
 have N:=HC.o _ (Gr.refl w).drew;have O:=(Gr.refl w).drew;generalize w.drew=w9 at N O⊢;have V:=hid N;have I:=hid O;clear N O HC HB HT;go_upto_region 2 with(fail);obtain⟨r,Z⟩|Z:=ZnB 31 c.tr (floatOfInt .f64 c.wd)
 ·have y3:=V.o.cc 3;have y7:=V.o.cc 7;have yl:=V.o.lt;go_quiet (fail);go_wp2;go_ret;exact⟨_,rfl,I.o.drewN _⟩
 ·have L:=hid Z;clear Z;obtain⟨Sx,J,HS⟩:=ZJV.start λW'=>Rec W' ap 92 (hpL c s.A s.o s.cyc s.blk);have y3:∀p:ZJV Sx,p.w.cell? ⟨ap,3,none⟩=some (.int .i64 c.wd):=λp=>by have h:=ZJV.get J p;exact h.cc 3
  have y7:∀p:ZJV Sx,p.w.cell? ⟨ap,7,none⟩=some (.float .f64 c.tr):=λp=>by have h:=ZJV.get J p;exact h.cc 7
  obtain⟨r,Z⟩:=L.o w9.drew;have Y:=HS.o _ (V.o.gr (Gr.refl w9).drew);have U:Inhabited (ZJV Sx):=⟨⟨_,Y⟩⟩;clear J;refine Vv2 Sx 15 [([0,1,2,3,4,5,6,7,8,9,10,11],12)] [13,14] (by kernel_rfl) (by kernel_rfl) Y ?_;refine XGW ?_
  try simp only[XZy,ζ,ξ]
  repeat(go_big_quiet_step (fail))
  refine θ ?_;go_wp2_with(fail);refine⟨.inr (ZJV.of (HS.o _ (V.o.gr (Gr.refl w9).drew.drew))),?_⟩;refine Z9U ?_
  try simp only[XZy,ζ,ξ]
  repeat(go_big_quiet_step (fail))
  refine θ ?_;refine β ?_;clear y3 y7 Y U;clear HS Sx;go_wp2;go_ret;exact⟨_,rfl,I.o.drew.drew⟩
end
end
section
open Go.RowKit Go.Shelf Word
section
variable {w w' w1 w2:World} {c:HCf} {g g':Gph} {s:HSt} {n:Nat}
theorem Xfw.cutGr{wA:World}{s':HSt}(gr:Gr w wA)(h:Xfw wA c (s.cut w) g' s' w'):Xfw w c s g' s' w':=
 ⟨(gr.touch _).trans' (h.t.mono (λk _ hk=>hk.imp (λh=>h.1) id)) (λ_ _ h=>h),h.i,h.hp,λk hk=>by
  rcases h.S k hk with h1|h1
  ·exact .inl (h1.imp (λh=>h.1) id)
  ·exact .inr (ζb gr.size h1),h.o⟩
theorem HAl.mkd(h:HIn w1 c g s)(hn:s.o=none↔s.lf=0)(ha:HAl w1 c g s n w'){p f k:Nat}(hs:p+f+k<=255)(hnn:n=1+p+f+k){a:Int}(hsl:g.sl a=true):∀W,Gr w' W →
  Calls prog 59 #[spV s.A.q,.int .i64 s.top,X79 ⟨p,f,k⟩] W λe w2=>e=.returned (.int .i64 0)/\Rec w2 s.A.hp 92 (hpL c s.A s.o s.cyc s.blk)/\XF4 (plus s.X w1) W w2 ∧
   Calls prog 60 #[.pointer (some ⟨s.A.r,0,none⟩),.int .i64 a,.int .i64 s.top] w2 λe w3=>e=.returned (.int .i64 0)/\∃s4,Xfw w1 c s (g.add a.toNat p f k) s4 w3/\s4.o=s.o/\s4.A=s.A:=λW gW=>by
 have Xi:=h.bt
 have O:0<s.top:=by
  have:=h.cok.pg1;have:=h.bs;omega
 have Z:=ha.gr gW;obtain⟨v1,Sv,hV,U,Xe,u',D,Xd,I,M,Xf⟩:=Z.gw.made O hs hnn;refine(V9e hV s.top ⟨p,f,k⟩).mono ?_;rintro e w2 ⟨rfl,t2,B⟩;have Xa:=D w2 t2 B;have Y:=Z.com.mem (t2.mono (λk _ hk=>U k hk));rw[Xe];refine⟨rfl,Y.row,t2.mono (λk _ hk=>U k hk),?_⟩;obtain⟨i,rfl,Xg,hi2⟩:=XdH hsl;refine(VHr Y.rt (i:=i) (by rw[s.len];exact Xg) (a:=(s.top:Int)) (ψr _)).mono ?_;rintro e w3 ⟨rfl,t3,Xc⟩;have N:=XS7 hs;have E:=Q66 (v:=u') (a:=(s.top:Int)) Ω (I s.top (π _) Ω) (by rw[M];exact N.1);have J:=h.img.add (s:=i) h.gok hs (v':=u') (A:=s.top) (π _) Xi.1 E.1 (by rw[E.2,M];exact N.2) (λm hm=>⟨by rw[show s.top+1+m=s.top+(1+m)by omega];exact I _ Ω Ω,Xf m hm⟩) (λb _ b2 b3=>Xd b b2 b3);have V:s.top+1+p+f+k=s.top+n:=Ω
 rw[V]at J
 have Xh:(g.add i p f k).S.map (λx=>((if x=g.L.length+1 then s.top else s.F x:Nat):Int))=(s.rs g).set i (s.top:Int):=by
  unfold HSt.rs Gph.add;rw[ξG];simp only[if_true];congr 1;refine ξR λx hx=>?_;have:=h.gok.st x hx;rw[ϑ Ω]
 have Xb:¬plus (plus s.X w1) W s.A.g:=Y.x.2.2.1;refine⟨rfl,{s with X:=plus (plus s.X w1) W,top:=s.top+n,u:=u',F:=λx=>if x=g.L.length+1 then s.top else s.F x},⟨?_,⟨?_,Xa.touch t3 (λb hb e=>⟨λhx=>Xb (by rw[<-e];exact hx),λe2=>Y.n3.2.1 (by rw[<-e,e2])⟩) (λ_ h=>h),J,h.gok.add hs,h.cok,⟨by show s.base<=s.top+n;omega,ha.fit⟩,h.bs,?_⟩,rfl,λb hb=>?_,hn⟩,rfl,rfl⟩
 ·have ta:XF4 s.S w1 W:=Z.t.mono (λb _ hb=>hb.elim (λe=>.inr (.inr (.inr (.inr e)))) .inl);refine(ta.trans' (t2.mono (λb _ hb=>U b hb)) (λb hb e=>?_)).trans' t3 (λb hb e=>.inr (.inr (.inl e)));rcases e with e|e
  ·exact .inl e
  ·omega
 ·have:=Y.root t3 Xc
  show XL4 w3 _ s.A c s.base (s.top+n) ((g.add i p f k).S.map _) s.o s.cyc s.blk
  rw[Xh];exact this
 ·show (g.S.set _ _).length=c.sl
  rw[υ];exact h.sl
 ·have G:=Z.t.size;rcases hb with hb|hb|hb|hb|hb
  ·rcases hb with(hb|hb)|hb
   ·exact .inl (.inl hb)
   ·exact .inr hb
   ·exact .inr (ζb G hb)
  ·exact .inl (.inr (.inl hb))
  ·exact .inl (.inr (.inr (.inl hb)))
  ·exact .inl (.inr (.inr (.inr (.inl hb))))
  ·exact .inl (.inr (.inr (.inr (.inr hb))))
end
end
end Go.Proofs.YteihjlcmjecmfaaGreatDoor
