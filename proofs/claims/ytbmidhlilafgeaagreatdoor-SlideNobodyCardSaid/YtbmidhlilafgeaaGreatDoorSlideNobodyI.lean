/- Part 9 of what SlideNobody leans on: my own lemmas, merged by shake.py. -/
import Derived.Test.YtbmidhlilafgeaaGreatDoorSlideNobodyH
section
namespace Go.Proofs.YtbmidhlilafgeaaGreatDoor
open Go.RowKit Go.Shelf Word
attribute [local go_sem] Oper.semAt_some
theorem sl_plan {w:World} {m p1 b1 p2 b2 n:Nat} {L:List Ob} (hE:Ext w m p1 b1 p2 b2 n L) (hT:TabAt w) {B base:Nat} (hB:blockOk B=true) (hb:base<2147483648):
  Calls Tryz.prog 105 #[.pointer (some ⟨m,0,none⟩),.int .i64 B,.int .i64 base] w fun e w'=>∃ p,e=.returned (.tuple #[.pointer (some ⟨p,0,none⟩),.int .i64 0])/\Gr w w'/\Pln w' w.heap.size p n B base L:=by
 have hbp:=blockOk_pos hB
 refine (pln_new hE hT (B:Int) (base:Int) (by omega)).mono ?_
 have hbo:baseOk (base:Int)=true:=by unfold baseOk;rw [decide_eq_true (by omega),decide_eq_true (by omega)];rfl
 rintro e w' ⟨hg,(⟨h,-⟩ | ⟨-,p,B',base',e1,e2,rfl,hP⟩)⟩
 ·rw [hB,hbo] at h;cases h
 ·obtain rfl:B=B':=by omega
  obtain rfl:base=base':=by omega
  exact ⟨p,rfl,hg,hP⟩
def OpenEnd (w:World) (S:Nat->Prop) (q r g:Nat) (v:Vm) (rs:List Int) (c:Cf) (e:Ending) (w':World):Prop:=
 Touch (fun b=>b=g\/S b) w w' ∧
  (((∀ L,¬ PkIn v rs c.fr c.tp L)/\e=.returned (.tuple #[.pointer none,.int .i64 25])/\VmAt w' S q v/\RtAt w' r g rs) ∨
  ∃ L,PkIn v rs c.fr c.tp L ∧
   ((c.lm-c.to<sizes L/\e=.returned (.tuple #[.pointer none,.int .i64 21])/\VmAt w' S q v/\RtAt w' r g rs) ∨
   (sizes L<=c.lm-c.to/\∃ (y:Nat) (z:SlAd) (R S':Nat->Prop) (v':Vm) (j:Nat),e=.returned (.tuple #[.pointer (some ⟨y,0,none⟩),.int .i64 0])/\Cyc w' R y q z (slNew v c L)/\VmAt w' S' q v'/\(∀ b,S' b->S b\/w.heap.size<=b)/\(∀ b,R b->w.heap.size<=b/\¬ S' b) ∧
    OpUm (slNew v c L) v v' (c.fr/v.pl.pg) j/\c.tp<=(c.fr/v.pl.pg+j)*v.pl.pg/\(∀ i,i<j->(c.fr/v.pl.pg+i)*v.pl.pg<c.tp)/\RtAt w' r g (rs.map (toV L c.to)))))
theorem infoBool:(Tryz.prog.info? 4).map (fun i=>(i.zero,i.size,i.bytes))=some (some (.bool false),1,1):=by kernel_rfl
structure OpJ (wa w:World) (D:Nat->Bool) (q p m nb:Nat) (c:Cf) (v55 v56 v57 v58 v59 v60 v61 v62 v63 v64 v65 v66 v67 v13:Value):Prop where
 e55:v55=.pointer (some ⟨q,0,none⟩)
 e56:v56=.agg #[.int .i64 c.fr,.int .i64 c.tp,.int .i64 c.to,.int .i64 c.lm,.int .i64 c.bk,.int .i64 c.st,.int .i64 c.ah]
 e57:v57=.pointer (some ⟨p,0,none⟩)
 e58:v58=.pointer (some ⟨m,0,none⟩)
 e59:v59=.pointer (some ⟨p,0,none⟩)
 e62:v62=.pointer (some ⟨p,0,none⟩)
 e60:D 5=true->v60=.int .i64 nb
 e61:D 6=true->∃ b,v61=.slice (some ⟨b,0,none⟩) nb nb/\w.ownsRow 0 4 1 v61 nb (List.replicate nb (.bool false))/\wa.heap.size<=b
 e63:D 8=true->v63=.int .i64 nb
 e64:D 9=true->∃ b,v64=.map (some b)/\MapI Tryz.prog 3 w b 0 (fun _=>none)/\wa.heap.size<=b
 e65:D 10=true->∃ b,v65=.map (some b)/\MapI Tryz.prog 3 w b 0 (fun _=>none)/\wa.heap.size<=b
 ne:D 9=true->D 10=true->v64≠v65
 e66:D 11=true->D 6=true/\D 8=true/\D 9=true/\D 10=true/\v66=.agg #[v55,.int .i64 c.fr,.int .i64 c.tp,.int .i64 c.to,.int .i64 c.lm,.int .i64 c.bk,.int .i64 c.st,.int .i64 c.ah,v57,v58,v61,v63,.int .i64 0,.int .i64 0,v64,v65]
 e67:D 12=true->D 11=true/\∃ b,v67=.pointer (some ⟨b,0,none⟩)/\wa.heap.size<=b/\Rec w b 144 [v55,.int .i64 c.fr,.int .i64 c.tp,.int .i64 c.to,.int .i64 c.lm,.int .i64 c.bk,.int .i64 c.st,.int .i64 c.ah,v57,v58,v61,v63,.int .i64 0,.int .i64 0,v64,v65]
 e13:D 13=true->∃ b,v13=.pointer (some ⟨b,0,none⟩)/\wa.heap.size<=b/\Rec w b 67 [if D 14 then v67 else .pointer none]
 d14:D 14=true->D 12=true/\D 13=true
 t:Touch (fun i=>wa.heap.size<=i) wa w
theorem OpJ.gr {wa w w':World} {D:Nat->Bool} {q p m nb:Nat} {c:Cf} {v55 v56 v57 v58 v59 v60 v61 v62 v63 v64 v65 v66 v67 v13:Value} (h:OpJ wa w D q p m nb c v55 v56 v57 v58 v59 v60 v61 v62 v63 v64 v65 v66 v67 v13) (g:Gr w w'):OpJ wa w' D q p m nb c v55 v56 v57 v58 v59 v60 v61 v62 v63 v64 v65 v66 v67 v13:=
 ⟨h.e55,h.e56,h.e57,h.e58,h.e59,h.e62,h.e60,fun d=>by obtain ⟨b,h1,h2,h3⟩:=h.e61 d;exact ⟨b,h1,own_gr h2 g,h3⟩,h.e63,fun d=>by obtain ⟨b,h1,h2,h3⟩:=h.e64 d;exact ⟨b,h1,h2.gr g,h3⟩,fun d=>by obtain ⟨b,h1,h2,h3⟩:=h.e65 d;exact ⟨b,h1,h2.gr g,h3⟩,h.ne,h.e66,
  fun d=>by obtain ⟨h0,b,h1,h2,h3⟩:=h.e67 d;exact ⟨h0,b,h1,h2,h3.gr g⟩,fun d=>by obtain ⟨b,h1,h2,h3⟩:=h.e13 d;exact ⟨b,h1,h2,h3.gr g⟩,h.d14,h.t.trans (g.touch _)⟩
def OpI (wa:World) (q p m nb:Nat) (c:Cf) (a0:Act) (D:Nat->Bool) (a:Act) (w:World):Prop:=
 ∃ v55 v56 v57 v58 v59 v60 v61 v62 v63 v64 v65 v66 v67 v13:Value,a=(((((((((((((a0.put (some 55) v55).put (some 56) v56).put (some 57) v57).put (some 58) v58).put (some 59) v59).put (some 60) v60).put (some 61) v61).put (some 62) v62).put (some 63) v63).put (some 64) v64).put (some 65) v65).put (some 66) v66).put (some 67) v67).put (some 13) v13/\OpJ wa w D q p m nb c v55 v56 v57 v58 v59 v60 v61 v62 v63 v64 v65 v66 v67 v13
theorem Sl.on_next (s:Sl) {mm:Nat} (hm:mm<sizes s.L) (q:Nat):s.on (fun i=>decide (i<mm+1)) q=s.on (fun i=>decide (i<mm)) q+(if srcO s.L mm/s.pg=q then 1 else 0):=by
 have h:=Sl.on_but (s:=s) (U:=fun i=>decide (i<mm+1)) (i:=mm) (q:=q) hm (by simp)
 have e:s.on (but (fun i=>decide (i<mm+1)) mm) q=s.on (fun i=>decide (i<mm)) q:=Sl.on_congr fun j _=>by
  unfold but
  by_cases h1:j=mm
  ·subst h1;simp
  ·have e1:(j==mm)=false:=beq_eq_false_iff_ne.2 h1
   rw [e1,Bool.not_false,Bool.and_true]
   exact decide_eq_decide.2 (by omega)
 rw [e] at h
 exact h.symm
theorem len_sizes {n:Nat} {L:List Ob} (hg:Good n L):L.length<=sizes L:=by
 have:∀ l:List Ob,(∀ o∈l,1<=o.2)->l.length<=sizes l:=fun l=>by
  induction l with
  | nil=>intro _;exact Nat.le_refl _
  | cons o r ih=>
   intro h
   have h1:=ih (fun x hx=>h x (List.mem_cons_of_mem _ hx))
   have h2:=h o (List.mem_cons_self ..)
   simp only [List.length_cons,sizes];omega
 exact this L (fun o ho=>(hg.sz o ho).1)
structure OpA (W5 A:World) (b64 b65:Nat) (v:Vm) (s:Sl) (j mm:Nat):Prop where
 t:Touch (fun i=>(i=b64\/i=b65)\/W5.heap.size<=i) W5 A
 sh:∃ n f,MapI Tryz.prog 3 A b65 n f/\n<=j/\∀ i (h:i<s.L.length),i<j->f (s.L[i].1:Nat)=some (hdrV (v.rdH (s.L[i].1:Nat)))
 wd:∃ n f,MapI Tryz.prog 3 A b64 n f/\n<=mm/\∀ q:Nat,(f (q:Nat)).getD (.int .i64 0)=.int .i64 (s.on (fun i=>decide (i<mm)) q:Nat)
theorem OpA.win {W5 A B:World} {b64 b65:Nat} {v:Vm} {s:Sl} {j mm K:Nat} (h:OpA W5 A b64 b65 v s j mm) (h4:b64<W5.heap.size) (h5:b65<W5.heap.size) (t:Touch (fun k=>W5.heap.size<=k/\k<K) A B):OpA W5 B b64 b65 v s j mm:=by
 obtain ⟨n1,f1,a1,a2,a3⟩:=h.sh
 obtain ⟨n2,f2,c1,c2,c3⟩:=h.wd
 exact ⟨h.t.trans (t.mono (fun i _ h=>.inr h.1)),⟨n1,f1,a1.touch t (fun h=>by omega),a2,a3⟩,⟨n2,f2,c1.touch t (fun h=>by omega),c2,c3⟩⟩
theorem OpA.zero {W5:World} {b64 b65:Nat} {v:Vm} {s:Sl} (h4:MapI Tryz.prog 3 W5 b64 0 (fun _=>none)) (h5:MapI Tryz.prog 3 W5 b65 0 (fun _=>none)):OpA W5 W5 b64 b65 v s 0 0:=
 ⟨Touch.refl _ _,⟨0,_,h5,Nat.le_refl _,fun i _ h=>absurd h (Nat.not_lt_zero _)⟩,⟨0,_,h4,Nat.le_refl _,fun q=>by
  have:s.on (fun i=>decide (i<0)) q=0:=Sl.on_iff.2 (fun j _ h=>by simp at h)
  rw [this];rfl⟩⟩
theorem OpA.hdr {W5 A B:World} {b64 b65 n:Nat} {v:Vm} {s:Sl} {j mm:Nat} {f:Int->Option Value} (h:OpA W5 A b64 b65 v s j mm) (hj:j<s.L.length) (hne:b64≠b65) (hn:n<=j) (hf:∀ i (h:i<s.L.length),i<j->f (s.L[i].1:Nat)=some (hdrV (v.rdH (s.L[i].1:Nat)))) (hg:Good s.n s.L)
  (hm:MapI Tryz.prog 3 B b65 (n+1) (fun y=>if y=((s.L[j].1:Nat):Int) then some (hdrV (v.rdH (s.L[j].1:Nat))) else f y)) (t:Touch (fun i=>i=b65) A B):OpA W5 B b64 b65 v s (j+1) mm:=by
 obtain ⟨n2,f2,c1,c2,c3⟩:=h.wd
 refine ⟨h.t.trans (t.mono (fun i _ h=>.inl (.inr h))),⟨n+1,_,hm,by omega,fun i hi hij=>?_⟩,⟨n2,f2,c1.touch t hne,c2,c3⟩⟩
 by_cases e:i=j
 ·subst e
  exact if_pos rfl
 ·have h1:=hg.at hi hj (by omega)
  have h2:=(hg.sz _ (List.getElem_mem hi)).1
  rw [if_neg (by omega)]
  exact hf i hi (by omega)
theorem OpA.word {W5 A B:World} {b64 b65 n x:Nat} {v:Vm} {s:Sl} {j mm:Nat} {f:Int->Option Value} (h:OpA W5 A b64 b65 v s j mm) (hm:mm<sizes s.L) (hne:b64≠b65) (hn:n<=mm) (hf:∀ q:Nat,(f (q:Nat)).getD (.int .i64 0)=.int .i64 (s.on (fun i=>decide (i<mm)) q:Nat))
  (hx:x=s.on (fun i=>decide (i<mm)) (srcO s.L mm/s.pg)+1) (hM:MapI Tryz.prog 3 B b64 (n+1) (fun y=>if y=((srcO s.L mm/s.pg:Nat):Int) then some (.int .i64 x) else f y)) (t:Touch (fun i=>i=b64) A B):OpA W5 B b64 b65 v s j (mm+1):=by
 obtain ⟨n1,f1,a1,a2,a3⟩:=h.sh
 refine ⟨h.t.trans (t.mono (fun i _ h=>.inl (.inl h))),⟨n1,f1,a1.touch t (fun e=>hne e.symm),a2,a3⟩,⟨n+1,_,hM,by omega,fun q=>?_⟩⟩
 rw [s.on_next hm q]
 by_cases e:srcO s.L mm/s.pg=q
 ·subst e
  rw [if_pos rfl,if_pos rfl,hx];rfl
 ·rw [if_neg e,if_neg (by omega),hf q];rfl
theorem sl_cyc0 {w2 w3 W5 W7:World} {q m p1 b1 p2 b2 p y b61 b64 b65 nb lo:Nat} {v:Vm} {c:Cf} {L:List Ob} {T:Nat->Prop}
  (hE2:Ext w2 m p1 b1 p2 b2 v.n L) (hg:Gr w2 w3) (hP:Pln w3 w2.heap.size p v.n c.bk c.to L) (hlo:lo<=w2.heap.size/\lo<=m/\lo<=p1/\lo<=b1/\lo<=p2/\lo<=b2)
  (t3:Touch (fun i=>w3.heap.size<=i) w3 W5) (hge:w3.heap.size<=y/\w3.heap.size<=b61/\w3.heap.size<=b64/\w3.heap.size<=b65) (hnb:nb=nbl (sizes L) c.bk)
  (hY:Rec W5 y 144 [.pointer (some ⟨q,0,none⟩),.int .i64 c.fr,.int .i64 c.tp,.int .i64 c.to,.int .i64 c.lm,.int .i64 c.bk,.int .i64 c.st,.int .i64 c.ah,.pointer (some ⟨p,0,none⟩),.pointer (some ⟨m,0,none⟩),.slice (some ⟨b61,0,none⟩) nb nb,.int .i64 nb,.int .i64 0,.int .i64 0,.map (some b64),.map (some b65)])
  (hO:W5.ownsRow 0 4 1 (.slice (some ⟨b61,0,none⟩) nb nb) nb (List.replicate nb (.bool false))) (h4:MapI Tryz.prog 3 W5 b64 0 (fun _=>none)) (h5:MapI Tryz.prog 3 W5 b65 0 (fun _=>none)) (hne:b64≠b65)
  (hA:OpA W5 W7 b64 b65 v (slNew v c L) L.length (sizes L)) (hT:∀ i,i<W5.heap.size->i≠b64->i≠b65->¬ T i) (t7:Touch T W5 W7):
  Cyc W7 (fun b=>lo<=b/\b<W5.heap.size) y q ⟨w2.heap.size,w3.heap.size,p,m,p1,b1,p2,b2,b65,b61,nb,b64⟩ (slNew v c L):=by
 obtain ⟨l1,l2,l3,l4,l5,l6⟩:=hlo
 obtain ⟨g1,g2,g3,g4⟩:=hge
 have s23:=hg.size
 have s35:=t3.size
 have s57:=t7.size
 have hm:=hE2.hm
 have hp1:=hE2.v1.hp
 have hb1:=hE2.v1.hb
 have hp2:=hE2.v2.hp
 have hb2:=hE2.v2.hb
 have hyl:=hY.lt
 have h61l:=(own_lt hO rfl).2
 have h64l:=h4.lt
 have h65l:=h5.lt
 have n1:b61≠y:=own_ne hO hY (by decide) rfl rfl
 have n2:=h4.ne (rec_cells hY)
 have n3:=h5.ne (rec_cells hY)
 obtain ⟨cur,hcur⟩:=own_type hO rfl
 have n4:=h4.ne (q:=b61) ⟨cur,_,hcur⟩
 have n5:=h5.ne (q:=b61) ⟨cur,_,hcur⟩
 have g35:Gr w3 W5:=(t3.mono (T:=fun _=>False) (fun i hi h=>absurd hi (Nat.not_lt_of_le h))).gr
 obtain ⟨nh,fh,a1,a2,a3⟩:=hA.sh
 obtain ⟨nw,fw,d1,d2,d3⟩:=hA.wd
 refine ⟨⟨hm,hp1,hb1,hp2,hb2,s23,by show w3.heap.size<=_;omega,g1,g2,g3,g4,n1.symm,n2.symm,n3.symm,n4.symm,n5.symm,hne,⟨by omega,hyl⟩,⟨by show lo<=b61;omega,h61l⟩,⟨by show lo<=b64;omega,h64l⟩,⟨by show lo<=b65;omega,h65l⟩,⟨l2,by show m<_;omega⟩,⟨l3,by show p1<_;omega⟩,⟨l4,by show b1<_;omega⟩,⟨l5,by show p2<_;omega⟩,⟨l6,by show b2<_;omega⟩,fun k h1 h2=>⟨by have:w2.heap.size<=k:=h1;omega,by have:k<w3.heap.size:=h2;omega⟩,fun k hk=>by omega⟩,?_,fun W tW=>hP.touch ((t3.mono (fun i _ h=>.inr h)).trans ((t7.mono (fun i hi h=>?_)).trans tW)) (fun k h1 h2 h=>by rcases h with h | h;(have:k<w2.heap.size:=h;omega);(have:w3.heap.size<=k:=h;omega)),?_,⟨nh,fh,a1,fun j hj=>a3 j hj hj⟩,⟨nw,fw,d1,?_,fun qq=>?_⟩,?_⟩
 ·have h:=hY.touch t7 (hT _ hyl n2.symm n3.symm)
  show Rec W7 y _ (cycL q c _ (slNew v c L).mv.length (slNew v c L).lf (slNew v c L).ft ((slNew v c L).mvd-(slNew v c L).ft))
  rw [slNew_lf,slNew_ft,slNew_mvd]
  have hl:(slNew v c L).mv.length=nb:=by rw [hnb];exact List.length_replicate
  rw [hl,<-hnb]
  exact h
 ·right
  show w3.heap.size<=i
  refine Nat.le_of_not_lt fun h'=>?_
  exact hT i (by omega) (by omega) (by omega) h
 ·exact (((hE2.gr hg).gr g35).touch t7 (hT _ (by omega) (by omega) (by omega)) (hT _ (by omega) (by omega) (by omega)) (hT _ (by omega) (by omega) (by omega)) (hT _ (by omega) (by omega) (by omega)) (hT _ (by omega) (by omega) (by omega)))
 ·have h1:cnt (fun i=>!(slNew v c L).is i) (sizes (slNew v c L).L)<=sizes (slNew v c L).L:=cnt_le _ _
  have h2:nw<=sizes (slNew v c L).L:=d2
  omega
 ·rw [d3 qq]
  have:(slNew v c L).on (fun i=>decide (i<sizes L)) qq=(slNew v c L).on (fun i=>!(slNew v c L).is i) qq:=Sl.on_congr fun i hi=>by
   have hi':i<sizes L:=hi
   rw [slNew_is,decide_eq_true hi'];rfl
  rw [this]
 ·have h:=own_touch hO t7 (fun g hg=>by cases hg;exact hT _ h61l n4.symm n5.symm)
  have hl:(slNew v c L).mv.length=nb:=by rw [hnb];exact List.length_replicate
  have hb:bls (slNew v c L).mv=List.replicate nb (.bool false):=by
   show (List.replicate (nbl (sizes L) c.bk) false).map Value.bool=_
   rw [List.map_replicate,hnb]
  rw [hl,hb]
  exact h
structure UmO (w8 wx:World) (S5:Nat->Prop) (q:Nat) (s:Sl) (v:Vm) (q0 j pg tp:Nat):Prop where
 t:Touch S5 w8 wx
 vm:∃ Sj v',(∀ b,Sj b->plus S5 w8 b)/\VmAt wx Sj q v'/\OpUm s v v' q0 j
 q1:∀ i,i<j->(q0+i)*pg<tp
section
variable {w:World} {S:Nat->Prop} {q r g:Nat} {v:Vm} {rs:List Int} {c:Cf}
set_option maxRecDepth 100000 in
set_option maxHeartbeats 12800000 in
theorem sl_open (hV:VmAt w S q v) (hR:RtAt w r g rs) (hT:TabAt w) (htS:¬ S 0) (hrS:¬ S r) (hgS:¬ S g) (hcf:CfOk v.pl.pg v.n c) (htr:0≠g):
  Calls Tryz.prog 47 #[.pointer (some ⟨q,0,none⟩),.pointer (some ⟨r,0,none⟩),cfV c] w (OpenEnd w S q r g v rs c):=by
 have HV:=hid hV.cut
 have HR:=hid hR
 have HT:=hid hT
 have HNO:=hid (And.intro htS (And.intro hrS (And.intro hgS htr)))
 have htl:=hT.lt
 have hrl:=hR.lt
 have hn2:=hV.ok.n2
 have hpg:=hV.ok.page
 have HOK:=hid hV.ok
 have HCF:=hid hcf
 have hn1:1<=v.n:=by have:=hcf.fr;have:=hcf.tp;have:=hcf.tn;omega
 have hne:rs.length≠0:=fun e=>hR.ne (List.eq_nil_of_length_eq_zero e)
 have hle:=hR.le
 have hcb:c.lm<=v.n/\c.to<=c.lm/\c.fr<=c.tp/\c.tp<=v.n:=⟨hcf.ln,hcf.lm,hcf.tp,hcf.tn⟩
 have HLEN:=hid (fun (W:World) (gW:Gr w W)=>rt_len (hR.gr gW))
 have HCK:=hid (fun (W:World) (gW:Gr w W)=>slide_check (hV.gr gW) hcf)
 have HRC:=hid (fun (W:World) (gW:Gr w W)=>sl_reached (c:=c) (hV.cut.gr gW) hn1 (hR.gr gW) (gW.tab htl hT) (fun h=>htS h.1) hcf.st)
 unfold cfV at HCK HRC ⊢
 obtain ⟨n,hnq⟩:∃ n,n=rs.length:=⟨_,rfl⟩
 have HN:=hid hnq
 rw [<-hnq] at hne hle HLEN
 have d0:((n:Int)==0)=false:=by simp;omega
 have HG1:=hid (((Gr.refl w).alloc (.cells #[.pointer (some ⟨q,0,none⟩)] 31)).alloc (.cells #[.int .i64 c.fr,.int .i64 c.tp,.int .i64 c.to,.int .i64 c.lm,.int .i64 c.bk,.int .i64 c.st,.int .i64 c.ah] 34))
 have rb3:=(Rec.new w 31 [.pointer (some ⟨q,0,none⟩)]).gr ((Gr.refl _).alloc (.cells #[.int .i64 c.fr,.int .i64 c.tp,.int .i64 c.to,.int .i64 c.lm,.int .i64 c.bk,.int .i64 c.st,.int .i64 c.ah] 34))
 have rb5:=new2 w (.cells #[.pointer (some ⟨q,0,none⟩)] 31) 34 [.int .i64 c.fr,.int .i64 c.tp,.int .i64 c.to,.int .i64 c.lm,.int .i64 c.bk,.int .i64 c.st,.int .i64 c.ah]
 obtain ⟨W0,hW0⟩:∃ W0,W0=(w.alloc (.cells #[.pointer (some ⟨q,0,none⟩)] 31)).alloc (.cells #[.int .i64 c.fr,.int .i64 c.tp,.int .i64 c.to,.int .i64 c.lm,.int .i64 c.bk,.int .i64 c.st,.int .i64 c.ah] 34):=⟨_,rfl⟩
 have hsz0:W0.heap.size=w.heap.size+2:=by rw [hW0];simp only [World.size_alloc]
 have HB3:Hid (Rec W0 w.heap.size 31 [.pointer (some ⟨q,0,none⟩)]):=⟨by rw [hW0];exact rb3⟩
 have HB5:Hid (Rec W0 (w.heap.size+1) 34 [.int .i64 c.fr,.int .i64 c.tp,.int .i64 c.to,.int .i64 c.lm,.int .i64 c.bk,.int .i64 c.st,.int .i64 c.ah]):=⟨by rw [hW0];exact rb5⟩
 have HG0:Hid (Gr w W0):=⟨by rw [hW0];exact HG1.out⟩
 have HS0:=hid hsz0
 clear hV hR hT htS hrS hgS htr hcf hnq rb3 rb5 HG1 hsz0
 refine (callsIn_wide (n:=5)).1 ?_
 refine callsIn_of_wp_marks Tryz.func47 rfl trivial ?_ rfl
 simp only [Tryz.ntmps47,List.size_toArray,List.length_cons,List.length_nil,Nat.reduceAdd,Nat.reduceSub,Array.replicate_succ,Array.replicate_zero,List.push_toArray,List.append_toArray,List.nil_append,List.cons_append]
 gi_upto_region 1 with (fail)
 rw [<-hW0]
 clear hW0
 have z3:=HB3.out.cell (j:=0) rfl
 have z50:=HB5.out.cell (j:=0) rfl
 have z51:=HB5.out.cell (j:=1) rfl
 have z52:=HB5.out.cell (j:=2) rfl
 have z53:=HB5.out.cell (j:=3) rfl
 have z54:=HB5.out.cell (j:=4) rfl
 have z55:=HB5.out.cell (j:=5) rfl
 have z56:=HB5.out.cell (j:=6) rfl
 have zl3:=HB3.out.lt
 have zl5:=HB5.out.lt
 gi_upto_region 6 with (first
  | (refine ⟨trivial,?_⟩;gi_at_call 63;refine (callsIn_wide.2 (HLEN.out _ HG0.out)).mono ?_;rintro e w1 ⟨rfl,rfl⟩)
  | (refine ⟨trivial,?_⟩;gi_at_call 53;refine (callsIn_wide.2 (HCK.out _ HG0.out)).mono ?_;rintro e w1 ⟨rfl,hg1⟩;have HG01:=hid (HG0.out.trans hg1);have HB31:=hid (HB3.out.gr hg1);have HB51:=hid (HB5.out.gr hg1);clear hg1))
 clear z3 z50 z51 z52 z53 z54 z55 z56 zl3 zl5
 have z3:=HB31.out.cell (j:=0) rfl
 have z50:=HB51.out.cell (j:=0) rfl
 have z51:=HB51.out.cell (j:=1) rfl
 have z52:=HB51.out.cell (j:=2) rfl
 have z53:=HB51.out.cell (j:=3) rfl
 have z54:=HB51.out.cell (j:=4) rfl
 have z55:=HB51.out.cell (j:=5) rfl
 have z56:=HB51.out.cell (j:=6) rfl
 have zl3:=HB31.out.lt
 have zl5:=HB51.out.lt
 have hz1:=HG01.out.size
 gi_upto_region 7 with (refine ⟨trivial,?_⟩;gi_at_call 104;refine (callsIn_wide.2 (HRC.out _ HG01.out)).mono ?_;rintro e w2 ⟨ht2,hv2,(⟨L,m,p1,b1,p2,b2,hI,rfl,hE,hm1,hm2,hm3,hm4,hm5⟩ | ⟨hno,rfl⟩)⟩ <;> (have HT2:=hid ht2;have HV2:=hid hv2;clear ht2 hv2))
 ·clear z3 z50 z51 z52 z53 z54 z55 z56 zl3 zl5
  have HI:=hid hI
  have HX:=hid hE
  have HMX:=hid (And.intro hm1 (And.intro hm2 (And.intro hm3 (And.intro hm4 hm5))))
  clear hI hE hm1 hm2 hm3 hm4 hm5
  have HB32:=hid (HB31.out.touch HT2.out (fun h=>by have:=h.2;omega))
  have HB52:=hid (HB51.out.touch HT2.out (fun h=>by have:=h.2;omega))
  have HTB2:Hid (TabAt w2):=⟨(HG01.out.tab htl HT.out).touch' HT2.out (fun h=>HNO.out.1 h.1)⟩
  have HPN:=hid (sl_plan HX.out HTB2.out HCF.out.bk (base:=c.to) (by omega))
  have z3:=HB32.out.cell (j:=0) rfl
  have z52:=HB52.out.cell (j:=2) rfl
  have z54:=HB52.out.cell (j:=4) rfl
  have zl5:=HB52.out.lt
  have hz2:=HT2.out.size
  gi_upto_region 10 with (refine ⟨trivial,?_⟩;gi_at_call 105;refine (callsIn_wide.2 (HPN.out)).mono ?_;rintro e w3 ⟨p,rfl,hg3,hP⟩;have HG3:=hid hg3;have HPL:=hid hP;clear hg3 hP)
  clear z3 z52 z54 zl5
  have HB33:=hid (HB32.out.gr HG3.out)
  have HB53:=hid (HB52.out.gr HG3.out)
  obtain ⟨hp1,hp2,hp3,f,c0,c1,hF⟩:=HPL.out
  have HFW:=hid (fun (W:World) (gW:Gr w3 W)=>pln_forward ((gW.cell hp1 0).trans c0))
  have HWS:=hid (fun (W:World) (gW:Gr w3 W)=>fwd_words (hF.gr gW))
  obtain ⟨N,hN⟩:∃ N,N=sizes L:=⟨_,rfl⟩
  have HSN:=hid hN
  have hNb:N<=1048576:=by rw [hN];have:=sizes_le HX.out.good;omega
  rw [<-hN] at HWS
  have x3:=HB53.out.cell (j:=3) rfl
  have x2:=HB53.out.cell (j:=2) rfl
  have xl:=HB53.out.lt
  have hpl:=hp1
  clear hp1 hp2 hp3 c0 c1 hF hN
  by_cases hbig:c.lm-c.to<N
  ·have d9:decide ((c.lm:Int)-(c.to:Int)<(N:Int))=true:=decide_eq_true (by omega)
   have HBIG:=hid hbig
   clear hbig
   obtain ⟨Sx,hSx⟩:∃ Sx:World->Prop,Sx=fun W'=>W'.cell? ⟨w.heap.size+1,3,none⟩=some (.int .i64 c.lm)/\W'.cell? ⟨w.heap.size+1,2,none⟩=some (.int .i64 c.to):=⟨_,rfl⟩
   have y1:∀ p:Held Sx,p.w.cell? ⟨w.heap.size+1,3,none⟩=some (.int .i64 c.lm):=fun p=>by have h:=Held.get hSx p;exact h.1
   have y2:∀ p:Held Sx,p.w.cell? ⟨w.heap.size+1,2,none⟩=some (.int .i64 c.to):=fun p=>by have h:=Held.get hSx p;exact h.2
   have HS:Hid (∀ W',W'.cell? ⟨w.heap.size+1,3,none⟩=some (.int .i64 c.lm)/\W'.cell? ⟨w.heap.size+1,2,none⟩=some (.int .i64 c.to)->Sx W'):=⟨fun W' h=>by rw [hSx];exact h⟩
   have hS0:=HS.out (w3.drew) (⟨x3,x2⟩)
   have inst:Inhabited (Held Sx):=⟨⟨_,hS0⟩⟩
   clear hSx
   refine wpIn_region_mixS Sx 9 [([0,3,4,5,6,7],1),([],2)] [8] wide_fn (by kernel_rfl) (by kernel_rfl) hS0 ?_
   refine segsIn_step ?_
   try simp only [opsAt,List.getElem?_cons_zero,List.getElem?_cons_succ]
   repeat (go_big_quiet_step (fail))
   refine wpQuiet_nil ?_
   gi_wp2_with ((refine ⟨trivial,?_⟩;gi_at_call 103;refine (callsIn_wide.2 (HFW.out _ (Gr.refl w3).drew)).mono ?_;rintro e w4 ⟨rfl,rfl⟩))
   refine ⟨.inr (Held.of (HS.out _ (⟨x3,x2⟩))),?_⟩
   refine segsIn_step ?_
   try simp only [opsAt,List.getElem?_cons_zero,List.getElem?_cons_succ]
   repeat (go_big_quiet_step (fail))
   refine wpQuiet_nil ?_
   gi_wp2_with ((refine ⟨trivial,?_⟩;gi_at_call 106;refine (callsIn_wide.2 (HWS.out _ (Gr.refl w3).drew)).mono ?_;rintro e w4 ⟨rfl,rfl⟩))
   refine ⟨.inr (Held.of (HS.out _ (⟨x3,x2⟩))),?_⟩
   refine segsIn_end ?_
   try simp only [opsAt,List.getElem?_cons_zero,List.getElem?_cons_succ]
   repeat (go_big_quiet_step (fail))
   refine wpQuiet_nil ?_
   refine NoPanic.normal ?_
   clear y1 y2 hS0 inst
   clear HS Sx
   clear x3 x2 xl
   gi_wp2
   have hr3:=((HR.out.gr HG01.out).touch HT2.out (fun h=>HNO.out.2.1 h.1) (fun h=>HNO.out.2.2.1 h.1)).gr HG3.out
   refine ⟨.tuple #[.pointer none,.int .i64 21],?_,?_,.inr ⟨L,HI.out,.inl ⟨by rw [<-HSN.out];exact HBIG.out,rfl,((HV2.out.gr HG3.out).gr (Gr.refl w3).drew).mono (fun b hb=>hb.1.1),hr3.gr (Gr.refl w3).drew⟩⟩⟩
   ·simp [results,Tryz.f47,go_sem]
   ·have a1:Touch (fun b=>b=g\/S b) w w1:=HG01.out.touch _
    have a2:=a1.trans (HT2.out.mono (fun i _ h=>.inr h.1))
    exact a2.trans ((HG3.out.trans (Gr.refl w3).drew).touch _)
  ·have d9:decide ((c.lm:Int)-(c.to:Int)<(N:Int))=false:=decide_eq_false (by omega)
   have HBIG:=hid hbig
   clear hbig
   obtain ⟨Sx,hSx⟩:∃ Sx:World->Prop,Sx=fun W'=>W'.cell? ⟨w.heap.size+1,3,none⟩=some (.int .i64 c.lm)/\W'.cell? ⟨w.heap.size+1,2,none⟩=some (.int .i64 c.to):=⟨_,rfl⟩
   have y1:∀ p:Held Sx,p.w.cell? ⟨w.heap.size+1,3,none⟩=some (.int .i64 c.lm):=fun p=>by have h:=Held.get hSx p;exact h.1
   have y2:∀ p:Held Sx,p.w.cell? ⟨w.heap.size+1,2,none⟩=some (.int .i64 c.to):=fun p=>by have h:=Held.get hSx p;exact h.2
   have HS:Hid (∀ W',W'.cell? ⟨w.heap.size+1,3,none⟩=some (.int .i64 c.lm)/\W'.cell? ⟨w.heap.size+1,2,none⟩=some (.int .i64 c.to)->Sx W'):=⟨fun W' h=>by rw [hSx];exact h⟩
   have hS0:=HS.out (w3.drew) (⟨x3,x2⟩)
   have inst:Inhabited (Held Sx):=⟨⟨_,hS0⟩⟩
   clear hSx
   refine wpIn_region_mixS Sx 9 [([0,3,4,5,6,7],1),([],2)] [8] wide_fn (by kernel_rfl) (by kernel_rfl) hS0 ?_
   refine segsIn_step ?_
   try simp only [opsAt,List.getElem?_cons_zero,List.getElem?_cons_succ]
   repeat (go_big_quiet_step (fail))
   refine wpQuiet_nil ?_
   gi_wp2_with ((refine ⟨trivial,?_⟩;gi_at_call 103;refine (callsIn_wide.2 (HFW.out _ (Gr.refl w3).drew)).mono ?_;rintro e w4 ⟨rfl,rfl⟩))
   refine ⟨.inr (Held.of (HS.out _ (⟨x3,x2⟩))),?_⟩
   refine segsIn_step ?_
   try simp only [opsAt,List.getElem?_cons_zero,List.getElem?_cons_succ]
   repeat (go_big_quiet_step (fail))
   refine wpQuiet_nil ?_
   gi_wp2_with ((refine ⟨trivial,?_⟩;gi_at_call 106;refine (callsIn_wide.2 (HWS.out _ (Gr.refl w3).drew)).mono ?_;rintro e w4 ⟨rfl,rfl⟩))
   refine ⟨.inr (Held.of (HS.out _ (⟨x3,x2⟩))),?_⟩
   refine segsIn_end ?_
   try simp only [opsAt,List.getElem?_cons_zero,List.getElem?_cons_succ]
   repeat (go_big_quiet_step (fail))
   refine wpQuiet_nil ?_
   refine NoPanic.normal ?_
   clear y1 y2 hS0 inst
   clear HS Sx
   clear x3 x2 xl
   gi_upto_region 12 with (fail)
   obtain ⟨nb,hnb⟩:∃ nb,nb=nbl (sizes L) c.bk:=⟨_,rfl⟩
   have HNB:=hid hnb
   have hnbb:nb<=1048576:=by
    have:=HCF.out.bk
    have h1:=blockOk_pos this
    have h2:=nbl_le (n:=sizes L) (B:=c.bk) (by omega)
    have h3:=HSN.out
    omega
   have HBKS:=hid (fun (W:World) (gW:Gr w3 W)=>pln_blocks (HPL.out.gr gW))
   rw [<-hnb] at HBKS
   clear hnb
   have HTW:Hid (∀ (W:World),Touch (fun i=>w3.drew.heap.size<=i) w3.drew W->Gr w3 W):=⟨fun W t=>(Gr.refl w3).drew.trans (t.mono (T:=fun _=>False) (fun i hi h=>absurd hi (Nat.not_lt_of_le h))).gr⟩
   have x3:=HB33.out.cell (j:=0) rfl
   have x50:=HB53.out.cell (j:=0) rfl
   have x51:=HB53.out.cell (j:=1) rfl
   have x52:=HB53.out.cell (j:=2) rfl
   have x53:=HB53.out.cell (j:=3) rfl
   have x54:=HB53.out.cell (j:=4) rfl
   have x55:=HB53.out.cell (j:=5) rfl
   have x56:=HB53.out.cell (j:=6) rfl
   obtain ⟨Sx,hSx⟩:∃ Sx:World->Prop,Sx=fun W'=>(W'.cell? ⟨w.heap.size,0,none⟩=some (.pointer (some ⟨q,0,none⟩))/\W'.cell? ⟨w.heap.size+1,0,none⟩=some (.int .i64 c.fr))/\(W'.cell? ⟨w.heap.size+1,1,none⟩=some (.int .i64 c.tp)/\W'.cell? ⟨w.heap.size+1,2,none⟩=some (.int .i64 c.to))/\(W'.cell? ⟨w.heap.size+1,3,none⟩=some (.int .i64 c.lm)/\W'.cell? ⟨w.heap.size+1,4,none⟩=some (.int .i64 c.bk))/\W'.cell? ⟨w.heap.size+1,5,none⟩=some (.int .i64 c.st)/\W'.cell? ⟨w.heap.size+1,6,none⟩=some (.int .i64 c.ah):=⟨_,rfl⟩
   have y3:∀ p':Held Sx,p'.w.cell? ⟨w.heap.size,0,none⟩=some (.pointer (some ⟨q,0,none⟩)):=fun p=>(Held.get hSx p).1.1
   have y50:∀ p':Held Sx,p'.w.cell? ⟨w.heap.size+1,0,none⟩=some (.int .i64 c.fr):=fun p=>(Held.get hSx p).1.2
   have y51:∀ p':Held Sx,p'.w.cell? ⟨w.heap.size+1,1,none⟩=some (.int .i64 c.tp):=fun p=>(Held.get hSx p).2.1.1
   have y52:∀ p':Held Sx,p'.w.cell? ⟨w.heap.size+1,2,none⟩=some (.int .i64 c.to):=fun p=>(Held.get hSx p).2.1.2
   have y53:∀ p':Held Sx,p'.w.cell? ⟨w.heap.size+1,3,none⟩=some (.int .i64 c.lm):=fun p=>(Held.get hSx p).2.2.1.1
   have y54:∀ p':Held Sx,p'.w.cell? ⟨w.heap.size+1,4,none⟩=some (.int .i64 c.bk):=fun p=>(Held.get hSx p).2.2.1.2
   have y55:∀ p':Held Sx,p'.w.cell? ⟨w.heap.size+1,5,none⟩=some (.int .i64 c.st):=fun p=>(Held.get hSx p).2.2.2.1
   have y56:∀ p':Held Sx,p'.w.cell? ⟨w.heap.size+1,6,none⟩=some (.int .i64 c.ah):=fun p=>(Held.get hSx p).2.2.2.2
   have HSX:=hid hSx
   have HKS:Hid (∀ W,Gr w3 W->∃ p:Held Sx,W=p.w):=⟨fun W gW=>by
    have l3:=HB33.out.lt
    have l5:=HB53.out.lt
    refine Held.of ?_
    rw [HSX.out]
    exact ⟨⟨(gW.cell l3 0).trans x3,(gW.cell l5 0).trans x50⟩,⟨(gW.cell l5 1).trans x51,(gW.cell l5 2).trans x52⟩,⟨(gW.cell l5 3).trans x53,(gW.cell l5 4).trans x54⟩,(gW.cell l5 5).trans x55,(gW.cell l5 6).trans x56⟩⟩
   have HKT:Hid (∀ W,Touch (fun i=>w3.heap.size<=i) w3 W->∃ p:Held Sx,W=p.w):=⟨fun W tW=>HKS.out W ((tW.mono (T:=fun _=>False) (fun i hi h=>absurd hi (Nat.not_lt_of_le h))).gr)⟩
   have HTX:Hid (∀ W,Touch (fun i=>w3.heap.size<=i) w3 W->Gr w3 W):=⟨fun W tW=>(tW.mono (T:=fun _=>False) (fun i hi h=>absurd hi (Nat.not_lt_of_le h))).gr⟩
   obtain ⟨i0,hi0,hz0,hz1,hz2'⟩:=info_parts infoBool
   have HB8:Hid (i0.bytes*nb<=281474976710656):=⟨by rw [hz2'];omega⟩
   have HML:Hid (nb<=maxLen):=⟨by unfold maxLen;omega⟩
   have HNBB:Hid (nb*1<=16777216):=⟨by omega⟩
   have hS0:Sx w3.drew:=by obtain ⟨p,hp⟩:=HKS.out _ (Gr.refl w3).drew;rw [hp];exact p.h
   have inst:Inhabited (Held Sx):=⟨⟨_,hS0⟩⟩
   have hS1:Sx w3.drew.drew:=by obtain ⟨p,hp⟩:=HKS.out _ ((Gr.refl w3).drew.drew);rw [hp];exact p.h
   clear hSx x3 x50 x51 x52 x53 x54 x55 x56
   refine wpIn_region_freeA Sx [0,1,2,3,4,7] #[true,true,true,true,true,false,false,true,false,false,false,false,false,false,false] [(5,[]),(6,[5]),(8,[5]),(9,[]),(10,[]),(11,[6,8,9,10]),(12,[11]),(13,[]),(14,[12,13])] (OpI w3 q p m nb c) wide_fn (by kernel_rfl) (by kernel_rfl) hS1 ?_ ⟨?_,?_,?_,?_,?_,?_,?_,?_,?_,trivial⟩ ?_
   ·simp only [opsAt,List.getElem?_cons_zero,List.getElem?_cons_succ]
    repeat (go_big_quiet_step (fail))
    refine wpQuiet_nil ?_
    refine ⟨.pointer (some ⟨q,0,none⟩),.agg #[.int .i64 c.fr,.int .i64 c.tp,.int .i64 c.to,.int .i64 c.lm,.int .i64 c.bk,.int .i64 c.st,.int .i64 c.ah],.pointer (some ⟨p,0,none⟩),.pointer (some ⟨m,0,none⟩),.pointer (some ⟨p,0,none⟩),undef,undef,.pointer (some ⟨p,0,none⟩),undef,undef,undef,undef,undef,undef,by simp only [Act.put,List.setIfInBounds_toArray,List.set_cons_zero,List.set_cons_succ],?_⟩
    refine ⟨rfl,rfl,rfl,rfl,rfl,rfl,(fun h=>by cases h),(fun h=>by cases h),(fun h=>by cases h),(fun h=>by cases h),(fun h=>by cases h),(fun h=>by cases h),(fun h=>by cases h),(fun h=>by cases h),(fun h=>by cases h),(fun h=>by cases h),?_⟩
    exact ((Gr.refl w3).drew.drew).touch _
   ·rintro D a W ⟨v55,v56,v57,v58,v59,v60,v61,v62,v63,v64,v65,v66,v67,v13,rfl,hJ⟩ hSW hk hd
    clear hSW
    simp only [opsAt,List.getElem?_cons_zero,List.getElem?_cons_succ,Act.put,List.setIfInBounds_toArray,List.set_cons_zero,List.set_cons_succ]
    have HJ:=hid hJ
    have HK:=hid hk
    have HD:=hid hd
    have HGW:=hid (HTX.out W hJ.t)
    obtain rfl:=hJ.e59
    clear hJ hk hd
    gi_wp2_with (refine ⟨trivial,?_⟩;gi_at_call 107;refine (callsIn_wide.2 (HBKS.out W HGW.out)).mono ?_;rintro e w4 ⟨rfl,hg4⟩)
    refine ⟨HKT.out _ ?_,v55,v56,v57,v58,.pointer (some ⟨p,0,none⟩),.int .i64 nb,v61,v62,v63,v64,v65,v66,v67,v13,by simp only [Act.put,List.setIfInBounds_toArray,List.set_cons_zero,List.set_cons_succ],?_⟩
    ·exact HJ.out.t.trans (hg4.touch _)
    ·have hJ2:=HJ.out.gr hg4
     have hk:=HK.out
     have hd:=HD.out
     exact ⟨hJ2.e55,hJ2.e56,hJ2.e57,hJ2.e58,hJ2.e59,hJ2.e62,(fun _=>rfl),hJ2.e61,hJ2.e63,hJ2.e64,hJ2.e65,hJ2.ne,hJ2.e66,hJ2.e67,hJ2.e13,hJ2.d14,hJ2.t⟩
   ·rintro D a W ⟨v55,v56,v57,v58,v59,v60,v61,v62,v63,v64,v65,v66,v67,v13,rfl,hJ⟩ hSW hk hd
    clear hSW
    simp only [opsAt,List.getElem?_cons_zero,List.getElem?_cons_succ,Act.put,List.setIfInBounds_toArray,List.set_cons_zero,List.set_cons_succ]
    have HJ:=hid hJ
    have HK:=hid hk
    have HD:=hid hd
    have HGW:=hid (HTX.out W hJ.t)
    obtain rfl:=hJ.e60 (hd 5 (by simp))
    clear hJ hk hd
    gi_wp2_with (gi_at_make;refine wpListIn_make_full _ rfl _ _ 138 rfl 0 4 i0 (.bool false) 1 Tryz.underlying138 hi0 hz0 hz1 .i64 .i64 nb rfl rfl HNBB.out HB8.out HML.out (Nat.zero_le _) ?_;intro w4 hown hgrow)
    have hg4:Gr W w4:=(grownBy_touch hgrow (fun _=>False) (fun k e _=>by cases e)).gr
    rw [show (Value.bool false).cells=#[.bool false] from rfl,madeCells_one,Nat.mul_one] at hown
    have HOW:=hid hown
    clear hown hgrow
    gi_wp2
    refine ⟨HKT.out _ ?_,v55,v56,v57,v58,v59,.int .i64 nb,.slice (some ⟨W.heap.size,0,none⟩) nb nb,v62,v63,v64,v65,v66,v67,v13,by simp only [Act.put,List.setIfInBounds_toArray,List.set_cons_zero,List.set_cons_succ],?_⟩
    ·exact HJ.out.t.trans (hg4.touch _)
    ·have hJ2:=HJ.out.gr hg4
     have hk:=HK.out
     have hd:=HD.out
     exact ⟨hJ2.e55,hJ2.e56,hJ2.e57,hJ2.e58,hJ2.e59,hJ2.e62,hJ2.e60,(fun _=>⟨W.heap.size,rfl,HOW.out,HGW.out.size⟩),hJ2.e63,hJ2.e64,hJ2.e65,hJ2.ne,(fun d=>by have h:=(HJ.out.e66 d).1;rw [hk] at h;cases h),(fun d=>by have h:=(HJ.out.e66 (HJ.out.e67 d).1).1;rw [hk] at h;cases h),hJ2.e13,hJ2.d14,hJ2.t⟩
   ·rintro D a W ⟨v55,v56,v57,v58,v59,v60,v61,v62,v63,v64,v65,v66,v67,v13,rfl,hJ⟩ hSW hk hd
    clear hSW
    simp only [opsAt,List.getElem?_cons_zero,List.getElem?_cons_succ,Act.put,List.setIfInBounds_toArray,List.set_cons_zero,List.set_cons_succ]
    have HJ:=hid hJ
    have HK:=hid hk
    have HD:=hid hd
    have HGW:=hid (HTX.out W hJ.t)
    obtain rfl:=hJ.e62
    clear hJ hk hd
    gi_wp2_with (refine ⟨trivial,?_⟩;gi_at_call 107;refine (callsIn_wide.2 (HBKS.out W HGW.out)).mono ?_;rintro e w4 ⟨rfl,hg4⟩)
    refine ⟨HKT.out _ ?_,v55,v56,v57,v58,v59,v60,v61,.pointer (some ⟨p,0,none⟩),.int .i64 nb,v64,v65,v66,v67,v13,by simp only [Act.put,List.setIfInBounds_toArray,List.set_cons_zero,List.set_cons_succ],?_⟩
    ·exact HJ.out.t.trans (hg4.touch _)
    ·have hJ2:=HJ.out.gr hg4
     have hk:=HK.out
     have hd:=HD.out
     exact ⟨hJ2.e55,hJ2.e56,hJ2.e57,hJ2.e58,hJ2.e59,hJ2.e62,hJ2.e60,hJ2.e61,(fun _=>rfl),hJ2.e64,hJ2.e65,hJ2.ne,(fun d=>by have h:=(HJ.out.e66 d).2.1;rw [hk] at h;cases h),(fun d=>by have h:=(HJ.out.e66 (HJ.out.e67 d).1).2.1;rw [hk] at h;cases h),hJ2.e13,hJ2.d14,hJ2.t⟩
   ·rintro D a W ⟨v55,v56,v57,v58,v59,v60,v61,v62,v63,v64,v65,v66,v67,v13,rfl,hJ⟩ hSW hk hd
    clear hSW
    simp only [opsAt,List.getElem?_cons_zero,List.getElem?_cons_succ,Act.put,List.setIfInBounds_toArray,List.set_cons_zero,List.set_cons_succ]
    have HJ:=hid hJ
    have HK:=hid hk
    have HD:=hid hd
    have HGW:=hid (HTX.out W hJ.t)
    clear hJ hk hd
    refine wpListIn_makeMap W rfl _ rfl ?_
    gi_wp2
    have hg4:Gr W (W.alloc (.map #[] 0)):=(Gr.refl W).alloc _
    refine ⟨HKT.out _ ?_,v55,v56,v57,v58,v59,v60,v61,v62,v63,.map (some W.heap.size),v65,v66,v67,v13,by simp only [Act.put,List.setIfInBounds_toArray,List.set_cons_zero,List.set_cons_succ],?_⟩
    ·exact HJ.out.t.trans (hg4.touch _)
    ·have hJ2:=HJ.out.gr hg4
     have hk:=HK.out
     have hd:=HD.out
     exact ⟨hJ2.e55,hJ2.e56,hJ2.e57,hJ2.e58,hJ2.e59,hJ2.e62,hJ2.e60,hJ2.e61,hJ2.e63,(fun _=>⟨W.heap.size,rfl,MapI.made W,HGW.out.size⟩),hJ2.e65,(fun _ d e=>by obtain ⟨b,h1,h2,-⟩:=HJ.out.e65 d;rw [h1] at e;have:=h2.lt;simp only [Value.map.injEq,Option.some.injEq] at e;omega),(fun d=>by have h:=(HJ.out.e66 d).2.2.1;rw [hk] at h;cases h),(fun d=>by have h:=(HJ.out.e66 (HJ.out.e67 d).1).2.2.1;rw [hk] at h;cases h),hJ2.e13,hJ2.d14,hJ2.t⟩
   ·rintro D a W ⟨v55,v56,v57,v58,v59,v60,v61,v62,v63,v64,v65,v66,v67,v13,rfl,hJ⟩ hSW hk hd
    clear hSW
    simp only [opsAt,List.getElem?_cons_zero,List.getElem?_cons_succ,Act.put,List.setIfInBounds_toArray,List.set_cons_zero,List.set_cons_succ]
    have HJ:=hid hJ
    have HK:=hid hk
    have HD:=hid hd
    have HGW:=hid (HTX.out W hJ.t)
    clear hJ hk hd
    refine wpListIn_makeMap W rfl _ rfl ?_
    gi_wp2
    have hg4:Gr W (W.alloc (.map #[] 0)):=(Gr.refl W).alloc _
    refine ⟨HKT.out _ ?_,v55,v56,v57,v58,v59,v60,v61,v62,v63,v64,.map (some W.heap.size),v66,v67,v13,by simp only [Act.put,List.setIfInBounds_toArray,List.set_cons_zero,List.set_cons_succ],?_⟩
    ·exact HJ.out.t.trans (hg4.touch _)
    ·have hJ2:=HJ.out.gr hg4
     have hk:=HK.out
     have hd:=HD.out
     exact ⟨hJ2.e55,hJ2.e56,hJ2.e57,hJ2.e58,hJ2.e59,hJ2.e62,hJ2.e60,hJ2.e61,hJ2.e63,hJ2.e64,(fun _=>⟨W.heap.size,rfl,MapI.made W,HGW.out.size⟩),(fun d _ e=>by obtain ⟨b,h1,h2,-⟩:=HJ.out.e64 d;rw [h1] at e;have:=h2.lt;simp only [Value.map.injEq,Option.some.injEq] at e;omega),(fun d=>by have h:=(HJ.out.e66 d).2.2.2.1;rw [hk] at h;cases h),(fun d=>by have h:=(HJ.out.e66 (HJ.out.e67 d).1).2.2.2.1;rw [hk] at h;cases h),hJ2.e13,hJ2.d14,hJ2.t⟩
   ·rintro D a W ⟨v55,v56,v57,v58,v59,v60,v61,v62,v63,v64,v65,v66,v67,v13,rfl,hJ⟩ hSW hk hd
    clear hSW
    simp only [opsAt,List.getElem?_cons_zero,List.getElem?_cons_succ,Act.put,List.setIfInBounds_toArray,List.set_cons_zero,List.set_cons_succ]
    have HJ:=hid hJ
    have HK:=hid hk
    have HD:=hid hd
    have HGW:=hid (HTX.out W hJ.t)
    obtain rfl:=hJ.e56
    obtain rfl:=hJ.e55
    obtain rfl:=hJ.e57
    obtain rfl:=hJ.e58
    obtain rfl:=hJ.e63 (hd 8 (by simp))
    obtain ⟨b61,rfl,-,-⟩:=hJ.e61 (hd 6 (by simp))
    obtain ⟨b64,rfl,-,-⟩:=hJ.e64 (hd 9 (by simp))
    obtain ⟨b65,rfl,-,-⟩:=hJ.e65 (hd 10 (by simp))
    clear hJ hk hd
    gi_wp2
    have hg4:Gr W W:=Gr.refl W
    refine ⟨HKT.out _ ?_,.pointer (some ⟨q,0,none⟩),.agg #[.int .i64 c.fr,.int .i64 c.tp,.int .i64 c.to,.int .i64 c.lm,.int .i64 c.bk,.int .i64 c.st,.int .i64 c.ah],.pointer (some ⟨p,0,none⟩),.pointer (some ⟨m,0,none⟩),v59,v60,.slice (some ⟨b61,0,none⟩) nb nb,v62,.int .i64 nb,.map (some b64),.map (some b65),.agg #[.pointer (some ⟨q,0,none⟩),.int .i64 c.fr,.int .i64 c.tp,.int .i64 c.to,.int .i64 c.lm,.int .i64 c.bk,.int .i64 c.st,.int .i64 c.ah,.pointer (some ⟨p,0,none⟩),.pointer (some ⟨m,0,none⟩),.slice (some ⟨b61,0,none⟩) nb nb,.int .i64 nb,.int .i64 0,.int .i64 0,.map (some b64),.map (some b65)],v67,v13,by simp only [Act.put,List.setIfInBounds_toArray,List.set_cons_zero,List.set_cons_succ],?_⟩
    ·exact HJ.out.t.trans (hg4.touch _)
    ·have hJ2:=HJ.out.gr hg4
     have hk:=HK.out
     have hd:=HD.out
     exact ⟨hJ2.e55,hJ2.e56,hJ2.e57,hJ2.e58,hJ2.e59,hJ2.e62,hJ2.e60,hJ2.e61,hJ2.e63,hJ2.e64,hJ2.e65,hJ2.ne,(fun _=>⟨hd 6 (by simp),hd 8 (by simp),hd 9 (by simp),hd 10 (by simp),rfl⟩),(fun d=>by have h:=(HJ.out.e67 d).1;rw [hk] at h;cases h),hJ2.e13,hJ2.d14,hJ2.t⟩
   ·rintro D a W ⟨v55,v56,v57,v58,v59,v60,v61,v62,v63,v64,v65,v66,v67,v13,rfl,hJ⟩ hSW hk hd
    clear hSW
    simp only [opsAt,List.getElem?_cons_zero,List.getElem?_cons_succ,Act.put,List.setIfInBounds_toArray,List.set_cons_zero,List.set_cons_succ]
    have HJ:=hid hJ
    have HK:=hid hk
    have HD:=hid hd
    have HGW:=hid (HTX.out W hJ.t)
    obtain ⟨d6,d8,d9',d10,rfl⟩:=hJ.e66 (hd 11 (by simp))
    obtain rfl:=hJ.e56
    obtain rfl:=hJ.e55
    obtain rfl:=hJ.e57
    obtain rfl:=hJ.e58
    obtain rfl:=hJ.e63 d8
    obtain ⟨b61,rfl,-,-⟩:=hJ.e61 d6
    obtain ⟨b64,rfl,-,-⟩:=hJ.e64 d9'
    obtain ⟨b65,rfl,-,-⟩:=hJ.e65 d10
    have HRN:=hid (Rec.new W 144 [.pointer (some ⟨q,0,none⟩),.int .i64 c.fr,.int .i64 c.tp,.int .i64 c.to,.int .i64 c.lm,.int .i64 c.bk,.int .i64 c.st,.int .i64 c.ah,.pointer (some ⟨p,0,none⟩),.pointer (some ⟨m,0,none⟩),.slice (some ⟨b61,0,none⟩) nb nb,.int .i64 nb,.int .i64 0,.int .i64 0,.map (some b64),.map (some b65)])
    have HGA:=hid ((Gr.refl W).alloc (.cells #[.pointer (some ⟨q,0,none⟩),.int .i64 c.fr,.int .i64 c.tp,.int .i64 c.to,.int .i64 c.lm,.int .i64 c.bk,.int .i64 c.st,.int .i64 c.ah,.pointer (some ⟨p,0,none⟩),.pointer (some ⟨m,0,none⟩),.slice (some ⟨b61,0,none⟩) nb nb,.int .i64 nb,.int .i64 0,.int .i64 0,.map (some b64),.map (some b65)] 144))
    clear d6 d8 d9' d10
    clear hJ hk hd
    gi_wp2
    refine ⟨HKT.out _ ?_,.pointer (some ⟨q,0,none⟩),.agg #[.int .i64 c.fr,.int .i64 c.tp,.int .i64 c.to,.int .i64 c.lm,.int .i64 c.bk,.int .i64 c.st,.int .i64 c.ah],.pointer (some ⟨p,0,none⟩),.pointer (some ⟨m,0,none⟩),v59,v60,.slice (some ⟨b61,0,none⟩) nb nb,v62,.int .i64 nb,.map (some b64),.map (some b65),.agg #[.pointer (some ⟨q,0,none⟩),.int .i64 c.fr,.int .i64 c.tp,.int .i64 c.to,.int .i64 c.lm,.int .i64 c.bk,.int .i64 c.st,.int .i64 c.ah,.pointer (some ⟨p,0,none⟩),.pointer (some ⟨m,0,none⟩),.slice (some ⟨b61,0,none⟩) nb nb,.int .i64 nb,.int .i64 0,.int .i64 0,.map (some b64),.map (some b65)],.pointer (some ⟨W.heap.size,0,none⟩),v13,by simp only [Act.put,List.setIfInBounds_toArray,List.set_cons_zero,List.set_cons_succ],?_⟩
    ·exact HJ.out.t.trans (HGA.out.touch _)
    ·have hJ2:=HJ.out.gr HGA.out
     have hk:=HK.out
     have hd:=HD.out
     exact ⟨hJ2.e55,hJ2.e56,hJ2.e57,hJ2.e58,hJ2.e59,hJ2.e62,hJ2.e60,hJ2.e61,hJ2.e63,hJ2.e64,hJ2.e65,hJ2.ne,hJ2.e66,(fun _=>⟨hd 11 (by simp),W.heap.size,rfl,HGW.out.size,HRN.out⟩),(fun d=>by obtain ⟨b,h1,h2,h3⟩:=hJ2.e13 d;refine ⟨b,h1,h2,?_⟩;cases h14:D 14 with | true=>(have:=(HJ.out.d14 h14).1;rw [hk] at this;cases this) | false=>(have e:upD D 12 14=false:=h14;rw [h14] at h3;rw [e];exact h3)),(fun d=>⟨rfl,(hJ2.d14 d).2⟩),hJ2.t⟩
   ·rintro D a W ⟨v55,v56,v57,v58,v59,v60,v61,v62,v63,v64,v65,v66,v67,v13,rfl,hJ⟩ hSW hk hd
    clear hSW
    simp only [opsAt,List.getElem?_cons_zero,List.getElem?_cons_succ,Act.put,List.setIfInBounds_toArray,List.set_cons_zero,List.set_cons_succ]
    have HJ:=hid hJ
    have HK:=hid hk
    have HD:=hid hd
    have HGW:=hid (HTX.out W hJ.t)
    have HRN:=hid (Rec.new W 67 [.pointer none])
    have HGA:=hid ((Gr.refl W).alloc (.cells #[.pointer none] 67))
    clear hJ hk hd
    gi_wp2
    refine ⟨HKT.out _ ?_,v55,v56,v57,v58,v59,v60,v61,v62,v63,v64,v65,v66,v67,.pointer (some ⟨W.heap.size,0,none⟩),by simp only [Act.put,List.setIfInBounds_toArray,List.set_cons_zero,List.set_cons_succ],?_⟩
    ·exact HJ.out.t.trans (HGA.out.touch _)
    ·have hJ2:=HJ.out.gr HGA.out
     have hk:=HK.out
     have hd:=HD.out
     exact ⟨hJ2.e55,hJ2.e56,hJ2.e57,hJ2.e58,hJ2.e59,hJ2.e62,hJ2.e60,hJ2.e61,hJ2.e63,hJ2.e64,hJ2.e65,hJ2.ne,hJ2.e66,hJ2.e67,(fun _=>⟨W.heap.size,rfl,HGW.out.size,by cases h14:D 14 with | true=>(have:=(HJ.out.d14 h14).2;rw [hk] at this;cases this) | false=>(have e:upD D 13 14=false:=h14;rw [e];exact HRN.out)⟩),(fun d=>⟨(hJ2.d14 d).1,rfl⟩),hJ2.t⟩
   ·rintro D a W ⟨v55,v56,v57,v58,v59,v60,v61,v62,v63,v64,v65,v66,v67,v13,rfl,hJ⟩ hSW hk hd
    clear hSW
    simp only [opsAt,List.getElem?_cons_zero,List.getElem?_cons_succ,Act.put,List.setIfInBounds_toArray,List.set_cons_zero,List.set_cons_succ]
    have HJ:=hid hJ
    have HK:=hid hk
    have HD:=hid hd
    obtain ⟨b13,rfl,hb13,hr13⟩:=hJ.e13 (hd 13 (by simp))
    obtain ⟨d11,b67,rfl,hb67,hr67⟩:=hJ.e67 (hd 12 (by simp))
    have HR13:=hid hr13
    rw [hk] at hr13
    have q0:=hr13.cell (j:=0) rfl
    have qf:=hr13.free 0
    have ql:=hr13.lt
    have HB13:=hid hb13
    clear hJ hk hd hr13 hr67 d11 hb67 hb13
    gi_wp2
    have tS:Touch (fun i=>i=b13) W (W.setCell ⟨b13,0,none⟩ (.pointer (some ⟨b67,0,none⟩))):=(Touch.refl (fun i=>i=b13) W).setCell (a:=⟨b13,0,none⟩) (fun _=>rfl) _
    have hrs:=HR13.out.set 0 (.pointer (some ⟨b67,0,none⟩))
    have tT:Touch (fun i=>w3.heap.size<=i) w3 (W.setCell ⟨b13,0,none⟩ (.pointer (some ⟨b67,0,none⟩))):=HJ.out.t.trans (tS.mono (fun i _ h=>by rw [h];exact HB13.out))
    have hJ:=HJ.out
    refine ⟨HKT.out _ tT,v55,v56,v57,v58,v59,v60,v61,v62,v63,v64,v65,v66,.pointer (some ⟨b67,0,none⟩),.pointer (some ⟨b13,0,none⟩),by simp only [Act.put,List.setIfInBounds_toArray,List.set_cons_zero,List.set_cons_succ],?_⟩
    exact ⟨hJ.e55,hJ.e56,hJ.e57,hJ.e58,hJ.e59,hJ.e62,hJ.e60,(fun d=>by obtain ⟨b,h1,h2,h3⟩:=hJ.e61 d;exact ⟨b,h1,own_touch h2 tS (fun g' hg=>by rw [h1] at hg;cases hg;exact own_ne (by rw [h1] at h2;exact h2) HR13.out (by decide) rfl rfl),h3⟩),hJ.e63,(fun d=>by obtain ⟨b,h1,h2,h3⟩:=hJ.e64 d;exact ⟨b,h1,h2.touch tS (h2.ne (rec_cells HR13.out)),h3⟩),(fun d=>by obtain ⟨b,h1,h2,h3⟩:=hJ.e65 d;exact ⟨b,h1,h2.touch tS (h2.ne (rec_cells HR13.out)),h3⟩),hJ.ne,hJ.e66,(fun d=>by obtain ⟨h0,b,h1,h2,h3⟩:=hJ.e67 d;exact ⟨h0,b,h1,h2,h3.touch tS (own_ne h3 HR13.out (by decide) rfl rfl)⟩),(fun _=>⟨b13,rfl,HB13.out,hrs⟩),(fun _=>⟨HD.out 12 (by simp),HD.out 13 (by simp)⟩),tT⟩
   ·rintro D a W ⟨v55,v56,v57,v58,v59,v60,v61,v62,v63,v64,v65,v66,v67,v13,rfl,hJ⟩ hSW hall
    clear hSW
    have hall':∀ j,j<15->D j=true:=hall
    obtain ⟨b61,rfl,ho61,hg61⟩:=hJ.e61 (hall' 6 (by omega))
    obtain rfl:=hJ.e60 (hall' 5 (by omega))
    obtain rfl:=hJ.e63 (hall' 8 (by omega))
    obtain ⟨b64,rfl,hm64,hg64⟩:=hJ.e64 (hall' 9 (by omega))
    obtain ⟨b65,rfl,hm65,hg65⟩:=hJ.e65 (hall' 10 (by omega))
    obtain ⟨-,-,-,-,rfl⟩:=hJ.e66 (hall' 11 (by omega))
    obtain ⟨-,y,rfl,hgy,hry⟩:=hJ.e67 (hall' 12 (by omega))
    obtain ⟨bx,rfl,hgx,hrx⟩:=hJ.e13 (hall' 13 (by omega))
    rw [hall' 14 (by omega)] at hrx
    obtain rfl:=hJ.e55
    obtain rfl:=hJ.e56
    obtain rfl:=hJ.e57
    obtain rfl:=hJ.e58
    obtain rfl:=hJ.e59
    obtain rfl:=hJ.e62
    have hn45:b64≠b65:=fun e=>hJ.ne (hall' 9 (by omega)) (hall' 10 (by omega)) (by rw [e])
    have HT3:=hid hJ.t
    have HO61:=hid ho61
    have HM64:=hid hm64
    have HM65:=hid hm65
    have HRY:=hid hry
    have HRX:=hid hrx
    have HGE:=hid (And.intro hg61 (And.intro hg64 (And.intro hg65 (And.intro hgy (And.intro hgx hn45)))))
    clear hJ hall hall' ho61 hg61 hm64 hg64 hm65 hg65 hgy hry hgx hrx hn45
    refine NoPanic.normal ?_
    simp only [Act.put,List.setIfInBounds_toArray,List.set_cons_zero,List.set_cons_succ]
    clear y3 y50 y51 y52 y53 y54 y55 y56 hS0 inst hS1
    have hzW:=HT3.out.size
    have HG3W:Hid (Gr w3 W):=⟨HTX.out W HT3.out⟩
    have c13:=HRX.out.cell (j:=0) rfl
    have clx:=HRX.out.lt
    gi_wp2_with (refine ⟨trivial,?_⟩;gi_at_call 86;refine (callsIn_wide.2 (all_call (some ⟨m,0,none⟩))).mono ?_;rintro e w5 ⟨rfl,rfl⟩)
    obtain ⟨W5,hW5⟩:∃ W5,W5=W.alloc (.cells #[.pointer (some ⟨m,0,none⟩)] 124):=⟨_,rfl⟩
    have hg5:Gr W W5:=by rw [hW5];exact (Gr.refl W).alloc _
    have hs5:W5.heap.size=W.heap.size+1:=by rw [hW5,World.size_alloc]
    have k5:W5.cell? ⟨W.heap.size,0,none⟩=some (.pointer (some ⟨m,0,none⟩)):=by rw [hW5];exact (Boxed.new W 124 (.pointer (some ⟨m,0,none⟩))).cell
    rw [<-hW5]
    clear hW5 c13 clx
    obtain ⟨g61,g64,g65,gy,gx,hne⟩:=HGE.out
    have l64:=HM64.out.lt
    have l65:=HM65.out.lt
    have ly:=HRY.out.lt
    have lx:=HRX.out.lt
    have n64y:=HM64.out.ne (rec_cells HRY.out)
    have n65y:=HM65.out.ne (rec_cells HRY.out)
    have n64x:=HM64.out.ne (rec_cells HRX.out)
    have n65x:=HM65.out.ne (rec_cells HRX.out)
    have hml:=HX.out.hm
    have hp1l:=HX.out.v1.hp
    have hb1l:=HX.out.v1.hb
    have hp2l:=HX.out.v2.hp
    have hb2l:=HX.out.v2.hb
    have hz3:=HG3.out.size
    obtain ⟨s,hsl⟩:∃ s,s=slNew v c L:=⟨_,rfl⟩
    have esL:s.L=L:=by rw [hsl];rfl
    have espg:s.pg=v.pl.pg:=by rw [hsl];rfl
    have esn:s.n=v.n:=by rw [hsl];rfl
    have HES:=hid (And.intro esL (And.intro espg (And.intro esn hsl)))
    have HGD:Hid (Good s.n s.L):=⟨by rw [esn,esL];exact HX.out.good⟩
    have HV3:=hid (HV2.out.gr HG3.out)
    have HT5:Hid (∀ A,Touch (fun i=>(i=b64\/i=b65)\/W5.heap.size<=i) W5 A->Touch (fun i=>w3.heap.size<=i) w3 A):=⟨fun A t=>(HT3.out.trans (hg5.touch _)).trans (t.mono (fun i _ h=>by omega))⟩
    have HK:Hid (∀ A,Touch (fun i=>(i=b64\/i=b65)\/W5.heap.size<=i) W5 A->((A.cell? ⟨bx,0,none⟩=some (.pointer (some ⟨y,0,none⟩))/\A.cell? ⟨y,14,none⟩=some (.map (some b64)))/\A.cell? ⟨y,15,none⟩=some (.map (some b65))/\A.cell? ⟨w.heap.size,0,none⟩=some (.pointer (some ⟨q,0,none⟩)))):=⟨fun A t=>by
     have r1:=(HRX.out.gr hg5).touch t (by omega)
     have r2:=(HRY.out.gr hg5).touch t (by omega)
     have g3:=HTX.out A (HT5.out A t)
     exact ⟨⟨r1.cell (j:=0) rfl,r2.cell (j:=14) rfl⟩,r2.cell (j:=15) rfl,(g3.cell HB33.out.lt 0).trans (HB33.out.cell (j:=0) rfl)⟩⟩
    have HVA:Hid (∀ A,Touch (fun i=>(i=b64\/i=b65)\/W5.heap.size<=i) W5 A->VmAt A (cutS (cutS S w) w1) q v):=⟨fun A t=>HV3.out.gr (HTX.out A (HT5.out A t))⟩
    have HXA:Hid (∀ A,Touch (fun i=>(i=b64\/i=b65)\/W5.heap.size<=i) W5 A->Ext A m p1 b1 p2 b2 v.n L/\TabAt A):=⟨fun A t=>by
     have g3:=HTX.out A (HT5.out A t)
     exact ⟨(HX.out.gr HG3.out).gr g3,g3.tab (HG3.out.tab HTB2.out.lt HTB2.out).lt (HG3.out.tab HTB2.out.lt HTB2.out)⟩⟩
    have HA0:Hid (OpA W5 W5 b64 b65 v s 0 0):=⟨OpA.zero (HM64.out.gr hg5) (HM65.out.gr hg5)⟩
    have HL64:Hid (b64<W5.heap.size/\b65<W5.heap.size/\b64≠b65):=⟨by omega⟩
    have HZ0:Hid (sizes (L.take 0)=0):=⟨rfl⟩
    have HK5:=hid k5
    have hwl:w.heap.size<w3.heap.size:=HB33.out.lt
    clear hsl esL espg esn k5
    refine range_lawU (K:=4) (s0:=0) rfl (by omega) (gf:=150) (lb:=#[.pointer (some ⟨W.heap.size,0,none⟩)]) rfl trivial (enters_of Tryz.func150 (by kernel_rfl) rfl)
     (all_seqU _ W.heap.size m p1 b1 p2 b2 v.n L _) (fun _=>rfl)
     (fun (j:Nat) A=>j<=L.length/\OpA W5 A b64 b65 v s j (sizes (L.take j))) (fun _ _=>False) (fun j A B h t=>⟨h.1,h.2.win HL64.out.1 HL64.out.2.1 t⟩) (fun _ _ _ h _=>h)
     (fun j A h=>⟨(HXA.out A h.2.t).1,(HXA.out A h.2.t).2,(h.2.t.cell (by omega) (by omega) 0).trans HK5.out,h.1⟩)
     ⟨Nat.zero_le _,HA0.out⟩ ?round ?done (fun _ _ _ _ h _=>h.elim)
    case round=>
     intro lp j x W6 hsz6 hI6 hgv
     dsimp only [encO]
     gi_wp2
     refine ⟨Gr.refl _,fun W7 ht7 hI7=>?_⟩
     have hjl:j<L.length:=by
      rcases Nat.lt_or_ge j L.length with h | h
      ·exact h
      ·unfold AllGives at hgv;rw [List.getElem?_eq_none h] at hgv;cases hgv
     obtain rfl:x=L[j]:=by unfold AllGives at hgv;rw [List.getElem?_eq_getElem hjl] at hgv;exact (Option.some.inj hgv).symm
     obtain ⟨hrch,hrd0,-⟩:=HI.out.1.mkd.ats _ (List.getElem_mem hjl)
     obtain ⟨-,-,hp',hf',hk',hrh,hhs⟩:=rdE_zero hrd0
     have HA7:=hid hI7.2
     have hsb:=(HX.out.good.sz _ (List.getElem_mem hjl)).2
     have HSJ:=hid (sizes_take hjl)
     have hjs:j<s.L.length:=by rw [HES.out.1];exact hjl
     have HJS:=hid hjs
     have hel:s.L[j]=L[j]:=by simp only [HES.out.1]
     have HSRC:Hid (∀ t,t<L[j].2->srcO s.L (sizes (L.take j)+t)=L[j].1+t/\sizes (L.take j)+t<sizes s.L):=⟨fun t ht=>by
      have h1:=sizes_mid hjl
      rw [HES.out.1]
      exact ⟨src_at hjl ht,by omega⟩⟩
     obtain ⟨n5,f5,hm5,hn5,hf5⟩:=hI7.2.sh
     have HM5:=hid hm5
     have HN5:=hid (And.intro hn5 hf5)
     have hHDR:∀ B,MapI Tryz.prog 3 B b65 (n5+1) (fun y=>if y=((L[j].1:Nat):Int) then some (hdrV (v.rdH (L[j].1:Nat))) else f5 y)->Touch (fun i=>i=b65) W7 B->OpA W5 B b64 b65 v s (j+1) (sizes (L.take j)):=fun B hm t=>HA7.out.hdr HJS.out HL64.out.2.2 HN5.out.1 HN5.out.2 HGD.out (by rw [hel];exact hm) t
     rw [hrh] at hHDR
     have HHDR:=hid hHDR
     have HRD:=hid (fun (W:World) (gW:Gr W7 W)=>obj_read ((HVA.out W7 HA7.out.t).gr gW) ((L[j].1:Nat):Int))
     rw [hrd0,hrh] at HRD
     unfold hdrV at HRD
     unfold spV at HRD
     have hn5b:n5<=1048576:=by
      have h2:=sizes_le HX.out.good
      have h4:=len_sizes HX.out.good
      omega
     have HLL5:Hid (n5<maxLen):=⟨by unfold maxLen;omega⟩
     have HLL6:Hid (sizes (L.take j)+L[j].2<=1048576):=⟨by have h1:=sizes_mid hjl;have h2:=sizes_le HX.out.good;omega⟩
     obtain ⟨sa,hsa⟩:∃ sa,sa=L[j].1:=⟨_,rfl⟩
     obtain ⟨sz,hsz⟩:∃ sz,sz=L[j].2:=⟨_,rfl⟩
     obtain ⟨mm,hmm⟩:∃ mm,mm=sizes (L.take j):=⟨_,rfl⟩
     have HSA:=hid (And.intro hsa (And.intro hsz hmm))
     rw [<-hsa] at HRD HSRC HHDR hsb ⊢
     rw [<-hsz] at HSRC hsb HSJ HLL6 ⊢
     rw [<-hmm] at HSRC HHDR HSJ HLL6 HA7
     have HWF5:Hid ((Lit.int .i64 (sa:Int)).wf=true):=⟨WalkArith.wf_i64 (by omega)⟩
     have HSZ7:=hid (And.intro hsz6 ht7.size)
     have HJL:=hid hjl
     have hsab:sa+sz<=524288:=by omega
     clear hI6 hI7 hgv ht7 hsa hsz hmm hjs hel hrch hrd0 hrh hhs hm5 hn5 hf5 hHDR hsb
     have kk:=HK.out _ HA7.out.t
     have k1:=kk.1.1
     have k3:=kk.2.1
     have k4:=kk.2.2
     clear kk
     have HKC:Hid (∀ W',Gr W7 W'->W'.cell? ⟨bx,0,none⟩=some (.pointer (some ⟨y,0,none⟩))/\W'.cell? ⟨y,15,none⟩=some (.map (some b65))/\W'.cell? ⟨w.heap.size,0,none⟩=some (.pointer (some ⟨q,0,none⟩))):=⟨fun W' gW=>by
      have h:=HK.out W' (HA7.out.t.trans (gW.touch _))
      exact ⟨h.1.1,h.2⟩⟩
     gi_upto_region 16 with (fail)
     obtain ⟨Sx,hSx⟩:∃ Sx:World->Prop,Sx=fun W'=>W'.cell? ⟨bx,0,none⟩=some (.pointer (some ⟨y,0,none⟩))/\W'.cell? ⟨y,15,none⟩=some (.map (some b65))/\W'.cell? ⟨w.heap.size,0,none⟩=some (.pointer (some ⟨q,0,none⟩)):=⟨_,rfl⟩
     have y1:∀ p:Held Sx,p.w.cell? ⟨bx,0,none⟩=some (.pointer (some ⟨y,0,none⟩)):=fun p=>by have h:=Held.get hSx p;exact h.1
     have y2:∀ p:Held Sx,p.w.cell? ⟨y,15,none⟩=some (.map (some b65)):=fun p=>by have h:=Held.get hSx p;exact h.2.1
     have y3:∀ p:Held Sx,p.w.cell? ⟨w.heap.size,0,none⟩=some (.pointer (some ⟨q,0,none⟩)):=fun p=>by have h:=Held.get hSx p;exact h.2.2
     have HS:Hid (∀ W',W'.cell? ⟨bx,0,none⟩=some (.pointer (some ⟨y,0,none⟩))/\W'.cell? ⟨y,15,none⟩=some (.map (some b65))/\W'.cell? ⟨w.heap.size,0,none⟩=some (.pointer (some ⟨q,0,none⟩))->Sx W'):=⟨fun W' h=>by rw [hSx];exact h⟩
     have hS0:=HS.out (W7.drew) (HKC.out _ (Gr.refl W7).drew)
     have inst:Inhabited (Held Sx):=⟨⟨_,hS0⟩⟩
     clear hSx
     refine wpIn_region_mixS Sx 13 [([0,1,2,3,4,5,6,7],8),([9,10,11],12)] [] (fun _=>trivial) (by kernel_rfl) (by kernel_rfl) hS0 ?_
     refine segsIn_step ?_
     try simp only [opsAt,List.getElem?_cons_zero,List.getElem?_cons_succ]
     repeat (go_big_quiet_step (fail))
     refine wpQuiet_nil ?_
     gi_wp2_with ((refine ⟨trivial,?_⟩;gi_at_call 108;refine (CallsIn.inRound lp (callsIn_wide.2 (HRD.out _ (Gr.refl W7).drew))).mono ?_;rintro e w8 ⟨rfl,hg8⟩;have HG8:=hid ((Gr.refl W7).drew.trans hg8);clear hg8))
     refine ⟨.inr (Held.of (HS.out _ (HKC.out _ HG8.out))),?_⟩
     refine segsIn_step ?_
     try simp only [opsAt,List.getElem?_cons_zero,List.getElem?_cons_succ]
     repeat (go_big_quiet_step (fail))
     refine wpQuiet_nil ?_
     gi_wp2_with ((gi_at_mapUpdate;refine wpListIn_mapI _ rfl _ _ _ 142 rfl 3 90 keyed_int Tryz.underlying142 Tryz.underlying3 b65 n5 f5 rfl (HM5.out.gr HG8.out) HLL5.out (sa:Int) (.agg #[.int .i64 hp',.int .i64 hf',.int .i64 hk']) rfl rfl HWF5.out ?_;intro w9 hm9 ht9;have HM9:=hid hm9;have HT9:=hid ht9;clear hm9 ht9))
     refine ⟨.inr (Held.of (HS.out _ ((by have h:=HK.out w9 (HA7.out.t.trans ((HG8.out.touch _).trans (HT9.out.mono (fun i _ h=>.inl (.inr h)))));exact ⟨h.1.1,h.2⟩)))),?_⟩
     refine segsIn_end ?_
     try simp only [opsAt]
     repeat (go_big_quiet_step (fail))
     refine wpQuiet_nil ?_
     refine NoPanic.normal ?_
     clear y1 y2 y3 hS0 inst
     clear HS Sx
     clear k1 k3 k4
     have HA9:Hid (OpA W5 w9 b64 b65 v s (j+1) (mm+0)):=⟨HHDR.out w9 HM9.out ((HG8.out.touch _).trans HT9.out)⟩
     have HT79:Hid (Touch (fun i=>i=b64\/i=b65) W7 w9):=⟨(HG8.out.touch _).trans (HT9.out.mono (fun i _ h=>.inr h))⟩
     gi_wp2
     gi_loopw [16] (fun s16 wr=>∃ t A:Nat,t<=sz/\Hid (A=sa+t)/\Hid (OpA W5 wr b64 b65 v s (j+1) (mm+t))/\Hid (Touch (fun i=>i=b64\/i=b65) W7 wr)/\s16=.int .i64 A) (fun s16 _=>sa+sz-(intOf s16).toNat)
     case atStart=>exact ⟨0,sa,Nat.zero_le _,⟨rfl⟩,HA9,HT79,rfl⟩
     case round=>
      obtain ⟨t,A,ht,HAt,HA,HTA,rfl⟩:=hrel
      by_cases hlt:t<sz
      ·have HLT:=hid hlt
       have hAI:(A:Int)<(sa:Int)+(sz:Int):=by have:=HAt.out;omega
       have hAb:A<=1048576:=by have:=HAt.out;omega
       obtain ⟨e1,e2⟩:=HSRC.out t hlt
       obtain ⟨n4,f4,hm4,hn4,hf4⟩:=HA.out.wd
       have HPG:=hid (fun (W:World) (gW:Gr wr W)=>vm_page ((HVA.out wr HA.out.t).gr gW))
       obtain ⟨pg,hpge⟩:∃ pg,pg=v.pl.pg:=⟨_,rfl⟩
       rw [<-hpge] at HPG hpg
       obtain ⟨Q,hQ⟩:∃ Q,Q=A/pg:=⟨_,rfl⟩
       have g1:((A:Int).tdiv (pg:Int))=(Q:Int):=by rw [hQ];rfl
       have g2:((A:Int)/(pg:Int))=(Q:Int):=by rw [hQ];rfl
       have hpg0:(pg:Int)≠0:=by omega
       have hQb:Q<=1048576:=by rw [hQ];exact Nat.le_trans (Nat.div_le_self _ _) hAb
       have hsq:srcO s.L (mm+t)/s.pg=Q:=by rw [e1,hQ,HAt.out,hpge,HES.out.2.1]
       obtain ⟨N1,hN1⟩:∃ N1,N1=s.on (fun i=>decide (i<mm+t)) Q:=⟨_,rfl⟩
       have hN1b:N1<=1048576:=by
        rw [hN1]
        have h1:=s.on_le (fun i=>decide (i<mm+t)) Q
        have h2:=sizes_le HGD.out
        have h3:=HES.out.2.2.1
        omega
       have HLK:Hid (∀ W',Gr wr W'->(Instr.lookup 104 (.map (some b64)) (.int .i64 Q) false).run Tryz.prog W'=.ok (.int .i64 N1) W'):=⟨fun W' gW=>by
        rw [(hm4.gr gW).look keyed_int Tryz.underlying104 Tryz.underlying3 (zero_int W') (WalkArith.wf_i64 (by omega)),hf4 Q,hN1]⟩
       have HWD:Hid (∀ B,MapI Tryz.prog 3 B b64 (n4+1) (fun y=>if y=(Q:Int) then some (.int .i64 ((N1+1:Nat):Int)) else f4 y)->Touch (fun i=>i=b64) wr B->OpA W5 B b64 b65 v s (j+1) (mm+(t+1))):=⟨fun B hmB tB=>by
        have:=HA.out.word e2 HL64.out.2.2 hn4 hf4 (x:=N1+1) (B:=B) (by rw [hsq,hN1]) (by rw [hsq];exact hmB) tB
        rw [<-Nat.add_assoc];exact this⟩
       have HM4:=hid hm4
       have HLL4:Hid (n4<maxLen):=⟨by have:=HLL6.out;unfold maxLen;omega⟩
       have HWF4:Hid ((Lit.int .i64 (Q:Int)).wf=true):=⟨WalkArith.wf_i64 (by omega)⟩
       have hN2:(N1:Int)+1=((N1+1:Nat):Int):=by push_cast;rfl
       obtain ⟨N2,hN2'⟩:∃ N2,N2=N1+1:=⟨_,rfl⟩
       rw [<-hN2'] at hN2 HWD
       have HKD:Hid (∀ W',Gr wr W'->(W'.cell? ⟨bx,0,none⟩=some (.pointer (some ⟨y,0,none⟩))/\W'.cell? ⟨y,14,none⟩=some (.map (some b64)))/\W'.cell? ⟨w.heap.size,0,none⟩=some (.pointer (some ⟨q,0,none⟩))/\(Instr.lookup 104 (.map (some b64)) (.int .i64 Q) false).run Tryz.prog W'=.ok (.int .i64 N1) W'):=⟨fun W' gW=>by
        have h:=HK.out W' (HA.out.t.trans (gW.touch _))
        exact ⟨h.1,h.2.2,HLK.out W' gW⟩⟩
       clear e1 e2 hm4 hn4 hf4 hpge hQ hsq hN1 hN2' hlt
       gi_upto_region 20 with (fail)
       obtain ⟨Sx,hSx⟩:∃ Sx:World->Prop,Sx=fun W'=>(W'.cell? ⟨bx,0,none⟩=some (.pointer (some ⟨y,0,none⟩))/\W'.cell? ⟨y,14,none⟩=some (.map (some b64)))/\W'.cell? ⟨w.heap.size,0,none⟩=some (.pointer (some ⟨q,0,none⟩))/\(Instr.lookup 104 (.map (some b64)) (.int .i64 Q) false).run Tryz.prog W'=.ok (.int .i64 N1) W':=⟨_,rfl⟩
       have y1:∀ p:Held Sx,p.w.cell? ⟨bx,0,none⟩=some (.pointer (some ⟨y,0,none⟩)):=fun p=>by have h:=Held.get hSx p;exact h.1.1
       have y2:∀ p:Held Sx,p.w.cell? ⟨y,14,none⟩=some (.map (some b64)):=fun p=>by have h:=Held.get hSx p;exact h.1.2
       have y3:∀ p:Held Sx,p.w.cell? ⟨w.heap.size,0,none⟩=some (.pointer (some ⟨q,0,none⟩)):=fun p=>by have h:=Held.get hSx p;exact h.2.1
       have y4:∀ p:Held Sx,(Instr.lookup 104 (.map (some b64)) (.int .i64 Q) false).run Tryz.prog p.w=.ok (.int .i64 N1) p.w:=fun p=>by have h:=Held.get hSx p;exact h.2.2
       have HS:Hid (∀ W',(W'.cell? ⟨bx,0,none⟩=some (.pointer (some ⟨y,0,none⟩))/\W'.cell? ⟨y,14,none⟩=some (.map (some b64)))/\W'.cell? ⟨w.heap.size,0,none⟩=some (.pointer (some ⟨q,0,none⟩))/\(Instr.lookup 104 (.map (some b64)) (.int .i64 Q) false).run Tryz.prog W'=.ok (.int .i64 N1) W'->Sx W'):=⟨fun W' h=>by rw [hSx];exact h⟩
       have hS0:=HS.out (wr.drew) (HKD.out _ (Gr.refl wr).drew)
       have inst:Inhabited (Held Sx):=⟨⟨_,hS0⟩⟩
       clear hSx
       refine wpIn_region_mixS Sx 10 [([0,1,2,3,4,5],6),([7,8,9],10)] [] (fun _=>trivial) (by kernel_rfl) (by kernel_rfl) hS0 ?_
       refine segsIn_step ?_
       try simp only [opsAt,List.getElem?_cons_zero,List.getElem?_cons_succ]
       repeat (go_big_quiet_step (fail))
       refine wpQuiet_nil ?_
       gi_wp2_with ((refine ⟨trivial,?_⟩;gi_at_call 71;refine (CallsIn.inRound lp (callsIn_wide.2 (HPG.out _ (Gr.refl wr).drew))).mono ?_;rintro e w8 ⟨rfl,rfl⟩))
       refine ⟨.inr (Held.of (HS.out _ (HKD.out _ (Gr.refl wr).drew))),?_⟩
       refine segsIn_step ?_
       try simp only [opsAt,List.getElem?_cons_zero,List.getElem?_cons_succ]
       repeat (go_big_quiet_step (fail))
       refine wpQuiet_nil ?_
       gi_wp2_with ((gi_at_mapUpdate;refine wpListIn_mapI _ rfl _ _ _ 104 rfl 3 3 keyed_int Tryz.underlying104 Tryz.underlying3 b64 n4 f4 rfl (HM4.out.gr (Gr.refl wr).drew) HLL4.out (Q:Int) (.int .i64 N2) rfl rfl HWF4.out ?_;intro w10 hm10 ht10;have HM10:=hid hm10;have HT10:=hid ht10;clear hm10 ht10))
       refine ⟨.inl trivial,?_⟩
       refine segsIn_end ?_
       try simp only [opsAt]
       repeat (go_big_quiet_step (fail))
       refine wpQuiet_nil ?_
       refine NoPanic.normal ?_
       clear y1 y2 y3 y4 hS0 inst
       clear HS Sx
       have HT11:Hid (Touch (fun i=>i=b64) wr w10):=⟨((Gr.refl wr).drew.touch _).trans HT10.out⟩
       gi_wp2
       go_roundw
       case rel=>exact ⟨t+1,A+1,HLT.out,⟨by have:=HAt.out;omega⟩,⟨HWD.out w10 HM10.out HT11.out⟩,⟨HTA.out.trans (HT11.out.mono (fun i _ h=>.inl h))⟩,by go_num⟩
       case measure=>have:=HAt.out;have:=HLT.out;simp [intOf];omega
      ·obtain rfl:t=sz:=by omega
       have hAI:¬ (A:Int)<(sa:Int)+(t:Int):=by have:=HAt.out;omega
       clear hlt
       gi_wp2
       have hsz:=HSZ7.out
       have l4:=HL64.out
       refine ⟨HTA.out.mono (fun i _ h=>.inl (by rcases h with rfl | rfl <;> omega)),j+1,rfl,hjl,?_⟩
       rw [HSJ.out]
       exact HA.out
    case done=>
     rintro D j W7 hD rfl hI7 hK
     have hA7:=hI7.2
     rw [List.take_length] at hA7
     have HA7:=hid hA7
     have HKK:=hid (HK.out W7 hA7.t)
     have hz7:=hA7.t.size
     have HSL:=hid HES.out.2.2.2
     have HCY:Hid (Cyc W7 (fun b=>w1.heap.size<=b/\b<W5.heap.size) y q ⟨w2.heap.size,w3.heap.size,p,m,p1,b1,p2,b2,b65,b61,nb,b64⟩ (slNew v c L)):=⟨by
      have hA:=hA7
      rw [HSL.out] at hA
      exact sl_cyc0 HX.out HG3.out HPL.out ⟨hz2,HMX.out.1,HMX.out.2.1,HMX.out.2.2.1,HMX.out.2.2.2.1,HMX.out.2.2.2.2⟩ (HT3.out.trans (hg5.touch _)) ⟨gy,g61,g64,g65⟩ HNB.out (HRY.out.gr hg5) (own_gr HO61.out hg5) (HM64.out.gr hg5) (HM65.out.gr hg5) hne hA (fun i h1 h2 h3 h=>by omega) hA.t⟩
     have HR7:Hid (RtAt W7 r g rs):=⟨by
      have h1:=(HR.out.gr HG01.out).touch HT2.out (fun h=>HNO.out.2.1 h.1) (fun h=>HNO.out.2.2.1 h.1)
      exact (h1.gr HG3.out).gr (HTX.out W7 (HT5.out W7 hA7.t))⟩
     have HST:=hid (slNew_st HOK.out HCF.out HI.out (by rw [<-HSN.out];exact Nat.le_of_not_lt HBIG.out))
     have hgl:g<w1.heap.size:=by omega
     have HTU:=hid (sl_turns (fun W tW=>HCY.out.touch tW (fun k hk e=>by have:=hk.1;omega)) HST.out HR7.out)
     have hmf:∀ (fn:Fn) (first cap:Array Value) (w:World),(Instr.makeFunc fn first cap).run Tryz.prog w=.ok (.func fn first cap) w:=fun _ _ _ _=>rfl
     have hHV7:=HVA.out W7 hA7.t
     have HV7:=hid hHV7
     have hHB3:=(HB33.out.gr (HTX.out W7 (HT5.out W7 hA7.t)))
     have hHB5:=(HB53.out.gr (HTX.out W7 (HT5.out W7 hA7.t)))
     have hHX7:=(HRX.out.gr hg5).touch hA7.t (by omega)
     have HBX:=hid (And.intro hHB3 (And.intro hHB5 hHX7))
     have c13:=hHX7.cell (j:=0) rfl
     have clx:=hHX7.lt
     have HK0:=hid hK
     have HD0:Hid (D=W5.heap.size):=⟨hD⟩
     clear hA7 hI7 hHV7 hHB3 hHB5 hHX7 hK hD
     gi_upto_region 22 with (refine ⟨trivial,?_⟩;gi_at_call 68;refine (callsIn_wide.2 (HTU.out)).mono ?_;rintro e w8 ⟨rfl,ht8,hr8⟩;have HT8:=hid ht8;have HR8:=hid hr8;clear ht8 hr8)
     clear c13 clx
     obtain ⟨hB3,hB5,hXb⟩:=HBX.out
     have HB38:=hid (hB3.touch HT8.out (fun h=>by omega))
     have HB58:=hid (hB5.touch HT8.out (fun h=>by omega))
     have HX8:=hid (hXb.touch HT8.out (fun h=>by omega))
     have HCY8:=hid (HCY.out.touch HT8.out (fun k hk e=>by have:=hk.1;omega))
     have hz8:=HT8.out.size
     obtain ⟨S5,hS5⟩:∃ S5,S5=cutS (cutS S w) w1:=⟨_,rfl⟩
     have HS5:Hid (∀ b,S5 b->S b/\b<w.heap.size):=⟨fun b hb=>by rw [hS5] at hb;exact hb.1⟩
     have hV8:VmAt w8 S5 q v:=by rw [hS5];exact HV7.out.touch HT8.out (fun b hb _ h=>HNO.out.2.2.1 (h ▸ hb.1.1))
     have HV8:=hid hV8
     have HK8:Hid (w8.heap[D]?=some (.deferred (some []))/\D<w8.heap.size/\W5.heap.size<=D):=⟨by
      have h1:=(Array.getElem?_eq_some_iff.1 HK0.out).1
      have h2:=HD0.out
      exact ⟨(HT8.out.block D h1 (by omega)).trans HK0.out,by omega,by omega⟩⟩
     have HVP:=hid (fun (W:World) (g':Gr w8 W)=>vm_page (HV8.out.gr g'))
     obtain ⟨pg,hpge⟩:∃ pg,pg=v.pl.pg:=⟨_,rfl⟩
     have HPGE:=hid hpge
     rw [<-hpge] at HVP hpg
     obtain ⟨q0,hq0⟩:∃ q0,q0=c.fr/pg:=⟨_,rfl⟩
     have hq0m:q0*pg<=c.fr:=by rw [hq0];exact Nat.div_mul_le_self c.fr pg
     have HQ0:=hid hq0
     have HQM:=hid hq0m
     have g1:((c.fr:Int).tdiv (pg:Int))=(q0:Int):=by rw [hq0];rfl
     have g2:((c.fr:Int)/(pg:Int))=(q0:Int):=by rw [hq0];rfl
     have hpg0:(pg:Int)≠0:=by omega
     have hq0n:q0<=524288:=by have:=Nat.div_le_self c.fr pg;omega
     have HUM:Hid (UmO w8 w8.drew S5 q (slNew v c L) v q0 0 pg c.tp):=⟨(Gr.refl w8).drew.touch _,⟨S5,v,fun b h=>.inl h,HV8.out.gr (Gr.refl w8).drew,OpUm.zero HOK.out q0⟩,fun i hi=>absurd hi (Nat.not_lt_zero _)⟩
     have u1:=HB38.out.cell (j:=0) rfl
     have u2:=HB58.out.cell (j:=0) rfl
     clear hB3 hB5 hXb hV8 hpge hq0 hq0m hS5
     obtain ⟨Sx,hSx⟩:∃ Sx:World->Prop,Sx=fun W'=>W'.cell? ⟨w.heap.size,0,none⟩=some (.pointer (some ⟨q,0,none⟩))/\W'.cell? ⟨w.heap.size+1,0,none⟩=some (.int .i64 c.fr):=⟨_,rfl⟩
     have x1:∀ p:Held Sx,p.w.cell? ⟨w.heap.size,0,none⟩=some (.pointer (some ⟨q,0,none⟩)):=fun p=>by have h:=Held.get hSx p;exact h.1
     have x2:∀ p:Held Sx,p.w.cell? ⟨w.heap.size+1,0,none⟩=some (.int .i64 c.fr):=fun p=>by have h:=Held.get hSx p;exact h.2
     have HS:Hid (∀ W',W'.cell? ⟨w.heap.size,0,none⟩=some (.pointer (some ⟨q,0,none⟩))/\W'.cell? ⟨w.heap.size+1,0,none⟩=some (.int .i64 c.fr)->Sx W'):=⟨fun W' h=>by rw [hSx];exact h⟩
     have hS0:=HS.out (w8.drew) (⟨u1,u2⟩)
     have inst:Inhabited (Held Sx):=⟨⟨_,hS0⟩⟩
     clear hSx
     refine wpIn_region_mixS Sx 6 [([0,1,2],3)] [4,5] wide_fn (by kernel_rfl) (by kernel_rfl) hS0 ?_
     refine segsIn_step ?_
     try simp only [opsAt,List.getElem?_cons_zero,List.getElem?_cons_succ]
     repeat (go_big_quiet_step (fail))
     refine wpQuiet_nil ?_
     gi_wp2_with ((refine ⟨trivial,?_⟩;gi_at_call 71;refine (callsIn_wide.2 (HVP.out _ (Gr.refl w8).drew)).mono ?_;rintro e w9 ⟨rfl,rfl⟩))
     refine ⟨.inr (Held.of (HS.out _ (⟨u1,u2⟩))),?_⟩
     refine segsIn_end ?_
     try simp only [opsAt,List.getElem?_cons_zero,List.getElem?_cons_succ]
     repeat (go_big_quiet_step (fail))
     refine wpQuiet_nil ?_
     refine NoPanic.normal ?_
     clear x1 x2 hS0 inst
     clear HS Sx
     clear u1 u2
     gi_wp2
     gi_loopw [17] (fun s17 wx=>∃ j:Nat,Hid (UmO w8 wx S5 q (slNew v c L) v q0 j pg c.tp)/\s17=.int .i64 ((q0+j:Nat):Int)) (fun s17 _=>c.tp-(intOf s17).toNat*pg)
     case atStart=>exact ⟨0,HUM,rfl⟩
     case round=>
      clear HUM
      obtain ⟨j,HU,rfl⟩:=hrel
      obtain ⟨Sj,v',hsj,hvj,hum⟩:=HU.out.vm
      have hVP:=fun (W:World) (g':Gr wr W)=>vm_page (hvj.gr g')
      rw [hum.pg,<-HPGE.out] at hVP
      have HVP2:=hid hVP
      have HVJ:=hid hvj
      have HSJ:=hid hsj
      have HOU:=hid hum
      have HBX3:=hid (HB38.out.touch HU.out.t (fun h=>by have:=(HS5.out _ h).2;omega))
      have HBX5:=hid (HB58.out.touch HU.out.t (fun h=>by have:=(HS5.out _ h).2;omega))
      have HBXX:=hid (HX8.out.touch HU.out.t (fun h=>by have:=(HS5.out _ h).2;omega))
      have HCYX:=hid (HCY8.out.touch HU.out.t (fun k hk h=>by have:=hk.1;have:=(HS5.out _ h).2;omega))
      obtain ⟨qq,hqq⟩:∃ qq,qq=q0+j:=⟨_,rfl⟩
      obtain ⟨pp,hpp⟩:∃ pp,pp=qq*pg:=⟨_,rfl⟩
      have hppb:pp<=1048576:=by
       rcases Nat.eq_zero_or_pos j with h0 | h0
       ·rw [hpp,hqq,h0,Nat.add_zero];have:=HQM.out;omega
       ·have:=HU.out.q1 (j-1) (by omega)
        have e:pp=(q0+(j-1))*pg+pg:=by rw [hpp,hqq,show q0+j=(q0+(j-1))+1 by omega,Nat.add_mul,Nat.one_mul]
        omega
      have hqb:qq<=pp:=by rw [hpp];exact Nat.le_mul_of_pos_right _ (by omega)
      have hmul:((qq:Int)*(pg:Int))=(pp:Int):=by rw [hpp];push_cast;rfl
      have HQQ:=hid (And.intro hqq hpp)
      rw [<-hqq]
      have u1:=HBX3.out.cell (j:=0) rfl
      have u2:=HBX5.out.cell (j:=1) rfl
      clear hVP hvj hsj hqq hpp hum
      by_cases hlt:pp<c.tp
      ·have e1:decide ((pp:Int)<(c.tp:Int))=true:=decide_eq_true (by omega)
       have e2:decide (pp<c.tp)=true:=decide_eq_true hlt
       have HLT:=hid hlt
       have hlk:=wds_look (HCYX.out.gr (Gr.refl wr).drew).wd (q:=qq) (by omega)
       have hon:(slNew v c L).on (fun i=>!(slNew v c L).is i) qq=(slNew v c L).on (fun _=>true) qq:=Sl.on_congr fun i _=>by rw [slNew_is];rfl
       rw [hon] at hlk
       obtain ⟨N1,hN1⟩:∃ N1,N1=(slNew v c L).on (fun _=>true) qq:=⟨_,rfl⟩
       have HN1:=hid hN1
       rw [<-hN1] at hlk
       have HLK:=hid hlk
       clear hlt hN1 hon hlk
       gi_upto_region 23 with (fail)
       obtain ⟨Sx,hSx⟩:∃ Sx:World->Prop,Sx=fun W'=>W'.cell? ⟨w.heap.size,0,none⟩=some (.pointer (some ⟨q,0,none⟩))/\W'.cell? ⟨w.heap.size+1,1,none⟩=some (.int .i64 c.tp):=⟨_,rfl⟩
       have x1:∀ p:Held Sx,p.w.cell? ⟨w.heap.size,0,none⟩=some (.pointer (some ⟨q,0,none⟩)):=fun p=>by have h:=Held.get hSx p;exact h.1
       have x2:∀ p:Held Sx,p.w.cell? ⟨w.heap.size+1,1,none⟩=some (.int .i64 c.tp):=fun p=>by have h:=Held.get hSx p;exact h.2
       have HS:Hid (∀ W',W'.cell? ⟨w.heap.size,0,none⟩=some (.pointer (some ⟨q,0,none⟩))/\W'.cell? ⟨w.heap.size+1,1,none⟩=some (.int .i64 c.tp)->Sx W'):=⟨fun W' h=>by rw [hSx];exact h⟩
       have hS0:=HS.out (wr.drew) (⟨u1,u2⟩)
       have inst:Inhabited (Held Sx):=⟨⟨_,hS0⟩⟩
       clear hSx
       refine wpIn_region_mixS Sx 7 [([0,1,4,5],2)] [3,6] wide_fn (by kernel_rfl) (by kernel_rfl) hS0 ?_
       refine segsIn_step ?_
       try simp only [opsAt,List.getElem?_cons_zero,List.getElem?_cons_succ]
       repeat (go_big_quiet_step (fail))
       refine wpQuiet_nil ?_
       gi_wp2_with ((refine ⟨trivial,?_⟩;gi_at_call 71;refine (callsIn_wide.2 (HVP2.out _ (Gr.refl wr).drew)).mono ?_;rintro e w10 ⟨rfl,rfl⟩))
       refine ⟨.inr (Held.of (HS.out _ (⟨u1,u2⟩))),?_⟩
       refine segsIn_end ?_
       try simp only [opsAt,List.getElem?_cons_zero,List.getElem?_cons_succ]
       repeat (go_big_quiet_step (fail))
       refine wpQuiet_nil ?_
       refine NoPanic.normal ?_
       clear x1 x2 hS0 inst
       clear HS Sx
       have z1:=(HBXX.out.gr (Gr.refl wr).drew).cell (j:=0) rfl
       have zl:=(HBXX.out.gr (Gr.refl wr).drew).lt
       have z2:=(HCYX.out.gr (Gr.refl wr).drew).rc.cell (j:=14) rfl
       have zl2:=(HCYX.out.gr (Gr.refl wr).drew).rc.lt
       have hlk:=HLK.out
       have u3:=HBX3.out.lt
       have hzw:=(Gr.refl wr).drew.size
       have hzt:=HU.out.t.size
       by_cases hz:N1=0
       ·have d0:((N1:Int)==0)=true:=by simp [hz]
        have HZ:=hid hz
        clear hz
        gi_wp2_with (refine ⟨trivial,?_⟩;gi_at_call 72;refine (callsIn_wide.2 (vm_unmap (HVJ.out.gr (Gr.refl wr).drew) (qq:Int))).mono ?_;rintro e w11 ⟨rfl,ht11,hv11⟩;have HT11:=hid ht11;have HV11:=hid hv11;clear ht11 hv11)
        go_roundw
        case rel=>
         refine ⟨j+1,⟨⟨?_,⟨plus Sj wr.drew,_,fun b hb=>?_,HV11.out,?_⟩,fun i hi=>?_⟩⟩,?_⟩
         ·exact (HU.out.t.trans ((Gr.refl wr).drew.touch _)).trans' HT11.out (fun b hb h=>(HSJ.out b h).elim id (fun h=>by omega))
         ·rcases hb with h | h
          ·exact HSJ.out b h
          ·right;omega
         ·have:=HOU.out.drop (j:=j) (by rw [<-HQQ.out.1,<-HN1.out];exact HZ.out)
          rw [<-HQQ.out.1] at this
          exact this
         ·rcases Nat.lt_or_ge i j with h | h
          ·exact HU.out.q1 i h
          ·obtain rfl:i=j:=by omega
           rw [<-HQQ.out.1,<-HQQ.out.2];exact HLT.out
         ·rw [show q0+(j+1)=qq+1 by rw [HQQ.out.1];omega]
          go_num
        case measure=>
         have h1:=HLT.out
         have h2:=HQQ.out.2
         simp only [intOf]
         rw [show ((qq:Int)+1).toNat=qq+1 by omega,Int.toNat_natCast,Nat.add_mul,Nat.one_mul,<-h2]
         omega
       ·have d0:((N1:Int)==0)=false:=by simp;exact hz
        have HZ:=hid hz
        clear hz
        gi_wp2
        go_roundw
        case rel=>
         refine ⟨j+1,⟨⟨HU.out.t.trans ((Gr.refl wr).drew.touch _),⟨Sj,_,HSJ.out,HVJ.out.gr (Gr.refl wr).drew,?_⟩,fun i hi=>?_⟩⟩,?_⟩
         ·exact HOU.out.keep (j:=j) (by rw [<-HQQ.out.1,<-HN1.out];exact HZ.out)
         ·rcases Nat.lt_or_ge i j with h | h
          ·exact HU.out.q1 i h
          ·obtain rfl:i=j:=by omega
           rw [<-HQQ.out.1,<-HQQ.out.2];exact HLT.out
         ·rw [show q0+(j+1)=qq+1 by rw [HQQ.out.1];omega]
          go_num
        case measure=>
         have h1:=HLT.out
         have h2:=HQQ.out.2
         simp only [intOf]
         rw [show ((qq:Int)+1).toNat=qq+1 by omega,Int.toNat_natCast,Nat.add_mul,Nat.one_mul,<-h2]
         omega
      ·have e1:decide ((pp:Int)<(c.tp:Int))=false:=decide_eq_false (by omega)
       have e2:decide (pp<c.tp)=false:=decide_eq_false hlt
       have HLT:=hid hlt
       clear hlt
       gi_upto_region 23 with (fail)
       obtain ⟨Sx,hSx⟩:∃ Sx:World->Prop,Sx=fun W'=>W'.cell? ⟨w.heap.size,0,none⟩=some (.pointer (some ⟨q,0,none⟩))/\W'.cell? ⟨w.heap.size+1,1,none⟩=some (.int .i64 c.tp):=⟨_,rfl⟩
       have x1:∀ p:Held Sx,p.w.cell? ⟨w.heap.size,0,none⟩=some (.pointer (some ⟨q,0,none⟩)):=fun p=>by have h:=Held.get hSx p;exact h.1
       have x2:∀ p:Held Sx,p.w.cell? ⟨w.heap.size+1,1,none⟩=some (.int .i64 c.tp):=fun p=>by have h:=Held.get hSx p;exact h.2
       have HS:Hid (∀ W',W'.cell? ⟨w.heap.size,0,none⟩=some (.pointer (some ⟨q,0,none⟩))/\W'.cell? ⟨w.heap.size+1,1,none⟩=some (.int .i64 c.tp)->Sx W'):=⟨fun W' h=>by rw [hSx];exact h⟩
       have hS0:=HS.out (wr.drew) (⟨u1,u2⟩)
       have inst:Inhabited (Held Sx):=⟨⟨_,hS0⟩⟩
       clear hSx
       refine wpIn_region_mixS Sx 7 [([0,1,4,5],2)] [3,6] wide_fn (by kernel_rfl) (by kernel_rfl) hS0 ?_
       refine segsIn_step ?_
       try simp only [opsAt,List.getElem?_cons_zero,List.getElem?_cons_succ]
       repeat (go_big_quiet_step (fail))
       refine wpQuiet_nil ?_
       gi_wp2_with ((refine ⟨trivial,?_⟩;gi_at_call 71;refine (callsIn_wide.2 (HVP2.out _ (Gr.refl wr).drew)).mono ?_;rintro e w10 ⟨rfl,rfl⟩))
       refine ⟨.inr (Held.of (HS.out _ (⟨u1,u2⟩))),?_⟩
       refine segsIn_end ?_
       try simp only [opsAt,List.getElem?_cons_zero,List.getElem?_cons_succ]
       repeat (go_big_quiet_step (fail))
       refine wpQuiet_nil ?_
       refine NoPanic.normal ?_
       clear x1 x2 hS0 inst
       clear HS Sx
       clear u1 u2
       have z1:=(HBXX.out.gr (Gr.refl wr).drew).cell (j:=0) rfl
       have zl:=(HBXX.out.gr (Gr.refl wr).drew).lt
       gi_wp2
       have hzt:=HU.out.t.size
       have hzw:=(Gr.refl wr).drew.size
       have hS5D:¬ S5 D:=fun h=>by have:=(HS5.out _ h).2;have:=HK8.out.2.2;omega
       have hD5:wr.drew.heap[D]?=some (.deferred (some [])):=by
        have h2:=HK8.out.2.1
        rw [(Gr.refl wr).drew.block (by omega),HU.out.t.block D h2 hS5D]
        exact HK8.out.1
       refine ⟨by simp,.inl ⟨_,_,rfl,run_takeDeferred hD5,?_⟩⟩
       have tt:=touch_put1 wr.drew D (.deferred none)
       have hD0:=HD0.out
       refine ⟨.tuple #[.pointer (some ⟨y,0,none⟩),.int .i64 0],?_,?_,.inr ⟨L,HI.out,.inr ⟨by have h1:=HBIG.out;have h2:=HSN.out;omega,y,_,_,Sj,v',j,rfl,(HCYX.out.gr (Gr.refl wr).drew).touch tt (fun k hk e=>by have:=hk.2;omega),(HVJ.out.gr (Gr.refl wr).drew).touch tt (fun b hb _ h=>?_),fun b hb=>?_,fun b hb=>⟨?_,fun h=>?_⟩,?_,?_,?_,?_⟩⟩⟩
       ·simp [results,Tryz.f47,go_sem]
       ·have a1:Touch (fun b=>b=g\/S b) w w1:=HG01.out.touch _
        have a2:=a1.trans (HT2.out.mono (fun i _ h=>.inr h.1))
        have a3:=a2.trans ((HG3.out.trans (HTX.out W7 (HT5.out W7 HA7.out.t))).touch _)
        have a4:=a3.trans (HT8.out.mono (fun i _ h=>.inl h))
        have a5:=a4.trans (HU.out.t.mono (fun i _ h=>.inr (HS5.out i h).1))
        exact (a5.trans ((Gr.refl wr).drew.touch _)).trans' tt (fun b hb h=>by omega)
       ·rcases HSJ.out b hb with h' | h'
        ·exact hS5D (h ▸ h')
        ·have:=HK8.out.2.1;omega
       ·rcases HSJ.out b hb with h' | h'
        ·exact .inl (HS5.out b h').1
        ·right;omega
       ·have:=hb.1;omega
       ·rcases HSJ.out b h with h' | h'
        ·have:=(HS5.out b h').2;have:=hb.1;omega
        ·have:=hb.2;omega
       ·rw [<-HPGE.out,<-HQ0.out];exact HOU.out
       ·rw [<-HPGE.out,<-HQ0.out,<-HQQ.out.1,<-HQQ.out.2];have:=HLT.out;omega
       ·intro i hi
        rw [<-HPGE.out,<-HQ0.out];exact HU.out.q1 i hi
       ·exact ((HR8.out.touch HU.out.t (fun h=>HNO.out.2.1 (HS5.out r h).1) (fun h=>HNO.out.2.2.1 (HS5.out g h).1)).gr (Gr.refl wr).drew).touch tt (fun h=>by omega) (fun h=>by omega)
 ·clear z3 z50 z51 z52 z53 z54 z55 z56 zl3 zl5
  have HNOL:=hid hno
  clear hno
  gi_wp2
  refine ⟨.tuple #[.pointer none,.int .i64 25],?_,?_,.inl ⟨HNOL.out,rfl,HV2.out.mono (fun b hb=>hb.1.1),(HR.out.gr HG01.out).touch HT2.out (fun h=>HNO.out.2.1 h.1) (fun h=>HNO.out.2.2.1 h.1)⟩⟩
  ·simp [results,Tryz.f47,go_sem]
  ·have a1:Touch (fun b=>b=g\/S b) w w1:=HG01.out.touch _
   exact a1.trans (HT2.out.mono (fun i _ h=>.inr h.1))
end
end Go.Proofs.YtbmidhlilafgeaaGreatDoor
end
section
namespace Go.Proofs.YtbmidhlilafgeaaGreatDoor
open Go.RowKit Go.Shelf Word
def heapS (s:Sl) (q r:Nat) (vL:Value):List Value:=[.pointer (some ⟨q,0,none⟩),.pointer (some ⟨r,0,none⟩),.int .i64 s.cf.fr,.int .i64 s.cf.tp,.int .i64 s.cf.to,.int .i64 s.cf.lm,.int .i64 s.cf.bk,.int .i64 s.cf.st,.int .i64 s.cf.ah,vL,.int .i64 s.pg]
structure G24 (s:Sl) (u:Vm):Prop where
 n1:s.n<=1100
 hf:s.cf.tp<=s.cf.fr+512
 fu:FullN s.n u
 hd:∀ j (hj:j<s.L.length),u.rdH (s.L[j].1:Nat)=s.hd s.L[j].1
 pt:∀ i,i<sizes s.L->s.ptr i->u.ldV (srcO s.L i:Nat)<=2147483647
section
variable {w W W':World} {hp q r:Nat} {vL:Value} {y ry:Nat} {z:SlAd} {a:RcAd} {R S:Nat->Prop} {s s':Sl} {ml ml':List Bool} {v v' u:Vm}
theorem SlA.page {s:Sl} {v:Vm} (h:SlA s v) (ho:SlOk s v) {p:Nat} (hp:p<v.pt.length):(frE v.pt (p:Int)==0)=(decide (0<p)&&((decide (p*s.pg<s.cf.fr+512)&&s.owesB p)||s.hasB p))\/¬ s.cf.tp<=s.cf.fr+512:=by
 by_cases hf:s.cf.tp<=s.cf.fr+512
 ·left
  have h1:=h.1 p hp
  have hpg:=ho.st.pg.1
  rw [frE_of hp]
  by_cases h0:v.pt.getD p 0=0
  ·rw [if_pos h0]
   have h2:¬ _:=fun hx=>(h1.2 hx) h0
   have e1:s.owesB p=false:=Bool.eq_false_iff.2 fun hx=>h2 (.inl (owesB_iff.1 hx))
   have e2:s.hasB p=false:=Bool.eq_false_iff.2 fun hx=>h2 (.inr (hasB_iff.1 hx))
   rw [e1,e2]
   simp
  ·rw [if_neg h0]
   rcases h1.1 h0 with hx | hx
   ·obtain ⟨i,hi,he,hm⟩:=hx
    have h3:=ho.st.srcs hi
    have h4:=(div_is hpg).1 he
    have h5:=ho.st.cf.fr
    have e1:s.owesB p=true:=owesB_iff.2 ⟨i,hi,he,hm⟩
    have e2:0<p:=by
     rcases Nat.eq_zero_or_pos p with h | h
     ·subst h;omega
     ·exact h
    rw [e1,decide_eq_true e2,decide_eq_true (show p*s.pg<s.cf.fr+512 by omega)]
    rfl
   ·obtain ⟨i,hi,he,hm⟩:=hx
    have h4:=(div_is hpg).1 he
    have h5:=ho.st.cf.to
    have e1:s.hasB p=true:=hasB_iff.2 ⟨i,hi,he,hm⟩
    have e2:0<p:=by
     rcases Nat.eq_zero_or_pos p with h | h
     ·subst h;omega
     ·exact h
    rw [e1,decide_eq_true e2]
    simp
 ·exact .inr hf
end
end Go.Proofs.YtbmidhlilafgeaaGreatDoor
end
section
namespace Go.Proofs.YtbmidhlilafgeaaGreatDoor
open Go.RowKit Word
open Classical in
theorem LaidIn.ex {x:LaidC} {v0 v:Vm} (hl:∀ a:Nat,x.page<=a->a<x.top->v0.ldE a=0) (h:LaidIn x v0 v x.k):∃ L,Marks v x.rs x.n L:=by
 have hS:=h.sound hl
 have hmem:∀ j,j<x.k->Rch v x.rs ((x.at j:Nat):Int)->(x.at j,(v.osz ((x.at j:Nat):Int)).toNat)∈((List.range x.k).filter (fun j=>decide (Rch v x.rs ((x.at j:Nat):Int)))).map (fun j=>(x.at j,(v.osz ((x.at j:Nat):Int)).toNat)):=fun j hj hr=>
  List.mem_map.2 ⟨j,List.mem_filter.2 ⟨List.mem_range.2 hj,decide_eq_true hr⟩,rfl⟩
 have hout:∀ o∈((List.range x.k).filter (fun j=>decide (Rch v x.rs ((x.at j:Nat):Int)))).map (fun j=>(x.at j,(v.osz ((x.at j:Nat):Int)).toNat)),∃ j,j<x.k/\Rch v x.rs ((x.at j:Nat):Int)/\o=(x.at j,(v.osz ((x.at j:Nat):Int)).toNat):=fun o ho=>by
  obtain ⟨j,hj,rfl⟩:=List.mem_map.1 ho
  obtain ⟨h1,h2⟩:=List.mem_filter.1 hj
  exact ⟨j,List.mem_range.1 h1,of_decide_eq_true h2,rfl⟩
 have hhs:∀ a,Rch v x.rs a->Hs (((List.range x.k).filter (fun j=>decide (Rch v x.rs ((x.at j:Nat):Int)))).map (fun j=>(x.at j,(v.osz ((x.at j:Nat):Int)).toNat))) a:=fun a ha=>by
  obtain ⟨j,hj,rfl⟩:=h.rch hl ha
  exact ⟨_,hmem j hj ha,rfl⟩
 refine ⟨_,⟨⟨⟨?_,fun o ho=>?_⟩,fun o ho=>?_⟩,hhs,fun o ho=>?_⟩⟩
 ·rw [List.pairwise_map]
  refine List.Pairwise.imp_of_mem ?_ (List.Pairwise.filter _ List.pairwise_lt_range)
  intro i j hi hj hij
  have hjk:=List.mem_range.1 (List.mem_filter.1 hj).1
  obtain ⟨p,f,c,e,-,-,hz⟩:=h.ob hl (j:=i) (by omega)
  have h1:=at_next (x:=x) (by omega) e
  have h2:=at_mono (x:=x) (i:=i+1) (j:=j) (by omega)
  dsimp only
  rw [hz]
  omega
 ·obtain ⟨j,hj,hr,rfl⟩:=hout o ho
  have h1:=hS.rm _ hr
  have h2:=osz_pos (hS.rd _ hr)
  dsimp only
  omega
 ·obtain ⟨j,hj,hr,rfl⟩:=hout o ho
  have h2:=osz_pos (hS.rd _ hr)
  exact ⟨hr,hS.rd _ hr,by dsimp only;omega⟩
 ·obtain ⟨j,hj,hr,rfl⟩:=hout o ho
  intro i hi
  have hpt:=hS.pt _ hr i hi
  exact ⟨hpt,fun h0=>hhs _ (hr.step ⟨hS.rd _ hr,i,hi,hpt,h0,rfl⟩)⟩
end Go.Proofs.YtbmidhlilafgeaaGreatDoor
end
section
namespace Go.Proofs.YtbmidhlilafgeaaGreatDoor
open Go.RowKit Word
theorem open_yes {w w':World} {S:Nat->Prop} {q r g:Nat} {v:Vm} {rs:List Int} {c:Cf} {L:List Ob} {e:Ending} (hI:PkIn v rs c.fr c.tp L) (hfit:sizes L<=c.lm-c.to) (h:OpenEnd w S q r g v rs c e w'):
  Touch (fun b=>b=g\/S b) w w'/\∃ (y:Nat) (z:SlAd) (R S':Nat->Prop) (v':Vm) (j:Nat),e=.returned (.tuple #[.pointer (some ⟨y,0,none⟩),.int .i64 0])/\Cyc w' R y q z (slNew v c L)/\VmAt w' S' q v'/\(∀ b,S' b->S b\/w.heap.size<=b)/\(∀ b,R b->w.heap.size<=b/\¬ S' b) ∧
    OpUm (slNew v c L) v v' (c.fr/v.pl.pg) j/\c.tp<=(c.fr/v.pl.pg+j)*v.pl.pg/\RtAt w' r g (rs.map (toV L c.to)):=by
 obtain ⟨ht,(⟨hno,-⟩ | ⟨L',hI',(⟨hb,-⟩ | ⟨-,y,z,R,S',v',j,e1,e2,e3,e4,e5,e6,e7,-,e8⟩)⟩)⟩:=h
 ·exact absurd hI (hno L)
 ·have:=hI'.1.unique hI.1
  subst this
  omega
 ·have:=hI'.1.unique hI.1
  subst this
  exact ⟨ht,y,z,R,S',v',j,e1,e2,e3,e4,e5,e6,e7,e8⟩
theorem wrds_same {u v:Vm} {M:Nat} (h:∀ a:Nat,a<M->u.ldV a=v.ldV a):wrds u M=wrds v M:=by
 unfold wrds
 apply List.map_congr_left
 intro a ha
 rw [List.mem_range] at ha
 rw [h a ha]
structure Op24 (x:LaidC) (v u:Vm) (L:List Ob):Prop where
 ok:VmOk v
 pg:v.pl.pg=x.page
 n:v.n=x.n
 inn:PkIn v x.rs x.cf.fr x.cf.tp L
 fit:sizes L<=x.cf.lm-x.cf.to
 full:FullOb v L
 cf:CfOk v.pl.pg v.n x.cf
 mrk:Marks u x.rs x.n L
 wd:wrds v x.n=wrds u x.n
 g:G24 (slNew v x.cf L) u
 c:∀ i,i<sizes L->(slNew v x.cf L).c i=(slNew v x.cf L).cv i (u.ldV (srcO L i:Nat))
 map:∀ p,p<v.pt.length->v.pt.getD p 0≠0->x.cf.fr/v.pl.pg<=p/\p*v.pl.pg<x.cf.tp
 st:SlSt (slNew v x.cf L)
theorem open24 {x:LaidC} {rm:Nat} {v0:Vm} (hr:Run24 x rm v0):∃ L u,Op24 x (layC x v0) u L:=by
 have hst:=Stays.layC hr.ok x
 have hs:=hr.stays hst
 have hLI:=laid_in (x:=x) hr.ok hr.map
 obtain ⟨L,hM⟩:=hLI.ex hr.map
 have hpp:=x.page_pos
 have htop:=x.top_le
 have hn:x.n=x.page+1024:=rfl
 obtain ⟨u,hu,huv⟩:=ghost (n:=x.n) (f:=fun a=>(layC x v0).ldV a) (by omega) (by omega) (fun a=>hs.ok.ldV_lt _)
 have hwu:Wider (layC x v0) u:=ghost_wider hu hs.n huv
 have hmk:=hLI.marks hr.map hM
 have hin:PkIn (layC x v0) x.rs x.cf.fr x.cf.tp L:=⟨by rw [hs.n];exact hM,fun o ho=>by
  have:=hmk.1 o ho
  show (x.page:Int)<=_/\_<=(x.top:Int)
  omega⟩
 have hcf:CfOk (layC x v0).pl.pg (layC x v0).n x.cf:=by rw [hs.pg,hs.n];exact x.cfok
 have hfit:sizes L<=x.cf.lm-x.cf.to:=by
  have:x.cf.lm-x.cf.to=512:=by show x.page+1024-(x.page+512)=512;omega
  rw [this];exact hmk.2.1
 have hSt:=slNew_st hs.ok hcf hin hfit
 have hO:=slNew_ok hs.ok hcf hin hfit hmk.2.2 (OpUm.zero hs.ok 0)
 have hsrc:∀ i,i<sizes L->u.ldV (srcO L i:Nat)=(layC x v0).ldV (srcO L i:Nat):=fun i hi=>by
  have h1:=(hSt.srcs (i:=i) hi).2.2
  have h2:srcO L i<(layC x v0).n:=h1
  exact huv _ (by rw [<-hs.n];exact h2)
 refine ⟨L,u,hs.ok,hs.pg,hs.n,hin,hfit,hmk.2.2,hcf,hwu.marks hM,(wrds_same fun a ha=>(huv a ha).symm),⟨?_,?_,?_,fun j hj=>?_,fun i hi hp=>?_⟩,fun i hi=>?_,fun p hp hm=>?_,hSt⟩
 ·show (layC x v0).n<=1100
  rw [hs.n];omega
 ·show x.top<=x.page+512
  omega
 ·show FullN (layC x v0).n u
  rw [hs.n];exact hu
 ·have hj':j<L.length:=hj
  show u.rdH (L[j].1:Nat)=(layC x v0).rdH (L[j].1:Nat)
  have h1:=hmk.2.2 _ (List.getElem_mem hj') 0 (by have:=(hM.mkd.good.sz _ (List.getElem_mem hj')).1;omega)
  rw [show ((L[j].1:Nat):Int)+((0:Nat):Int)=((L[j].1:Nat):Int) by omega] at h1
  have h2:L[j].1<x.n:=by have:=hM.mkd.good.sz _ (List.getElem_mem hj');omega
  exact (rd_congr (by rw [hu.al _ h2,h1]) (huv _ h2)).2
 ·have hi':i<sizes L:=hi
  show u.ldV (srcO L i:Nat)<=_
  rw [hsrc i hi']
  exact (hO.mid.src i hi (by show (!(slNew (layC x v0) x.cf L).is i)=true;rw [slNew_is];rfl)).2.2 hp
 ·rw [hsrc i hi];rfl
 ·have h0:frE (layC x v0).pt (p:Int)=0:=by rw [frE_of hp,if_neg hm]
  have hnp:=hs.ok.np
  have h1:p*(layC x v0).pl.pg<x.n:=by
   rw [<-hs.n,hnp]
   exact Nat.mul_lt_mul_of_pos_right hp (by rw [hs.pg];omega)
  have h2:=hs.le (p*(layC x v0).pl.pg) h1
  have h3:=hs.ok.ldE_of (a:=p*(layC x v0).pl.pg) (by rw [hs.n];exact h1)
  rw [Nat.mul_div_cancel _ (by rw [hs.pg];omega),if_neg hm] at h3
  rw [h3] at h2
  split at h2
  ·rename_i hb
   have hu2:=upN_ge (n:=x.top) (B:=x.page) hpp.1
   refine ⟨?_,?_⟩
   ·rw [Nat.div_le_iff_le_mul_add_pred (by rw [hs.pg];omega)]
    have:x.cf.fr=x.page:=rfl
    rw [this,Nat.mul_comm]
    omega
   ·show p*(layC x v0).pl.pg<x.top
    refine Nat.lt_of_not_le fun hge=>?_
    have h5:upN x.top x.page<=p*(layC x v0).pl.pg:=by
     rw [hs.pg] at hge ⊢
     unfold upN
     refine Nat.mul_le_mul_right _ ?_
     rw [Nat.div_le_iff_le_mul_add_pred (by omega),Nat.mul_comm]
     omega
    omega
  ·cases h2
end Go.Proofs.YtbmidhlilafgeaaGreatDoor
end
section
namespace Go.Proofs.YtbmidhlilafgeaaGreatDoor
open Go.RowKit Word
set_option maxRecDepth 100000 in
theorem scheck_nil (c0 c1 c2 c3 c4 c5 c6:Int) (w:World):Calls Tryz.prog 53 #[.pointer none,.agg #[.int .i64 c0,.int .i64 c1,.int .i64 c2,.int .i64 c3,.int .i64 c4,.int .i64 c5,.int .i64 c6]] w fun e w'=>e=.returned (.int .i64 9)/\Gr w w':=by
 have HG:=hid (fun o=>(Gr.refl w).alloc o)
 go_enter Tryz.func53,Tryz.ntmps53
 go_wp2_with (first
  | (go_at_call 71;refine (vm_page_nil _).mono ?_;rintro e w1 ⟨rfl,rfl⟩)
  | (go_at_call 33;refine (vm_words_nil _).mono ?_;rintro e w1 ⟨rfl,rfl⟩))
 go_ret
 exact ⟨rfl,HG.out _⟩
def x0C:LaidC:=⟨0,[],[],[],0,0,0⟩
end Go.Proofs.YtbmidhlilafgeaaGreatDoor
end
section
namespace Go.Proofs.YtbmidhlilafgeaaGreatDoor
open Go.RowKit Go.Shelf Word
structure C24 (w W:World) (hp q r g:Nat) (vL:Value) (rs:List Int) (y:Nat) (z:SlAd) (R S:Nat->Prop) (s:Sl) (v:Vm):Prop where
 gg:Gr w W
 tb:TabAt w
 hb:Rec W hp 37 (heapS s q r vL)
 rt:RtAt W r g rs
 cy:Cyc W R y q z s
 vm:VmAt W S q v
 ok:SlOk s v
 fr:SlA s v
 dj:∀ b,R b->¬ S b
 lo:∀ b,R b\/S b->w.heap.size<=b/\b<W.heap.size/\b≠hp/\b≠r/\b≠g
section
variable {w W W':World} {hp q r g:Nat} {vL:Value} {rs:List Int} {y:Nat} {z:SlAd} {R S:Nat->Prop} {s s':Sl} {v v':Vm}
theorem C24.gr (h:C24 w W hp q r g vL rs y z R S s v) (g':Gr W W'):C24 w W' hp q r g vL rs y z R S s v:=by
 have hz:=g'.size
 refine ⟨h.gg.trans g',h.tb,h.hb.gr g',h.rt.gr g',h.cy.gr g',h.vm.gr g',h.ok,h.fr,h.dj,fun b hb=>?_⟩
 obtain ⟨a1,a2,a3⟩:=h.lo b hb
 exact ⟨a1,by omega,a3⟩
theorem C24.step (h:C24 w W hp q r g vL rs y z R S s v):Calls Tryz.prog 38 #[.pointer (some ⟨y,0,none⟩)] W fun e W'=>e=.returned (.tuple #[.bool (decide (s.ft<s.mv.length)),.int .i64 0])/\∃ S' v',C24 w W' hp q r g vL rs y z R S' s.step v':=by
 have hlow:∀ b,R b\/S b->w.heap.size<=b:=fun b hb=>(h.lo b hb).1
 have htl:=h.tb.lt
 refine (sl_step slA_j h.cy h.ok h.fr (h.gg.tab h.tb.lt h.tb) (fun h'=>by have:=hlow _ (.inr h');omega) (fun h'=>by have:=hlow _ (.inl h');omega) h.vm h.dj).mono ?_
 rintro e W' ⟨v',rfl,ha⟩
 have hz:=ha.t.size
 have hhp:=h.hb.lt
 have hrl:=h.rt.lt
 refine ⟨rfl,cutS (plus S W) W',v',((h.gg.touch (fun _=>False)).trans' ha.t (fun b hb hh=>by have:=hlow b hh;omega)).gr,h.tb,h.hb.touch ha.t (fun hh=>(h.lo _ hh).2.2.1 rfl),h.rt.touch ha.t (fun hh=>(h.lo _ hh).2.2.2.1 rfl) (fun hh=>(h.lo _ hh).2.2.2.2 rfl),ha.cy,ha.vm.cut,ha.ok,ha.j,fun b hb hS=>?_,fun b hb=>?_⟩
 ·have h1:=h.cy.od.lt b hb
  rcases hS.1 with h2 | h2
  ·exact h.dj b hb h2
  ·omega
 ·have hgs:=h.gg.size
  rcases hb with hb | ⟨hb | hb,hl⟩
  ·obtain ⟨a1,a2,a3⟩:=h.lo b (.inl hb)
   exact ⟨a1,by omega,a3⟩
  ·obtain ⟨a1,a2,a3⟩:=h.lo b (.inr hb)
   exact ⟨a1,by omega,a3⟩
  ·exact ⟨by omega,hl,by omega,by omega,by omega⟩
end
def x24:LaidC:=⟨2,[⟨0,0,3⟩,⟨0,0,3⟩,⟨0,0,3⟩],[],[1],1,0,0⟩
theorem x24_k:x24.k=3/\x24.page=4/\x24.at 1=8/\x24.top=16/\x24.rs=[8]/\x24.n=1028/\x24.cf=⟨4,16,516,1028,2,1,0⟩:=by
 have h:x24.k=3/\x24.page=4/\x24.at 1=8/\x24.top=16/\x24.rs=[8]/\x24.n=1028:=by decide +kernel
 refine ⟨h.1,h.2.1,h.2.2.1,h.2.2.2.1,h.2.2.2.2.1,h.2.2.2.2.2,?_⟩
 unfold LaidC.cf
 rw [h.2.1,h.2.2.2.1];rfl
theorem live24 {v0:Vm} {rm:Nat} (h:Run24 x24 rm v0):Marks (layC x24 v0) x24.rs x24.n [(8,4)]:=by
 obtain ⟨e1,e2,e3,e5,e6,e7,-⟩:=x24_k
 have hL:=laid_in h.ok h.map
 obtain ⟨p,f,c,e,h1,h2,h3⟩:=hL.ob h.map (j:=1) (by rw [e1];decide)
 rw [e3] at h1 h2 h3
 have e:(⟨0,0,3⟩:Hdr)=⟨p,f,c⟩:=e
 simp only [Hdr.mk.injEq] at e
 have hp:p=0/\f=0/\c=3:=by omega
 obtain ⟨rfl,rfl,rfl⟩:=hp
 rw [e6,e7]
 have hr:Rch (layC x24 v0) [8] 8:=Rch.root (List.mem_singleton.2 rfl) (by decide)
 refine Marks.of ⟨⟨by simp,fun o ho=>?_⟩,fun o ho=>?_⟩ (fun r hr _=>?_) (fun o ho=>?_)
 ·rw [List.mem_singleton.1 ho];simp
 ·rw [List.mem_singleton.1 ho];exact ⟨hr,h1,h3.symm⟩
 ·rw [List.mem_singleton.1 hr];exact ⟨(8,4),List.mem_singleton.2 rfl,rfl⟩
 ·rw [List.mem_singleton.1 ho]
  intro i hi
  have hi:(i:Int)<((layC x24 v0).rdH ((8:Nat):Int)).p:=hi
  rw [h2] at hi
  have hi:(i:Int)<0:=hi
  omega
theorem heapS_L (x:LaidC) (v:Vm) (L:List Ob) (q r:Nat) (vL:Value) (h:v.pl.pg=x.page):heapS (slNew v x.cf L) q r vL=heapL x q r vL:=by
 unfold heapS heapL
 rw [show (slNew v x.cf L).pg=x.page from h]
 rfl
theorem live24_open {w W W':World} {v0:Vm} {hp q r g:Nat} {A:Option Addr} {c:Nat} {SV:Nat->Prop} (hT:TabAt w) (hg:Gr w W) (hr:Run24 x24 (x24.room+0) v0) (hV:VmAt W SV q (layC x24 v0)) (hR:RtAt W r g x24.rs) (hH:Rec W hp 37 (heapL x24 q r (.slice A x24.n c)))
  (hsv:∀ i,SV i->w.heap.size<=i/\i<W.heap.size) (h1:¬ SV hp) (h2:¬ SV r) (h3:¬ SV g) (hl:w.heap.size<=hp/\w.heap.size<=r/\w.heap.size<=g) (hgW:Gr W W'):
  Calls Tryz.prog 47 #[.pointer (some ⟨q,0,none⟩),.pointer (some ⟨r,0,none⟩),cfV x24.cf] W' fun e w2=>Touch (fun b=>b=g\/SV b) W' w2/\∃ y z R S s v,e=.returned (.tuple #[.pointer (some ⟨y,0,none⟩),.int .i64 0])/\C24 w w2 hp q r g (.slice A x24.n c) [516] y z R S s v/\s.L=[(8,4)]/\s.pg=4/\s.cf=⟨4,16,516,1028,2,1,0⟩/\s.mv=[false,false]/\v.pt.length*4=1028:=by
 obtain ⟨L,u,hO⟩:=open24 hr
 have hs:=hr.stays (Stays.layC hr.ok x24)
 obtain ⟨e1,e2,e3,e5,e6,e7,e8⟩:=x24_k
 have hgh:hp≠g:=fun e=>(own_ne hR.row hH (by decide) rfl rfl) e.symm
 have hrg:=hR.dif
 have hrh:hp≠r:=own_ne hH hR.rcd (by decide) rfl rfl
 have hLe:L=[(8,4)]:=by
  have h1:=hO.inn.1
  rw [hO.n] at h1
  exact h1.unique (live24 hr)
 subst hLe
 have hrm:(x24.cf.tp-x24.cf.fr+x24.page-1)/x24.page+(x24.cf.ah+1)*max 1 (x24.cf.bk/x24.page)+1<=(layC x24 v0).pl.rm:=by
  rw [hs.rm];exact Nat.le_refl x24.room
 have h8:x24.rs.map (toV [(8,4)] x24.cf.to)=[516]:=by rw [e6,e8];decide +kernel
 have hH':Rec W hp 37 (heapS (slNew (layC x24 v0) x24.cf [(8,4)]) q r (.slice A x24.n c)):=by rw [heapS_L x24 _ _ q r _ hO.pg];exact hH
 obtain ⟨v,hv⟩:∃ v,v=layC x24 v0:=⟨_,rfl⟩
 rw [<-hv] at hO hV hrm hH'
 have htl:=hT.lt
 have hgs:=hg.size
 have hzW:=hgW.size
 have hrl:=hR.lt
 have hhl:=hH.lt
 refine (sl_open (c:=x24.cf) (hV.gr hgW) (hR.gr hgW) ((hg.trans hgW).tab htl hT) (fun h=>by have:=(hsv _ h).1;omega) h2 h3 hO.cf (by omega)).mono (fun e w2 h=>?_)
 obtain ⟨ht,y,z,R,S',v',j,rfl,hcy,hvm,hS,hRR,hU,hq,hrt⟩:=open_yes hO.inn hO.fit h
 have hz2:=ht.size
 have hgl:∀ b,(b=g\/SV b)->w.heap.size<=b:=fun b hb=>by
  rcases hb with rfl | hb
  ·exact hl.2.2
  ·exact (hsv _ hb).1
 refine ⟨ht,y,z,R,cutS S' w2,slNew v x24.cf [(8,4)],v',rfl,⟨?_,hT,?_,?_,hcy,hvm.cut,slNew_ok hO.ok hO.cf hO.inn hO.fit hO.full hU,slNew_A (slNew_pages hO.ok hO.cf hO.inn hO.fit hO.full hU hq hO.map) ?_,fun b hb h=>(hRR b hb).2 h.1,fun b hb=>?_⟩,rfl,?_,e8,?_,?_⟩
 ·exact (((hg.trans hgW).touch (fun _=>False)).trans' ht (fun b hb h=>by have:=hgl b h;omega)).gr
 ·exact (hH'.gr hgW).touch ht (fun h=>h.elim hgh h1)
 ·rw [h8] at hrt
  exact hrt
 ·rw [hU.rm,hO.pg]
  exact hrm
 ·have key:(SV b\/W.heap.size<=b)/\b<w2.heap.size:=by
   rcases hb with hb | hb
   ·have h1:=(hRR b hb).1
    exact ⟨.inr (by omega),hcy.od.lt b hb⟩
   ·refine ⟨?_,hb.2⟩
    rcases hS b hb.1 with h1 | h1
    ·exact .inl h1
    ·exact .inr (by omega)
  obtain ⟨k1,k2⟩:=key
  rcases k1 with hk | hk
  ·exact ⟨(hsv _ hk).1,k2,(fun e=>by subst e;exact h1 hk),(fun e=>by subst e;exact h2 hk),(fun e=>by subst e;exact h3 hk)⟩
  ·exact ⟨by omega,k2,by omega,by omega,by omega⟩
 ·exact hO.pg.trans e2
 ·show List.replicate (nbl (sizes [(8,4)]) x24.cf.bk) false=_
  rw [e8];rfl
 ·have:=hU.ok.np
  rw [hU.n,hU.pg,hO.n,hO.pg,e2,e7] at this
  exact this.symm
theorem page24 {s:Sl} {v:Vm} (ho:SlOk s v) (hA:SlA s v) (hL:s.L=[(8,4)]) (hp:s.pg=4) (hc:s.cf=⟨4,16,516,1028,2,1,0⟩) (hn:v.pt.length*4=1028) {p:Nat} (hpl:p<257) {b:Bool}
  (hb:(decide (0<p)&&((decide (p*4<516)&&(List.range 4).any fun i=>(srcO [(8,4)] i/4==p)&&!at_ s.mv (i/2))||(List.range 4).any fun i=>((516+i)/4==p)&&at_ s.mv (i/2)))=b):(frE v.pt (p:Int)==0)=b:=by
 have h1:=SlA.page hA ho (p:=p) (by omega)
 rcases h1 with h | h
 ·rw [h,<-hb]
  unfold Sl.owesB Sl.hasB Sl.is
  rw [hL,hp,hc]
  rfl
 ·rw [hc] at h
  exact absurd (by decide) h
set_option maxRecDepth 100000 in
set_option maxHeartbeats 6400000 in
theorem lives24 {w:World} (hT:TabAt w):Gets Tryz.prog 35 #[] w (.bool true):=by
 have HT:=hid hT
 clear hT
 unfold Gets
 go_enter Tryz.func35,Tryz.ntmps35
 have g1:Gr w ((w.alloc (.cells #[.int .i64 0,.int .i64 0,.int .i64 3,.int .i64 0,.int .i64 0,.int .i64 3,.int .i64 0,.int .i64 0,.int .i64 3] 90)).alloc (.cells #[.int .u8 1] 5)):=((Gr.refl w).alloc _).alloc _
 have r1:=(Rec.new w 90 [.int .i64 0,.int .i64 0,.int .i64 3,.int .i64 0,.int .i64 0,.int .i64 3,.int .i64 0,.int .i64 0,.int .i64 3]).gr ((Gr.refl _).alloc (.cells #[.int .u8 1] 5))
 have r2:=new2 w (.cells #[.int .i64 0,.int .i64 0,.int .i64 3,.int .i64 0,.int .i64 0,.int .i64 3,.int .i64 0,.int .i64 0,.int .i64 3] 90) 5 [.int .u8 1]
 have HL:=hid (lay24_walk (w:=((w.alloc (.cells #[.int .i64 0,.int .i64 0,.int .i64 3,.int .i64 0,.int .i64 0,.int .i64 3,.int .i64 0,.int .i64 0,.int .i64 3] 90)).alloc (.cells #[.int .u8 1] 5))) (x:=x24) (A1:=some ⟨w.heap.size,0,none⟩) (A2:=none) (A3:=some ⟨w.heap.size+1,0,none⟩) (c1:=3) (c2:=0) (c3:=1) (more:=0)
  ⟨fun i hi=>by
    have hi:i<3:=hi
    refine ⟨w.heap.size,0,rfl,r1.lt,?_⟩
    rcases (by omega:i=0\/i=1\/i=2) with rfl | rfl | rfl
    ·exact ⟨r1.cell (j:=0) rfl,r1.cell (j:=1) rfl,r1.cell (j:=2) rfl⟩
    ·exact ⟨r1.cell (j:=3) rfl,r1.cell (j:=4) rfl,r1.cell (j:=5) rfl⟩
    ·exact ⟨r1.cell (j:=6) rfl,r1.cell (j:=7) rfl,r1.cell (j:=8) rfl⟩,fun i hi=>absurd hi (Nat.not_lt_zero _),fun i hi=>by
    have hi:i<1:=hi
    refine ⟨w.heap.size+1,0,rfl,r2.lt,?_⟩
    obtain rfl:i=0:=by omega
    exact ⟨show (1:Nat)<256 by decide,r2.cell (j:=0) rfl⟩,by decide,by decide,by decide,by decide,by decide,by decide,by decide⟩ (by decide))
 have HG1:=hid g1
 clear g1 r1 r2
 unfold laidV at HL
 go_upto_region 4 with (go_at_call 13;refine HL.out.mono ?_;rintro e w1 ⟨hp,q,r,g,A,c,v0,SV,rfl,hg1,hrn,hz0,hvm,hrt,hrec,hwr,hsv,hs1,hs2,hs3,hs4,hs5⟩;have HG:=hid (HG1.out.trans hg1);have HV:=hid hvm;have HRN:=hid hrn;have HRT:=hid hrt;have HRC:=hid hrec;have HSV:=hid (And.intro hsv (And.intro hs1 (And.intro hs2 (And.intro hs3 hs4))));clear hg1 hrn hz0 hvm hrt hrec hwr hsv hs1 hs2 hs3 hs4 hs5)
 have hzz:=HG1.out.size
 have HCR:=hid (fun (W':World) (g':Gr w1 W')=>live24_open HT.out HG.out HRN.out HV.out HRT.out HRC.out (fun i hi=>by have:=HSV.out.1 i hi;omega) HSV.out.2.1 HSV.out.2.2.1 HSV.out.2.2.2.1 (by have:=HSV.out.2.2.2.2;omega) g')
 have HRK:Hid (∀ W W',Gr w1 W->Touch (fun b=>b=g\/SV b) W W'->Rec W' hp 37 (heapL x24 q r (.slice A x24.n c))):=⟨fun W W' hW t=>(HRC.out.gr hW).touch t (fun h=>by
  rcases h with h | h
  ·exact own_ne HRT.out.row HRC.out (by decide) rfl rfl h.symm
  ·exact HSV.out.2.1 h)⟩
 unfold heapL at HRC HRK
 unfold cfV at HCR
 obtain ⟨cf,hcf⟩:∃ cf,cf=x24.cf:=⟨_,rfl⟩
 obtain ⟨pg,hpg⟩:∃ pg,pg=x24.page:=⟨_,rfl⟩
 obtain ⟨nn,hnn⟩:∃ nn,nn=x24.n:=⟨_,rfl⟩
 rw [<-hcf,<-hpg,<-hnn] at HRC HRK
 rw [<-hcf,<-hnn] at HCR
 clear hcf hpg hnn
 obtain ⟨Sx,hSx⟩:∃ Sx:World->Prop,Sx=fun W'=>Rec W' hp 37 [.pointer (some ⟨q,0,none⟩),.pointer (some ⟨r,0,none⟩),.int .i64 cf.fr,.int .i64 cf.tp,.int .i64 cf.to,.int .i64 cf.lm,.int .i64 cf.bk,.int .i64 cf.st,.int .i64 cf.ah,.slice A nn c,.int .i64 (pg:Nat)]:=⟨_,rfl⟩
 have y0:∀ p:Held Sx,p.w.cell? ⟨hp,0,none⟩=some (.pointer (some ⟨q,0,none⟩)):=fun p=>by have h:=Held.get hSx p;exact h.cell (j:=0) rfl
 have y1:∀ p:Held Sx,p.w.cell? ⟨hp,1,none⟩=some (.pointer (some ⟨r,0,none⟩)):=fun p=>by have h:=Held.get hSx p;exact h.cell (j:=1) rfl
 have y2:∀ p:Held Sx,p.w.cell? ⟨hp,2,none⟩=some (.int .i64 cf.fr):=fun p=>by have h:=Held.get hSx p;exact h.cell (j:=2) rfl
 have y3:∀ p:Held Sx,p.w.cell? ⟨hp,3,none⟩=some (.int .i64 cf.tp):=fun p=>by have h:=Held.get hSx p;exact h.cell (j:=3) rfl
 have y4:∀ p:Held Sx,p.w.cell? ⟨hp,4,none⟩=some (.int .i64 cf.to):=fun p=>by have h:=Held.get hSx p;exact h.cell (j:=4) rfl
 have y5:∀ p:Held Sx,p.w.cell? ⟨hp,5,none⟩=some (.int .i64 cf.lm):=fun p=>by have h:=Held.get hSx p;exact h.cell (j:=5) rfl
 have y6:∀ p:Held Sx,p.w.cell? ⟨hp,6,none⟩=some (.int .i64 cf.bk):=fun p=>by have h:=Held.get hSx p;exact h.cell (j:=6) rfl
 have y7:∀ p:Held Sx,p.w.cell? ⟨hp,7,none⟩=some (.int .i64 cf.st):=fun p=>by have h:=Held.get hSx p;exact h.cell (j:=7) rfl
 have y8:∀ p:Held Sx,p.w.cell? ⟨hp,8,none⟩=some (.int .i64 cf.ah):=fun p=>by have h:=Held.get hSx p;exact h.cell (j:=8) rfl
 have HS:Hid (∀ W',Rec W' hp 37 [.pointer (some ⟨q,0,none⟩),.pointer (some ⟨r,0,none⟩),.int .i64 cf.fr,.int .i64 cf.tp,.int .i64 cf.to,.int .i64 cf.lm,.int .i64 cf.bk,.int .i64 cf.st,.int .i64 cf.ah,.slice A nn c,.int .i64 (pg:Nat)]->Sx W'):=⟨fun W' h=>by rw [hSx];exact h⟩
 have hS0:=HS.out _ (HRC.out.gr (Gr.refl w1).drew)
 have inst:Inhabited (Held Sx):=⟨⟨_,hS0⟩⟩
 clear hSx
 refine wp_region_mixS Sx 18 [([0,1,2,3,4,5,6,7,8,9,10,11],12)] [13,14,15,16,17] (by kernel_rfl) (by kernel_rfl) hS0 ?_
 refine segs_step ?_
 try simp only [opsAt,List.getElem?_cons_zero,List.getElem?_cons_succ]
 repeat (go_big_quiet_step (fail))
 refine wpQuiet_nil ?_
 go_wp2_with ((go_at_call 47;refine (HCR.out _ (Gr.refl w1).drew).mono ?_;rintro e w2 ⟨ht2,y,z,R,S,s,v,rfl,hc2,eL,ep,ec,em,en⟩;have HT2:=hid ht2;have HC2:=hid hc2;have HE:=hid (And.intro eL (And.intro ep (And.intro ec (And.intro em en))));clear ht2 hc2 eL ep ec em en))
 refine ⟨.inr (Held.of (HS.out _ (HRK.out _ _ (Gr.refl w1).drew HT2.out))),?_⟩
 refine segs_end ?_
 try simp only [opsAt,List.getElem?_cons_zero,List.getElem?_cons_succ]
 repeat (go_big_quiet_step (fail))
 refine wpQuiet_nil ?_
 refine NoPanic.normal ?_
 clear y0 y1 y2 y3 y4 y5 y6 y7 y8 hS0 inst
 clear HS Sx
 obtain ⟨eL,ep,ec,em,en⟩:=HE.out
 have HBK:Hid (∀ W',Gr w2 W'->Calls Tryz.prog 42 #[.pointer (some ⟨y,0,none⟩)] W' fun e w'=>e=.returned (.int .i64 2)/\W'=w'):=⟨fun W' g=>by
  have:=sl_blocks (HC2.out.gr g).cy
  rw [em] at this
  exact this⟩
 have HM1:Hid (∀ W',Gr w2 W'->Calls Tryz.prog 34 #[.pointer (some ⟨q,0,none⟩),.int .i64 1] W' fun e w'=>e=.returned (.bool false)/\Gr W' w'):=⟨fun W' g=>by
  have h1:=page24 HC2.out.ok HC2.out.fr eL ep ec en (p:=1) (by omega) (b:=false) (by rw [em];decide +kernel)
  have h2:=vm_mapped (HC2.out.gr g).vm (1:Int)
  rw [show ((1:Nat):Int)=1 from rfl] at h1
  rw [h1] at h2
  exact h2⟩
 have HM2:Hid (∀ W',Gr w2 W'->Calls Tryz.prog 34 #[.pointer (some ⟨q,0,none⟩),.int .i64 2] W' fun e w'=>e=.returned (.bool true)/\Gr W' w'):=⟨fun W' g=>by
  have h1:=page24 HC2.out.ok HC2.out.fr eL ep ec en (p:=2) (by omega) (b:=true) (by rw [em];decide +kernel)
  have h2:=vm_mapped (HC2.out.gr g).vm (2:Int)
  rw [show ((2:Nat):Int)=2 from rfl] at h1
  rw [h1] at h2
  exact h2⟩
 have HS1:Hid (∀ W',Gr w2 W'->Calls Tryz.prog 38 #[.pointer (some ⟨y,0,none⟩)] W' fun e w'=>e=.returned (.tuple #[.bool true,.int .i64 0])/\∃ S' v',C24 w w' hp q r g (.slice A nn c) [516] y z R S' s.step v'):=⟨fun W' g=>by
  have:=(HC2.out.gr g).step
  rw [show decide (s.ft<s.mv.length)=true by show decide (ftL s.mv<s.mv.length)=true;rw [em];decide +kernel] at this
  exact this⟩
 have em1:s.step.mv=[true,false]:=by show stepL s.mv=_;rw [em];decide +kernel
 have em2:s.step.step.mv=[true,true]:=by show stepL s.step.mv=_;rw [em1];decide +kernel
 have HS2:Hid (∀ W' S' v',C24 w W' hp q r g (.slice A nn c) [516] y z R S' s.step v'->Calls Tryz.prog 38 #[.pointer (some ⟨y,0,none⟩)] W' fun e w'=>e=.returned (.tuple #[.bool true,.int .i64 0])/\∃ S2 v2,C24 w w' hp q r g (.slice A nn c) [516] y z R S2 s.step.step v2):=⟨fun W' S' v' hc=>by
  have:=hc.step
  rw [show decide (s.step.ft<s.step.mv.length)=true by show decide (ftL s.step.mv<s.step.mv.length)=true;rw [em1];decide +kernel] at this
  exact this⟩
 have HEM:=hid em2
 have hb2:=(HC2.out.hb).cell (j:=0) rfl
 have hbl:=HC2.out.hb.lt
 have HC0:=hid (fun (W':World) (g:Gr w2 W')=>(HC2.out.gr g).hb.cell (j:=0) rfl)
 clear eL ep ec em en em1 em2
 go_upto_region 7 with (first
  | (go_at_call 42;refine (HBK.out _ (Gr.refl w2)).mono ?_;rintro e w3 ⟨rfl,rfl⟩)
  | (go_at_call 34;with_reducible refine (HM1.out _ (Gr.refl w2)).mono ?_;rintro e w3 ⟨rfl,hg3⟩;have HG3:=hid hg3;have hb2:=HC0.out _ hg3;have hbl:=lt_cell hb2;clear hg3)
  | (go_at_call 34;with_reducible refine (HM2.out _ HG3.out).mono ?_;rintro e w4 ⟨rfl,hg4⟩;have HG4:=hid (HG3.out.trans hg4);clear hg4))
 clear hb2 hbl
 go_upto_region 8 with (go_at_call 38;refine (HS1.out _ HG4.out).mono ?_;rintro e w5 ⟨rfl,S5,v5,hc5⟩;have HC5:=hid hc5;clear hc5)
 go_upto_region 9 with (go_at_call 38;refine (HS2.out _ _ _ HC5.out).mono ?_;rintro e w6 ⟨rfl,S6,v6,hc6⟩;have HC6:=hid hc6;clear hc6)
 obtain ⟨eL,ep,ec,em,en⟩:=HE.out
 have em2:=HEM.out
 have eto:s.cf.to=516:=by rw [ec]
 have hz1:=HC6.out.hb.cell (j:=1) rfl
 have hzl:=HC6.out.hb.lt
 have HGT:=hid (rt_get HC6.out.rt (i:=0) (by decide))
 have HDN:Hid (∀ W',Gr w6 W'->Calls Tryz.prog 44 #[.pointer (some ⟨y,0,none⟩)] W' fun e w'=>e=.returned (.bool true)/\W'=w'):=⟨fun W' g=>by
  have:=sl_done (HC6.out.gr g).cy
  rw [show decide (s.step.step.lf=0)=true by
   show decide (s.step.step.mv.length-mvdL s.step.step.mv=0)=true
   rw [em2];decide +kernel] at this
  exact this⟩
 have HM3:Hid (∀ W',Gr w6 W'->Calls Tryz.prog 34 #[.pointer (some ⟨q,0,none⟩),.int .i64 2] W' fun e w'=>e=.returned (.bool false)/\Gr W' w'):=⟨fun W' g=>by
  have hn6:v6.pt.length*4=1028:=by
   have h1:=HC6.out.ok.mid.ok.np
   have h2:=HC2.out.ok.mid.ok.np
   have h3:v6.n=s.n:=HC6.out.ok.mid.n
   have h4:v6.pl.pg=s.pg:=HC6.out.ok.mid.pg
   have h5:=HC2.out.ok.mid.n
   have h6:=HC2.out.ok.mid.pg
   rw [h3,h4,ep] at h1
   rw [h5,h6,ep] at h2
   omega
  have h1:=page24 HC6.out.ok HC6.out.fr eL ep ec hn6 (p:=2) (by omega) (b:=false) (by rw [em2];decide +kernel)
  have h2:=vm_mapped (HC6.out.gr g).vm (2:Int)
  rw [show ((2:Nat):Int)=2 from rfl] at h1
  rw [h1] at h2
  exact h2⟩
 have HC0':Hid (∀ W',Gr w6 W'->W'.cell? ⟨hp,0,none⟩=some (.pointer (some ⟨q,0,none⟩))/\W'.cell? ⟨hp,4,none⟩=some (.int .i64 516)):=⟨fun W' g=>by
  have hb:=(HC6.out.gr g).hb
  have h4:W'.cell? ⟨hp,4,none⟩=some (.int .i64 (s.cf.to:Nat)):=hb.cell (j:=4) rfl
  rw [eto] at h4
  exact ⟨hb.cell (j:=0) rfl,h4⟩⟩
 have HFG:=hid HC6.out.gg
 clear eL ep ec em en em2 eto
 go_wp2_with (first
  | (go_at_call 65;refine HGT.out.mono ?_;rintro e w7 ⟨rfl,hg7⟩;have HG7:=hid hg7;have k0:=(HC0'.out _ hg7).1;have k4:=(HC0'.out _ hg7).2;have kl:=lt_cell k0;clear hg7)
  | (go_at_call 44;refine (HDN.out _ HG7.out).mono ?_;rintro e w8 ⟨rfl,rfl⟩)
  | (go_at_call 34;refine (HM3.out _ HG7.out).mono ?_;rintro e w9 ⟨rfl,hg9⟩;have HG9:=hid hg9;clear hg9))
 go_ret
 exact ⟨rfl,(HFG.out.trans HG7.out).trans HG9.out⟩
end Go.Proofs.YtbmidhlilafgeaaGreatDoor
end
section
namespace Go.Proofs.YtbmidhlilafgeaaGreatDoor
open Go.RowKit Go.Shelf Word
attribute [local go_sem] Oper.semAt_some
set_option maxRecDepth 100000 in
theorem open_nil_r (p:Option Addr) (c0 c1 c2 c3 c4 c5 c6:Int) (w:World):Calls Tryz.prog 47 #[.pointer p,.pointer none,.agg #[.int .i64 c0,.int .i64 c1,.int .i64 c2,.int .i64 c3,.int .i64 c4,.int .i64 c5,.int .i64 c6]] w fun e w'=>e=.returned (.tuple #[.pointer none,.int .i64 9])/\Gr w w':=by
 have HG:=hid (((Gr.refl w).alloc (.cells #[.pointer p] 31)).alloc (.cells #[.int .i64 c0,.int .i64 c1,.int .i64 c2,.int .i64 c3,.int .i64 c4,.int .i64 c5,.int .i64 c6] 34))
 refine (callsIn_wide (n:=5)).1 ?_
 refine callsIn_of_wp_marks Tryz.func47 rfl trivial ?_ rfl
 simp only [Tryz.ntmps47,List.size_toArray,List.length_cons,List.length_nil,Nat.reduceAdd,Nat.reduceSub,Array.replicate_succ,Array.replicate_zero,List.push_toArray,List.append_toArray,List.nil_append,List.cons_append]
 gi_wp2_with (refine ⟨trivial,?_⟩;gi_at_call 63;refine (callsIn_wide.2 (rt_len_nil _)).mono ?_;rintro e w1 ⟨rfl,rfl⟩)
 refine ⟨.tuple #[.pointer none,.int .i64 9],?_,rfl,HG.out⟩
 simp [results,Tryz.f47,go_sem]
set_option maxRecDepth 100000 in
theorem open_nil_m {r g:Nat} {rs:List Int} (c0 c1 c2 c3 c4 c5 c6:Int) {w:World} (hR:RtAt w r g rs):Calls Tryz.prog 47 #[.pointer none,.pointer (some ⟨r,0,none⟩),.agg #[.int .i64 c0,.int .i64 c1,.int .i64 c2,.int .i64 c3,.int .i64 c4,.int .i64 c5,.int .i64 c6]] w fun e w'=>e=.returned (.tuple #[.pointer none,.int .i64 9])/\Gr w w':=by
 have hg0:Gr w ((w.alloc (.cells #[.pointer none] 31)).alloc (.cells #[.int .i64 c0,.int .i64 c1,.int .i64 c2,.int .i64 c3,.int .i64 c4,.int .i64 c5,.int .i64 c6] 34)):=((Gr.refl w).alloc _).alloc _
 have HL:=hid (fun (W:World) (g:Gr w W)=>rt_len (hR.gr g))
 have hne:rs.length≠0:=fun e=>hR.ne (List.eq_nil_of_length_eq_zero e)
 obtain ⟨n,hn⟩:∃ n,n=rs.length:=⟨_,rfl⟩
 rw [<-hn] at HL hne
 have d0:((n:Int)==0)=false:=by simp;omega
 have r3:=(Rec.new w 31 [.pointer none]).gr ((Gr.refl _).alloc (.cells #[.int .i64 c0,.int .i64 c1,.int .i64 c2,.int .i64 c3,.int .i64 c4,.int .i64 c5,.int .i64 c6] 34))
 have r5:=new2 w (.cells #[.pointer none] 31) 34 [.int .i64 c0,.int .i64 c1,.int .i64 c2,.int .i64 c3,.int .i64 c4,.int .i64 c5,.int .i64 c6]
 obtain ⟨W0,hW0⟩:∃ W0,W0=(w.alloc (.cells #[.pointer none] 31)).alloc (.cells #[.int .i64 c0,.int .i64 c1,.int .i64 c2,.int .i64 c3,.int .i64 c4,.int .i64 c5,.int .i64 c6] 34):=⟨_,rfl⟩
 have HG:Hid (Gr w W0):=⟨by rw [hW0];exact hg0⟩
 have HR3:Hid (Rec W0 w.heap.size 31 [.pointer none]):=⟨by rw [hW0];exact r3⟩
 have HR5:Hid (Rec W0 (w.heap.size+1) 34 [.int .i64 c0,.int .i64 c1,.int .i64 c2,.int .i64 c3,.int .i64 c4,.int .i64 c5,.int .i64 c6]):=⟨by rw [hW0];exact r5⟩
 clear hR hn hg0 r3 r5
 refine (callsIn_wide (n:=5)).1 ?_
 refine callsIn_of_wp_marks Tryz.func47 rfl trivial ?_ rfl
 simp only [Tryz.ntmps47,List.size_toArray,List.length_cons,List.length_nil,Nat.reduceAdd,Nat.reduceSub,Array.replicate_succ,Array.replicate_zero,List.push_toArray,List.append_toArray,List.nil_append,List.cons_append]
 gi_upto_region 1 with (fail)
 rw [<-hW0]
 clear hW0
 have z3:=HR3.out.cell (j:=0) rfl
 have zl3:=HR3.out.lt
 have z0:=HR5.out.cell (j:=0) rfl
 have z1:=HR5.out.cell (j:=1) rfl
 have z2:=HR5.out.cell (j:=2) rfl
 have z4:=HR5.out.cell (j:=3) rfl
 have z5:=HR5.out.cell (j:=4) rfl
 have z6:=HR5.out.cell (j:=5) rfl
 have z7:=HR5.out.cell (j:=6) rfl
 have zl:=HR5.out.lt
 gi_wp2_with (first
  | (refine ⟨trivial,?_⟩;gi_at_call 63;refine (callsIn_wide.2 (HL.out _ HG.out)).mono ?_;rintro e w1 ⟨rfl,rfl⟩)
  | (refine ⟨trivial,?_⟩;gi_at_call 53;refine (callsIn_wide.2 (scheck_nil _ _ _ _ _ _ _ _)).mono ?_;rintro e w1 ⟨rfl,hg1⟩;have HG1:=hid hg1;clear hg1))
 refine ⟨.tuple #[.pointer none,.int .i64 9],?_,rfl,HG.out.trans HG1.out⟩
 simp [results,Tryz.f47,go_sem]
set_option maxRecDepth 100000 in
set_option maxHeartbeats 6400000 in
theorem nobody24_walk {w:World} (hT:TabAt w) (a:Int) (m:Nat):Gets Tryz.prog 11 #[.int .i64 a,.int .u64 m] w (.bool true):=by
 have HT:=hid hT
 have HL:=hid (lay24_walk (w:=w) (x:=x0C) (A1:=none) (A2:=none) (A3:=none) (c1:=0) (c2:=0) (c3:=0) (more:=0) ⟨fun i hi=>absurd hi (Nat.not_lt_zero _),fun i hi=>absurd hi (Nat.not_lt_zero _),fun i hi=>absurd hi (Nat.not_lt_zero _),by decide,by decide,by decide,by decide,by decide,by decide,by decide⟩ (by decide))
 unfold laidV at HL
 clear hT
 unfold Gets
 go_enter Tryz.func11,Tryz.ntmps11
 go_upto_region 7 with (go_at_call 13;refine HL.out.mono ?_;rintro e w1 ⟨hp,q,r,g,A,c,v0,SV,rfl,hg1,hrn,hz0,hvm,hrt,hrec,hwr,hsv,hs1,hs2,hs3,hs4,hs5⟩;have HG:=hid hg1;have HRT:=hid hrt;have HRC:=hid hrec;clear hg1 hrn hz0 hvm hrt hrec hwr hsv hs1 hs2 hs3 hs4 hs5)
 unfold heapL at HRC
 obtain ⟨cf,hcf⟩:∃ cf,cf=x0C.cf:=⟨_,rfl⟩
 obtain ⟨pg,hpg⟩:∃ pg,pg=x0C.page:=⟨_,rfl⟩
 obtain ⟨nn,hnn⟩:∃ nn,nn=x0C.n:=⟨_,rfl⟩
 rw [<-hcf,<-hpg,<-hnn] at HRC
 clear hcf hpg hnn
 obtain ⟨Sx,hSx⟩:∃ Sx:World->Prop,Sx=fun W'=>Rec W' hp 37 [.pointer (some ⟨q,0,none⟩),.pointer (some ⟨r,0,none⟩),.int .i64 cf.fr,.int .i64 cf.tp,.int .i64 cf.to,.int .i64 cf.lm,.int .i64 cf.bk,.int .i64 cf.st,.int .i64 cf.ah,.slice A nn c,.int .i64 (pg:Nat)]:=⟨_,rfl⟩
 have y1:∀ p:Held Sx,p.w.cell? ⟨hp,1,none⟩=some (.pointer (some ⟨r,0,none⟩)):=fun p=>by have h:=Held.get hSx p;exact h.cell (j:=1) rfl
 have y2:∀ p:Held Sx,p.w.cell? ⟨hp,2,none⟩=some (.int .i64 cf.fr):=fun p=>by have h:=Held.get hSx p;exact h.cell (j:=2) rfl
 have y3:∀ p:Held Sx,p.w.cell? ⟨hp,3,none⟩=some (.int .i64 cf.tp):=fun p=>by have h:=Held.get hSx p;exact h.cell (j:=3) rfl
 have y4:∀ p:Held Sx,p.w.cell? ⟨hp,4,none⟩=some (.int .i64 cf.to):=fun p=>by have h:=Held.get hSx p;exact h.cell (j:=4) rfl
 have y5:∀ p:Held Sx,p.w.cell? ⟨hp,5,none⟩=some (.int .i64 cf.lm):=fun p=>by have h:=Held.get hSx p;exact h.cell (j:=5) rfl
 have y6:∀ p:Held Sx,p.w.cell? ⟨hp,6,none⟩=some (.int .i64 cf.bk):=fun p=>by have h:=Held.get hSx p;exact h.cell (j:=6) rfl
 have y7:∀ p:Held Sx,p.w.cell? ⟨hp,7,none⟩=some (.int .i64 cf.st):=fun p=>by have h:=Held.get hSx p;exact h.cell (j:=7) rfl
 have y8:∀ p:Held Sx,p.w.cell? ⟨hp,8,none⟩=some (.int .i64 cf.ah):=fun p=>by have h:=Held.get hSx p;exact h.cell (j:=8) rfl
 have HS:Hid (∀ W',Rec W' hp 37 [.pointer (some ⟨q,0,none⟩),.pointer (some ⟨r,0,none⟩),.int .i64 cf.fr,.int .i64 cf.tp,.int .i64 cf.to,.int .i64 cf.lm,.int .i64 cf.bk,.int .i64 cf.st,.int .i64 cf.ah,.slice A nn c,.int .i64 (pg:Nat)]->Sx W'):=⟨fun W' h=>by rw [hSx];exact h⟩
 have hS0:=HS.out _ (HRC.out.gr (Gr.refl w1).drew)
 have inst:Inhabited (Held Sx):=⟨⟨_,hS0⟩⟩
 clear hSx
 refine wp_region_mixS Sx 15 [([0,1,2,3,4,5,6,7,8],9)] [10,11,12,13,14] (by kernel_rfl) (by kernel_rfl) hS0 ?_
 refine segs_step ?_
 try simp only [opsAt,List.getElem?_cons_zero,List.getElem?_cons_succ]
 repeat (go_big_quiet_step (fail))
 refine wpQuiet_nil ?_
 go_wp2_with ((go_at_call 47;refine (open_nil_m _ _ _ _ _ _ _ (HRT.out.gr (Gr.refl w1).drew)).mono ?_;rintro e w2 ⟨rfl,hg2⟩;have HG2:=hid ((Gr.refl w1).drew.trans hg2);clear hg2))
 refine ⟨.inr (Held.of (HS.out _ (HRC.out.gr HG2.out))),?_⟩
 refine segs_end ?_
 try simp only [opsAt,List.getElem?_cons_zero,List.getElem?_cons_succ]
 repeat (go_big_quiet_step (fail))
 refine wpQuiet_nil ?_
 refine NoPanic.normal ?_
 clear y1 y2 y3 y4 y5 y6 y7 y8 hS0 inst
 clear HS Sx
 go_upto_region 8 with (fail)
 obtain ⟨Sx,hSx⟩:∃ Sx:World->Prop,Sx=fun W'=>Rec W' hp 37 [.pointer (some ⟨q,0,none⟩),.pointer (some ⟨r,0,none⟩),.int .i64 cf.fr,.int .i64 cf.tp,.int .i64 cf.to,.int .i64 cf.lm,.int .i64 cf.bk,.int .i64 cf.st,.int .i64 cf.ah,.slice A nn c,.int .i64 (pg:Nat)]:=⟨_,rfl⟩
 have y0:∀ p:Held Sx,p.w.cell? ⟨hp,0,none⟩=some (.pointer (some ⟨q,0,none⟩)):=fun p=>by have h:=Held.get hSx p;exact h.cell (j:=0) rfl
 have y2:∀ p:Held Sx,p.w.cell? ⟨hp,2,none⟩=some (.int .i64 cf.fr):=fun p=>by have h:=Held.get hSx p;exact h.cell (j:=2) rfl
 have y3:∀ p:Held Sx,p.w.cell? ⟨hp,3,none⟩=some (.int .i64 cf.tp):=fun p=>by have h:=Held.get hSx p;exact h.cell (j:=3) rfl
 have y4:∀ p:Held Sx,p.w.cell? ⟨hp,4,none⟩=some (.int .i64 cf.to):=fun p=>by have h:=Held.get hSx p;exact h.cell (j:=4) rfl
 have y5:∀ p:Held Sx,p.w.cell? ⟨hp,5,none⟩=some (.int .i64 cf.lm):=fun p=>by have h:=Held.get hSx p;exact h.cell (j:=5) rfl
 have y6:∀ p:Held Sx,p.w.cell? ⟨hp,6,none⟩=some (.int .i64 cf.bk):=fun p=>by have h:=Held.get hSx p;exact h.cell (j:=6) rfl
 have y7:∀ p:Held Sx,p.w.cell? ⟨hp,7,none⟩=some (.int .i64 cf.st):=fun p=>by have h:=Held.get hSx p;exact h.cell (j:=7) rfl
 have y8:∀ p:Held Sx,p.w.cell? ⟨hp,8,none⟩=some (.int .i64 cf.ah):=fun p=>by have h:=Held.get hSx p;exact h.cell (j:=8) rfl
 have HS:Hid (∀ W',Rec W' hp 37 [.pointer (some ⟨q,0,none⟩),.pointer (some ⟨r,0,none⟩),.int .i64 cf.fr,.int .i64 cf.tp,.int .i64 cf.to,.int .i64 cf.lm,.int .i64 cf.bk,.int .i64 cf.st,.int .i64 cf.ah,.slice A nn c,.int .i64 (pg:Nat)]->Sx W'):=⟨fun W' h=>by rw [hSx];exact h⟩
 have hS0:=HS.out _ (HRC.out.gr HG2.out.drew)
 have inst:Inhabited (Held Sx):=⟨⟨_,hS0⟩⟩
 clear hSx
 refine wp_region_mixS Sx 15 [([0,1,2,3,4,5,6,7,8],9)] [10,11,12,13,14] (by kernel_rfl) (by kernel_rfl) hS0 ?_
 refine segs_step ?_
 try simp only [opsAt,List.getElem?_cons_zero,List.getElem?_cons_succ]
 repeat (go_big_quiet_step (fail))
 refine wpQuiet_nil ?_
 go_wp2_with ((go_at_call 47;refine (open_nil_r _ _ _ _ _ _ _ _ _).mono ?_;rintro e w3 ⟨rfl,hg3⟩;have HG3:=hid (HG2.out.drew.trans hg3);clear hg3))
 refine ⟨.inr (Held.of (HS.out _ (HRC.out.gr HG3.out))),?_⟩
 refine segs_end ?_
 try simp only [opsAt,List.getElem?_cons_zero,List.getElem?_cons_succ]
 repeat (go_big_quiet_step (fail))
 refine wpQuiet_nil ?_
 refine NoPanic.normal ?_
 clear y0 y2 y3 y4 y5 y6 y7 y8 hS0 inst
 clear HS Sx
 have hb:=HRC.out.gr HG3.out
 have z2:=hb.cell (j:=2) rfl
 have z3:=hb.cell (j:=3) rfl
 have z4:=hb.cell (j:=4) rfl
 have z5:=hb.cell (j:=5) rfl
 have z6:=hb.cell (j:=6) rfl
 have z7:=hb.cell (j:=7) rfl
 have z8:=hb.cell (j:=8) rfl
 have zl:=hb.lt
 have HG13:=hid (HG.out.trans HG3.out)
 clear hb
 go_wp2_with (first
  | (go_at_call 48;refine (sl_load_nil _ _).mono ?_;rintro e w4 ⟨rfl,rfl⟩)
  | (go_at_call 49;refine (sl_peek_nil _ _).mono ?_;rintro e w4 ⟨rfl,rfl⟩)
  | (go_at_call 38;refine (sl_step_nil _).mono ?_;rintro e w4 ⟨rfl,rfl⟩)
  | (go_at_call 50;refine (sl_store_nil _ _ _).mono ?_;rintro e w4 ⟨rfl,rfl⟩)
  | (go_at_call 40;refine (sl_touch_nil _ _).mono ?_;rintro e w4 ⟨rfl,rfl⟩)
  | (go_at_call 44;refine (sl_done_nil _).mono ?_;rintro e w4 ⟨rfl,rfl⟩)
  | (go_at_call 42;refine (sl_blocks_nil _).mono ?_;rintro e w4 ⟨rfl,rfl⟩)
  | (go_at_call 43;refine (sl_left_nil _).mono ?_;rintro e w4 ⟨rfl,rfl⟩)
  | (go_at_call 45;refine (sl_frontier_nil _).mono ?_;rintro e w4 ⟨rfl,rfl⟩)
  | (go_at_call 46;refine (sl_top_nil _).mono ?_;rintro e w4 ⟨rfl,rfl⟩)
  | (go_at_call 51;refine (sl_objects_nil _).mono ?_;rintro e w4 ⟨rfl,rfl⟩)
  | (go_at_call 52;refine (sl_moved_nil _ _).mono ?_;rintro e w4 ⟨rfl,rfl⟩)
  | (go_at_call 53;refine (scheck_nil _ _ _ _ _ _ _ _).mono ?_;rintro e w5 ⟨rfl,hg5⟩;have HG5:=hid (HG13.out.trans hg5);clear hg5)
  | (go_at_call 35;refine (lives24 (HG5.out.tab HT.out.lt HT.out)).mono ?_;rintro e w6 ⟨rfl,hg6⟩;have HG6:=hid (HG5.out.trans hg6);clear hg6))
 go_ret
 exact ⟨rfl,HG6.out⟩
end Go.Proofs.YtbmidhlilafgeaaGreatDoor
end
