/- Part 11 of what SlideReads leans on: my own lemmas, merged by shake.py. -/
import Derived.Test.YthgdadohijgleaaGreatDoorSlideReadsJ
section
namespace Go.Proofs.YthgdadohijgleaaGreatDoor
open Go.RowKit Word
theorem open_yes {w w':World} {S:Nat->Prop} {q r g:Nat} {v:Vm} {rs:List Int} {c:Cf} {L:List Ob} {e:Ending} (hI:PkIn v rs c.fr c.tp L) (hfit:sizes L<=c.lm-c.to) (h:OpenEnd w S q r g v rs c e w'):
  Touch (fun b=>b=g\/S b) w w'/\∃ (y:Nat) (z:SlAd) (R S':Nat->Prop) (v':Vm) (j:Nat),e=.returned (.tuple #[.pointer (some ⟨y,0,none⟩),.int .i64 0])/\Cyc w' R y q z (slNew v c L)/\VmAt w' S' q v'/\(∀ b,S' b->S b\/w.heap.size<=b)/\(∀ b,R b->w.heap.size<=b/\¬ S' b) ∧
    OpUm (slNew v c L) v v' (c.fr/v.pl.pg) j/\c.tp<=(c.fr/v.pl.pg+j)*v.pl.pg/\RtAt w' r g (rs.map (toV L c.to)):=by
 obtain ⟨ht,(⟨hno,-⟩ | ⟨L',hI',(⟨hb,-⟩ | ⟨-,y,z,R,S',v',j,e1,e2,e3,e4,e5,e6,e7,-,e8⟩)⟩)⟩:=h
 ·exact absurd hI (hno L)
 ·have:=hI'.1.unique hI.1
  subst this
  omega
 ·have:=hI'.1.unique hI.1
  subst this
  exact ⟨ht,y,z,R,S',v',j,e1,e2,e3,e4,e5,e6,e7,e8⟩
theorem wrds_same {u v:Vm} {M:Nat} (h:∀ a:Nat,a<M->u.ldV a=v.ldV a):wrds u M=wrds v M:=by
 unfold wrds
 apply List.map_congr_left
 intro a ha
 rw [List.mem_range] at ha
 rw [h a ha]
theorem words_ne24 {W:World} {x:LaidC} {u:Vm} {A:Option Addr} {c r g:Nat} {rs:List Int} (h:Wrds W A c x.n u) (hR:RtAt W r g rs) {b:Nat} (hb:(Value.slice A x.n c).ownBlock=some b):b≠g:=by
 rintro rfl
 have hp:=x.page_pos
 have hn:0<x.n:=by unfold LaidC.n;omega
 obtain ⟨b',c',ea,-,-,-,-⟩:=own_form h (by omega)
 simp only [Value.slice.injEq] at ea
 obtain ⟨rfl,-,rfl⟩:=ea
 have e:b'=b:=Option.some.inj hb
 subst e
 have h1:=own_cell h (wrds_at u hn)
 have h2:=hR.cell (i:=0) (List.length_pos_iff.2 hR.ne)
 rw [h1] at h2
 simp at h2
structure Op24 (x:LaidC) (v u:Vm) (L:List Ob):Prop where
 ok:VmOk v
 pg:v.pl.pg=x.page
 n:v.n=x.n
 inn:PkIn v x.rs x.cf.fr x.cf.tp L
 fit:sizes L<=x.cf.lm-x.cf.to
 full:FullOb v L
 cf:CfOk v.pl.pg v.n x.cf
 mrk:Marks u x.rs x.n L
 wd:wrds v x.n=wrds u x.n
 g:G24 (slNew v x.cf L) u
 c:∀ i,i<sizes L->(slNew v x.cf L).c i=(slNew v x.cf L).cv i (u.ldV (srcO L i:Nat))
 map:∀ p,p<v.pt.length->v.pt.getD p 0≠0->x.cf.fr/v.pl.pg<=p/\p*v.pl.pg<x.cf.tp
 st:SlSt (slNew v x.cf L)
theorem open24 {x:LaidC} {rm:Nat} {v0:Vm} (hr:Run24 x rm v0):∃ L u,Op24 x (layC x v0) u L:=by
 have hst:=Stays.layC hr.ok x
 have hs:=hr.stays hst
 have hLI:=laid_in (x:=x) hr.ok hr.map
 obtain ⟨L,hM⟩:=hLI.ex hr.map
 have hpp:=x.page_pos
 have htop:=x.top_le
 have hn:x.n=x.page+1024:=rfl
 obtain ⟨u,hu,huv⟩:=ghost (n:=x.n) (f:=fun a=>(layC x v0).ldV a) (by omega) (by omega) (fun a=>hs.ok.ldV_lt _)
 have hwu:Wider (layC x v0) u:=ghost_wider hu hs.n huv
 have hmk:=hLI.marks hr.map hM
 have hin:PkIn (layC x v0) x.rs x.cf.fr x.cf.tp L:=⟨by rw [hs.n];exact hM,fun o ho=>by
  have:=hmk.1 o ho
  show (x.page:Int)<=_/\_<=(x.top:Int)
  omega⟩
 have hcf:CfOk (layC x v0).pl.pg (layC x v0).n x.cf:=by rw [hs.pg,hs.n];exact x.cfok
 have hfit:sizes L<=x.cf.lm-x.cf.to:=by
  have:x.cf.lm-x.cf.to=512:=by show x.page+1024-(x.page+512)=512;omega
  rw [this];exact hmk.2.1
 have hSt:=slNew_st hs.ok hcf hin hfit
 have hO:=slNew_ok hs.ok hcf hin hfit hmk.2.2 (OpUm.zero hs.ok 0)
 have hsrc:∀ i,i<sizes L->u.ldV (srcO L i:Nat)=(layC x v0).ldV (srcO L i:Nat):=fun i hi=>by
  have h1:=(hSt.srcs (i:=i) hi).2.2
  have h2:srcO L i<(layC x v0).n:=h1
  exact huv _ (by rw [<-hs.n];exact h2)
 refine ⟨L,u,hs.ok,hs.pg,hs.n,hin,hfit,hmk.2.2,hcf,hwu.marks hM,(wrds_same fun a ha=>(huv a ha).symm),⟨?_,?_,?_,fun j hj=>?_,fun i hi hp=>?_⟩,fun i hi=>?_,fun p hp hm=>?_,hSt⟩
 ·show (layC x v0).n<=1100
  rw [hs.n];omega
 ·show x.top<=x.page+512
  omega
 ·show FullN (layC x v0).n u
  rw [hs.n];exact hu
 ·have hj':j<L.length:=hj
  show u.rdH (L[j].1:Nat)=(layC x v0).rdH (L[j].1:Nat)
  have h1:=hmk.2.2 _ (List.getElem_mem hj') 0 (by have:=(hM.mkd.good.sz _ (List.getElem_mem hj')).1;omega)
  rw [show ((L[j].1:Nat):Int)+((0:Nat):Int)=((L[j].1:Nat):Int) by omega] at h1
  have h2:L[j].1<x.n:=by have:=hM.mkd.good.sz _ (List.getElem_mem hj');omega
  exact (rd_congr (by rw [hu.al _ h2,h1]) (huv _ h2)).2
 ·have hi':i<sizes L:=hi
  show u.ldV (srcO L i:Nat)<=_
  rw [hsrc i hi']
  exact (hO.mid.src i hi (by show (!(slNew (layC x v0) x.cf L).is i)=true;rw [slNew_is];rfl)).2.2 hp
 ·rw [hsrc i hi];rfl
 ·have h0:frE (layC x v0).pt (p:Int)=0:=by rw [frE_of hp,if_neg hm]
  have hnp:=hs.ok.np
  have h1:p*(layC x v0).pl.pg<x.n:=by
   rw [<-hs.n,hnp]
   exact Nat.mul_lt_mul_of_pos_right hp (by rw [hs.pg];omega)
  have h2:=hs.le (p*(layC x v0).pl.pg) h1
  have h3:=hs.ok.ldE_of (a:=p*(layC x v0).pl.pg) (by rw [hs.n];exact h1)
  rw [Nat.mul_div_cancel _ (by rw [hs.pg];omega),if_neg hm] at h3
  rw [h3] at h2
  split at h2
  ·rename_i hb
   have hu2:=upN_ge (n:=x.top) (B:=x.page) hpp.1
   refine ⟨?_,?_⟩
   ·rw [Nat.div_le_iff_le_mul_add_pred (by rw [hs.pg];omega)]
    have:x.cf.fr=x.page:=rfl
    rw [this,Nat.mul_comm]
    omega
   ·show p*(layC x v0).pl.pg<x.top
    refine Nat.lt_of_not_le fun hge=>?_
    have h5:upN x.top x.page<=p*(layC x v0).pl.pg:=by
     rw [hs.pg] at hge ⊢
     unfold upN
     refine Nat.mul_le_mul_right _ ?_
     rw [Nat.div_le_iff_le_mul_add_pred (by omega),Nat.mul_comm]
     omega
    omega
  ·cases h2
end Go.Proofs.YthgdadohijgleaaGreatDoor
end
section
namespace Go.Proofs.YthgdadohijgleaaGreatDoor
open Go.RowKit Go.Shelf Word
def OpenedEnd (w:World) (hp q r:Nat) (vL:Value) (x:LaidC) (v:Vm) (L:List Ob) (u:Vm) (e:Ending) (W':World):Prop:=
 ∃ (y ry:Nat) (z:SlAd) (a:RcAd) (R S:Nat->Prop) (v':Vm),e=.returned (.tuple #[.pointer (some ⟨y,0,none⟩),.pointer (some ⟨ry,0,none⟩),.bool true])/\P24 w W' hp q r vL y ry z a R S (slNew v x.cf L) (slNew v x.cf L).mv v' u
section
variable {w W:World} {x:LaidC} {more:Nat} {v0 u:Vm} {L:List Ob} {hp q r g:Nat} {A:Option Addr} {c:Nat} {SV:Nat->Prop}
set_option maxRecDepth 100000 in
set_option maxHeartbeats 6400000 in
theorem opened24 (hT:TabAt w) (hg:Gr w W) (hr:Run24 x (x.room+more) v0) (hO:Op24 x (layC x v0) u L) (hV:VmAt W SV q (layC x v0)) (hR:RtAt W r g x.rs) (hH:Rec W hp 111 (heapL x q r (.slice A x.n c))) (hW:Wrds W A c x.n (layC x v0))
  (hsv:∀ i,SV i->w.heap.size<=i/\i<W.heap.size) (h1:¬ SV hp) (h2:¬ SV r) (h3:¬ SV g) (hl:w.heap.size<=hp/\w.heap.size<=r/\w.heap.size<=g) (hA:∀ b,(Value.slice A x.n c).ownBlock=some b->w.heap.size<=b/\¬ SV b/\b≠g):
  Calls Tryz.prog 59 #[.pointer (some ⟨hp,0,none⟩)] W (OpenedEnd w hp q r (.slice A x.n c) x (layC x v0) L u):=by
 have hs:=hr.stays (Stays.layC hr.ok x)
 have hpp:=x.page_pos
 have HO:=hid hO
 have HTB:=hid hT
 have htl:=hT.lt
 have hgs:=hg.size
 have HGW:=hid hg
 have hrl:=hR.lt
 have hhl:=hH.lt
 have hgh:hp≠g:=fun e=>(own_ne hR.row hH (by decide) rfl rfl) e.symm
 have HALL:=hid (fun (W':World) (g':Gr W W')=>rt_all (hR.gr g'))
 have HOP:Hid (∀ W',Gr W W'->Calls Tryz.prog 151 #[.pointer (some ⟨q,0,none⟩),.pointer (some ⟨r,0,none⟩),cfV x.cf] W' fun e w'=>Touch (fun b=>b=g\/SV b) W' w'/\∃ (y:Nat) (z:SlAd) (R S':Nat->Prop) (v':Vm) (j:Nat),e=.returned (.tuple #[.pointer (some ⟨y,0,none⟩),.int .i64 0])/\Cyc w' R y q z (slNew (layC x v0) x.cf L)/\VmAt w' S' q v'/\(∀ b,S' b->SV b\/W'.heap.size<=b)/\(∀ b,R b->W'.heap.size<=b/\¬ S' b) ∧
    OpUm (slNew (layC x v0) x.cf L) (layC x v0) v' (x.cf.fr/(layC x v0).pl.pg) j/\x.cf.tp<=(x.cf.fr/(layC x v0).pl.pg+j)*(layC x v0).pl.pg/\RtAt w' r g (x.rs.map (toV L x.cf.to))):=⟨fun W' g'=>
  (sl_open (c:=x.cf) (hV.gr g') (hR.gr g') ((hg.trans g').tab htl hT) (fun h=>by have:=(hsv _ h).1;omega) h2 h3 hO.cf (by omega)).mono (fun e w' h=>open_yes hO.inn hO.fit h)⟩
 have HRM:Hid ((x.cf.tp-x.cf.fr+(layC x v0).pl.pg-1)/(layC x v0).pl.pg+(x.cf.ah+1)*max 1 (x.cf.bk/(layC x v0).pl.pg)+1<=(layC x v0).pl.rm):=⟨by
  rw [hs.pg,hs.rm]
  exact Nat.le_add_right x.room more⟩
 have HKH:Hid (∀ W1 W',Gr W W1->Touch (fun b=>b=g\/SV b) W1 W'->Rec W' hp 111 (heapL x q r (.slice A x.n c))):=⟨fun W1 W' g1 t=>(hH.gr g1).touch t (fun h=>h.elim hgh h1)⟩
 have HNO:=hid (And.intro hsv (And.intro h1 (And.intro h2 (And.intro h3 (And.intro hl hA)))))
 have HWR:Hid (Wrds W A c x.n u):=⟨by have:=hW;unfold Wrds at this ⊢;rw [<-hO.wd];exact this⟩
 obtain ⟨cf,hcf⟩:∃ cf,cf=x.cf:=⟨_,rfl⟩
 obtain ⟨pg,hpg⟩:∃ pg,pg=x.page:=⟨_,rfl⟩
 obtain ⟨nn,hnn⟩:∃ nn,nn=x.n:=⟨_,rfl⟩
 obtain ⟨v,hv⟩:∃ v,v=layC x v0:=⟨_,rfl⟩
 have HEQ:=hid (And.intro hcf (And.intro hpg (And.intro hnn hv)))
 have HRL:Hid (x.rs.length<=64):=⟨hR.le⟩
 have HH0:=hid hH
 unfold heapL at HKH HH0
 rw [<-hcf,<-hpg,<-hnn] at HKH HH0
 rw [<-hnn] at HWR
 rw [<-hcf,<-hv] at HOP HRM
 unfold OpenedEnd
 rw [<-hcf,<-hnn,<-hv]
 rw [<-hv] at HO
 obtain ⟨nr,hnr⟩:∃ nr,nr=x.rs.length:=⟨_,rfl⟩
 have HNR:=hid hnr
 rw [<-hnr] at HALL
 clear hT hr hO hV hR hH hW hsv h1 h2 h3 hl hA hs hg hcf hpg hnn hv hnr
 unfold cfV at HOP
 have z1:=HH0.out.cell (j:=1) rfl
 have zl:=HH0.out.lt
 go_enter Tryz.func59,Tryz.ntmps59
 go_upto_region 2 with (go_at_call 84;refine (HALL.out _ (Gr.refl W)).mono ?_;rintro e w1 ⟨gA,cA,rfl,hg1,hgl1,how1⟩;have HG1:=hid hg1;have HW1:=hid how1;have HGL:=hid hgl1;clear hg1 how1 hgl1)
 clear z1 zl
 obtain ⟨Sx,hSx⟩:∃ Sx:World->Prop,Sx=fun W'=>Rec W' hp 111 [.pointer (some ⟨q,0,none⟩),.pointer (some ⟨r,0,none⟩),.int .i64 cf.fr,.int .i64 cf.tp,.int .i64 cf.to,.int .i64 cf.lm,.int .i64 cf.bk,.int .i64 cf.st,.int .i64 cf.ah,.slice A nn c,.int .i64 (pg:Nat)]:=⟨_,rfl⟩
 have y0:∀ p:Held Sx,p.w.cell? ⟨hp,0,none⟩=some (.pointer (some ⟨q,0,none⟩)):=fun p=>by have h:=Held.get hSx p;exact h.cell (j:=0) rfl
 have y1:∀ p:Held Sx,p.w.cell? ⟨hp,1,none⟩=some (.pointer (some ⟨r,0,none⟩)):=fun p=>by have h:=Held.get hSx p;exact h.cell (j:=1) rfl
 have y2:∀ p:Held Sx,p.w.cell? ⟨hp,2,none⟩=some (.int .i64 cf.fr):=fun p=>by have h:=Held.get hSx p;exact h.cell (j:=2) rfl
 have y3:∀ p:Held Sx,p.w.cell? ⟨hp,3,none⟩=some (.int .i64 cf.tp):=fun p=>by have h:=Held.get hSx p;exact h.cell (j:=3) rfl
 have y4:∀ p:Held Sx,p.w.cell? ⟨hp,4,none⟩=some (.int .i64 cf.to):=fun p=>by have h:=Held.get hSx p;exact h.cell (j:=4) rfl
 have y5:∀ p:Held Sx,p.w.cell? ⟨hp,5,none⟩=some (.int .i64 cf.lm):=fun p=>by have h:=Held.get hSx p;exact h.cell (j:=5) rfl
 have y6:∀ p:Held Sx,p.w.cell? ⟨hp,6,none⟩=some (.int .i64 cf.bk):=fun p=>by have h:=Held.get hSx p;exact h.cell (j:=6) rfl
 have y7:∀ p:Held Sx,p.w.cell? ⟨hp,7,none⟩=some (.int .i64 cf.st):=fun p=>by have h:=Held.get hSx p;exact h.cell (j:=7) rfl
 have y8:∀ p:Held Sx,p.w.cell? ⟨hp,8,none⟩=some (.int .i64 cf.ah):=fun p=>by have h:=Held.get hSx p;exact h.cell (j:=8) rfl
 have HS:Hid (∀ W',Rec W' hp 111 [.pointer (some ⟨q,0,none⟩),.pointer (some ⟨r,0,none⟩),.int .i64 cf.fr,.int .i64 cf.tp,.int .i64 cf.to,.int .i64 cf.lm,.int .i64 cf.bk,.int .i64 cf.st,.int .i64 cf.ah,.slice A nn c,.int .i64 (pg:Nat)]->Sx W'):=⟨fun W' h=>by rw [hSx];exact h⟩
 have hS0:=HS.out _ (HH0.out.gr (HG1.out.trans (Gr.refl w1).drew))
 have inst:Inhabited (Held Sx):=⟨⟨_,hS0⟩⟩
 clear hSx
 refine wp_region_mixS Sx 18 [([0,1,2,3,4,5,6,7,8,9,10,11],12)] [13,14,15,16,17] (by kernel_rfl) (by kernel_rfl) hS0 ?_
 refine segs_step ?_
 try simp only [opsAt,List.getElem?_cons_zero,List.getElem?_cons_succ]
 repeat (go_big_quiet_step (fail))
 refine wpQuiet_nil ?_
 go_wp2_with ((go_at_call 151;refine (HOP.out _ (HG1.out.trans (Gr.refl w1).drew)).mono ?_;rintro e w2 ⟨ht2,y,z,R,S',v',j,rfl,hcy,hvm,hS,hR,hU,hq,hrt⟩;have HT2:=hid ht2;have HCY:=hid hcy;have HVM:=hid hvm;have HSS:=hid hS;have HRR:=hid hR;have HU:=hid hU;have HQ:=hid hq;have HRT:=hid hrt;clear ht2 hcy hvm hS hR hU hq hrt))
 refine ⟨.inr (Held.of (HS.out _ (HKH.out _ _ (HG1.out.trans (Gr.refl w1).drew) HT2.out))),?_⟩
 refine segs_end ?_
 try simp only [opsAt,List.getElem?_cons_zero,List.getElem?_cons_succ]
 repeat (go_big_quiet_step (fail))
 refine wpQuiet_nil ?_
 refine NoPanic.normal ?_
 clear y0 y1 y2 y3 y4 y5 y6 y7 y8 hS0 inst
 clear HS Sx
 have HH2:=hid (HKH.out _ _ (HG1.out.trans (Gr.refl w1).drew) HT2.out)
 have hz1:=HG1.out.size
 have hz2:w1.heap.size<=w2.heap.size:=HT2.out.size
 have HW2:Hid (w2.ownsRow 0 3 1 (.slice (some ⟨gA,0,none⟩) nr cA) nr (zs x.rs)):=⟨by
  refine own_touch (own_gr HW1.out (Gr.refl w1).drew) HT2.out (fun b hb h=>?_)
  have hb:gA=b:=Option.some.inj hb
  have hx:=HGL.out
  rcases h with h | h
  ·omega
  ·have:=(HNO.out.1 _ h).2;omega⟩
 have HA2:Hid (Wrds w2 A c nn u):=⟨by
  refine own_touch (HWR.out.gr (HG1.out.trans (Gr.refl w1).drew)) HT2.out (fun b hb h=>?_)
  obtain ⟨e1,e2,e3,e4⟩:=HEQ.out
  have hb:(Value.slice A x.n c).ownBlock=some b:=by rw [<-e3];exact hb
  have hx:=HNO.out.2.2.2.2.2 b hb
  exact h.elim hx.2.2 hx.2.1⟩
 have HRO:Hid (∀ W',Gr w2 W'->Calls Tryz.prog 153 #[.slice A nn c,.int .i64 (pg:Nat),.slice (some ⟨gA,0,none⟩) nr cA,.agg #[.int .i64 cf.fr,.int .i64 cf.tp,.int .i64 cf.to,.int .i64 cf.lm,.int .i64 cf.bk,.int .i64 cf.st,.int .i64 cf.ah]] W' (RcOpen W' (slNew v cf L) A c u)):=⟨fun W' g'=>by
  obtain ⟨e1,e2,e3,e4⟩:=HEQ.out
  have n1:(slNew v cf L).n=nn:=by show v.n=nn;rw [e4,e3];rw [<-e4];exact HO.out.n
  have n2:(slNew v cf L).pg=pg:=by show v.pl.pg=pg;rw [e2];exact HO.out.pg
  have hg:=HO.out.g
  have hst:=HO.out.st
  have hmk:=HO.out.mrk
  rw [<-e1] at hg hst
  have:=rc_open (s:=slNew v cf L) (A0:=A) (cp:=c) (cr:=cA) (A:=some ⟨gA,0,none⟩) (rs:=x.rs) (w:=W') hg.fu (by rw [n1];exact HA2.out.gr g') (own_ints (own_gr HW2.out g') HNR.out) HRL.out (by rw [n1,e3];exact hmk) hg.n1 hst rfl
  rw [n1,n2,<-HNR.out] at this
  exact this⟩
 go_upto_region 3 with (fail)
 obtain ⟨Sx,hSx⟩:∃ Sx:World->Prop,Sx=fun W'=>Rec W' hp 111 [.pointer (some ⟨q,0,none⟩),.pointer (some ⟨r,0,none⟩),.int .i64 cf.fr,.int .i64 cf.tp,.int .i64 cf.to,.int .i64 cf.lm,.int .i64 cf.bk,.int .i64 cf.st,.int .i64 cf.ah,.slice A nn c,.int .i64 (pg:Nat)]:=⟨_,rfl⟩
 have y9:∀ p:Held Sx,p.w.cell? ⟨hp,9,none⟩=some (.slice A nn c):=fun p=>by have h:=Held.get hSx p;exact h.cell (j:=9) rfl
 have y10:∀ p:Held Sx,p.w.cell? ⟨hp,10,none⟩=some (.int .i64 (pg:Nat)):=fun p=>by have h:=Held.get hSx p;exact h.cell (j:=10) rfl
 have y2:∀ p:Held Sx,p.w.cell? ⟨hp,2,none⟩=some (.int .i64 cf.fr):=fun p=>by have h:=Held.get hSx p;exact h.cell (j:=2) rfl
 have y3:∀ p:Held Sx,p.w.cell? ⟨hp,3,none⟩=some (.int .i64 cf.tp):=fun p=>by have h:=Held.get hSx p;exact h.cell (j:=3) rfl
 have y4:∀ p:Held Sx,p.w.cell? ⟨hp,4,none⟩=some (.int .i64 cf.to):=fun p=>by have h:=Held.get hSx p;exact h.cell (j:=4) rfl
 have y5:∀ p:Held Sx,p.w.cell? ⟨hp,5,none⟩=some (.int .i64 cf.lm):=fun p=>by have h:=Held.get hSx p;exact h.cell (j:=5) rfl
 have y6:∀ p:Held Sx,p.w.cell? ⟨hp,6,none⟩=some (.int .i64 cf.bk):=fun p=>by have h:=Held.get hSx p;exact h.cell (j:=6) rfl
 have y7:∀ p:Held Sx,p.w.cell? ⟨hp,7,none⟩=some (.int .i64 cf.st):=fun p=>by have h:=Held.get hSx p;exact h.cell (j:=7) rfl
 have y8:∀ p:Held Sx,p.w.cell? ⟨hp,8,none⟩=some (.int .i64 cf.ah):=fun p=>by have h:=Held.get hSx p;exact h.cell (j:=8) rfl
 have HS:Hid (∀ W',Rec W' hp 111 [.pointer (some ⟨q,0,none⟩),.pointer (some ⟨r,0,none⟩),.int .i64 cf.fr,.int .i64 cf.tp,.int .i64 cf.to,.int .i64 cf.lm,.int .i64 cf.bk,.int .i64 cf.st,.int .i64 cf.ah,.slice A nn c,.int .i64 (pg:Nat)]->Sx W'):=⟨fun W' h=>by rw [hSx];exact h⟩
 have hS0:=HS.out _ (HH2.out.gr (Gr.refl w2).drew)
 have inst:Inhabited (Held Sx):=⟨⟨_,hS0⟩⟩
 clear hSx
 refine wp_region_mixS Sx 19 [([0,1,2,3,4,5,6,7,8,9,10,11,12],13)] [14,15,16,17,18] (by kernel_rfl) (by kernel_rfl) hS0 ?_
 refine segs_step ?_
 try simp only [opsAt,List.getElem?_cons_zero,List.getElem?_cons_succ]
 repeat (go_big_quiet_step (fail))
 refine wpQuiet_nil ?_
 go_wp2_with ((go_at_call 153;refine (HRO.out _ (Gr.refl w2).drew).mono ?_;rintro e w3 ⟨ry,a,rfl,hg3,hrc,ha1,ha2,ha3,ha4,ha5⟩;have HG3:=hid ((Gr.refl w2).drew.trans hg3);have HRC:=hid hrc;have HAA:=hid (And.intro ha1 (And.intro ha2 (And.intro ha3 (And.intro ha4 ha5))));clear hg3 hrc ha1 ha2 ha3 ha4 ha5))
 refine ⟨.inr (Held.of (HS.out _ (HH2.out.gr HG3.out))),?_⟩
 refine segs_end ?_
 try simp only [opsAt,List.getElem?_cons_zero,List.getElem?_cons_succ]
 repeat (go_big_quiet_step (fail))
 refine wpQuiet_nil ?_
 refine NoPanic.normal ?_
 clear y9 y10 y2 y3 y4 y5 y6 y7 y8 hS0 inst
 clear HS Sx
 have HRT3:=hid (HRT.out.gr HG3.out)
 have HALL2:=hid (fun (W':World) (g':Gr w3 W')=>rt_all (HRT3.out.gr g'))
 rw [List.length_map,<-HNR.out] at HALL2
 have u1:=(HH2.out.gr HG3.out).cell (j:=1) rfl
 have ul:=(HH2.out.gr HG3.out).lt
 have HP3:Hid (P24 w w3 hp q r (.slice A nn c) y ry z a R (cutS S' w2) (slNew v cf L) (slNew v cf L).mv v' u):=⟨by
  obtain ⟨e1,e2,e3,e4⟩:=HEQ.out
  have n1:(slNew v cf L).n=nn:=by show v.n=nn;rw [e4,e3];rw [<-e4];exact HO.out.n
  have n2:v.pl.pg=pg:=by rw [e2];exact HO.out.pg
  obtain ⟨b1,b2,b3,b4,b5⟩:=HAA.out
  have hw1:W.heap.size<=w1.heap.size:=hz1
  have hw2:w1.heap.size<=w2.heap.size:=hz2
  have hw3:w2.heap.size<=w3.heap.size:=HG3.out.size
  have b3:w2.heap.size<=ry:=b3
  have b4:w2.heap.size<=a.bm:=b4
  have hU:=HU.out
  have hq:=HQ.out
  have hOK:SlOk (slNew v cf L) v':=by
   rw [e1] at hU ⊢
   exact slNew_ok HO.out.ok HO.out.cf HO.out.inn HO.out.fit HO.out.full hU
  have hPG:SlPg (slNew v cf L) v':=by
   rw [e1] at hU hq ⊢
   exact slNew_pages HO.out.ok HO.out.cf HO.out.inn HO.out.fit HO.out.full hU hq HO.out.map
  have hgl:∀ b,(b=g\/SV b)->w.heap.size<=b:=fun b hb=>by
   rcases hb with rfl | hb
   ·exact HNO.out.2.2.2.2.1.2.2
   ·exact (HNO.out.1 _ hb).1
  refine ⟨?_,HTB.out,?_,HCY.out.gr HG3.out,HVM.out.cut.gr HG3.out,hOK,slNew_A hPG (by rw [hU.rm];exact HRM.out),HRC.out,fun b hb h=>(HRR.out b hb).2 h.1,fun b hb=>?_,by omega,by omega⟩
  ·have a1:=((HGW.out.trans (HG1.out.trans (Gr.refl w1).drew)).touch (fun _=>False)).trans' HT2.out (fun b hb h=>by have:=hgl b h;omega)
   exact a1.gr.trans HG3.out
  ·show Rec w3 hp _ (heapS (slNew v cf L) q r (.slice A nn c))
   unfold heapS
   show Rec w3 hp _ [_,_,_,_,_,_,_,_,_,_,.int .i64 (v.pl.pg:Nat)]
   rw [n2]
   exact HH2.out.gr HG3.out
  ·have hAl:∀ o,(Value.slice a.A (slNew v cf L).n a.cp).ownBlock=some o->(w.heap.size<=o/\¬ SV o/\o≠g)/\o<W.heap.size:=fun o ho=>by
    rw [b1,n1,b2] at ho
    refine ⟨HNO.out.2.2.2.2.2 o (by rw [<-e3];exact ho),(own_lt HWR.out ho).2⟩
   have key:(SV b\/W.heap.size<=b)/\b<w2.heap.size:=by
    rcases hb with hb | hb
    ·have h1:=(HRR.out b hb).1
     have h1:w1.heap.size<=b:=h1
     exact ⟨.inr (by omega),HCY.out.od.lt b hb⟩
    ·refine ⟨?_,hb.2⟩
     rcases HSS.out b hb.1 with h1 | h1
     ·exact .inl h1
     ·have h1:w1.heap.size<=b:=h1
      exact .inr (by omega)
   obtain ⟨k1,k2⟩:=key
   refine ⟨?_,by omega,?_,by omega,by omega,fun o ho _=>?_,fun o ho e=>?_⟩
   ·rcases k1 with h | h
    ·exact (HNO.out.1 _ h).1
    ·omega
   ·rcases k1 with h | h
    ·rintro rfl;exact HNO.out.2.1 h
    ·omega
   ·have h5:=b5 o ho
    have h5:w2.heap.size<=o.block:=h5
    omega
   ·subst e
    obtain ⟨⟨-,h6,-⟩,h7⟩:=hAl b ho
    rcases k1 with h | h
    ·exact h6 h
    ·omega⟩
 go_upto_region 9 with (go_at_call 84;refine (HALL2.out _ (Gr.refl w3)).mono ?_;rintro e w4 ⟨gB,cB,rfl,hg4,hgl4,how4⟩;have HG4:=hid hg4;have HW4:=hid how4;clear hg4 how4 hgl4)
 clear u1 ul
 have HWA4:=hid (own_gr HW2.out (HG3.out.trans HG4.out))
 have hnrb:nr<=64:=by have:=HNR.out;have:=HRL.out;omega
 have HST:Hid (SlSt (slNew v cf L)):=⟨HP3.out.ok.st⟩
 go_loopw [68] (fun s68 wr=>∃ k:Nat,k<=nr/\Hid (Gr w4 wr)/\s68=.int .i64 k) (fun s68 _=>nr-(intOf s68).toNat)
 case atStart=>exact ⟨0,Nat.zero_le _,⟨Gr.refl _⟩,rfl⟩
 case round=>
  obtain ⟨k,hk,HG,rfl⟩:=hrel
  by_cases hlt:k<nr
  ·have hkl:k<x.rs.length:=by rw [<-HNR.out];exact hlt
   have hkI:(k:Int)<(nr:Int):=by omega
   have q1:=own_cell (own_gr HWA4.out HG.out) (show (zs x.rs)[k]?=some (.int .i64 x.rs[k]) by unfold zs;rw [List.getElem?_map,List.getElem?_eq_getElem hkl];rfl)
   have q2:=(own_lt (own_gr HWA4.out HG.out) rfl).2
   have p1:=own_cell (own_gr HW4.out HG.out) (show (zs (x.rs.map (toV L cf.to)))[k]?=some (.int .i64 (toV L cf.to x.rs[k])) by unfold zs;rw [List.getElem?_map,List.getElem?_map,List.getElem?_eq_getElem hkl];rfl)
   have p2:=(own_lt (own_gr HW4.out HG.out) rfl).2
   have HTO:=hid (rc_to (s:=slNew v cf L) (HP3.out.rc.gr (HG4.out.trans HG.out)) HST.out x.rs[k])
   obtain ⟨ra,hra⟩:∃ ra,ra=x.rs[k]:=⟨_,rfl⟩
   obtain ⟨t,ht⟩:∃ t,t=toV L cf.to ra:=⟨_,rfl⟩
   rw [<-hra] at q1 p1 HTO
   rw [<-ht] at p1
   have HTO':Hid (Gets Tryz.prog 154 #[.pointer (some ⟨ry,0,none⟩),.int .i64 ra] wr (.int .i64 t)):=⟨by rw [ht];exact HTO.out⟩
   have HLT:=hid hlt
   unfold Gets at HTO'
   clear hkl hra ht HTO hlt
   go_wp2_with (go_at_call 154;refine (HTO'.out).mono ?_;rintro e w5 ⟨rfl,hg5⟩;have HG5:=hid (HG.out.trans hg5);clear hg5)
   go_roundw
   case rel=>exact ⟨k+1,HLT.out,HG5,by go_num⟩
   case measure=>have:=HLT.out;simp [intOf];omega
  ·obtain rfl:nr=k:=by omega
   clear hlt
   go_upto_region 14 with (fail)
   have HT9:=hid (fun (W':World) (g:Gr w3 W')=>sl_top (HP3.out.gr g).cy)
   have HW9:=hid (fun (W':World) (g:Gr w3 W')=>words24 (s:=slNew v cf L) (HP3.out.gr g).rc HST.out)
   have HO9:=hid (fun (W':World) (g:Gr w3 W')=>sl_objects (HP3.out.gr g).cy)
   have HR9:=hid (fun (W':World) (g:Gr w3 W')=>(HP3.out.gr g).rc)
   have HB9:=hid (fun (W':World) (g:Gr w3 W')=>HH2.out.gr (HG3.out.trans g))
   have hnN:=HST.out.N_le
   have hLb:=HST.out.good.len
   have hn2:=HST.out.n2
   have hto:=HST.out.fit
   have hln:=HST.out.cf.ln
   unfold Gets at HT9 HW9
   obtain ⟨Z,hZ⟩:∃ Z,Z=sizes (slNew v cf L).L:=⟨_,rfl⟩
   obtain ⟨NL,hNL⟩:∃ NL,NL=(slNew v cf L).L.length:=⟨_,rfl⟩
   obtain ⟨tob,hto'⟩:∃ tob,tob=(slNew v cf L).cf.to:=⟨_,rfl⟩
   have HNL:=hid hNL
   have htoe:cf.to=tob:=hto'.symm
   rw [<-hZ] at HT9 HW9 hnN hto
   rw [<-hNL] at HO9 hLb
   rw [<-hto'] at HT9 hto
   have hZb:Z<=1048576:=by omega
   have htb:tob<=1048576:=by omega
   have dto:(((tob:Int)+(Z:Int))==(tob:Int)+(Z:Int))=true:=by simp
   have dnl:((NL:Int)==(NL:Int))=true:=by simp
   rw [htoe] at HB9
   clear hZ hNL hto' hnN hLb hn2 hto hln
   obtain ⟨Sx,hSx⟩:∃ Sx:World->Prop,Sx=fun W'=>(RCy W' ry a { slNew v cf L with mv:=(slNew v cf L).mv } u)/\Rec W' hp 111 [.pointer (some ⟨q,0,none⟩),.pointer (some ⟨r,0,none⟩),.int .i64 cf.fr,.int .i64 cf.tp,.int .i64 tob,.int .i64 cf.lm,.int .i64 cf.bk,.int .i64 cf.st,.int .i64 cf.ah,.slice A nn c,.int .i64 (pg:Nat)]:=⟨_,rfl⟩
   have y4:∀ p:Held Sx,p.w.cell? ⟨hp,4,none⟩=some (.int .i64 tob):=fun p=>by have h:=Held.get hSx p;exact h.2.cell (j:=4) rfl
   have y7:∀ p:Held Sx,p.w.cell? ⟨ry,7,none⟩=some (.slice a.OA NL a.oc):=fun p=>by have h:=Held.get hSx p;exact (by have e:=h.1.rc.cell (j:=7) rfl;rw [HNL.out];exact e)
   have HS:Hid (∀ W',(RCy W' ry a { slNew v cf L with mv:=(slNew v cf L).mv } u)/\Rec W' hp 111 [.pointer (some ⟨q,0,none⟩),.pointer (some ⟨r,0,none⟩),.int .i64 cf.fr,.int .i64 cf.tp,.int .i64 tob,.int .i64 cf.lm,.int .i64 cf.bk,.int .i64 cf.st,.int .i64 cf.ah,.slice A nn c,.int .i64 (pg:Nat)]->Sx W'):=⟨fun W' h=>by rw [hSx];exact h⟩
   have hS0:=HS.out _ (⟨HR9.out _ (HG4.out.trans HG.out.drew),HB9.out _ (HG4.out.trans HG.out.drew)⟩)
   have inst:Inhabited (Held Sx):=⟨⟨_,hS0⟩⟩
   clear hSx
   refine wp_region_mixS Sx 26 [([0,1,2,4,5,6,7,8,9],3),([],10),([11,12,13,14,16,17,18,19,20],15)] [21,22,23,24,25] (by kernel_rfl) (by kernel_rfl) hS0 ?_
   refine segs_step ?_
   try simp only [opsAt,List.getElem?_cons_zero,List.getElem?_cons_succ]
   repeat (go_big_quiet_step (fail))
   refine wpQuiet_nil ?_
   go_wp2_with ((go_at_call 61;refine (HT9.out _ (HG4.out.trans HG.out.drew)).mono ?_;rintro e w6 ⟨rfl,hg6⟩;have HG6:=hid (HG.out.drew.trans hg6);clear hg6))
   refine ⟨.inr (Held.of (HS.out _ (⟨HR9.out _ (HG4.out.trans HG6.out),HB9.out _ (HG4.out.trans HG6.out)⟩))),?_⟩
   refine segs_step ?_
   try simp only [opsAt,List.getElem?_cons_zero,List.getElem?_cons_succ]
   repeat (go_big_quiet_step (fail))
   refine wpQuiet_nil ?_
   go_wp2_with ((go_at_call 155;refine (HW9.out _ (HG4.out.trans HG6.out)).mono ?_;rintro e w7 ⟨rfl,hg7⟩;have HG7:=hid (HG6.out.trans hg7);clear hg7))
   refine ⟨.inr (Held.of (HS.out _ (⟨HR9.out _ (HG4.out.trans HG7.out),HB9.out _ (HG4.out.trans HG7.out)⟩))),?_⟩
   refine segs_step ?_
   try simp only [opsAt,List.getElem?_cons_zero,List.getElem?_cons_succ]
   repeat (go_big_quiet_step (fail))
   refine wpQuiet_nil ?_
   go_wp2_with ((go_at_call 156;refine (HO9.out _ (HG4.out.trans HG7.out)).mono ?_;rintro e w8 ⟨rfl,rfl⟩))
   refine ⟨.inr (Held.of (HS.out _ (⟨HR9.out _ (HG4.out.trans HG7.out),HB9.out _ (HG4.out.trans HG7.out)⟩))),?_⟩
   refine segs_end ?_
   try simp only [opsAt,List.getElem?_cons_zero,List.getElem?_cons_succ]
   repeat (go_big_quiet_step (fail))
   refine wpQuiet_nil ?_
   refine NoPanic.normal ?_
   clear y4 y7 hS0 inst
   clear HS Sx
   go_wp2
   go_ret3
   exact ⟨y,ry,z,a,R,cutS S' w2,v',rfl,HP3.out.gr (HG4.out.trans HG7.out)⟩
end
end Go.Proofs.YthgdadohijgleaaGreatDoor
end
section
namespace Go.Proofs.YthgdadohijgleaaGreatDoor
open Go.RowKit Go.Shelf Word
section
variable {w W W':World} {hp q r:Nat} {vL:Value} {y ry:Nat} {z:SlAd} {a:RcAd} {R S:Nat->Prop} {s s':Sl} {ml:List Bool} {v v' u:Vm}
theorem P24.mlen (h:P24 w W hp q r vL y ry z a R S s ml v u):s.mv.length<=1048576:=by
 have hst:=h.ok.st
 have hn:=hst.n2
 rw [hst.len]
 have:=nbl_le (n:=sizes s.L) hst.bk.1
 have:=hst.N_le
 omega
end
section
variable {w W W':World} {hp q r:Nat} {vL:Value} {y ry:Nat} {z:SlAd} {a:RcAd} {R:Nat->Prop} {u:Vm} {cf:Cf} {L:List Ob}
end
end Go.Proofs.YthgdadohijgleaaGreatDoor
end
section
namespace Go.Proofs.YthgdadohijgleaaGreatDoor
open Go.RowKit Word
def Mono (l l':List Bool):Prop:=l'.length=l.length/\∀ i,at_ l i=true->at_ l' i=true
theorem Mono.refl (l:List Bool):Mono l l:=⟨rfl,fun _ h=>h⟩
theorem Mono.trans {a b c:List Bool} (h:Mono a b) (k:Mono b c):Mono a c:=⟨k.1.trans h.1,fun i hi=>k.2 i (h.2 i hi)⟩
theorem Mono.set (l:List Bool) (k:Nat):Mono l (l.set k true):=by
 refine ⟨List.length_set ..,fun i hi=>?_⟩
 rcases Nat.lt_or_ge k l.length with h | h
 ·rw [at_set2 h]
  split
  ·rfl
  ·exact hi
 ·rw [List.set_eq_of_length_le h];exact hi
theorem Mono.step (l:List Bool):Mono l (stepL l):=by
 unfold stepL
 split
 ·exact Mono.set _ _
 ·exact Mono.refl _
theorem Mono.run (A k n:Nat) (l:List Bool):Mono l (runL A k n l):=by
 induction n generalizing l with
 | zero=>exact Mono.refl _
 | succ n ih=>
  unfold runL
  split
  ·exact (Mono.step l).trans (ih _)
  ·exact Mono.refl _
theorem Mono.touch (A k:Nat) (l:List Bool):Mono l (touchL A k l):=by
 unfold touchL
 split
 ·exact Mono.refl _
 ·exact (Mono.run A k k l).trans (Mono.set _ _)
theorem Sl.tch_mono (s:Sl) (b:Int):Mono s.mv (s.tch b).mv:=by
 show Mono s.mv (if inF s.L s.cf.to b then touchL s.cf.ah ((b-s.cf.to).toNat/s.cf.bk) s.mv else s.mv)
 split
 ·exact Mono.touch _ _ _
 ·exact Mono.refl _
end Go.Proofs.YthgdadohijgleaaGreatDoor
end
section
namespace Go.Proofs.YthgdadohijgleaaGreatDoor
open Go.RowKit Go.Shelf Word
theorem touchL_at {A k:Nat} {l:List Bool} (hk:k<l.length):at_ (touchL A k l) k=true:=by
 unfold touchL
 split
 ·assumption
 ·rw [at_set2 (by rw [runL_len];exact hk),if_pos rfl]
theorem Sl.tch_in {s:Sl} {i:Nat} (hi:i<sizes s.L):(s.tch ((s.cf.to+i:Nat):Int)).mv=touchL s.cf.ah (i/s.cf.bk) s.mv:=by
 show (if inF s.L s.cf.to ((s.cf.to+i:Nat):Int) then touchL s.cf.ah ((((s.cf.to+i:Nat):Int)-s.cf.to).toNat/s.cf.bk) s.mv else s.mv)=_
 rw [if_pos (inF_iff.2 (by omega)),show (((s.cf.to+i:Nat):Int)-(s.cf.to:Int)).toNat=i by omega]
theorem Sl.tch_is {s:Sl} (hst:SlSt s) {i:Nat} (hi:i<sizes s.L):(s.tch ((s.cf.to+i:Nat):Int)).is i=true:=by
 show at_ (s.tch ((s.cf.to+i:Nat):Int)).mv (i/s.cf.bk)=true
 rw [Sl.tch_in hi]
 exact touchL_at (hst.blk hi)
theorem Sl.tch_keep {s:Sl} (b:Int) {i:Nat} (h:s.is i=true):(s.tch b).is i=true:=(s.tch_mono b).2 _ h
theorem Sl.lf_all {s:Sl} (hst:SlSt s) (h:∀ i,i<sizes s.L->s.is i=true):s.lf=0:=by
 refine s.lf_zero.2 fun hf=>?_
 have hb:=hst.bk.1
 have h1:=hf
 rw [hst.len,nbl_lt hb] at h1
 have h2:=h _ h1
 have h3:=s.ft_off hf
 have h4:at_ s.mv (s.ft*s.cf.bk/s.cf.bk)=true:=h2
 rw [Nat.mul_div_cancel _ (by omega),h3] at h4
 cases h4
theorem zero_u64 (w:World):(zeroValue 49).run Tryz.prog w=.ok (.int .u64 0) w:=by kernel_rfl
section
variable {w W W':World} {hp q r:Nat} {vL:Value} {y ry:Nat} {z:SlAd} {a:RcAd} {R S:Nat->Prop} {s s':Sl} {ml:List Bool} {v v' u:Vm}
theorem P24.thr {bw:Nat} (h:P24 w W hp q r vL y ry z a R S s ml v u) (t:Touch (fun b=>b=bw) W W') (hw:w.heap.size<=bw) (h1:bw≠hp) (h2:¬ R bw) (h3:¬ S bw) (h4:bw≠ry) (h5:bw≠a.bm) (h6:∀ o,a.OA=some o->s.L.length≠0->bw≠o.block) (h7:∀ o,(Value.slice a.A s.n a.cp).ownBlock=some o->bw≠o):P24 w W' hp q r vL y ry z a R S s ml v u:=by
 have hz:=t.size
 refine ⟨((h.g.touch (fun _=>False)).trans' t (fun b hb hh=>by omega)).gr,h.tb,h.hb.touch t (fun e=>h1 e.symm),h.cy.touch t (fun b hb e=>h2 (e ▸ hb)),h.vm.touch t (fun b hb _ e=>h3 (e ▸ hb)),h.ok,h.fr,
  h.rc.touch t (fun e=>h4 e.symm) (fun o ho hl e=>h6 o ho hl e.symm) (fun o ho e=>h7 o ho e.symm) (fun e=>h5 e.symm),h.dj,fun b hb=>?_,h.bm⟩
 obtain ⟨a1,a2,a3⟩:=h.lo b hb
 exact ⟨a1,by omega,a3⟩
theorem P24.stepR (h:P24 w W hp q r vL y ry z a R S s ml v u):Calls Tryz.prog 63 #[.pointer (some ⟨y,0,none⟩)] W fun e W'=>(∃ b:Bool,e=.returned (.tuple #[.bool b,.int .i64 0]))/\Touch (fun b=>R b\/S b) W W'/\∃ S' v',P24 w W' hp q r vL y ry z a R S' s.step ml v' u/\∀ b,S' b->S b\/W.heap.size<=b:=by
 refine (sl_step slA_j h.cy h.ok h.fr h.tab h.tS h.tR h.vm h.dj).mono ?_
 rintro e W' ⟨v',rfl,ha⟩
 exact ⟨⟨_,rfl⟩,ha.t,_,v',h.aft ha.t ha.cy ha.vm ha.ok ha.j rfl rfl rfl rfl,fun b hb=>hb.1⟩
theorem P24.loadR (h:P24 w W hp q r vL y ry z a R S s ml v u) {i:Nat} (hi:i<sizes s.L):Calls Tryz.prog 68 #[.pointer (some ⟨y,0,none⟩),.int .i64 ((s.cf.to+i:Nat):Int)] W fun e W'=>e=.returned (.tuple #[.int .u64 (s.c i:Nat),.int .i64 0])/\Touch (fun b=>R b\/S b) W W'/\∃ S' v',P24 w W' hp q r vL y ry z a R S' (s.tch ((s.cf.to+i:Nat):Int)) ml v' u/\∀ b,S' b->S b\/W.heap.size<=b:=by
 have hst:=h.ok.st
 have hb:((s.cf.to+i:Nat):Int)<=9223372036854775807:=by have:=(hst.dsts hi).2;have:=hst.n2;omega
 refine (sl_load slA_j h.cy h.ok h.fr h.tab h.tS h.tR h.vm h.dj _ hb).mono ?_
 rintro e W' ⟨v',rfl,ha⟩
 obtain ⟨d1,d2⟩:=ha.ok.mid.dst i hi (Sl.tch_is hst hi)
 have d1:v'.ldE ((s.cf.to+i:Nat):Int)=0:=d1
 have d2:v'.ldV ((s.cf.to+i:Nat):Int)=s.c i:=d2
 exact ⟨by rw [d1,d2],ha.t,_,v',h.aft ha.t ha.cy ha.vm ha.ok ha.j rfl rfl rfl rfl,fun b hb=>hb.1⟩
theorem P24.storeR (h:P24 w W hp q r vL y ry z a R S s ml v u) {i:Nat} (hi:i<sizes s.L) {x:Nat} (hx:x<18446744073709551616):Calls Tryz.prog 64 #[.pointer (some ⟨y,0,none⟩),.int .i64 ((s.cf.to+i:Nat):Int),.int .u64 x] W fun e W'=>e=.returned (.int .i64 0)/\Touch (fun b=>R b\/S b) W W'/\∃ S' v',P24 w W' hp q r vL y ry z a R S' { s.tch ((s.cf.to+i:Nat):Int) with c:=fun j=>if j=i then x else s.c j } ml v' u/\∀ b,S' b->S b\/W.heap.size<=b:=by
 have hst:=h.ok.st
 have hb:((s.cf.to+i:Nat):Int)<=9223372036854775807:=by have:=(hst.dsts hi).2;have:=hst.n2;omega
 refine (sl_store slA_j h.cy h.ok h.fr h.tab h.tS h.tR h.vm h.dj _ hb hx).mono ?_
 rintro e W' ⟨v',rfl,ht,hcy,hvm,hok,hA⟩
 have hmv:=Sl.tch_is hst hi
 obtain ⟨d1,-⟩:=hok.mid.dst i hi hmv
 have d1:v'.ldE ((s.cf.to+i:Nat):Int)=0:=d1
 have hok2:=hok.store hi hmv hx
 refine ⟨by rw [d1],ht,_,_,h.aft ht (hcy.same rfl rfl rfl rfl rfl) hvm hok2 (hA.store _ x _) rfl rfl rfl rfl,fun b hb=>hb.1⟩
theorem P24.peekR (h:P24 w W hp q r vL y ry z a R S s ml v u) {i:Nat} (hi:i<sizes s.L):Gets Tryz.prog 67 #[.pointer (some ⟨y,0,none⟩),.int .i64 ((s.cf.to+i:Nat):Int)] W (.tuple #[.int .u64 (s.c i:Nat),.int .i64 0]):=by
 have hst:=h.ok.st
 have hb:((s.cf.to+i:Nat):Int)<=9223372036854775807:=by have:=(hst.dsts hi).2;have:=hst.n2;omega
 have:=sl_peek h.cy h.ok h.tab h.vm _ hb
 have hin:inF s.L s.cf.to ((s.cf.to+i:Nat):Int)=true:=inF_iff.2 (by omega)
 unfold Sl.pkV Sl.pkE at this
 rw [hin,if_pos rfl,if_pos rfl,show (((s.cf.to+i:Nat):Int)-(s.cf.to:Int)).toNat=i by omega] at this
 exact this
end
structure Apart (w W:World) (hp ry:Nat) (a:RcAd) (L:List Ob) (n:Nat) (bw:Nat):Prop where
 hw:w.heap.size<=bw
 h1:bw≠hp
 h4:bw≠ry
 h5:bw≠a.bm
 h6:∀ o,a.OA=some o->L.length≠0->bw≠o.block
 h7:∀ o,(Value.slice a.A n a.cp).ownBlock=some o->bw≠o
 hl:bw<W.heap.size
def PR24 (w W:World) (hp q r:Nat) (vL:Value) (y ry:Nat) (z:SlAd) (a:RcAd) (R:Nat->Prop) (u:Vm) (ml:List Bool) (cf:Cf) (L:List Ob) (n bw K T:Nat):Prop:=
 ∃ (S:Nat->Prop) (s:Sl) (v:Vm) (k:Nat) (f:Int->Option Value),P24 w W hp q r vL y ry z a R S s ml v u/\s.cf=cf/\s.L=L/\s.n=n/\¬ R bw/\¬ S bw/\MapI Tryz.prog 3 W bw k f/\k<=K/\(∀ i,i<sizes s.L->f ((s.cf.to+i:Nat):Int)=some (.int .u64 (s.c i:Nat)))/\(∀ i,i<T->s.is i=true)/\(∀ i,s.c i<18446744073709551616\/¬ i<sizes s.L)
section
variable {w W W':World} {hp q r:Nat} {vL:Value} {y ry:Nat} {z:SlAd} {a:RcAd} {R:Nat->Prop} {u:Vm} {ml:List Bool} {cf:Cf} {L:List Ob} {n bw K T:Nat}
theorem PR24.gr (h:PR24 w W hp q r vL y ry z a R u ml cf L n bw K T) (g:Gr W W'):PR24 w W' hp q r vL y ry z a R u ml cf L n bw K T:=by
 obtain ⟨S,s,v,k,f,h1,h2,h3,h4,h5,h6,h7,h8⟩:=h
 exact ⟨S,s,v,k,f,h1.gr g,h2,h3,h4,h5,h6,h7.gr g,h8⟩
theorem PR24.step (h:PR24 w W hp q r vL y ry z a R u ml cf L n bw K 0):Calls Tryz.prog 63 #[.pointer (some ⟨y,0,none⟩)] W fun e W'=>(∃ b:Bool,e=.returned (.tuple #[.bool b,.int .i64 0]))/\PR24 w W' hp q r vL y ry z a R u ml cf L n bw K 0:=by
 obtain ⟨S,s,v,k,f,h1,h2,h3,h4,h5,h6,h7,h8,h9,h10,h11⟩:=h
 refine h1.stepR.mono ?_
 rintro e W' ⟨he,ht,S',v',hP,hS⟩
 have hl:=h7.lt
 exact ⟨he,S',s.step,v',k,f,hP,h2,h3,h4,h5,fun hh=>by rcases hS _ hh with hh | hh;exact h6 hh;omega,h7.touch ht (fun hh=>hh.elim h5 h6),h8,h9,fun i hi=>absurd hi (Nat.not_lt_zero _),h11⟩
theorem PR24.load (h:PR24 w W hp q r vL y ry z a R u ml cf L n bw K T) {i:Nat} (hi:i<sizes L):∃ x,x<18446744073709551616/\Calls Tryz.prog 68 #[.pointer (some ⟨y,0,none⟩),.int .i64 ((cf.to+i:Nat):Int)] W fun e W'=>e=.returned (.tuple #[.int .u64 (x:Nat),.int .i64 0])/\PR24 w W' hp q r vL y ry z a R u ml cf L n bw K (if T=i then T+1 else T)/\∀ W2,Gr W' W2->(Instr.lookup 104 (.map (some bw)) (.int .i64 ((cf.to+i:Nat):Int)) false).run Tryz.prog W2=.ok (.int .u64 (x:Nat)) W2:=by
 obtain ⟨S,s,v,k,f,h1,rfl,rfl,rfl,h5,h6,h7,h8,h9,h10,h11⟩:=h
 have hst:=h1.ok.st
 refine ⟨s.c i,(h11 i).resolve_right (fun hh=>hh hi),(h1.loadR hi).mono ?_⟩
 rintro e W' ⟨he,ht,S',v',hP,hS⟩
 have hl:=h7.lt
 have hm:=h7.touch ht (fun hh=>hh.elim h5 h6)
 refine ⟨he,⟨S',_,v',k,f,hP,rfl,rfl,rfl,h5,fun hh=>by rcases hS _ hh with hh | hh;exact h6 hh;omega,hm,h8,h9,fun j hj=>?_,h11⟩,fun W2 g=>?_⟩
 ·split at hj
  ·rename_i hT
   rcases Nat.lt_or_ge j T with h | h
   ·exact Sl.tch_keep _ (h10 j h)
   ·obtain rfl:j=i:=by omega
    exact Sl.tch_is hst hi
  ·exact Sl.tch_keep _ (h10 j hj)
 ·have hb:=(hst.dsts hi).2
  have hn2:=hst.n2
  rw [(hm.gr g).look keyed_int Tryz.underlying104 Tryz.underlying3 (zero_u64 W2) (WalkArith.wf_i64 (by omega)),h9 i hi]
  rfl
theorem PR24.peek (h:PR24 w W hp q r vL y ry z a R u ml cf L n bw K T) {i:Nat} (hi:i<sizes L):∃ x lf us:Nat,x<18446744073709551616/\lf<=1048576/\us<=1048576/\∀ W',Gr W W'->Gets Tryz.prog 67 #[.pointer (some ⟨y,0,none⟩),.int .i64 ((cf.to+i:Nat):Int)] W' (.tuple #[.int .u64 (x:Nat),.int .i64 0])/\(Instr.lookup 104 (.map (some bw)) (.int .i64 ((cf.to+i:Nat):Int)) false).run Tryz.prog W'=.ok (.int .u64 (x:Nat)) W' ∧
  (Calls Tryz.prog 65 #[.pointer (some ⟨y,0,none⟩)] W' fun e w'=>e=.returned (.int .i64 lf)/\W'=w')/\Calls Tryz.prog 66 #[.pointer (some ⟨q,0,none⟩)] W' fun e w'=>e=.returned (.int .i64 us)/\W'=w':=by
 obtain ⟨S,s,v,k,f,h1,rfl,rfl,rfl,h5,h6,h7,h8,h9,h10,h11⟩:=h
 have hst:=h1.ok.st
 have hml:=h1.mlen
 have hus:v.pl.used<=1048576:=by
  have h4:=h1.ok.mid.ok.us
  have h5:nz v.pt<=v.pt.length:=cnt_le _ _
  have h6:=h1.ok.mid.ok.np
  have h7:=h1.ok.mid.ok.n2
  have h8:=h1.ok.mid.ok.page
  have h9:v.pt.length<=v.pt.length*v.pl.pg:=Nat.le_mul_of_pos_right _ (by omega)
  omega
 refine ⟨s.c i,s.lf,v.pl.used,(h11 i).resolve_right (fun hh=>hh hi),by unfold Sl.lf;omega,hus,fun W' g=>⟨(h1.gr g).peekR hi,?_,sl_left (h1.gr g).cy,vm_used (h1.gr g).vm⟩⟩
 have hb:=(hst.dsts hi).2
 have hn2:=hst.n2
 rw [(h7.gr g).look keyed_int Tryz.underlying104 Tryz.underlying3 (zero_u64 W') (WalkArith.wf_i64 (by omega)),h9 i hi]
 rfl
theorem PR24.store (h:PR24 w W hp q r vL y ry z a R u ml cf L n bw K 0) (hA:Apart w W hp ry a L n bw) {i:Nat} (hi:i<sizes L) {x:Nat} (hx:x<18446744073709551616) (hK:K+1<maxLen):Calls Tryz.prog 64 #[.pointer (some ⟨y,0,none⟩),.int .i64 ((cf.to+i:Nat):Int),.int .u64 x] W fun e W'=>e=.returned (.int .i64 0)/\W.heap.size<=W'.heap.size ∧
  ∃ k f,MapI Tryz.prog 3 W' bw k f/\k<maxLen/\∀ W2,MapI Tryz.prog 3 W2 bw (k+1) (fun y=>if y=((cf.to+i:Nat):Int) then some (.int .u64 (x:Nat)) else f y)->Touch (fun j=>j=bw) W' W2->PR24 w W2 hp q r vL y ry z a R u ml cf L n bw (K+1) 0:=by
 obtain ⟨S,s,v,k,f,h1,rfl,rfl,rfl,h5,h6,h7,h8,h9,h10,h11⟩:=h
 have hst:=h1.ok.st
 refine (h1.storeR hi hx).mono ?_
 rintro e W' ⟨he,ht,S',v',hP,hS⟩
 have hl:=h7.lt
 have hm:=h7.touch ht (fun hh=>hh.elim h5 h6)
 have h6':¬ S' bw:=fun hh=>by rcases hS _ hh with hh | hh;exact h6 hh;omega
 refine ⟨he,ht.size,k,f,hm,by omega,fun W2 hm2 t2=>⟨S',_,v',k+1,_,hP.thr t2 hA.hw hA.h1 h5 h6' hA.h4 hA.h5 hA.h6 hA.h7,rfl,rfl,rfl,h5,h6',hm2,by omega,fun j hj=>?_,fun j hj=>absurd hj (Nat.not_lt_zero _),fun j=>?_⟩⟩
 ·have hj:j<sizes s.L:=hj
  show (if ((s.cf.to+j:Nat):Int)=((s.cf.to+i:Nat):Int) then some (Value.int .u64 (x:Nat)) else f ((s.cf.to+j:Nat):Int))=some (.int .u64 ((if j=i then x else s.c j:Nat):Int))
  by_cases e:j=i
  ·subst e;rw [if_pos rfl,if_pos rfl]
  ·rw [if_neg (by omega),if_neg e];exact h9 j hj
 ·show (if j=i then x else s.c j)<_\/_
  split
  ·exact .inl hx
  ·exact h11 j
end
end Go.Proofs.YthgdadohijgleaaGreatDoor
end
section
namespace Go.Proofs.YthgdadohijgleaaGreatDoor
open Go.RowKit Go.Shelf Word
def PB24 (w W:World) (hp q r:Nat) (vL:Value) (y ry:Nat) (z:SlAd) (a:RcAd) (R S:Nat->Prop) (s:Sl) (v u:Vm) (bw N:Nat):Prop:=
 P24 w W hp q r vL y ry z a R S s s.mv v u/\¬ R bw/\¬ S bw/\Apart w W hp ry a s.L s.n bw/\∃ k f,MapI Tryz.prog 3 W bw k f/\k<=N/\∀ i,i<N->f ((s.cf.to+i:Nat):Int)=some (.int .u64 (s.c i:Nat))
section
variable {w W W':World} {hp q r:Nat} {vL:Value} {y ry:Nat} {z:SlAd} {a:RcAd} {R S:Nat->Prop} {s:Sl} {v u:Vm} {bw N:Nat}
theorem PB24.zero (h:P24 w W hp q r vL y ry z a R S s s.mv v u):PB24 w (W.alloc (.map #[] 0)) hp q r vL y ry z a R S s v u W.heap.size 0:=by
 have hg:Gr W (W.alloc (.map #[] 0)):=(Gr.refl W).alloc _
 have hhp:=h.hb.lt
 have hry:=h.rc.rc.lt
 have hbm:a.bm<W.heap.size:=(own_lt h.rc.mv rfl).2
 have hz:=h.g.size
 refine ⟨h.gr hg,fun hh=>?_,fun hh=>?_,⟨hz,by omega,by omega,by omega,fun o ho hl e=>?_,fun o ho e=>?_,by rw [World.size_alloc];omega⟩,0,_,MapI.made W,Nat.le_refl _,fun i hi=>absurd hi (Nat.not_lt_zero _)⟩
 ·have:=(h.lo _ (.inl hh)).2.1;omega
 ·have:=(h.lo _ (.inr hh)).2.1;omega
 ·have:o.block<W.heap.size:=h.rc.oa ho hl
  omega
 ·have:=(own_lt h.rc.wd ho).2
  omega
theorem PB24.gr (h:PB24 w W hp q r vL y ry z a R S s v u bw N) (g:Gr W W'):PB24 w W' hp q r vL y ry z a R S s v u bw N:=by
 obtain ⟨h1,h2,h3,h4,k,f,h5,h6⟩:=h
 exact ⟨h1.gr g,h2,h3,⟨h4.hw,h4.h1,h4.h4,h4.h5,h4.h6,h4.h7,Nat.lt_of_lt_of_le h4.hl g.size⟩,k,f,h5.gr g,h6⟩
theorem PB24.word (h:PB24 w W hp q r vL y ry z a R S s v u bw N) (hG:G24 s u) (hc:∀ i,i<sizes s.L->s.c i=s.cv i (u.ldV (srcO s.L i:Nat))) {i:Nat} (hi:i<sizes s.L):
  Gets Tryz.prog 62 #[.pointer (some ⟨ry,0,none⟩),.int .i64 ((s.cf.to+i:Nat):Int)] W (.tuple #[.int .u64 (s.c i:Nat),.bool true]):=by
 have:=rc_word h.1.rc h.1.ok.st hG.fu hi hG.hd (hG.pt i hi)
 rw [hc i hi]
 exact this
theorem PB24.put (h:PB24 w W hp q r vL y ry z a R S s v u bw N) (hi:N<sizes s.L):∃ k f,MapI Tryz.prog 3 W bw k f/\k<maxLen/\∀ W1 W2,Gr W W1->MapI Tryz.prog 3 W2 bw (k+1) (fun y=>if y=((s.cf.to+N:Nat):Int) then some (.int .u64 (s.c N:Nat)) else f y)->Touch (fun j=>j=bw) W1 W2->PB24 w W2 hp q r vL y ry z a R S s v u bw (N+1):=by
 obtain ⟨h1,h2,h3,h4,k,f,h5,h6,h7⟩:=h
 have hst:=h1.ok.st
 have hsN:=hst.N_le
 have hn2:=hst.n2
 refine ⟨k,f,h5,by unfold maxLen;omega,fun W1 W2 g hm t=>⟨(h1.gr g).thr t h4.hw h4.h1 h2 h3 h4.h4 h4.h5 h4.h6 h4.h7,h2,h3,⟨h4.hw,h4.h1,h4.h4,h4.h5,h4.h6,h4.h7,hm.lt⟩,k+1,_,hm,by omega,fun j hj=>?_⟩⟩
 show (if ((s.cf.to+j:Nat):Int)=((s.cf.to+N:Nat):Int) then some (Value.int .u64 (s.c N:Nat)) else f ((s.cf.to+j:Nat):Int))=some (.int .u64 (s.c j:Nat))
 by_cases e:j=N
 ·subst e;rw [if_pos rfl]
 ·rw [if_neg (by omega)];exact h7 j (by omega)
theorem PB24.all (h:PB24 w W hp q r vL y ry z a R S s v u bw (sizes s.L)) (hG:G24 s u) (hc:∀ i,i<sizes s.L->s.c i=s.cv i (u.ldV (srcO s.L i:Nat))):PR24 w W hp q r vL y ry z a R u s.mv s.cf s.L s.n bw (sizes s.L) 0:=by
 obtain ⟨h1,h2,h3,h4,k,f,h5,h6,h7⟩:=h
 refine ⟨S,s,v,k,f,h1,rfl,rfl,rfl,h2,h3,h5,h6,h7,fun i hi=>absurd hi (Nat.not_lt_zero _),fun i=>?_⟩
 by_cases hi:i<sizes s.L
 ·exact .inl (by rw [hc i hi];exact h1.ok.st.cv_lt _ (hG.fu.ok.ldV_lt _))
 ·exact .inr hi
end
section
variable {w W W':World} {hp q r:Nat} {vL:Value} {y ry:Nat} {z:SlAd} {a:RcAd} {R:Nat->Prop} {u:Vm} {ml:List Bool} {cf:Cf} {L:List Ob} {n bw K T:Nat}
theorem Apart.at (hA:Apart w W hp ry a L n bw) (h:PR24 w W' hp q r vL y ry z a R u ml cf L n bw K T):Apart w W' hp ry a L n bw:=by
 obtain ⟨S,s,v,k,f,h1,h2,h3,h4,h5,h6,h7,h8⟩:=h
 exact ⟨hA.hw,hA.h1,hA.h4,hA.h5,hA.h6,hA.h7,h7.lt⟩
theorem PR24.g (h:PR24 w W hp q r vL y ry z a R u ml cf L n bw K T):Gr w W:=by
 obtain ⟨S,s,v,k,f,h1,-⟩:=h
 exact h1.g
theorem PR24.hp4 (h:PR24 w W hp q r vL y ry z a R u ml cf L n bw K T):W.cell? ⟨hp,0,none⟩=some (.pointer (some ⟨q,0,none⟩))/\W.cell? ⟨hp,4,none⟩=some (.int .i64 (cf.to:Nat)):=by
 obtain ⟨S,s,v,k,f,h1,rfl,h2⟩:=h
 exact ⟨h1.hb.cell (j:=0) rfl,h1.hb.cell (j:=4) rfl⟩
theorem PR24.top (h:PR24 w W hp q r vL y ry z a R u ml cf L n bw K T):Gets Tryz.prog 61 #[.pointer (some ⟨y,0,none⟩)] W (.int .i64 ((cf.to:Int)+(sizes L:Nat))):=by
 obtain ⟨S,s,v,k,f,h1,rfl,rfl,h2⟩:=h
 exact sl_top h1.cy
theorem PR24.done (h:PR24 w W hp q r vL y ry z a R u ml cf L n bw K (sizes L)):Calls Tryz.prog 69 #[.pointer (some ⟨y,0,none⟩)] W fun e w'=>e=.returned (.bool true)/\W=w':=by
 obtain ⟨S,s,v,k,f,h1,rfl,rfl,rfl,h5,h6,h7,h8,h9,h10,h11⟩:=h
 have:=sl_done h1.cy
 rw [Sl.lf_all h1.ok.st h10] at this
 exact this
end
theorem nbl_zero {n bk:Nat} (hb:1<=bk):nbl n bk=0↔n=0:=by
 have h:=nbl_lt (j:=0) (n:=n) hb
 rw [Nat.zero_mul] at h
 omega
end Go.Proofs.YthgdadohijgleaaGreatDoor
end
section
namespace Go.Proofs.YthgdadohijgleaaGreatDoor
open Go.RowKit Go.Shelf Word
structure C24 (w W:World) (hp q r g:Nat) (vL:Value) (rs:List Int) (y:Nat) (z:SlAd) (R S:Nat->Prop) (s:Sl) (v:Vm):Prop where
 gg:Gr w W
 tb:TabAt w
 hb:Rec W hp 111 (heapS s q r vL)
 rt:RtAt W r g rs
 cy:Cyc W R y q z s
 vm:VmAt W S q v
 ok:SlOk s v
 fr:SlA s v
 dj:∀ b,R b->¬ S b
 lo:∀ b,R b\/S b->w.heap.size<=b/\b<W.heap.size/\b≠hp/\b≠r/\b≠g
section
variable {w W W':World} {hp q r g:Nat} {vL:Value} {rs:List Int} {y:Nat} {z:SlAd} {R S:Nat->Prop} {s s':Sl} {v v':Vm}
theorem C24.gr (h:C24 w W hp q r g vL rs y z R S s v) (g':Gr W W'):C24 w W' hp q r g vL rs y z R S s v:=by
 have hz:=g'.size
 refine ⟨h.gg.trans g',h.tb,h.hb.gr g',h.rt.gr g',h.cy.gr g',h.vm.gr g',h.ok,h.fr,h.dj,fun b hb=>?_⟩
 obtain ⟨a1,a2,a3⟩:=h.lo b hb
 exact ⟨a1,by omega,a3⟩
theorem C24.step (h:C24 w W hp q r g vL rs y z R S s v):Calls Tryz.prog 63 #[.pointer (some ⟨y,0,none⟩)] W fun e W'=>e=.returned (.tuple #[.bool (decide (s.ft<s.mv.length)),.int .i64 0])/\∃ S' v',C24 w W' hp q r g vL rs y z R S' s.step v':=by
 have hlow:∀ b,R b\/S b->w.heap.size<=b:=fun b hb=>(h.lo b hb).1
 have htl:=h.tb.lt
 refine (sl_step slA_j h.cy h.ok h.fr (h.gg.tab h.tb.lt h.tb) (fun h'=>by have:=hlow _ (.inr h');omega) (fun h'=>by have:=hlow _ (.inl h');omega) h.vm h.dj).mono ?_
 rintro e W' ⟨v',rfl,ha⟩
 have hz:=ha.t.size
 have hhp:=h.hb.lt
 have hrl:=h.rt.lt
 refine ⟨rfl,cutS (plus S W) W',v',((h.gg.touch (fun _=>False)).trans' ha.t (fun b hb hh=>by have:=hlow b hh;omega)).gr,h.tb,h.hb.touch ha.t (fun hh=>(h.lo _ hh).2.2.1 rfl),h.rt.touch ha.t (fun hh=>(h.lo _ hh).2.2.2.1 rfl) (fun hh=>(h.lo _ hh).2.2.2.2 rfl),ha.cy,ha.vm.cut,ha.ok,ha.j,fun b hb hS=>?_,fun b hb=>?_⟩
 ·have h1:=h.cy.od.lt b hb
  rcases hS.1 with h2 | h2
  ·exact h.dj b hb h2
  ·omega
 ·have hgs:=h.gg.size
  rcases hb with hb | ⟨hb | hb,hl⟩
  ·obtain ⟨a1,a2,a3⟩:=h.lo b (.inl hb)
   exact ⟨a1,by omega,a3⟩
  ·obtain ⟨a1,a2,a3⟩:=h.lo b (.inr hb)
   exact ⟨a1,by omega,a3⟩
  ·exact ⟨by omega,hl,by omega,by omega,by omega⟩
end
def x24:LaidC:=⟨2,[⟨0,0,3⟩,⟨0,0,3⟩,⟨0,0,3⟩],[],[1],1,0,0⟩
theorem x24_k:x24.k=3/\x24.page=4/\x24.at 1=8/\x24.top=16/\x24.rs=[8]/\x24.n=1028/\x24.cf=⟨4,16,516,1028,2,1,0⟩:=by
 have h:x24.k=3/\x24.page=4/\x24.at 1=8/\x24.top=16/\x24.rs=[8]/\x24.n=1028:=by decide +kernel
 refine ⟨h.1,h.2.1,h.2.2.1,h.2.2.2.1,h.2.2.2.2.1,h.2.2.2.2.2,?_⟩
 unfold LaidC.cf
 rw [h.2.1,h.2.2.2.1];rfl
theorem live24 {v0:Vm} {rm:Nat} (h:Run24 x24 rm v0):Marks (layC x24 v0) x24.rs x24.n [(8,4)]:=by
 obtain ⟨e1,e2,e3,e5,e6,e7,-⟩:=x24_k
 have hL:=laid_in h.ok h.map
 obtain ⟨p,f,c,e,h1,h2,h3⟩:=hL.ob h.map (j:=1) (by rw [e1];decide)
 rw [e3] at h1 h2 h3
 have e:(⟨0,0,3⟩:Hdr)=⟨p,f,c⟩:=e
 simp only [Hdr.mk.injEq] at e
 have hp:p=0/\f=0/\c=3:=by omega
 obtain ⟨rfl,rfl,rfl⟩:=hp
 rw [e6,e7]
 have hr:Rch (layC x24 v0) [8] 8:=Rch.root (List.mem_singleton.2 rfl) (by decide)
 refine Marks.of ⟨⟨by simp,fun o ho=>?_⟩,fun o ho=>?_⟩ (fun r hr _=>?_) (fun o ho=>?_)
 ·rw [List.mem_singleton.1 ho];simp
 ·rw [List.mem_singleton.1 ho];exact ⟨hr,h1,h3.symm⟩
 ·rw [List.mem_singleton.1 hr];exact ⟨(8,4),List.mem_singleton.2 rfl,rfl⟩
 ·rw [List.mem_singleton.1 ho]
  intro i hi
  have hi:(i:Int)<((layC x24 v0).rdH ((8:Nat):Int)).p:=hi
  rw [h2] at hi
  have hi:(i:Int)<0:=hi
  omega
theorem heapS_L (x:LaidC) (v:Vm) (L:List Ob) (q r:Nat) (vL:Value) (h:v.pl.pg=x.page):heapS (slNew v x.cf L) q r vL=heapL x q r vL:=by
 unfold heapS heapL
 rw [show (slNew v x.cf L).pg=x.page from h]
 rfl
theorem live24_open {w W W':World} {v0:Vm} {hp q r g:Nat} {A:Option Addr} {c:Nat} {SV:Nat->Prop} (hT:TabAt w) (hg:Gr w W) (hr:Run24 x24 (x24.room+0) v0) (hV:VmAt W SV q (layC x24 v0)) (hR:RtAt W r g x24.rs) (hH:Rec W hp 111 (heapL x24 q r (.slice A x24.n c)))
  (hsv:∀ i,SV i->w.heap.size<=i/\i<W.heap.size) (h1:¬ SV hp) (h2:¬ SV r) (h3:¬ SV g) (hl:w.heap.size<=hp/\w.heap.size<=r/\w.heap.size<=g) (hgW:Gr W W'):
  Calls Tryz.prog 151 #[.pointer (some ⟨q,0,none⟩),.pointer (some ⟨r,0,none⟩),cfV x24.cf] W' fun e w2=>Touch (fun b=>b=g\/SV b) W' w2/\∃ y z R S s v,e=.returned (.tuple #[.pointer (some ⟨y,0,none⟩),.int .i64 0])/\C24 w w2 hp q r g (.slice A x24.n c) [516] y z R S s v/\s.L=[(8,4)]/\s.pg=4/\s.cf=⟨4,16,516,1028,2,1,0⟩/\s.mv=[false,false]/\v.pt.length*4=1028:=by
 obtain ⟨L,u,hO⟩:=open24 hr
 have hs:=hr.stays (Stays.layC hr.ok x24)
 obtain ⟨e1,e2,e3,e5,e6,e7,e8⟩:=x24_k
 have hgh:hp≠g:=fun e=>(own_ne hR.row hH (by decide) rfl rfl) e.symm
 have hrg:=hR.dif
 have hrh:hp≠r:=own_ne hH hR.rcd (by decide) rfl rfl
 have hLe:L=[(8,4)]:=by
  have h1:=hO.inn.1
  rw [hO.n] at h1
  exact h1.unique (live24 hr)
 subst hLe
 have hrm:(x24.cf.tp-x24.cf.fr+x24.page-1)/x24.page+(x24.cf.ah+1)*max 1 (x24.cf.bk/x24.page)+1<=(layC x24 v0).pl.rm:=by
  rw [hs.rm];exact Nat.le_refl x24.room
 have h8:x24.rs.map (toV [(8,4)] x24.cf.to)=[516]:=by rw [e6,e8];decide +kernel
 have hH':Rec W hp 111 (heapS (slNew (layC x24 v0) x24.cf [(8,4)]) q r (.slice A x24.n c)):=by rw [heapS_L x24 _ _ q r _ hO.pg];exact hH
 obtain ⟨v,hv⟩:∃ v,v=layC x24 v0:=⟨_,rfl⟩
 rw [<-hv] at hO hV hrm hH'
 have htl:=hT.lt
 have hgs:=hg.size
 have hzW:=hgW.size
 have hrl:=hR.lt
 have hhl:=hH.lt
 refine (sl_open (c:=x24.cf) (hV.gr hgW) (hR.gr hgW) ((hg.trans hgW).tab htl hT) (fun h=>by have:=(hsv _ h).1;omega) h2 h3 hO.cf (by omega)).mono (fun e w2 h=>?_)
 obtain ⟨ht,y,z,R,S',v',j,rfl,hcy,hvm,hS,hRR,hU,hq,hrt⟩:=open_yes hO.inn hO.fit h
 have hz2:=ht.size
 have hgl:∀ b,(b=g\/SV b)->w.heap.size<=b:=fun b hb=>by
  rcases hb with rfl | hb
  ·exact hl.2.2
  ·exact (hsv _ hb).1
 refine ⟨ht,y,z,R,cutS S' w2,slNew v x24.cf [(8,4)],v',rfl,⟨?_,hT,?_,?_,hcy,hvm.cut,slNew_ok hO.ok hO.cf hO.inn hO.fit hO.full hU,slNew_A (slNew_pages hO.ok hO.cf hO.inn hO.fit hO.full hU hq hO.map) ?_,fun b hb h=>(hRR b hb).2 h.1,fun b hb=>?_⟩,rfl,?_,e8,?_,?_⟩
 ·exact (((hg.trans hgW).touch (fun _=>False)).trans' ht (fun b hb h=>by have:=hgl b h;omega)).gr
 ·exact (hH'.gr hgW).touch ht (fun h=>h.elim hgh h1)
 ·rw [h8] at hrt
  exact hrt
 ·rw [hU.rm,hO.pg]
  exact hrm
 ·have key:(SV b\/W.heap.size<=b)/\b<w2.heap.size:=by
   rcases hb with hb | hb
   ·have h1:=(hRR b hb).1
    exact ⟨.inr (by omega),hcy.od.lt b hb⟩
   ·refine ⟨?_,hb.2⟩
    rcases hS b hb.1 with h1 | h1
    ·exact .inl h1
    ·exact .inr (by omega)
  obtain ⟨k1,k2⟩:=key
  rcases k1 with hk | hk
  ·exact ⟨(hsv _ hk).1,k2,(fun e=>by subst e;exact h1 hk),(fun e=>by subst e;exact h2 hk),(fun e=>by subst e;exact h3 hk)⟩
  ·exact ⟨by omega,k2,by omega,by omega,by omega⟩
 ·exact hO.pg.trans e2
 ·show List.replicate (nbl (sizes [(8,4)]) x24.cf.bk) false=_
  rw [e8];rfl
 ·have:=hU.ok.np
  rw [hU.n,hU.pg,hO.n,hO.pg,e2,e7] at this
  exact this.symm
theorem page24 {s:Sl} {v:Vm} (ho:SlOk s v) (hA:SlA s v) (hL:s.L=[(8,4)]) (hp:s.pg=4) (hc:s.cf=⟨4,16,516,1028,2,1,0⟩) (hn:v.pt.length*4=1028) {p:Nat} (hpl:p<257) {b:Bool}
  (hb:(decide (0<p)&&((decide (p*4<516)&&(List.range 4).any fun i=>(srcO [(8,4)] i/4==p)&&!at_ s.mv (i/2))||(List.range 4).any fun i=>((516+i)/4==p)&&at_ s.mv (i/2)))=b):(frE v.pt (p:Int)==0)=b:=by
 have h1:=SlA.page hA ho (p:=p) (by omega)
 rcases h1 with h | h
 ·rw [h,<-hb]
  unfold Sl.owesB Sl.hasB Sl.is
  rw [hL,hp,hc]
  rfl
 ·rw [hc] at h
  exact absurd (by decide) h
set_option maxRecDepth 100000 in
set_option maxHeartbeats 6400000 in
theorem lives24 {w:World} (hT:TabAt w):Gets Tryz.prog 58 #[] w (.bool true):=by
 have HT:=hid hT
 clear hT
 unfold Gets
 go_enter Tryz.func58,Tryz.ntmps58
 have g1:Gr w ((w.alloc (.cells #[.int .i64 0,.int .i64 0,.int .i64 3,.int .i64 0,.int .i64 0,.int .i64 3,.int .i64 0,.int .i64 0,.int .i64 3] 48)).alloc (.cells #[.int .u8 1] 5)):=((Gr.refl w).alloc _).alloc _
 have r1:=(Rec.new w 48 [.int .i64 0,.int .i64 0,.int .i64 3,.int .i64 0,.int .i64 0,.int .i64 3,.int .i64 0,.int .i64 0,.int .i64 3]).gr ((Gr.refl _).alloc (.cells #[.int .u8 1] 5))
 have r2:=new2 w (.cells #[.int .i64 0,.int .i64 0,.int .i64 3,.int .i64 0,.int .i64 0,.int .i64 3,.int .i64 0,.int .i64 0,.int .i64 3] 48) 5 [.int .u8 1]
 have HL:=hid (lay24_walk (w:=((w.alloc (.cells #[.int .i64 0,.int .i64 0,.int .i64 3,.int .i64 0,.int .i64 0,.int .i64 3,.int .i64 0,.int .i64 0,.int .i64 3] 48)).alloc (.cells #[.int .u8 1] 5))) (x:=x24) (A1:=some ⟨w.heap.size,0,none⟩) (A2:=none) (A3:=some ⟨w.heap.size+1,0,none⟩) (c1:=3) (c2:=0) (c3:=1) (more:=0)
  ⟨fun i hi=>by
    have hi:i<3:=hi
    refine ⟨w.heap.size,0,rfl,r1.lt,?_⟩
    rcases (by omega:i=0\/i=1\/i=2) with rfl | rfl | rfl
    ·exact ⟨r1.cell (j:=0) rfl,r1.cell (j:=1) rfl,r1.cell (j:=2) rfl⟩
    ·exact ⟨r1.cell (j:=3) rfl,r1.cell (j:=4) rfl,r1.cell (j:=5) rfl⟩
    ·exact ⟨r1.cell (j:=6) rfl,r1.cell (j:=7) rfl,r1.cell (j:=8) rfl⟩,fun i hi=>absurd hi (Nat.not_lt_zero _),fun i hi=>by
    have hi:i<1:=hi
    refine ⟨w.heap.size+1,0,rfl,r2.lt,?_⟩
    obtain rfl:i=0:=by omega
    exact ⟨show (1:Nat)<256 by decide,r2.cell (j:=0) rfl⟩,by decide,by decide,by decide,by decide,by decide,by decide,by decide⟩ (by decide))
 have HG1:=hid g1
 clear g1 r1 r2
 unfold laidV at HL
 go_upto_region 4 with (go_at_call 56;refine HL.out.mono ?_;rintro e w1 ⟨hp,q,r,g,A,c,v0,SV,rfl,hg1,hrn,hz0,hvm,hrt,hrec,hwr,hsv,hs1,hs2,hs3,hs4,hs5⟩;have HG:=hid (HG1.out.trans hg1);have HV:=hid hvm;have HRN:=hid hrn;have HRT:=hid hrt;have HRC:=hid hrec;have HSV:=hid (And.intro hsv (And.intro hs1 (And.intro hs2 (And.intro hs3 hs4))));clear hg1 hrn hz0 hvm hrt hrec hwr hsv hs1 hs2 hs3 hs4 hs5)
 have hzz:=HG1.out.size
 have HCR:=hid (fun (W':World) (g':Gr w1 W')=>live24_open HT.out HG.out HRN.out HV.out HRT.out HRC.out (fun i hi=>by have:=HSV.out.1 i hi;omega) HSV.out.2.1 HSV.out.2.2.1 HSV.out.2.2.2.1 (by have:=HSV.out.2.2.2.2;omega) g')
 have HRK:Hid (∀ W W',Gr w1 W->Touch (fun b=>b=g\/SV b) W W'->Rec W' hp 111 (heapL x24 q r (.slice A x24.n c))):=⟨fun W W' hW t=>(HRC.out.gr hW).touch t (fun h=>by
  rcases h with h | h
  ·exact own_ne HRT.out.row HRC.out (by decide) rfl rfl h.symm
  ·exact HSV.out.2.1 h)⟩
 unfold heapL at HRC HRK
 unfold cfV at HCR
 obtain ⟨cf,hcf⟩:∃ cf,cf=x24.cf:=⟨_,rfl⟩
 obtain ⟨pg,hpg⟩:∃ pg,pg=x24.page:=⟨_,rfl⟩
 obtain ⟨nn,hnn⟩:∃ nn,nn=x24.n:=⟨_,rfl⟩
 rw [<-hcf,<-hpg,<-hnn] at HRC HRK
 rw [<-hcf,<-hnn] at HCR
 clear hcf hpg hnn
 obtain ⟨Sx,hSx⟩:∃ Sx:World->Prop,Sx=fun W'=>Rec W' hp 111 [.pointer (some ⟨q,0,none⟩),.pointer (some ⟨r,0,none⟩),.int .i64 cf.fr,.int .i64 cf.tp,.int .i64 cf.to,.int .i64 cf.lm,.int .i64 cf.bk,.int .i64 cf.st,.int .i64 cf.ah,.slice A nn c,.int .i64 (pg:Nat)]:=⟨_,rfl⟩
 have y0:∀ p:Held Sx,p.w.cell? ⟨hp,0,none⟩=some (.pointer (some ⟨q,0,none⟩)):=fun p=>by have h:=Held.get hSx p;exact h.cell (j:=0) rfl
 have y1:∀ p:Held Sx,p.w.cell? ⟨hp,1,none⟩=some (.pointer (some ⟨r,0,none⟩)):=fun p=>by have h:=Held.get hSx p;exact h.cell (j:=1) rfl
 have y2:∀ p:Held Sx,p.w.cell? ⟨hp,2,none⟩=some (.int .i64 cf.fr):=fun p=>by have h:=Held.get hSx p;exact h.cell (j:=2) rfl
 have y3:∀ p:Held Sx,p.w.cell? ⟨hp,3,none⟩=some (.int .i64 cf.tp):=fun p=>by have h:=Held.get hSx p;exact h.cell (j:=3) rfl
 have y4:∀ p:Held Sx,p.w.cell? ⟨hp,4,none⟩=some (.int .i64 cf.to):=fun p=>by have h:=Held.get hSx p;exact h.cell (j:=4) rfl
 have y5:∀ p:Held Sx,p.w.cell? ⟨hp,5,none⟩=some (.int .i64 cf.lm):=fun p=>by have h:=Held.get hSx p;exact h.cell (j:=5) rfl
 have y6:∀ p:Held Sx,p.w.cell? ⟨hp,6,none⟩=some (.int .i64 cf.bk):=fun p=>by have h:=Held.get hSx p;exact h.cell (j:=6) rfl
 have y7:∀ p:Held Sx,p.w.cell? ⟨hp,7,none⟩=some (.int .i64 cf.st):=fun p=>by have h:=Held.get hSx p;exact h.cell (j:=7) rfl
 have y8:∀ p:Held Sx,p.w.cell? ⟨hp,8,none⟩=some (.int .i64 cf.ah):=fun p=>by have h:=Held.get hSx p;exact h.cell (j:=8) rfl
 have HS:Hid (∀ W',Rec W' hp 111 [.pointer (some ⟨q,0,none⟩),.pointer (some ⟨r,0,none⟩),.int .i64 cf.fr,.int .i64 cf.tp,.int .i64 cf.to,.int .i64 cf.lm,.int .i64 cf.bk,.int .i64 cf.st,.int .i64 cf.ah,.slice A nn c,.int .i64 (pg:Nat)]->Sx W'):=⟨fun W' h=>by rw [hSx];exact h⟩
 have hS0:=HS.out _ (HRC.out.gr (Gr.refl w1).drew)
 have inst:Inhabited (Held Sx):=⟨⟨_,hS0⟩⟩
 clear hSx
 refine wp_region_mixS Sx 18 [([0,1,2,3,4,5,6,7,8,9,10,11],12)] [13,14,15,16,17] (by kernel_rfl) (by kernel_rfl) hS0 ?_
 refine segs_step ?_
 try simp only [opsAt,List.getElem?_cons_zero,List.getElem?_cons_succ]
 repeat (go_big_quiet_step (fail))
 refine wpQuiet_nil ?_
 go_wp2_with ((go_at_call 151;refine (HCR.out _ (Gr.refl w1).drew).mono ?_;rintro e w2 ⟨ht2,y,z,R,S,s,v,rfl,hc2,eL,ep,ec,em,en⟩;have HT2:=hid ht2;have HC2:=hid hc2;have HE:=hid (And.intro eL (And.intro ep (And.intro ec (And.intro em en))));clear ht2 hc2 eL ep ec em en))
 refine ⟨.inr (Held.of (HS.out _ (HRK.out _ _ (Gr.refl w1).drew HT2.out))),?_⟩
 refine segs_end ?_
 try simp only [opsAt,List.getElem?_cons_zero,List.getElem?_cons_succ]
 repeat (go_big_quiet_step (fail))
 refine wpQuiet_nil ?_
 refine NoPanic.normal ?_
 clear y0 y1 y2 y3 y4 y5 y6 y7 y8 hS0 inst
 clear HS Sx
 obtain ⟨eL,ep,ec,em,en⟩:=HE.out
 have HBK:Hid (∀ W',Gr w2 W'->Calls Tryz.prog 60 #[.pointer (some ⟨y,0,none⟩)] W' fun e w'=>e=.returned (.int .i64 2)/\W'=w'):=⟨fun W' g=>by
  have:=sl_blocks (HC2.out.gr g).cy
  rw [em] at this
  exact this⟩
 have HM1:Hid (∀ W',Gr w2 W'->Calls Tryz.prog 152 #[.pointer (some ⟨q,0,none⟩),.int .i64 1] W' fun e w'=>e=.returned (.bool false)/\Gr W' w'):=⟨fun W' g=>by
  have h1:=page24 HC2.out.ok HC2.out.fr eL ep ec en (p:=1) (by omega) (b:=false) (by rw [em];decide +kernel)
  have h2:=vm_mapped (HC2.out.gr g).vm (1:Int)
  rw [show ((1:Nat):Int)=1 from rfl] at h1
  rw [h1] at h2
  exact h2⟩
 have HM2:Hid (∀ W',Gr w2 W'->Calls Tryz.prog 152 #[.pointer (some ⟨q,0,none⟩),.int .i64 2] W' fun e w'=>e=.returned (.bool true)/\Gr W' w'):=⟨fun W' g=>by
  have h1:=page24 HC2.out.ok HC2.out.fr eL ep ec en (p:=2) (by omega) (b:=true) (by rw [em];decide +kernel)
  have h2:=vm_mapped (HC2.out.gr g).vm (2:Int)
  rw [show ((2:Nat):Int)=2 from rfl] at h1
  rw [h1] at h2
  exact h2⟩
 have HS1:Hid (∀ W',Gr w2 W'->Calls Tryz.prog 63 #[.pointer (some ⟨y,0,none⟩)] W' fun e w'=>e=.returned (.tuple #[.bool true,.int .i64 0])/\∃ S' v',C24 w w' hp q r g (.slice A nn c) [516] y z R S' s.step v'):=⟨fun W' g=>by
  have:=(HC2.out.gr g).step
  rw [show decide (s.ft<s.mv.length)=true by show decide (ftL s.mv<s.mv.length)=true;rw [em];decide +kernel] at this
  exact this⟩
 have em1:s.step.mv=[true,false]:=by show stepL s.mv=_;rw [em];decide +kernel
 have em2:s.step.step.mv=[true,true]:=by show stepL s.step.mv=_;rw [em1];decide +kernel
 have HS2:Hid (∀ W' S' v',C24 w W' hp q r g (.slice A nn c) [516] y z R S' s.step v'->Calls Tryz.prog 63 #[.pointer (some ⟨y,0,none⟩)] W' fun e w'=>e=.returned (.tuple #[.bool true,.int .i64 0])/\∃ S2 v2,C24 w w' hp q r g (.slice A nn c) [516] y z R S2 s.step.step v2):=⟨fun W' S' v' hc=>by
  have:=hc.step
  rw [show decide (s.step.ft<s.step.mv.length)=true by show decide (ftL s.step.mv<s.step.mv.length)=true;rw [em1];decide +kernel] at this
  exact this⟩
 have HEM:=hid em2
 have hb2:=(HC2.out.hb).cell (j:=0) rfl
 have hbl:=HC2.out.hb.lt
 have HC0:=hid (fun (W':World) (g:Gr w2 W')=>(HC2.out.gr g).hb.cell (j:=0) rfl)
 clear eL ep ec em en em1 em2
 go_upto_region 7 with (first
  | (go_at_call 60;refine (HBK.out _ (Gr.refl w2)).mono ?_;rintro e w3 ⟨rfl,rfl⟩)
  | (go_at_call 152;with_reducible refine (HM1.out _ (Gr.refl w2)).mono ?_;rintro e w3 ⟨rfl,hg3⟩;have HG3:=hid hg3;have hb2:=HC0.out _ hg3;have hbl:=lt_cell hb2;clear hg3)
  | (go_at_call 152;with_reducible refine (HM2.out _ HG3.out).mono ?_;rintro e w4 ⟨rfl,hg4⟩;have HG4:=hid (HG3.out.trans hg4);clear hg4))
 clear hb2 hbl
 go_upto_region 8 with (go_at_call 63;refine (HS1.out _ HG4.out).mono ?_;rintro e w5 ⟨rfl,S5,v5,hc5⟩;have HC5:=hid hc5;clear hc5)
 go_upto_region 9 with (go_at_call 63;refine (HS2.out _ _ _ HC5.out).mono ?_;rintro e w6 ⟨rfl,S6,v6,hc6⟩;have HC6:=hid hc6;clear hc6)
 obtain ⟨eL,ep,ec,em,en⟩:=HE.out
 have em2:=HEM.out
 have eto:s.cf.to=516:=by rw [ec]
 have hz1:=HC6.out.hb.cell (j:=1) rfl
 have hzl:=HC6.out.hb.lt
 have HGT:=hid (rt_get HC6.out.rt (i:=0) (by decide))
 have HDN:Hid (∀ W',Gr w6 W'->Calls Tryz.prog 69 #[.pointer (some ⟨y,0,none⟩)] W' fun e w'=>e=.returned (.bool true)/\W'=w'):=⟨fun W' g=>by
  have:=sl_done (HC6.out.gr g).cy
  rw [show decide (s.step.step.lf=0)=true by
   show decide (s.step.step.mv.length-mvdL s.step.step.mv=0)=true
   rw [em2];decide +kernel] at this
  exact this⟩
 have HM3:Hid (∀ W',Gr w6 W'->Calls Tryz.prog 152 #[.pointer (some ⟨q,0,none⟩),.int .i64 2] W' fun e w'=>e=.returned (.bool false)/\Gr W' w'):=⟨fun W' g=>by
  have hn6:v6.pt.length*4=1028:=by
   have h1:=HC6.out.ok.mid.ok.np
   have h2:=HC2.out.ok.mid.ok.np
   have h3:v6.n=s.n:=HC6.out.ok.mid.n
   have h4:v6.pl.pg=s.pg:=HC6.out.ok.mid.pg
   have h5:=HC2.out.ok.mid.n
   have h6:=HC2.out.ok.mid.pg
   rw [h3,h4,ep] at h1
   rw [h5,h6,ep] at h2
   omega
  have h1:=page24 HC6.out.ok HC6.out.fr eL ep ec hn6 (p:=2) (by omega) (b:=false) (by rw [em2];decide +kernel)
  have h2:=vm_mapped (HC6.out.gr g).vm (2:Int)
  rw [show ((2:Nat):Int)=2 from rfl] at h1
  rw [h1] at h2
  exact h2⟩
 have HC0':Hid (∀ W',Gr w6 W'->W'.cell? ⟨hp,0,none⟩=some (.pointer (some ⟨q,0,none⟩))/\W'.cell? ⟨hp,4,none⟩=some (.int .i64 516)):=⟨fun W' g=>by
  have hb:=(HC6.out.gr g).hb
  have h4:W'.cell? ⟨hp,4,none⟩=some (.int .i64 (s.cf.to:Nat)):=hb.cell (j:=4) rfl
  rw [eto] at h4
  exact ⟨hb.cell (j:=0) rfl,h4⟩⟩
 have HFG:=hid HC6.out.gg
 clear eL ep ec em en em2 eto
 go_wp2_with (first
  | (go_at_call 127;refine HGT.out.mono ?_;rintro e w7 ⟨rfl,hg7⟩;have HG7:=hid hg7;have k0:=(HC0'.out _ hg7).1;have k4:=(HC0'.out _ hg7).2;have kl:=lt_cell k0;clear hg7)
  | (go_at_call 69;refine (HDN.out _ HG7.out).mono ?_;rintro e w8 ⟨rfl,rfl⟩)
  | (go_at_call 152;refine (HM3.out _ HG7.out).mono ?_;rintro e w9 ⟨rfl,hg9⟩;have HG9:=hid hg9;clear hg9))
 go_ret
 exact ⟨rfl,(HFG.out.trans HG7.out).trans HG9.out⟩
end Go.Proofs.YthgdadohijgleaaGreatDoor
end
section
namespace Go.Proofs.YthgdadohijgleaaGreatDoor
open Go.RowKit Word
def farC (n1 n2 n3:Nat):Bool:=decide (80<n1\/300<n2\/64<n3)
set_option maxRecDepth 100000 in
set_option maxHeartbeats 800000 in
theorem far24 (v0 v4 v5 v6:Value) (A1 A2 A3:Option Addr) (n1 n2 n3 c1 c2 c3:Nat) (w:World):Calls Tryz.prog 57 #[.agg #[v0,.slice A1 n1 c1,.slice A2 n2 c2,.slice A3 n3 c3,v4,v5,v6]] w fun e w'=>e=.returned (.bool (farC n1 n2 n3))/\Gr w w':=by
 have R:=Rec.new w 94 [v0,.slice A1 n1 c1,.slice A2 n2 c2,.slice A3 n3 c3,v4,v5,v6]
 have y0:=R.cell (j:=0) rfl
 have y1:=R.cell (j:=1) rfl
 have y2:=R.cell (j:=2) rfl
 have y3:=R.cell (j:=3) rfl
 have yl:=R.lt
 have HG:=hid ((Gr.refl w).alloc (.cells #[v0,.slice A1 n1 c1,.slice A2 n2 c2,.slice A3 n3 c3,v4,v5,v6] 94))
 have HF:Hid (farC n1 n2 n3=decide (80<n1\/300<n2\/64<n3)):=⟨rfl⟩
 clear R
 by_cases h1:80<n1
 ·have d1:decide ((80:Int)<(n1:Int))=true:=decide_eq_true (by omega)
  have e1:decide (80<n1)=true:=decide_eq_true h1
  have HE:Hid (farC n1 n2 n3=true):=⟨by rw [HF.out];exact decide_eq_true (.inl h1)⟩
  rw [HE.out]
  go_enter Tryz.func57,Tryz.ntmps57
  go_wp2
  go_ret
  exact ⟨rfl,HG.out⟩
 ·have d1:decide ((80:Int)<(n1:Int))=false:=decide_eq_false (by omega)
  have e1:decide (80<n1)=false:=decide_eq_false h1
  by_cases h2:300<n2
  ·have d2:decide ((300:Int)<(n2:Int))=true:=decide_eq_true (by omega)
   have e2:decide (300<n2)=true:=decide_eq_true h2
   have HE:Hid (farC n1 n2 n3=true):=⟨by rw [HF.out];exact decide_eq_true (.inr (.inl h2))⟩
   rw [HE.out]
   go_enter Tryz.func57,Tryz.ntmps57
   go_wp2
   go_ret
   exact ⟨rfl,HG.out⟩
  ·have d2:decide ((300:Int)<(n2:Int))=false:=decide_eq_false (by omega)
   have e2:decide (300<n2)=false:=decide_eq_false h2
   by_cases h3:64<n3
   ·have d3:decide ((64:Int)<(n3:Int))=true:=decide_eq_true (by omega)
    have e3:decide (64<n3)=true:=decide_eq_true h3
    have HE:Hid (farC n1 n2 n3=true):=⟨by rw [HF.out];exact decide_eq_true (.inr (.inr h3))⟩
    rw [HE.out]
    go_enter Tryz.func57,Tryz.ntmps57
    go_wp2
    go_ret
    exact ⟨rfl,HG.out⟩
   ·have d3:decide ((64:Int)<(n3:Int))=false:=decide_eq_false (by omega)
    have e3:decide (64<n3)=false:=decide_eq_false h3
    have HE:Hid (farC n1 n2 n3=false):=⟨by rw [HF.out];exact decide_eq_false (by omega)⟩
    rw [HE.out]
    go_enter Tryz.func57,Tryz.ntmps57
    go_wp2
    go_ret
    exact ⟨rfl,HG.out⟩
end Go.Proofs.YthgdadohijgleaaGreatDoor
end
section
namespace Go.Proofs.YthgdadohijgleaaGreatDoor
open Go.RowKit Word
section
variable {w:World}
set_option maxRecDepth 100000 in
set_option maxHeartbeats 12800000 in
theorem reads24_walk (hT:TabAt w) {A1 A2 A3 Aa:Option Addr} {c1 c2 c3 ca:Nat} {x:LaidC} (hL:LaidCAt w A1 A2 A3 x) {l:List Nat} (hB:U16At w Aa l) (hlm:l.length<=maxLen) {m:Nat} (_hbm:m<18446744073709551616):
  Gets Tryz.prog 13 #[.agg (laidV x A1 A2 A3 c1 c2 c3).toArray,.slice Aa l.length ca,.int .u64 (m:Nat)] w (.bool true):=by
 have HT:=hid hT
 have HGB:=hid ((Gr.refl w).alloc (.cells (laidV x A1 A2 A3 c1 c2 c3).toArray 94))
 have hrb:=Rec.new w 94 (laidV x A1 A2 A3 c1 c2 c3)
 obtain ⟨W1,hW1⟩:∃ W1,W1=w.alloc (.cells (laidV x A1 A2 A3 c1 c2 c3).toArray 94):=⟨_,rfl⟩
 rw [<-hW1] at hrb HGB
 have HLY:=hid (lay24_walk (c1:=c1) (c2:=c2) (c3:=c3) (hL.gr HGB.out) (more:=0) (by omega))
 have HFAR:=hid (fun W=>far24 (.int .u8 x.pg) (.int .u8 x.bk) (.int .u8 x.st) (.int .u8 x.ah) A1 A2 A3 x.H.length x.P.length x.R.length c1 c2 c3 W)
 have HUB:=hid (fun (W:World) (g:Gr w W)=>hB.gr g)
 unfold laidV at hW1 hrb HLY ⊢
 have HRB:=hid hrb
 have z0:=hrb.cell (j:=0) rfl
 have z1:=hrb.cell (j:=1) rfl
 have z2:=hrb.cell (j:=2) rfl
 have z3:=hrb.cell (j:=3) rfl
 have z4:=hrb.cell (j:=4) rfl
 have z5:=hrb.cell (j:=5) rfl
 have z6:=hrb.cell (j:=6) rfl
 have zl:=hrb.lt
 obtain ⟨fb,hfb⟩:∃ b,b=farC x.H.length x.P.length x.R.length:=⟨_,rfl⟩
 rw [<-hfb] at HFAR
 clear hT hL hrb hfb hB
 obtain ⟨N1,hN1⟩:∃ N,N=x.H.length:=⟨_,rfl⟩
 obtain ⟨N2,hN2⟩:∃ N,N=x.P.length:=⟨_,rfl⟩
 obtain ⟨N3,hN3⟩:∃ N,N=x.R.length:=⟨_,rfl⟩
 obtain ⟨NA,hNA⟩:∃ N,N=l.length:=⟨_,rfl⟩
 have HNA:=hid hNA
 rw [<-hN1,<-hN2,<-hN3] at HLY HFAR HRB
 rw [<-hN1,<-hN2,<-hN3,<-hNA]
 rw [<-hNA] at hlm
 rw [<-hN1] at z1 hW1
 rw [<-hN2] at z2 hW1
 rw [<-hN3] at z3 hW1
 have HWL:=hid hW1
 have hNAb:NA<=9223372036854775807:=by unfold maxLen at hlm;omega
 clear hN1 hN2 hN3 hNA hlm
 unfold Gets
 go_enter Tryz.func13,Tryz.ntmps13
 go_upto_region 1 with (fail)
 rw [show w.alloc (.cells #[.int .u8 x.pg,.slice A1 N1 c1,.slice A2 N2 c2,.slice A3 N3 c3,.int .u8 x.bk,.int .u8 x.st,.int .u8 x.ah] 94)=W1 from hW1.symm]
 clear hW1 HWL
 go_upto_region 2 with (go_at_call 56;refine HLY.out.mono ?_;rintro e w1 ⟨hp,q,r,g,A,c,v0,SV,rfl,hg1,hrn,hz0,hvm,hrt,hrec,hwr,hsv,hs1,hs2,hs3,hs4,hs5⟩;have HG:=hid (HGB.out.trans hg1);have HV:=hid hvm;have HRN:=hid hrn;have HRT:=hid hrt;have HRC:=hid hrec;have HWR:=hid hwr;have HSV:=hid (And.intro hsv (And.intro hs1 (And.intro hs2 (And.intro hs3 (And.intro hs4 hs5)))));have HB1:=hid (HRB.out.gr hg1);clear hg1 hrn hz0 hvm hrt hrec hwr hsv hs1 hs2 hs3 hs4 hs5)
 clear z0 z1 z2 z3 z4 z5 z6 zl
 have z0:=HB1.out.cell (j:=0) rfl
 have z1:=HB1.out.cell (j:=1) rfl
 have z2:=HB1.out.cell (j:=2) rfl
 have z3:=HB1.out.cell (j:=3) rfl
 have z4:=HB1.out.cell (j:=4) rfl
 have z5:=HB1.out.cell (j:=5) rfl
 have z6:=HB1.out.cell (j:=6) rfl
 have zl:=HB1.out.lt
 have HGX:=hid (Gr.refl w1)
 have dbig:fb=true\/fb=false:=by cases fb <;> simp
 cases fb with
 | true=>
  clear dbig
  go_wp2_with (first
   | (go_at_call 57;refine (HFAR.out _).mono ?_;rintro e w2 ⟨rfl,hg2⟩;have HG:=hid (HG.out.trans hg2);have HB1:=hid (HB1.out.gr hg2);have z0:=HB1.out.cell (j:=0) rfl;have z1:=HB1.out.cell (j:=1) rfl;have z2:=HB1.out.cell (j:=2) rfl;have z3:=HB1.out.cell (j:=3) rfl;have z4:=HB1.out.cell (j:=4) rfl;have z5:=HB1.out.cell (j:=5) rfl;have z6:=HB1.out.cell (j:=6) rfl;have zl:=HB1.out.lt;clear hg2)
   | (go_at_call 58;refine (lives24 (HG.out.tab HT.out.lt HT.out)).mono ?_;rintro e w4 ⟨rfl,hg4⟩;have HG:=hid (HG.out.trans hg4);clear hg4))
  go_ret
  exact ⟨rfl,HG.out⟩
 | false=>
  clear dbig
  by_cases hbig:100<NA
  ·have hbI:(100:Int)<(NA:Int):=by omega
   clear hbig
   go_wp2_with (first
    | (go_at_call 57;refine (HFAR.out _).mono ?_;rintro e w2 ⟨rfl,hg2⟩;have HG:=hid (HG.out.trans hg2);have HB1:=hid (HB1.out.gr hg2);have z0:=HB1.out.cell (j:=0) rfl;have z1:=HB1.out.cell (j:=1) rfl;have z2:=HB1.out.cell (j:=2) rfl;have z3:=HB1.out.cell (j:=3) rfl;have z4:=HB1.out.cell (j:=4) rfl;have z5:=HB1.out.cell (j:=5) rfl;have z6:=HB1.out.cell (j:=6) rfl;have zl:=HB1.out.lt;clear hg2)
    | (go_at_call 58;refine (lives24 (HG.out.tab HT.out.lt HT.out)).mono ?_;rintro e w4 ⟨rfl,hg4⟩;have HG:=hid (HG.out.trans hg4);clear hg4))
   go_ret
   exact ⟨rfl,HG.out⟩
  ·have hbI:¬ (100:Int)<(NA:Int):=by omega
   clear hbig
   go_upto_region 4 with (go_at_call 57;refine (HFAR.out _).mono ?_;rintro e w2 ⟨rfl,hg2⟩;have HG:=hid (HG.out.trans hg2);have HG12:=hid hg2;clear hg2)
   clear z0 z1 z2 z3 z4 z5 z6 zl
   have hO24:=open24 HRN.out
   obtain ⟨L,u,hO⟩:=hO24
   have HO:=hid hO
   have HOPN:Hid (Calls Tryz.prog 59 #[.pointer (some ⟨hp,0,none⟩)] w2 (OpenedEnd w hp q r (.slice A x.n c) x (layC x v0) L u)):=⟨by
    obtain ⟨k1,k2,k3,k4,k5,k6⟩:=HSV.out
    have hwz:=HGB.out.size
    have hz12:=HG12.out.size
    refine opened24 HT.out HG.out HRN.out HO.out (HV.out.gr HG12.out) (HRT.out.gr HG12.out) (HRC.out.gr HG12.out) (HWR.out.gr HG12.out) (fun i hi=>?_) k2 k3 k4 (by omega) (fun b hb=>?_)
    ·have:=k1 i hi;omega
    ·have h6:=k6 b hb
     refine ⟨by omega,h6.2,?_⟩
     exact words_ne24 HWR.out HRT.out hb⟩
   clear hO
   go_upto_region 5 with (go_at_call 59;refine HOPN.out.mono ?_;rintro e w3 ⟨y,ry,z,a,R,S,v,rfl,hP3⟩;have HP3:=hid hP3;clear hP3)
   obtain ⟨s0,hs0⟩:∃ s,s=slNew (layC x v0) x.cf L:=⟨_,rfl⟩
   have HO2:Hid (G24 s0 u/\∀ i,i<sizes s0.L->s0.c i=s0.cv i (u.ldV (srcO s0.L i:Nat))):=⟨by rw [hs0];exact ⟨HO.out.g,HO.out.c⟩⟩
   rw [<-hs0] at HP3
   have HBL:=hid (sl_blocks HP3.out.cy)
   have hst:=HP3.out.ok.st
   have htz:s0.cf.to+sizes s0.L<=524288:=by have h1:=hst.fit;have h2:=hst.cf.ln;have h3:=hst.n2;omega
   have hNz:s0.mv.length=0↔sizes s0.L=0:=by rw [hst.len];exact nbl_zero hst.bk.1
   have hNb:s0.mv.length<=1048576:=HP3.out.mlen
   have HG3:=hid HP3.out.g
   have hPB:=PB24.zero HP3.out
   obtain ⟨tob,htob⟩:∃ t,t=s0.cf.to:=⟨_,rfl⟩
   obtain ⟨Z,hZ⟩:∃ Z,Z=sizes s0.L:=⟨_,rfl⟩
   obtain ⟨N,hN⟩:∃ N,N=s0.mv.length:=⟨_,rfl⟩
   have HTZ:=hid (And.intro htob hZ)
   rw [<-hN] at HBL hNz hNb
   rw [<-hZ] at hNz htz
   rw [<-htob] at htz
   have HPB0:=hid hPB
   clear hst hs0 htob hZ hN hPB HP3 HO HOPN
   by_cases hz:N=0
   ·subst hz
    clear hNz hNb HPB0
    go_wp2_with (first
     | (go_at_call 60;refine (HBL.out).mono ?_;rintro e w4 ⟨rfl,rfl⟩)
     | (go_at_call 58;refine (lives24 (HG3.out.tab HT.out.lt HT.out)).mono ?_;rintro e w5 ⟨rfl,hg5⟩;have HG5:=hid (HG3.out.trans hg5);clear hg5))
    go_ret
    exact ⟨rfl,HG5.out⟩
   ·have hNI:¬ (N:Int)=0:=by omega
    have dN:((N:Int)==0)=false:=by simpa using hz
    have hZ0:0<Z:=by omega
    have hmk:=@run_makeMap Tryz.prog
    clear hNz
    go_upto_region 8 with (go_at_call 60;refine (HBL.out).mono ?_;rintro e w4 ⟨rfl,rfl⟩)
    clear hNI dN hz hNb HBL hmk
    obtain ⟨bw,hbw⟩:∃ b,b=w3.heap.size:=⟨_,rfl⟩
    obtain ⟨w4,hw4⟩:∃ W,W=w3.alloc (.map #[] 0):=⟨_,rfl⟩
    rw [<-hbw,<-hw4] at HPB0
    rw [<-hbw,<-hw4]
    have HG4:Hid (Gr w w4):=⟨HPB0.out.1.g⟩
    have x4:w4.cell? ⟨hp,4,none⟩=some (.int .i64 (tob:Nat)):=by rw [HTZ.out.1];exact HPB0.out.1.hb.cell (j:=4) rfl
    have xl:=lt_cell x4
    clear hbw hw4
    go_wp2_with (fail)
    clear x4 xl
    go_loopw [12] (fun s12 wr=>∃ t B:Nat,t<=Z/\Hid (B=tob+t)/\Hid (PB24 w wr hp q r (.slice A x.n c) y ry z a R S s0 v u bw t)/\s12=.int .i64 B) (fun s12 _=>tob+Z-(intOf s12).toNat)
    case atStart=>exact ⟨0,tob,Nat.zero_le _,⟨rfl⟩,HPB0,rfl⟩
    case round=>
     obtain ⟨t,B,ht,HB,HPB,rfl⟩:=hrel
     have HTP:Hid (∀ W',Gr wr W'->Gets Tryz.prog 61 #[.pointer (some ⟨y,0,none⟩)] W' (.int .i64 ((tob:Int)+(Z:Int)))):=⟨fun W' g=>by
      have:=sl_top (HPB.out.gr g).1.cy
      rw [<-HTZ.out.1,<-HTZ.out.2] at this
      exact this⟩
     have hBb:B<=524288:=by have:=HB.out;omega
     by_cases hlt:t<Z
     ·have HLT:=hid hlt
      have hBI:(B:Int)<(tob:Int)+(Z:Int):=by have:=HB.out;omega
      have hti:t<sizes s0.L:=by rw [<-HTZ.out.2];exact hlt
      have hBe:((s0.cf.to+t:Nat):Int)=(B:Int):=by rw [HB.out,<-HTZ.out.1]
      have HWD:=hid (fun (W':World) (g:Gr wr W')=>(HPB.out.gr g).word HO2.out.1 HO2.out.2 hti)
      obtain ⟨k0,f0,hm0,hk0,hpt⟩:=HPB.out.put hti
      rw [hBe] at HWD hpt
      obtain ⟨xv,hxv⟩:∃ x,x=s0.c t:=⟨_,rfl⟩
      rw [<-hxv] at HWD hpt
      have HM0:=hid hm0
      have HK0:=hid hk0
      have HPT:=hid hpt
      have HWF:Hid ((Lit.int .i64 (B:Int)).wf=true):=⟨WalkArith.wf_i64 (by omega)⟩
      clear hti hBe hxv hm0 hk0 hpt hlt
      go_wp2_with (first
       | (go_at_call 61;refine (HTP.out _ (Gr.refl _)).mono ?_;rintro e w5 ⟨rfl,hg5⟩;have HG5:=hid hg5;clear hg5)
       | (go_at_call 62;refine (HWD.out _ HG5.out).mono ?_;rintro e w6 ⟨rfl,hg6⟩;have HG6:=hid (HG5.out.trans hg6);clear hg6)
       | (at_mapUpdate;refine wpList_mapI _ rfl _ _ _ 104 rfl 3 49 keyed_int Tryz.underlying104 Tryz.underlying3 bw k0 f0 rfl (HM0.out.gr HG6.out) HK0.out (B:Int) (.int .u64 (xv:Nat)) rfl rfl HWF.out ?_;intro w7 hm7 ht7;have HP7:=hid (HPT.out _ _ HG6.out hm7 ht7);clear hm7 ht7))
      go_roundw
      case rel=>exact ⟨t+1,B+1,HLT.out,⟨by have:=HB.out;omega⟩,HP7,by go_num⟩
      case measure=>have:=HB.out;have:=HLT.out;simp [intOf];omega
     ·obtain rfl:Z=t:=by omega
      have hBI:¬ (B:Int)<(tob:Int)+(Z:Int):=by have:=HB.out;omega
      clear hlt
      have HAP:=hid HPB.out.2.2.2.1
      have HPR:Hid (PR24 w wr hp q r (.slice A x.n c) y ry z a R u s0.mv s0.cf s0.L s0.n bw Z 0):=⟨by
       have h1:=HPB.out
       rw [HTZ.out.2] at h1 ⊢
       exact h1.all HO2.out.1 HO2.out.2⟩
      go_upto_region 12 with (go_at_call 61;refine (HTP.out _ (Gr.refl _)).mono ?_;rintro e w5 ⟨rfl,hg5⟩;have HG5:=hid hg5;clear hg5)
      have HPR5:=hid (HPR.out.gr HG5.out)
      clear hBI hBb HB
      go_wp2_with (fail)
      go_loopw [95] (fun s95 wr=>∃ k:Nat,k<=NA/\Hid (PR24 w wr hp q r (.slice A x.n c) y ry z a R u s0.mv s0.cf s0.L s0.n bw (Z+k) 0)/\s95=.int .i64 k) (fun s95 _=>NA-(intOf s95).toNat)
      case atStart=>exact ⟨0,Nat.zero_le _,HPR5,rfl⟩
      case round=>
       clear HPR HPR5 HPB HPB0 HTP HG5
       obtain ⟨k,hk,HPR,rfl⟩:=hrel
       have hGw:=HPR.out.g
       have HGw:=hid hGw
       by_cases hlt:k<NA
       ·have hkI:(k:Int)<(NA:Int):=by omega
        have hkl:k<l.length:=by rw [<-HNA.out];exact hlt
        obtain ⟨hb1,ba,oa,hAa,hbl,hcell⟩:=HUB.out _ hGw k hkl
        subst hAa
        obtain ⟨ac,hac⟩:∃ ac,ac=l[k]:=⟨_,rfl⟩
        rw [<-hac] at hb1 hcell
        have HLT:=hid hlt
        obtain ⟨d,hd⟩:∃ d,d=ac/4:=⟨_,rfl⟩
        obtain ⟨i,hi⟩:∃ i,i=d%Z:=⟨_,rfl⟩
        have hiZ:i<Z:=by rw [hi];exact Nat.mod_lt _ hZ0
        obtain ⟨B,hB⟩:∃ B,B=tob+i:=⟨_,rfl⟩
        have g1:((ac:Int).tdiv 4)=(d:Int):=by rw [hd];rfl
        have g2:((ac:Int)/4)=(d:Int):=by rw [hd];rfl
        have g3:((d:Int).tmod (Z:Int))=(i:Int):=by rw [hi];rfl
        have g4:((d:Int)%(Z:Int))=(i:Int):=by rw [hi];rfl
        have hdb:d<=65535:=by omega
        have hza:(tob:Int)+(Z:Int)-(tob:Int)=(Z:Int):=by omega
        have hzn:(Z:Int)≠0:=by omega
        have hBe:(tob:Int)+(i:Int)=(B:Int):=by omega
        have hBb:B<=524288:=by omega
        have his:i<sizes s0.L:=by rw [<-HTZ.out.2];exact hiZ
        have hBs:((s0.cf.to+i:Nat):Int)=(B:Int):=by rw [hB,<-HTZ.out.1]
        have HIS:=hid his
        have HBS:=hid hBs
        have HC4:Hid (∀ W',Gr wr W'->W'.cell? ⟨hp,4,none⟩=some (.int .i64 (tob:Nat))):=⟨fun W' g=>by rw [HTZ.out.1];exact (HPR.out.gr g).hp4.2⟩
        have HTP:Hid (∀ W',Gr wr W'->Gets Tryz.prog 61 #[.pointer (some ⟨y,0,none⟩)] W' (.int .i64 ((tob:Int)+(Z:Int)))):=⟨fun W' g=>by
         have:=(HPR.out.gr g).top
         rw [<-HTZ.out.1,<-HTZ.out.2] at this
         exact this⟩
        have hc4:ac%4=0\/ac%4=1\/ac%4=2\/ac%4=3:=by omega
        clear hd hi hB his hBs hac hlt hkl hGw
        go_upto_region 15 with (fail)
        clear hcell hbl
        obtain ⟨Sx,hSx⟩:∃ Sx:World->Prop,Sx=fun W'=>W'.cell? ⟨hp,4,none⟩=some (.int .i64 (tob:Nat)):=⟨_,rfl⟩
        have y4:∀ p:Held Sx,p.w.cell? ⟨hp,4,none⟩=some (.int .i64 (tob:Nat)):=fun p=>by have h:=Held.get hSx p;exact h
        have HS:Hid (∀ W',W'.cell? ⟨hp,4,none⟩=some (.int .i64 (tob:Nat))->Sx W'):=⟨fun W' h=>by rw [hSx];exact h⟩
        have hS0:=HS.out _ (HC4.out _ (Gr.refl wr).drew)
        have inst:Inhabited (Held Sx):=⟨⟨_,hS0⟩⟩
        clear hSx
        refine wp_region_mixS Sx 19 [([0,1,2,3,4,5,6,7,8,10,11,12,13,14],9)] [15,16,17,18] (by kernel_rfl) (by kernel_rfl) hS0 ?_
        refine segs_step ?_
        try simp only [opsAt,List.getElem?_cons_zero,List.getElem?_cons_succ]
        repeat (go_big_quiet_step (fail))
        refine wpQuiet_nil ?_
        go_wp2_with ((go_at_call 61;refine (HTP.out _ (Gr.refl wr).drew).mono ?_;rintro e w5 ⟨rfl,hg5⟩;have HG5:=hid ((Gr.refl wr).drew.trans hg5);clear hg5))
        refine ⟨.inr (Held.of (HS.out _ (HC4.out _ HG5.out))),?_⟩
        refine segs_end ?_
        try simp only [opsAt,List.getElem?_cons_zero,List.getElem?_cons_succ]
        repeat (go_big_quiet_step (fail))
        refine wpQuiet_nil ?_
        refine NoPanic.normal ?_
        clear y4 hS0 inst
        clear HS Sx
        have HP5:=hid (HPR.out.gr HG5.out)
        clear g1 g2 g3 g4 hza hzn hBe hdb
        rcases hc4 with hc | hc | hc | hc
        ·have e1:(ac:Int).tmod 4=0:=by rw [show (ac:Int).tmod 4=((ac%4:Nat):Int) from rfl,hc];rfl
         have e2:(ac:Int)%4=0:=by rw [show (ac:Int)%4=((ac%4:Nat):Int) from rfl,hc];rfl
         clear hc
         go_wp2_with (go_at_call 63;refine HP5.out.step.mono ?_;rintro e w6 ⟨⟨bb,rfl⟩,hp6⟩;have HP6:=hid hp6;clear hp6)
         go_roundw
         case rel=>exact ⟨k+1,HLT.out,⟨by obtain ⟨S',s,v',k',f,h1,h2,h3,h4,h5,h6,h7,h8,h9⟩:=HP6.out;exact ⟨S',s,v',k',f,h1,h2,h3,h4,h5,h6,h7,by omega,h9⟩⟩,by go_num⟩
         case measure=>have:=HLT.out;simp [intOf];omega
        ·have e1:(ac:Int).tmod 4=1:=by rw [show (ac:Int).tmod 4=((ac%4:Nat):Int) from rfl,hc];rfl
         have e2:(ac:Int)%4=1:=by rw [show (ac:Int)%4=((ac%4:Nat):Int) from rfl,hc];rfl
         obtain ⟨X,hX⟩:∃ X,X=(m+k)%18446744073709551616:=⟨_,rfl⟩
         have hXb:X<18446744073709551616:=by rw [hX];exact Nat.mod_lt _ (by decide)
         have hKb:Z+k+1<maxLen:=by unfold maxLen;omega
         have HSTO:=hid (HP5.out.store (HAP.out.at HP5.out) HIS.out hXb hKb)
         have hwx:(X:Int)=IntKind.u64.wrap ((m:Int)+(k:Int)):=by rw [IntKind.wrap_u64,hX];omega
         rw [HBS.out,hwx] at HSTO
         have HWF:Hid ((Lit.int .i64 (B:Int)).wf=true):=⟨WalkArith.wf_i64 (by omega)⟩
         clear hc hKb hX hXb hwx
         go_upto_region 25 with (go_at_call 64;refine HSTO.out.mono ?_;rintro e w6 ⟨rfl,hz6,k6,f6,hm6,hk6,hp6⟩;have HM6:=hid hm6;have HK6:=hid hk6;have HPT:=hid hp6;clear hz6 hm6 hk6 hp6)
         go_wp2_with (at_mapUpdate;refine wpList_mapI _ rfl _ _ _ 104 rfl 3 49 keyed_int Tryz.underlying104 Tryz.underlying3 bw k6 f6 rfl HM6.out HK6.out (B:Int) (.int .u64 (IntKind.u64.wrap ((m:Int)+(k:Int)))) rfl rfl HWF.out ?_;intro w7 hm7 ht7;have HP7:=hid (HPT.out _ hm7 ht7);clear hm7 ht7)
         go_roundw
         case rel=>exact ⟨k+1,HLT.out,HP7,by go_num⟩
         case measure=>have:=HLT.out;simp [intOf];omega
        ·have e1:(ac:Int).tmod 4=2:=by rw [show (ac:Int).tmod 4=((ac%4:Nat):Int) from rfl,hc];rfl
         have e2:(ac:Int)%4=2:=by rw [show (ac:Int)%4=((ac%4:Nat):Int) from rfl,hc];rfl
         obtain ⟨xv,lf,us,hxv,hlf,hus,hpk⟩:=HP5.out.peek HIS.out
         rw [HBS.out] at hpk
         have HPK:=hid hpk
         have HC0:=hid (fun (W':World) (g:Gr w5 W')=>(HP5.out.gr g).hp4.1)
         clear hc hpk
         go_upto_region 27 with (fail)
         obtain ⟨Sx,hSx⟩:∃ Sx:World->Prop,Sx=fun W'=>W'.cell? ⟨hp,0,none⟩=some (.pointer (some ⟨q,0,none⟩)):=⟨_,rfl⟩
         have y0:∀ p:Held Sx,p.w.cell? ⟨hp,0,none⟩=some (.pointer (some ⟨q,0,none⟩)):=fun p=>by have h:=Held.get hSx p;exact h
         have HS:Hid (∀ W',W'.cell? ⟨hp,0,none⟩=some (.pointer (some ⟨q,0,none⟩))->Sx W'):=⟨fun W' h=>by rw [hSx];exact h⟩
         have hS0:=HS.out _ (HC0.out _ (Gr.refl w5).drew)
         have inst:Inhabited (Held Sx):=⟨⟨_,hS0⟩⟩
         clear hSx
         refine wp_region_mixS Sx 9 [([0,2,3,4,5],1),([],6)] [7,8] (by kernel_rfl) (by kernel_rfl) hS0 ?_
         refine segs_step ?_
         try simp only [opsAt,List.getElem?_cons_zero,List.getElem?_cons_succ]
         repeat (go_big_quiet_step (fail))
         refine wpQuiet_nil ?_
         go_wp2_with ((go_at_call 65;refine ((HPK.out _ (Gr.refl w5).drew).2.2.1).mono ?_;rintro e w6 ⟨rfl,rfl⟩))
         refine ⟨.inr (Held.of (HS.out _ (HC0.out _ (Gr.refl w5).drew))),?_⟩
         refine segs_step ?_
         try simp only [opsAt,List.getElem?_cons_zero,List.getElem?_cons_succ]
         repeat (go_big_quiet_step (fail))
         refine wpQuiet_nil ?_
         go_wp2_with ((go_at_call 66;refine ((HPK.out _ (Gr.refl w5).drew).2.2.2).mono ?_;rintro e w6 ⟨rfl,rfl⟩))
         refine ⟨.inr (Held.of (HS.out _ (HC0.out _ (Gr.refl w5).drew))),?_⟩
         refine segs_end ?_
         try simp only [opsAt,List.getElem?_cons_zero,List.getElem?_cons_succ]
         repeat (go_big_quiet_step (fail))
         refine wpQuiet_nil ?_
         refine NoPanic.normal ?_
         clear y0 hS0 inst
         clear HS Sx
         go_upto_region 29 with (go_at_call 67;refine ((HPK.out _ (Gr.refl w5).drew).1).mono ?_;rintro e w8 ⟨rfl,hg8⟩;have HG8:=hid ((Gr.refl w5).drew.trans hg8);clear hg8)
         obtain ⟨-,hlk,hlft,husd⟩:=HPK.out _ HG8.out
         have c0:=HC0.out _ HG8.out
         have cl:=lt_cell c0
         have HLFT:=hid hlft
         have HUSD:=hid husd
         have HP8:=hid (HP5.out.gr HG8.out)
         clear hlft husd
         go_wp2_with (first
          | (go_at_call 65;refine (HLFT.out).mono ?_;rintro e w9 ⟨rfl,rfl⟩)
          | (go_at_call 66;refine (HUSD.out).mono ?_;rintro e w9 ⟨rfl,rfl⟩))
         go_roundw
         case rel=>exact ⟨k+1,HLT.out,⟨by obtain ⟨S',s,v',k',f,h1,h2,h3,h4,h5,h6,h7,h8,h9⟩:=HP8.out;exact ⟨S',s,v',k',f,h1,h2,h3,h4,h5,h6,h7,by omega,h9⟩⟩,by go_num⟩
         case measure=>have:=HLT.out;simp [intOf];omega
        ·have e1:(ac:Int).tmod 4=3:=by rw [show (ac:Int).tmod 4=((ac%4:Nat):Int) from rfl,hc];rfl
         have e2:(ac:Int)%4=3:=by rw [show (ac:Int)%4=((ac%4:Nat):Int) from rfl,hc];rfl
         obtain ⟨xv,hxv,hld⟩:=HP5.out.load HIS.out
         rw [HBS.out] at hld
         have HLD:=hid hld
         clear hc hld
         go_upto_region 18 with (go_at_call 68;refine HLD.out.mono ?_;rintro e w6 ⟨rfl,hp6,hlk⟩;have HP6:=hid hp6;have HLK:=hid hlk;clear hp6 hlk)
         have hlk:=HLK.out _ (Gr.refl w6)
         go_wp2_with (fail)
         go_roundw
         case rel=>exact ⟨k+1,HLT.out,⟨by obtain ⟨S',s,v',k',f,h1,h2,h3,h4,h5,h6,h7,h8,h9,h10,h11⟩:=HP6.out;exact ⟨S',s,v',k',f,h1,h2,h3,h4,h5,h6,h7,by omega,h9,fun i hi=>absurd hi (Nat.not_lt_zero _),h11⟩⟩,by go_num⟩
         case measure=>have:=HLT.out;simp [intOf];omega
       ·obtain rfl:NA=k:=by omega
        clear hlt hGw
        go_upto_region 32 with (fail)
        have x4:wr.cell? ⟨hp,4,none⟩=some (.int .i64 (tob:Nat)):=by rw [HTZ.out.1];exact HPR.out.hp4.2
        have xl:=lt_cell x4
        have HWR2:=hid (Gr.refl wr)
        go_wp2_with (fail)
        clear x4 xl
        go_loopw [22] (fun s22 wr=>∃ t B:Nat,t<=Z/\Hid (B=tob+t)/\Hid (PR24 w wr hp q r (.slice A x.n c) y ry z a R u s0.mv s0.cf s0.L s0.n bw (Z+NA) t)/\s22=.int .i64 B) (fun s22 _=>tob+Z-(intOf s22).toNat)
        case atStart=>exact ⟨0,tob,Nat.zero_le _,⟨rfl⟩,HPR,rfl⟩
        case round=>
         clear HPR HGw HWR2
         obtain ⟨t,B,ht,HB,HPR,rfl⟩:=hrel
         have HTP:Hid (∀ W',Gr wr W'->Gets Tryz.prog 61 #[.pointer (some ⟨y,0,none⟩)] W' (.int .i64 ((tob:Int)+(Z:Int)))):=⟨fun W' g=>by
          have:=(HPR.out.gr g).top
          rw [<-HTZ.out.1,<-HTZ.out.2] at this
          exact this⟩
         have hBb:B<=524288:=by have:=HB.out;omega
         by_cases hlt:t<Z
         ·have HLT:=hid hlt
          have hBI:(B:Int)<(tob:Int)+(Z:Int):=by have:=HB.out;omega
          have hti:t<sizes s0.L:=by rw [<-HTZ.out.2];exact hlt
          have HTI:=hid hti
          have hBe:((s0.cf.to+t:Nat):Int)=(B:Int):=by rw [HB.out,<-HTZ.out.1]
          have HBE:=hid hBe
          clear hti hBe hlt
          go_upto_region 35 with (go_at_call 61;refine (HTP.out _ (Gr.refl _)).mono ?_;rintro e w5 ⟨rfl,hg5⟩;have HP5:=hid (HPR.out.gr hg5);clear hg5)
          obtain ⟨xv,hxv,hld⟩:=HP5.out.load HTI.out
          rw [HBE.out,if_pos rfl] at hld
          have HLD:=hid hld
          clear hld
          go_upto_region 36 with (go_at_call 68;refine HLD.out.mono ?_;rintro e w6 ⟨rfl,hp6,hlk⟩;have HP6:=hid hp6;have HLK:=hid hlk;clear hp6 hlk)
          have hlk:=HLK.out _ (Gr.refl w6)
          go_wp2_with (fail)
          go_roundw
          case rel=>exact ⟨t+1,B+1,HLT.out,⟨by have:=HB.out;omega⟩,HP6,by go_num⟩
          case measure=>have:=HB.out;have:=HLT.out;simp [intOf];omega
         ·obtain rfl:Z=t:=by omega
          have hBI:¬ (B:Int)<(tob:Int)+(Z:Int):=by have:=HB.out;omega
          clear hlt
          go_upto_region 38 with (go_at_call 61;refine (HTP.out _ (Gr.refl _)).mono ?_;rintro e w5 ⟨rfl,hg5⟩;have HP5:=hid (HPR.out.gr hg5);clear hg5)
          have HDN:Hid (Calls Tryz.prog 69 #[.pointer (some ⟨y,0,none⟩)] w5 fun e w'=>e=.returned (.bool true)/\w5=w'):=⟨by
           have h1:=HP5.out
           rw [HTZ.out.2] at h1
           exact h1.done⟩
          have HG5:=hid HP5.out.g
          go_wp2_with (first
           | (go_at_call 69;refine (HDN.out).mono ?_;rintro e w6 ⟨rfl,rfl⟩)
           | (go_at_call 58;refine (lives24 (HG5.out.tab HT.out.lt HT.out)).mono ?_;rintro e w9 ⟨rfl,hg9⟩;have HG9:=hid (HG5.out.trans hg9);clear hg9))
          go_ret
          exact ⟨rfl,HG9.out⟩
end
end Go.Proofs.YthgdadohijgleaaGreatDoor
end
