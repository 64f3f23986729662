/- Part 11 of what SlideEnds leans on: my own lemmas, merged by shake.py. -/
import Derived.Test.YtbmidhlilafgeaaGreatDoorSlideEndsJ
section
namespace Go.Proofs.YtbmidhlilafgeaaGreatDoor
open Go.RowKit Go.Shelf Word
def OpenedEnd (w:World) (hp q r:Nat) (vL:Value) (x:LaidC) (v:Vm) (L:List Ob) (u:Vm) (e:Ending) (W':World):Prop:=
 ∃ (y ry:Nat) (z:SlAd) (a:RcAd) (R S:Nat->Prop) (v':Vm),e=.returned (.tuple #[.pointer (some ⟨y,0,none⟩),.pointer (some ⟨ry,0,none⟩),.bool true])/\P24 w W' hp q r vL y ry z a R S (slNew v x.cf L) (slNew v x.cf L).mv v' u
section
variable {w W:World} {x:LaidC} {more:Nat} {v0 u:Vm} {L:List Ob} {hp q r g:Nat} {A:Option Addr} {c:Nat} {SV:Nat->Prop}
set_option maxRecDepth 100000 in
set_option maxHeartbeats 6400000 in
theorem opened24 (hT:TabAt w) (hg:Gr w W) (hr:Run24 x (x.room+more) v0) (hO:Op24 x (layC x v0) u L) (hV:VmAt W SV q (layC x v0)) (hR:RtAt W r g x.rs) (hH:Rec W hp 37 (heapL x q r (.slice A x.n c))) (hW:Wrds W A c x.n (layC x v0))
  (hsv:∀ i,SV i->w.heap.size<=i/\i<W.heap.size) (h1:¬ SV hp) (h2:¬ SV r) (h3:¬ SV g) (hl:w.heap.size<=hp/\w.heap.size<=r/\w.heap.size<=g) (hA:∀ b,(Value.slice A x.n c).ownBlock=some b->w.heap.size<=b/\¬ SV b/\b≠g):
  Calls Tryz.prog 36 #[.pointer (some ⟨hp,0,none⟩)] W (OpenedEnd w hp q r (.slice A x.n c) x (layC x v0) L u):=by
 have hs:=hr.stays (Stays.layC hr.ok x)
 have hpp:=x.page_pos
 have HO:=hid hO
 have HTB:=hid hT
 have htl:=hT.lt
 have hgs:=hg.size
 have HGW:=hid hg
 have hrl:=hR.lt
 have hhl:=hH.lt
 have hgh:hp≠g:=fun e=>(own_ne hR.row hH (by decide) rfl rfl) e.symm
 have HALL:=hid (fun (W':World) (g':Gr W W')=>rt_all (hR.gr g'))
 have HOP:Hid (∀ W',Gr W W'->Calls Tryz.prog 47 #[.pointer (some ⟨q,0,none⟩),.pointer (some ⟨r,0,none⟩),cfV x.cf] W' fun e w'=>Touch (fun b=>b=g\/SV b) W' w'/\∃ (y:Nat) (z:SlAd) (R S':Nat->Prop) (v':Vm) (j:Nat),e=.returned (.tuple #[.pointer (some ⟨y,0,none⟩),.int .i64 0])/\Cyc w' R y q z (slNew (layC x v0) x.cf L)/\VmAt w' S' q v'/\(∀ b,S' b->SV b\/W'.heap.size<=b)/\(∀ b,R b->W'.heap.size<=b/\¬ S' b) ∧
    OpUm (slNew (layC x v0) x.cf L) (layC x v0) v' (x.cf.fr/(layC x v0).pl.pg) j/\x.cf.tp<=(x.cf.fr/(layC x v0).pl.pg+j)*(layC x v0).pl.pg/\RtAt w' r g (x.rs.map (toV L x.cf.to))):=⟨fun W' g'=>
  (sl_open (c:=x.cf) (hV.gr g') (hR.gr g') ((hg.trans g').tab htl hT) (fun h=>by have:=(hsv _ h).1;omega) h2 h3 hO.cf (by omega)).mono (fun e w' h=>open_yes hO.inn hO.fit h)⟩
 have HRM:Hid ((x.cf.tp-x.cf.fr+(layC x v0).pl.pg-1)/(layC x v0).pl.pg+(x.cf.ah+1)*max 1 (x.cf.bk/(layC x v0).pl.pg)+1<=(layC x v0).pl.rm):=⟨by
  rw [hs.pg,hs.rm]
  exact Nat.le_add_right x.room more⟩
 have HKH:Hid (∀ W1 W',Gr W W1->Touch (fun b=>b=g\/SV b) W1 W'->Rec W' hp 37 (heapL x q r (.slice A x.n c))):=⟨fun W1 W' g1 t=>(hH.gr g1).touch t (fun h=>h.elim hgh h1)⟩
 have HNO:=hid (And.intro hsv (And.intro h1 (And.intro h2 (And.intro h3 (And.intro hl hA)))))
 have HWR:Hid (Wrds W A c x.n u):=⟨by have:=hW;unfold Wrds at this ⊢;rw [<-hO.wd];exact this⟩
 obtain ⟨cf,hcf⟩:∃ cf,cf=x.cf:=⟨_,rfl⟩
 obtain ⟨pg,hpg⟩:∃ pg,pg=x.page:=⟨_,rfl⟩
 obtain ⟨nn,hnn⟩:∃ nn,nn=x.n:=⟨_,rfl⟩
 obtain ⟨v,hv⟩:∃ v,v=layC x v0:=⟨_,rfl⟩
 have HEQ:=hid (And.intro hcf (And.intro hpg (And.intro hnn hv)))
 have HRL:Hid (x.rs.length<=64):=⟨hR.le⟩
 have HH0:=hid hH
 unfold heapL at HKH HH0
 rw [<-hcf,<-hpg,<-hnn] at HKH HH0
 rw [<-hnn] at HWR
 rw [<-hcf,<-hv] at HOP HRM
 unfold OpenedEnd
 rw [<-hcf,<-hnn,<-hv]
 rw [<-hv] at HO
 obtain ⟨nr,hnr⟩:∃ nr,nr=x.rs.length:=⟨_,rfl⟩
 have HNR:=hid hnr
 rw [<-hnr] at HALL
 clear hT hr hO hV hR hH hW hsv h1 h2 h3 hl hA hs hg hcf hpg hnn hv hnr
 unfold cfV at HOP
 have z1:=HH0.out.cell (j:=1) rfl
 have zl:=HH0.out.lt
 go_enter Tryz.func36,Tryz.ntmps36
 go_upto_region 2 with (go_at_call 16;refine (HALL.out _ (Gr.refl W)).mono ?_;rintro e w1 ⟨gA,cA,rfl,hg1,hgl1,how1⟩;have HG1:=hid hg1;have HW1:=hid how1;have HGL:=hid hgl1;clear hg1 how1 hgl1)
 clear z1 zl
 obtain ⟨Sx,hSx⟩:∃ Sx:World->Prop,Sx=fun W'=>Rec W' hp 37 [.pointer (some ⟨q,0,none⟩),.pointer (some ⟨r,0,none⟩),.int .i64 cf.fr,.int .i64 cf.tp,.int .i64 cf.to,.int .i64 cf.lm,.int .i64 cf.bk,.int .i64 cf.st,.int .i64 cf.ah,.slice A nn c,.int .i64 (pg:Nat)]:=⟨_,rfl⟩
 have y0:∀ p:Held Sx,p.w.cell? ⟨hp,0,none⟩=some (.pointer (some ⟨q,0,none⟩)):=fun p=>by have h:=Held.get hSx p;exact h.cell (j:=0) rfl
 have y1:∀ p:Held Sx,p.w.cell? ⟨hp,1,none⟩=some (.pointer (some ⟨r,0,none⟩)):=fun p=>by have h:=Held.get hSx p;exact h.cell (j:=1) rfl
 have y2:∀ p:Held Sx,p.w.cell? ⟨hp,2,none⟩=some (.int .i64 cf.fr):=fun p=>by have h:=Held.get hSx p;exact h.cell (j:=2) rfl
 have y3:∀ p:Held Sx,p.w.cell? ⟨hp,3,none⟩=some (.int .i64 cf.tp):=fun p=>by have h:=Held.get hSx p;exact h.cell (j:=3) rfl
 have y4:∀ p:Held Sx,p.w.cell? ⟨hp,4,none⟩=some (.int .i64 cf.to):=fun p=>by have h:=Held.get hSx p;exact h.cell (j:=4) rfl
 have y5:∀ p:Held Sx,p.w.cell? ⟨hp,5,none⟩=some (.int .i64 cf.lm):=fun p=>by have h:=Held.get hSx p;exact h.cell (j:=5) rfl
 have y6:∀ p:Held Sx,p.w.cell? ⟨hp,6,none⟩=some (.int .i64 cf.bk):=fun p=>by have h:=Held.get hSx p;exact h.cell (j:=6) rfl
 have y7:∀ p:Held Sx,p.w.cell? ⟨hp,7,none⟩=some (.int .i64 cf.st):=fun p=>by have h:=Held.get hSx p;exact h.cell (j:=7) rfl
 have y8:∀ p:Held Sx,p.w.cell? ⟨hp,8,none⟩=some (.int .i64 cf.ah):=fun p=>by have h:=Held.get hSx p;exact h.cell (j:=8) rfl
 have HS:Hid (∀ W',Rec W' hp 37 [.pointer (some ⟨q,0,none⟩),.pointer (some ⟨r,0,none⟩),.int .i64 cf.fr,.int .i64 cf.tp,.int .i64 cf.to,.int .i64 cf.lm,.int .i64 cf.bk,.int .i64 cf.st,.int .i64 cf.ah,.slice A nn c,.int .i64 (pg:Nat)]->Sx W'):=⟨fun W' h=>by rw [hSx];exact h⟩
 have hS0:=HS.out _ (HH0.out.gr (HG1.out.trans (Gr.refl w1).drew))
 have inst:Inhabited (Held Sx):=⟨⟨_,hS0⟩⟩
 clear hSx
 refine wp_region_mixS Sx 18 [([0,1,2,3,4,5,6,7,8,9,10,11],12)] [13,14,15,16,17] (by kernel_rfl) (by kernel_rfl) hS0 ?_
 refine segs_step ?_
 try simp only [opsAt,List.getElem?_cons_zero,List.getElem?_cons_succ]
 repeat (go_big_quiet_step (fail))
 refine wpQuiet_nil ?_
 go_wp2_with ((go_at_call 47;refine (HOP.out _ (HG1.out.trans (Gr.refl w1).drew)).mono ?_;rintro e w2 ⟨ht2,y,z,R,S',v',j,rfl,hcy,hvm,hS,hR,hU,hq,hrt⟩;have HT2:=hid ht2;have HCY:=hid hcy;have HVM:=hid hvm;have HSS:=hid hS;have HRR:=hid hR;have HU:=hid hU;have HQ:=hid hq;have HRT:=hid hrt;clear ht2 hcy hvm hS hR hU hq hrt))
 refine ⟨.inr (Held.of (HS.out _ (HKH.out _ _ (HG1.out.trans (Gr.refl w1).drew) HT2.out))),?_⟩
 refine segs_end ?_
 try simp only [opsAt,List.getElem?_cons_zero,List.getElem?_cons_succ]
 repeat (go_big_quiet_step (fail))
 refine wpQuiet_nil ?_
 refine NoPanic.normal ?_
 clear y0 y1 y2 y3 y4 y5 y6 y7 y8 hS0 inst
 clear HS Sx
 have HH2:=hid (HKH.out _ _ (HG1.out.trans (Gr.refl w1).drew) HT2.out)
 have hz1:=HG1.out.size
 have hz2:w1.heap.size<=w2.heap.size:=HT2.out.size
 have HW2:Hid (w2.ownsRow 0 3 1 (.slice (some ⟨gA,0,none⟩) nr cA) nr (zs x.rs)):=⟨by
  refine own_touch (own_gr HW1.out (Gr.refl w1).drew) HT2.out (fun b hb h=>?_)
  have hb:gA=b:=Option.some.inj hb
  have hx:=HGL.out
  rcases h with h | h
  ·omega
  ·have:=(HNO.out.1 _ h).2;omega⟩
 have HA2:Hid (Wrds w2 A c nn u):=⟨by
  refine own_touch (HWR.out.gr (HG1.out.trans (Gr.refl w1).drew)) HT2.out (fun b hb h=>?_)
  obtain ⟨e1,e2,e3,e4⟩:=HEQ.out
  have hb:(Value.slice A x.n c).ownBlock=some b:=by rw [<-e3];exact hb
  have hx:=HNO.out.2.2.2.2.2 b hb
  exact h.elim hx.2.2 hx.2.1⟩
 have HRO:Hid (∀ W',Gr w2 W'->Calls Tryz.prog 92 #[.slice A nn c,.int .i64 (pg:Nat),.slice (some ⟨gA,0,none⟩) nr cA,.agg #[.int .i64 cf.fr,.int .i64 cf.tp,.int .i64 cf.to,.int .i64 cf.lm,.int .i64 cf.bk,.int .i64 cf.st,.int .i64 cf.ah]] W' (RcOpen W' (slNew v cf L) A c u)):=⟨fun W' g'=>by
  obtain ⟨e1,e2,e3,e4⟩:=HEQ.out
  have n1:(slNew v cf L).n=nn:=by show v.n=nn;rw [e4,e3];rw [<-e4];exact HO.out.n
  have n2:(slNew v cf L).pg=pg:=by show v.pl.pg=pg;rw [e2];exact HO.out.pg
  have hg:=HO.out.g
  have hst:=HO.out.st
  have hmk:=HO.out.mrk
  rw [<-e1] at hg hst
  have:=rc_open (s:=slNew v cf L) (A0:=A) (cp:=c) (cr:=cA) (A:=some ⟨gA,0,none⟩) (rs:=x.rs) (w:=W') hg.fu (by rw [n1];exact HA2.out.gr g') (own_ints (own_gr HW2.out g') HNR.out) HRL.out (by rw [n1,e3];exact hmk) hg.n1 hst rfl
  rw [n1,n2,<-HNR.out] at this
  exact this⟩
 go_upto_region 3 with (fail)
 obtain ⟨Sx,hSx⟩:∃ Sx:World->Prop,Sx=fun W'=>Rec W' hp 37 [.pointer (some ⟨q,0,none⟩),.pointer (some ⟨r,0,none⟩),.int .i64 cf.fr,.int .i64 cf.tp,.int .i64 cf.to,.int .i64 cf.lm,.int .i64 cf.bk,.int .i64 cf.st,.int .i64 cf.ah,.slice A nn c,.int .i64 (pg:Nat)]:=⟨_,rfl⟩
 have y9:∀ p:Held Sx,p.w.cell? ⟨hp,9,none⟩=some (.slice A nn c):=fun p=>by have h:=Held.get hSx p;exact h.cell (j:=9) rfl
 have y10:∀ p:Held Sx,p.w.cell? ⟨hp,10,none⟩=some (.int .i64 (pg:Nat)):=fun p=>by have h:=Held.get hSx p;exact h.cell (j:=10) rfl
 have y2:∀ p:Held Sx,p.w.cell? ⟨hp,2,none⟩=some (.int .i64 cf.fr):=fun p=>by have h:=Held.get hSx p;exact h.cell (j:=2) rfl
 have y3:∀ p:Held Sx,p.w.cell? ⟨hp,3,none⟩=some (.int .i64 cf.tp):=fun p=>by have h:=Held.get hSx p;exact h.cell (j:=3) rfl
 have y4:∀ p:Held Sx,p.w.cell? ⟨hp,4,none⟩=some (.int .i64 cf.to):=fun p=>by have h:=Held.get hSx p;exact h.cell (j:=4) rfl
 have y5:∀ p:Held Sx,p.w.cell? ⟨hp,5,none⟩=some (.int .i64 cf.lm):=fun p=>by have h:=Held.get hSx p;exact h.cell (j:=5) rfl
 have y6:∀ p:Held Sx,p.w.cell? ⟨hp,6,none⟩=some (.int .i64 cf.bk):=fun p=>by have h:=Held.get hSx p;exact h.cell (j:=6) rfl
 have y7:∀ p:Held Sx,p.w.cell? ⟨hp,7,none⟩=some (.int .i64 cf.st):=fun p=>by have h:=Held.get hSx p;exact h.cell (j:=7) rfl
 have y8:∀ p:Held Sx,p.w.cell? ⟨hp,8,none⟩=some (.int .i64 cf.ah):=fun p=>by have h:=Held.get hSx p;exact h.cell (j:=8) rfl
 have HS:Hid (∀ W',Rec W' hp 37 [.pointer (some ⟨q,0,none⟩),.pointer (some ⟨r,0,none⟩),.int .i64 cf.fr,.int .i64 cf.tp,.int .i64 cf.to,.int .i64 cf.lm,.int .i64 cf.bk,.int .i64 cf.st,.int .i64 cf.ah,.slice A nn c,.int .i64 (pg:Nat)]->Sx W'):=⟨fun W' h=>by rw [hSx];exact h⟩
 have hS0:=HS.out _ (HH2.out.gr (Gr.refl w2).drew)
 have inst:Inhabited (Held Sx):=⟨⟨_,hS0⟩⟩
 clear hSx
 refine wp_region_mixS Sx 19 [([0,1,2,3,4,5,6,7,8,9,10,11,12],13)] [14,15,16,17,18] (by kernel_rfl) (by kernel_rfl) hS0 ?_
 refine segs_step ?_
 try simp only [opsAt,List.getElem?_cons_zero,List.getElem?_cons_succ]
 repeat (go_big_quiet_step (fail))
 refine wpQuiet_nil ?_
 go_wp2_with ((go_at_call 92;refine (HRO.out _ (Gr.refl w2).drew).mono ?_;rintro e w3 ⟨ry,a,rfl,hg3,hrc,ha1,ha2,ha3,ha4,ha5⟩;have HG3:=hid ((Gr.refl w2).drew.trans hg3);have HRC:=hid hrc;have HAA:=hid (And.intro ha1 (And.intro ha2 (And.intro ha3 (And.intro ha4 ha5))));clear hg3 hrc ha1 ha2 ha3 ha4 ha5))
 refine ⟨.inr (Held.of (HS.out _ (HH2.out.gr HG3.out))),?_⟩
 refine segs_end ?_
 try simp only [opsAt,List.getElem?_cons_zero,List.getElem?_cons_succ]
 repeat (go_big_quiet_step (fail))
 refine wpQuiet_nil ?_
 refine NoPanic.normal ?_
 clear y9 y10 y2 y3 y4 y5 y6 y7 y8 hS0 inst
 clear HS Sx
 have HRT3:=hid (HRT.out.gr HG3.out)
 have HALL2:=hid (fun (W':World) (g':Gr w3 W')=>rt_all (HRT3.out.gr g'))
 rw [List.length_map,<-HNR.out] at HALL2
 have u1:=(HH2.out.gr HG3.out).cell (j:=1) rfl
 have ul:=(HH2.out.gr HG3.out).lt
 have HP3:Hid (P24 w w3 hp q r (.slice A nn c) y ry z a R (cutS S' w2) (slNew v cf L) (slNew v cf L).mv v' u):=⟨by
  obtain ⟨e1,e2,e3,e4⟩:=HEQ.out
  have n1:(slNew v cf L).n=nn:=by show v.n=nn;rw [e4,e3];rw [<-e4];exact HO.out.n
  have n2:v.pl.pg=pg:=by rw [e2];exact HO.out.pg
  obtain ⟨b1,b2,b3,b4,b5⟩:=HAA.out
  have hw1:W.heap.size<=w1.heap.size:=hz1
  have hw2:w1.heap.size<=w2.heap.size:=hz2
  have hw3:w2.heap.size<=w3.heap.size:=HG3.out.size
  have b3:w2.heap.size<=ry:=b3
  have b4:w2.heap.size<=a.bm:=b4
  have hU:=HU.out
  have hq:=HQ.out
  have hOK:SlOk (slNew v cf L) v':=by
   rw [e1] at hU ⊢
   exact slNew_ok HO.out.ok HO.out.cf HO.out.inn HO.out.fit HO.out.full hU
  have hPG:SlPg (slNew v cf L) v':=by
   rw [e1] at hU hq ⊢
   exact slNew_pages HO.out.ok HO.out.cf HO.out.inn HO.out.fit HO.out.full hU hq HO.out.map
  have hgl:∀ b,(b=g\/SV b)->w.heap.size<=b:=fun b hb=>by
   rcases hb with rfl | hb
   ·exact HNO.out.2.2.2.2.1.2.2
   ·exact (HNO.out.1 _ hb).1
  refine ⟨?_,HTB.out,?_,HCY.out.gr HG3.out,HVM.out.cut.gr HG3.out,hOK,slNew_A hPG (by rw [hU.rm];exact HRM.out),HRC.out,fun b hb h=>(HRR.out b hb).2 h.1,fun b hb=>?_,by omega,by omega⟩
  ·have a1:=((HGW.out.trans (HG1.out.trans (Gr.refl w1).drew)).touch (fun _=>False)).trans' HT2.out (fun b hb h=>by have:=hgl b h;omega)
   exact a1.gr.trans HG3.out
  ·show Rec w3 hp _ (heapS (slNew v cf L) q r (.slice A nn c))
   unfold heapS
   show Rec w3 hp _ [_,_,_,_,_,_,_,_,_,_,.int .i64 (v.pl.pg:Nat)]
   rw [n2]
   exact HH2.out.gr HG3.out
  ·have hAl:∀ o,(Value.slice a.A (slNew v cf L).n a.cp).ownBlock=some o->(w.heap.size<=o/\¬ SV o/\o≠g)/\o<W.heap.size:=fun o ho=>by
    rw [b1,n1,b2] at ho
    refine ⟨HNO.out.2.2.2.2.2 o (by rw [<-e3];exact ho),(own_lt HWR.out ho).2⟩
   have key:(SV b\/W.heap.size<=b)/\b<w2.heap.size:=by
    rcases hb with hb | hb
    ·have h1:=(HRR.out b hb).1
     have h1:w1.heap.size<=b:=h1
     exact ⟨.inr (by omega),HCY.out.od.lt b hb⟩
    ·refine ⟨?_,hb.2⟩
     rcases HSS.out b hb.1 with h1 | h1
     ·exact .inl h1
     ·have h1:w1.heap.size<=b:=h1
      exact .inr (by omega)
   obtain ⟨k1,k2⟩:=key
   refine ⟨?_,by omega,?_,by omega,by omega,fun o ho _=>?_,fun o ho e=>?_⟩
   ·rcases k1 with h | h
    ·exact (HNO.out.1 _ h).1
    ·omega
   ·rcases k1 with h | h
    ·rintro rfl;exact HNO.out.2.1 h
    ·omega
   ·have h5:=b5 o ho
    have h5:w2.heap.size<=o.block:=h5
    omega
   ·subst e
    obtain ⟨⟨-,h6,-⟩,h7⟩:=hAl b ho
    rcases k1 with h | h
    ·exact h6 h
    ·omega⟩
 go_upto_region 9 with (go_at_call 16;refine (HALL2.out _ (Gr.refl w3)).mono ?_;rintro e w4 ⟨gB,cB,rfl,hg4,hgl4,how4⟩;have HG4:=hid hg4;have HW4:=hid how4;clear hg4 how4 hgl4)
 clear u1 ul
 have HWA4:=hid (own_gr HW2.out (HG3.out.trans HG4.out))
 have hnrb:nr<=64:=by have:=HNR.out;have:=HRL.out;omega
 have HST:Hid (SlSt (slNew v cf L)):=⟨HP3.out.ok.st⟩
 go_loopw [68] (fun s68 wr=>∃ k:Nat,k<=nr/\Hid (Gr w4 wr)/\s68=.int .i64 k) (fun s68 _=>nr-(intOf s68).toNat)
 case atStart=>exact ⟨0,Nat.zero_le _,⟨Gr.refl _⟩,rfl⟩
 case round=>
  obtain ⟨k,hk,HG,rfl⟩:=hrel
  by_cases hlt:k<nr
  ·have hkl:k<x.rs.length:=by rw [<-HNR.out];exact hlt
   have hkI:(k:Int)<(nr:Int):=by omega
   have q1:=own_cell (own_gr HWA4.out HG.out) (show (zs x.rs)[k]?=some (.int .i64 x.rs[k]) by unfold zs;rw [List.getElem?_map,List.getElem?_eq_getElem hkl];rfl)
   have q2:=(own_lt (own_gr HWA4.out HG.out) rfl).2
   have p1:=own_cell (own_gr HW4.out HG.out) (show (zs (x.rs.map (toV L cf.to)))[k]?=some (.int .i64 (toV L cf.to x.rs[k])) by unfold zs;rw [List.getElem?_map,List.getElem?_map,List.getElem?_eq_getElem hkl];rfl)
   have p2:=(own_lt (own_gr HW4.out HG.out) rfl).2
   have HTO:=hid (rc_to (s:=slNew v cf L) (HP3.out.rc.gr (HG4.out.trans HG.out)) HST.out x.rs[k])
   obtain ⟨ra,hra⟩:∃ ra,ra=x.rs[k]:=⟨_,rfl⟩
   obtain ⟨t,ht⟩:∃ t,t=toV L cf.to ra:=⟨_,rfl⟩
   rw [<-hra] at q1 p1 HTO
   rw [<-ht] at p1
   have HTO':Hid (Gets Tryz.prog 93 #[.pointer (some ⟨ry,0,none⟩),.int .i64 ra] wr (.int .i64 t)):=⟨by rw [ht];exact HTO.out⟩
   have HLT:=hid hlt
   unfold Gets at HTO'
   clear hkl hra ht HTO hlt
   go_wp2_with (go_at_call 93;refine (HTO'.out).mono ?_;rintro e w5 ⟨rfl,hg5⟩;have HG5:=hid (HG.out.trans hg5);clear hg5)
   go_roundw
   case rel=>exact ⟨k+1,HLT.out,HG5,by go_num⟩
   case measure=>have:=HLT.out;simp [intOf];omega
  ·obtain rfl:nr=k:=by omega
   clear hlt
   go_upto_region 14 with (fail)
   have HT9:=hid (fun (W':World) (g:Gr w3 W')=>sl_top (HP3.out.gr g).cy)
   have HW9:=hid (fun (W':World) (g:Gr w3 W')=>words24 (s:=slNew v cf L) (HP3.out.gr g).rc HST.out)
   have HO9:=hid (fun (W':World) (g:Gr w3 W')=>sl_objects (HP3.out.gr g).cy)
   have HR9:=hid (fun (W':World) (g:Gr w3 W')=>(HP3.out.gr g).rc)
   have HB9:=hid (fun (W':World) (g:Gr w3 W')=>HH2.out.gr (HG3.out.trans g))
   have hnN:=HST.out.N_le
   have hLb:=HST.out.good.len
   have hn2:=HST.out.n2
   have hto:=HST.out.fit
   have hln:=HST.out.cf.ln
   unfold Gets at HT9 HW9
   obtain ⟨Z,hZ⟩:∃ Z,Z=sizes (slNew v cf L).L:=⟨_,rfl⟩
   obtain ⟨NL,hNL⟩:∃ NL,NL=(slNew v cf L).L.length:=⟨_,rfl⟩
   obtain ⟨tob,hto'⟩:∃ tob,tob=(slNew v cf L).cf.to:=⟨_,rfl⟩
   have HNL:=hid hNL
   have htoe:cf.to=tob:=hto'.symm
   rw [<-hZ] at HT9 HW9 hnN hto
   rw [<-hNL] at HO9 hLb
   rw [<-hto'] at HT9 hto
   have hZb:Z<=1048576:=by omega
   have htb:tob<=1048576:=by omega
   have dto:(((tob:Int)+(Z:Int))==(tob:Int)+(Z:Int))=true:=by simp
   have dnl:((NL:Int)==(NL:Int))=true:=by simp
   rw [htoe] at HB9
   clear hZ hNL hto' hnN hLb hn2 hto hln
   obtain ⟨Sx,hSx⟩:∃ Sx:World->Prop,Sx=fun W'=>(RCy W' ry a { slNew v cf L with mv:=(slNew v cf L).mv } u)/\Rec W' hp 37 [.pointer (some ⟨q,0,none⟩),.pointer (some ⟨r,0,none⟩),.int .i64 cf.fr,.int .i64 cf.tp,.int .i64 tob,.int .i64 cf.lm,.int .i64 cf.bk,.int .i64 cf.st,.int .i64 cf.ah,.slice A nn c,.int .i64 (pg:Nat)]:=⟨_,rfl⟩
   have y4:∀ p:Held Sx,p.w.cell? ⟨hp,4,none⟩=some (.int .i64 tob):=fun p=>by have h:=Held.get hSx p;exact h.2.cell (j:=4) rfl
   have y7:∀ p:Held Sx,p.w.cell? ⟨ry,7,none⟩=some (.slice a.OA NL a.oc):=fun p=>by have h:=Held.get hSx p;exact (by have e:=h.1.rc.cell (j:=7) rfl;rw [HNL.out];exact e)
   have HS:Hid (∀ W',(RCy W' ry a { slNew v cf L with mv:=(slNew v cf L).mv } u)/\Rec W' hp 37 [.pointer (some ⟨q,0,none⟩),.pointer (some ⟨r,0,none⟩),.int .i64 cf.fr,.int .i64 cf.tp,.int .i64 tob,.int .i64 cf.lm,.int .i64 cf.bk,.int .i64 cf.st,.int .i64 cf.ah,.slice A nn c,.int .i64 (pg:Nat)]->Sx W'):=⟨fun W' h=>by rw [hSx];exact h⟩
   have hS0:=HS.out _ (⟨HR9.out _ (HG4.out.trans HG.out.drew),HB9.out _ (HG4.out.trans HG.out.drew)⟩)
   have inst:Inhabited (Held Sx):=⟨⟨_,hS0⟩⟩
   clear hSx
   refine wp_region_mixS Sx 26 [([0,1,2,4,5,6,7,8,9],3),([],10),([11,12,13,14,16,17,18,19,20],15)] [21,22,23,24,25] (by kernel_rfl) (by kernel_rfl) hS0 ?_
   refine segs_step ?_
   try simp only [opsAt,List.getElem?_cons_zero,List.getElem?_cons_succ]
   repeat (go_big_quiet_step (fail))
   refine wpQuiet_nil ?_
   go_wp2_with ((go_at_call 46;refine (HT9.out _ (HG4.out.trans HG.out.drew)).mono ?_;rintro e w6 ⟨rfl,hg6⟩;have HG6:=hid (HG.out.drew.trans hg6);clear hg6))
   refine ⟨.inr (Held.of (HS.out _ (⟨HR9.out _ (HG4.out.trans HG6.out),HB9.out _ (HG4.out.trans HG6.out)⟩))),?_⟩
   refine segs_step ?_
   try simp only [opsAt,List.getElem?_cons_zero,List.getElem?_cons_succ]
   repeat (go_big_quiet_step (fail))
   refine wpQuiet_nil ?_
   go_wp2_with ((go_at_call 94;refine (HW9.out _ (HG4.out.trans HG6.out)).mono ?_;rintro e w7 ⟨rfl,hg7⟩;have HG7:=hid (HG6.out.trans hg7);clear hg7))
   refine ⟨.inr (Held.of (HS.out _ (⟨HR9.out _ (HG4.out.trans HG7.out),HB9.out _ (HG4.out.trans HG7.out)⟩))),?_⟩
   refine segs_step ?_
   try simp only [opsAt,List.getElem?_cons_zero,List.getElem?_cons_succ]
   repeat (go_big_quiet_step (fail))
   refine wpQuiet_nil ?_
   go_wp2_with ((go_at_call 51;refine (HO9.out _ (HG4.out.trans HG7.out)).mono ?_;rintro e w8 ⟨rfl,rfl⟩))
   refine ⟨.inr (Held.of (HS.out _ (⟨HR9.out _ (HG4.out.trans HG7.out),HB9.out _ (HG4.out.trans HG7.out)⟩))),?_⟩
   refine segs_end ?_
   try simp only [opsAt,List.getElem?_cons_zero,List.getElem?_cons_succ]
   repeat (go_big_quiet_step (fail))
   refine wpQuiet_nil ?_
   refine NoPanic.normal ?_
   clear y4 y7 hS0 inst
   clear HS Sx
   go_wp2
   go_ret3
   exact ⟨y,ry,z,a,R,cutS S' w2,v',rfl,HP3.out.gr (HG4.out.trans HG7.out)⟩
end
end Go.Proofs.YtbmidhlilafgeaaGreatDoor
end
section
namespace Go.Proofs.YtbmidhlilafgeaaGreatDoor
open Go.RowKit Go.Shelf Word
section
variable {w W W':World} {hp q r:Nat} {vL:Value} {y ry:Nat} {z:SlAd} {a:RcAd} {R S:Nat->Prop} {s s':Sl} {ml:List Bool} {v v' u:Vm}
theorem P24.mlen (h:P24 w W hp q r vL y ry z a R S s ml v u):s.mv.length<=1048576:=by
 have hst:=h.ok.st
 have hn:=hst.n2
 rw [hst.len]
 have:=nbl_le (n:=sizes s.L) hst.bk.1
 have:=hst.N_le
 omega
theorem Sl.tch_len (s:Sl) (b:Int):(s.tch b).mv.length=s.mv.length:=by
 show (if inF s.L s.cf.to b then touchL s.cf.ah ((b-s.cf.to).toNat/s.cf.bk) s.mv else s.mv).length=_
 split
 ·exact touchL_len _ _ _
 ·rfl
theorem P24.stepA (h:P24 w W hp q r vL y ry z a R S s ml v u):Calls Tryz.prog 38 #[.pointer (some ⟨y,0,none⟩)] W fun e W'=>e=.returned (.tuple #[.bool (decide (s.ft<s.mv.length)),.int .i64 0])/\∃ S' v',P24 w W' hp q r vL y ry z a R S' s.step ml v' u:=by
 refine (sl_step slA_j h.cy h.ok h.fr h.tab h.tS h.tR h.vm h.dj).mono ?_
 rintro e W' ⟨v',rfl,ha⟩
 exact ⟨rfl,_,v',h.aft ha.t ha.cy ha.vm ha.ok ha.j rfl rfl rfl rfl⟩
theorem P24.tchA (h:P24 w W hp q r vL y ry z a R S s ml v u) (b:Int) (hb:b<=9223372036854775807):Calls Tryz.prog 40 #[.pointer (some ⟨y,0,none⟩),.int .i64 b] W fun e W'=>e=.returned (.int .i64 0)/\∃ S' v',P24 w W' hp q r vL y ry z a R S' (s.tch b) ml v' u:=by
 refine (sl_touch slA_j h.cy h.ok h.fr h.tab h.tS h.tR h.vm h.dj b hb).mono ?_
 rintro e W' ⟨v',rfl,ha⟩
 exact ⟨rfl,_,v',h.aft ha.t ha.cy ha.vm ha.ok ha.j rfl rfl rfl rfl⟩
end
section
variable {w W W':World} {hp q r:Nat} {vL:Value} {y ry:Nat} {z:SlAd} {a:RcAd} {R:Nat->Prop} {u:Vm} {cf:Cf} {L:List Ob}
end
end Go.Proofs.YtbmidhlilafgeaaGreatDoor
end
section
namespace Go.Proofs.YtbmidhlilafgeaaGreatDoor
open Go.RowKit Word
def Mono (l l':List Bool):Prop:=l'.length=l.length/\∀ i,at_ l i=true->at_ l' i=true
theorem Mono.refl (l:List Bool):Mono l l:=⟨rfl,fun _ h=>h⟩
theorem Mono.trans {a b c:List Bool} (h:Mono a b) (k:Mono b c):Mono a c:=⟨k.1.trans h.1,fun i hi=>k.2 i (h.2 i hi)⟩
theorem Mono.set (l:List Bool) (k:Nat):Mono l (l.set k true):=by
 refine ⟨List.length_set ..,fun i hi=>?_⟩
 rcases Nat.lt_or_ge k l.length with h | h
 ·rw [at_set2 h]
  split
  ·rfl
  ·exact hi
 ·rw [List.set_eq_of_length_le h];exact hi
theorem Mono.step (l:List Bool):Mono l (stepL l):=by
 unfold stepL
 split
 ·exact Mono.set _ _
 ·exact Mono.refl _
theorem Mono.run (A k n:Nat) (l:List Bool):Mono l (runL A k n l):=by
 induction n generalizing l with
 | zero=>exact Mono.refl _
 | succ n ih=>
  unfold runL
  split
  ·exact (Mono.step l).trans (ih _)
  ·exact Mono.refl _
theorem Mono.touch (A k:Nat) (l:List Bool):Mono l (touchL A k l):=by
 unfold touchL
 split
 ·exact Mono.refl _
 ·exact (Mono.run A k k l).trans (Mono.set _ _)
theorem Mono.mvd {l l':List Bool} (h:Mono l l'):mvdL l<=mvdL l':=by
 unfold mvdL
 rw [h.1]
 exact cnt_imp fun i _ hi=>h.2 i hi
theorem Sl.tch_mono (s:Sl) (b:Int):Mono s.mv (s.tch b).mv:=by
 show Mono s.mv (if inF s.L s.cf.to b then touchL s.cf.ah ((b-s.cf.to).toNat/s.cf.bk) s.mv else s.mv)
 split
 ·exact Mono.touch _ _ _
 ·exact Mono.refl _
theorem Sl.lf_mono {s s':Sl} (h:Mono s.mv s'.mv):s'.lf<=s.lf:=by
 have h1:=h.mvd
 have h2:=h.1
 show s'.mv.length-mvdL s'.mv<=s.mv.length-mvdL s.mv
 omega
theorem mvdL_step {l:List Bool} (hf:ftL l<l.length):mvdL (stepL l)=mvdL l+1/\mvdL l+1<=l.length:=by
 have hz:at_ l (ftL l)=false:=by
  have h1:(!at_ l (ftL l))=true:=first_at (fun k=>!at_ l k) _ hf
  simpa using h1
 have h1:=cnt_set_true hf hz
 have h2:cnt (at_ (l.set (ftL l) true)) l.length<=l.length:=cnt_le _ _
 have h3:mvdL (stepL l)=mvdL l+1:=by
  unfold mvdL stepL
  rw [if_pos hf,List.length_set]
  exact h1
 refine ⟨h3,?_⟩
 unfold mvdL
 omega
theorem Sl.lf_step {s:Sl} (h:s.ft<s.mv.length):s.step.lf+1=s.lf:=by
 obtain ⟨h1,h2⟩:=mvdL_step (l:=s.mv) h
 show (stepL s.mv).length-mvdL (stepL s.mv)+1=s.mv.length-mvdL s.mv
 rw [stepL_len,h1]
 omega
theorem Sl.step_none {s:Sl} (h:¬ s.ft<s.mv.length):s.step=s:=by
 unfold Sl.step stepL
 rw [if_neg (show ¬ ftL s.mv<s.mv.length from h)]
theorem used_end {s:Sl} {v:Vm} (ho:SlOk s v) (hA:SlA s v) (h0:s.lf=0):v.pl.used=(sizes s.L+s.pg-1)/s.pg:=by
 have hst:=ho.st
 have hok:=ho.mid.ok
 have hpg:=hst.pg.1
 have hall:∀ i,i<sizes s.L->s.is i=true:=fun i hi=>by
  have hf:¬ s.ft<s.mv.length:=s.lf_zero.1 h0
  have hb:=hst.blk hi
  unfold Sl.is
  exact s.ft_on (by omega)
 obtain ⟨b0,hb0⟩:s.pg ∣ s.cf.to:=Nat.dvd_of_mod_eq_zero hst.cf.at_
 have hdst:∀ i,(s.cf.to+i)/s.pg=b0+i/s.pg:=fun i=>by
  rw [hb0,Nat.mul_comm,Nat.add_comm,Nat.add_mul_div_right _ _ (by omega)];omega
 obtain ⟨K,hK⟩:∃ K,K=(sizes s.L+s.pg-1)/s.pg:=⟨_,rfl⟩
 have hKi:∀ j,j<K↔j*s.pg<sizes s.L:=fun j=>by
  rw [hK]
  constructor
  ·intro h
   have:=(Nat.le_div_iff_mul_le (show 0<s.pg by omega)).1 (show j+1<=(sizes s.L+s.pg-1)/s.pg by omega)
   rw [Nat.add_mul,Nat.one_mul] at this
   omega
  ·intro h
   have:=(Nat.le_div_iff_mul_le (show 0<s.pg by omega)).2 (show (j+1)*s.pg<=sizes s.L+s.pg-1 by rw [Nat.add_mul,Nat.one_mul];omega)
   omega
 have hnp:=hok.np
 rw [ho.mid.n,ho.mid.pg] at hnp
 have hlen:b0+K<=v.pt.length:=by
  rcases Nat.eq_zero_or_pos K with h | h
  ·have h1:=hst.fit
   have h2:=hst.cf.ln
   have:b0*s.pg<=v.pt.length*s.pg:=by rw [Nat.mul_comm b0,<-hb0,<-hnp];omega
   have:=Nat.le_of_mul_le_mul_right this (by omega)
   omega
  ·have h1:=(hKi (K-1)).1 (by omega)
   have h2:=hst.fit
   have h3:=hst.cf.ln
   have h4:(b0+(K-1))*s.pg<v.pt.length*s.pg:=by
    rw [Nat.add_mul,Nat.mul_comm b0,<-hb0,<-hnp]
    omega
   have:=Nat.lt_of_mul_lt_mul_right h4
   omega
 rw [hok.us,<-hK]
 refine nz_run hlen fun p hp=>?_
 rw [hA.1 p hp]
 constructor
 ·rintro (⟨i,hi,-,h⟩ | ⟨i,hi,h,-⟩)
  ·rw [hall i hi] at h;cases h
  ·rw [hdst] at h
   have h9:=(hKi (i/s.pg)).2 (by have:=Nat.div_mul_le_self i s.pg;omega)
   generalize i/s.pg=d at h h9
   omega
 ·rintro ⟨h1,h2⟩
  right
  have h3:=(hKi (p-b0)).1 (by omega)
  refine ⟨(p-b0)*s.pg,h3,?_,hall _ h3⟩
  rw [hdst,Nat.mul_div_cancel _ (by omega)]
  omega
end Go.Proofs.YtbmidhlilafgeaaGreatDoor
end
section
namespace Go.Proofs.YtbmidhlilafgeaaGreatDoor
open Go.RowKit Go.Shelf Word
structure C24 (w W:World) (hp q r g:Nat) (vL:Value) (rs:List Int) (y:Nat) (z:SlAd) (R S:Nat->Prop) (s:Sl) (v:Vm):Prop where
 gg:Gr w W
 tb:TabAt w
 hb:Rec W hp 37 (heapS s q r vL)
 rt:RtAt W r g rs
 cy:Cyc W R y q z s
 vm:VmAt W S q v
 ok:SlOk s v
 fr:SlA s v
 dj:∀ b,R b->¬ S b
 lo:∀ b,R b\/S b->w.heap.size<=b/\b<W.heap.size/\b≠hp/\b≠r/\b≠g
section
variable {w W W':World} {hp q r g:Nat} {vL:Value} {rs:List Int} {y:Nat} {z:SlAd} {R S:Nat->Prop} {s s':Sl} {v v':Vm}
theorem C24.gr (h:C24 w W hp q r g vL rs y z R S s v) (g':Gr W W'):C24 w W' hp q r g vL rs y z R S s v:=by
 have hz:=g'.size
 refine ⟨h.gg.trans g',h.tb,h.hb.gr g',h.rt.gr g',h.cy.gr g',h.vm.gr g',h.ok,h.fr,h.dj,fun b hb=>?_⟩
 obtain ⟨a1,a2,a3⟩:=h.lo b hb
 exact ⟨a1,by omega,a3⟩
theorem C24.step (h:C24 w W hp q r g vL rs y z R S s v):Calls Tryz.prog 38 #[.pointer (some ⟨y,0,none⟩)] W fun e W'=>e=.returned (.tuple #[.bool (decide (s.ft<s.mv.length)),.int .i64 0])/\∃ S' v',C24 w W' hp q r g vL rs y z R S' s.step v':=by
 have hlow:∀ b,R b\/S b->w.heap.size<=b:=fun b hb=>(h.lo b hb).1
 have htl:=h.tb.lt
 refine (sl_step slA_j h.cy h.ok h.fr (h.gg.tab h.tb.lt h.tb) (fun h'=>by have:=hlow _ (.inr h');omega) (fun h'=>by have:=hlow _ (.inl h');omega) h.vm h.dj).mono ?_
 rintro e W' ⟨v',rfl,ha⟩
 have hz:=ha.t.size
 have hhp:=h.hb.lt
 have hrl:=h.rt.lt
 refine ⟨rfl,cutS (plus S W) W',v',((h.gg.touch (fun _=>False)).trans' ha.t (fun b hb hh=>by have:=hlow b hh;omega)).gr,h.tb,h.hb.touch ha.t (fun hh=>(h.lo _ hh).2.2.1 rfl),h.rt.touch ha.t (fun hh=>(h.lo _ hh).2.2.2.1 rfl) (fun hh=>(h.lo _ hh).2.2.2.2 rfl),ha.cy,ha.vm.cut,ha.ok,ha.j,fun b hb hS=>?_,fun b hb=>?_⟩
 ·have h1:=h.cy.od.lt b hb
  rcases hS.1 with h2 | h2
  ·exact h.dj b hb h2
  ·omega
 ·have hgs:=h.gg.size
  rcases hb with hb | ⟨hb | hb,hl⟩
  ·obtain ⟨a1,a2,a3⟩:=h.lo b (.inl hb)
   exact ⟨a1,by omega,a3⟩
  ·obtain ⟨a1,a2,a3⟩:=h.lo b (.inr hb)
   exact ⟨a1,by omega,a3⟩
  ·exact ⟨by omega,hl,by omega,by omega,by omega⟩
end
def x24:LaidC:=⟨2,[⟨0,0,3⟩,⟨0,0,3⟩,⟨0,0,3⟩],[],[1],1,0,0⟩
theorem x24_k:x24.k=3/\x24.page=4/\x24.at 1=8/\x24.top=16/\x24.rs=[8]/\x24.n=1028/\x24.cf=⟨4,16,516,1028,2,1,0⟩:=by
 have h:x24.k=3/\x24.page=4/\x24.at 1=8/\x24.top=16/\x24.rs=[8]/\x24.n=1028:=by decide +kernel
 refine ⟨h.1,h.2.1,h.2.2.1,h.2.2.2.1,h.2.2.2.2.1,h.2.2.2.2.2,?_⟩
 unfold LaidC.cf
 rw [h.2.1,h.2.2.2.1];rfl
theorem live24 {v0:Vm} {rm:Nat} (h:Run24 x24 rm v0):Marks (layC x24 v0) x24.rs x24.n [(8,4)]:=by
 obtain ⟨e1,e2,e3,e5,e6,e7,-⟩:=x24_k
 have hL:=laid_in h.ok h.map
 obtain ⟨p,f,c,e,h1,h2,h3⟩:=hL.ob h.map (j:=1) (by rw [e1];decide)
 rw [e3] at h1 h2 h3
 have e:(⟨0,0,3⟩:Hdr)=⟨p,f,c⟩:=e
 simp only [Hdr.mk.injEq] at e
 have hp:p=0/\f=0/\c=3:=by omega
 obtain ⟨rfl,rfl,rfl⟩:=hp
 rw [e6,e7]
 have hr:Rch (layC x24 v0) [8] 8:=Rch.root (List.mem_singleton.2 rfl) (by decide)
 refine Marks.of ⟨⟨by simp,fun o ho=>?_⟩,fun o ho=>?_⟩ (fun r hr _=>?_) (fun o ho=>?_)
 ·rw [List.mem_singleton.1 ho];simp
 ·rw [List.mem_singleton.1 ho];exact ⟨hr,h1,h3.symm⟩
 ·rw [List.mem_singleton.1 hr];exact ⟨(8,4),List.mem_singleton.2 rfl,rfl⟩
 ·rw [List.mem_singleton.1 ho]
  intro i hi
  have hi:(i:Int)<((layC x24 v0).rdH ((8:Nat):Int)).p:=hi
  rw [h2] at hi
  have hi:(i:Int)<0:=hi
  omega
theorem heapS_L (x:LaidC) (v:Vm) (L:List Ob) (q r:Nat) (vL:Value) (h:v.pl.pg=x.page):heapS (slNew v x.cf L) q r vL=heapL x q r vL:=by
 unfold heapS heapL
 rw [show (slNew v x.cf L).pg=x.page from h]
 rfl
theorem live24_open {w W W':World} {v0:Vm} {hp q r g:Nat} {A:Option Addr} {c:Nat} {SV:Nat->Prop} (hT:TabAt w) (hg:Gr w W) (hr:Run24 x24 (x24.room+0) v0) (hV:VmAt W SV q (layC x24 v0)) (hR:RtAt W r g x24.rs) (hH:Rec W hp 37 (heapL x24 q r (.slice A x24.n c)))
  (hsv:∀ i,SV i->w.heap.size<=i/\i<W.heap.size) (h1:¬ SV hp) (h2:¬ SV r) (h3:¬ SV g) (hl:w.heap.size<=hp/\w.heap.size<=r/\w.heap.size<=g) (hgW:Gr W W'):
  Calls Tryz.prog 47 #[.pointer (some ⟨q,0,none⟩),.pointer (some ⟨r,0,none⟩),cfV x24.cf] W' fun e w2=>Touch (fun b=>b=g\/SV b) W' w2/\∃ y z R S s v,e=.returned (.tuple #[.pointer (some ⟨y,0,none⟩),.int .i64 0])/\C24 w w2 hp q r g (.slice A x24.n c) [516] y z R S s v/\s.L=[(8,4)]/\s.pg=4/\s.cf=⟨4,16,516,1028,2,1,0⟩/\s.mv=[false,false]/\v.pt.length*4=1028:=by
 obtain ⟨L,u,hO⟩:=open24 hr
 have hs:=hr.stays (Stays.layC hr.ok x24)
 obtain ⟨e1,e2,e3,e5,e6,e7,e8⟩:=x24_k
 have hgh:hp≠g:=fun e=>(own_ne hR.row hH (by decide) rfl rfl) e.symm
 have hrg:=hR.dif
 have hrh:hp≠r:=own_ne hH hR.rcd (by decide) rfl rfl
 have hLe:L=[(8,4)]:=by
  have h1:=hO.inn.1
  rw [hO.n] at h1
  exact h1.unique (live24 hr)
 subst hLe
 have hrm:(x24.cf.tp-x24.cf.fr+x24.page-1)/x24.page+(x24.cf.ah+1)*max 1 (x24.cf.bk/x24.page)+1<=(layC x24 v0).pl.rm:=by
  rw [hs.rm];exact Nat.le_refl x24.room
 have h8:x24.rs.map (toV [(8,4)] x24.cf.to)=[516]:=by rw [e6,e8];decide +kernel
 have hH':Rec W hp 37 (heapS (slNew (layC x24 v0) x24.cf [(8,4)]) q r (.slice A x24.n c)):=by rw [heapS_L x24 _ _ q r _ hO.pg];exact hH
 obtain ⟨v,hv⟩:∃ v,v=layC x24 v0:=⟨_,rfl⟩
 rw [<-hv] at hO hV hrm hH'
 have htl:=hT.lt
 have hgs:=hg.size
 have hzW:=hgW.size
 have hrl:=hR.lt
 have hhl:=hH.lt
 refine (sl_open (c:=x24.cf) (hV.gr hgW) (hR.gr hgW) ((hg.trans hgW).tab htl hT) (fun h=>by have:=(hsv _ h).1;omega) h2 h3 hO.cf (by omega)).mono (fun e w2 h=>?_)
 obtain ⟨ht,y,z,R,S',v',j,rfl,hcy,hvm,hS,hRR,hU,hq,hrt⟩:=open_yes hO.inn hO.fit h
 have hz2:=ht.size
 have hgl:∀ b,(b=g\/SV b)->w.heap.size<=b:=fun b hb=>by
  rcases hb with rfl | hb
  ·exact hl.2.2
  ·exact (hsv _ hb).1
 refine ⟨ht,y,z,R,cutS S' w2,slNew v x24.cf [(8,4)],v',rfl,⟨?_,hT,?_,?_,hcy,hvm.cut,slNew_ok hO.ok hO.cf hO.inn hO.fit hO.full hU,slNew_A (slNew_pages hO.ok hO.cf hO.inn hO.fit hO.full hU hq hO.map) ?_,fun b hb h=>(hRR b hb).2 h.1,fun b hb=>?_⟩,rfl,?_,e8,?_,?_⟩
 ·exact (((hg.trans hgW).touch (fun _=>False)).trans' ht (fun b hb h=>by have:=hgl b h;omega)).gr
 ·exact (hH'.gr hgW).touch ht (fun h=>h.elim hgh h1)
 ·rw [h8] at hrt
  exact hrt
 ·rw [hU.rm,hO.pg]
  exact hrm
 ·have key:(SV b\/W.heap.size<=b)/\b<w2.heap.size:=by
   rcases hb with hb | hb
   ·have h1:=(hRR b hb).1
    exact ⟨.inr (by omega),hcy.od.lt b hb⟩
   ·refine ⟨?_,hb.2⟩
    rcases hS b hb.1 with h1 | h1
    ·exact .inl h1
    ·exact .inr (by omega)
  obtain ⟨k1,k2⟩:=key
  rcases k1 with hk | hk
  ·exact ⟨(hsv _ hk).1,k2,(fun e=>by subst e;exact h1 hk),(fun e=>by subst e;exact h2 hk),(fun e=>by subst e;exact h3 hk)⟩
  ·exact ⟨by omega,k2,by omega,by omega,by omega⟩
 ·exact hO.pg.trans e2
 ·show List.replicate (nbl (sizes [(8,4)]) x24.cf.bk) false=_
  rw [e8];rfl
 ·have:=hU.ok.np
  rw [hU.n,hU.pg,hO.n,hO.pg,e2,e7] at this
  exact this.symm
theorem page24 {s:Sl} {v:Vm} (ho:SlOk s v) (hA:SlA s v) (hL:s.L=[(8,4)]) (hp:s.pg=4) (hc:s.cf=⟨4,16,516,1028,2,1,0⟩) (hn:v.pt.length*4=1028) {p:Nat} (hpl:p<257) {b:Bool}
  (hb:(decide (0<p)&&((decide (p*4<516)&&(List.range 4).any fun i=>(srcO [(8,4)] i/4==p)&&!at_ s.mv (i/2))||(List.range 4).any fun i=>((516+i)/4==p)&&at_ s.mv (i/2)))=b):(frE v.pt (p:Int)==0)=b:=by
 have h1:=SlA.page hA ho (p:=p) (by omega)
 rcases h1 with h | h
 ·rw [h,<-hb]
  unfold Sl.owesB Sl.hasB Sl.is
  rw [hL,hp,hc]
  rfl
 ·rw [hc] at h
  exact absurd (by decide) h
set_option maxRecDepth 100000 in
set_option maxHeartbeats 6400000 in
theorem lives24 {w:World} (hT:TabAt w):Gets Tryz.prog 35 #[] w (.bool true):=by
 have HT:=hid hT
 clear hT
 unfold Gets
 go_enter Tryz.func35,Tryz.ntmps35
 have g1:Gr w ((w.alloc (.cells #[.int .i64 0,.int .i64 0,.int .i64 3,.int .i64 0,.int .i64 0,.int .i64 3,.int .i64 0,.int .i64 0,.int .i64 3] 90)).alloc (.cells #[.int .u8 1] 5)):=((Gr.refl w).alloc _).alloc _
 have r1:=(Rec.new w 90 [.int .i64 0,.int .i64 0,.int .i64 3,.int .i64 0,.int .i64 0,.int .i64 3,.int .i64 0,.int .i64 0,.int .i64 3]).gr ((Gr.refl _).alloc (.cells #[.int .u8 1] 5))
 have r2:=new2 w (.cells #[.int .i64 0,.int .i64 0,.int .i64 3,.int .i64 0,.int .i64 0,.int .i64 3,.int .i64 0,.int .i64 0,.int .i64 3] 90) 5 [.int .u8 1]
 have HL:=hid (lay24_walk (w:=((w.alloc (.cells #[.int .i64 0,.int .i64 0,.int .i64 3,.int .i64 0,.int .i64 0,.int .i64 3,.int .i64 0,.int .i64 0,.int .i64 3] 90)).alloc (.cells #[.int .u8 1] 5))) (x:=x24) (A1:=some ⟨w.heap.size,0,none⟩) (A2:=none) (A3:=some ⟨w.heap.size+1,0,none⟩) (c1:=3) (c2:=0) (c3:=1) (more:=0)
  ⟨fun i hi=>by
    have hi:i<3:=hi
    refine ⟨w.heap.size,0,rfl,r1.lt,?_⟩
    rcases (by omega:i=0\/i=1\/i=2) with rfl | rfl | rfl
    ·exact ⟨r1.cell (j:=0) rfl,r1.cell (j:=1) rfl,r1.cell (j:=2) rfl⟩
    ·exact ⟨r1.cell (j:=3) rfl,r1.cell (j:=4) rfl,r1.cell (j:=5) rfl⟩
    ·exact ⟨r1.cell (j:=6) rfl,r1.cell (j:=7) rfl,r1.cell (j:=8) rfl⟩,fun i hi=>absurd hi (Nat.not_lt_zero _),fun i hi=>by
    have hi:i<1:=hi
    refine ⟨w.heap.size+1,0,rfl,r2.lt,?_⟩
    obtain rfl:i=0:=by omega
    exact ⟨show (1:Nat)<256 by decide,r2.cell (j:=0) rfl⟩,by decide,by decide,by decide,by decide,by decide,by decide,by decide⟩ (by decide))
 have HG1:=hid g1
 clear g1 r1 r2
 unfold laidV at HL
 go_upto_region 4 with (go_at_call 13;refine HL.out.mono ?_;rintro e w1 ⟨hp,q,r,g,A,c,v0,SV,rfl,hg1,hrn,hz0,hvm,hrt,hrec,hwr,hsv,hs1,hs2,hs3,hs4,hs5⟩;have HG:=hid (HG1.out.trans hg1);have HV:=hid hvm;have HRN:=hid hrn;have HRT:=hid hrt;have HRC:=hid hrec;have HSV:=hid (And.intro hsv (And.intro hs1 (And.intro hs2 (And.intro hs3 hs4))));clear hg1 hrn hz0 hvm hrt hrec hwr hsv hs1 hs2 hs3 hs4 hs5)
 have hzz:=HG1.out.size
 have HCR:=hid (fun (W':World) (g':Gr w1 W')=>live24_open HT.out HG.out HRN.out HV.out HRT.out HRC.out (fun i hi=>by have:=HSV.out.1 i hi;omega) HSV.out.2.1 HSV.out.2.2.1 HSV.out.2.2.2.1 (by have:=HSV.out.2.2.2.2;omega) g')
 have HRK:Hid (∀ W W',Gr w1 W->Touch (fun b=>b=g\/SV b) W W'->Rec W' hp 37 (heapL x24 q r (.slice A x24.n c))):=⟨fun W W' hW t=>(HRC.out.gr hW).touch t (fun h=>by
  rcases h with h | h
  ·exact own_ne HRT.out.row HRC.out (by decide) rfl rfl h.symm
  ·exact HSV.out.2.1 h)⟩
 unfold heapL at HRC HRK
 unfold cfV at HCR
 obtain ⟨cf,hcf⟩:∃ cf,cf=x24.cf:=⟨_,rfl⟩
 obtain ⟨pg,hpg⟩:∃ pg,pg=x24.page:=⟨_,rfl⟩
 obtain ⟨nn,hnn⟩:∃ nn,nn=x24.n:=⟨_,rfl⟩
 rw [<-hcf,<-hpg,<-hnn] at HRC HRK
 rw [<-hcf,<-hnn] at HCR
 clear hcf hpg hnn
 obtain ⟨Sx,hSx⟩:∃ Sx:World->Prop,Sx=fun W'=>Rec W' hp 37 [.pointer (some ⟨q,0,none⟩),.pointer (some ⟨r,0,none⟩),.int .i64 cf.fr,.int .i64 cf.tp,.int .i64 cf.to,.int .i64 cf.lm,.int .i64 cf.bk,.int .i64 cf.st,.int .i64 cf.ah,.slice A nn c,.int .i64 (pg:Nat)]:=⟨_,rfl⟩
 have y0:∀ p:Held Sx,p.w.cell? ⟨hp,0,none⟩=some (.pointer (some ⟨q,0,none⟩)):=fun p=>by have h:=Held.get hSx p;exact h.cell (j:=0) rfl
 have y1:∀ p:Held Sx,p.w.cell? ⟨hp,1,none⟩=some (.pointer (some ⟨r,0,none⟩)):=fun p=>by have h:=Held.get hSx p;exact h.cell (j:=1) rfl
 have y2:∀ p:Held Sx,p.w.cell? ⟨hp,2,none⟩=some (.int .i64 cf.fr):=fun p=>by have h:=Held.get hSx p;exact h.cell (j:=2) rfl
 have y3:∀ p:Held Sx,p.w.cell? ⟨hp,3,none⟩=some (.int .i64 cf.tp):=fun p=>by have h:=Held.get hSx p;exact h.cell (j:=3) rfl
 have y4:∀ p:Held Sx,p.w.cell? ⟨hp,4,none⟩=some (.int .i64 cf.to):=fun p=>by have h:=Held.get hSx p;exact h.cell (j:=4) rfl
 have y5:∀ p:Held Sx,p.w.cell? ⟨hp,5,none⟩=some (.int .i64 cf.lm):=fun p=>by have h:=Held.get hSx p;exact h.cell (j:=5) rfl
 have y6:∀ p:Held Sx,p.w.cell? ⟨hp,6,none⟩=some (.int .i64 cf.bk):=fun p=>by have h:=Held.get hSx p;exact h.cell (j:=6) rfl
 have y7:∀ p:Held Sx,p.w.cell? ⟨hp,7,none⟩=some (.int .i64 cf.st):=fun p=>by have h:=Held.get hSx p;exact h.cell (j:=7) rfl
 have y8:∀ p:Held Sx,p.w.cell? ⟨hp,8,none⟩=some (.int .i64 cf.ah):=fun p=>by have h:=Held.get hSx p;exact h.cell (j:=8) rfl
 have HS:Hid (∀ W',Rec W' hp 37 [.pointer (some ⟨q,0,none⟩),.pointer (some ⟨r,0,none⟩),.int .i64 cf.fr,.int .i64 cf.tp,.int .i64 cf.to,.int .i64 cf.lm,.int .i64 cf.bk,.int .i64 cf.st,.int .i64 cf.ah,.slice A nn c,.int .i64 (pg:Nat)]->Sx W'):=⟨fun W' h=>by rw [hSx];exact h⟩
 have hS0:=HS.out _ (HRC.out.gr (Gr.refl w1).drew)
 have inst:Inhabited (Held Sx):=⟨⟨_,hS0⟩⟩
 clear hSx
 refine wp_region_mixS Sx 18 [([0,1,2,3,4,5,6,7,8,9,10,11],12)] [13,14,15,16,17] (by kernel_rfl) (by kernel_rfl) hS0 ?_
 refine segs_step ?_
 try simp only [opsAt,List.getElem?_cons_zero,List.getElem?_cons_succ]
 repeat (go_big_quiet_step (fail))
 refine wpQuiet_nil ?_
 go_wp2_with ((go_at_call 47;refine (HCR.out _ (Gr.refl w1).drew).mono ?_;rintro e w2 ⟨ht2,y,z,R,S,s,v,rfl,hc2,eL,ep,ec,em,en⟩;have HT2:=hid ht2;have HC2:=hid hc2;have HE:=hid (And.intro eL (And.intro ep (And.intro ec (And.intro em en))));clear ht2 hc2 eL ep ec em en))
 refine ⟨.inr (Held.of (HS.out _ (HRK.out _ _ (Gr.refl w1).drew HT2.out))),?_⟩
 refine segs_end ?_
 try simp only [opsAt,List.getElem?_cons_zero,List.getElem?_cons_succ]
 repeat (go_big_quiet_step (fail))
 refine wpQuiet_nil ?_
 refine NoPanic.normal ?_
 clear y0 y1 y2 y3 y4 y5 y6 y7 y8 hS0 inst
 clear HS Sx
 obtain ⟨eL,ep,ec,em,en⟩:=HE.out
 have HBK:Hid (∀ W',Gr w2 W'->Calls Tryz.prog 42 #[.pointer (some ⟨y,0,none⟩)] W' fun e w'=>e=.returned (.int .i64 2)/\W'=w'):=⟨fun W' g=>by
  have:=sl_blocks (HC2.out.gr g).cy
  rw [em] at this
  exact this⟩
 have HM1:Hid (∀ W',Gr w2 W'->Calls Tryz.prog 34 #[.pointer (some ⟨q,0,none⟩),.int .i64 1] W' fun e w'=>e=.returned (.bool false)/\Gr W' w'):=⟨fun W' g=>by
  have h1:=page24 HC2.out.ok HC2.out.fr eL ep ec en (p:=1) (by omega) (b:=false) (by rw [em];decide +kernel)
  have h2:=vm_mapped (HC2.out.gr g).vm (1:Int)
  rw [show ((1:Nat):Int)=1 from rfl] at h1
  rw [h1] at h2
  exact h2⟩
 have HM2:Hid (∀ W',Gr w2 W'->Calls Tryz.prog 34 #[.pointer (some ⟨q,0,none⟩),.int .i64 2] W' fun e w'=>e=.returned (.bool true)/\Gr W' w'):=⟨fun W' g=>by
  have h1:=page24 HC2.out.ok HC2.out.fr eL ep ec en (p:=2) (by omega) (b:=true) (by rw [em];decide +kernel)
  have h2:=vm_mapped (HC2.out.gr g).vm (2:Int)
  rw [show ((2:Nat):Int)=2 from rfl] at h1
  rw [h1] at h2
  exact h2⟩
 have HS1:Hid (∀ W',Gr w2 W'->Calls Tryz.prog 38 #[.pointer (some ⟨y,0,none⟩)] W' fun e w'=>e=.returned (.tuple #[.bool true,.int .i64 0])/\∃ S' v',C24 w w' hp q r g (.slice A nn c) [516] y z R S' s.step v'):=⟨fun W' g=>by
  have:=(HC2.out.gr g).step
  rw [show decide (s.ft<s.mv.length)=true by show decide (ftL s.mv<s.mv.length)=true;rw [em];decide +kernel] at this
  exact this⟩
 have em1:s.step.mv=[true,false]:=by show stepL s.mv=_;rw [em];decide +kernel
 have em2:s.step.step.mv=[true,true]:=by show stepL s.step.mv=_;rw [em1];decide +kernel
 have HS2:Hid (∀ W' S' v',C24 w W' hp q r g (.slice A nn c) [516] y z R S' s.step v'->Calls Tryz.prog 38 #[.pointer (some ⟨y,0,none⟩)] W' fun e w'=>e=.returned (.tuple #[.bool true,.int .i64 0])/\∃ S2 v2,C24 w w' hp q r g (.slice A nn c) [516] y z R S2 s.step.step v2):=⟨fun W' S' v' hc=>by
  have:=hc.step
  rw [show decide (s.step.ft<s.step.mv.length)=true by show decide (ftL s.step.mv<s.step.mv.length)=true;rw [em1];decide +kernel] at this
  exact this⟩
 have HEM:=hid em2
 have hb2:=(HC2.out.hb).cell (j:=0) rfl
 have hbl:=HC2.out.hb.lt
 have HC0:=hid (fun (W':World) (g:Gr w2 W')=>(HC2.out.gr g).hb.cell (j:=0) rfl)
 clear eL ep ec em en em1 em2
 go_upto_region 7 with (first
  | (go_at_call 42;refine (HBK.out _ (Gr.refl w2)).mono ?_;rintro e w3 ⟨rfl,rfl⟩)
  | (go_at_call 34;with_reducible refine (HM1.out _ (Gr.refl w2)).mono ?_;rintro e w3 ⟨rfl,hg3⟩;have HG3:=hid hg3;have hb2:=HC0.out _ hg3;have hbl:=lt_cell hb2;clear hg3)
  | (go_at_call 34;with_reducible refine (HM2.out _ HG3.out).mono ?_;rintro e w4 ⟨rfl,hg4⟩;have HG4:=hid (HG3.out.trans hg4);clear hg4))
 clear hb2 hbl
 go_upto_region 8 with (go_at_call 38;refine (HS1.out _ HG4.out).mono ?_;rintro e w5 ⟨rfl,S5,v5,hc5⟩;have HC5:=hid hc5;clear hc5)
 go_upto_region 9 with (go_at_call 38;refine (HS2.out _ _ _ HC5.out).mono ?_;rintro e w6 ⟨rfl,S6,v6,hc6⟩;have HC6:=hid hc6;clear hc6)
 obtain ⟨eL,ep,ec,em,en⟩:=HE.out
 have em2:=HEM.out
 have eto:s.cf.to=516:=by rw [ec]
 have hz1:=HC6.out.hb.cell (j:=1) rfl
 have hzl:=HC6.out.hb.lt
 have HGT:=hid (rt_get HC6.out.rt (i:=0) (by decide))
 have HDN:Hid (∀ W',Gr w6 W'->Calls Tryz.prog 44 #[.pointer (some ⟨y,0,none⟩)] W' fun e w'=>e=.returned (.bool true)/\W'=w'):=⟨fun W' g=>by
  have:=sl_done (HC6.out.gr g).cy
  rw [show decide (s.step.step.lf=0)=true by
   show decide (s.step.step.mv.length-mvdL s.step.step.mv=0)=true
   rw [em2];decide +kernel] at this
  exact this⟩
 have HM3:Hid (∀ W',Gr w6 W'->Calls Tryz.prog 34 #[.pointer (some ⟨q,0,none⟩),.int .i64 2] W' fun e w'=>e=.returned (.bool false)/\Gr W' w'):=⟨fun W' g=>by
  have hn6:v6.pt.length*4=1028:=by
   have h1:=HC6.out.ok.mid.ok.np
   have h2:=HC2.out.ok.mid.ok.np
   have h3:v6.n=s.n:=HC6.out.ok.mid.n
   have h4:v6.pl.pg=s.pg:=HC6.out.ok.mid.pg
   have h5:=HC2.out.ok.mid.n
   have h6:=HC2.out.ok.mid.pg
   rw [h3,h4,ep] at h1
   rw [h5,h6,ep] at h2
   omega
  have h1:=page24 HC6.out.ok HC6.out.fr eL ep ec hn6 (p:=2) (by omega) (b:=false) (by rw [em2];decide +kernel)
  have h2:=vm_mapped (HC6.out.gr g).vm (2:Int)
  rw [show ((2:Nat):Int)=2 from rfl] at h1
  rw [h1] at h2
  exact h2⟩
 have HC0':Hid (∀ W',Gr w6 W'->W'.cell? ⟨hp,0,none⟩=some (.pointer (some ⟨q,0,none⟩))/\W'.cell? ⟨hp,4,none⟩=some (.int .i64 516)):=⟨fun W' g=>by
  have hb:=(HC6.out.gr g).hb
  have h4:W'.cell? ⟨hp,4,none⟩=some (.int .i64 (s.cf.to:Nat)):=hb.cell (j:=4) rfl
  rw [eto] at h4
  exact ⟨hb.cell (j:=0) rfl,h4⟩⟩
 have HFG:=hid HC6.out.gg
 clear eL ep ec em en em2 eto
 go_wp2_with (first
  | (go_at_call 65;refine HGT.out.mono ?_;rintro e w7 ⟨rfl,hg7⟩;have HG7:=hid hg7;have k0:=(HC0'.out _ hg7).1;have k4:=(HC0'.out _ hg7).2;have kl:=lt_cell k0;clear hg7)
  | (go_at_call 44;refine (HDN.out _ HG7.out).mono ?_;rintro e w8 ⟨rfl,rfl⟩)
  | (go_at_call 34;refine (HM3.out _ HG7.out).mono ?_;rintro e w9 ⟨rfl,hg9⟩;have HG9:=hid hg9;clear hg9))
 go_ret
 exact ⟨rfl,(HFG.out.trans HG7.out).trans HG9.out⟩
end Go.Proofs.YtbmidhlilafgeaaGreatDoor
end
section
namespace Go.Proofs.YtbmidhlilafgeaaGreatDoor
open Go.RowKit Word
def farC (n1 n2 n3:Nat):Bool:=decide (80<n1\/300<n2\/64<n3)
set_option maxRecDepth 100000 in
set_option maxHeartbeats 800000 in
theorem far24 (v0 v4 v5 v6:Value) (A1 A2 A3:Option Addr) (n1 n2 n3 c1 c2 c3:Nat) (w:World):Calls Tryz.prog 14 #[.agg #[v0,.slice A1 n1 c1,.slice A2 n2 c2,.slice A3 n3 c3,v4,v5,v6]] w fun e w'=>e=.returned (.bool (farC n1 n2 n3))/\Gr w w':=by
 have R:=Rec.new w 25 [v0,.slice A1 n1 c1,.slice A2 n2 c2,.slice A3 n3 c3,v4,v5,v6]
 have y0:=R.cell (j:=0) rfl
 have y1:=R.cell (j:=1) rfl
 have y2:=R.cell (j:=2) rfl
 have y3:=R.cell (j:=3) rfl
 have yl:=R.lt
 have HG:=hid ((Gr.refl w).alloc (.cells #[v0,.slice A1 n1 c1,.slice A2 n2 c2,.slice A3 n3 c3,v4,v5,v6] 25))
 have HF:Hid (farC n1 n2 n3=decide (80<n1\/300<n2\/64<n3)):=⟨rfl⟩
 clear R
 by_cases h1:80<n1
 ·have d1:decide ((80:Int)<(n1:Int))=true:=decide_eq_true (by omega)
  have e1:decide (80<n1)=true:=decide_eq_true h1
  have HE:Hid (farC n1 n2 n3=true):=⟨by rw [HF.out];exact decide_eq_true (.inl h1)⟩
  rw [HE.out]
  go_enter Tryz.func14,Tryz.ntmps14
  go_wp2
  go_ret
  exact ⟨rfl,HG.out⟩
 ·have d1:decide ((80:Int)<(n1:Int))=false:=decide_eq_false (by omega)
  have e1:decide (80<n1)=false:=decide_eq_false h1
  by_cases h2:300<n2
  ·have d2:decide ((300:Int)<(n2:Int))=true:=decide_eq_true (by omega)
   have e2:decide (300<n2)=true:=decide_eq_true h2
   have HE:Hid (farC n1 n2 n3=true):=⟨by rw [HF.out];exact decide_eq_true (.inr (.inl h2))⟩
   rw [HE.out]
   go_enter Tryz.func14,Tryz.ntmps14
   go_wp2
   go_ret
   exact ⟨rfl,HG.out⟩
  ·have d2:decide ((300:Int)<(n2:Int))=false:=decide_eq_false (by omega)
   have e2:decide (300<n2)=false:=decide_eq_false h2
   by_cases h3:64<n3
   ·have d3:decide ((64:Int)<(n3:Int))=true:=decide_eq_true (by omega)
    have e3:decide (64<n3)=true:=decide_eq_true h3
    have HE:Hid (farC n1 n2 n3=true):=⟨by rw [HF.out];exact decide_eq_true (.inr (.inr h3))⟩
    rw [HE.out]
    go_enter Tryz.func14,Tryz.ntmps14
    go_wp2
    go_ret
    exact ⟨rfl,HG.out⟩
   ·have d3:decide ((64:Int)<(n3:Int))=false:=decide_eq_false (by omega)
    have e3:decide (64<n3)=false:=decide_eq_false h3
    have HE:Hid (farC n1 n2 n3=false):=⟨by rw [HF.out];exact decide_eq_false (by omega)⟩
    rw [HE.out]
    go_enter Tryz.func14,Tryz.ntmps14
    go_wp2
    go_ret
    exact ⟨rfl,HG.out⟩
end Go.Proofs.YtbmidhlilafgeaaGreatDoor
end
section
namespace Go.Proofs.YtbmidhlilafgeaaGreatDoor
open Go.RowKit Word
def PE24 (w W:World) (hp q r:Nat) (vL:Value) (y ry:Nat) (z:SlAd) (a:RcAd) (R:Nat->Prop) (u:Vm) (ml:List Bool) (cf:Cf) (L:List Ob) (pg N k:Nat):Prop:=
 ∃ (S:Nat->Prop) (s:Sl) (v:Vm),P24 w W hp q r vL y ry z a R S s ml v u/\s.cf=cf/\s.L=L/\s.pg=pg/\s.mv.length=N/\s.lf+k<=N
section
variable {w:World}
set_option maxRecDepth 100000 in
set_option maxHeartbeats 12800000 in
theorem ends24_walk (hT:TabAt w) {A1 A2 A3 Aa:Option Addr} {c1 c2 c3 ca:Nat} {x:LaidC} (hL:LaidCAt w A1 A2 A3 x) {l:List Nat} (hB:U16At w Aa l) (hlm:l.length<=maxLen):
  Gets Tryz.prog 10 #[.agg (laidV x A1 A2 A3 c1 c2 c3).toArray,.slice Aa l.length ca] w (.bool true):=by
 have HT:=hid hT
 have HGB:=hid ((Gr.refl w).alloc (.cells (laidV x A1 A2 A3 c1 c2 c3).toArray 25))
 have hrb:=Rec.new w 25 (laidV x A1 A2 A3 c1 c2 c3)
 obtain ⟨W1,hW1⟩:∃ W1,W1=w.alloc (.cells (laidV x A1 A2 A3 c1 c2 c3).toArray 25):=⟨_,rfl⟩
 rw [<-hW1] at hrb HGB
 have HLY:=hid (lay24_walk (c1:=c1) (c2:=c2) (c3:=c3) (hL.gr HGB.out) (more:=0) (by omega))
 have HFAR:=hid (fun W=>far24 (.int .u8 x.pg) (.int .u8 x.bk) (.int .u8 x.st) (.int .u8 x.ah) A1 A2 A3 x.H.length x.P.length x.R.length c1 c2 c3 W)
 have HUB:=hid (fun (W:World) (g:Gr w W)=>hB.gr g)
 unfold laidV at hW1 hrb HLY ⊢
 have HRB:=hid hrb
 have z0:=hrb.cell (j:=0) rfl
 have z1:=hrb.cell (j:=1) rfl
 have z2:=hrb.cell (j:=2) rfl
 have z3:=hrb.cell (j:=3) rfl
 have z4:=hrb.cell (j:=4) rfl
 have z5:=hrb.cell (j:=5) rfl
 have z6:=hrb.cell (j:=6) rfl
 have zl:=hrb.lt
 obtain ⟨fb,hfb⟩:∃ b,b=farC x.H.length x.P.length x.R.length:=⟨_,rfl⟩
 rw [<-hfb] at HFAR
 clear hT hL hrb hfb hB
 obtain ⟨N1,hN1⟩:∃ N,N=x.H.length:=⟨_,rfl⟩
 obtain ⟨N2,hN2⟩:∃ N,N=x.P.length:=⟨_,rfl⟩
 obtain ⟨N3,hN3⟩:∃ N,N=x.R.length:=⟨_,rfl⟩
 obtain ⟨NA,hNA⟩:∃ N,N=l.length:=⟨_,rfl⟩
 have HNA:=hid hNA
 rw [<-hN1,<-hN2,<-hN3] at HLY HFAR HRB
 rw [<-hN1,<-hN2,<-hN3,<-hNA]
 rw [<-hNA] at hlm
 rw [<-hN1] at z1 hW1
 rw [<-hN2] at z2 hW1
 rw [<-hN3] at z3 hW1
 have HWL:=hid hW1
 have hNAb:NA<=9223372036854775807:=by unfold maxLen at hlm;omega
 clear hN1 hN2 hN3 hNA hlm
 unfold Gets
 go_enter Tryz.func10,Tryz.ntmps10
 go_upto_region 1 with (fail)
 rw [show w.alloc (.cells #[.int .u8 x.pg,.slice A1 N1 c1,.slice A2 N2 c2,.slice A3 N3 c3,.int .u8 x.bk,.int .u8 x.st,.int .u8 x.ah] 25)=W1 from hW1.symm]
 clear hW1 HWL
 go_upto_region 2 with (go_at_call 13;refine HLY.out.mono ?_;rintro e w1 ⟨hp,q,r,g,A,c,v0,SV,rfl,hg1,hrn,hz0,hvm,hrt,hrec,hwr,hsv,hs1,hs2,hs3,hs4,hs5⟩;have HG:=hid (HGB.out.trans hg1);have HV:=hid hvm;have HRN:=hid hrn;have HRT:=hid hrt;have HRC:=hid hrec;have HWR:=hid hwr;have HSV:=hid (And.intro hsv (And.intro hs1 (And.intro hs2 (And.intro hs3 (And.intro hs4 hs5)))));have HB1:=hid (HRB.out.gr hg1);clear hg1 hrn hz0 hvm hrt hrec hwr hsv hs1 hs2 hs3 hs4 hs5)
 clear z0 z1 z2 z3 z4 z5 z6 zl
 have z0:=HB1.out.cell (j:=0) rfl
 have z1:=HB1.out.cell (j:=1) rfl
 have z2:=HB1.out.cell (j:=2) rfl
 have z3:=HB1.out.cell (j:=3) rfl
 have z4:=HB1.out.cell (j:=4) rfl
 have z5:=HB1.out.cell (j:=5) rfl
 have z6:=HB1.out.cell (j:=6) rfl
 have zl:=HB1.out.lt
 have HGX:=hid (Gr.refl w1)
 have dbig:fb=true\/fb=false:=by cases fb <;> simp
 cases fb with
 | true=>
  clear dbig
  go_wp2_with (first
   | (go_at_call 14;refine (HFAR.out _).mono ?_;rintro e w2 ⟨rfl,hg2⟩;have HG:=hid (HG.out.trans hg2);have HB1:=hid (HB1.out.gr hg2);have z0:=HB1.out.cell (j:=0) rfl;have z1:=HB1.out.cell (j:=1) rfl;have z2:=HB1.out.cell (j:=2) rfl;have z3:=HB1.out.cell (j:=3) rfl;have z4:=HB1.out.cell (j:=4) rfl;have z5:=HB1.out.cell (j:=5) rfl;have z6:=HB1.out.cell (j:=6) rfl;have zl:=HB1.out.lt;clear hg2)
   | (go_at_call 35;refine (lives24 (HG.out.tab HT.out.lt HT.out)).mono ?_;rintro e w4 ⟨rfl,hg4⟩;have HG:=hid (HG.out.trans hg4);clear hg4))
  go_ret
  exact ⟨rfl,HG.out⟩
 | false=>
  clear dbig
  by_cases hbig:200<NA
  ·have hbI:(200:Int)<(NA:Int):=by omega
   clear hbig
   go_wp2_with (first
    | (go_at_call 14;refine (HFAR.out _).mono ?_;rintro e w2 ⟨rfl,hg2⟩;have HG:=hid (HG.out.trans hg2);have HB1:=hid (HB1.out.gr hg2);have z0:=HB1.out.cell (j:=0) rfl;have z1:=HB1.out.cell (j:=1) rfl;have z2:=HB1.out.cell (j:=2) rfl;have z3:=HB1.out.cell (j:=3) rfl;have z4:=HB1.out.cell (j:=4) rfl;have z5:=HB1.out.cell (j:=5) rfl;have z6:=HB1.out.cell (j:=6) rfl;have zl:=HB1.out.lt;clear hg2)
    | (go_at_call 35;refine (lives24 (HG.out.tab HT.out.lt HT.out)).mono ?_;rintro e w4 ⟨rfl,hg4⟩;have HG:=hid (HG.out.trans hg4);clear hg4))
   go_ret
   exact ⟨rfl,HG.out⟩
  ·have hbI:¬ (200:Int)<(NA:Int):=by omega
   clear hbig
   go_upto_region 4 with (go_at_call 14;refine (HFAR.out _).mono ?_;rintro e w2 ⟨rfl,hg2⟩;have HG:=hid (HG.out.trans hg2);have HG12:=hid hg2;clear hg2)
   clear z0 z1 z2 z3 z4 z5 z6 zl
   have hO24:=open24 HRN.out
   obtain ⟨L,u,hO⟩:=hO24
   have HO:=hid hO
   have HOPN:Hid (Calls Tryz.prog 36 #[.pointer (some ⟨hp,0,none⟩)] w2 (OpenedEnd w hp q r (.slice A x.n c) x (layC x v0) L u)):=⟨by
    obtain ⟨k1,k2,k3,k4,k5,k6⟩:=HSV.out
    have hwz:=HGB.out.size
    have hz12:=HG12.out.size
    refine opened24 HT.out HG.out HRN.out HO.out (HV.out.gr HG12.out) (HRT.out.gr HG12.out) (HRC.out.gr HG12.out) (HWR.out.gr HG12.out) (fun i hi=>?_) k2 k3 k4 (by omega) (fun b hb=>?_)
    ·have:=k1 i hi;omega
    ·have h6:=k6 b hb
     refine ⟨by omega,h6.2,?_⟩
     exact words_ne24 HWR.out HRT.out hb⟩
   clear hO
   go_upto_region 5 with (go_at_call 36;refine HOPN.out.mono ?_;rintro e w3 ⟨y,ry,z,a,R,S,v,rfl,hP3⟩;have HP3:=hid hP3;clear hP3)
   have HPE:Hid (PE24 w w3 hp q r (.slice A x.n c) y ry z a R u (slNew (layC x v0) x.cf L).mv x.cf L (layC x v0).pl.pg (slNew (layC x v0) x.cf L).mv.length 0):=⟨⟨S,_,v,HP3.out,rfl,rfl,rfl,rfl,by unfold Sl.lf;omega⟩⟩
   have HBL:=hid (sl_blocks HP3.out.cy)
   have hNb:=HP3.out.mlen
   have hfit:=HP3.out.ok.st.fit
   have hlnn:=HP3.out.ok.st.cf.ln
   have hnn2:=HP3.out.ok.st.n2
   have hpgb:1<=(layC x v0).pl.pg/\(layC x v0).pl.pg<=256:=HP3.out.ok.st.pg
   have hfit:x.cf.to+sizes L<=x.cf.lm:=hfit
   have hlnn:x.cf.lm<=(layC x v0).n:=hlnn
   have hnn2:(layC x v0).n<=524288:=hnn2
   obtain ⟨ml,hml⟩:∃ ml,ml=(slNew (layC x v0) x.cf L).mv:=⟨_,rfl⟩
   obtain ⟨pg,hpg⟩:∃ pg,pg=(layC x v0).pl.pg:=⟨_,rfl⟩
   obtain ⟨tob,htob⟩:∃ t,t=x.cf.to:=⟨_,rfl⟩
   obtain ⟨Z,hZ⟩:∃ Z,Z=sizes L:=⟨_,rfl⟩
   have HTZ:=hid (And.intro htob hZ)
   rw [<-hml,<-hpg] at HPE
   rw [<-hml] at HBL hNb
   rw [<-hpg] at hpgb
   rw [<-htob,<-hZ] at hfit
   have htbb:tob+Z<=524288:=by omega
   obtain ⟨N,hN⟩:∃ N,N=ml.length:=⟨_,rfl⟩
   rw [<-hN] at HPE HBL hNb
   clear hml hpg htob hZ hN hfit hlnn hnn2 HP3
   go_upto_region 8 with (go_at_call 42;refine (HBL.out).mono ?_;rintro e w4 ⟨rfl,rfl⟩)
   go_loopw [60] (fun s60 wr=>∃ k:Nat,k<=N/\Hid (PE24 w wr hp q r (.slice A x.n c) y ry z a R u ml x.cf L pg N k)/\s60=.int .i64 k) (fun s60 _=>N-(intOf s60).toNat)
   case atStart=>exact ⟨0,Nat.zero_le _,HPE,rfl⟩
   case round=>
    clear HPE HBL
    obtain ⟨k,hk,HPE,rfl⟩:=hrel
    obtain ⟨S',s,v',hP,ecf,eL,epg,emv,elf⟩:=HPE.out
    have HPs:=hid hP
    have HEs:=hid (And.intro ecf (And.intro eL (And.intro epg (And.intro emv elf))))
    have hGw:=hP.g
    have HGw:=hid hGw
    clear hP ecf eL epg emv elf
    by_cases hlt:k<N
    ·have hkI:(k:Int)<(N:Int):=by omega
     have HLT:=hid hlt
     have HST:Hid (∀ W' S1 s1 v1,P24 w W' hp q r (.slice A x.n c) y ry z a R S1 s1 ml v1 u->s1.cf=x.cf/\s1.L=L/\s1.pg=pg/\s1.mv.length=N/\s1.lf+k<=N->∀ mvd,mvd=decide (s1.ft<s1.mv.length)->∀ l1,l1=s1.lf->(∀ W2,Gr W' W2->Calls Tryz.prog 43 #[.pointer (some ⟨y,0,none⟩)] W2 fun e w'=>e=.returned (.int .i64 l1)/\W2=w')/\(decide ((0:Int)<(l1:Int))=mvd)/\l1<=1048576/\Calls Tryz.prog 38 #[.pointer (some ⟨y,0,none⟩)] W' fun e W2=>e=.returned (.tuple #[.bool mvd,.int .i64 0])/\PE24 w W2 hp q r (.slice A x.n c) y ry z a R u ml x.cf L pg N (k+1)/\∃ l2:Nat,(mvd=true->(l2:Int)=(l1:Int)-1)/\∀ W3,Gr W2 W3->Calls Tryz.prog 43 #[.pointer (some ⟨y,0,none⟩)] W3 fun e w'=>e=.returned (.int .i64 l2)/\W3=w'):=⟨fun W' S1 s1 v1 hp1 hs1 mvd hmvd l1 hl1=>by
      obtain ⟨t1,t2,t3,t4,t5⟩:=hs1
      have hz:=s1.lf_zero
      refine ⟨fun W2 g=>by rw [hl1];exact sl_left (hp1.gr g).cy,?_,by have:=hp1.mlen;rw [hl1];unfold Sl.lf;omega,hp1.stepA.mono ?_⟩
      ·rw [hmvd,hl1]
       by_cases h0:s1.lf=0
       ·rw [decide_eq_false (hz.1 h0),h0];rfl
       ·rw [decide_eq_true (Classical.byContradiction fun hh=>h0 (hz.2 hh)),decide_eq_true (by omega)]
      ·rintro e W2 ⟨rfl,S2,v2,hp2⟩
       refine ⟨by rw [hmvd],⟨S2,s1.step,v2,hp2,t1,t2,t3,?_,?_⟩,s1.step.lf,fun hm=>?_,fun W3 g=>sl_left (hp2.gr g).cy⟩
       ·show (stepL s1.mv).length=N
        rw [stepL_len];exact t4
       ·by_cases hf:s1.ft<s1.mv.length
        ·have:=Sl.lf_step hf;omega
        ·rw [Sl.step_none hf]
         have:=hz.2 hf
         omega
       ·rw [hmvd] at hm
        have:=Sl.lf_step (of_decide_eq_true hm)
        omega⟩
     clear hlt
     go_upto_region 10 with (fail)
     have htob:s.cf.to=tob:=by rw [HEs.out.1];exact HTZ.out.1.symm
     by_cases hna:k<NA
     ·have hnI:(k:Int)<(NA:Int):=by omega
      have dna:decide ((k:Int)<(NA:Int))=true:=decide_eq_true hnI
      have dna':decide (k<NA)=true:=decide_eq_true hna
      have hkl:k<l.length:=by rw [<-HNA.out];exact hna
      obtain ⟨hb1,ba,oa,hAa,hbl,hcell⟩:=HUB.out wr hGw k hkl
      subst hAa
      obtain ⟨ac,hac⟩:∃ ac,ac=l[k]:=⟨_,rfl⟩
      have HUC:Hid (∀ W',Gr w W'->W'.cell? ⟨ba,oa+k,none⟩=some (.int .u16 (ac:Nat))):=⟨fun W' g=>by
       obtain ⟨-,b',o',e',-,h'⟩:=HUB.out W' g k hkl
       cases e'
       rw [hac];exact h'⟩
      rw [<-hac] at hb1 hcell
      obtain ⟨m,hm⟩:∃ m,m=ac%512:=⟨_,rfl⟩
      have g3:((ac:Int).tmod 512)=(m:Int):=by rw [hm];rfl
      have g4:((ac:Int)%512)=(m:Int):=by rw [hm];rfl
      have hmb2:m<512:=by rw [hm];exact Nat.mod_lt _ (by decide)
      have HTA:=hid (fun (W':World) (g:Gr wr W') (b:Int) (hb:b<=9223372036854775807)=>(HPs.out.gr g).tchA b hb)
      have HC4:Hid (∀ W' S1 s1 ml1 v1,P24 w W' hp q r (.slice A x.n c) y ry z a R S1 s1 ml1 v1 u->s1.cf=s.cf->W'.cell? ⟨hp,4,none⟩=some (.int .i64 (tob:Nat))/\W'.cell? ⟨ba,oa+k,none⟩=some (.int .u16 (ac:Nat))):=⟨fun W' S1 s1 ml1 v1 h e=>by
       have h4:W'.cell? ⟨hp,4,none⟩=some (.int .i64 (s1.cf.to:Nat)):=h.hb.cell (j:=4) rfl
       rw [e,htob] at h4
       exact ⟨h4,HUC.out W' h.g⟩⟩
      clear hac hna hkl hm htob
      obtain ⟨Sx,hSx⟩:∃ Sx:World->Prop,Sx=fun W'=>W'.cell? ⟨hp,4,none⟩=some (.int .i64 (tob:Nat))/\W'.cell? ⟨ba,oa+k,none⟩=some (.int .u16 (ac:Nat)):=⟨_,rfl⟩
      have y4:∀ p:Held Sx,p.w.cell? ⟨hp,4,none⟩=some (.int .i64 (tob:Nat)):=fun p=>by have h:=Held.get hSx p;exact h.1
      have yc:∀ p:Held Sx,p.w.cell? ⟨ba,oa+k,none⟩=some (.int .u16 (ac:Nat)):=fun p=>by have h:=Held.get hSx p;exact h.2
      have HS:Hid (∀ W',W'.cell? ⟨hp,4,none⟩=some (.int .i64 (tob:Nat))/\W'.cell? ⟨ba,oa+k,none⟩=some (.int .u16 (ac:Nat))->Sx W'):=⟨fun W' h=>by rw [hSx];exact h⟩
      have hS0:=HS.out _ (HC4.out _ _ _ _ _ (HPs.out.gr (Gr.refl wr).drew) rfl)
      have inst:Inhabited (Held Sx):=⟨⟨_,hS0⟩⟩
      clear hSx
      refine wp_region_mixS Sx 21 [([0,1,2,3,4,5,6,7,8,9,10,11,12,13,14,15,16,17],18)] [19,20] (by kernel_rfl) (by kernel_rfl) hS0 ?_
      refine segs_step ?_
      try simp only [opsAt,List.getElem?_cons_zero,List.getElem?_cons_succ]
      repeat (go_big_quiet_step (fail))
      refine wpQuiet_nil ?_
      go_wp2_with ((go_at_call 40;refine (HTA.out _ (Gr.refl wr).drew _ (by omega)).mono ?_;rintro e w5 ⟨rfl,S5,v5,hp5⟩;have HP5:=hid hp5;clear hp5))
      refine ⟨.inr (Held.of (HS.out _ (HC4.out _ _ _ _ _ HP5.out rfl))),?_⟩
      refine segs_end ?_
      try simp only [opsAt,List.getElem?_cons_zero,List.getElem?_cons_succ]
      repeat (go_big_quiet_step (fail))
      refine wpQuiet_nil ?_
      refine NoPanic.normal ?_
      clear y4 yc hS0 inst
      clear HS Sx
      clear hcell
      have HEX:Hid ((s.tch ((tob:Int)+(m:Int))).cf=x.cf/\(s.tch ((tob:Int)+(m:Int))).L=L/\(s.tch ((tob:Int)+(m:Int))).pg=pg/\(s.tch ((tob:Int)+(m:Int))).mv.length=N/\(s.tch ((tob:Int)+(m:Int))).lf+k<=N):=⟨by
       obtain ⟨t1,t2,t3,t4,t5⟩:=HEs.out
       refine ⟨t1,t2,t3,by rw [s.tch_len];exact t4,?_⟩
       have:=Sl.lf_mono (s.tch_mono ((tob:Int)+(m:Int)))
       omega⟩
      obtain ⟨sx,hsx⟩:∃ sx,sx=s.tch ((tob:Int)+(m:Int)):=⟨_,rfl⟩
      have HPX:=HP5
      rw [<-hsx] at HPX HEX
      clear hsx HP5 HC4
      obtain ⟨hLf,hdl,hlb,hstp⟩:=HST.out _ _ _ _ HPX.out HEX.out _ rfl _ rfl
      obtain ⟨mvd,hmvd⟩:∃ b,b=decide (sx.ft<sx.mv.length):=⟨_,rfl⟩
      obtain ⟨l1,hl1⟩:∃ x,x=sx.lf:=⟨_,rfl⟩
      rw [<-hmvd] at hdl hstp
      rw [<-hl1] at hLf hdl hlb hstp
      have HLf:=hid hLf
      have HStp:=hid hstp
      clear hLf hstp hmvd hl1
      go_upto_region 13 with (go_at_call 43;refine (HLf.out _ (Gr.refl _)).mono ?_;rintro e w6 ⟨rfl,rfl⟩)
      go_upto_region 14 with (go_at_call 38;refine HStp.out.mono ?_;rintro e w7 ⟨rfl,hpe7,l2,hl2,hlf2⟩;have HPE7:=hid hpe7;have HL2:=hid hl2;have HLF2:=hid hlf2;clear hpe7 hl2 hlf2)
      cases mvd with
      | true=>
       have hl0:0<l1:=by have:=of_decide_eq_true hdl;omega
       have dl0:decide (0<l1)=true:=decide_eq_true hl0
       clear hl0
       have hlf3:=HLF2.out _ (Gr.refl w7)
       rw [HL2.out rfl] at hlf3
       have HLF3:=hid hlf3
       clear hlf3
       go_wp2_with (go_at_call 43;refine (HLF3.out).mono ?_;rintro e w8 ⟨rfl,rfl⟩)
       go_roundw
       case rel=>exact ⟨k+1,HLT.out,HPE7,by go_num⟩
       case measure=>have:=HLT.out;simp [intOf];omega
      | false=>
       have hl0:¬ 0<l1:=fun h=>of_decide_eq_false hdl (by omega)
       have dl0:decide (0<l1)=false:=decide_eq_false hl0
       obtain rfl:l1=0:=by omega
       clear hl0
       go_wp2
       go_roundw
       case rel=>exact ⟨k+1,HLT.out,HPE7,by go_num⟩
       case measure=>have:=HLT.out;simp [intOf];omega
     ·have hnI:¬ (k:Int)<(NA:Int):=by omega
      have dna:decide ((k:Int)<(NA:Int))=false:=decide_eq_false hnI
      have dna':decide (k<NA)=false:=decide_eq_false hna
      clear hna htob
      obtain ⟨Sx,hSx⟩:∃ Sx:World->Prop,Sx=fun W'=>True:=⟨_,rfl⟩
      have HS:Hid (∀ W',True->Sx W'):=⟨fun W' h=>by rw [hSx];exact h⟩
      have hS0:=HS.out (wr.drew) (trivial)
      have inst:Inhabited (Held Sx):=⟨⟨_,hS0⟩⟩
      clear hSx
      refine wp_region_mixS Sx 21 [([0,1,2,3,4,5,6,7,8,9,10,11,12,13,14,15,16,17],18)] [19,20] (by kernel_rfl) (by kernel_rfl) hS0 ?_
      refine segs_step ?_
      try simp only [opsAt,List.getElem?_cons_zero,List.getElem?_cons_succ]
      repeat (go_big_quiet_step (fail))
      refine wpQuiet_nil ?_
      go_wp2_with ((fail))
      refine ⟨Held.of (HS.out _ (trivial)),?_⟩
      refine segs_end ?_
      try simp only [opsAt,List.getElem?_cons_zero,List.getElem?_cons_succ]
      repeat (go_big_quiet_step (fail))
      refine wpQuiet_nil ?_
      refine NoPanic.normal ?_
      clear hS0 inst
      clear HS Sx
      have HPX:=hid (HPs.out.gr (Gr.refl wr).drew)
      have HEX:=HEs
      obtain ⟨sx,rfl⟩:∃ sx,sx=s:=⟨_,rfl⟩
      obtain ⟨hLf,hdl,hlb,hstp⟩:=HST.out _ _ _ _ HPX.out HEX.out _ rfl _ rfl
      obtain ⟨mvd,hmvd⟩:∃ b,b=decide (sx.ft<sx.mv.length):=⟨_,rfl⟩
      obtain ⟨l1,hl1⟩:∃ x,x=sx.lf:=⟨_,rfl⟩
      rw [<-hmvd] at hdl hstp
      rw [<-hl1] at hLf hdl hlb hstp
      have HLf:=hid hLf
      have HStp:=hid hstp
      clear hLf hstp hmvd hl1
      go_upto_region 13 with (go_at_call 43;refine (HLf.out _ (Gr.refl _)).mono ?_;rintro e w6 ⟨rfl,rfl⟩)
      go_upto_region 14 with (go_at_call 38;refine HStp.out.mono ?_;rintro e w7 ⟨rfl,hpe7,l2,hl2,hlf2⟩;have HPE7:=hid hpe7;have HL2:=hid hl2;have HLF2:=hid hlf2;clear hpe7 hl2 hlf2)
      cases mvd with
      | true=>
       have hl0:0<l1:=by have:=of_decide_eq_true hdl;omega
       have dl0:decide (0<l1)=true:=decide_eq_true hl0
       clear hl0
       have hlf3:=HLF2.out _ (Gr.refl w7)
       rw [HL2.out rfl] at hlf3
       have HLF3:=hid hlf3
       clear hlf3
       go_wp2_with (go_at_call 43;refine (HLF3.out).mono ?_;rintro e w8 ⟨rfl,rfl⟩)
       go_roundw
       case rel=>exact ⟨k+1,HLT.out,HPE7,by go_num⟩
       case measure=>have:=HLT.out;simp [intOf];omega
      | false=>
       have hl0:¬ 0<l1:=fun h=>of_decide_eq_false hdl (by omega)
       have dl0:decide (0<l1)=false:=decide_eq_false hl0
       obtain rfl:l1=0:=by omega
       clear hl0
       go_wp2
       go_roundw
       case rel=>exact ⟨k+1,HLT.out,HPE7,by go_num⟩
       case measure=>have:=HLT.out;simp [intOf];omega
    ·obtain rfl:N=k:=by omega
     clear hlt
     have hl0:s.lf=0:=by have:=HEs.out.2.2.2.2;omega
     have hnf:¬ s.ft<s.mv.length:=s.lf_zero.1 hl0
     have HSA:=hid HPs.out.stepA
     rw [decide_eq_false hnf,Sl.step_none hnf] at HSA
     have hfe:s.ft=N:=by have:=s.ft_le;have:=HEs.out.2.2.2.1;omega
     have HLZ:=hid hl0
     have HFE:=hid hfe
     clear hl0 hnf hfe
     go_upto_region 18 with (go_at_call 38;refine HSA.out.mono ?_;rintro e w5 ⟨rfl,S5,v5,hp5⟩;have HP5:=hid hp5;clear hp5)
     have HDN:Hid (Calls Tryz.prog 44 #[.pointer (some ⟨y,0,none⟩)] w5 fun e w'=>e=.returned (.bool true)/\w5=w'):=⟨by
      have:=sl_done HP5.out.cy
      rw [HLZ.out] at this
      exact this⟩
     have HFR:Hid (Calls Tryz.prog 45 #[.pointer (some ⟨y,0,none⟩)] w5 fun e w'=>e=.returned (.int .i64 N)/\w5=w'):=⟨by
      have:=sl_frontier HP5.out.cy
      rw [HFE.out] at this
      exact this⟩
     have HBL:Hid (Calls Tryz.prog 42 #[.pointer (some ⟨y,0,none⟩)] w5 fun e w'=>e=.returned (.int .i64 N)/\w5=w'):=⟨by
      have:=sl_blocks HP5.out.cy
      rw [HEs.out.2.2.2.1] at this
      exact this⟩
     go_upto_region 20 with (first
      | (go_at_call 44;refine (HDN.out).mono ?_;rintro e w6 ⟨rfl,rfl⟩)
      | (go_at_call 45;refine (HFR.out).mono ?_;rintro e w6 ⟨rfl,rfl⟩)
      | (go_at_call 42;refine (HBL.out).mono ?_;rintro e w6 ⟨rfl,rfl⟩))
     have htob:s.cf.to=tob:=by rw [HEs.out.1];exact HTZ.out.1.symm
     have hZe:sizes s.L=Z:=by rw [HEs.out.2.1];exact HTZ.out.2.symm
     have hpge:s.pg=pg:=HEs.out.2.2.1
     have hus:=used_end HP5.out.ok HP5.out.fr HLZ.out
     rw [hZe,hpge] at hus
     obtain ⟨K,hK⟩:∃ K,K=(Z+pg-1)/pg:=⟨_,rfl⟩
     obtain ⟨M,hM⟩:∃ M,M=Z+pg-1:=⟨_,rfl⟩
     rw [<-hK] at hus
     rw [<-hM] at hK
     have HUS:Hid (∀ W',Gr w5 W'->Calls Tryz.prog 20 #[.pointer (some ⟨q,0,none⟩)] W' fun e w'=>e=.returned (.int .i64 K)/\W'=w'):=⟨fun W' g=>by
      have:=vm_used (HP5.out.gr g).vm
      rw [hus] at this
      exact this⟩
     have HTP:Hid (∀ W',Gr w5 W'->Calls Tryz.prog 46 #[.pointer (some ⟨y,0,none⟩)] W' fun e w'=>e=.returned (.int .i64 ((tob:Int)+(Z:Int)))/\Gr W' w'):=⟨fun W' g=>by
      have:=sl_top (HP5.out.gr g).cy
      rw [htob,hZe] at this
      exact this⟩
     have HHB:Hid (∀ W',Gr w5 W'->Rec W' hp 37 [.pointer (some ⟨q,0,none⟩),.pointer (some ⟨r,0,none⟩),.int .i64 s.cf.fr,.int .i64 s.cf.tp,.int .i64 tob,.int .i64 s.cf.lm,.int .i64 s.cf.bk,.int .i64 s.cf.st,.int .i64 s.cf.ah,.slice A x.n c,.int .i64 (pg:Nat)]):=⟨fun W' g=>by
      have:=(HP5.out.gr g).hb
      unfold heapS at this
      rw [htob,hpge] at this
      exact this⟩
     have a1:(tob:Int)+(Z:Int)-(tob:Int)+(pg:Int)-1=(M:Int):=by omega
     have a2:(Z:Int)+(pg:Int)-1=(M:Int):=by omega
     have hMb:M<=1048576:=by omega
     have g1:((M:Int).tdiv (pg:Int))=(K:Int):=by rw [hK];rfl
     have g2:((M:Int)/(pg:Int))=(K:Int):=by rw [hK];rfl
     have hpg0:(pg:Int)≠0:=by omega
     have dk:((K:Int)==(K:Int))=true:=by simp
     have hKb:K<=1048576:=by rw [hK];exact Nat.le_trans (Nat.div_le_self _ _) hMb
     have hza:(tob:Int)+(Z:Int)-(tob:Int)=(Z:Int):=by omega
     have HG5:=hid HP5.out.g
     clear hK hM hus htob hZe hpge
     obtain ⟨Sx,hSx⟩:∃ Sx:World->Prop,Sx=fun W'=>Rec W' hp 37 [.pointer (some ⟨q,0,none⟩),.pointer (some ⟨r,0,none⟩),.int .i64 s.cf.fr,.int .i64 s.cf.tp,.int .i64 tob,.int .i64 s.cf.lm,.int .i64 s.cf.bk,.int .i64 s.cf.st,.int .i64 s.cf.ah,.slice A x.n c,.int .i64 (pg:Nat)]:=⟨_,rfl⟩
     have y0:∀ p:Held Sx,p.w.cell? ⟨hp,0,none⟩=some (.pointer (some ⟨q,0,none⟩)):=fun p=>by have h:=Held.get hSx p;exact h.cell (j:=0) rfl
     have y4:∀ p:Held Sx,p.w.cell? ⟨hp,4,none⟩=some (.int .i64 tob):=fun p=>by have h:=Held.get hSx p;exact h.cell (j:=4) rfl
     have y10:∀ p:Held Sx,p.w.cell? ⟨hp,10,none⟩=some (.int .i64 (pg:Nat)):=fun p=>by have h:=Held.get hSx p;exact h.cell (j:=10) rfl
     have HS:Hid (∀ W',Rec W' hp 37 [.pointer (some ⟨q,0,none⟩),.pointer (some ⟨r,0,none⟩),.int .i64 s.cf.fr,.int .i64 s.cf.tp,.int .i64 tob,.int .i64 s.cf.lm,.int .i64 s.cf.bk,.int .i64 s.cf.st,.int .i64 s.cf.ah,.slice A x.n c,.int .i64 (pg:Nat)]->Sx W'):=⟨fun W' h=>by rw [hSx];exact h⟩
     have hS0:=HS.out _ (HHB.out _ (Gr.refl w5).drew)
     have inst:Inhabited (Held Sx):=⟨⟨_,hS0⟩⟩
     clear hSx
     refine wp_region_mixS Sx 29 [([0,1,2,3,5,7,8,9,10,11,13,14,15,16,19,20,21,22],4),([],6),([12,17,18,23,24,25],26)] [27,28] (by kernel_rfl) (by kernel_rfl) hS0 ?_
     refine segs_step ?_
     try simp only [opsAt,List.getElem?_cons_zero,List.getElem?_cons_succ]
     repeat (go_big_quiet_step (fail))
     refine wpQuiet_nil ?_
     go_wp2_with ((go_at_call 20;refine (HUS.out _ (Gr.refl w5).drew).mono ?_;rintro e w6 ⟨rfl,rfl⟩))
     refine ⟨.inr (Held.of (HS.out _ (HHB.out _ (Gr.refl w5).drew))),?_⟩
     refine segs_step ?_
     try simp only [opsAt,List.getElem?_cons_zero,List.getElem?_cons_succ]
     repeat (go_big_quiet_step (fail))
     refine wpQuiet_nil ?_
     go_wp2_with ((go_at_call 46;refine (HTP.out _ (Gr.refl w5).drew).mono ?_;rintro e w7 ⟨rfl,hg7⟩;have HG7:=hid ((Gr.refl w5).drew.trans hg7);clear hg7))
     refine ⟨.inr (Held.of (HS.out _ (HHB.out _ HG7.out))),?_⟩
     refine segs_step ?_
     try simp only [opsAt,List.getElem?_cons_zero,List.getElem?_cons_succ]
     repeat (go_big_quiet_step (fail))
     refine wpQuiet_nil ?_
     go_wp2_with ((go_at_call 35;refine (lives24 ((HG5.out.trans HG7.out).tab HT.out.lt HT.out)).mono ?_;rintro e w8 ⟨rfl,hg8⟩;have HG8:=hid (HG7.out.trans hg8);clear hg8))
     refine ⟨.inr (Held.of (HS.out _ (HHB.out _ HG8.out))),?_⟩
     refine segs_end ?_
     try simp only [opsAt,List.getElem?_cons_zero,List.getElem?_cons_succ]
     repeat (go_big_quiet_step (fail))
     refine wpQuiet_nil ?_
     refine NoPanic.normal ?_
     clear y0 y4 y10 hS0 inst
     clear HS Sx
     go_wp2
     go_ret
     exact ⟨rfl,HG5.out.trans HG8.out⟩
end
end Go.Proofs.YtbmidhlilafgeaaGreatDoor
end
