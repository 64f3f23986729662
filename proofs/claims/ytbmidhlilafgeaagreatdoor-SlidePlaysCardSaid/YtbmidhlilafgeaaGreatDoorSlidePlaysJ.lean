/- Part 10 of what SlidePlays leans on: my own lemmas, merged by shake.py. -/
import Derived.Test.YtbmidhlilafgeaaGreatDoorSlidePlaysI
section
namespace Go.Proofs.YtbmidhlilafgeaaGreatDoor
open Go.RowKit Word
section
variable {w w':World} {y:Nat} {a:RcAd} {s:Sl} {u:Vm}
def RcEnd (w:World) (y:Nat) (a:RcAd) (s':Sl) (u:Vm) (r:Value) (e:Ending) (w':World):Prop:=
 e=.returned r/\Touch (fun b=>b=a.bm) w w'/\RCy w' y a s' u
set_option maxRecDepth 100000 in
set_option maxHeartbeats 800000 in
theorem rc_step (hR:RCy w y a s u) (hb:s.mv.length<=1048576):Calls Tryz.prog 39 #[.pointer (some ⟨y,0,none⟩)] w (RcEnd w y a s.step u (.bool (decide (s.ft<s.mv.length)))):=by
 have HF:=hid (rc_frontier hR hb)
 have c10:=hR.rc.cell (j:=10) rfl
 have cl:=hR.rc.lt
 have hfl:=s.ft_le
 have HR:=hid hR
 by_cases hlt:s.ft<s.mv.length
 ·have HE:Hid (RcEnd w y a s.step u (.bool true) (.returned (.bool true)) (w.setCell ⟨a.bm,s.ft,none⟩ (.bool true))):=⟨⟨rfl,(Touch.refl (fun i=>i=a.bm) w).setCell (a:=⟨a.bm,s.ft,none⟩) (fun _=>rfl) _,by
   have e:s.step={ s with mv:=s.mv.set s.ft true }:=by
    unfold Sl.step stepL
    rw [if_pos (show ftL s.mv<s.mv.length from hlt)];rfl
   rw [e]
   exact HR.out.set s.ft⟩⟩
  have m0:=own_cell hR.mv (bls_at hlt)
  have mf:=own_free hR.mv
  have ml':=(own_lt hR.mv rfl).2
  rw [decide_eq_true hlt]
  obtain ⟨F,hF⟩:∃ F,F=s.ft:=⟨_,rfl⟩
  obtain ⟨N,hN⟩:∃ N,N=s.mv.length:=⟨_,rfl⟩
  rw [<-hF] at HF m0 hlt hfl HE
  rw [<-hN] at c10 hlt hfl hb
  have hfI:(F:Int)<(N:Int):=by omega
  have d0:((F:Int)==(N:Int))=false:=by simp;omega
  clear hR hF hN hlt
  go_enter Tryz.func39,Tryz.ntmps39
  go_wp2_with (go_at_call 96;refine (HF.out).mono ?_;rintro e w1 ⟨rfl,rfl⟩)
  go_ret
  exact HE.out
 ·have HE:Hid (RcEnd w y a s.step u (.bool false) (.returned (.bool false)) w):=⟨⟨rfl,Touch.refl _ _,by
   have e:s.step=s:=by
    unfold Sl.step stepL
    rw [if_neg (show ¬ ftL s.mv<s.mv.length from hlt)]
   rw [e]
   exact HR.out⟩⟩
  rw [decide_eq_false hlt]
  have hfe:s.ft=s.mv.length:=by omega
  rw [hfe] at HF
  obtain ⟨N,hN⟩:∃ N,N=s.mv.length:=⟨_,rfl⟩
  rw [<-hN] at HF c10 hb
  have d0:((N:Int)==(N:Int))=true:=by simp
  clear hR hN hlt hfe hfl
  go_enter Tryz.func39,Tryz.ntmps39
  go_wp2_with (go_at_call 96;refine (HF.out).mono ?_;rintro e w1 ⟨rfl,rfl⟩)
  go_ret
  exact HE.out
def freeN (w:World) (b n:Nat):Nat:=cnt (fun i=>match w.cell? ⟨b,i,none⟩ with | some (.bool true)=>false | _=>true) n
theorem RCy.freeN (h:RCy w y a s u) {n:Nat} (hn:n=s.mv.length):freeN w a.bm n=s.mv.length-s.mvd:=by
 have e:Go.Proofs.YtbmidhlilafgeaaGreatDoor.freeN w a.bm n=cnt (fun i=>!at_ s.mv i) n:=cnt_congr fun i hi=>by
  rw [own_cell h.mv (bls_at (i:=i) (by omega))]
  cases at_ s.mv i <;> rfl
 have:=cnt_and_not (at_ s.mv) s.mv.length
 rw [e,hn]
 unfold Sl.mvd
 omega
structure RtI (w wr:World) (y:Nat) (a:RcAd) (s:Sl) (u:Vm) (k n:Nat) (l:List Bool):Prop where
 t:Touch (fun b=>b=a.bm) w wr
 rc:RCy wr y a { s with mv:=l } u
 len:l.length=s.mv.length
 un:at_ l k=false
 run:runL s.cf.ah k n l=runL s.cf.ah k k s.mv
 n:k-ftL l<=n
theorem RtI.step {wr w':World} {k n:Nat} {l:List Bool} (h:RtI w wr y a s u k n l) (hk:k<s.mv.length) (h1:ftL l<k) (h2:s.cf.ah<=mvdL l-ftL l) (t:Touch (fun b=>b=a.bm) wr w') (hr:RCy w' y a ({ s with mv:=l }:Sl).step u):∃ n',RtI w w' y a s u k n' (stepL l)/\ftL l<ftL (stepL l):=by
 have hf:ftL l<l.length:=by rw [h.len];omega
 have hst:=ftL_step hf
 obtain ⟨n',rfl⟩:∃ n',n=n' + 1:=⟨n-1,by have:=h.n;omega⟩
 refine ⟨n',⟨h.t.trans t,hr,by rw [stepL_len];exact h.len,stepL_other h.un h1,?_,by have:=h.n;omega⟩,hst⟩
 rw [<-h.run]
 show _=(if ftL l<k/\s.cf.ah<=mvdL l-ftL l then runL s.cf.ah k n' (stepL l) else l)
 rw [if_pos ⟨h1,h2⟩]
theorem RtI.fin {wr:World} {k n:Nat} {l:List Bool} (h:RtI w wr y a s u k n l) (hm:at_ s.mv k=false) (hc:¬ (ftL l<k/\s.cf.ah<=mvdL l-ftL l)):touchL s.cf.ah k s.mv=l.set k true:=by
 have er:runL s.cf.ah k n l=l:=by
  cases n with
  | zero=>rfl
  | succ n=>unfold runL;rw [if_neg hc]
 unfold touchL
 rw [if_neg (by rw [hm];decide),<-h.run,er]
set_option maxRecDepth 100000 in
set_option maxHeartbeats 3200000 in
theorem rc_touch (hR:RCy w y a s u) (hst:SlSt s) (b:Int) (hb:b<=9223372036854775807):Calls Tryz.prog 41 #[.pointer (some ⟨y,0,none⟩),.int .i64 b] w (RcEnd w y a (s.tch b) u (.tuple #[])):=by
 have hnb:=hst.n2
 have hlm:=hst.cf.lm
 have hln:=hst.cf.ln
 have hml:s.mv.length<=1048576:=by rw [hst.len];have:=nbl_le (n:=sizes s.L) hst.bk.1;have:=hst.N_le;omega
 have HFM:=hid (fun (W:World) (g:Gr w W)=>ref22_from (c:=a.oc) (hR.gr g).ob hst.good (by omega) s.cf.to (by omega) b)
 have c2:=hR.rc.cell (j:=2) rfl
 have c4:=hR.rc.cell (j:=4) rfl
 have c7:=hR.rc.cell (j:=7) rfl
 have c10:=hR.rc.cell (j:=10) rfl
 have cl:=hR.rc.lt
 have HR:=hid hR
 cases hin:inF s.L s.cf.to b with
 | false=>
  have e:s.tch b=s:=by unfold Sl.tch;rw [hin];rfl
  rw [e]
  obtain ⟨e1,e2,e3⟩:=from_no hin
  rw [e1,e2,e3] at HFM
  clear hR hst hin e e1 e2 e3
  go_enter Tryz.func41,Tryz.ntmps41
  go_upto_region 0 with (fail)
  obtain ⟨Sx,hSx⟩:∃ Sx:World->Prop,Sx=fun W'=>RCy W' y a s u:=⟨_,rfl⟩
  have y7:∀ p:Held Sx,p.w.cell? ⟨y,7,none⟩=some (.slice a.OA s.L.length a.oc):=fun p=>by have h:=Held.get hSx p;exact h.rc.cell (j:=7) rfl
  have y2:∀ p:Held Sx,p.w.cell? ⟨y,2,none⟩=some (.int .i64 s.cf.to):=fun p=>by have h:=Held.get hSx p;exact h.rc.cell (j:=2) rfl
  have HS:Hid (∀ W',RCy W' y a s u->Sx W'):=⟨fun W' h=>by rw [hSx];exact h⟩
  have hS0:=HS.out _ (HR.out.gr (Gr.refl w).drew)
  have inst:Inhabited (Held Sx):=⟨⟨_,hS0⟩⟩
  clear hSx
  refine wp_region_mixS Sx 18 [([0,1,2,3,4,5,6,7,8,9],10)] [11,12,13,14,15,16,17] (by kernel_rfl) (by kernel_rfl) hS0 ?_
  refine segs_step ?_
  try simp only [opsAt,List.getElem?_cons_zero,List.getElem?_cons_succ]
  repeat (go_big_quiet_step (fail))
  refine wpQuiet_nil ?_
  go_wp2_with ((go_at_call 101;refine (HFM.out _ (Gr.refl w).drew).mono ?_;rintro e w1 ⟨rfl,rfl⟩))
  refine ⟨.inr (Held.of (HS.out _ (HR.out.gr (Gr.refl w).drew))),?_⟩
  refine segs_end ?_
  try simp only [opsAt,List.getElem?_cons_zero,List.getElem?_cons_succ]
  repeat (go_big_quiet_step (fail))
  refine wpQuiet_nil ?_
  refine NoPanic.normal ?_
  clear y7 y2 hS0 inst
  clear HS Sx
  go_wp2
  refine bodyPost_end (results_none rfl _ _ _) rfl ?_
  exact ⟨rfl,(Gr.refl w).drew.touch _,HR.out.gr (Gr.refl w).drew⟩
 | true=>
  obtain ⟨i,rfl⟩:∃ i:Nat,b=((s.cf.to+i:Nat):Int):=⟨(b-s.cf.to).toNat,by have:=(inF_iff.1 hin).1;omega⟩
  have hiN:i<sizes s.L:=by have:=(inF_iff.1 hin).2;omega
  obtain ⟨k,hk⟩:∃ k,k=i/s.cf.bk:=⟨_,rfl⟩
  have hkl:k<s.mv.length:=by rw [hk];exact hst.blk hiN
  have hib:i<=1048576:=by have:=hst.N_le;omega
  have etch:s.tch ((s.cf.to+i:Nat):Int)={ s with mv:=touchL s.cf.ah k s.mv }:=by
   unfold Sl.tch
   rw [hin,if_pos rfl,show (((s.cf.to+i:Nat):Int)-(s.cf.to:Int)).toNat=i by omega,<-hk]
  rw [(src_from hiN).2] at HFM
  have hbk:=hst.bk
  have hahb:=hst.cf.ah
  have g0:((s.cf.to+i:Nat):Int)-(s.cf.to:Int)=(i:Int):=by omega
  have g1:((i:Int).tdiv (s.cf.bk:Int))=(k:Int):=by rw [hk];rfl
  have g2:((i:Int)/(s.cf.bk:Int))=(k:Int):=by rw [hk];rfl
  have hbk0:(s.cf.bk:Int)≠0:=by omega
  have hkI:(k:Int)<(s.mv.length:Int):=by omega
  have HTE:Hid (at_ s.mv k=true->touchL s.cf.ah k s.mv=s.mv/\s.mv.set k true=s.mv):=⟨fun h=>⟨by unfold touchL;rw [if_pos h],by
   apply List.ext_getElem (by simp)
   intro j h1 h2
   rw [List.getElem_set]
   split
   ·rename_i e
    subst e
    have:at_ s.mv k=s.mv[k]:=by unfold at_;rw [List.getD_eq_getElem?_getD,List.getElem?_eq_getElem hkl];rfl
    rw [<-this,h]
   ·rfl⟩⟩
  rw [etch]
  obtain ⟨fv,hfv⟩:∃ fv,fv=fromV s.L s.cf.to ((s.cf.to+i:Nat):Int):=⟨_,rfl⟩
  obtain ⟨fi,hfi⟩:∃ fi,fi=fromI s.L s.cf.to ((s.cf.to+i:Nat):Int):=⟨_,rfl⟩
  rw [<-hfv,<-hfi] at HFM
  obtain ⟨B,hB⟩:∃ B:Int,B=((s.cf.to+i:Nat):Int):=⟨_,rfl⟩
  rw [<-hB] at HFM g0 ⊢
  have hBb:0<=B/\B<=2097152:=by omega
  have HKL:=hid hkl
  have HML:=hid hml
  have hkb:k<=1048576:=by omega
  have hR0:=hR
  clear hR hst hin hk etch hfv hfi hiN hB
  have d2':∀ W,Gr w W->W.cell? ⟨y,2,none⟩=some (.int .i64 s.cf.to):=fun W g=>(HR.out.gr g).rc.cell (j:=2) rfl
  cases hm:at_ s.mv k with
  | true=>
   obtain ⟨t1,t2⟩:=HTE.out hm
   have HE:Hid (∀ W,Gr w W->RcEnd w y a { s with mv:=touchL s.cf.ah k s.mv } u (.tuple #[]) (.returned (.tuple #[])) (W.setCell ⟨a.bm,k,none⟩ (.bool true))):=⟨fun W g=>⟨rfl,(g.touch _).trans ((Touch.refl (fun i=>i=a.bm) W).setCell (a:=⟨a.bm,k,none⟩) (fun _=>rfl) _),by
    have:=(hR0.gr g).set k
    rw [t2] at this
    rw [t1]
    exact this⟩⟩
   have HC0:=hid (fun (W:World) (g:Gr w W)=>own_cell (hR0.gr g).mv (bls_at hkl))
   rw [hm] at HC0
   have HM0:=hid hm
   clear hR0 hm t1 t2 hkl hml
   go_enter Tryz.func41,Tryz.ntmps41
   go_upto_region 0 with (fail)
   obtain ⟨Sx,hSx⟩:∃ Sx:World->Prop,Sx=fun W'=>RCy W' y a s u:=⟨_,rfl⟩
   have y7:∀ p:Held Sx,p.w.cell? ⟨y,7,none⟩=some (.slice a.OA s.L.length a.oc):=fun p=>by have h:=Held.get hSx p;exact h.rc.cell (j:=7) rfl
   have y2:∀ p:Held Sx,p.w.cell? ⟨y,2,none⟩=some (.int .i64 s.cf.to):=fun p=>by have h:=Held.get hSx p;exact h.rc.cell (j:=2) rfl
   have HS:Hid (∀ W',RCy W' y a s u->Sx W'):=⟨fun W' h=>by rw [hSx];exact h⟩
   have hS0:=HS.out _ (HR.out.gr (Gr.refl w).drew)
   have inst:Inhabited (Held Sx):=⟨⟨_,hS0⟩⟩
   clear hSx
   refine wp_region_mixS Sx 18 [([0,1,2,3,4,5,6,7,8,9],10)] [11,12,13,14,15,16,17] (by kernel_rfl) (by kernel_rfl) hS0 ?_
   refine segs_step ?_
   try simp only [opsAt,List.getElem?_cons_zero,List.getElem?_cons_succ]
   repeat (go_big_quiet_step (fail))
   refine wpQuiet_nil ?_
   go_wp2_with ((go_at_call 101;refine (HFM.out _ (Gr.refl w).drew).mono ?_;rintro e w1 ⟨rfl,rfl⟩))
   refine ⟨.inr (Held.of (HS.out _ (HR.out.gr (Gr.refl w).drew))),?_⟩
   refine segs_end ?_
   try simp only [opsAt,List.getElem?_cons_zero,List.getElem?_cons_succ]
   repeat (go_big_quiet_step (fail))
   refine wpQuiet_nil ?_
   refine NoPanic.normal ?_
   clear y7 y2 hS0 inst
   clear HS Sx
   go_upto_region 2 with (fail)
   obtain ⟨Sx,hSx⟩:∃ Sx:World->Prop,Sx=fun W'=>RCy W' y a s u:=⟨_,rfl⟩
   have y2:∀ p:Held Sx,p.w.cell? ⟨y,2,none⟩=some (.int .i64 s.cf.to):=fun p=>by have h:=Held.get hSx p;exact h.rc.cell (j:=2) rfl
   have y4:∀ p:Held Sx,p.w.cell? ⟨y,4,none⟩=some (.int .i64 s.cf.bk):=fun p=>by have h:=Held.get hSx p;exact h.rc.cell (j:=4) rfl
   have HS:Hid (∀ W',RCy W' y a s u->Sx W'):=⟨fun W' h=>by rw [hSx];exact h⟩
   have hS0:=HS.out _ (HR.out.gr (Gr.refl w).drew.drew)
   have inst:Inhabited (Held Sx):=⟨⟨_,hS0⟩⟩
   clear hSx
   refine wp_region_mixS Sx 14 [] [0,1,2,3,4,5,6,7,8,9,10,11,12,13] (by kernel_rfl) (by kernel_rfl) hS0 ?_
   refine segs_end ?_
   try simp only [opsAt,List.getElem?_cons_zero,List.getElem?_cons_succ]
   repeat (go_big_quiet_step (fail))
   refine wpQuiet_nil ?_
   refine NoPanic.normal ?_
   clear y2 y4 hS0 inst
   clear HS Sx
   go_wp2_with (fail)
   go_loopw [] (fun wr=>Hid (Gr w wr)) (fun _=>0)
   case atStart=>exact ⟨(Gr.refl w).drew.drew⟩
   case round=>
    have HG:=hid hrel.out
    clear hrel
    go_upto_region 3 with (fail)
    obtain ⟨Sx,hSx⟩:∃ Sx:World->Prop,Sx=fun W'=>RCy W' y a s u:=⟨_,rfl⟩
    have y10:∀ p:Held Sx,p.w.cell? ⟨y,10,none⟩=some (.slice (some ⟨a.bm,0,none⟩) s.mv.length a.cm):=fun p=>by have h:=Held.get hSx p;exact h.rc.cell (j:=10) rfl
    have m0:∀ p:Held Sx,p.w.cell? ⟨a.bm,k,none⟩=some (.bool true):=fun p=>by have h:=Held.get hSx p;exact (by have:=HC0.out _ (Gr.refl w);exact (by have e:=own_cell h.mv (bls_at HKL.out);rw [HM0.out] at e;exact e))
    have HS:Hid (∀ W',RCy W' y a s u->Sx W'):=⟨fun W' h=>by rw [hSx];exact h⟩
    have hS0:=HS.out _ (HR.out.gr (HG.out.trans (Gr.refl wr).drew))
    have inst:Inhabited (Held Sx):=⟨⟨_,hS0⟩⟩
    clear hSx
    refine wp_region_mixS Sx 24 [([0,1,2,3,4,5,6,7,8,9,11],10),([12,13,14,15,17,18,19,20,21],16)] [22,23] (by kernel_rfl) (by kernel_rfl) hS0 ?_
    refine segs_step ?_
    try simp only [opsAt,List.getElem?_cons_zero,List.getElem?_cons_succ]
    repeat (go_big_quiet_step (fail))
    refine wpQuiet_nil ?_
    go_wp2_with ((fail))
    refine ⟨.inr (Held.of (HS.out _ (HR.out.gr (HG.out.trans (Gr.refl wr).drew)))),?_⟩
    refine segs_step ?_
    try simp only [opsAt,List.getElem?_cons_zero,List.getElem?_cons_succ]
    repeat (go_big_quiet_step (fail))
    refine wpQuiet_nil ?_
    go_wp2_with ((fail))
    refine ⟨.inr (Held.of (HS.out _ (HR.out.gr (HG.out.trans (Gr.refl wr).drew)))),?_⟩
    refine segs_end ?_
    try simp only [opsAt,List.getElem?_cons_zero,List.getElem?_cons_succ]
    repeat (go_big_quiet_step (fail))
    refine wpQuiet_nil ?_
    refine NoPanic.normal ?_
    clear y10 m0 hS0 inst
    clear HS Sx
    have hx:=HR.out.gr (HG.out.trans (Gr.refl wr).drew)
    have c10:=hx.rc.cell (j:=10) rfl
    have cl:=hx.rc.lt
    have m0:=HC0.out _ (HG.out.trans (Gr.refl wr).drew)
    have mf:=own_free hx.mv
    have ml':=(own_lt hx.mv rfl).2
    clear hx
    go_wp2
    refine bodyPost_end (results_none rfl _ _ _) rfl ?_
    exact HE.out _ (HG.out.trans (Gr.refl wr).drew)
  | false=>
   have HI0:Hid (∀ W,Gr w W->RtI w W y a s u k k s.mv):=⟨fun W g=>⟨g.touch _,hR0.gr g,rfl,hm,rfl,by omega⟩⟩
   have HM:=hid hm
   clear hR0 hm hkl hml
   go_enter Tryz.func41,Tryz.ntmps41
   go_upto_region 0 with (fail)
   obtain ⟨Sx,hSx⟩:∃ Sx:World->Prop,Sx=fun W'=>RCy W' y a s u:=⟨_,rfl⟩
   have y7:∀ p:Held Sx,p.w.cell? ⟨y,7,none⟩=some (.slice a.OA s.L.length a.oc):=fun p=>by have h:=Held.get hSx p;exact h.rc.cell (j:=7) rfl
   have y2:∀ p:Held Sx,p.w.cell? ⟨y,2,none⟩=some (.int .i64 s.cf.to):=fun p=>by have h:=Held.get hSx p;exact h.rc.cell (j:=2) rfl
   have HS:Hid (∀ W',RCy W' y a s u->Sx W'):=⟨fun W' h=>by rw [hSx];exact h⟩
   have hS0:=HS.out _ (HR.out.gr (Gr.refl w).drew)
   have inst:Inhabited (Held Sx):=⟨⟨_,hS0⟩⟩
   clear hSx
   refine wp_region_mixS Sx 18 [([0,1,2,3,4,5,6,7,8,9],10)] [11,12,13,14,15,16,17] (by kernel_rfl) (by kernel_rfl) hS0 ?_
   refine segs_step ?_
   try simp only [opsAt,List.getElem?_cons_zero,List.getElem?_cons_succ]
   repeat (go_big_quiet_step (fail))
   refine wpQuiet_nil ?_
   go_wp2_with ((go_at_call 101;refine (HFM.out _ (Gr.refl w).drew).mono ?_;rintro e w1 ⟨rfl,rfl⟩))
   refine ⟨.inr (Held.of (HS.out _ (HR.out.gr (Gr.refl w).drew))),?_⟩
   refine segs_end ?_
   try simp only [opsAt,List.getElem?_cons_zero,List.getElem?_cons_succ]
   repeat (go_big_quiet_step (fail))
   refine wpQuiet_nil ?_
   refine NoPanic.normal ?_
   clear y7 y2 hS0 inst
   clear HS Sx
   go_upto_region 2 with (fail)
   obtain ⟨Sx,hSx⟩:∃ Sx:World->Prop,Sx=fun W'=>RCy W' y a s u:=⟨_,rfl⟩
   have y2:∀ p:Held Sx,p.w.cell? ⟨y,2,none⟩=some (.int .i64 s.cf.to):=fun p=>by have h:=Held.get hSx p;exact h.rc.cell (j:=2) rfl
   have y4:∀ p:Held Sx,p.w.cell? ⟨y,4,none⟩=some (.int .i64 s.cf.bk):=fun p=>by have h:=Held.get hSx p;exact h.rc.cell (j:=4) rfl
   have HS:Hid (∀ W',RCy W' y a s u->Sx W'):=⟨fun W' h=>by rw [hSx];exact h⟩
   have hS0:=HS.out _ (HR.out.gr (Gr.refl w).drew.drew)
   have inst:Inhabited (Held Sx):=⟨⟨_,hS0⟩⟩
   clear hSx
   refine wp_region_mixS Sx 14 [] [0,1,2,3,4,5,6,7,8,9,10,11,12,13] (by kernel_rfl) (by kernel_rfl) hS0 ?_
   refine segs_end ?_
   try simp only [opsAt,List.getElem?_cons_zero,List.getElem?_cons_succ]
   repeat (go_big_quiet_step (fail))
   refine wpQuiet_nil ?_
   refine NoPanic.normal ?_
   clear y2 y4 hS0 inst
   clear HS Sx
   obtain ⟨N,hN⟩:∃ N,N=s.mv.length:=⟨_,rfl⟩
   have HNE:=hid hN
   rw [<-hN] at hkI
   clear hN
   go_wp2_with (fail)
   go_loopw [] (fun wr=>∃ (n:Nat) (l:List Bool),Hid (RtI w wr y a s u k n l)) (fun wr=>freeN wr a.bm N)
   case atStart=>exact ⟨k,s.mv,⟨HI0.out _ (Gr.refl w).drew.drew⟩⟩
   case round=>
    obtain ⟨n,l,HI⟩:=hrel
    have HNL:Hid (N=l.length):=⟨by rw [HI.out.len];exact HNE.out⟩
    obtain ⟨fc,hfc⟩:∃ fc,fc=ftL l:=⟨_,rfl⟩
    obtain ⟨ac,hac⟩:∃ ac,ac=mvdL l-ftL l:=⟨_,rfl⟩
    have HFR:Hid (∀ W,Gr wr W->Calls Tryz.prog 96 #[.pointer (some ⟨y,0,none⟩)] W fun e w'=>e=.returned (.int .i64 (fc:Nat))/\W=w'):=⟨fun W g=>by rw [hfc];exact rc_frontier (HI.out.rc.gr g) (by have:=HI.out.len;have:=HML.out;show l.length<=_;omega)⟩
    have HAR:Hid (∀ W,Gr wr W->Calls Tryz.prog 102 #[.pointer (some ⟨y,0,none⟩)] W fun e w'=>e=.returned (.int .i64 (ac:Nat))/\W=w'):=⟨fun W g=>by rw [hac];exact rc_ahead (HI.out.rc.gr g) (by have:=HI.out.len;have:=HML.out;show l.length<=_;omega)⟩
    have HFC:=hid hfc
    have HAC:=hid hac
    clear hfc hac
    by_cases hlt:fc<k
    ·have d0:decide ((fc:Int)<(k:Int))=true:=decide_eq_true (by omega)
     have d0':decide (fc<k)=true:=decide_eq_true hlt
     by_cases hge:s.cf.ah<=ac
     ·have d1:decide ((s.cf.ah:Int)<=(ac:Int))=true:=decide_eq_true (by omega)
      have d1':decide (s.cf.ah<=ac)=true:=decide_eq_true hge
      have HC2:Hid (ftL l<k/\s.cf.ah<=mvdL l-ftL l):=⟨by rw [<-HFC.out];exact hlt,by rw [<-HAC.out];exact hge⟩
      clear hlt hge
      go_upto_region 3 with (fail)
      obtain ⟨Sx,hSx⟩:∃ Sx:World->Prop,Sx=fun W'=>RCy W' y a { s with mv:=l } u:=⟨_,rfl⟩
      have y10:∀ p:Held Sx,p.w.cell? ⟨y,10,none⟩=some (.slice (some ⟨a.bm,0,none⟩) N a.cm):=fun p=>by have h:=Held.get hSx p;exact (by have e:=h.rc.cell (j:=10) rfl;rw [HNL.out];exact e)
      have m0:∀ p:Held Sx,p.w.cell? ⟨a.bm,k,none⟩=some (.bool false):=fun p=>by have h:=Held.get hSx p;exact (by have e:=own_cell h.mv (bls_at (i:=k) (by have:=HNL.out;have:=HKL.out;have:=HNE.out;show k<l.length;omega));rw [show at_ ({ s with mv:=l }:Sl).mv k=false from HI.out.un] at e;exact e)
      have y6:∀ p:Held Sx,p.w.cell? ⟨y,6,none⟩=some (.int .i64 s.cf.ah):=fun p=>by have h:=Held.get hSx p;exact h.rc.cell (j:=6) rfl
      have HS:Hid (∀ W',RCy W' y a { s with mv:=l } u->Sx W'):=⟨fun W' h=>by rw [hSx];exact h⟩
      have hS0:=HS.out _ (HI.out.rc.gr (Gr.refl wr).drew)
      have inst:Inhabited (Held Sx):=⟨⟨_,hS0⟩⟩
      clear hSx
      refine wp_region_mixS Sx 24 [([0,1,2,3,4,5,6,7,8,9,11],10),([12,13,14,15,17,18,19,20,21],16)] [22,23] (by kernel_rfl) (by kernel_rfl) hS0 ?_
      refine segs_step ?_
      try simp only [opsAt,List.getElem?_cons_zero,List.getElem?_cons_succ]
      repeat (go_big_quiet_step (fail))
      refine wpQuiet_nil ?_
      go_wp2_with ((go_at_call 96;refine (HFR.out _ (Gr.refl wr).drew).mono ?_;rintro e w5 ⟨rfl,rfl⟩))
      refine ⟨.inr (Held.of (HS.out _ (HI.out.rc.gr (Gr.refl wr).drew))),?_⟩
      refine segs_step ?_
      try simp only [opsAt,List.getElem?_cons_zero,List.getElem?_cons_succ]
      repeat (go_big_quiet_step (fail))
      refine wpQuiet_nil ?_
      go_wp2_with ((go_at_call 102;refine (HAR.out _ (Gr.refl wr).drew).mono ?_;rintro e w5 ⟨rfl,rfl⟩))
      refine ⟨.inr (Held.of (HS.out _ (HI.out.rc.gr (Gr.refl wr).drew))),?_⟩
      refine segs_end ?_
      try simp only [opsAt,List.getElem?_cons_zero,List.getElem?_cons_succ]
      repeat (go_big_quiet_step (fail))
      refine wpQuiet_nil ?_
      refine NoPanic.normal ?_
      clear y10 m0 y6 hS0 inst
      clear HS Sx
      have HST:=hid (rc_step (HI.out.rc.gr (Gr.refl wr).drew) (by have:=HI.out.len;have:=HML.out;show l.length<=_;omega))
      go_wp2_with (go_at_call 39;refine HST.out.mono ?_;rintro e w5 ⟨rfl,ht5,hr5⟩;have HT5:=hid ht5;have HR5:=hid hr5;clear ht5 hr5)
      have HX:=hid (HI.out.step HKL.out HC2.out.1 HC2.out.2 (((Gr.refl wr).drew.touch _).trans HT5.out) HR5.out)
      obtain ⟨n',hI5,hF5⟩:=HX.out
      have HI5:=hid hI5
      have HF5:Hid (freeN w5 a.bm N<freeN wr a.bm N):=⟨by
       have e1:=RCy.freeN HI5.out.rc (n:=N) (by show N=(stepL l).length;rw [stepL_len];exact HNL.out)
       have e2:=RCy.freeN HI.out.rc (n:=N) HNL.out
       rw [e1,e2]
       show (stepL l).length-mvdL (stepL l)<l.length-mvdL l
       have hf:ftL l<l.length:=by have:=HC2.out.1;have:=HKL.out;have:=HNE.out;have:=HNL.out;omega
       have hz:at_ l (ftL l)=false:=({ s with mv:=l }:Sl).ft_off hf
       have h1:=cnt_set_true hf hz
       have h2:cnt (at_ (l.set (ftL l) true)) l.length<=l.length:=cnt_le _ _
       rw [stepL_len]
       have h3:mvdL (stepL l)=mvdL l+1:=by
        unfold mvdL stepL
        rw [if_pos hf,List.length_set]
        exact h1
       rw [h3]
       have h4:mvdL l+1<=l.length:=by unfold mvdL;omega
       omega⟩
      clear hI5 hF5
      go_roundw
      case rel=>exact ⟨n',stepL l,HI5⟩
      case measure=>exact HF5.out
     ·have d1:decide ((s.cf.ah:Int)<=(ac:Int))=false:=decide_eq_false (by omega)
      have d1':decide (s.cf.ah<=ac)=false:=decide_eq_false hge
      have HNC:Hid (¬ (ftL l<k/\s.cf.ah<=mvdL l-ftL l)):=⟨fun h=>hge (by rw [HAC.out];exact h.2)⟩
      clear hlt hge
      go_upto_region 3 with (fail)
      obtain ⟨Sx,hSx⟩:∃ Sx:World->Prop,Sx=fun W'=>RCy W' y a { s with mv:=l } u:=⟨_,rfl⟩
      have y10:∀ p:Held Sx,p.w.cell? ⟨y,10,none⟩=some (.slice (some ⟨a.bm,0,none⟩) N a.cm):=fun p=>by have h:=Held.get hSx p;exact (by have e:=h.rc.cell (j:=10) rfl;rw [HNL.out];exact e)
      have m0:∀ p:Held Sx,p.w.cell? ⟨a.bm,k,none⟩=some (.bool false):=fun p=>by have h:=Held.get hSx p;exact (by have e:=own_cell h.mv (bls_at (i:=k) (by have:=HNL.out;have:=HKL.out;have:=HNE.out;show k<l.length;omega));rw [show at_ ({ s with mv:=l }:Sl).mv k=false from HI.out.un] at e;exact e)
      have y6:∀ p:Held Sx,p.w.cell? ⟨y,6,none⟩=some (.int .i64 s.cf.ah):=fun p=>by have h:=Held.get hSx p;exact h.rc.cell (j:=6) rfl
      have HS:Hid (∀ W',RCy W' y a { s with mv:=l } u->Sx W'):=⟨fun W' h=>by rw [hSx];exact h⟩
      have hS0:=HS.out _ (HI.out.rc.gr (Gr.refl wr).drew)
      have inst:Inhabited (Held Sx):=⟨⟨_,hS0⟩⟩
      clear hSx
      refine wp_region_mixS Sx 24 [([0,1,2,3,4,5,6,7,8,9,11],10),([12,13,14,15,17,18,19,20,21],16)] [22,23] (by kernel_rfl) (by kernel_rfl) hS0 ?_
      refine segs_step ?_
      try simp only [opsAt,List.getElem?_cons_zero,List.getElem?_cons_succ]
      repeat (go_big_quiet_step (fail))
      refine wpQuiet_nil ?_
      go_wp2_with ((go_at_call 96;refine (HFR.out _ (Gr.refl wr).drew).mono ?_;rintro e w5 ⟨rfl,rfl⟩))
      refine ⟨.inr (Held.of (HS.out _ (HI.out.rc.gr (Gr.refl wr).drew))),?_⟩
      refine segs_step ?_
      try simp only [opsAt,List.getElem?_cons_zero,List.getElem?_cons_succ]
      repeat (go_big_quiet_step (fail))
      refine wpQuiet_nil ?_
      go_wp2_with ((go_at_call 102;refine (HAR.out _ (Gr.refl wr).drew).mono ?_;rintro e w5 ⟨rfl,rfl⟩))
      refine ⟨.inr (Held.of (HS.out _ (HI.out.rc.gr (Gr.refl wr).drew))),?_⟩
      refine segs_end ?_
      try simp only [opsAt,List.getElem?_cons_zero,List.getElem?_cons_succ]
      repeat (go_big_quiet_step (fail))
      refine wpQuiet_nil ?_
      refine NoPanic.normal ?_
      clear y10 m0 y6 hS0 inst
      clear HS Sx
      have HFN:=hid (HI.out.fin HM.out HNC.out)
      have hx:=HI.out.rc.gr (Gr.refl wr).drew
      have c10:=hx.rc.cell (j:=10) rfl
      have cl:=hx.rc.lt
      have m0:=own_cell hx.mv (bls_at (i:=k) (by have:=HNL.out;have:=HKL.out;have:=HNE.out;show k<l.length;omega))
      rw [show at_ ({ s with mv:=l }:Sl).mv k=false from HI.out.un] at m0
      rw [show ({ s with mv:=l }:Sl).mv.length=N from HNL.out.symm] at c10
      have mf:=own_free hx.mv
      have ml':=(own_lt hx.mv rfl).2
      clear hx
      go_wp2
      refine bodyPost_end (results_none rfl _ _ _) rfl ?_
      refine ⟨rfl,(HI.out.t.trans ((Gr.refl wr).drew.touch _)).trans ((Touch.refl (fun i=>i=a.bm) wr.drew).setCell (a:=⟨a.bm,k,none⟩) (fun _=>rfl) _),?_⟩
      rw [HFN.out]
      exact (HI.out.rc.gr (Gr.refl wr).drew).set k
    ·have d0:decide ((fc:Int)<(k:Int))=false:=decide_eq_false (by omega)
     have d0':decide (fc<k)=false:=decide_eq_false hlt
     have HNC:Hid (¬ (ftL l<k/\s.cf.ah<=mvdL l-ftL l)):=⟨fun h=>hlt (by rw [HFC.out];exact h.1)⟩
     clear hlt
     go_upto_region 3 with (fail)
     obtain ⟨Sx,hSx⟩:∃ Sx:World->Prop,Sx=fun W'=>RCy W' y a { s with mv:=l } u:=⟨_,rfl⟩
     have y10:∀ p:Held Sx,p.w.cell? ⟨y,10,none⟩=some (.slice (some ⟨a.bm,0,none⟩) N a.cm):=fun p=>by have h:=Held.get hSx p;exact (by have e:=h.rc.cell (j:=10) rfl;rw [HNL.out];exact e)
     have m0:∀ p:Held Sx,p.w.cell? ⟨a.bm,k,none⟩=some (.bool false):=fun p=>by have h:=Held.get hSx p;exact (by have e:=own_cell h.mv (bls_at (i:=k) (by have:=HNL.out;have:=HKL.out;have:=HNE.out;show k<l.length;omega));rw [show at_ ({ s with mv:=l }:Sl).mv k=false from HI.out.un] at e;exact e)
     have y6:∀ p:Held Sx,p.w.cell? ⟨y,6,none⟩=some (.int .i64 s.cf.ah):=fun p=>by have h:=Held.get hSx p;exact h.rc.cell (j:=6) rfl
     have HS:Hid (∀ W',RCy W' y a { s with mv:=l } u->Sx W'):=⟨fun W' h=>by rw [hSx];exact h⟩
     have hS0:=HS.out _ (HI.out.rc.gr (Gr.refl wr).drew)
     have inst:Inhabited (Held Sx):=⟨⟨_,hS0⟩⟩
     clear hSx
     refine wp_region_mixS Sx 24 [([0,1,2,3,4,5,6,7,8,9,11],10),([12,13,14,15,17,18,19,20,21],16)] [22,23] (by kernel_rfl) (by kernel_rfl) hS0 ?_
     refine segs_step ?_
     try simp only [opsAt,List.getElem?_cons_zero,List.getElem?_cons_succ]
     repeat (go_big_quiet_step (fail))
     refine wpQuiet_nil ?_
     go_wp2_with ((go_at_call 96;refine (HFR.out _ (Gr.refl wr).drew).mono ?_;rintro e w5 ⟨rfl,rfl⟩))
     refine ⟨.inr (Held.of (HS.out _ (HI.out.rc.gr (Gr.refl wr).drew))),?_⟩
     refine segs_step ?_
     try simp only [opsAt,List.getElem?_cons_zero,List.getElem?_cons_succ]
     repeat (go_big_quiet_step (fail))
     refine wpQuiet_nil ?_
     go_wp2_with ((fail))
     refine ⟨.inr (Held.of (HS.out _ (HI.out.rc.gr (Gr.refl wr).drew))),?_⟩
     refine segs_end ?_
     try simp only [opsAt,List.getElem?_cons_zero,List.getElem?_cons_succ]
     repeat (go_big_quiet_step (fail))
     refine wpQuiet_nil ?_
     refine NoPanic.normal ?_
     clear y10 m0 y6 hS0 inst
     clear HS Sx
     have HFN:=hid (HI.out.fin HM.out HNC.out)
     have hx:=HI.out.rc.gr (Gr.refl wr).drew
     have c10:=hx.rc.cell (j:=10) rfl
     have cl:=hx.rc.lt
     have m0:=own_cell hx.mv (bls_at (i:=k) (by have:=HNL.out;have:=HKL.out;have:=HNE.out;show k<l.length;omega))
     rw [show at_ ({ s with mv:=l }:Sl).mv k=false from HI.out.un] at m0
     rw [show ({ s with mv:=l }:Sl).mv.length=N from HNL.out.symm] at c10
     have mf:=own_free hx.mv
     have ml':=(own_lt hx.mv rfl).2
     clear hx
     go_wp2
     refine bodyPost_end (results_none rfl _ _ _) rfl ?_
     refine ⟨rfl,(HI.out.t.trans ((Gr.refl wr).drew.touch _)).trans ((Touch.refl (fun i=>i=a.bm) wr.drew).setCell (a:=⟨a.bm,k,none⟩) (fun _=>rfl) _),?_⟩
     rw [HFN.out]
     exact (HI.out.rc.gr (Gr.refl wr).drew).set k
end
end Go.Proofs.YtbmidhlilafgeaaGreatDoor
end
section
namespace Go.Proofs.YtbmidhlilafgeaaGreatDoor
open Go.RowKit Word
theorem src_to {n:Nat} {L:List Ob} (hg:Good n L) {i:Nat} (hi:i<sizes L) (base:Nat):toE L (srcO L i:Nat)=0/\toV L base (srcO L i:Nat)=((base+i:Nat):Int):=by
 obtain ⟨hj,m,h1,h2,h3⟩:=src_spec hi
 have h:=toV_at hg (base:=base) hj (a:=(srcO L i:Nat)) (by omega) (by omega)
 exact ⟨h.2,by rw [h.1];omega⟩
theorem to_src {L:List Ob} {a:Int} (h:toE L a=0):∃ i,i<sizes L/\a=(srcO L i:Nat):=by
 unfold toE at h
 split at h
 ·rename_i hf
  obtain ⟨h1,h2⟩:=findO_yes hf
  have h3:=sizes_mid hf
  refine ⟨sizes (L.take (findO L a))+(a-L[findO L a].1).toNat,by omega,?_⟩
  rw [src_at hf (by omega)]
  omega
 ·cases h
theorem toE_two (L:List Ob) (a:Int):toE L a=0\/toE L a=6:=by unfold toE;split <;> simp
def Sl.owes (s:Sl) (p:Nat):Prop:=∃ i,i<sizes s.L/\srcO s.L i/s.pg=p/\s.is i=false
def Sl.has (s:Sl) (p:Nat):Prop:=∃ i,i<sizes s.L/\(s.cf.to+i)/s.pg=p/\s.is i=true
theorem div_is {a p g:Nat} (hg:1<=g):a/g=p↔p*g<=a/\a<p*g+g:=by
 constructor
 ·rintro rfl
  have h1:=Nat.div_add_mod a g
  have h2:=Nat.mod_lt a (show 0<g by omega)
  rw [Nat.mul_comm] at h1
  omega
 ·rintro ⟨h1,h2⟩
  exact Nat.div_eq_of_lt_le h1 (by rw [Nat.succ_mul];exact h2)
section
variable {w w':World} {y:Nat} {a:RcAd} {s:Sl} {u:Vm}
def Sl.owesB (s:Sl) (p:Nat):Bool:=(List.range (sizes s.L)).any fun i=>(srcO s.L i/s.pg==p)&&!s.is i
def Sl.hasB (s:Sl) (p:Nat):Bool:=(List.range (sizes s.L)).any fun i=>((s.cf.to+i)/s.pg==p)&&s.is i
theorem owesB_iff {s:Sl} {p:Nat}:s.owesB p=true↔s.owes p:=by
 unfold Sl.owesB Sl.owes
 rw [List.any_eq_true]
 constructor
 ·rintro ⟨i,hi,h⟩
  rw [Bool.and_eq_true,beq_iff_eq,Bool.not_eq_true'] at h
  exact ⟨i,List.mem_range.1 hi,h⟩
 ·rintro ⟨i,hi,h⟩
  refine ⟨i,List.mem_range.2 hi,?_⟩
  rw [Bool.and_eq_true,beq_iff_eq,Bool.not_eq_true']
  exact h
theorem hasB_iff {s:Sl} {p:Nat}:s.hasB p=true↔s.has p:=by
 unfold Sl.hasB Sl.has
 rw [List.any_eq_true]
 constructor
 ·rintro ⟨i,hi,h⟩
  rw [Bool.and_eq_true,beq_iff_eq] at h
  exact ⟨i,List.mem_range.1 hi,h⟩
 ·rintro ⟨i,hi,h⟩
  refine ⟨i,List.mem_range.2 hi,?_⟩
  rw [Bool.and_eq_true,beq_iff_eq]
  exact h
set_option maxRecDepth 100000 in
set_option maxHeartbeats 3200000 in
theorem rc_owes (hR:RCy w y a s u) (hst:SlSt s) {p:Nat} (hp:p*s.pg+s.pg<=1048576):Gets Tryz.prog 97 #[.pointer (some ⟨y,0,none⟩),.int .i64 p] w (.bool (s.owesB p)):=by
 have hnb:=hst.n2
 have hlm:=hst.cf.lm
 have hln:=hst.cf.ln
 have hpg:=hst.pg
 have hbk:=hst.bk
 have HTO:=hid (fun (W:World) (g:Gr w W) (x:Int)=>ref22_to (c:=a.oc) (hR.gr g).ob hst.good (by omega) s.cf.to (by omega) x)
 have HR:=hid hR
 have HST:=hid hst
 obtain ⟨pp,hpp⟩:∃ pp,pp=p*s.pg:=⟨_,rfl⟩
 have hmul:((p:Int)*(s.pg:Int))=(pp:Int):=by rw [hpp];push_cast;rfl
 have HPP:=hid hpp
 have hp1:p<=pp:=by rw [hpp];exact Nat.le_mul_of_pos_right _ (by omega)
 rw [<-hpp] at hp
 clear hR hst hpp
 have c9:=HR.out.rc.cell (j:=9) rfl
 have cl:=HR.out.rc.lt
 unfold Gets
 go_enter Tryz.func97,Tryz.ntmps97
 go_wp2_with (fail)
 clear c9 cl
 go_loopw [5] (fun s5 wr=>∃ j A:Nat,j<=s.pg/\Hid (A=pp+j)/\Hid (Gr w wr)/\Hid (∀ i,i<sizes s.L->s.is i=false->¬ (pp<=srcO s.L i/\srcO s.L i<A))/\s5=.int .i64 A) (fun s5 _=>pp+s.pg-(intOf s5).toNat)
 case atStart=>exact ⟨0,pp,Nat.zero_le _,⟨rfl⟩,⟨Gr.refl _⟩,⟨fun i _ _ h=>by omega⟩,rfl⟩
 case round=>
  obtain ⟨j,A,hj,HA,HG,HN,rfl⟩:=hrel
  have hAb:A<=1048576:=by have:=HA.out;omega
  by_cases hlt:j<s.pg
  ·have dA:decide ((A:Int)<(pp:Int)+(s.pg:Int))=true:=decide_eq_true (by have:=HA.out;omega)
   have HLT:=hid hlt
   clear hlt
   go_upto_region 2 with (fail)
   obtain ⟨Sx,hSx⟩:∃ Sx:World->Prop,Sx=fun W'=>RCy W' y a s u:=⟨_,rfl⟩
   have y9:∀ p:Held Sx,p.w.cell? ⟨y,9,none⟩=some (.int .i64 s.pg):=fun p=>by have h:=Held.get hSx p;exact h.rc.cell (j:=9) rfl
   have HS:Hid (∀ W',RCy W' y a s u->Sx W'):=⟨fun W' h=>by rw [hSx];exact h⟩
   have hS0:=HS.out _ (HR.out.gr (HG.out.trans (Gr.refl wr).drew))
   have inst:Inhabited (Held Sx):=⟨⟨_,hS0⟩⟩
   clear hSx
   refine wp_region_mixS Sx 13 [] [0,1,2,3,4,5,6,7,8,9,10,11,12] (by kernel_rfl) (by kernel_rfl) hS0 ?_
   refine segs_end ?_
   try simp only [opsAt,List.getElem?_cons_zero,List.getElem?_cons_succ]
   repeat (go_big_quiet_step (fail))
   refine wpQuiet_nil ?_
   refine NoPanic.normal ?_
   clear y9 hS0 inst
   clear HS Sx
   go_upto_region 4 with (fail)
   obtain ⟨B,hB⟩:∃ B,B=toV s.L s.cf.to (A:Nat):=⟨_,rfl⟩
   obtain ⟨E,hE⟩:∃ E,E=toE s.L (A:Nat):=⟨_,rfl⟩
   have HT2:=hid (fun (W:World) (g:Gr wr W)=>HTO.out W (HG.out.trans g) (A:Nat))
   rw [<-hB,<-hE] at HT2
   have HBE:=hid (And.intro hB hE)
   clear hB hE
   obtain ⟨Sx,hSx⟩:∃ Sx:World->Prop,Sx=fun W'=>RCy W' y a s u:=⟨_,rfl⟩
   have y7:∀ p:Held Sx,p.w.cell? ⟨y,7,none⟩=some (.slice a.OA s.L.length a.oc):=fun p=>by have h:=Held.get hSx p;exact h.rc.cell (j:=7) rfl
   have y2:∀ p:Held Sx,p.w.cell? ⟨y,2,none⟩=some (.int .i64 s.cf.to):=fun p=>by have h:=Held.get hSx p;exact h.rc.cell (j:=2) rfl
   have HS:Hid (∀ W',RCy W' y a s u->Sx W'):=⟨fun W' h=>by rw [hSx];exact h⟩
   have hS0:=HS.out _ (HR.out.gr (HG.out.trans (Gr.refl wr).drew.drew))
   have inst:Inhabited (Held Sx):=⟨⟨_,hS0⟩⟩
   clear hSx
   refine wp_region_mixS Sx 16 [([0,1,2,3,4,5,6,7,8,9],10)] [11,12,13,14,15] (by kernel_rfl) (by kernel_rfl) hS0 ?_
   refine segs_step ?_
   try simp only [opsAt,List.getElem?_cons_zero,List.getElem?_cons_succ]
   repeat (go_big_quiet_step (fail))
   refine wpQuiet_nil ?_
   go_wp2_with ((go_at_call 32;refine (HT2.out _ (Gr.refl wr).drew.drew).mono ?_;rintro e w1 ⟨rfl,hg1⟩;have HG1:=hid ((HG.out.trans (Gr.refl wr).drew.drew).trans hg1);clear hg1))
   refine ⟨.inr (Held.of (HS.out _ (HR.out.gr HG1.out))),?_⟩
   refine segs_end ?_
   try simp only [opsAt,List.getElem?_cons_zero,List.getElem?_cons_succ]
   repeat (go_big_quiet_step (fail))
   refine wpQuiet_nil ?_
   refine NoPanic.normal ?_
   clear y7 y2 hS0 inst
   clear HS Sx
   go_upto_region 5 with (fail)
   have hcase:(∃ i,i<sizes s.L/\A=srcO s.L i/\B=((s.cf.to+i:Nat):Int)/\E=0)\/(E=6/\∀ i,i<sizes s.L->A≠srcO s.L i):=by
    rw [HBE.out.1,HBE.out.2]
    rcases toE_two s.L (A:Nat) with h0 | h6
    ·obtain ⟨i,hi,hai⟩:=to_src h0
     refine .inl ⟨i,hi,by omega,?_,h0⟩
     rw [hai]
     exact (src_to HST.out.good hi s.cf.to).2
    ·refine .inr ⟨h6,fun i hi e=>?_⟩
     have:=(src_to HST.out.good hi s.cf.to).1
     rw [<-e,h6] at this
     cases this
   rcases hcase with ⟨i,hi,hai,hBi,rfl⟩ | ⟨rfl,hnone⟩
   ·have HI:=hid (And.intro hi hai)
    have g0:B-(s.cf.to:Int)=(i:Int):=by omega
    have hBb:0<=B/\B<=2097152:=by have:=HST.out.N_le;omega
    obtain ⟨k,hk⟩:∃ k,k=i/s.cf.bk:=⟨_,rfl⟩
    have g1:((i:Int).tdiv (s.cf.bk:Int))=(k:Int):=by rw [hk];rfl
    have g2:((i:Int)/(s.cf.bk:Int))=(k:Int):=by rw [hk];rfl
    have hbk0:(s.cf.bk:Int)≠0:=by omega
    have hkl:k<s.mv.length:=by rw [hk];exact HST.out.blk hi
    have hkI:(k:Int)<(s.mv.length:Int):=by omega
    have hib:i<=1048576:=by have:=HST.out.N_le;omega
    have hmvb:s.mv.length<=1048576:=by rw [HST.out.len];have:=nbl_le (n:=sizes s.L) HST.out.bk.1;have:=HST.out.N_le;omega
    have HIS:Hid (s.is i=at_ s.mv k):=⟨by rw [hk];rfl⟩
    have HKL:=hid hkl
    obtain ⟨mb,hmb⟩:∃ mb,mb=at_ s.mv k:=⟨_,rfl⟩
    have HMB:=hid hmb
    clear hi hai hk hkl hmb hBi
    obtain ⟨Sx,hSx⟩:∃ Sx:World->Prop,Sx=fun W'=>RCy W' y a s u:=⟨_,rfl⟩
    have y10:∀ p:Held Sx,p.w.cell? ⟨y,10,none⟩=some (.slice (some ⟨a.bm,0,none⟩) s.mv.length a.cm):=fun p=>by have h:=Held.get hSx p;exact h.rc.cell (j:=10) rfl
    have y2:∀ p:Held Sx,p.w.cell? ⟨y,2,none⟩=some (.int .i64 s.cf.to):=fun p=>by have h:=Held.get hSx p;exact h.rc.cell (j:=2) rfl
    have y4:∀ p:Held Sx,p.w.cell? ⟨y,4,none⟩=some (.int .i64 s.cf.bk):=fun p=>by have h:=Held.get hSx p;exact h.rc.cell (j:=4) rfl
    have m0:∀ p:Held Sx,p.w.cell? ⟨a.bm,k,none⟩=some (.bool mb):=fun p=>by have h:=Held.get hSx p;exact (by rw [HMB.out];exact own_cell h.mv (bls_at HKL.out))
    have HS:Hid (∀ W',RCy W' y a s u->Sx W'):=⟨fun W' h=>by rw [hSx];exact h⟩
    have hS0:=HS.out _ (HR.out.gr HG1.out.drew)
    have inst:Inhabited (Held Sx):=⟨⟨_,hS0⟩⟩
    clear hSx
    refine wp_region_mixS Sx 24 [] [0,1,2,3,4,5,6,7,8,9,10,11,12,13,14,15,16,17,18,19,20,21,22,23] (by kernel_rfl) (by kernel_rfl) hS0 ?_
    refine segs_end ?_
    try simp only [opsAt,List.getElem?_cons_zero,List.getElem?_cons_succ]
    repeat (go_big_quiet_step (fail))
    refine wpQuiet_nil ?_
    refine NoPanic.normal ?_
    clear y10 y2 y4 m0 hS0 inst
    clear HS Sx
    cases mb with
    | false=>
     have HE:Hid (s.owesB p=true):=⟨owesB_iff.2 ⟨i,HI.out.1,by rw [div_is HST.out.pg.1,<-HPP.out,<-HI.out.2];have:=HA.out;have:=HLT.out;omega,HIS.out.trans HMB.out.symm⟩⟩
     go_wp2
     go_ret
     exact ⟨ret_bool (by rw [HE.out]),HG1.out.drew⟩
    | true=>
     have HN2:Hid (∀ i',i' < sizes s.L->s.is i'=false->¬ (pp<=srcO s.L i'/\srcO s.L i' < A+1)):=⟨fun i' hi' hm hx=>by
      rcases Nat.lt_or_ge (srcO s.L i') A with h1 | h1
      ·exact HN.out i' hi' hm ⟨hx.1,h1⟩
      ·have e:srcO s.L i'=srcO s.L i:=by have:=HI.out.2;omega
       have e2:i'=i:=src_inj HST.out.good hi' HI.out.1 e
       rw [e2,HIS.out,<-HMB.out] at hm
       cases hm⟩
     go_wp2
     go_round
     case rel=>exact ⟨j+1,A+1,HLT.out,⟨by have:=HA.out;omega⟩,⟨HG1.out.drew⟩,HN2,by go_num⟩
     case measure=>have:=HA.out;have:=HLT.out;simp [intOf];omega
   ·have HN2:Hid (∀ i',i' < sizes s.L->s.is i'=false->¬ (pp<=srcO s.L i'/\srcO s.L i' < A+1)):=⟨fun i' hi' hm hx=>by
     rcases Nat.lt_or_ge (srcO s.L i') A with h1 | h1
     ·exact HN.out i' hi' hm ⟨hx.1,h1⟩
     ·exact hnone i' hi' (by omega)⟩
    clear hnone
    obtain ⟨Sx,hSx⟩:∃ Sx:World->Prop,Sx=fun W'=>RCy W' y a s u:=⟨_,rfl⟩
    have HS:Hid (∀ W',RCy W' y a s u->Sx W'):=⟨fun W' h=>by rw [hSx];exact h⟩
    have hS0:=HS.out _ (HR.out.gr HG1.out.drew)
    have inst:Inhabited (Held Sx):=⟨⟨_,hS0⟩⟩
    clear hSx
    refine wp_region_mixS Sx 24 [] [0,1,2,3,4,5,6,7,8,9,10,11,12,13,14,15,16,17,18,19,20,21,22,23] (by kernel_rfl) (by kernel_rfl) hS0 ?_
    refine segs_end ?_
    try simp only [opsAt,List.getElem?_cons_zero,List.getElem?_cons_succ]
    repeat (go_big_quiet_step (fail))
    refine wpQuiet_nil ?_
    refine NoPanic.normal ?_
    clear hS0 inst
    clear HS Sx
    go_wp2
    go_round
    case rel=>exact ⟨j+1,A+1,HLT.out,⟨by have:=HA.out;omega⟩,⟨HG1.out.drew⟩,HN2,by go_num⟩
    case measure=>have:=HA.out;have:=HLT.out;simp [intOf];omega
  ·have dA:decide ((A:Int)<(pp:Int)+(s.pg:Int))=false:=decide_eq_false (by have:=HA.out;omega)
   have HE:Hid (s.owesB p=false):=⟨Bool.eq_false_iff.2 fun hx=>by
    obtain ⟨i,hi,he,hm⟩:=owesB_iff.1 hx
    rw [div_is HST.out.pg.1,<-HPP.out] at he
    exact HN.out i hi hm ⟨he.1,by have:=HA.out;omega⟩⟩
   clear hlt
   go_upto_region 2 with (fail)
   obtain ⟨Sx,hSx⟩:∃ Sx:World->Prop,Sx=fun W'=>RCy W' y a s u:=⟨_,rfl⟩
   have y9:∀ p:Held Sx,p.w.cell? ⟨y,9,none⟩=some (.int .i64 s.pg):=fun p=>by have h:=Held.get hSx p;exact h.rc.cell (j:=9) rfl
   have HS:Hid (∀ W',RCy W' y a s u->Sx W'):=⟨fun W' h=>by rw [hSx];exact h⟩
   have hS0:=HS.out _ (HR.out.gr (HG.out.trans (Gr.refl wr).drew))
   have inst:Inhabited (Held Sx):=⟨⟨_,hS0⟩⟩
   clear hSx
   refine wp_region_mixS Sx 13 [] [0,1,2,3,4,5,6,7,8,9,10,11,12] (by kernel_rfl) (by kernel_rfl) hS0 ?_
   refine segs_end ?_
   try simp only [opsAt,List.getElem?_cons_zero,List.getElem?_cons_succ]
   repeat (go_big_quiet_step (fail))
   refine wpQuiet_nil ?_
   refine NoPanic.normal ?_
   clear y9 hS0 inst
   clear HS Sx
   go_wp2
   go_ret
   exact ⟨ret_bool (by rw [HE.out]),HG.out.trans (Gr.refl wr).drew⟩
set_option maxRecDepth 100000 in
set_option maxHeartbeats 3200000 in
theorem rc_has (hR:RCy w y a s u) (hst:SlSt s) {p:Nat} (hp:p*s.pg+s.pg<=1048576):Gets Tryz.prog 98 #[.pointer (some ⟨y,0,none⟩),.int .i64 p] w (.bool (s.hasB p)):=by
 have hnb:=hst.n2
 have hlm:=hst.cf.lm
 have hln:=hst.cf.ln
 have hpg:=hst.pg
 have hbk:=hst.bk
 have HTO:=hid (fun (W:World) (g:Gr w W) (x:Int)=>ref22_from (c:=a.oc) (hR.gr g).ob hst.good (by omega) s.cf.to (by omega) x)
 have HR:=hid hR
 have HST:=hid hst
 obtain ⟨pp,hpp⟩:∃ pp,pp=p*s.pg:=⟨_,rfl⟩
 have hmul:((p:Int)*(s.pg:Int))=(pp:Int):=by rw [hpp];push_cast;rfl
 have HPP:=hid hpp
 have hp1:p<=pp:=by rw [hpp];exact Nat.le_mul_of_pos_right _ (by omega)
 rw [<-hpp] at hp
 clear hR hst hpp
 have c9:=HR.out.rc.cell (j:=9) rfl
 have cl:=HR.out.rc.lt
 unfold Gets
 go_enter Tryz.func98,Tryz.ntmps98
 go_wp2_with (fail)
 clear c9 cl
 go_loopw [5] (fun s5 wr=>∃ j A:Nat,j<=s.pg/\Hid (A=pp+j)/\Hid (Gr w wr)/\Hid (∀ i,i<sizes s.L->s.is i=true->¬ (pp<=s.cf.to+i/\s.cf.to+i<A))/\s5=.int .i64 A) (fun s5 _=>pp+s.pg-(intOf s5).toNat)
 case atStart=>exact ⟨0,pp,Nat.zero_le _,⟨rfl⟩,⟨Gr.refl _⟩,⟨fun i _ _ h=>by omega⟩,rfl⟩
 case round=>
  obtain ⟨j,A,hj,HA,HG,HN,rfl⟩:=hrel
  have hAb:A<=1048576:=by have:=HA.out;omega
  by_cases hlt:j<s.pg
  ·have dA:decide ((A:Int)<(pp:Int)+(s.pg:Int))=true:=decide_eq_true (by have:=HA.out;omega)
   have HLT:=hid hlt
   clear hlt
   go_upto_region 2 with (fail)
   obtain ⟨Sx,hSx⟩:∃ Sx:World->Prop,Sx=fun W'=>RCy W' y a s u:=⟨_,rfl⟩
   have y9:∀ p:Held Sx,p.w.cell? ⟨y,9,none⟩=some (.int .i64 s.pg):=fun p=>by have h:=Held.get hSx p;exact h.rc.cell (j:=9) rfl
   have HS:Hid (∀ W',RCy W' y a s u->Sx W'):=⟨fun W' h=>by rw [hSx];exact h⟩
   have hS0:=HS.out _ (HR.out.gr (HG.out.trans (Gr.refl wr).drew))
   have inst:Inhabited (Held Sx):=⟨⟨_,hS0⟩⟩
   clear hSx
   refine wp_region_mixS Sx 13 [] [0,1,2,3,4,5,6,7,8,9,10,11,12] (by kernel_rfl) (by kernel_rfl) hS0 ?_
   refine segs_end ?_
   try simp only [opsAt,List.getElem?_cons_zero,List.getElem?_cons_succ]
   repeat (go_big_quiet_step (fail))
   refine wpQuiet_nil ?_
   refine NoPanic.normal ?_
   clear y9 hS0 inst
   clear HS Sx
   go_upto_region 4 with (fail)
   obtain ⟨B,hB⟩:∃ B,B=fromV s.L s.cf.to (A:Nat):=⟨_,rfl⟩
   obtain ⟨D,hD⟩:∃ D,D=fromI s.L s.cf.to (A:Nat):=⟨_,rfl⟩
   obtain ⟨E,hE⟩:∃ E,E=fromE s.L s.cf.to (A:Nat):=⟨_,rfl⟩
   have HT2:=hid (fun (W:World) (g:Gr wr W)=>HTO.out W (HG.out.trans g) (A:Nat))
   rw [<-hB,<-hE,<-hD] at HT2
   have HBE:=hid (And.intro hB hE)
   clear hB hE hD
   obtain ⟨Sx,hSx⟩:∃ Sx:World->Prop,Sx=fun W'=>RCy W' y a s u:=⟨_,rfl⟩
   have y7:∀ p:Held Sx,p.w.cell? ⟨y,7,none⟩=some (.slice a.OA s.L.length a.oc):=fun p=>by have h:=Held.get hSx p;exact h.rc.cell (j:=7) rfl
   have y2:∀ p:Held Sx,p.w.cell? ⟨y,2,none⟩=some (.int .i64 s.cf.to):=fun p=>by have h:=Held.get hSx p;exact h.rc.cell (j:=2) rfl
   have HS:Hid (∀ W',RCy W' y a s u->Sx W'):=⟨fun W' h=>by rw [hSx];exact h⟩
   have hS0:=HS.out _ (HR.out.gr (HG.out.trans (Gr.refl wr).drew.drew))
   have inst:Inhabited (Held Sx):=⟨⟨_,hS0⟩⟩
   clear hSx
   refine wp_region_mixS Sx 18 [([0,1,2,3,4,5,6,7,8,9],10)] [11,12,13,14,15,16,17] (by kernel_rfl) (by kernel_rfl) hS0 ?_
   refine segs_step ?_
   try simp only [opsAt,List.getElem?_cons_zero,List.getElem?_cons_succ]
   repeat (go_big_quiet_step (fail))
   refine wpQuiet_nil ?_
   go_wp2_with ((go_at_call 101;refine (HT2.out _ (Gr.refl wr).drew.drew).mono ?_;rintro e w1 ⟨rfl,rfl⟩;have HG1:=hid (HG.out.trans (Gr.refl wr).drew.drew)))
   refine ⟨.inr (Held.of (HS.out _ (HR.out.gr HG1.out))),?_⟩
   refine segs_end ?_
   try simp only [opsAt,List.getElem?_cons_zero,List.getElem?_cons_succ]
   repeat (go_big_quiet_step (fail))
   refine wpQuiet_nil ?_
   refine NoPanic.normal ?_
   clear y7 y2 hS0 inst
   clear HS Sx
   go_upto_region 5 with (fail)
   have hcase:(∃ i,i<sizes s.L/\A=s.cf.to+i/\E=0)\/(E=11/\∀ i,i<sizes s.L->A≠s.cf.to+i):=by
    rw [HBE.out.2]
    cases hin:inF s.L s.cf.to (A:Nat) with
    | true=>
     have h1:=inF_iff.1 hin
     exact .inl ⟨A-s.cf.to,by omega,by omega,by unfold fromE;rw [hin];rfl⟩
    | false=>
     refine .inr ⟨by unfold fromE;rw [hin];rfl,fun i hi e=>?_⟩
     have h2:inF s.L s.cf.to (A:Nat)=true:=inF_iff.2 (by omega)
     rw [hin] at h2;cases h2
   rcases hcase with ⟨i,hi,hai,rfl⟩ | ⟨rfl,hnone⟩
   ·have HI:=hid (And.intro hi hai)
    have g0:(A:Int)-(s.cf.to:Int)=(i:Int):=by omega
    obtain ⟨k,hk⟩:∃ k,k=i/s.cf.bk:=⟨_,rfl⟩
    have g1:((i:Int).tdiv (s.cf.bk:Int))=(k:Int):=by rw [hk];rfl
    have g2:((i:Int)/(s.cf.bk:Int))=(k:Int):=by rw [hk];rfl
    have hbk0:(s.cf.bk:Int)≠0:=by omega
    have hkl:k<s.mv.length:=by rw [hk];exact HST.out.blk hi
    have hkI:(k:Int)<(s.mv.length:Int):=by omega
    have hib:i<=1048576:=by have:=HST.out.N_le;omega
    have hmvb:s.mv.length<=1048576:=by rw [HST.out.len];have:=nbl_le (n:=sizes s.L) HST.out.bk.1;have:=HST.out.N_le;omega
    have HIS:Hid (s.is i=at_ s.mv k):=⟨by rw [hk];rfl⟩
    have HKL:=hid hkl
    obtain ⟨mb,hmb⟩:∃ mb,mb=at_ s.mv k:=⟨_,rfl⟩
    have HMB:=hid hmb
    clear hi hai hk hkl hmb
    obtain ⟨Sx,hSx⟩:∃ Sx:World->Prop,Sx=fun W'=>RCy W' y a s u:=⟨_,rfl⟩
    have y10:∀ p:Held Sx,p.w.cell? ⟨y,10,none⟩=some (.slice (some ⟨a.bm,0,none⟩) s.mv.length a.cm):=fun p=>by have h:=Held.get hSx p;exact h.rc.cell (j:=10) rfl
    have y2:∀ p:Held Sx,p.w.cell? ⟨y,2,none⟩=some (.int .i64 s.cf.to):=fun p=>by have h:=Held.get hSx p;exact h.rc.cell (j:=2) rfl
    have y4:∀ p:Held Sx,p.w.cell? ⟨y,4,none⟩=some (.int .i64 s.cf.bk):=fun p=>by have h:=Held.get hSx p;exact h.rc.cell (j:=4) rfl
    have m0:∀ p:Held Sx,p.w.cell? ⟨a.bm,k,none⟩=some (.bool mb):=fun p=>by have h:=Held.get hSx p;exact (by rw [HMB.out];exact own_cell h.mv (bls_at HKL.out))
    have HS:Hid (∀ W',RCy W' y a s u->Sx W'):=⟨fun W' h=>by rw [hSx];exact h⟩
    have hS0:=HS.out _ (HR.out.gr HG1.out.drew)
    have inst:Inhabited (Held Sx):=⟨⟨_,hS0⟩⟩
    clear hSx
    refine wp_region_mixS Sx 23 [] [0,1,2,3,4,5,6,7,8,9,10,11,12,13,14,15,16,17,18,19,20,21,22] (by kernel_rfl) (by kernel_rfl) hS0 ?_
    refine segs_end ?_
    try simp only [opsAt,List.getElem?_cons_zero,List.getElem?_cons_succ]
    repeat (go_big_quiet_step (fail))
    refine wpQuiet_nil ?_
    refine NoPanic.normal ?_
    clear y10 y2 y4 m0 hS0 inst
    clear HS Sx
    cases mb with
    | true=>
     have HE:Hid (s.hasB p=true):=⟨hasB_iff.2 ⟨i,HI.out.1,by rw [div_is HST.out.pg.1,<-HPP.out,<-HI.out.2];have:=HA.out;have:=HLT.out;omega,HIS.out.trans HMB.out.symm⟩⟩
     go_wp2
     go_ret
     exact ⟨ret_bool (by rw [HE.out]),HG1.out.drew⟩
    | false=>
     have HN2:Hid (∀ i',i' < sizes s.L->s.is i'=true->¬ (pp<=s.cf.to+i'/\s.cf.to+i' < A+1)):=⟨fun i' hi' hm hx=>by
      rcases Nat.lt_or_ge (s.cf.to+i') A with h1 | h1
      ·exact HN.out i' hi' hm ⟨hx.1,h1⟩
      ·have e:s.cf.to+i'=s.cf.to+i:=by have:=HI.out.2;omega
       have e2:i'=i:=by omega
       rw [e2,HIS.out,<-HMB.out] at hm
       cases hm⟩
     go_wp2
     go_round
     case rel=>exact ⟨j+1,A+1,HLT.out,⟨by have:=HA.out;omega⟩,⟨HG1.out.drew⟩,HN2,by go_num⟩
     case measure=>have:=HA.out;have:=HLT.out;simp [intOf];omega
   ·have HN2:Hid (∀ i',i' < sizes s.L->s.is i'=true->¬ (pp<=s.cf.to+i'/\s.cf.to+i' < A+1)):=⟨fun i' hi' hm hx=>by
     rcases Nat.lt_or_ge (s.cf.to+i') A with h1 | h1
     ·exact HN.out i' hi' hm ⟨hx.1,h1⟩
     ·exact hnone i' hi' (by omega)⟩
    clear hnone
    obtain ⟨Sx,hSx⟩:∃ Sx:World->Prop,Sx=fun W'=>RCy W' y a s u:=⟨_,rfl⟩
    have HS:Hid (∀ W',RCy W' y a s u->Sx W'):=⟨fun W' h=>by rw [hSx];exact h⟩
    have hS0:=HS.out _ (HR.out.gr HG1.out.drew)
    have inst:Inhabited (Held Sx):=⟨⟨_,hS0⟩⟩
    clear hSx
    refine wp_region_mixS Sx 23 [] [0,1,2,3,4,5,6,7,8,9,10,11,12,13,14,15,16,17,18,19,20,21,22] (by kernel_rfl) (by kernel_rfl) hS0 ?_
    refine segs_end ?_
    try simp only [opsAt,List.getElem?_cons_zero,List.getElem?_cons_succ]
    repeat (go_big_quiet_step (fail))
    refine wpQuiet_nil ?_
    refine NoPanic.normal ?_
    clear hS0 inst
    clear HS Sx
    go_wp2
    go_round
    case rel=>exact ⟨j+1,A+1,HLT.out,⟨by have:=HA.out;omega⟩,⟨HG1.out.drew⟩,HN2,by go_num⟩
    case measure=>have:=HA.out;have:=HLT.out;simp [intOf];omega
  ·have dA:decide ((A:Int)<(pp:Int)+(s.pg:Int))=false:=decide_eq_false (by have:=HA.out;omega)
   have HE:Hid (s.hasB p=false):=⟨Bool.eq_false_iff.2 fun hx=>by
    obtain ⟨i,hi,he,hm⟩:=hasB_iff.1 hx
    rw [div_is HST.out.pg.1,<-HPP.out] at he
    exact HN.out i hi hm ⟨he.1,by have:=HA.out;omega⟩⟩
   clear hlt
   go_upto_region 2 with (fail)
   obtain ⟨Sx,hSx⟩:∃ Sx:World->Prop,Sx=fun W'=>RCy W' y a s u:=⟨_,rfl⟩
   have y9:∀ p:Held Sx,p.w.cell? ⟨y,9,none⟩=some (.int .i64 s.pg):=fun p=>by have h:=Held.get hSx p;exact h.rc.cell (j:=9) rfl
   have HS:Hid (∀ W',RCy W' y a s u->Sx W'):=⟨fun W' h=>by rw [hSx];exact h⟩
   have hS0:=HS.out _ (HR.out.gr (HG.out.trans (Gr.refl wr).drew))
   have inst:Inhabited (Held Sx):=⟨⟨_,hS0⟩⟩
   clear hSx
   refine wp_region_mixS Sx 13 [] [0,1,2,3,4,5,6,7,8,9,10,11,12] (by kernel_rfl) (by kernel_rfl) hS0 ?_
   refine segs_end ?_
   try simp only [opsAt,List.getElem?_cons_zero,List.getElem?_cons_succ]
   repeat (go_big_quiet_step (fail))
   refine wpQuiet_nil ?_
   refine NoPanic.normal ?_
   clear y9 hS0 inst
   clear HS Sx
   go_wp2
   go_ret
   exact ⟨ret_bool (by rw [HE.out]),HG.out.trans (Gr.refl wr).drew⟩
end
end Go.Proofs.YtbmidhlilafgeaaGreatDoor
end
section
namespace Go.Proofs.YtbmidhlilafgeaaGreatDoor
open Go.RowKit Go.Shelf Word
section
variable {P:Program} {l:List Oper} {S:World->Prop} {Q:Exit->Act->World->Prop}
theorem mixT_fin {qs:List Nat} {a:Act} {w:World} (h:wpQuiet P l.toArray S (fun a'=>Q .normal a' w) (opsAt l qs) a):wpMixT P l S Q (.fin qs) a w:=h
theorem mixT_one {qs:List Nat} {k:Nat} {t:MixT} {a:Act} {w:World} (h:wpQuiet P l.toArray S (fun a'=>wpList P l.toArray (Exit.then (fun a2 w2=>S w2/\wpMixT P l S Q t a2 w2) Q) (opsAt l [k]) a' w) (opsAt l qs) a):wpMixT P l S Q (.one qs k t) a w:=h
theorem mixT_two {qs:List Nat} {k1 k2:Nat} {t1 t2:MixT} {a:Act} {w:World} (h:wpQuiet P l.toArray S (fun a'=>wpList P l.toArray (Exit.then (fun a2 w2=>S w2/\wpMixT P l S Q t1 a2 w2) Q) (opsAt l [k1]) a' w/\wpList P l.toArray (Exit.then (fun a2 w2=>S w2/\wpMixT P l S Q t2 a2 w2) Q) (opsAt l [k2]) a' w) (opsAt l qs) a):wpMixT P l S Q (.two qs k1 t1 k2 t2) a w:=h
end
theorem st3_self (W:World) (b:Nat) (z0 z1 z2:Value):Touch (fun i=>i=b) W (((W.setCell ⟨b,0,none⟩ z0).setCell ⟨b,1,none⟩ z1).setCell ⟨b,2,none⟩ z2):=
 (((Touch.refl (fun i=>i=b) W).setCell (a:=⟨b,0,none⟩) (fun _=>rfl) z0).setCell (a:=⟨b,1,none⟩) (fun _=>rfl) z1).setCell (a:=⟨b,2,none⟩) (fun _=>rfl) z2
theorem rec3 {W:World} {b T:Nat} {x0 x1 x2:Value} (h:Rec W b T [x0,x1,x2]) (z0 z1 z2:Value):Rec (((W.setCell ⟨b,0,none⟩ z0).setCell ⟨b,1,none⟩ z1).setCell ⟨b,2,none⟩ z2) b T [z0,z1,z2]:=((h.set 0 z0).set 1 z1).set 2 z2
section
variable {w w':World} {y:Nat} {a:RcAd} {s:Sl} {u:Vm}
set_option maxRecDepth 100000 in
set_option maxHeartbeats 6400000 in
theorem rc_word (hR:RCy w y a s u) (hst:SlSt s) (hu:FullN s.n u) {i:Nat} (hi:i<sizes s.L) (hhd:∀ j (hj:j<s.L.length),u.rdH (s.L[j].1:Nat)=s.hd s.L[j].1) (hptr:s.ptr i->u.ldV (srcO s.L i:Nat)<=2147483647):
  Gets Tryz.prog 54 #[.pointer (some ⟨y,0,none⟩),.int .i64 ((s.cf.to+i:Nat):Int)] w (.tuple #[.int .u64 (s.cv i (u.ldV (srcO s.L i:Nat)):Nat),.bool true]):=by
 have hnb:=hst.n2
 have hlm:=hst.cf.lm
 have hln:=hst.cf.ln
 have hib:i<=1048576:=by have:=hst.N_le;omega
 obtain ⟨j,hj,m,p0,f,k,e1,e2,e3,e4,e5,e6,e7,e8,e9⟩:=hst.obj hi
 have hsl:=(hst.srcs hi).2.2
 have HFM:=hid (fun (W:World) (g:Gr w W)=>ref22_from (c:=a.oc) (hR.gr g).ob hst.good (by omega) s.cf.to (by omega) ((s.cf.to+i:Nat):Int))
 have hfi:fromI s.L s.cf.to ((s.cf.to+i:Nat):Int)=(j:Int):=by
  unfold fromI
  rw [if_pos (inF_iff.2 (by omega)),show (((s.cf.to+i:Nat):Int)-(s.cf.to:Int)).toNat=i by omega,e1]
 rw [(src_from hi).1,(src_from hi).2,hfi] at HFM
 have HRD:=hid (fun (W:World) (g:Gr w W)=>ref15n_read hu (hR.gr g).wd (s.L[j].1:Nat))
 rw [hhd j hj,e7] at HRD
 obtain ⟨er,her⟩:∃ er,er=u.rdE (s.L[j].1:Nat):=⟨_,rfl⟩
 rw [<-her] at HRD
 have HKD:=hid (fun (W:World)=>ref14_kind e8 ((m:Int)-1) W)
 have HKI:=hid (kind_is (f:=f) (k:=k) e8 (m:=m))
 obtain ⟨kd,hkd⟩:∃ kd,kd=kindOf ⟨p0,f,k⟩ ((m:Int)-1):=⟨_,rfl⟩
 have HKE:=hid hkd
 rw [<-hkd] at HKD
 have hkb:0<=kd/\kd<=3:=by
  rw [hkd]
  unfold kindOf
  repeat' split
  all_goals omega
 obtain ⟨x,hx⟩:∃ x,x=u.ldV (srcO s.L i:Nat):=⟨_,rfl⟩
 have HXE:=hid hx
 have hx64:x<18446744073709551616:=by rw [hx];exact hu.ok.ldV_lt _
 have HPT:Hid (1<=m/\m<=p0->x<=2147483647):=⟨fun h=>by
  rw [hx]
  refine hptr ⟨by rw [e5];exact h.1,?_⟩
  rw [e6,e7,e5]
  show (m:Int)<=(p0:Int)
  omega⟩
 have hcv:s.cv i x=if (1<=m/\(m:Int)<=(p0:Int))/\x≠0 then (toV s.L s.cf.to (x:Nat)).toNat else x:=by
  unfold Sl.cv cvH
  rw [e6,e7,e5]
 have HCT:Hid (1<=m/\m<=p0->((s.cv i x:Nat):Int)=toV s.L s.cf.to (x:Nat)):=⟨fun h=>by
  rw [hcv]
  by_cases h0:x=0
  ·rw [if_neg (fun hh=>hh.2 h0),h0]
   exact hst.to_zero.symm
  ·rw [if_pos ⟨⟨h.1,by omega⟩,h0⟩]
   have:=to_nonneg s.L s.cf.to (x:Nat)
   omega⟩
 have HCF:Hid (¬ (1<=m/\m<=p0)->((s.cv i x:Nat):Int)=(x:Int)):=⟨fun h=>by
  rw [hcv,if_neg (fun hh=>h ⟨hh.1.1,by omega⟩)]⟩
 rw [<-hx]
 obtain ⟨st,hst0⟩:∃ st,st=s.L[j].1:=⟨_,rfl⟩
 have hobj:=hR.ob j hj
 obtain ⟨go,hgo,hgol,-,-⟩:=hobj
 have HOA:=hid hgo
 have HOB:Hid (∀ W,RCy W y a s u->W.cell? ⟨go,j*2,none⟩=some (.int .i64 st)):=⟨fun W h=>by
  obtain ⟨g',e,-,h1,-⟩:=h.ob j hj
  rw [hgo] at e
  cases e
  rw [hst0]
  exact h1⟩
 rw [<-hst0] at e4 HRD
 obtain ⟨cvv,hcvv⟩:∃ cvv,cvv=s.cv i x:=⟨_,rfl⟩
 rw [<-hcvv] at HCT HCF ⊢
 obtain ⟨sr,hsr⟩:∃ sr,sr=srcO s.L i:=⟨_,rfl⟩
 rw [<-hsr] at HFM e4 hsl HXE
 have HSL:=hid hsl
 have hN1:s.n≠0:=by omega
 obtain ⟨ga,ca,hga0,-,-,-,-⟩:=own_form hR.wd hN1
 have hga:a.A=some ⟨ga,0,none⟩:=by injection hga0
 clear hga0
 have HGA:=hid hga
 have HWD:Hid (∀ W,RCy W y a s u->W.ownsRow 0 50 1 (.slice (some ⟨ga,0,none⟩) s.n a.cp) s.n (wrds u s.n)):=⟨fun W h=>by rw [<-hga];exact h.wd⟩
 have hjI:(j:Int)<(s.L.length:Int):=by omega
 have hLb:s.L.length<=1048576:=by have:=hst.good.len;omega
 have hsn:(sr:Int)<(s.n:Int):=by omega
 have hsm:(sr:Int)-(st:Int)-1=(m:Int)-1:=by omega
 have hmb:m<=255:=by omega
 have hsb:sr<=1048576:=by omega
 have hpb:p0<=255:=by omega
 have hstb:st<=1048576:=by omega
 have hst1:st<=sr:=by omega
 obtain ⟨B,hB⟩:∃ B:Int,B=((s.cf.to+i:Nat):Int):=⟨_,rfl⟩
 rw [<-hB] at HFM ⊢
 have HR:=hid hR
 have HST:=hid hst
 clear hR hst hu hi hhd hptr e1 e2 e3 e4 e5 e6 e7 e9 hfi her hkd hx hcv hst0 hgo hgol hcvv hsr hsl hN1 hB hj hga
 unfold hdrV at HRD
 unfold Gets
 go_enter Tryz.func54,Tryz.ntmps54
 go_upto_region 1 with (fail)
 obtain ⟨Sx,hSx⟩:∃ Sx:World->Prop,Sx=fun W'=>RCy W' y a s u:=⟨_,rfl⟩
 have y7:∀ p:Held Sx,p.w.cell? ⟨y,7,none⟩=some (.slice a.OA s.L.length a.oc):=fun p=>by have h:=Held.get hSx p;exact h.rc.cell (j:=7) rfl
 have y2:∀ p:Held Sx,p.w.cell? ⟨y,2,none⟩=some (.int .i64 s.cf.to):=fun p=>by have h:=Held.get hSx p;exact h.rc.cell (j:=2) rfl
 have HS:Hid (∀ W',RCy W' y a s u->Sx W'):=⟨fun W' h=>by rw [hSx];exact h⟩
 have hS0:=HS.out _ (HR.out.gr (Gr.refl w).drew)
 have inst:Inhabited (Held Sx):=⟨⟨_,hS0⟩⟩
 clear hSx
 refine wp_region_mixS Sx 18 [([0,1,2,3,4,5,6,7,8,9],10)] [11,12,13,14,15,16,17] (by kernel_rfl) (by kernel_rfl) hS0 ?_
 refine segs_step ?_
 try simp only [opsAt,List.getElem?_cons_zero,List.getElem?_cons_succ]
 repeat (go_big_quiet_step (fail))
 refine wpQuiet_nil ?_
 go_wp2_with ((go_at_call 101;refine (HFM.out _ (Gr.refl w).drew).mono ?_;rintro e w1 ⟨rfl,rfl⟩))
 refine ⟨.inr (Held.of (HS.out _ (HR.out.gr (Gr.refl w).drew))),?_⟩
 refine segs_end ?_
 try simp only [opsAt,List.getElem?_cons_zero,List.getElem?_cons_succ]
 repeat (go_big_quiet_step (fail))
 refine wpQuiet_nil ?_
 refine NoPanic.normal ?_
 clear y7 y2 hS0 inst
 clear HS Sx
 go_upto_region 4 with (fail)
 obtain ⟨Sx,hSx⟩:∃ Sx:World->Prop,Sx=fun W'=>RCy W' y a s u:=⟨_,rfl⟩
 have y7:∀ p':Held Sx,p'.w.cell? ⟨y,7,none⟩=some (.slice (some ⟨go,0,none⟩) s.L.length a.oc):=fun p'=>by have e:=(Held.get hSx p').rc.cell (j:=7) rfl;rw [<-HOA.out];exact e
 have y8:∀ p':Held Sx,p'.w.cell? ⟨y,8,none⟩=some (.slice a.A s.n a.cp):=fun p'=>(Held.get hSx p').rc.cell (j:=8) rfl
 have yo:∀ p':Held Sx,p'.w.cell? ⟨go,j*2,none⟩=some (.int .i64 st):=fun p'=>HOB.out _ (Held.get hSx p')
 have HSX:Hid (∀ W',RCy W' y a s u->Sx W'):=⟨fun W' h=>by rw [hSx];exact h⟩
 have hS0:=HSX.out _ (HR.out.gr (Gr.refl w).drew.drew)
 have inst:Inhabited (Held Sx):=⟨⟨_,hS0⟩⟩
 clear hSx
 refine wp_region_mixT Sx (.two [0,1,2,3,4,5,6,7,8,9,10,11] 12 (.one [13,14,15] 16 (.one [] 17 (.fin [18]))) 16 (.one [] 12 (.one [13,14,15] 17 (.fin [18])))) (by kernel_rfl) (by kernel_rfl) hS0 ?_
 refine mixT_two ?_
 simp only [opsAt,List.getElem?_cons_zero,List.getElem?_cons_succ]
 repeat (go_big_quiet_step (fail))
 refine wpQuiet_nil ⟨?_,?_⟩
 ·go_wp2_with (go_at_call 74;refine (HRD.out _ (Gr.refl w).drew.drew).mono ?_;rintro e w4 ⟨rfl,hg4⟩;have HG4:=hid ((Gr.refl w).drew.drew.trans hg4);clear hg4)
  refine ⟨Held.of (HSX.out _ (HR.out.gr HG4.out)),?_⟩
  refine mixT_one ?_
  simp only [opsAt,List.getElem?_cons_zero,List.getElem?_cons_succ]
  repeat (go_big_quiet_step (fail))
  refine wpQuiet_nil ?_
  have x4:=HR.out.gr HG4.out
  have HRA:=hid (Rec.new w4 90 [.int .i64 0,.int .i64 0,.int .i64 0])
  have HGA4:=hid ((Gr.refl w4).alloc (.cells #[.int .i64 0,.int .i64 0,.int .i64 0] 90))
  go_wp2
  obtain ⟨HB,hHB⟩:∃ HB,HB=w4.heap.size:=⟨_,rfl⟩
  obtain ⟨WA,hWA⟩:∃ WA,WA=w4.alloc (.cells #[.int .i64 0,.int .i64 0,.int .i64 0] 90):=⟨_,rfl⟩
  rw [show w4.alloc (.cells ([.int .i64 0,.int .i64 0,.int .i64 0]:List Value).toArray 90)=WA from hWA.symm] at HRA
  have HHB:=hid hHB
  rw [<-hWA] at HGA4 ⊢
  rw [<-hHB] at HRA ⊢
  clear hHB hWA x4
  refine ⟨Held.of (HSX.out _ (HR.out.gr (HG4.out.trans HGA4.out))),?_⟩
  refine mixT_one ?_
  simp only [opsAt,List.getElem?_cons_zero,List.getElem?_cons_succ]
  refine wpQuiet_nil ?_
  have HRC:=HRA
  have HGC:=hid (HG4.out.trans HGA4.out)
  have HHB2:Hid (w.heap.size<=HB):=⟨by have:=HG4.out.size;have:=HHB.out;omega⟩
  clear HHB
  have HHB:=HHB2
  obtain ⟨WC,rfl⟩:∃ WC,WC=WA:=⟨_,rfl⟩
  have q0:=HRC.out.cell (j:=0) rfl
  have q1:=HRC.out.cell (j:=1) rfl
  have q2:=HRC.out.cell (j:=2) rfl
  have q3:=HRC.out.lt
  have q4:=HRC.out.free
  have hr3:=rec3 HRC.out (.int .i64 p0) (.int .i64 f) (.int .i64 k)
  have ht3:=st3_self WC HB (.int .i64 p0) (.int .i64 f) (.int .i64 k)
  go_wp2
  obtain ⟨WX,hWX⟩:∃ WX,WX=((WC.setCell ⟨HB,0,none⟩ (.int .i64 p0)).setCell ⟨HB,1,none⟩ (.int .i64 f)).setCell ⟨HB,2,none⟩ (.int .i64 k):=⟨_,rfl⟩
  rw [<-hWX] at hr3 ht3 ⊢
  have HBX:=hid hr3
  have HGX:Hid (Gr w WX):=⟨((HGC.out.touch (fun _=>False)).trans' ht3 (fun b hb h=>by have:=HHB.out;omega)).gr⟩
  clear hWX hr3 ht3 q0 q1 q2 q3 q4
  refine ⟨Held.of (HSX.out _ (HR.out.gr HGX.out)),?_⟩
  refine mixT_fin ?_
  simp only [opsAt,List.getElem?_cons_zero,List.getElem?_cons_succ]
  repeat (go_big_quiet_step (fail))
  refine wpQuiet_nil ?_
  refine NoPanic.normal ?_
  clear y7 y8 yo hS0 inst HSX
  have hx:=HR.out.gr HGX.out
  have q1:=own_cell (HWD.out _ hx) (wrds_at u HSL.out)
  have q2:=(own_lt (HWD.out _ hx) rfl).2
  have q3:=hx.rc.cell (j:=8) rfl
  rw [HGA.out] at q3
  have ql:=hx.rc.lt
  rw [<-HXE.out] at q1
  clear hx
  go_upto_region 6 with (fail)
  clear q1 q2 q3 ql
  obtain ⟨Sx,hSx⟩:∃ Sx:World->Prop,Sx=fun W'=>RCy W' y a s u/\Rec W' HB 90 [.int .i64 p0,.int .i64 f,.int .i64 k]:=⟨_,rfl⟩
  have y7:∀ p:Held Sx,p.w.cell? ⟨y,7,none⟩=some (.slice (some ⟨go,0,none⟩) s.L.length a.oc):=fun p=>by have h:=Held.get hSx p;exact (by have e:=h.1.rc.cell (j:=7) rfl;rw [<-HOA.out];exact e)
  have yb0:∀ p:Held Sx,p.w.cell? ⟨HB,0,none⟩=some (.int .i64 p0):=fun p=>by have h:=Held.get hSx p;exact h.2.cell (j:=0) rfl
  have yb1:∀ p:Held Sx,p.w.cell? ⟨HB,1,none⟩=some (.int .i64 f):=fun p=>by have h:=Held.get hSx p;exact h.2.cell (j:=1) rfl
  have yb2:∀ p:Held Sx,p.w.cell? ⟨HB,2,none⟩=some (.int .i64 k):=fun p=>by have h:=Held.get hSx p;exact h.2.cell (j:=2) rfl
  have yo:∀ p:Held Sx,p.w.cell? ⟨go,j*2,none⟩=some (.int .i64 st):=fun p=>by have h:=Held.get hSx p;exact (HOB.out _ h.1)
  have HS:Hid (∀ W',RCy W' y a s u/\Rec W' HB 90 [.int .i64 p0,.int .i64 f,.int .i64 k]->Sx W'):=⟨fun W' h=>by rw [hSx];exact h⟩
  have hS0:=HS.out _ (⟨HR.out.gr (HGX.out.trans (Gr.refl WX).drew),HBX.out.gr (Gr.refl WX).drew⟩)
  have inst:Inhabited (Held Sx):=⟨⟨_,hS0⟩⟩
  clear hSx
  refine wp_region_mixS Sx 14 [([0,1,2,3,4,5,6,7,8,9,10,11],12)] [13] (by kernel_rfl) (by kernel_rfl) hS0 ?_
  refine segs_step ?_
  try simp only [opsAt,List.getElem?_cons_zero,List.getElem?_cons_succ]
  repeat (go_big_quiet_step (fail))
  refine wpQuiet_nil ?_
  go_wp2_with ((go_at_call 117;refine (HKD.out _).mono ?_;rintro e w6 ⟨rfl,hg6⟩;have HG6:=hid ((Gr.refl WX).drew.trans hg6);clear hg6))
  refine ⟨.inr (Held.of (HS.out _ (⟨HR.out.gr (HGX.out.trans HG6.out),HBX.out.gr HG6.out⟩))),?_⟩
  refine segs_end ?_
  try simp only [opsAt,List.getElem?_cons_zero,List.getElem?_cons_succ]
  repeat (go_big_quiet_step (fail))
  refine wpQuiet_nil ?_
  refine NoPanic.normal ?_
  clear y7 yb0 yb1 yb2 yo hS0 inst
  clear HS Sx
  by_cases hpt:1<=m/\m<=p0
  ·have dk:(kd==1)=true:=by rw [HKE.out,HKI.out];exact decide_eq_true hpt
   have hxb:=HPT.out hpt
   have HCV:=hid (HCT.out hpt)
   have HTO2:=hid (rc_to (HR.out.gr (HGX.out.trans HG6.out)) HST.out (x:Nat))
   obtain ⟨t,ht⟩:∃ t,t=toV s.L s.cf.to (x:Nat):=⟨_,rfl⟩
   have htb:0<=t/\t<=4294967295:=by rw [ht];have h1:=to_nonneg s.L s.cf.to (x:Nat);have h2:=HST.out.to_lt (x:Nat);omega
   rw [<-ht] at HTO2 HCV
   have hwx:IntKind.i64.wrap (x:Int)=(x:Int):=IntWalk.i64_in _ (by omega)
   have hwt:IntKind.u64.wrap t=t:=IntWalk.u64_in _ (by omega)
   clear hpt ht
   go_wp2_with (go_at_call 93;refine (HTO2.out).mono ?_;rintro e w7 ⟨rfl,hg7⟩;have HG7:=hid hg7;clear hg7)
   go_ret2
   exact ⟨by rw [HCV.out];rfl,(HGX.out.trans HG6.out).trans HG7.out⟩
  ·have dk:(kd==1)=false:=by rw [HKE.out,HKI.out];exact decide_eq_false hpt
   have HCV:=hid (HCF.out hpt)
   clear hpt
   go_wp2
   go_ret2
   exact ⟨by rw [HCV.out];rfl,HGX.out.trans HG6.out⟩
 ·have x3:=HR.out.gr (Gr.refl w).drew.drew
  obtain ⟨HB,hHB⟩:∃ HB,HB=w.heap.size:=⟨_,rfl⟩
  have HRA:Hid (Rec (w.alloc (.cells #[.int .i64 0,.int .i64 0,.int .i64 0] 90)).drew.drew HB 90 [.int .i64 0,.int .i64 0,.int .i64 0]):=⟨by rw [hHB];exact (Rec.new w 90 [.int .i64 0,.int .i64 0,.int .i64 0]).gr (Gr.refl _).drew.drew⟩
  have HGW:Hid (Gr w (w.alloc (.cells #[.int .i64 0,.int .i64 0,.int .i64 0] 90)).drew.drew):=⟨((Gr.refl w).alloc _).drew.drew⟩
  go_wp2
  obtain ⟨WA,hWA⟩:∃ WA,WA=(w.alloc (.cells #[.int .i64 0,.int .i64 0,.int .i64 0] 90)).drew.drew:=⟨_,rfl⟩
  have HHB:Hid (w.heap.size<=HB):=⟨by omega⟩
  rw [<-hWA] at HGW HRA ⊢
  rw [<-hHB]
  clear hHB hWA x3
  refine ⟨Held.of (HSX.out _ (HR.out.gr HGW.out)),?_⟩
  refine mixT_one ?_
  simp only [opsAt,List.getElem?_cons_zero,List.getElem?_cons_succ]
  refine wpQuiet_nil ?_
  go_wp2_with (go_at_call 74;refine (HRD.out _ HGW.out).mono ?_;rintro e w4 ⟨rfl,hg4⟩;have HGC:=hid (HGW.out.trans hg4);have HRC:=hid (HRA.out.gr hg4);clear hg4)
  refine ⟨Held.of (HSX.out _ (HR.out.gr HGC.out)),?_⟩
  refine mixT_one ?_
  simp only [opsAt,List.getElem?_cons_zero,List.getElem?_cons_succ]
  repeat (go_big_quiet_step (fail))
  refine wpQuiet_nil ?_
  obtain ⟨WC,rfl⟩:∃ WC,WC=w4:=⟨_,rfl⟩
  have q0:=HRC.out.cell (j:=0) rfl
  have q1:=HRC.out.cell (j:=1) rfl
  have q2:=HRC.out.cell (j:=2) rfl
  have q3:=HRC.out.lt
  have q4:=HRC.out.free
  have hr3:=rec3 HRC.out (.int .i64 p0) (.int .i64 f) (.int .i64 k)
  have ht3:=st3_self WC HB (.int .i64 p0) (.int .i64 f) (.int .i64 k)
  go_wp2
  obtain ⟨WX,hWX⟩:∃ WX,WX=((WC.setCell ⟨HB,0,none⟩ (.int .i64 p0)).setCell ⟨HB,1,none⟩ (.int .i64 f)).setCell ⟨HB,2,none⟩ (.int .i64 k):=⟨_,rfl⟩
  rw [<-hWX] at hr3 ht3 ⊢
  have HBX:=hid hr3
  have HGX:Hid (Gr w WX):=⟨((HGC.out.touch (fun _=>False)).trans' ht3 (fun b hb h=>by have:=HHB.out;omega)).gr⟩
  clear hWX hr3 ht3 q0 q1 q2 q3 q4
  refine ⟨Held.of (HSX.out _ (HR.out.gr HGX.out)),?_⟩
  refine mixT_fin ?_
  simp only [opsAt,List.getElem?_cons_zero,List.getElem?_cons_succ]
  repeat (go_big_quiet_step (fail))
  refine wpQuiet_nil ?_
  refine NoPanic.normal ?_
  clear y7 y8 yo hS0 inst HSX
  have hx:=HR.out.gr HGX.out
  have q1:=own_cell (HWD.out _ hx) (wrds_at u HSL.out)
  have q2:=(own_lt (HWD.out _ hx) rfl).2
  have q3:=hx.rc.cell (j:=8) rfl
  rw [HGA.out] at q3
  have ql:=hx.rc.lt
  rw [<-HXE.out] at q1
  clear hx
  go_upto_region 6 with (fail)
  clear q1 q2 q3 ql
  obtain ⟨Sx,hSx⟩:∃ Sx:World->Prop,Sx=fun W'=>RCy W' y a s u/\Rec W' HB 90 [.int .i64 p0,.int .i64 f,.int .i64 k]:=⟨_,rfl⟩
  have y7:∀ p:Held Sx,p.w.cell? ⟨y,7,none⟩=some (.slice (some ⟨go,0,none⟩) s.L.length a.oc):=fun p=>by have h:=Held.get hSx p;exact (by have e:=h.1.rc.cell (j:=7) rfl;rw [<-HOA.out];exact e)
  have yb0:∀ p:Held Sx,p.w.cell? ⟨HB,0,none⟩=some (.int .i64 p0):=fun p=>by have h:=Held.get hSx p;exact h.2.cell (j:=0) rfl
  have yb1:∀ p:Held Sx,p.w.cell? ⟨HB,1,none⟩=some (.int .i64 f):=fun p=>by have h:=Held.get hSx p;exact h.2.cell (j:=1) rfl
  have yb2:∀ p:Held Sx,p.w.cell? ⟨HB,2,none⟩=some (.int .i64 k):=fun p=>by have h:=Held.get hSx p;exact h.2.cell (j:=2) rfl
  have yo:∀ p:Held Sx,p.w.cell? ⟨go,j*2,none⟩=some (.int .i64 st):=fun p=>by have h:=Held.get hSx p;exact (HOB.out _ h.1)
  have HS:Hid (∀ W',RCy W' y a s u/\Rec W' HB 90 [.int .i64 p0,.int .i64 f,.int .i64 k]->Sx W'):=⟨fun W' h=>by rw [hSx];exact h⟩
  have hS0:=HS.out _ (⟨HR.out.gr (HGX.out.trans (Gr.refl WX).drew),HBX.out.gr (Gr.refl WX).drew⟩)
  have inst:Inhabited (Held Sx):=⟨⟨_,hS0⟩⟩
  clear hSx
  refine wp_region_mixS Sx 14 [([0,1,2,3,4,5,6,7,8,9,10,11],12)] [13] (by kernel_rfl) (by kernel_rfl) hS0 ?_
  refine segs_step ?_
  try simp only [opsAt,List.getElem?_cons_zero,List.getElem?_cons_succ]
  repeat (go_big_quiet_step (fail))
  refine wpQuiet_nil ?_
  go_wp2_with ((go_at_call 117;refine (HKD.out _).mono ?_;rintro e w6 ⟨rfl,hg6⟩;have HG6:=hid ((Gr.refl WX).drew.trans hg6);clear hg6))
  refine ⟨.inr (Held.of (HS.out _ (⟨HR.out.gr (HGX.out.trans HG6.out),HBX.out.gr HG6.out⟩))),?_⟩
  refine segs_end ?_
  try simp only [opsAt,List.getElem?_cons_zero,List.getElem?_cons_succ]
  repeat (go_big_quiet_step (fail))
  refine wpQuiet_nil ?_
  refine NoPanic.normal ?_
  clear y7 yb0 yb1 yb2 yo hS0 inst
  clear HS Sx
  by_cases hpt:1<=m/\m<=p0
  ·have dk:(kd==1)=true:=by rw [HKE.out,HKI.out];exact decide_eq_true hpt
   have hxb:=HPT.out hpt
   have HCV:=hid (HCT.out hpt)
   have HTO2:=hid (rc_to (HR.out.gr (HGX.out.trans HG6.out)) HST.out (x:Nat))
   obtain ⟨t,ht⟩:∃ t,t=toV s.L s.cf.to (x:Nat):=⟨_,rfl⟩
   have htb:0<=t/\t<=4294967295:=by rw [ht];have h1:=to_nonneg s.L s.cf.to (x:Nat);have h2:=HST.out.to_lt (x:Nat);omega
   rw [<-ht] at HTO2 HCV
   have hwx:IntKind.i64.wrap (x:Int)=(x:Int):=IntWalk.i64_in _ (by omega)
   have hwt:IntKind.u64.wrap t=t:=IntWalk.u64_in _ (by omega)
   clear hpt ht
   go_wp2_with (go_at_call 93;refine (HTO2.out).mono ?_;rintro e w7 ⟨rfl,hg7⟩;have HG7:=hid hg7;clear hg7)
   go_ret2
   exact ⟨by rw [HCV.out];rfl,(HGX.out.trans HG6.out).trans HG7.out⟩
  ·have dk:(kd==1)=false:=by rw [HKE.out,HKI.out];exact decide_eq_false hpt
   have HCV:=hid (HCF.out hpt)
   clear hpt
   go_wp2
   go_ret2
   exact ⟨by rw [HCV.out];rfl,HGX.out.trans HG6.out⟩
end
end Go.Proofs.YtbmidhlilafgeaaGreatDoor
end
section
namespace Go.Proofs.YtbmidhlilafgeaaGreatDoor
open Go.RowKit Go.Shelf Word
attribute [local go_sem] Oper.semAt_some
structure SlrI (w wx:World) (S:Nat->Prop) (q m p1 b1 p2 b2:Nat) (v:Vm) (rs:List Int) (c:Cf) (why:Int):Prop where
 t:Touch S w wx
 vm:VmAt wx (cutS S w) q v
 rs:(why=0/\∃ L,Ext wx m p1 b1 p2 b2 v.n L/\Marks v rs v.n L)\/(why=25/\¬ Sound v rs v.n)
 bx:Rec wx w.heap.size 34 [.int .i64 c.fr,.int .i64 c.tp,.int .i64 c.to,.int .i64 c.lm,.int .i64 c.bk,.int .i64 c.st,.int .i64 c.ah]
 r6:Rec wx (w.heap.size+1) 124 [.pointer none]
 r7:Rec wx (w.heap.size+2) 39 [.int .i64 0]
 lm:w.heap.size+3<=m
 l1:w.heap.size+3<=p1
 l2:w.heap.size+3<=b1
 l3:w.heap.size+3<=p2
 l4:w.heap.size+3<=b2
section
variable {w:World} {S:Nat->Prop} {q r g:Nat} {v:Vm} {rs:List Int} {c:Cf}
set_option maxRecDepth 100000 in
set_option maxHeartbeats 3200000 in
theorem sl_reached (hV:VmAt w S q v) (hn1:1<=v.n) (hR:RtAt w r g rs) (hT:TabAt w) (htS:¬ S 0) (hst:1<=c.st/\c.st<=4096):
  Calls Tryz.prog 104 #[.pointer (some ⟨q,0,none⟩),.pointer (some ⟨r,0,none⟩),cfV c] w (PkReach w S q v rs c.fr c.tp):=by
 have HV:=hid hV.cut
 have HR:=hid hR
 have HT:=hid hT
 have HTS:=hid htS
 have htl:=hT.lt
 have hn2:=hV.ok.n2
 have hne:rs.length≠0:=fun e=>hR.ne (List.eq_nil_of_length_eq_zero e)
 have hle:=hR.le
 have HX:=hid (fun W=>ext_new v.n hn1 (by omega) W)
 have HST:=hid hst
 obtain ⟨n,hne0⟩:∃ n,n=rs.length:=⟨_,rfl⟩
 have HN:=hid hne0
 rw [<-hne0] at hne hle
 have g1:Gr w (((w.alloc (.cells #[.int .i64 c.fr,.int .i64 c.tp,.int .i64 c.to,.int .i64 c.lm,.int .i64 c.bk,.int .i64 c.st,.int .i64 c.ah] 34)).alloc (.cells #[.pointer none] 124)).alloc (.cells #[.int .i64 0] 39)):=(((Gr.refl w).alloc _).alloc _).alloc _
 have HG1:=hid g1
 clear hV hR hT htS hst hne0 g1
 refine (callsIn_wide (n:=5)).1 ?_
 refine callsIn_of_wp_marks Tryz.func104 rfl trivial ?_ rfl
 simp only [Tryz.ntmps104,List.size_toArray,List.length_cons,List.length_nil,Nat.reduceAdd,Nat.reduceSub,Array.replicate_succ,Array.replicate_zero,List.push_toArray,List.append_toArray,List.nil_append,List.cons_append]
 unfold cfV
 gi_upto_region 1 with (fail)
 obtain ⟨W0,hW0⟩:∃ W0,W0=(((w.alloc (.cells #[.int .i64 c.fr,.int .i64 c.tp,.int .i64 c.to,.int .i64 c.lm,.int .i64 c.bk,.int .i64 c.st,.int .i64 c.ah] 34)).alloc (.cells #[.pointer none] 124)).alloc (.cells #[.int .i64 0] 39)):=⟨_,rfl⟩
 have hsz0:W0.heap.size=w.heap.size+3:=by rw [hW0];simp only [World.size_alloc]
 have hg0:Gr w W0:=by rw [hW0];exact HG1.out
 have rb:Rec W0 w.heap.size 34 [.int .i64 c.fr,.int .i64 c.tp,.int .i64 c.to,.int .i64 c.lm,.int .i64 c.bk,.int .i64 c.st,.int .i64 c.ah]:=by rw [hW0];exact (Rec.new w _ [.int .i64 c.fr,.int .i64 c.tp,.int .i64 c.to,.int .i64 c.lm,.int .i64 c.bk,.int .i64 c.st,.int .i64 c.ah]).gr (((Gr.refl _).alloc _).alloc _)
 have r6:Rec W0 (w.heap.size+1) 124 [.pointer none]:=by rw [hW0];exact (new2 w _ 124 [.pointer none]).gr ((Gr.refl _).alloc _)
 have r7:Rec W0 (w.heap.size+2) 39 [.int .i64 0]:=by
  rw [hW0]
  have:=new2 (w.alloc (.cells #[.int .i64 c.fr,.int .i64 c.tp,.int .i64 c.to,.int .i64 c.lm,.int .i64 c.bk,.int .i64 c.st,.int .i64 c.ah] 34)) (.cells #[.pointer none] 124) 39 [.int .i64 0]
  rw [World.size_alloc] at this
  exact this
 rw [<-hW0]
 clear hW0 HG1
 have HG0:=hid hg0
 have HRB:=hid rb
 have HR6:=hid r6
 have HR7:=hid r7
 have HWD:=hid (fun (W:World) (g:Gr w W)=>vm_words (HV.out.gr g))
 clear rb r6 r7 hg0
 gi_upto_region 2 with (first
  | (refine ⟨trivial,?_⟩;gi_at_call 33;refine (callsIn_wide.2 (HWD.out _ HG0.out)).mono ?_;rintro e w2 ⟨rfl,rfl⟩)
  | (refine ⟨trivial,?_⟩;gi_at_call 131;refine (callsIn_wide.2 (HX.out _)).mono ?_;rintro e w3 ⟨m,p1,b1,p2,b2,rfl,hg3,he3,hb0,hb1,hb2,hb3,hb4⟩;have HG3:=hid hg3;have HG03:=hid (HG0.out.trans hg3);have HE3:=hid he3;have HB:=hid (And.intro hb0 (And.intro hb1 (And.intro hb2 (And.intro hb3 hb4))));clear hg3 he3 hb0 hb1 hb2 hb3 hb4))
 gi_cut [10,11] from 14 (fun s10 s11 wx=>∃ (b11:Nat) (why:Int),s10=.pointer (some ⟨b11,0,none⟩)/\s11=.int .i64 why/\Hid (SlrI w wx S q m p1 b1 p2 b2 v rs c why))
 case first=>
  have hBB:=HB.out
  obtain ⟨hb0,hb1,hb2,hb3,hb4⟩:=hBB
  rw [hsz0] at hb0 hb1 hb2 hb3 hb4
  have hml:=HE3.out.hm
  have hp1l:=HE3.out.v1.hp
  have hb1l:=HE3.out.v1.hb
  have hp2l:=HE3.out.v2.hp
  have hb2l:=HE3.out.v2.hb
  have hmi:∀ i,mine m b1 b2 i->w.heap.size+3<=i/\i<w3.heap.size:=fun i hi=>by
   rcases hi with rfl | rfl | rfl
   ·exact ⟨hb0,hml⟩
   ·exact ⟨hb2,hb1l⟩
   ·exact ⟨hb4,hb2l⟩
  have HMI:=hid hmi
  have HALL:=hid (fun (W:World) (g:Gr w3 W)=>rt_all (HR.out.gr ((HG03.out).trans g)))
  rw [<-HN.out] at HALL
  have HRUN:Hid (∀ (W:World) (g1 cp:Nat),Gr w3 W->w3.heap.size<=g1->W.ownsRow 0 3 1 (.slice (some ⟨g1,0,none⟩) n cp) n (zs rs)->Calls Tryz.prog 132 #[.iface 31 (.pointer (some ⟨q,0,none⟩)),.slice (some ⟨g1,0,none⟩) n cp,.pointer (some ⟨m,0,none⟩),.int .i64 c.st] W fun e w'=>
    ∃ (a1 a2 a3 a4 why:Int),e=.returned (.tuple #[.agg #[.int .i64 a1,.int .i64 a2,.int .i64 a3,.int .i64 a4],.int .i64 why])/\Touch (fun i=>mine m b1 b2 i\/cutS S w i) W w'/\VmAt w' (cutS S w) q v/\((why=0/\∃ L,Ext w' m p1 b1 p2 b2 v.n L/\Marks v rs v.n L)\/(why=25/\¬ Sound v rs v.n))):=⟨fun W g1 cp hg hg1 ho=>by
   rw [HN.out] at ho ⊢
   have hgw:=HG03.out.trans hg
   refine (mark_run (HV.out.gr hgw) (HE3.out.gr hg) (hgw.tab HT.out.lt HT.out) (fun i hi=>?_) (by unfold maxLen;have:=HN.out;omega) (fun i hi h=>by have:=(hmi i h).1;have:=hi.2;omega) (fun h=>by have:=h.2;omega) (fun h=>by have:=h.2;omega) (fun h=>HTS.out h.1) (fun h=>by have:=(hmi _ h).1;omega) (c.st:Int)).mono ?_
   ·exact ⟨g1,0,rfl,(own_lt ho rfl).2,fun h=>by have:=(hmi _ h).2;omega,by rw [Nat.zero_add];exact own_cell ho (zs_at hi)⟩
   ·rintro e w' (⟨h,-⟩ | ⟨-,-,ht,hv,(⟨L,r',vi,rfl,he,hm,-⟩ | ⟨rfl,-,hs⟩)⟩)
    ·have:=HST.out;omega
    ·exact ⟨_,_,r',vi,0,rfl,ht,hv,.inl ⟨rfl,L,he,hm⟩⟩
    ·exact ⟨0,0,0,0,25,rfl,ht,hv,.inr ⟨rfl,hs⟩⟩⟩
  have FIN:Hid (∀ (W1 W2 W3:World) (b11:Nat) (why:Int),Gr w3 W1->Touch (fun i=>mine m b1 b2 i\/cutS S w i) W1 W2->VmAt W2 (cutS S w) q v->((why=0/\∃ L,Ext W2 m p1 b1 p2 b2 v.n L/\Marks v rs v.n L)\/(why=25/\¬ Sound v rs v.n))->Touch (fun i=>i=b11) W2 W3->w3.heap.size<=b11 →
    SlrI w W3 S q m p1 b1 p2 b2 v rs c why):=⟨fun W1 W2 W3 b11 why hg ht hv hres ht3 hb=>by
   have hz3:=HG03.out.size
   have hz13:=HG3.out.size
   have hgw:=HG03.out.trans hg
   have hno:∀ i,i<w.heap.size+3->w.heap.size<=i->¬ (mine m b1 b2 i\/cutS S w i):=fun i h1 h2 h=>by
    rcases h with h | h
    ·have:=(hmi i h).1;omega
    ·have:=h.2;omega
   refine ⟨((hgw.touch _).trans (ht.mono (T:=fun i=>mine m b1 b2 i\/S i) (fun i _ h=>h.imp id (fun h=>h.1)))).trans' (T:=fun i=>i=b11) ht3 (fun i hi h=>by omega) |>.mono (fun i hi h=>h.elim (fun h=>by have:=(hmi i h).1;omega) id),hv.touch ht3 (fun i hi _ h=>by have:=hi.2;omega),?_,?_,?_,?_,hb0,hb1,hb2,hb3,hb4⟩
   ·rcases hres with ⟨h,L,he,hm⟩ | h
    ·exact .inl ⟨h,L,he.touch ht3 (by omega) (by omega) (by omega) (by omega) (by omega),hm⟩
    ·exact .inr h
   ·exact ((HRB.out.gr (HG3.out.trans hg)).touch ht (hno _ (by omega) (by omega))).touch ht3 (by omega)
   ·exact ((HR6.out.gr (HG3.out.trans hg)).touch ht (hno _ (by omega) (by omega))).touch ht3 (by omega)
   ·exact ((HR7.out.gr (HG3.out.trans hg)).touch ht (hno _ (by omega) (by omega))).touch ht3 (by omega)⟩
  have rb3:=HRB.out.gr HG3.out
  have x5:=rb3.cell (j:=5) rfl
  have x5l:=rb3.lt
  have KS:Hid (∀ W',Gr w3 W'->W'.cell? ⟨w.heap.size,5,none⟩=some (.int .i64 c.st)):=⟨fun W' h=>(h.cell x5l 5).trans x5⟩
  have KT:Hid (∀ W1 W',Gr w3 W1->Touch (fun i=>mine m b1 b2 i\/cutS S w i) W1 W'->W'.cell? ⟨w.heap.size,5,none⟩=some (.int .i64 c.st)):=⟨fun W1 W' h t=>(t.cell (Nat.lt_of_lt_of_le x5l h.size) (fun h=>by
   rcases h with h | h
   ·have:=(HMI.out _ h).1;omega
   ·have:=h.2;omega) 5).trans ((h.cell x5l 5).trans x5)⟩
  obtain ⟨Sx,hSx⟩:∃ Sx:World->Prop,Sx=fun W'=>W'.cell? ⟨w.heap.size,5,none⟩=some (.int .i64 c.st):=⟨_,rfl⟩
  have y1:∀ p':Held Sx,p'.w.cell? ⟨w.heap.size,5,none⟩=some (.int .i64 c.st):=fun p=>Held.get hSx p
  have hS0:Sx w3.drew:=by rw [hSx];exact x5
  have HSX:=hid hSx
  have inst:Inhabited (Held Sx):=⟨⟨_,hS0⟩⟩
  clear hSx x5 rb3 hmi hb0 hb1 hb2 hb3 hb4 hml hp1l hb1l hp2l hb2l
  refine wpIn_region_mixT Sx (.two [0,1,2,4,5,6] 3 (.two [] 7 (.one [8,9,10] 11 (.one [] 12 (.fin [13]))) 11 (.one [] 7 (.one [8,9,10] 12 (.fin [13])))) 11 (.one [] 3 (.one [] 7 (.one [8,9,10] 12 (.fin [13]))))) wide_fn (by kernel_rfl) (by kernel_rfl) hS0 ?_
  refine mixTIn_two ?_
  simp only [opsAt,List.getElem?_cons_zero,List.getElem?_cons_succ]
  repeat (go_big_quiet_step (fail))
  refine wpQuiet_nil ⟨?_,?_⟩
  ·gi_wp2_with (refine ⟨trivial,?_⟩;gi_at_call 16;refine (callsIn_wide.2 (HALL.out _ (Gr.refl w3).drew)).mono ?_;rintro e w4 ⟨g1,c1,rfl,hg4,hgl,ho4⟩;have HG4:=hid ((Gr.refl w3).drew.trans hg4);have HO4:=hid ho4;have HL4:=hid hgl;clear hg4 ho4 hgl)
   refine ⟨Held.of (by rw [HSX.out];exact KS.out _ HG4.out),?_⟩
   refine mixTIn_two ?_
   simp only [opsAt,List.getElem?_cons_zero,List.getElem?_cons_succ]
   refine wpQuiet_nil ⟨?_,?_⟩
   ·gi_wp2_with (refine ⟨trivial,?_⟩;gi_at_call 132;refine (callsIn_wide.2 (HRUN.out _ g1 c1 HG4.out HL4.out HO4.out)).mono ?_;rintro e w5 ⟨a1,a2,a3,a4,why,rfl,ht5,hv5,hs5⟩;have HT5:=hid ht5;have HV5:=hid hv5;have HS5:=hid hs5;clear ht5 hv5 hs5)
    refine ⟨Held.of (by rw [HSX.out];exact KT.out _ _ HG4.out HT5.out),?_⟩
    refine mixTIn_one ?_
    simp only [opsAt,List.getElem?_cons_zero,List.getElem?_cons_succ]
    repeat (go_big_quiet_step (fail))
    refine wpQuiet_nil ?_
    have u5:=KT.out _ _ HG4.out HT5.out
    have u5l:=lt_cell u5
    gi_wp2
    refine ⟨Held.of (by rw [HSX.out];exact (((Gr.refl w5).alloc _).cell u5l 5).trans u5),?_⟩
    refine mixTIn_one ?_
    simp only [opsAt,List.getElem?_cons_zero,List.getElem?_cons_succ]
    refine wpQuiet_nil ?_
    gi_wp2
    refine ⟨Held.of (by rw [HSX.out];exact (((Gr.refl w5).alloc _).cell u5l 5).trans u5),?_⟩
    refine mixTIn_fin ?_
    simp only [opsAt,List.getElem?_cons_zero,List.getElem?_cons_succ]
    repeat (go_big_quiet_step (fail))
    refine wpQuiet_nil ?_
    refine NoPanic.normal ?_
    gi_wp2
    gi_meet
    exact ⟨_,why,rfl,rfl,⟨FIN.out _ _ _ _ why HG4.out HT5.out HV5.out HS5.out (((Gr.refl w5).alloc _).touch _) (Nat.le_trans HG4.out.size HT5.out.size)⟩⟩
   ·have x4:=KS.out _ HG4.out
    have x4l:=lt_cell x4
    gi_wp2
    refine ⟨Held.of (by rw [HSX.out];exact (((Gr.refl w4).alloc _).cell x4l 5).trans x4),?_⟩
    refine mixTIn_one ?_
    simp only [opsAt,List.getElem?_cons_zero,List.getElem?_cons_succ]
    refine wpQuiet_nil ?_
    have HRA:=hid (Rec.new w4 179 [.int .i64 0,.int .i64 0,.int .i64 0,.int .i64 0])
    have HGA:=hid (HG4.out.alloc (.cells #[.int .i64 0,.int .i64 0,.int .i64 0,.int .i64 0] 179))
    have HNB:Hid (¬ (mine m b1 b2 w4.heap.size\/cutS S w w4.heap.size)):=⟨fun h=>by
     have:=HG4.out.size
     rcases h with h | h
     ·have:=(HMI.out _ h).2;omega
     ·have:=h.2;have:=(HG03.out).size;omega⟩
    have HNW:Hid (¬ w.heap.size=w4.heap.size):=⟨by have:=HG4.out.size;omega⟩
    have HOA:=hid (own_gr HO4.out ((Gr.refl w4).alloc (.cells #[.int .i64 0,.int .i64 0,.int .i64 0,.int .i64 0] 179)))
    have HBA:Hid (w3.heap.size<=w4.heap.size):=⟨HG4.out.size⟩
    obtain ⟨bA,hbA⟩:∃ bA,bA=w4.heap.size:=⟨_,rfl⟩
    obtain ⟨WA,hWA⟩:∃ WA,WA=w4.alloc (.cells #[.int .i64 0,.int .i64 0,.int .i64 0,.int .i64 0] 179):=⟨_,rfl⟩
    rw [show w4.alloc (.cells ([.int .i64 0,.int .i64 0,.int .i64 0,.int .i64 0]:List Value).toArray 179)=WA from hWA.symm] at HRA
    rw [<-hWA] at HGA HOA ⊢
    rw [<-hbA] at HRA HNB HNW HBA ⊢
    clear hbA hWA x4 x4l
    gi_wp2_with (refine ⟨trivial,?_⟩;gi_at_call 132;refine (callsIn_wide.2 (HRUN.out _ g1 c1 HGA.out HL4.out HOA.out)).mono ?_;rintro e w5 ⟨a1,a2,a3,a4,why,rfl,ht5,hv5,hs5⟩;have HT5:=hid ht5;have HV5:=hid hv5;have HS5:=hid hs5;have HR5:=hid (HRA.out.touch ht5 (HNB.out));have q0:=HR5.out.cell (j:=0) rfl;have q1:=HR5.out.cell (j:=1) rfl;have q2:=HR5.out.cell (j:=2) rfl;have q3:=HR5.out.cell (j:=3) rfl;have qf:=HR5.out.free;have ql:=HR5.out.lt;clear ht5 hv5 hs5)
    refine ⟨Held.of (by rw [HSX.out];exact KT.out _ _ HGA.out HT5.out),?_⟩
    refine mixTIn_one ?_
    simp only [opsAt,List.getElem?_cons_zero,List.getElem?_cons_succ]
    repeat (go_big_quiet_step (fail))
    refine wpQuiet_nil ?_
    gi_wp2
    have t5:=st4_self w5 bA (.int .i64 a1) (.int .i64 a2) (.int .i64 a3) (.int .i64 a4)
    have KF:=(t5.cell (lt_cell (KT.out _ _ HGA.out HT5.out)) HNW.out 5).trans (KT.out _ _ HGA.out HT5.out)
    refine ⟨Held.of (by rw [HSX.out];exact KF),?_⟩
    refine mixTIn_fin ?_
    simp only [opsAt,List.getElem?_cons_zero,List.getElem?_cons_succ]
    repeat (go_big_quiet_step (fail))
    refine wpQuiet_nil ?_
    refine NoPanic.normal ?_
    gi_wp2
    gi_meet
    exact ⟨_,why,rfl,rfl,⟨FIN.out _ _ _ _ why HGA.out HT5.out HV5.out HS5.out t5 HBA.out⟩⟩
  ·gi_wp2
   have x3:=KS.out _ (Gr.refl w3)
   have x3l:=lt_cell x3
   refine ⟨Held.of (by rw [HSX.out];exact KS.out _ ((Gr.refl w3).alloc _).drew),?_⟩
   refine mixTIn_one ?_
   simp only [opsAt,List.getElem?_cons_zero,List.getElem?_cons_succ]
   refine wpQuiet_nil ?_
   have HRA:=hid ((Rec.new w3 179 [.int .i64 0,.int .i64 0,.int .i64 0,.int .i64 0]).gr (Gr.refl _).drew)
   have HGA:=hid ((Gr.refl w3).alloc (.cells #[.int .i64 0,.int .i64 0,.int .i64 0,.int .i64 0] 179)).drew
   have HNB:Hid (¬ (mine m b1 b2 w3.heap.size\/cutS S w w3.heap.size)):=⟨fun h=>by
    rcases h with h | h
    ·have:=(HMI.out _ h).2;omega
    ·have:=h.2;have:=(HG03.out).size;omega⟩
   have HNW:Hid (¬ w.heap.size=w3.heap.size):=⟨by omega⟩
   have HBA:Hid (w3.heap.size<=w3.heap.size):=⟨Nat.le_refl _⟩
   obtain ⟨WA,hWA⟩:∃ WA,WA=(w3.alloc (.cells #[.int .i64 0,.int .i64 0,.int .i64 0,.int .i64 0] 179)).drew:=⟨_,rfl⟩
   rw [show (w3.alloc (.cells ([.int .i64 0,.int .i64 0,.int .i64 0,.int .i64 0]:List Value).toArray 179)).drew=WA from hWA.symm] at HRA
   rw [<-hWA] at HGA ⊢
   clear hWA
   obtain ⟨bA,hbA⟩:∃ bA,bA=w3.heap.size:=⟨_,rfl⟩
   rw [<-hbA] at HRA HNB HNW
   rw [show w3.heap.size<=w3.heap.size↔w3.heap.size<=bA by rw [hbA]] at HBA
   rw [show w3.heap.size=bA from hbA.symm]
   clear hbA x3 x3l
   gi_wp2_with (refine ⟨trivial,?_⟩;gi_at_call 16;refine (callsIn_wide.2 (HALL.out _ HGA.out)).mono ?_;rintro e w4 ⟨g1,c1,rfl,hg4,hgl,ho4⟩;have HG4:=hid (HGA.out.trans hg4);have HRA4:=hid (HRA.out.gr hg4);have HO4:=hid ho4;have HL4:=hid (Nat.le_trans HGA.out.size hgl);clear hg4 ho4 hgl)
   refine ⟨Held.of (by rw [HSX.out];exact KS.out _ HG4.out),?_⟩
   refine mixTIn_one ?_
   simp only [opsAt,List.getElem?_cons_zero,List.getElem?_cons_succ]
   refine wpQuiet_nil ?_
   gi_wp2_with (refine ⟨trivial,?_⟩;gi_at_call 132;refine (callsIn_wide.2 (HRUN.out _ g1 c1 HG4.out HL4.out HO4.out)).mono ?_;rintro e w5 ⟨a1,a2,a3,a4,why,rfl,ht5,hv5,hs5⟩;have HT5:=hid ht5;have HV5:=hid hv5;have HS5:=hid hs5;have HR5:=hid (HRA4.out.touch ht5 (HNB.out));have q0:=HR5.out.cell (j:=0) rfl;have q1:=HR5.out.cell (j:=1) rfl;have q2:=HR5.out.cell (j:=2) rfl;have q3:=HR5.out.cell (j:=3) rfl;have qf:=HR5.out.free;have ql:=HR5.out.lt;clear ht5 hv5 hs5)
   refine ⟨Held.of (by rw [HSX.out];exact KT.out _ _ HG4.out HT5.out),?_⟩
   refine mixTIn_one ?_
   simp only [opsAt,List.getElem?_cons_zero,List.getElem?_cons_succ]
   repeat (go_big_quiet_step (fail))
   refine wpQuiet_nil ?_
   gi_wp2
   have t5:=st4_self w5 bA (.int .i64 a1) (.int .i64 a2) (.int .i64 a3) (.int .i64 a4)
   have KF:=(t5.cell (lt_cell (KT.out _ _ HG4.out HT5.out)) HNW.out 5).trans (KT.out _ _ HG4.out HT5.out)
   refine ⟨Held.of (by rw [HSX.out];exact KF),?_⟩
   refine mixTIn_fin ?_
   simp only [opsAt,List.getElem?_cons_zero,List.getElem?_cons_succ]
   repeat (go_big_quiet_step (fail))
   refine wpQuiet_nil ?_
   refine NoPanic.normal ?_
   gi_wp2
   gi_meet
   exact ⟨_,why,rfl,rfl,⟨FIN.out _ _ _ _ why HG4.out HT5.out HV5.out HS5.out t5 HBA.out⟩⟩
 case rest=>
  obtain ⟨b11,why,rfl,rfl,HI⟩:=hcut
  have hr6:=HI.out.r6
  have hr7:=HI.out.r7
  have hbx:=HI.out.bx
  have hwz:=HI.out.t.size
  have hr7l:=hr7.lt
  rcases HI.out.rs with ⟨rfl,L,hex,hmk⟩ | ⟨rfl,hns⟩
  ·have HEX:=hid hex
   have HMK:=hid hmk
   clear hr6 hr7 hex hmk
   gi_wp2_with (refine ⟨trivial,?_⟩;gi_at_call 86;refine (callsIn_wide.2 (all_call (some ⟨m,0,none⟩))).mono ?_;rintro e w1 ⟨rfl,rfl⟩)
   obtain ⟨W1,hW1⟩:∃ W1,W1=wc.alloc (.cells #[.pointer (some ⟨m,0,none⟩)] 124):=⟨_,rfl⟩
   have hg1:Gr wc W1:=by rw [hW1];exact (Gr.refl wc).alloc _
   have hs1:W1.heap.size=wc.heap.size+1:=by rw [hW1,World.size_alloc]
   have k4:W1.cell? ⟨wc.heap.size,0,none⟩=some (.pointer (some ⟨m,0,none⟩)):=by
    rw [hW1];exact (Boxed.new wc 124 (.pointer (some ⟨m,0,none⟩))).cell
   rw [<-hW1]
   have hex:=HEX.out
   have hml:=hex.hm
   have hp1l:=hex.v1.hp
   have hb1l:=hex.v1.hb
   have hp2l:=hex.v2.hp
   have hb2l:=hex.v2.hb
   have HTC:Hid (TabAt wc):=⟨HI.out.t.tab htl HTS.out HT.out⟩
   have htl2:=HTC.out.lt
   have hrl:=hbx.lt
   have hgd:=hid hex.good
   clear hW1 hex
   have tI:∀ (j:Nat) A B,(Touch (fun i=>W1.heap.size<=i) W1 A/\j<=L.length/\∀ i (h:i<L.length),i<j->c.fr<=L[i].1/\L[i].1+L[i].2<=c.tp)->Touch (fun i=>W1.heap.size<=i/\i<W1.heap.size+2+4) A B->(Touch (fun i=>W1.heap.size<=i) W1 B/\j<=L.length/\∀ i (h:i<L.length),i<j->c.fr<=L[i].1/\L[i].1+L[i].2<=c.tp):=fun j A B h t=>⟨h.1.trans (t.mono (fun i _ h=>h.1)),h.2⟩
   refine range_lawU (K:=4) (s0:=0) rfl (by omega) (gf:=150) (lb:=#[.pointer (some ⟨wc.heap.size,0,none⟩)]) rfl trivial (enters_of Tryz.func150 (by kernel_rfl) rfl)
    (all_seqU _ wc.heap.size m p1 b1 p2 b2 v.n L _) (fun _=>rfl)
    (fun (j:Nat) A=>Touch (fun i=>W1.heap.size<=i) W1 A/\j<=L.length/\∀ i (h:i<L.length),i<j->c.fr<=L[i].1/\L[i].1+L[i].2<=c.tp)
    (fun cd A=>cd=.ret/\Touch (fun i=>(i=w.heap.size+1\/i=w.heap.size+2)\/W1.heap.size<=i) W1 A/\A.cell? ⟨w.heap.size+1,0,none⟩=some (.pointer none)/\A.cell? ⟨w.heap.size+2,0,none⟩=some (.int .i64 25)/\∃ o∈L,¬ (c.fr<=o.1/\o.1+o.2<=c.tp))
    tI
    (fun cd A B h t=>⟨h.1,h.2.1.trans (t.mono (fun i _ h=>.inr h.1)),(t.cell (lt_cell h.2.2.1) (by show ¬ (W1.heap.size<=w.heap.size+1/\_);omega) 0).trans h.2.2.1,(t.cell (lt_cell h.2.2.2.1) (by show ¬ (W1.heap.size<=w.heap.size+2/\_);omega) 0).trans h.2.2.2.1,h.2.2.2.2⟩)
    (fun j A h=>⟨(HEX.out.gr hg1).touch h.1 (by omega) (by omega) (by omega) (by omega) (by omega),(hg1.tab htl2 HTC.out).touch' h.1 (by omega),(h.1.cell (by omega) (by omega) 0).trans k4,h.2.1⟩)
    ⟨Touch.refl _ _,Nat.zero_le _,fun i _ h=>absurd h (Nat.not_lt_zero _)⟩ ?round ?done ?stop
   case round=>
    have HS1:=hid hs1
    clear hs1
    intro lp j x W3 hsz3 hI3 hgv
    dsimp only [encO]
    gi_wp2
    refine ⟨Gr.refl _,fun W4 ht4 hI4=>?_⟩
    have hjl:j<L.length:=by
     rcases Nat.lt_or_ge j L.length with h | h
     ·exact h
     ·unfold AllGives at hgv;rw [List.getElem?_eq_none h] at hgv;cases hgv
    obtain rfl:x=L[j]:=by unfold AllGives at hgv;rw [List.getElem?_eq_getElem hjl] at hgv;exact (Option.some.inj hgv).symm
    have hrb4:=(hbx.gr hg1).touch hI4.1 (by have:=HS1.out;omega)
    have c0:=hrb4.cell (j:=0) rfl
    have c1:=hrb4.cell (j:=1) rfl
    have cl:=hrb4.lt
    have hsb:=(hgd.out.sz _ (List.getElem_mem hjl)).2
    have HMEM:=hid (List.getElem_mem hjl)
    obtain ⟨sa,hsa⟩:∃ s,s=L[j].1:=⟨_,rfl⟩
    obtain ⟨sz,hsz⟩:∃ s,s=L[j].2:=⟨_,rfl⟩
    have HSA:=hid (And.intro hsa hsz)
    rw [<-hsa,<-hsz] at hsb ⊢
    have HI4:=hid hI4
    have ha6:=(HI.out.r6.gr hg1).touch hI4.1 (by have:=HS1.out;omega)
    have ha7:=(HI.out.r7.gr hg1).touch hI4.1 (by have:=HS1.out;omega)
    have HJL:=hid hjl
    by_cases hin:c.fr<=sa/\sa+sz<=c.tp
    ·have e0:decide ((sa:Int)<(c.fr:Int))=false:=decide_eq_false (by omega)
     have e1:decide ((c.tp:Int)<(sa:Int)+(sz:Int))=false:=decide_eq_false (by omega)
     have e2:decide (sa<c.fr)=false:=decide_eq_false (by omega)
     have HIN:=hid hin
     clear hI3 hI4 hgv ht4 hsa hsz hin ha6 ha7
     gi_wp2
     refine ⟨Touch.refl _ _,j+1,rfl,HI4.out.1,HJL.out,fun i h hij=>?_⟩
     rcases Nat.lt_or_ge i j with h' | h'
     ·exact HI4.out.2.2 i h h'
     ·obtain rfl:i=j:=by omega
      rw [<-HSA.out.1,<-HSA.out.2];exact HIN.out
    ·have HNI:Hid (∃ o∈L,¬ (c.fr<=o.1/\o.1+o.2<=c.tp)):=⟨L[j],HMEM.out,by rw [<-HSA.out.1,<-HSA.out.2];exact hin⟩
     have HA6:=hid ha6
     have HA7:=hid ha7
     have z6:=ha6.cell (j:=0) rfl
     have z7:=ha7.cell (j:=0) rfl
     have zf6:=ha6.free 0
     have zf7:=ha7.free 0
     have zl7:=ha7.lt
     have FIN:Hid (∀ W5,W5=(W4.setCell ⟨w.heap.size+1,0,none⟩ (.pointer none)).setCell ⟨w.heap.size+1+1,0,none⟩ (.int .i64 25)->Touch (fun k=>k<W1.heap.size\/W1.heap.size+(2+4)<=k) W4 W5/\(Touch (fun i=>(i=w.heap.size+1\/i=w.heap.size+2)\/W1.heap.size<=i) W1 W5/\W5.cell? ⟨w.heap.size+1,0,none⟩=some (.pointer none)/\W5.cell? ⟨w.heap.size+2,0,none⟩=some (.int .i64 25)/\∃ o∈L,¬ (c.fr<=o.1/\o.1+o.2<=c.tp))):=⟨fun W5 hW5=>by
      have tg:Touch (fun i=>i=w.heap.size+1\/i=w.heap.size+2) W4 W5:=by
       rw [hW5]
       exact ((Touch.refl _ W4).setCell (a:=⟨w.heap.size+1,0,none⟩) (fun _=>.inl rfl) _).setCell (a:=⟨w.heap.size+1+1,0,none⟩) (fun _=>.inr rfl) _
      have b6:Rec W5 (w.heap.size+1) 124 [.pointer none]:=by
       rw [hW5]
       exact (HA6.out.set 0 (.pointer none)).touch ((Touch.refl (fun i=>i=w.heap.size+1+1) _).setCell (a:=⟨w.heap.size+1+1,0,none⟩) (fun _=>rfl) _) (by omega)
      have b7:Rec W5 (w.heap.size+2) 39 [.int .i64 25]:=by
       rw [hW5]
       exact (HA7.out.touch ((Touch.refl (fun i=>i=w.heap.size+1) W4).setCell (a:=⟨w.heap.size+1,0,none⟩) (fun _=>rfl) (.pointer none)) (by omega)).set 0 (.int .i64 25)
      refine ⟨tg.mono (fun b _ h=>.inl (by have:=HS1.out;omega)),(HI4.out.1.mono (fun _ _ h=>.inr h)).trans (tg.mono (fun _ _ h=>.inl h)),b6.cell (j:=0) rfl,b7.cell (j:=0) rfl,HNI.out⟩⟩
     clear hI3 hI4 hgv ht4 ha6 ha7 hsa hsz
     by_cases hlo:sa<c.fr
     ·have e0:decide ((sa:Int)<(c.fr:Int))=true:=decide_eq_true (by omega)
      have e2:decide (sa<c.fr)=true:=decide_eq_true hlo
      clear hin hlo
      gi_wp2
      exact ⟨(FIN.out _ rfl).1,rfl,(FIN.out _ rfl).2⟩
     ·have e0:decide ((sa:Int)<(c.fr:Int))=false:=decide_eq_false (by omega)
      have e2:decide (sa<c.fr)=false:=decide_eq_false hlo
      have e1:decide ((c.tp:Int)<(sa:Int)+(sz:Int))=true:=decide_eq_true (by omega)
      clear hin hlo
      gi_wp2
      exact ⟨(FIN.out _ rfl).1,rfl,(FIN.out _ rfl).2⟩
   case done=>
    rintro D j W3 hD rfl hI3 hK
    have ra3:=(HI.out.r6.gr hg1).touch hI3.1 (by have:=HI.out.r6.lt;omega)
    have rz3:=(HI.out.r7.gr hg1).touch hI3.1 (by have:=HI.out.r7.lt;omega)
    have q0:=ra3.cell (j:=0) rfl
    have q1:=ra3.free 0
    have ql:=ra3.lt
    have p0:=rz3.cell (j:=0) rfl
    have p1':=rz3.free 0
    have pl:=rz3.lt
    have HK:=hid hK
    have HD:=hid hD
    have HI3:=hid hI3
    have HRA:=hid ra3
    have HRZ:=hid rz3
    have hs3:=hI3.1.size
    clear hK hD hI3 ra3 rz3
    gi_wp2
    have tg:Touch (fun i=>i=w.heap.size+1\/i=w.heap.size+2) W3 ((W3.setCell ⟨w.heap.size+1,0,none⟩ (.pointer (some ⟨m,0,none⟩))).setCell ⟨w.heap.size+1+1,0,none⟩ (.int .i64 0)):=
     ((Touch.refl _ W3).setCell (a:=⟨w.heap.size+1,0,none⟩) (fun _=>.inl rfl) _).setCell (a:=⟨w.heap.size+1+1,0,none⟩) (fun _=>.inr rfl) _
    have b6:Rec ((W3.setCell ⟨w.heap.size+1,0,none⟩ (.pointer (some ⟨m,0,none⟩))).setCell ⟨w.heap.size+1+1,0,none⟩ (.int .i64 0)) (w.heap.size+1) 124 [.pointer (some ⟨m,0,none⟩)]:=
     (HRA.out.set 0 (.pointer (some ⟨m,0,none⟩))).touch ((Touch.refl (fun i=>i=w.heap.size+1+1) _).setCell (a:=⟨w.heap.size+1+1,0,none⟩) (fun _=>rfl) _) (by omega)
    have b7:Rec ((W3.setCell ⟨w.heap.size+1,0,none⟩ (.pointer (some ⟨m,0,none⟩))).setCell ⟨w.heap.size+1+1,0,none⟩ (.int .i64 0)) (w.heap.size+2) 39 [.int .i64 0]:=
     (HRZ.out.touch ((Touch.refl (fun i=>i=w.heap.size+1) W3).setCell (a:=⟨w.heap.size+1,0,none⟩) (fun _=>rfl) (.pointer (some ⟨m,0,none⟩))) (by omega)).set 0 (.int .i64 0)
    have hD:=HD.out
    have hK':=(tg.block D (Array.getElem?_eq_some_iff.1 HK.out).1 (by omega)).trans HK.out
    generalize ((W3.setCell ⟨w.heap.size+1,0,none⟩ (.pointer (some ⟨m,0,none⟩))).setCell ⟨w.heap.size+1+1,0,none⟩ (.int .i64 0))=W5 at *
    have k6:=b6.cell (j:=0) rfl
    have k7:=b7.cell (j:=0) rfl
    rw [show w.heap.size+2=w.heap.size+1+1 from rfl] at k7
    refine ⟨by simp,.inl ⟨_,_,rfl,run_takeDeferred hK',?_⟩⟩
    have h1':=cell_kept k6 (grownBy_putObj' _ D (.deferred none)) (fun r e=>by cases e;exact ⟨_,hK',rfl⟩)
    have h2':=cell_kept k7 (grownBy_putObj' _ D (.deferred none)) (fun r e=>by cases e;exact ⟨_,hK',rfl⟩)
    have tD:Touch (fun i=>W1.heap.size<=i) W5 (W5.putObj D (.deferred none)):=touch_putObj _ D _ (by omega)
    refine ⟨.tuple #[.pointer (some ⟨m,0,none⟩),.int .i64 0],?_,?_,?_,.inl ⟨L,m,p1,b1,p2,b2,⟨HMK.out,fun o ho=>?_⟩,rfl,?_,?_⟩⟩
    ·simp [results,Tryz.f104,go_sem,h1',h2']
    ·exact (((HI.out.t.trans (hg1.touch _)).trans' HI3.out.1 (fun i hi h=>by omega)).trans' tg (fun i hi h=>by omega)).trans' tD (fun i hi h=>by omega)
    ·exact (((HI.out.vm.gr hg1).touch HI3.out.1 (fun i hi _ h=>by have:=hi.2;omega)).touch tg (fun i hi _ h=>by have:=hi.2;omega)).touch tD (fun i hi _ h=>by have:=hi.2;omega)
    ·obtain ⟨i,hi,rfl⟩:=List.getElem_of_mem ho
     have:=HI3.out.2.2 i hi hi
     omega
    ·have hl:=HI.out
     have l0:=hl.lm
     have l1:=hl.l1
     have l2:=hl.l2
     have l3:=hl.l3
     have l4:=hl.l4
     exact ((((HEX.out.gr hg1).touch HI3.out.1 (by omega) (by omega) (by omega) (by omega) (by omega))).touch tg (by omega) (by omega) (by omega) (by omega) (by omega)).touch tD (by omega) (by omega) (by omega) (by omega) (by omega)
    ·have hl:=HI.out
     have l0:=hl.lm
     have l1:=hl.l1
     have l2:=hl.l2
     have l3:=hl.l3
     have l4:=hl.l4
     omega
   case stop=>
    rintro D cd W3 hD ⟨rfl,ht3,h1,h2,hno⟩ hK
    have HNO:=hid hno
    have HK:=hid hK
    have HT3:=hid ht3
    have hz3:=ht3.size
    clear hno hK ht3
    gi_wp2
    refine ⟨by simp,.inl ⟨_,_,rfl,run_takeDeferred HK.out,?_⟩⟩
    have h1':=cell_kept h1 (grownBy_putObj' _ D (.deferred none)) (fun r e=>by cases e;exact ⟨_,HK.out,rfl⟩)
    have h2':=cell_kept h2 (grownBy_putObj' _ D (.deferred none)) (fun r e=>by cases e;exact ⟨_,HK.out,rfl⟩)
    rw [show w.heap.size+2=w.heap.size+1+1 from rfl] at h2'
    have tD:Touch (fun i=>W1.heap.size<=i) W3 (W3.putObj D (.deferred none)):=touch_putObj _ D _ (by omega)
    refine ⟨.tuple #[.pointer none,.int .i64 25],?_,?_,?_,.inr ⟨fun L' h=>?_,rfl⟩⟩
    ·simp [results,Tryz.f104,go_sem,h1',h2']
    ·exact (((HI.out.t.trans (hg1.touch _)).trans' HT3.out (fun i hi h=>by omega))).trans' tD (fun i hi h=>by omega)
    ·exact ((HI.out.vm.gr hg1).touch HT3.out (fun i hi _ h=>by have:=hi.2;omega)).touch tD (fun i hi _ h=>by have:=hi.2;omega)
    ·have e:=h.1.unique HMK.out
     subst e
     obtain ⟨o,ho,hno⟩:=HNO.out
     have:=h.2 o ho
     exact hno (by omega)
  ·have q0:=hr6.cell (j:=0) rfl
   have q1:=hr6.free 0
   have ql:=hr6.lt
   have p0:=hr7.cell (j:=0) rfl
   have p1':=hr7.free 0
   have pl:=hr7.lt
   have HNS:=hid hns
   have HR6:=hid hr6
   have HR7:=hid hr7
   clear hr6 hr7 hns hbx
   gi_wp2
   have tg:Touch (fun i=>i=w.heap.size+1\/i=w.heap.size+2) wc ((wc.setCell ⟨w.heap.size+1,0,none⟩ (.pointer none)).setCell ⟨w.heap.size+1+1,0,none⟩ (.int .i64 25)):=
    ((Touch.refl _ wc).setCell (a:=⟨w.heap.size+1,0,none⟩) (fun _=>.inl rfl) _).setCell (a:=⟨w.heap.size+1+1,0,none⟩) (fun _=>.inr rfl) _
   have b6:Rec ((wc.setCell ⟨w.heap.size+1,0,none⟩ (.pointer none)).setCell ⟨w.heap.size+1+1,0,none⟩ (.int .i64 25)) (w.heap.size+1) 124 [.pointer none]:=
    (HR6.out.set 0 (.pointer none)).touch ((Touch.refl (fun i=>i=w.heap.size+1+1) _).setCell (a:=⟨w.heap.size+1+1,0,none⟩) (fun _=>rfl) _) (by omega)
   have b7:Rec ((wc.setCell ⟨w.heap.size+1,0,none⟩ (.pointer none)).setCell ⟨w.heap.size+1+1,0,none⟩ (.int .i64 25)) (w.heap.size+2) 39 [.int .i64 25]:=
    (HR7.out.touch ((Touch.refl (fun i=>i=w.heap.size+1) wc).setCell (a:=⟨w.heap.size+1,0,none⟩) (fun _=>rfl) (.pointer none)) (by omega)).set 0 (.int .i64 25)
   generalize ((wc.setCell ⟨w.heap.size+1,0,none⟩ (.pointer none)).setCell ⟨w.heap.size+1+1,0,none⟩ (.int .i64 25))=W5 at *
   have k6:=b6.cell (j:=0) rfl
   have k7:=b7.cell (j:=0) rfl
   rw [show w.heap.size+2=w.heap.size+1+1 from rfl] at k7
   refine ⟨.tuple #[.pointer none,.int .i64 25],?_,?_,?_,.inr ⟨fun L' h=>HNS.out h.1.sound,rfl⟩⟩
   ·simp [results,Tryz.f104,go_sem,k6,k7]
   ·exact HI.out.t.trans' tg (fun i hi h=>by omega)
   ·exact HI.out.vm.touch tg (fun i hi _ h=>by have:=hi.2;omega)
end
end Go.Proofs.YtbmidhlilafgeaaGreatDoor
end
